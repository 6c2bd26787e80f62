/- Own work: contracts. -/
import Derived.Test.YteolcdbjdgimhaaGreatConI
import Derived.Test.YteolcdbjdgimhaaGreatConF
import Derived.Test.YteolcdbjdgimhaaGreatConG
import Derived.Test.YteolcdbjdgimhaaGreatConD
import Derived.Test.YteolcdbjdgimhaaGreatConH
import Derived.WalkKit
import Derived.OwnWalk
import Derived.Lib.Walk
import Derived.Lib.SliceRun
import Derived.Lib.AppendZerosOnto
import Derived.Test.YteolcdbjdgimhaaGreatConC
set_option linter.all false
set_option maxHeartbeats 8000000
set_option maxRecDepth 100000
namespace Go.Proofs
open Go.Hx Tryz
def Rd (b:Option Blk):Nat:=match b with
 |some (.arr _ _ [.lit (.int _ n)])=>n.toNat
 |_=>0
theorem Re (t:List Int)(ht:(t.length:Int)<2 ^ 40)(h0:0<t.length)(H:AHeap)(K:ARes->AHeap->Prop)(hK:∀v H',Over H H'->ay H.next H' 3 v (ints t)->K (.ret v) H'):ag prog G0 36 [af t] H K:=by
 refine ag.st (n:=8) (rs:=[.tmp 2]) func36 ?_;simp only[go_sem];intro b hlen;cases b with
 |true=>exact absurd (hlen (by simpa using h0)) (by decide)
 |false =>
  have hn:¬t.length=0:=by omega
  simp only[go_sem,hn,bd];refine⟨⟨by simp,by omega,by omega,gQ _⟩,ar.mk (by simp[aS]) ?_⟩;refine hK _ _ (Over.ext _ _) (.inr ⟨H.next,_,Nat.le_refl _,by simp[aS],by rw[aH],?_⟩);rw[cq];simp
theorem DO {l:List Int}{H:AHeap}{id g nx:Nat}{e:TypeId}(hg:H.get id=some (.arr g e (ints l))):Fz (fun _=>True) H nx (.own id g 0 l.length 1) (af l):=by
 unfold af;refine .frz trivial hg (by rw[aH];omega) fun j hj h2 h'=>?_;simp only[Nat.zero_add,ints,SV];exact .lit _
theorem Rg {l:List Int}(hl:(l.length:Int)<2 ^ 40){H2:AHeap}{id g:Nat}{e:TypeId}(hg:H2.get id=some (.arr g e (ints l))):
  ag prog G0 36 [.own id g 0 l.length 1] H2 fun r H'=>r=.ret (af l)/\H'=H2:=by
 refine ag.frame aE (args':=[af l]) rfl (fun i hi _=>match i,hi with
  |0,_=>DO hg) ?_
 by_cases h0:l.length=0
 ·obtain rfl:=SP h0;exact qF [] hl cz _ ⟨_,rfl,.vec0⟩
 ·exact Re l hl (by omega) cz _ fun v H' _ ho=>⟨_,rfl,ho.kj⟩
def px (H:AHeap)(pv:AVal)(p:List (List Int)):Prop:=pv=aj p\/∃(L g:Nat) (e:TypeId) (rows:List AVal),pv=.own L g 0 p.length 1/\L<H.next/\H.get L=some (.arr g e rows)/\rows.length=p.length /\
 ∀(k:Nat) (l:List Int),p[k]?=some l->∃(id g':Nat) (e':TypeId),rows[k]?=some (.own id g' 0 l.length 1)/\id<H.next/\H.get id=some (.arr g' e' (ints l))
theorem px.len {H H':AHeap}{pv:AVal}{p:List (List Int)}(h:px H pv p)(ov:Over H H'):dY H' pv=some (aa p.length):=by
 rcases h with rfl|⟨L,g,e,rows,rfl,h1,h2,h3,_⟩
 ·rfl
 ·unfold dY;simp[ah ((ov.old L h1).trans h2),aa]
theorem px.fz {H H':AHeap}{pv:AVal}{p:List (List Int)}{nx:Nat}(h:px H pv p)(ov:Over H H'):Fz (fun _=>True) H' nx pv (aj p):=by
 rcases h with rfl|⟨L,g,e,rows,rfl,h1,h2,h3,h4⟩
 ·exact qq p
 ·unfold aj;refine .frz trivial ((ov.old L h1).trans h2) (by rw[SM];omega) fun j hj hj2 hj3=>?_;simp only[Nat.zero_add]at hj2 ⊢;rw[SM]at hj3;obtain⟨id,g',e',q1,q2,q3⟩:=h4 j _ (SJ hj3);rw[SJ hj2]at q1;rw[Option.some.inj q1,SV];exact DO ((ov.old id q2).trans q3)
theorem Rh (d:InfP)(hf:InfFit d)(p:List (List Int))(hp:ji p){H0 H:AHeap}{pv:AVal}(hv:px H0 pv p)(ov:Over H0 H)(K:ARes->AHeap->Prop)(hK:K (.ret (aa (cK d p))) H):ag prog G0 38 [cW d,pv] H K:=by
 refine(ag.frame (H:=H) (args:=[cW d,pv]) (args':=[cW d,aj p]) (v':=aa (cK d p)) aE rfl (fun i hi _=>match i,hi with
  |0,_=>qM d
  |1,_=>hv.fz ov) (sS d hf p hp cz _ ⟨_,rfl,.lit _⟩)).mono fun r H' hr=>?_
 rw[hr.1,hr.2];exact hK
theorem DP (d:InfP)(hok:InfOk d)(h6:d.nodes.length<=6)(p:List (List Int))(hp:PolOk d p)(H:AHeap)(pv:AVal)(hpv:px H pv p)(K:ARes->AHeap->Prop)
  (hK:∀q n,Imp d p q n->isLocal d q->K (.ret (.tup [aj q,dV (bW d q) (d.grain ^ d.nodes.length),aa n,aa 0])) H):
  ag prog G0 11 [cW d,pv] H K:=by
 refine ag.clo ⟨_,func11,rfl,rfl⟩ fun hcl=>?_;have hf:=sH hok;have hpf:=lT hok hp;have n8:=hok.n.n1;have hpl:p.length<=8:=by rw[hp.len];have:=fY (D:=d.decs) (n:=d.nodes.length);unfold az;omega
 refine ag.st (n:=76) (rs:=[.cell 4 33,.cell 5 50,.cell 6 3,.cell 7 46]) func11 ?_;simp only[go_sem,gI,bK];refine aw.clo (Rh d hf p hpf hpv (.ext _ _) _ ⟨trivial,?_⟩);rw[nW hok hp];have hlen:=fun L=>hpv.len (Over.ext H L);simp only[go_sem,hlen];obtain⟨R,hR⟩:∃R,R=ext H [.arr 0 38 [.lit (.int .i64 d.grain),.vec d.nodes.length (aF d.nodes),.lit (.int .u64 (d.decs:Int)),.vec d.utils.length (aO d.utils)],.arr 0 33 [.lit (.slice none 0 0)],.arr 0 50 [.lit (.int .i64 0),.lit (.int .i64 0)],.arr 0 3 [.lit (.int .i64 0)],.arr 0 46 [.lit (.int .i64 0)]]:=⟨_,rfl⟩
 have nR:R.next=H.next+5:=hR▸rfl
 have oR:Over H R:=hR▸.ext _ _
 have g0:R.get H.next=some (eh d):=by rw[hR];exact bD H _ 0 (by simp)
 have g1:=gE hR 1 rfl
 have g2:=gE hR 2 rfl
 have g3:=gE hR 3 rfl
 have g4:=gE hR 4 rfl
 rw[<- hR];refine W.en (fun E=>E 2=.ptr H.next 0 0 /\ E 4=.ptr (H.next+1) 0 0 /\ E 5=.ptr (H.next+2) 0 0 /\ E 6=.ptr (H.next+3) 0 0 /\ E 7=.ptr (H.next+4) 0 0 /\ E 24=pv /\ E 25=aa p.length /\ E 26=aa 0) (by simp only[go_sem]) fun E ⟨e2,e4,e5,e6,e7,e24,e25,e26⟩=>?_
 let S:AHeap->Prop:=fun Hx=>R.next<=Hx.next/\∀id,id<R.next->id≠H.next+1->id≠H.next+3->Hx.get id=R.get id
 refine W.aG 68652368896 (by rfl) (fun ρ Hx=>∃k:Nat,ρ 26=aa k/\k<=p.length/\S Hx/\Hx.get (H.next+3)=some (.arr 0 3 [.lit (.int .i64 0)])/\∃qv,Hx.get (H.next+1)=some (.arr 0 33 [qv])/\ay R.next Hx 42 qv ((p.take k).map af)) (fun ρ H=>p.length-(iv (ρ 26)).toNat) ?_ ?_
 ·simp only[go_sem,e26];exact⟨0,rfl,by omega,⟨Nat.le_refl _,fun _ _ _ _=>rfl⟩,g3,_,g1,.nil⟩
 rintro ρ Hx ⟨k,h26,hk,hS,hx3,qv,hx1,hq⟩;refine W.en (fun E2=>E2 2=.ptr H.next 0 0 /\ E2 4=.ptr (H.next+1) 0 0 /\ E2 5=.ptr (H.next+2) 0 0 /\ E2 6=.ptr (H.next+3) 0 0 /\ E2 7=.ptr (H.next+4) 0 0 /\ E2 24=pv /\ E2 25=aa p.length /\ E2 26=aa k) (by simp only[go_sem,e2,e4,e5,e6,e7,e24,e25,h26]) fun E2 ⟨p2,p4,p5,p6,p7,p24,p25,p26⟩=>?_
 have hSn:=hS.1;refine W.vs ?_;by_cases hb:(k:Int)<p.length
 ·obtain⟨l,hl⟩:=get_of_lt (l:=p) (i:=k) (by omega);have hlg:(p.map af)[k]?=some (af l):=by rw[List.getElem?_map,hl];rfl
  have hne:=aJ hl;have hll:=(hpf.2 l (SE hl))
  have w1:=SF ((k:Int)+1) (by omega);obtain⟨qv',H2,hA,hO,hn2,hp2⟩:=fW (P:=prog) (H:=Hx) (t:=33) (x:=af l) (n:=Hx.next+1) Tryz.underlying33 Tryz.jv Tryz.jH rfl (by rw[Tryz.jG,SM,SN];omega) hq hSn rfl;have hqlo:∀i,i<R.next->∀g n,qv≠.own i g 0 n 1:=fun i hi g n he=>by
   rcases hq with ⟨h,_⟩|⟨j,g2,a1,_,h,_⟩
   ·rw[h]at he;cases he
   ·rw[h]at he;have:=(AVal.own.inj he).1;omega
  have l1:=ah hx1;have l1j:H2.live (H.next+1) 0=_:=ah ((hp2 _ (by omega) (hqlo _ (by omega))).trans hx1);have hA':=hA;unfold af at hA';have tc:=hO.cells;have to:=hO.one;have qc:=hq.cells;rcases hpv with hpv|⟨L,gL,eL,rows,hpv,L1,L2,L3,L4⟩
  ·rw[hpv]at p24;unfold aj at p24;simp only[go_sem,p24,p25,p26,hb,hlg,hne];refine W.dr 4 [0,0,2,6] mixed ?_;simp only[go_sem,p4,l1];refine⟨af l,[],bf.pure fun H2=>qF l (by omega) H2 _ ⟨rfl,rfl⟩,?_⟩;simp only[go_sem,p4,p26,hA',l1j,tc,to,w1];refine⟨fun x h=>by omega,by rw[au];omega,⟨k+1,by simp,by omega,⟨by rw[au];omega,fun id h1 h2 h3=>by rw[ae,SI h2,hp2 id (by omega) (hqlo id h1)];exact hS.2 id h1 h2 h3⟩,by rw[ae,SI (by omega),hp2 _ (by omega) (hqlo _ (by omega))];exact hx3,qv',by rw[ae,SK rfl],?_⟩,by rw[h26];simp only[aa,aM];omega⟩;rw[aL hl,Tq];exact hO.keep (Nat.le_refl _) (by rw[au];exact Nat.le_refl _) fun id g h1 _ _ _=>by rw[ae,SI (by omega)]
  ·rw[hpv]at p24;have ovx:∀id,id<H.next->Hx.get id=H.get id:=fun id h=>(hS.2 id (by omega) (by omega) (by omega)).trans (oR.old id h);obtain⟨id,g',e',y1,y2,y3⟩:=L4 k l hl;have lL:=ah ((ovx L L1).trans L2);have gid:=(ovx id y2).trans y3;have hrow:=y1;have hrne:=aJ y1;have hrows:(k:Int)<rows.length:=(by omega);simp only[go_sem,p24,p25,p26,hb,lL,hrow];refine W.dr 4 [0,0,2,6] mixed ?_;simp only[go_sem,p4,l1];refine⟨af l,[id],bf.mk (fun i hi=>by obtain rfl:=List.mem_singleton.1 hi;omega) fun H2 h2 _=>Rg (by omega) ((h2 _ (by simp)).trans gid),?_⟩;simp only[go_sem,p4,p26,hA',l1j,tc,to,w1];refine⟨fun x h=>by omega,by rw[au];omega,⟨k+1,by simp,by omega,⟨by rw[au];omega,fun id h1 h2 h3=>by rw[ae,SI h2,hp2 id (by omega) (hqlo id h1)];exact hS.2 id h1 h2 h3⟩,by rw[ae,SI (by omega),hp2 _ (by omega) (hqlo _ (by omega))];exact hx3,qv',by rw[ae,SK rfl],?_⟩,by rw[h26];simp only[aa,aM];omega⟩;rw[aL hl,Tq];exact hO.keep (Nat.le_refl _) (by rw[au];exact Nat.le_refl _) fun id g h1 _ _ _=>by rw[ae,SI (by omega)]
 ·simp only[go_sem,p25,p26,hb];rw[SH (by omega)]at hq;refine W.en (fun E3=>E3 2=.ptr H.next 0 0 /\ E3 4=.ptr (H.next+1) 0 0 /\ E3 5=.ptr (H.next+2) 0 0 /\ E3 6=.ptr (H.next+3) 0 0 /\ E3 7=.ptr (H.next+4) 0 0) (by simp only[go_sem,p2,p4,p5,p6,p7]) fun E3 ⟨r2,r4,r5,r6,r7⟩=>?_
  refine W.aG 8646911490709784576 (by rfl) (fun ρ Hy=>∃(n:Nat) (q:List (List Int)) (qv:AVal),Hx.next<=Hy.next/\S Hy/\Hy.get (H.next+3)=some (.arr 0 3 [.lit (.int .i64 (n:Int))])/\Hy.get (H.next+1)=some (.arr 0 33 [qv])/\ay R.next Hy 42 qv (q.map af)/\Imp d p q n) (fun ρ Hy=>50000000000000000-Rd (Hy.get (H.next+3))) ?_ ?_
  ·exact⟨0,p,qv,Nat.le_refl _,hS,hx3,hx1,hq,.start hp⟩
  rintro ρ Hy ⟨n,q,qv,hxy,hS,hy3,hy1,hq,hI⟩;have hSn:=hS.1;refine W.en (fun E4=>E4 2=.ptr H.next 0 0 /\ E4 4=.ptr (H.next+1) 0 0 /\ E4 5=.ptr (H.next+2) 0 0 /\ E4 6=.ptr (H.next+3) 0 0 /\ E4 7=.ptr (H.next+4) 0 0) (by simp only[go_sem,r2,r4,r5,r6,r7]) fun E4 ⟨s2,s4,s5,s6,s7⟩=>?_
  have l0:=ah ((hS.2 H.next (by omega) (by omega) (by omega)).trans g0);unfold bK at l0;have l0e:∀L,(ext Hy L).live H.next 0=_:=fun L=>(dh (by omega)).trans l0;refine W.vs ?_;simp only[go_sem,s2,l0e];refine aw.clo (tn d _ _ ⟨trivial,?_⟩);simp only[go_sem];obtain⟨R',hR'⟩:∃R',R'=ext (ext Hy [.arr 0 4 [.lit (.bool false)]]) [eh d]:=⟨_,rfl⟩
  have nR':R'.next=Hy.next+2:=by rw[hR'];rfl
  have oR':Over Hy R':=by rw[hR'];exact(Over.ext _ _).trans (.ext _ _)
  have gr:R'.get Hy.next=some (.arr 0 4 [.lit (.bool false)]):=by rw[hR',dp];exact bD Hy _ 0 (by simp)
  have gx:R'.get (Hy.next+1)=some (eh d):=by rw[hR',dp];exact bD Hy _ 1 (by simp)
  rw[<- hR'];have hqlt:∀i g m,qv=.own i g 0 m 1->R.next<=i/\i<Hy.next:=fun i g m he=>by
   rcases hq with ⟨h,_⟩|⟨j,g2,a1,a2,h,_⟩
   ·rw[h]at he;cases he
   ·rw[h]at he;have:=(AVal.own.inj he).1;omega
  have hqR:∀i,i<R.next->∀g m,qv≠.own i g 0 m 1:=fun i hi g m he=>by have:=hqlt i g m he;omega
  have hqN:∀i,Hy.next<=i->∀g m,qv≠.own i g 0 m 1:=fun i hi g m he=>by have:=hqlt i g m he;omega
  refine W.env fun E5 hE5=>?_;have u2:E5 2=.ptr H.next 0 0:=by rw[hE5];simp only[go_sem,s2]
  have u4:E5 4=.ptr (H.next+1) 0 0:=by rw[hE5];simp only[go_sem,s4]
  have u5:E5 5=.ptr (H.next+2) 0 0:=by rw[hE5];simp only[go_sem,s5]
  have u6:E5 6=.ptr (H.next+3) 0 0:=by rw[hE5];simp only[go_sem,s6]
  have u7:E5 7=.ptr (H.next+4) 0 0:=by rw[hE5];simp only[go_sem,s7]
  have u11:E5 11=.ptr Hy.next 0 0:=by rw[hE5];simp only[go_sem]
  have u37:E5 37=.clo 80 [] [.ptr (Hy.next+1) 0 0]:=by rw[hE5];rfl
  clear hE5;refine W.mc (f:=80) (first:=[]) (cap:=[.ptr (Hy.next+1) 0 0]) (by show E5 37=_;exact u37) (tj d (by omega) hf.decs (Hy.next+1))
   (fun k Hz=>R'.next<=Hz.next/\(∀id,id<R'.next->id≠Hy.next->(∀g m,qv≠.own id g 0 m 1)->Hz.get id=R'.get id)/\∃b r,Hz.get Hy.next=some (.arr 0 4 [.lit (.bool b)])/\ay R.next Hz 42 qv (r.map af)/\Rnd d q k b r)
   (fun c Hz=>False)
   (fun k Hz h=>by rw[h.2.1 _ (by omega) (by omega) (hqN _ (by omega))];exact gx)
   (fun k Hz b h=>⟨h.1,fun id h1 h2 h3=>by rw[ae,SI (by omega)];exact h.2.1 id h1 h2 h3,by
    obtain⟨b',r,a1,a2,a3⟩:=h.2.2;exact⟨b',r,by rw[ae,SI (by omega)];exact a1,a2.keep (Nat.le_refl _) (by rw[au];exact Nat.le_refl _) fun id g _ _ _ he=>by have:=hqlt _ _ _ he;rw[ae,SI (by omega)],a3⟩⟩)
   (fun c Hz b h=>h)
   (fun b=>⟨by rw[aS];omega,fun id h1 h2 h3=>bb h1,false,q,by rw[bb (by omega)];exact gr,(hq.over oR').over (.ext _ _),.start hI.ok⟩)
   (by decide) mK (fun _ _ _=>trivial) (fun _ _ _=>trivial) (fun k y Hz B Bb hy hj hn hB hBb=>?_) (fun Hz hj hn=>?_) (fun Hz hs hn=>hs.elim) (fun i Hz hs hn=>hs.elim)
  ·obtain⟨v,hv,rfl⟩:=lW hy;have hvm:v∈az d:=SE hv;obtain⟨v1,v2,v3⟩:=eE hv;obtain⟨hzn,hzo,b,r,hzr,hzq,hRn⟩:=hj;refine W.vs ?_;simp only[go_sem,fV,bA,ir,Ts,TS,Tx,Tz,hB];obtain⟨H3,hH3⟩:∃H3,H3=Hz.upd R'.next Bb:=⟨_,rfl⟩
   rw[<- hH3];obtain⟨st,pd,n',en,ps',as',bo,hBe⟩:=hBb;have n3:H3.next=Hz.next:=(by rw[hH3];rfl);have o3:∀id,id≠R'.next->H3.get id=Hz.get id:=fun id h=>by rw[hH3,ae,SI h]
   have jB:H3.get R'.next=some Bb:=(by rw[hH3,ae,SK rfl]);have kold:∀id,id<R.next->id≠H.next+3->H3.get id=Hy.get id:=fun id h h2=>by rw[o3 _ (by omega),hzo _ (by omega) (by omega) (hqR _ h),oR'.old _ (by omega)]
   have j0:=ah ((kold H.next (by omega) (by omega)).trans ((hS.2 H.next (by omega) (by omega) (by omega)).trans g0));have j1:=ah ((kold (H.next+1) (by omega) (by omega)).trans hy1);have jr:=ah ((o3 _ (by omega)).trans hzr);unfold bK at j0;have hq3:ay R.next H3 42 qv (r.map af):=hzq.keep (Nat.le_refl _) (by omega) fun id g _ _ _ he=>by have:=hqlt _ _ _ he;exact o3 id (by omega)
   have hpr:=nU hRn.ok hvm;obtain⟨id,g,hqv,i1,i2,i3,i4⟩:=hq3.DK (k:=k) (by rw[SM,<- v3];exact hpr);have hidy:=hqlt _ _ _ hqv;rw[SM]at hqv;refine W.env fun E6 hE6=>?_;have m2:E6 2=.ptr H.next 0 0:=(by rw[hE6];simp only[go_sem,bA,u2]);have m4:E6 4=.ptr (H.next+1) 0 0:=(by rw[hE6];simp only[go_sem,bA,u4]);have m11:E6 11=.ptr Hy.next 0 0:=(by rw[hE6];simp only[go_sem,bA,u11]);have m12:E6 12=aa k:=(by rw[hE6];simp only[go_sem,bA]);have m13:E6 13=aa v:=(by rw[hE6];simp only[go_sem,bA]);clear hE6;refine W.vs ?_;simp only[go_sem,m2,m4,m12,m13,j0,j1];have hbf:=Ru d hok hf h6 r hRn.ok (lT hok hRn.ok) v hvm H3 R.next qv hq3;rw[v3]at hbf;refine aw.clo (hbf _ ⟨⟨st,pd,n',en,ps',as',bo,by rw[jB,hBe]⟩,?_⟩);by_cases hbest:dZ d r v
   ·rw[Tm hbest];simp only[go_sem,ep];exact⟨jB,by omega,by omega,fun id h1 h2 h3=>(o3 _ (by omega)).trans (hzo id h1 h2 h3),b,r,(o3 _ (by omega)).trans hzr,hq3,hRn.yU hv hbest⟩
   ·rw[TD hbest];have jid:=ah i3;have hkr:(k:Int)<r.length:=(by omega);rw[hqv]at j1;have hset:setAt (r.map af) k [.vec (cU d (fixC r) v).length (ints (cU d (fixC r) v))]=(r.set k (cU d (fixC r) v)).map af:=by
     rw[eM (by rw[SM];omega),Um];rfl
    have jru:∀b,(H3.upd id b).live Hy.next 0=_:=fun b=>(bQ (by omega)).trans jr;simp only[go_sem,m4,m11,m12,j1,jid,hkr];have jb:=i4 (af (cU d (fixC r) v));have hset2:(r.map af).set k (af (cU d (fixC r) v))=(r.set k (cU d (fixC r) v)).map af:=(by rw[Um]);rw[hset2]at jb;refine⟨by rw[SM];omega,?_⟩;simp only[go_sem,hset,jru,ep];refine⟨by rw[ae,SI (by omega),ae,SI (by omega)];exact jB,by simp only[au];omega,by simp only[au];omega,fun id' h1 h2 h3=>by rw[ae,SI h2,ae,SI (fun e=>h3 g r.length (by rw[hqv,e])),o3 _ (by omega)];exact hzo id' h1 h2 h3,true,_,by rw[ae,SK rfl],jb.keep (Nat.le_refl _) (by simp only[au];exact Nat.le_refl _) fun id' g' _ _ _ he=>by have:=hqlt _ _ _ he;rw[ae,SI (by omega)],?_⟩;have:=hRn.step hok hv hbest;rw[v3]at this;exact this
  ·rw[kY]at hj;obtain⟨hzn,hzo,b,r,hzr,hzq,hRn⟩:=hj;have lr:=ah hzr;cases b with
   |true =>
    simp only[go_sem,u11,lr];have z3:=ah ((hzo (H.next+3) (by omega) (by omega) (hqR _ (by omega))).trans ((oR'.old _ (by omega)).trans hy3));have hnb:=(hI.round hRn).bound hok h6;have w1:=SF ((n:Int)+1) (by omega);simp only[go_sem,u6,z3,w1];refine⟨by rw[au];omega,⟨n+1,r,qv,by rw[au];omega,⟨by rw[au];omega,fun id h1 h2 h3=>by rw[ae,SI h3,hzo id (by omega) (by omega) (hqR _ h1),oR'.old _ (by omega)];exact hS.2 id h1 h2 h3⟩,by rw[ae,SK rfl];rfl,by rw[ae,SI (by omega),hzo _ (by omega) (by omega) (hqR _ (by omega)),oR'.old _ (by omega)];exact hy1,hzq.keep (Nat.le_refl _) (by rw[au];exact Nat.le_refl _) fun id g _ _ _ he=>by have:=hqlt _ _ _ he;rw[ae,SI (by omega)],hI.round hRn⟩,?_⟩;rw[ae,SK rfl,hy3];show 50000000000000000-((n:Int)+1).toNat<50000000000000000-((n:Int)).toNat;omega
   |false =>
    simp only[go_sem,u11,lr];obtain⟨rfl,hloc⟩:=hRn.done;have zold:∀id,id<R.next->Hz.get id=Hy.get id:=fun id h=>by rw[hzo id (by omega) (by omega) (hqR _ h),oR'.old _ (by omega)]
    have z0:=ah ((zold H.next (by omega)).trans ((hS.2 H.next (by omega) (by omega) (by omega)).trans g0));have z1:=ah ((zold (H.next+1) (by omega)).trans hy1);have z2:=ah ((zold (H.next+2) (by omega)).trans ((hS.2 _ (by omega) (by omega) (by omega)).trans g2));have z3:=ah ((zold (H.next+3) (by omega)).trans hy3);have z4:=ah ((zold (H.next+4) (by omega)).trans ((hS.2 _ (by omega) (by omega) (by omega)).trans g4));unfold bK at z0;simp only[go_sem,u2,u4,z0,z1];refine aw.clo (Rc d hok h6 r hRn.ok Hz R.next qv hzq _ ⟨trivial,?_⟩);obtain⟨qa,qb,hqa⟩:∃qa qb,dV (bW d r) (d.grain ^ d.nodes.length)=.agg [.lit (.int .i64 qa),.lit (.int .i64 qb)]:=⟨_,_,rfl⟩
    rw[hqa];have hKK:=hK r n hI hloc;rw[hqa]at hKK;have z4u:∀b,(Hz.upd (H.next+2) b).live (H.next+4) 0=_:=fun b=>(bQ (by omega)).trans z4;simp only[go_sem,u5,u7,z2,z4u];obtain⟨Z,hZ⟩:∃Z,Z=(Hz.upd (H.next+2) (.arr 0 50 [.lit (.int .i64 qa),.lit (.int .i64 qb)])).upd (H.next+4) (.arr 0 46 [.lit (.int .i64 0)]):=⟨_,rfl⟩
    have nZ:Z.next=Hz.next:=(by rw[hZ];rfl);have y1:=ah (show Z.get (H.next+1)=some (.arr 0 33 [qv]) by rw[hZ,ae,SI (by omega),ae,SI (by omega),zold _ (by omega)];exact hy1);have y2:=ah (show Z.get (H.next+2)=some (.arr 0 50 [.lit (.int .i64 qa),.lit (.int .i64 qb)]) by rw[hZ,ae,SI (by omega),ae,SK rfl]);have y3:=ah (show Z.get (H.next+3)=some (.arr 0 3 [.lit (.int .i64 n)]) by rw[hZ,ae,SI (by omega),ae,SI (by omega),zold _ (by omega)];exact hy3);have y4:=ah (show Z.get (H.next+4)=some (.arr 0 46 [.lit (.int .i64 0)]) by rw[hZ,ae,SK rfl]);have qZ:ay R.next Z 42 qv (r.map af):=hzq.keep (Nat.le_refl _) (by omega) fun id g _ _ _ he=>by have:=hqlt _ _ _ he;rw[hZ,ae,SI (by omega),ae,SI (by omega)]
    have oZ:Over H Z:=⟨by omega,fun id h=>by rw[hZ,ae,SI (by omega),ae,SI (by omega),zold _ (by omega),hS.2 _ (by omega) (by omega) (by omega),oR.old _ h]⟩
    rw[<- hZ];have qc:=qZ.cells;have qo:=qZ.one;refine W.env fun E7 hE7=>?_;have w4:E7 4=.ptr (H.next+1) 0 0:=(by rw[hE7];simp only[go_sem,u4]);have w5:E7 5=.ptr (H.next+2) 0 0:=(by rw[hE7];simp only[go_sem,u5]);have w6:E7 6=.ptr (H.next+3) 0 0:=(by rw[hE7];simp only[go_sem,u6]);have w7:E7 7=.ptr (H.next+4) 0 0:=(by rw[hE7];simp only[go_sem,u7]);clear hE7;refine W.dr 5 [0,0,0,1,11] mixed ?_;have y2u:∀b,(Z.upd (H.next+1) b).live (H.next+2) 0=_:=fun b=>(bQ (by omega)).trans y2;have y3u:∀b b',((Z.upd (H.next+1) b).upd (H.next+2) b').live (H.next+3) 0=_:=fun b b'=>(bQ (by omega)).trans ((bQ (by omega)).trans y3);have y4u:∀b b' b'',(((Z.upd (H.next+1) b).upd (H.next+2) b').upd (H.next+3) b'').live (H.next+4) 0=_:=fun b b' b''=>(bQ (by omega)).trans ((bQ (by omega)).trans ((bQ (by omega)).trans y4));have f1:∀c b b' b'',((((Z.upd (H.next+1) (.arr 0 33 [c])).upd (H.next+2) b).upd (H.next+3) b').upd (H.next+4) b'').live (H.next+1) 0=some (33,[c]):=fun c b b' b''=>(bQ (by omega)).trans ((bQ (by omega)).trans ((bQ (by omega)).trans jj));have f2:∀b c b' b'',((((Z.upd (H.next+1) b).upd (H.next+2) (.arr 0 50 c)).upd (H.next+3) b').upd (H.next+4) b'').live (H.next+2) 0=some (50,c):=fun b c b' b''=>(bQ (by omega)).trans ((bQ (by omega)).trans jj);have f3:∀b b' c b'',((((Z.upd (H.next+1) b).upd (H.next+2) b').upd (H.next+3) (.arr 0 3 c)).upd (H.next+4) b'').live (H.next+3) 0=some (3,c):=fun b b' c b''=>(bQ (by omega)).trans jj;simp only[go_sem,w4,w5,w6,w7,y1,y2,y3,y2u,y3u,y4u,f1,f2,f3,qc,qo];refine⟨⟨fun x h=>by omega,fun x h=>by omega⟩,fun x h=>by omega,?_⟩;obtain⟨Zf,hZf⟩:∃Zf,Zf=((((Z.upd (H.next+1) (.arr 0 33 [qv])).upd (H.next+2) (.arr 0 50 [.lit (.int .i64 qa),.lit (.int .i64 qb)])).upd (H.next+3) (.arr 0 3 [.lit (.int .i64 (n:Int))])).upd (H.next+4) (.arr 0 46 [.lit (.int .i64 0)])):=⟨_,rfl⟩
    rw[<- hZf];have oZf:Over H Zf:=(by rw[hZf];exact(((oZ.upd (by omega) _).upd (by omega) _).upd (by omega) _).upd (by omega) _);have qZf:ay R.next Zf 42 qv (r.map af):=qZ.keep (Nat.le_refl _) (by rw[hZf];exact Nat.le_refl _) fun id g _ _ _ he=>by have:=hqlt _ _ _ he;rw[hZf,ae,SI (by omega),ae,SI (by omega),ae,SI (by omega),ae,SI (by omega)]
    refine ar.aV aE hcl oZf ?_ hKK;have hfz:=qZf.fz (S:=fun id=>H.next<=id) (nx:=H.next) (cs':=r.map af) (fun i hi=>by show H.next<=i;omega) rfl fun i hi _=>by simp only[SV];exact .cI _
    rw[SM]at hfz;exact .tup rfl fun i hi _=>match i,hi with
     |0,_=>hfz
     |1,_=>.agg rfl fun i hi _=>match i,hi with|0,_=>.lit _|1,_=>.lit _
     |2,_=>.lit _
     |3,_=>.lit _
theorem Ri (d:InfP)(hok:InfOk d)(h6:d.nodes.length<=6)(p:List (List Int))(hp:PolOk d p)(H:AHeap)(K:ARes->AHeap->Prop)
  (hK:∀q n,Imp d p q n->isLocal d q->K (.ret (.tup [aj q,dV (bW d q) (d.grain ^ d.nodes.length),aa n,aa 0])) H):
  ag prog G0 11 [cW d,aj p] H K:=DP d hok h6 p hp H (aj p) (.inl rfl) K hK
theorem BN (d:InfP)(cs:List AVal)(hq:NodesQ (fun v=>d.decs.testBit v=true) d.nodes cs)(hf:InfFit d)(hok:InfOk d)(h6:d.nodes.length<=6)(p:List (List Int))(hp:PolOk d p)
  (H:AHeap) (K:ARes->AHeap->Prop) (hK:K (.ret (.lit (.bool (decide (isLocal d p))))) H):ag prog G0 14 [dw d cs,aj p] H K:=by
 refine ag.clo ⟨_,func14,rfl,rfl⟩ fun hcl=>?_;have n8:=hok.n.n1;have hdn:(az d).length<=d.nodes.length:=fY;have hpl:=hp.len;refine ag.sw (n:=23) (rs:=[.tmp 4]) func14 ?_;refine W.sq ?_;simp only[go_sem,im,gG];obtain⟨R,hR⟩:∃R,R=ext H [.arr 0 38 [.lit (.int .i64 d.grain),.vec d.nodes.length cs,.lit (.int .u64 (d.decs:Int)),.vec d.utils.length (aO d.utils)]]:=⟨_,rfl⟩
 have oR:Over H R:=hR▸.ext _ _
 have g0:=df hR
 rw[<- hR];clear hR;have l0:=ah g0;refine W.en (fun E=>E 1=aj p /\ E 2=.ptr H.next 0 0) (by simp only[go_sem]) fun E ⟨e1,e2⟩=>?_
 refine W.seq ?_;refine W.sq ?_;simp only[go_sem];refine W.block ?_;refine W.env fun E1 hE1=>?_;have f1:E1 1=aj p:=by rw[hE1];simp only[go_sem,e1]
 have f2:E1 2=.ptr H.next 0 0:=by rw[hE1];simp only[go_sem,e2]
 have f5:E1 5=aa 0:=by rw[hE1];simp only[go_sem]
 clear hE1 e1 e2;refine W.aG 8388592 (by rfl) (fun ρ Hx=>Hx=R/\∃k:Nat,ρ 5=aa k/\k<=p.length/\∀j v,j<k->(az d)[j]?=some v->dZ d p v) (fun ρ H=>p.length-(iv (ρ 5)).toNat) ?_ ?_
 ·simp only[go_sem,f5];exact⟨0,rfl,by omega,fun j v h=>absurd h (S4 _)⟩
 rintro ρ Hx ⟨rfl,k,q5,hk,hall⟩;refine W.en (fun E2=>E2 1=aj p /\ E2 2=.ptr H.next 0 0 /\ E2 5=aa k) (by simp only[go_sem,f1,f2,q5]) fun E2 ⟨a1,a2,a5⟩=>?_
 by_cases hb:(k:Int)<p.length;rotate_left
 ·have hl:isLocal d p:=fun v hv=>by
   obtain⟨j,hj⟩:=SW.1 hv;exact hall j v (by have:=get_lt hj;omega) hj
  rw[Tm hl]at hK;refine W.vs ?_;simp only[go_sem,a1,a5,aj,hb];refine W.vs ?_;simp only[go_sem];exact ar.aV aE hcl oR (.lit _) hK
 obtain⟨v,hv⟩:=get_of_lt (l:=az d) (i:=k) (by omega);have w1:=SF ((k:Int)+1) (by omega);refine W.vs ?_;simp only[go_sem,a1,a2,a5,l0,aj,hb];refine aw.clo (NK d cs hq hf hok h6 p hp k v hv _ _ ⟨trivial,?_⟩);by_cases hbest:dZ d p v
 ·rw[Tm hbest];simp only[go_sem,a5,w1];refine⟨⟨k+1,rfl,by omega,fun j u hj hu=>?_⟩,by rw[q5];simp only[aa,aM];omega⟩;by_cases hjk:j=k
  ·subst hjk;rw[hv]at hu;cases hu;exact hbest
  ·exact hall j u (by omega) hu
 ·rw[TD hbest];have hl:¬isLocal d p:=fun h=>hbest (h v (SE hv));rw[TD hl]at hK;simp only[go_sem];exact ar.aV aE hcl oR (.lit _) hK
theorem NM (d:InfP)(cs:List AVal)(hq:NodesQ (fun v=>d.decs.testBit v=true) d.nodes cs)(hf:InfFit d)(hok:InfOk d)(h6:d.nodes.length<=6)(p:List (List Int))(hp:PolOk d p)
  (H:AHeap) (lo:Nat) (qv:AVal) (ho:ay lo H 42 qv (p.map af)) (K:ARes->AHeap->Prop) (hK:K (.ret (.lit (.bool (decide (isLocal d p))))) H):ag prog G0 14 [dw d cs,qv] H K:=by
 refine(ag.frame (H:=H) (args:=[dw d cs,qv]) (args':=[dw d cs,aj p]) (v':=.lit (.bool (decide (isLocal d p)))) aE rfl (fun i hi _=>?_) (BN d cs hq hf hok h6 p hp cz _ ⟨_,rfl,.lit _⟩)).mono ?_
 ·match i,hi with
  |0,_=>exact zF hq
  |1,_=>exact xP ho fun _ _=>trivial
 ·rintro r H' ⟨rfl,rfl⟩;exact hK
end Go.Proofs
namespace Go.Hx
open Go.Proofs (get_lt get_of_lt)
variable {P:Program} {G:Nat->Option (List AVal)}
open Classical in
noncomputable def AHeap.mD (H:AHeap)(S:Nat->Prop)(ob:Nat)(b:Blk):AHeap:=⟨fun id=>if S id then none else if id=ob then some b else H.get id,H.next⟩
theorem OX {H:AHeap}(hc:Clo H){S:Nat->Prop}{ob g:Nat}{e:TypeId}{cells cells':List AVal}(hob:H.get ob=some (.arr g e cells))(hl:cells'.length=cells.length)
  (hcell:∀i (h:i<cells.length) (h':i<cells'.length),Fz S H H.next cells[i] cells'[i]):FzH S H (H.mD S ob (.arr g e cells')) where
 gone id hs:=by simp[AHeap.mD,hs]
 kept id b hs hb:=by
  have hbb:=hc.below id b hb;refine⟨hc.lt id b hb,?_⟩;by_cases h:id=ob
  ·subst h;rw[hob]at hb;cases hb;exact⟨.arr g e cells',by simp[AHeap.mD,hs],rfl,rfl,hl,hcell⟩
  ·refine⟨b,by simp[AHeap.mD,hs,h,hb],?_⟩;cases b with
   |rsv=>trivial
   |mp=>rfl
   |arr g e cells=>exact⟨rfl,rfl,rfl,fun i h _=>.dead (hbb i h)⟩
   |loop st pend n env ps asg body=>exact⟨rfl,rfl,rfl,rfl,rfl,rfl,rfl,fun t ht=>.dead (hbb t ht)⟩
 none id hs hb:=by
  by_cases h:id=ob
  ·subst h;rw[hob]at hb;cases hb
  ·simp[AHeap.mD,hs,h,hb]
theorem cJ.OY (hG:fm G){s:St}{lo:Nat}{e1 e0:TypeId}{v:AVal}{ps:List (List Int)}(h:dR lo s.H e1 e0 v (ps.map ints))(hne:e1≠e0):
  ∃H',cJ P G s ⟨s.ρ,H'⟩/\H'.next=s.H.next/\(∀i,i<lo->H'.get i=s.H.get i)/\ay lo H' e1 v (ps.map af):=by
 obtain⟨cs,h1,h2,h3,_⟩:=h;rw[SM]at h2;rcases h1 with ⟨hv,hc⟩|⟨id,g,a1,a2,hv,hg⟩
 ·subst hc;have hp:ps=[]:=SP h2.symm;subst hp;exact⟨s.H,cJ.refl s,rfl,fun _ _=>rfl,.inl ⟨hv,rfl⟩⟩
 ·refine⟨s.H.mD (fun i=>lo<=i/\i≠id) id (.arr g e1 (ps.map af)),?_,rfl,fun i hi=>?_,.inr ⟨id,g,a1,a2,by rw[hv,SM,h2],?_⟩⟩
  ·intro n wb Γ a w hs;refine cJ.freeze (s:=s) (s':=⟨s.ρ,s.H.mD (fun i=>lo<=i/\i≠id) id (.arr g e1 (ps.map af))⟩) hG (OX hs.heap.clo hg (by rw[SM,h2]) fun i hi hi'=>?_) (fun t=>.dead (hs.env t).nt) n wb Γ a w hs;rw[SM]at hi';have hr:(ps.map ints)[i]?=some (ints ps[i]):=(by rw[List.getElem?_map,SJ hi'];rfl);have hci:cs[i]?=some cs[i]:=SJ hi;have ho:=h3 i _ _ hr hci;rw[SV];rcases ho with ⟨e,e'⟩|⟨id2,g2,b1,b2,e,e'⟩
   ·rw[e];have hnil:ps[i]=[]:=SP (by have:=congrArg List.length e';rw[aH]at this;exact this);rw[hnil];exact .nil
   ·rw[e];unfold af;rw[aH]at e ⊢;refine .frz ⟨b1,fun h=>?_⟩ e' (by rw[aH];omega) fun j hj h2' h'=>?_
    ·rw[h,hg]at e';cases e';exact hne rfl
    ·have e0:(0:Nat)+j=j:=Nat.zero_add j;have:Fz (fun i=>lo<=i/\i≠id) s.H s.H.next (ints ps[i])[j] (ints ps[i])[j]:=by
      simp only[ints,SV];exact .lit _
     simpa only[e0] using this
  ·unfold AHeap.mD;simp only;rw[SI (fun h=>by omega),SI (by omega)]
  ·simp[AHeap.mD]
end Go.Hx
namespace Go.Proofs
open Go.Hx Tryz
theorem NN {lo:Nat}{H:AHeap}{e:TypeId}{v:AVal}{cs:List AVal}(h:ay lo H e v cs):mh prog H 33 v=some (aa cs.length):=by
 rcases h with ⟨h1,h2⟩|⟨id,g,_,_,h1,h2⟩
 ·rw[h1,h2];rfl
 ·rw[h1];simp only[go_sem];rw[ah h2];rfl
theorem NO (d:InfP)(cs:List AVal)(hq:NodesQ (fun v=>d.decs.testBit v=true) d.nodes cs)(hf:InfFit d)(hok:InfOk d)(h6:d.nodes.length<=6)(p:List (List Int))(hp:PolOk d p)
  (H:AHeap) (K:ARes->AHeap->Prop) (hK:∀q n,Imp d p q n->isLocal d q->K (.ret (.tup [aj q,aa n])) H):ag prog G0 15 [dw d cs,aj p] H K:=by
 refine ag.clo ⟨_,func15,rfl,rfl⟩ fun hcl=>?_;have n8:=hok.n.n1;have hpf:=lT hok hp;have hdn:(az d).length<=d.nodes.length:=fY;have hpl:=hp.len;refine ag.sw (n:=54) (rs:=[.tmp 4,.tmp 5]) func15 ?_;refine W.sq ?_;simp only[go_sem,im,gG];obtain⟨R,hR⟩:∃R,R=ext H [.arr 0 38 [.lit (.int .i64 d.grain),.vec d.nodes.length cs,.lit (.int .u64 (d.decs:Int)),.vec d.utils.length (aO d.utils)]]:=⟨_,rfl⟩
 have oR:Over H R:=hR▸.ext _ _
 have nR:R.next=H.next+1:=hR▸rfl
 have g0:=df hR
 rw[<- hR];clear hR;refine W.sq ?_;simp only[go_sem];refine W.en (fun E=>E 1=aj p /\ E 2=.ptr H.next 0 0 /\ E 6=.lit (.slice none 0 0)) (by simp only[go_sem]) fun E ⟨e1,e2,e6⟩=>?_
 refine W.ik (fun s'=>s'.ρ 2=.ptr H.next 0 0/\Over R s'.H/\dR R.next s'.H 42 3 (s'.ρ 6) (p.map ints)) ?_ ?_
 ·refine W.sq ?_;simp only[go_sem];refine W.block ?_;refine W.en (fun E1=>E1 1=aj p /\ E1 2=.ptr H.next 0 0 /\ E1 6=.lit (.slice none 0 0) /\ E1 7=aa 0) (by simp only[go_sem,e1,e2,e6]) fun E1 ⟨f1,f2,f6,f7⟩=>?_
  refine W.aG 134213824 (by rfl) (fun ρ Hx=>∃(k:Nat) (v:AVal),ρ 7=aa k/\k<=p.length/\ρ 6=v/\Over R Hx/\dR R.next Hx 42 3 v ((p.take k).map ints)) (fun ρ H=>p.length-(iv (ρ 7)).toNat) ?_ ?_
  ·simp only[go_sem,f6,f7];exact⟨0,_,rfl,by omega,rfl,.refl _,.nil⟩
  rintro ρ Hx ⟨k,v,h7,hk,h6',ov,hO⟩;refine W.en (fun E=>E 1=aj p /\ E 2=.ptr H.next 0 0 /\ E 6=v /\ E 7=aa k) (by simp only[go_sem,f1,f2,h6',h7]) fun E ⟨e0,e2,e3,e4⟩=>?_
  have hp1:=hpf.1;by_cases hb:(k:Int)<p.length;rotate_left
  ·refine W.vs ?_;simp only[go_sem,e0,e2,e3,e4,aj,hb];rw[SH (by omega)]at hO;exact⟨ov,hO⟩
  obtain⟨l,hl⟩:=get_of_lt (l:=p) (i:=k) (by omega);have hlr:=hpf.2 l (SE hl);have hg:(p.map af)[k]?=some (af l):=by rw[List.getElem?_map,hl];rfl
  have hpne:=aJ hl;have w1:=SF ((k:Int)+1) (by omega);obtain⟨Ha,hHa⟩:∃Ha,Ha=ext Hx [.arr 0 3 (List.replicate 0 (.lit (.int .i64 0)))]:=⟨_,rfl⟩
  have na:Ha.next=Hx.next+1:=hHa▸rfl
  have oa:Over Hx Ha:=hHa▸.ext _ _
  have ga:Ha.get Hx.next=some (.arr 0 3 []):=by rw[hHa];exact bX
  have p0:ay Hx.next Ha 3 (.own Hx.next 0 0 0 1) []:=.inr ⟨Hx.next,0,Nat.le_refl _,by omega,rfl,ga⟩;obtain⟨pk,H2,hA1,oP,n2,hp2⟩:=lK (P:=prog) (H:=Ha) (t:=42) (n:=Ha.next) (lo:=Hx.next) (src:=ints l) Tryz.underlying42 Tryz.dz Tryz.dH (gQ _) (by rw[Tryz.dL,aH,List.length_nil];omega) p0 (by omega) rfl;rw[List.nil_append]at oP;rw[aH]at hA1;have o2:Over Hx H2:=⟨by omega,fun i hi=>by rw[hp2 i (by omega) (fun g n he=>by have:=(AVal.own.inj he).1;omega)];exact oa.old i hi⟩
  obtain⟨v',H3,hA3,hO3,n3,hp3⟩:=dR.app (P:=prog) (n:=H2.next+1) (t:=33) Tryz.underlying33 Tryz.jv Tryz.jH Tryz.jG (by decide) (by rw[SM,SN];omega) hO o2 ov.next oP rfl;have pk1:=oP.one;have pkc:=oP.cells;have hO3c:v'.one=true/\v'.cells=[v']:=by obtain⟨cs,h,_⟩:=hO3;exact⟨h.one,h.cells⟩
  have v1:=hO3c.1;have v2:=hO3c.2;refine W.vs ?_;simp only[go_sem,e0,e3,e4,aj,hb,hg,hpne,<- hHa,hA1,hA3,pkc,w1];refine⟨by have:=ov.next;omega,⟨k+1,_,rfl,by omega,rfl,⟨by have:=ov.next;omega,fun i hi=>by rw[hp3 i (by have:=ov.next;omega) hi,o2.old i (by have:=ov.next;omega)];exact ov.old i hi⟩,?_⟩,by rw[h7];simp only[aa,aM];omega⟩;rw[aL hl,Tq];exact hO3
 rintro⟨ρ1,H1⟩ ⟨t2,o1,hO1⟩;simp only at t2 o1 hO1;obtain⟨Hm,hw,nm,mo,hM⟩:=cJ.OY (P:=prog) (G:=G0) (s:=⟨ρ1,H1⟩) aE hO1 (by decide);refine W.wC hw (Nat.le_of_eq nm.symm) trivial ?_;simp only at nm mo hM;obtain⟨qv,hqv⟩:∃qv,qv=ρ1 6:=⟨_,rfl⟩
 rw[<- hqv]at hM;have om:Over R Hm:=⟨by rw[nm];exact o1.next,fun i h=>(mo i h).trans (o1.old i h)⟩
 refine W.env fun E1 hE1=>?_;have f2:E1 2=.ptr H.next 0 0:=by rw[hE1];exact t2
 have f6:E1 6=qv:=by rw[hE1];exact hqv.symm
 clear hE1;refine W.sq ?_;simp only[go_sem];refine W.en (fun E2=>E2 2=.ptr H.next 0 0 /\ E2 6=qv /\ E2 8=aa 0) (by simp only[go_sem,f2,f6]) fun E2 ⟨a2,a6,a8⟩=>?_
 clear f2 f6;have w63:=hdn;refine W.seq (W.block ?_);refine W.aG 4503599493156608 (by rfl) (fun ρ Hy=>∃(n:Nat) (q:List (List Int)),ρ 8=aa n/\Over R Hy/\Hm.next<=Hy.next/\ay R.next Hy 42 qv (q.map af)/\Imp d p q n) (fun ρ Hy=>50000000000000000-(iv (ρ 8)).toNat) ?_ ?_
 ·simp only[go_sem,a8];exact⟨0,p,rfl,om,hM,.start hp⟩
 rintro ρ2 Hy ⟨n,q,q8,oy,ny,hO,hI⟩;refine W.en (fun E3=>E3 2=.ptr H.next 0 0 /\ E3 6=qv /\ E3 8=aa n) (by simp only[go_sem,a2,a6,q8]) fun E3 ⟨b2,b6,b8⟩=>?_
 have y0:=ah ((oy.old H.next (by omega)).trans g0);refine W.vs ?_;simp only[go_sem,b2,b6,y0];refine aw.clo (NM d cs hq hf hok h6 q hI.ok Hy R.next qv hO _ ⟨trivial,?_⟩);by_cases hloc:isLocal d q
 ·rw[Tm hloc];simp only[go_sem];refine W.vs ?_;simp only[go_sem,b6,b8];refine ar.aV (v':=.tup [aj q,aa n]) aE hcl (oR.trans oy) (.tup rfl fun i hi _=>?_) (hK q n hI hloc)
  match i,hi with
  |0,_=>exact xP hO fun i h=>by omega
  |1,_=>exact .lit _
 rw[TD hloc];simp only[go_sem];refine W.en (fun E4=>E4 2=.ptr H.next 0 0 /\ E4 6=qv /\ E4 8=aa n /\ E4 9=aa 0) (by simp only[go_sem,b2,b6,b8]) fun E4 ⟨c2,c6,c8,c9⟩=>?_
 clear b2 b6 b8;refine W.aG 1125897759362560 (by rfl) (fun ρ Hz=>∃(k:Nat) (b:Bool) (r:List (List Int)),ρ 9=aa k/\k<=(az d).length/\Over R Hz/\Hy.next<=Hz.next/\ay R.next Hz 42 qv (r.map af)/\Rnd d q k b r) (fun ρ Hz=>(az d).length-(iv (ρ 9)).toNat) ?_ ?_
 ·simp only[go_sem,c9];exact⟨0,false,q,rfl,by omega,oy,hO,.start hI.ok⟩
 rintro ρ3 Hz ⟨k,b,r,q9,hk,oz,nz,hOz,hRn⟩;refine W.en (fun E5=>E5 2=.ptr H.next 0 0 /\ E5 6=qv /\ E5 8=aa n /\ E5 9=aa k) (by simp only[go_sem,c2,c6,c8,q9]) fun E5 ⟨d2,d6,d8,d9⟩=>?_
 have hrl:r.length=(az d).length:=hRn.ok.len;have hlen:=NN hOz;rw[SM,hrl]at hlen;by_cases hb:(k:Int)<(az d).length;rotate_left
 ·obtain rfl:k=(az d).length:=by omega
  have hbt:b=true:=by
   cases b with
   |true=>rfl
   |false=>exact absurd hRn.done.2 hloc
  subst hbt;have hI2:=hI.round hRn;have hnb:=hI2.bound hok h6;have w1:=SF ((n:Int)+1) (by omega);refine W.vs ?_;simp only[go_sem,d6,d8,d9,hlen,hb,w1];refine⟨by omega,⟨n+1,r,rfl,oz,by omega,hOz,hI2⟩,by rw[q8];simp only[aa,aM];omega⟩
 obtain⟨v,hv⟩:=get_of_lt (l:=az d) (i:=k) (by omega);obtain⟨v1,v2,v3⟩:=eE hv;have w1:=SF ((k:Int)+1) (by omega);have z0:=ah ((oz.old H.next (by omega)).trans g0);refine W.vs ?_;simp only[go_sem,d2,d6,d9,hlen,hb,z0];refine aw.clo (NL d cs hq hf hok h6 r hRn.ok k v hv Hz R.next qv hOz _ ⟨trivial,?_⟩);by_cases hbest:dZ d r v
 ·rw[Tm hbest];simp only[go_sem,d9,w1];exact⟨by omega,⟨k+1,b,r,rfl,by omega,oz,by omega,hOz,hRn.yU hv hbest⟩,by rw[q9];simp only[aa,aM];omega⟩
 ·rw[TD hbest];obtain⟨id,g,hqv,i1,i2,i3,i4⟩:=hOz.DK (k:=k) (by rw[SM];omega);have jid:=ah i3;have hkr:(k:Int)<r.length:=by omega
  rw[SM]at hqv;rw[hqv]at d6;have hset:setAt (r.map af) k [.vec (cU d (fixC r) v).length (ints (cU d (fixC r) v))]=(r.set k (cU d (fixC r) v)).map af:=by
   rw[eM (by rw[SM];omega),Um];rfl
  have hst:=hRn.step hok hv hbest;rw[v3]at hst;have hO4:=i4 (af (cU d (fixC r) v));rw[<- Um]at hO4;simp only[go_sem,d6,d9,jid,hkr,hset,w1];exact⟨by rw[SM];omega,by rw[au];omega,⟨k+1,true,_,rfl,by omega,oz.upd i1 _,by rw[au];omega,hO4,hst⟩,by rw[q9];simp only[aa,aM];omega⟩
theorem RW (x:List Int)(hx:(x.length:Int)<2 ^ 40)(H:AHeap)(K:ARes->AHeap->Prop)(hK:K (.ret (af x)) H):ag prog G0 36 [af x] H K:=by
 refine ag.clo ⟨_,func36,rfl,rfl⟩ fun hc=>?_;refine ag.st (n:=8) (rs:=[.tmp 2]) func36 ?_;simp only[go_sem];intro b hlen;cases b with
 |true =>
  have hx0:x=[]:=SP (by
   by_cases h:0<x.length
   ·have:=hlen (by simpa using h);cases this
   ·omega)
  simp only[go_sem];subst hx0;exact ar.A8 aE hc .ug hK
 |false =>
  by_cases h0:x.length=0
  ·have hx0:x=[]:=SP h0;subst hx0;simp only[go_sem,bd];refine⟨⟨rfl,rfl⟩,ar.drop (v':=af []) aE hc ?_ hK⟩;exact .ints (Nat.le_refl _) (cq ..) rfl fun i hi=>absurd hi (S4 _)
  ·simp only[go_sem,h0,bd];refine⟨⟨rfl,by omega,by omega,gQ x⟩,ar.drop aE hc ?_ hK⟩;exact .ints (Nat.le_refl _) (cq ..) rfl fun i hi=>by simp[ij,hi]
theorem Ef (t:List Int)(ht:(t.length:Int)<2 ^ 40)(h0:0<t.length)(H:AHeap)(K:ARes->AHeap->Prop)(hK:∀v H',Over H H'->ay H.next H' 3 v (ints t)->K (.ret v) H'):ag prog G0 36 [af t] H K:=by
 refine ag.st (n:=8) (rs:=[.tmp 2]) func36 ?_;simp only[go_sem];intro b hlen;cases b with
 |true=>exact absurd (hlen (by simpa using h0)) (by decide)
 |false =>
  have hn:¬t.length=0:=by omega
  simp only[go_sem,hn,bd];refine⟨⟨by simp,by omega,by omega,gQ _⟩,ar.mk (by simp[aS]) ?_⟩;refine hK _ _ (Over.ext _ _) (.inr ⟨H.next,_,Nat.le_refl _,by simp[aS],by rw[aH],?_⟩);rw[cq];simp
def cr (p:List (List Int)):List (List Int):=(p.take 4).map fun l=>l.take 70
theorem tx (p:List (List Int)):(cr p).length<=4/\∀r∈cr p,r.length<=70:=by
 unfold cr;refine⟨by simp;omega,fun r hr=>?_⟩;obtain⟨l,_,rfl⟩:=SY.1 hr;rw[SN];omega
def gU (p:List (List Int))(A k:Nat)(w:AVal):List AVal:=(((cr p).take k).map af).set A w
theorem RX {p:List (List Int)}{k:Nat}{l:List Int}(h:p[k]?=some l)(h4:k<4):(cr p)[k]?=some (l.take 70):=by
 unfold cr;rw[List.getElem?_map,Tf h4,h];rfl
theorem zt (p:List (List Int)):(cr p).length=min p.length 4:=by unfold cr;simp[Nat.min_comm]
theorem RY {p:List (List Int)}{A k:Nat}{l:List Int}(h:(cr p)[k]?=some l)(w:AVal):gU p A (k+1) w=if A=k then ((cr p).take k).map af++[w] else gU p A k w++[af l]:=by
 have hl:=get_lt h;unfold gU;rw[aL h,Tq];by_cases hA:A=k
 ·rw[SK hA,To _ _ (by simp;omega),hA];simp[SN,TY (Vk hl)]
 ·rw[SI hA];rcases S9 A k with h'|h'
  ·rw[UM _ _ (by simp;omega)];rfl
  ·rw[TF (by simp;omega),TF (by simp;omega)];rfl
theorem Eg (p:List (List Int))(hp:(p.length:Int)<2 ^ 63)(hr:∀r∈p,(r.length:Int)<2 ^ 63)(A:Nat)(hA:∀r,A<4->p[A]?=some r->0<r.length)(H:AHeap)(K:ARes->AHeap->Prop)
  (hK:Clo H->∀v w H',Over H H'->ay H.next H' 42 v (gU p A (cr p).length w)->(∀r,(cr p)[A]?=some r->ay H.next H' 3 w (ints r))->ar prog G0 H K v H'):ag prog G0 8 [aj p] H K:=by
 refine ag.clo ⟨_,func8,rfl,rfl⟩ fun hcl=>?_;obtain⟨n,hn⟩:∃n,n=min p.length 4:=⟨_,rfl⟩
 have hn4:(if (4:Int)<p.length then (4:Int) else p.length)=(n:Int):=by split<;>omega
 have hfl:=zt p;rw[<- hn]at hfl;refine ag.st (n:=27) (rs:=[.tmp 2]) func8 ?_;simp only[go_sem,aj,hn4];refine⟨by simp,by omega,?_⟩;refine W.aG 67104808 (by rfl) (fun ρ Hx=>∃(k:Nat) (w:AVal),ρ 12=aa k/\k<=n/\Over H Hx/\ay H.next Hx 42 (ρ 3) (gU p A k w)/\(∀r,A<k->(cr p)[A]?=some r->ay H.next Hx 3 w (ints r))) (fun ρ H=>n-(iv (ρ 12)).toNat) ?_ ?_
 ·simp only[go_sem];exact⟨0,.lit (.slice none 0 0),rfl,by omega,.refl _,by unfold gU;simp;exact .nil,fun r h=>absurd h (S4 _)⟩
 rintro ρ Hx ⟨k,w,h12,hk,ov,hO,hW⟩;obtain⟨v,h3⟩:∃v,ρ 3=v:=⟨_,rfl⟩
 rw[h3]at hO;refine W.en (fun E=>E 0=aj p /\ E 3=v /\ E 10=.vec n ((p.map af).take n) /\ E 11=aa n /\ E 12=aa k) (by simp only[go_sem,aj,h3,h12]) fun E ⟨e0,e3,e10,e11,e12⟩=>?_
 by_cases hb:(k:Int)<n;rotate_left
 ·refine W.vs ?_;simp only[go_sem,e3,e11,e12,hb];have hkn:k=(cr p).length:=by omega
  rw[hkn]at hO;exact hK hcl v w Hx ov hO fun r h=>hW r (by have:=get_lt h;omega) h
 obtain⟨l,hl⟩:=get_of_lt (l:=p) (i:=k) (by omega);have hlm:=hr l (SE hl);have hf:=RX hl (by omega);have hg:((p.map af).take n)[k]?=some (af l):=by rw[Tf (by omega),List.getElem?_map,hl];rfl
 have hgn:=aJ hg;obtain⟨m,hm⟩:∃m,m=(l.take 70).length:=⟨_,rfl⟩
 have hm':m=min l.length 70:=by rw[hm,SN,Nat.min_comm]
 have hm70:(if (70:Int)<l.length then (70:Int) else l.length)=(m:Int):=by split<;>omega
 have htk:(ints l).take m=ints (l.take 70):=by
  unfold ints;rw[<- List.map_take];congr 1;rw[hm'];rcases Nat.le_total l.length 70 with h|h
  ·rw[TY h,SH (Nat.le_refl _),SH h]
  ·rw[Nat.min_eq_right h]
 have hfl2:(gU p A k w).length=k:=by unfold gU;rw[SO,SM,SN,hfl];omega
 have w1:=SF ((k:Int)+1) (by omega);have hsuc:=fun w=>RY (A:=A) hf w;refine W.sq ?_;simp only[go_sem,e11,e12,hb];refine W.sq ?_;simp only[go_sem];refine W.seq (W.block ?_);refine W.sq ?_;simp only[go_sem,e10,e12,hb,hg,hgn];refine W.vs ?_;simp only[go_sem,e3,hm70,htk];refine⟨by omega,?_⟩;have hmv:AVal.vec m (ints (l.take 70))=af (l.take 70):=by unfold af;rw[hm]
 rw[hmv];by_cases hA':A=k
 ·have hl0:0<(l.take 70).length:=by rw[<- hm,hm'];have:=hA l (by omega) (by rw[hA'];exact hl);omega
  refine aw.clo (Ef (l.take 70) (by omega) hl0 _ _ fun w2 H2 ov2 hW2=>⟨trivial,?_⟩);obtain⟨v',H3,hA3,ov3,hO3,n3,hp3⟩:=D5 w2 hW2.one (ov.trans ov2) (hO.over ov2) (by omega);have h31:=hO3.one;have h3c:=hO3.cells;have w21:=hW2.one;have w2c:=hW2.cells;simp only[go_sem,hA3,w2c];refine W.vs ?_;simp only[go_sem,e12,w1];refine⟨by have:=ov3.next;omega,⟨k+1,w2,rfl,by omega,ov3,?_,fun r h1 h2=>?_⟩,by rw[h12];simp only[aa,aM];omega⟩
  ·have:=hsuc w2;rw[SK hA']at this;rw[this];have e:gU p A k w=((cr p).take k).map af:=(by unfold gU;rw[hA',TF (by simp[SN];omega)]);rw[e]at hO3;exact hO3
  ·rw[hA',hf]at h2;cases h2;refine hW2.keep ov.next (by omega) fun i g _ h4 h5 _=>hp3 i h4 fun g' n' hv=>?_;rcases hO with ⟨h6,_⟩|⟨i2,g2,_,a2,h6,_⟩
   ·rw[h6]at hv;cases hv
   ·rw[h6]at hv;have:=(AVal.own.inj hv).1;omega
 ·refine aw.clo (RW (l.take 70) (by omega) _ _ ⟨trivial,?_⟩);obtain⟨v',H3,hA3,ov3,hO3,n3,hp3⟩:=D5 (af (l.take 70)) rfl ov hO (by omega);have h31:=hO3.one;have h3c:=hO3.cells;simp only[af]at hA3;simp only[go_sem,hA3];refine W.vs ?_;simp only[go_sem,e12,w1];refine⟨by have:=ov3.next;omega,⟨k+1,w,rfl,by omega,ov3,?_,fun r h1 h2=>?_⟩,by rw[h12];simp only[aa,aM];omega⟩
  ·have:=hsuc w;rw[SI hA']at this;rw[this];exact hO3
  ·refine(hW r (by omega) h2).keep (Nat.le_refl _) n3 fun i g _ h4 h5 _=>hp3 i h4 fun g' n' hv=>?_;rcases hO with ⟨h6,_⟩|⟨i2,g2,_,a2,h6,h7⟩
   ·rw[h6]at hv;cases hv
   ·rw[h6]at hv;obtain rfl:=(AVal.own.inj hv).1;rw[h7]at h5;cases h5
theorem RZ (p:List (List Int))(hp:(p.length:Int)<2 ^ 63)(hr:∀r∈p,(r.length:Int)<2 ^ 63)(H:AHeap)(K:ARes->AHeap->Prop)(hK:K (.ret (aj (cr p))) H):ag prog G0 8 [aj p] H K:=by
 refine Eg p hp hr 4 (fun r h=>absurd h (UK _)) H K fun hcl v w H' ov hO _=>?_;have e:gU p 4 (cr p).length w=(cr p).map af:=by unfold gU;rw[TC,TF (by rw[SM,zt];omega)]
 rw[e]at hO;refine ar.aV (v':=aj (cr p)) aE hcl ov ?_ hK;have:=rT (S:=fun i=>H.next<=i) (nx:=H.next) (cs':=(cr p).map af) hO (fun i _ h _ _=>h) rfl fun i hi _=>by
  simp only[SV];exact .cI _
 rw[SM]at this;exact this
theorem R7 (p:List (List Int))(hp:(p.length:Int)<2 ^ 63)(hr:∀r∈p,(r.length:Int)<2 ^ 63)(A:Nat)(hA:∀r,A<4->p[A]?=some r->0<r.length)(H:AHeap)(K:ARes->AHeap->Prop)
  (hK:∀v w H',Over H H'->ay H.next H' 42 v (gU p A (cr p).length w)->(∀r,(cr p)[A]?=some r->ay H.next H' 3 w (ints r))->K (.ret v) H'):ag prog G0 8 [aj p] H K :=
 Eg p hp hr A hA H K fun _ v w H' ov hO hW=>ar.mk ov.next (hK v w H' ov hO hW)
theorem Lx {c n g:Int}{q:List Int}(hq:q≠[]):jF c n g q≠[]/\(jF c n g q).length<=q.length+1:=by
 have hl:0<q.length:=T1.2 hq;have:0<(jF c n g q).length/\(jF c n g q).length<=q.length+1:=by
  unfold jF;split
  ·rw[SO];omega
  ·split
   ·simp
   ·split
    ·rw[List.length_cons,S6];omega
    ·rw[Ll];omega
 exact⟨T1.1 this.1,this.2⟩
theorem Ly {m:Nat}{c r n g:Int}{x:NodeP}(hx:x.parents.length<=m/\x.rows.length<=m/\∀r∈x.rows,r≠[]/\r.length<=m):
  ((eC c r n g x).1.parents.length<=m+1/\(eC c r n g x).1.rows.length<=m+1/\∀r'∈(eC c r n g x).1.rows,r'≠[]/\r'.length<=m+1)/\((eC c r n g x).2=aj (eC c r n g x).1.rows\/(eC c r n g x).2=bq (eC c r n g x).1)/\((¬c=5\/x.rows=[])->(eC c r n g x).2=bq (eC c r n g x).1):=by
 obtain⟨h1,h2,h3⟩:=hx;have h3':∀r∈x.rows,r≠[]/\r.length<=m+1:=fun r hr=>⟨(h3 r hr).1,by have:=(h3 r hr).2;omega⟩
 unfold eC;split
 ·exact⟨⟨by show x.parents.length<=_;omega,by show x.rows.length<=_;omega,h3'⟩,.inr rfl,fun _=>rfl⟩
 ·split
  ·exact⟨⟨by simp;omega,by show x.rows.length<=_;omega,h3'⟩,.inr rfl,fun _=>rfl⟩
  ·split
   ·exact⟨⟨by simp,by show x.rows.length<=_;omega,h3'⟩,.inr rfl,fun _=>rfl⟩
   ·split
    ·refine⟨⟨by show x.parents.length<=_;omega,by simp;omega,fun r hr=>?_⟩,.inr rfl,fun _=>rfl⟩;rcases S5.1 hr with h|h
     ·exact h3' r h
     ·obtain rfl:=List.mem_singleton.1 h;exact⟨by simp,by simp⟩
    ·split
     ·exact⟨⟨by show x.parents.length<=_;omega,by show x.rows.length<=_;omega,h3'⟩,.inr rfl,fun _=>rfl⟩
     ·rename_i q hq;have hql:=get_lt hq;split
      ·rename_i c5;refine⟨⟨by show x.parents.length<=_;omega,by simp;omega,fun r hr=>h3' r (S8 hr)⟩,.inl rfl,fun h=>?_⟩;rcases h with h|h
       ·exact absurd c5 h
       ·rw[h]at hql;simp at hql
      ·have hq2:=h3 q (SE hq);have hrb:=Lx (c:=c) (n:=n) (g:=g) hq2.1;have hne:x.rows.set (r % (x.rows.length:Int)).toNat (jF c n g q)≠[]:=fun h=>by
        have:=congrArg List.length h;rw[SO]at this;simp at this;rw[this]at hql;simp at hql
       refine⟨⟨by show x.parents.length<=_;omega,by show (x.rows.set _ _).length<=_;rw[SO];omega,fun r' hr=>?_⟩,.inl rfl,fun _=>(sB (x:={ x with rows:=x.rows.set (r % (x.rows.length:Int)).toNat (jF c n g q) }) hne).symm⟩;rcases Tg hr with h|rfl
       ·exact h3' r' h
       ·exact⟨hrb.1,by omega⟩
theorem Lz {ns:List NodeP}{A:Nat}{x:NodeP}(hx:ns[A]?=some x)(e:Nat->Prop):NodesQ e ns (bS ns A (aa x.card) (af x.parents) (bq x)):=by
 have:=ux (e:=e) (x':=x) (rv:=bq x) (get_lt hx) (.inr rfl) fun _=>rfl;rw[lh hx]at this;exact this
theorem Br {m A:Nat}{c r n g:Int}{ns:List NodeP}(hs:SmallN m ns):SmallN (m+1) (fq c A r n g ns).2.1/\NodesQ (fun v=>¬c=5\/∀x,ns[v]?=some x->x.rows=[]) (fq c A r n g ns).2.1 (fq c A r n g ns).2.2/\(fq c A r n g ns).2.1.length<=ns.length+1:=by
 have hs1:=hs.mono (Uc m);unfold fq;split
 ·exact⟨⟨by simp,fun x hx=>by simp at hx⟩,⟨rfl,fun v x hx=>by simp at hx⟩,by simp⟩
 ·rename_i x hx;have hA:=get_lt hx;have hxm:=hs.node x (SE hx);have nq:=Lz hx (fun v=>¬c=5\/∀x,ns[v]?=some x->x.rows=[]);split
  ·exact⟨hs1,nq,Uc _⟩
  ·split
   ·refine⟨⟨by have:=hs.len;simp;omega,fun y hy=>?_⟩,nq.snoc (x:=⟨1,[],[[g]]⟩) (.inr rfl) fun _=>rfl,by simp⟩;rcases S5.1 hy with hy|hy
    ·exact hs1.node y hy
    ·obtain rfl:=List.mem_singleton.1 hy;exact⟨by simp,by simp,fun r hr=>by simp at hr;subst hr;exact⟨by simp,by simp⟩⟩
   ·split
    ·exact⟨hs1.take _,nq.take _,by simp;omega⟩
    ·obtain⟨b1,b2,b3⟩:=Ly (c:=c) (r:=r) (n:=n) (g:=g) hxm;refine⟨hs1.set b1,ux hA b2 fun he=>b3 ?_,by rw[SO];exact Uc _⟩;rcases he with he|he
     ·exact .inl he
     ·exact .inr (he x hx)
theorem Lu {m:Nat}{c a n:Int}{us:List UtilP}(hu:UtilsS m us):UtilsS (m+5) (pZ c a n us):=by
 have hu5:∀u∈us,u.vars.length<=m+5/\u.w.length<=m+5:=fun u h=>by have:=hu.util u h;omega
 have hl:=hu.len;unfold pZ;split
 ·exact⟨by simp,fun u h=>by rw[Tr h];exact⟨by simp,by simp⟩⟩
 ·rename_i u hu0;have h0:=hu.util u (SE hu0);split
  ·refine⟨by rw[SO];omega,fun u' h=>?_⟩;rcases Tg h with h|rfl
   ·exact hu5 u' h
   ·exact⟨by simp;omega,by show u.w.length<=_;omega⟩
  ·split
   ·refine⟨by rw[SO];omega,fun u' h=>?_⟩;rcases Tg h with h|rfl
    ·exact hu5 u' h
    ·exact⟨by show u.vars.length<=_;omega,by show (u.w.set _ _).length<=_;rw[SO];omega⟩
   ·refine⟨by simp;omega,fun u' h=>?_⟩;rcases S5.1 (S8 h) with h|h
    ·exact hu5 u' h
    ·rw[Tr h];exact⟨by simp,by simp⟩
theorem Lv {m:Nat}{w w5 a r n5 n:Int}{d:InfP}(hm:m<2 ^ 29)(hs:SmallN m d.nodes)(hu:UtilsS m d.utils)(hd:d.decs<2 ^ 64)(hdec:∀v x,d.nodes[v]?=some x->d.decs.testBit v=true->x.rows=[]):
  InfFit (iZ w w5 a r n5 n d).1/\NodesQ (fun v=>(iZ w w5 a r n5 n d).1.decs.testBit v=true) (iZ w w5 a r n5 n d).1.nodes (iZ w w5 a r n5 n d).2/\(iZ w w5 a r n5 n d).1.nodes.length<=d.nodes.length+1:=by
 have fit:∀(g:Int) (ns:List NodeP) (D:Nat) (us:List UtilP),SmallN (m+1) ns->UtilsS (m+5) us->D<2 ^ 64->InfFit ⟨g,ns,D,us⟩:=fun g ns D us h1 h2 h3=>by
  refine⟨⟨by have:=h1.len;show (ns.length:Int)<_;omega,fun x hx=>?_⟩,h3,by have:=h2.len;show (us.length:Int)<_;omega,fun u hu=>?_⟩
  ·obtain⟨h1,h2,h3⟩:=h1.node x hx;exact⟨by omega,by omega,fun r hr=>by have:=(h3 r hr).2;omega⟩
  ·obtain⟨h1,h2⟩:=h2.util u hu;exact⟨by omega,by omega⟩
 have hu5:UtilsS (m+5) d.utils:=⟨by have:=hu.len;omega,fun u h=>by have:=hu.util u h;omega⟩
 unfold iZ;split
 ·obtain⟨b1,b2,b3⟩:=Br (m:=m) (A:=(a % (d.nodes.length:Int)).toNat) (c:=w5 % 12) (r:=r) (n:=n5) (g:=d.grain) hs;exact⟨fit _ _ _ _ b1 hu5 hd,b2.mono fun v hv=>.inr fun x hx=>hdec v x hx hv,b3⟩
 ·obtain⟨b1,b2,b3⟩:=Br (m:=m) (A:=0) (c:=0) (r:=0) (n:=d.grain) (g:=d.grain) hs;have hbn:(fq 0 0 0 d.grain d.grain d.nodes).2.1=d.nodes:=by
   unfold fq;split
   ·rename_i h;exact(SP (by have:=Ud.1 h;omega)).symm
   ·rfl
  rw[hbn]at b2;refine⟨fit _ _ _ _ (hs.mono (Uc m)) ?_ ?_,b2.mono fun v _=>.inl (by decide),Uc _⟩
  ·split
   ·exact hu5
   ·exact Lu hu
  ·split
   ·exact Vu hd (by omega)
   ·exact hd
theorem Lw {d:InfP}(h:InfOk d):SmallN 1024 d.nodes/\UtilsS 1024 d.utils/\∀v x,d.nodes[v]?=some x->d.decs.testBit v=true->x.rows=[]:=by
 have n8:=h.n.n1;have hsz:=h.net.size;rw[kg]at hsz;refine⟨⟨by omega,fun x hx=>?_⟩,⟨by have:=h.utils.1;omega,fun u hu=>?_⟩,fun v x hx hb=>(h.n.dec v x hx hb).1⟩
 ·obtain⟨v,hv⟩:=SW.1 hx;have hn:=h.net.node _ (SE (eW (c:=fun _ _=>0) hv));have hr:=h.net.rows _ (SE (eW (c:=fun _ _=>0) hv));rw[(gD ..).1,(gD ..).2,dB]at hn;unfold fO at hr;rw[pj]at hr;have hpl:=uW n8.2 hn.2 h.n.card;refine⟨by omega,?_⟩;by_cases hb:d.decs.testBit v=true
  ·rw[(h.n.dec v x hv hb).1];exact⟨by simp,fun r hr=>by cases hr⟩
  ·rw[kh hb]at hr;have:=sE hn.2 h.n.card;refine⟨by omega,fun r hr'=>?_⟩;have:=(hr.2 r hr').1;exact⟨fun e=>by rw[e]at this;simp at this;omega,by omega⟩
 ·have hu':=h.utils.2 u hu;have:=uW n8.2 hu'.vars h.n.card;have h2:=sE (x:=⟨0,u.vars,[]⟩) hu'.vars h.n.card;have h3:=hu'.size;have e:aP d.nodes ⟨0,u.vars,[]⟩=aI (ak d.nodes) u.vars:=rfl;rw[e]at h2;omega
end Go.Proofs
namespace Go.Proofs.R01
open Go.Hx Tryz
end Go.Proofs.R01
namespace Go.Proofs
open Go.Hx Tryz
theorem DQ {α:Type}{a b:List α}{k:Nat}{x:α}(h:a.take k=b.take k)(ha:a[k]?=some x)(hb:b[k]?=some x):a.take (k+1)=b.take (k+1):=by
 rw[aL ha,aL hb,h]
theorem DR {α:Type}{a b:List α}{k:Nat}(h:a.take k=b.take k)(ha:a.length<=k)(hb:b.length<=k):a=b:=by
 rw[SH ha,SH hb]at h;exact h
theorem yV (a b:List (List Int))(ha:(a.length:Int)<2 ^ 62)(har:∀r∈a,(r.length:Int)<2 ^ 62)(H:AHeap)(K:ARes->AHeap->Prop)(hK:K (.ret (.lit (.bool (decide (a=b))))) H):ag prog G0 17 [aj a,aj b] H K:=by
 refine ag.st (n:=53) (rs:=[.tmp 4]) func17 ?_;have no:a≠b->ar prog G0 H K (.lit (.bool false)) H:=fun h=>by
  rw[TD h]at hK;exact ar.mk (Nat.le_refl _) hK
 by_cases hl:(a.length:Int)=b.length;rotate_left
 ·simp only[go_sem,aj,hl];exact no fun h=>hl (by rw[h])
 simp only[go_sem,aj,hl];refine W.aG 9007199254737008 (by rfl) (fun ρ Hx=>Hx=H/\∃k:Nat,ρ 5=aa k/\k<=a.length/\a.take k=b.take k) (fun ρ H=>a.length-(iv (ρ 5)).toNat) ?_ ?_
 ·simp only[go_sem];exact⟨0,rfl,by omega,rfl⟩
 rintro ρ Hx ⟨rfl,k,h5,hk,he⟩;refine W.vs ?_;by_cases hb:(k:Int)<a.length;rotate_left
 ·simp only[go_sem,h5,hl];have hab:a=b:=DR he (by omega) (by omega);rw[Tm hab]at hK;have hb2:¬(k:Int)<b.length:=by omega
  simp only[go_sem,hb2];exact ar.mk (Nat.le_refl _) hK
 obtain⟨x,hx⟩:=get_of_lt (l:=a) (i:=k) (by omega);obtain⟨y,hy⟩:=get_of_lt (l:=b) (i:=k) (by omega);have hx':(a.map af)[k]?=some (af x):=by rw[List.getElem?_map,hx];rfl
 have hy':(b.map af)[k]?=some (af y):=by rw[List.getElem?_map,hy];rfl
 have hxn:=aJ hx;have hyn:=aJ hy;have hb2:(k:Int)<b.length:=by omega
 have hxr:=har x (SE hx);have w1:=SF ((k:Int)+1) (by omega);have nxy:x≠y->a≠b:=fun h e=>h (by subst e;rw[hx]at hy;exact Option.some.inj hy);simp only[go_sem,h5,hl,hb2];refine W.dr 10 [0,0,3,7,15,0,0,96,224,480] mixed ?_;by_cases hxy:(x.length:Int)=y.length;rotate_left
 ·simp only[go_sem,h5,hb,hb2,hx',hy',hxn,hyn,hxy];exact no (nxy fun e=>hxy (by rw[e]))
 simp only[go_sem,h5,hb,hb2,hx',hy',hxn,hyn,hxy];refine W.aG 9007198717870160 (by rfl) (fun ρ2 Hz=>Hz=Hx/\∃j:Nat,ρ2 6=aa j/\j<=x.length/\x.take j=y.take j) (fun ρ2 H=>x.length-(iv (ρ2 6)).toNat) ?_ ?_
 ·simp only[go_sem];exact⟨0,rfl,by omega,rfl⟩
 rintro ρ2 Hz ⟨rfl,j,h6,hj,he2⟩;refine W.vs ?_;by_cases hc:(j:Int)<y.length;rotate_left
 ·simp only[go_sem,h5,h6,hb,hx',hxn,hxy,hc,w1];have hxy2:x=y:=DR he2 (by omega) (by omega);exact⟨⟨k+1,by simp,by omega,DQ he hx (by rw[hxy2];exact hy)⟩,by omega⟩
 obtain⟨u,hu⟩:=get_of_lt (l:=x) (i:=j) (by omega);obtain⟨v,hv⟩:=get_of_lt (l:=y) (i:=j) (by omega);have hun:=aJ hu;have hvn:=aJ hv;have hc2:(j:Int)<x.length:=by omega
 have w2:=SF ((j:Int)+1) (by omega);simp only[go_sem,h5,h6,hb,hx',hxn,hxy,hc];refine W.dr 14 [0,0,3,7,0,31,63,0,0,384,896,0,3968,8064] mixed ?_;by_cases huv:u=v
 ·subst huv;simp only[go_sem,h5,h6,hb,hb2,hx',hy',hxn,hyn,hxy,hc,hu,hv,hun,hvn,w2];exact⟨⟨j+1,by simp,by omega,DQ he2 hu hv⟩,by omega⟩
 ·simp only[go_sem,h5,h6,hb,hb2,hx',hy',hxn,hyn,hxy,hc,hu,hv,hun,hvn,huv];exact no (nxy fun e=>huv (by subst e;rw[hu]at hv;exact Option.some.inj hv))
def oC (v:AVal)(a:List (List Int)):Prop:=v=aj a\/v=.lit (.slice none 0 0)/\a=[]
theorem oC.fz {v:AVal}{a:List (List Int)}(h:oC v a){S:Nat->Prop}{H:AHeap}{nx:Nat}:Fz S H nx v (aj a):=by
 rcases h with rfl|⟨rfl,rfl⟩
 ·exact .aj a
 ·exact .nil
theorem oC.one {v:AVal}{a:List (List Int)}(h:oC v a):v.one=true/\v.cells=[v]:=by
 rcases h with rfl|⟨rfl,_⟩<;>exact⟨rfl,rfl⟩
theorem SC {u v:AVal}{a b:List (List Int)}(hu:oC u a)(hv:oC v b)(ha:(a.length:Int)<2 ^ 62)(har:∀r∈a,(r.length:Int)<2 ^ 62)(H:AHeap)(K:ARes->AHeap->Prop)(hK:K (.ret (.lit (.bool (decide (a=b))))) H):ag prog G0 17 [u,v] H K :=
 ag.zu (args':=[aj a,aj b]) aE rfl (fun i hi _=>match i,hi with
  |0,_=>hu.fz
  |1,_=>hv.fz) (yV a b ha har H K hK)
def kI (nl:List Int)(l:List (Int × Int)):Bool:=l.all fun p=>decide (nl.getD p.1.toNat 0=p.2)
def iH (gs:List Int)(nls:List (List (Int × Int)))(nl:List Int)(k:Nat):Int:=SS k fun w=>if kI nl (nls.getD w [])=true then gs.getD w 0 else 0
theorem NV {nl:List Int}{l:List (Int × Int)}{j:Nat}{p:Int × Int}(h:l[j]?=some p):kI nl (l.take (j+1))=(kI nl (l.take j) && decide (nl.getD p.1.toNat 0=p.2)):=by
 unfold kI;rw[aL h];simp
theorem NW {nl:List Int}{l:List (Int × Int)}{j:Nat}{p:Int × Int}(h:l[j]?=some p)(hn:¬nl.getD p.1.toNat 0=p.2):kI nl l=false:=by
 unfold kI;refine Bool.eq_false_iff.2 fun h2=>hn ?_;exact of_decide_eq_true (Td.1 h2 p (SE h))
structure ValOk (gs:List Int)(nls:List (List (Int × Int)))(nl:List Int):Prop where
 gl:gs.length=nls.length
 len:nls.length<2 ^ 40
 row:∀l∈nls,l.length<2 ^ 40/\∀p∈l,0<=p.1/\p.1<nl.length
 nll:nl.length<2 ^ 40
 sum:∀k,k<=nls.length->-4611686018427387904<=iH gs nls nl k/\iH gs nls nl k<=4611686018427387904
def jc (l:List (Int × Int)):AVal:=.vec l.length (dQ l)
theorem NX (gs:List Int)(nls:List (List (Int × Int)))(nl:List Int)(hv:ValOk gs nls nl)(c ib nid gi gn:Nat)(cv:AVal)(H:AHeap)
  (g0:H.get c=some (.arr 0 119 [.own ib gi 0 nls.length 1,af gs,cv])) (g1:H.get ib=some (.arr gi 95 (nls.map jc))) (g2:H.get nid=some (.arr gn 3 (ints nl)))
  (K:ARes->AHeap->Prop) (hK:K (.ret (aa (iH gs nls nl nls.length))) H):ag prog G0 54 [.ptr c 0 0,.own nid gn 0 nl.length 1] H K:=by
 refine ag.clo ⟨_,func54,rfl,rfl⟩ fun hcl=>?_;have c0:=hcl.lt _ _ g0;have c1:=hcl.lt _ _ g1;have c2:=hcl.lt _ _ g2;have hnl:=hv.nll;have hln:=hv.len;have hgl:=hv.gl;have l0:=ah g0;have l1:=ah g1;have hml:(nls.map jc).length=nls.length:=SM ..;refine ag.st (n:=46) (rs:=[.tmp 4]) func54 ?_;simp only[go_sem,l0,l1];refine W.en (fun E=>E 0=.ptr c 0 0 /\ E 1=.own nid gn 0 nl.length 1 /\ E 5=aa 0 /\ E 13=.own ib gi 0 nls.length 1 /\ E 14=aa nls.length /\ E 15=aa 0) (by simp only[go_sem]) fun E ⟨e0,e1,e5,e13,e14,e15⟩=>?_
 refine W.aG 35184372056800 (by rfl) (fun ρ Hx=>∃w:Nat,ρ 15=aa w/\w<=nls.length/\Over H Hx/\ρ 5=aa (iH gs nls nl w)) (fun ρ H=>nls.length-(iv (ρ 15)).toNat) ?_ ?_
 ·exact⟨0,e15,by omega,.refl _,e5⟩
 rintro ρ Hx ⟨w,h15,hw,ov,h5⟩;refine W.en (fun E2=>E2 0=.ptr c 0 0 /\ E2 1=.own nid gn 0 nl.length 1 /\ E2 5=aa (iH gs nls nl w) /\ E2 13=.own ib gi 0 nls.length 1 /\ E2 14=aa nls.length /\ E2 15=aa w) (by simp only[go_sem,e0,e1,h5,e13,e14,h15]) fun E2 ⟨p0,p1,p5,p13,p14,p15⟩=>?_
 have x0:=(ov.live (g:=0) c0).trans l0;have x1:=(ov.live (g:=gi) c1).trans l1;have onx:=ov.next;refine W.vs ?_;by_cases hb:(w:Int)<nls.length;rotate_left
 ·simp only[go_sem,p5,p14,p15,hb];have he:w=nls.length:=by omega
  rw[he];exact ar.aV aE hcl ov (.lit _) hK
 obtain⟨l,hl⟩:=get_of_lt (l:=nls) (i:=w) (by omega);have hlg:(nls.map jc)[w]?=some (jc l):=by rw[List.getElem?_map,hl];rfl
 have hne:=aJ hl;obtain⟨hll,hlr⟩:=hv.row l (SE hl);obtain⟨gw,hgw⟩:=get_of_lt (l:=gs) (i:=w) (by omega);have gwi:(ints gs)[w]?=some (aa gw):=by unfold ints;rw[List.getElem?_map,hgw];rfl
 have w1:=SF ((w:Int)+1) (by omega);have hs1:=hv.sum w (by omega);have hs2:=hv.sum (w+1) (by omega);have hse:iH gs nls nl (w+1)=iH gs nls nl w+if kI nl l=true then gw else 0:=by
  unfold iH;rw[gS,bp hl,bp hgw]
 rw[hse]at hs2;simp only[go_sem,p13,p14,p15,hb,x1,hlg,jc];refine W.en (fun E3=>E3 0=.ptr c 0 0 /\ E3 1=.own nid gn 0 nl.length 1 /\ E3 5=aa (iH gs nls nl w) /\ E3 6=aa w /\ E3 13=.own ib gi 0 nls.length 1 /\ E3 14=aa nls.length /\ E3 15=aa w /\ E3 20=.vec l.length (dQ l) /\ E3 21=aa l.length /\ E3 22=aa 0) (by simp only[go_sem,p0,p1,p5,p13,p14,p15]) fun E3 ⟨q0,q1,q5,q6,q13,q14,q15,q20,q21,q22⟩=>?_
 refine W.aG 34355544576 (by rfl) (fun ρ Hy=>∃j:Nat,ρ 22=aa j/\j<=l.length/\Over Hx Hy/\kI nl (l.take j)=true) (fun ρ H=>l.length-(iv (ρ 22)).toNat) ?_ ?_
 ·exact⟨0,q22,by omega,.refl _,rfl⟩
 rintro ρ2 Hy ⟨j,h22,hj,oy,hok⟩;refine W.en (fun E4=>E4 0=.ptr c 0 0 /\ E4 1=.own nid gn 0 nl.length 1 /\ E4 5=aa (iH gs nls nl w) /\ E4 6=aa w /\ E4 13=.own ib gi 0 nls.length 1 /\ E4 14=aa nls.length /\ E4 15=aa w /\ E4 20=.vec l.length (dQ l) /\ E4 21=aa l.length /\ E4 22=aa j) (by simp only[go_sem,q0,q1,q5,q6,q13,q14,q15,q20,q21,h22]) fun E4 ⟨r0,r1,r5,r6,r13,r14,r15,r20,r21,r22⟩=>?_
 have oyn:=oy.next;have oyh:=ov.trans oy;have y0:=(oyh.live (g:=0) c0).trans l0;have y2:=(oyh.live (g:=gn) c2).trans (ah g2);refine W.vs ?_;by_cases hjb:(j:Int)<l.length;rotate_left
 ·have hje:j=l.length:=by omega
  rw[hje,SH (Nat.le_refl _)]at hok;rw[hok,SK rfl]at hs2 hse;have w2:=SF (iH gs nls nl w+gw) (by omega);have gne:=aJ hgw;simp only[go_sem,r0,r5,r6,r15,r21,r22,hjb,y0,gwi,w1,w2];exact⟨⟨by omega,gne⟩,by omega,⟨w+1,rfl,by omega,oyh,by rw[hse]⟩,by rw[h15];simp only[aa,aM];omega⟩
 obtain⟨p,hp⟩:=get_of_lt (l:=l) (i:=j) (by omega);obtain⟨hp0,hp1⟩:=hlr p (SE hp);obtain⟨a,ha⟩:=get_of_lt (l:=nl) (i:=p.1.toNat) (by omega);have c01:=uV hp;have c11:=yj hp;have cne:=yk hp;have w3:=SF ((j:Int)+1) (by omega);have nai:(ints nl)[p.1.toNat]?=some (aa a):=by unfold ints;rw[List.getElem?_map,ha];rfl
 have hpl:=Pk l;have cpr:(List.drop (j*2) (dQ l)).take 2=[aa p.1,aa p.2]:=by rw[jw c01,jw c11];rfl
 have hpe:p.1=(p.1.toNat:Int):=by omega
 simp only[go_sem,r20,r21,r22,hjb,cne];refine⟨by omega,?_⟩;rw[cpr];refine⟨⟨rfl,rfl,Nat.le_refl _⟩,?_⟩;have ly2:∀b,(ext Hy [b]).live nid gn=some (3,ints nl):=fun b=>ah ((bb (by omega)).trans ((oyh.old _ c2).trans g2));have nne:=aJ ha;have hna:nl.getD p.1.toNat 0=a:=bp ha;have oye:∀b,Over Hx (ext Hy [b]):=fun b=>oy.trans (.ext _ _);by_cases hm:a=p.2
 ·refine W.dr 7 [0,0,2,7,15,0,32] mixed ?_;simp only[go_sem,r1,r22,ly2,hp0,hp1,nai,hm,w3];exact⟨by omega,⟨j+1,rfl,by omega,oye _,by rw[NV hp,hok,hna,hm];simp⟩,by rw[h22];simp only[aa,aM];omega⟩
 ·rw[NW hp (by rw[hna];exact hm)]at hse;have hse':iH gs nls nl (w+1)=iH gs nls nl w:=by rw[hse];simp
  refine W.dr 7 [0,0,2,7,15,0,32] mixed ?_;simp only[go_sem,r1,r5,r15,ly2,hp0,hp1,nai,hm,w1];exact⟨by omega,⟨w+1,rfl,by omega,oyh.trans (.ext _ _),by rw[hse']⟩,by rw[h15];simp only[aa,aM];omega⟩
def cB:List (Int × Int)->Int->List (List Int)
 | [],_=>[]
 |p :: l,i=>((aR (List.replicate p.1.toNat p.2++cM l) i).take p.1.toNat) :: cB l i
theorem xE (l:List (Int × Int))(i:Int):(cB l i).length=l.length:=by
 induction l with
 |nil=>rfl
 |cons p l ih=>simp[cB,ih]
theorem xF (p:Int × Int)(l:List (Int × Int)):cM (p :: l)=List.replicate p.1.toNat p.2++cM l:=by unfold cM;simp
theorem xG {l:List (Int × Int)}(i:Int):∀ {k:Nat} {p:Int × Int},l[k]?=some p->(cB l i)[k]?=some ((aR (cM (l.drop k)) i).take p.1.toNat):=by
 induction l with
 |nil=>intro k p h;simp at h
 |cons q l ih =>
  intro k p h;cases k with
  |zero =>
   simp only[List.getElem?_cons_zero,Option.some.injEq]at h;subst h;rw[List.drop_zero,xF];rfl
  |succ k =>
   simp only[List.getElem?_cons_succ]at h;simp only[cB,List.getElem?_cons_succ,List.drop_succ_cons];exact ih h
theorem xH {cs:List Int}{k:Nat}{c:Int}(h:cs[k]?=some c)(i:Int):(aR cs i)[k]?=some (i / ao (cs.drop (k+1)) % c):=by
 induction cs generalizing k with
 |nil=>simp at h
 |cons d cs ih =>
  cases k with
  |zero =>
   simp only[List.getElem?_cons_zero,Option.some.injEq]at h;subst h;rfl
  |succ k =>
   simp only[List.getElem?_cons_succ]at h;simp only[List.drop_succ_cons];exact ih h
theorem LU {l:List (Int × Int)}(h:∀p∈l,1<=p.1/\1<=p.2)(i:Int):sF l (cB l i):=by
 refine⟨xE l i,fun k p r hp hr=>?_⟩;rw[xG i hp]at hr;cases hr;have hpp:=h p (SE hp);rw[jw hp,xF];refine⟨by rw[SN,kL,List.length_append,S6];omega,fun a ha=>?_⟩;obtain⟨j,hj⟩:=SW.1 ha;have hjl:=get_lt hj;rw[SN,kL]at hjl;rw[Tf (by omega)]at hj;have hc:(List.replicate p.1.toNat p.2++cM (l.drop (k+1)))[j]?=some p.2:=by rw[SU (by rw[S6];omega),TH,SK (by omega)]
 rw[xH hc]at hj;cases hj;exact⟨TP _ (by omega),TO _ (by omega)⟩
structure DPr where
 N:Nat
 K:Nat
 cs:Nat->Nat
 cd:Nat->Nat
 cas:Nat->Nat->Nat
 cho:Nat->Nat->Nat
 gain:Nat->Int
 wt:Nat->Int
def DPr.br (D:DPr)(k w:Nat):Nat:=D.cas k w*D.cd k+D.cho k w
structure DPr.Ok (D:DPr):Prop where
 cas:∀k w,k<D.K->w<D.N->D.cas k w<D.cs k
 cho:∀k w,k<D.K->w<D.N->D.cho k w<D.cd k
 cd:∀k,k<D.K->1<=D.cd k
 wt:∀w,w<D.N->0<=D.wt w/\(D.wt w=0->D.gain w=0)
structure DTab where
 above:Nat->Nat->Nat
 occ:Nat->Nat->Bool
 E:Nat->Nat->Int
 B:Nat->Nat->Int
 T:Int
structure DTab.Ok (D:DPr)(t:DTab):Prop where
 above:∀k w,k+1<D.K->w<D.N->t.above (k+1) (D.cas (k+1) w)=D.br k w
 occ:∀k c,k<D.K->c<D.cs k->t.occ k c=false->∀w,w<D.N->D.cas k w=c->D.wt w=0
 last:∀k b,k+1=D.K->t.E k b=SS D.N fun w=>if D.br k w=b then D.gain w else 0
 step:∀k b,k+1<D.K->t.E k b=SS (D.cs (k+1)) fun c=>if t.above (k+1) c=b then t.B (k+1) c else 0
 ge:∀k c x,k<D.K->c<D.cs k->x<D.cd k->t.E k (c*D.cd k+x)<=t.B k c
 at':∀k c,k<D.K->c<D.cs k->∃x,x<D.cd k/\t.E k (c*D.cd k+x)=t.B k c
 tot:t.T=if D.K=0 then SS D.N D.gain else SS (D.cs 0) (t.B 0)
abbrev nY:=Nat->Nat->Nat
def nY.Ok (D:DPr)(p:nY):Prop:=∀k c,k<D.K->c<D.cs k->p k c<D.cd k
def DPr.Dh (D:DPr)(p:nY)(k w:Nat):Bool:=(List.range D.K).all fun j=>decide (j<k) ||decide (p j (D.cas j w)=D.cho j w)
def DPr.s (D:DPr)(p:nY)(k b:Nat):Int:=SS D.N fun w=>if D.br k w=b/\D.Dh p (k+1) w=true then D.gain w else 0
def DPr.total (D:DPr)(p:nY):Int:=SS D.N fun w=>if D.Dh p 0 w=true then D.gain w else 0
abbrev Ch:=Nat->Nat->Option Nat
def yA (D:DPr)(t:DTab)(ch:Ch):Nat->Nat->Nat->Bool
 |0,_,_=>true
 |n+1,k,c=>(List.range (D.cd k)).any fun x=>decide (t.E k (c*D.cd k+x)=t.B k c) &&
   !((List.range (D.cs (k+1))).any fun c'=>decide (t.above (k+1) c'=c*D.cd k+x) && t.occ (k+1) c' && !yA D t ch n (k+1) c') &&
   (match ch k c with|none=>true|some y=>decide (y=x))
def mJ (D:DPr)(t:DTab)(ch:Ch)(n k c x:Nat):Prop:=t.E k (c*D.cd k+x)=t.B k c/\(∀c',c'<D.cs (k+1)->t.above (k+1) c'=c*D.cd k+x->t.occ (k+1) c'=true->yA D t ch n (k+1) c'=true)/\(∀y,ch k c=some y->y=x)
def Qd (D:DPr)(ch:Ch)(p:nY):Prop:=∀k c y,k<D.K->c<D.cs k->ch k c=some y->y=p k c
def Qe (D:DPr)(t:DTab)(ch:Ch):Prop:=0<D.K->∀c,c<D.cs 0->t.occ 0 c=true->yA D t ch D.K 0 c=true
end Go.Proofs
set_option linter.unusedVariables false
namespace Go.Proofs
open Go.Hx Go.RowKit Go.Lib
end Go.Proofs
namespace Go.Proofs
open Go.Hx Tryz
def uC (d:InfP)(v:Nat):Nat:=match d.nodes[v]? with
 |some x=>cS x.parents
 |none=>0
def xI (d:InfP)(need v:Nat):Prop:=need.testBit v=false/\uC d v &&& need=need/\uC d v &&& d.decs=need &&& d.decs
instance (d:InfP)(need v:Nat):Decidable (xI d need v):=by unfold xI;infer_instance
theorem LV {d:InfP}{v:Nat}:v∈az d↔v<d.nodes.length/\d.decs.testBit v=true:=eI
def qd (d:InfP)(l:List Nat):Nat:=l.foldl (fun n v=>n |||(uC d v |||2 ^ v)) 0
def nG (l:List Nat):Nat:=l.foldl (fun n v=>n |||2 ^ v) 0
theorem LW (d:InfP)(l:List Nat)(v:Nat):qd d (l++[v])=qd d l |||(uC d v |||2 ^ v):=by unfold qd;rw[TT];rfl
theorem LX (l:List Nat)(v:Nat):nG (l++[v])=nG l |||2 ^ v:=by unfold nG;rw[TT];rfl
def se (d:InfP)(r:List Nat):Prop:=∀(i v:Nat),r[i]?=some v->v∈az d/\xI d (qd d (r.take i)) v
theorem LY {d:InfP}{v:Nat}(hv:v∈az d):2 ^ v &&& d.decs=2 ^ v:=by
 refine Ux fun i=>?_;rw[VL,Vs];by_cases h:v=i
 ·subst h;rw[(LV.1 hv).2];simp
 ·simp[h]
theorem Bw (a b c:Nat):(a |||b) &&& c=(a &&& c) |||(b &&& c):=by
 refine Ux fun i=>?_;simp only[VL,Ul];cases a.testBit i<;>cases b.testBit i<;>cases c.testBit i<;>rfl
theorem se.all {d:InfP}{r:List Nat}(h:se d r):∀k,k<=r.length->qd d (r.take k) &&& d.decs=nG (r.take k):=by
 intro k
 induction k with
 |zero=>intro _;simp[qd,nG]
 |succ k ih =>
  intro hk;obtain⟨v,hv⟩:=get_of_lt (l:=r) (i:=k) (by omega);obtain⟨h1,h2,h3,h4⟩:=h k v hv;rw[aL hv,LW,LX,Bw,Bw,h4,LY h1,ih (by omega)];refine Ux fun i=>?_;simp only[Ul];cases (nG (r.take k)).testBit i<;>simp
theorem se.new {d:InfP}{r:List Nat}(h:se d r){k v:Nat}(hv:r[k]?=some v):(nG (r.take k)).testBit v=false:=by
 obtain⟨h1,h2,_⟩:=h k v hv;rw[<- h.all k (by have:=get_lt hv;omega),VL,h2];rfl
def yB (d:InfP)(r:List Nat):DPr where
 N:=bh d.nodes
 K:=r.length
 cs k:=bT d (r.getD k 0)
 cd k:=bV d (r.getD k 0)
 cas k w:=dk d.nodes (r.getD k 0) (wv d w)
 cho k w:=((wv d w).getD (r.getD k 0) 0).toNat
 gain w:=fL d (wv d w)
 wt w:=eT d (wv d w)
structure OrdR (d:InfP)(r:List Nat):Prop where
 ro:se d r
 all:nG r=d.decs
def Di (D:DPr)(k w:Nat):Nat:=if k=0 then 0 else D.br (k-1) w
structure DPr.Rec (D:DPr):Prop where
 up:∀k w w',k<D.K->w<D.N->w'<D.N->D.cas k w=D.cas k w'->Di D k w=Di D k w'
def Qf (D:DPr)(ch:Ch):Prop:=∀k c y,k<D.K->c<D.cs k->ch k c=some y->y<D.cd k
def Qg (D:DPr)(t:DTab)(q:nY):Prop:=q.Ok D/\D.total q=t.T
structure Chosen (D:DPr)(t:DTab)(pos:List (Nat × Nat))(ch:Ch):Prop where
 rng:Qf D ch
 fe:Qe D t ch
 made:∀k c,(k,c)∈pos->∃y,ch k c=some y
 opn:∀k c,(k,c) ∉ pos->ch k c=none
 lex:∀q:nY,Qg D t q->Qd D ch q\/∃(j k c y:Nat),pos[j]?=some (k,c)/\ch k c=some y/\y<q k c/\∀(i k' c' y':Nat),i<j->pos[i]?=some (k',c')->ch k' c'=some y'->y'=q k' c'
def QZ (l:List Bool):List AVal:=l.map fun b=>.lit (.bool b)
structure TabS where
 ab:Nat->List Int
 oc:Nat->List Bool
 ex:Nat->List Int
 be:Nat->List Int
 ch:Nat->List Int
def ko (T:TabS)(k:Nat):Nat->Blk
 |1=>.arr 0 3 (ints (T.ab k))
 |2=>.arr 0 4 (QZ (T.oc k))
 |3=>.arr 0 3 (ints (T.ex k))
 |4=>.arr 0 3 (ints (T.be k))
 |_=>.arr 0 3 (ints (T.ch k))
def Q0 (D:DPr)(r:List Nat)(I:Nat->Nat->Nat)(k:Nat):List AVal :=
 [.lit (.int .i64 (r.getD k 0:Nat)),.lit (.int .i64 (D.cd k:Nat)),.own (I k 1) 0 0 (D.cs k) 1,.own (I k 2) 0 0 (D.cs k) 1,.own (I k 3) 0 0 (D.cs k*D.cd k) 1,.own (I k 4) 0 0 (D.cs k) 1,.own (I k 5) 0 0 (D.cs k) 1]
def yR (I:Nat->Nat->Nat)(n:Nat):List AVal:=(List.range n).map fun k=>.ptr (I k 0) 0 0
theorem Q1 (I:Nat->Nat->Nat)(n:Nat):(yR I n).length=n:=by simp[yR]
structure TabS.Len (D:DPr)(n:Nat)(T:TabS):Prop where
 ab:∀k,k<n->(T.ab k).length=D.cs k
 oc:∀k,k<n->(T.oc k).length=D.cs k
 ex:∀k,k<n->(T.ex k).length=D.cs k*D.cd k
 be:∀k,k<n->(T.be k).length=D.cs k
 ch:∀k,k<n->(T.ch k).length=D.cs k
structure LevH (D:DPr)(r:List Nat)(lo n:Nat)(I:Nat->Nat->Nat)(T:TabS)(H:AHeap):Prop where
 inj:∀k j k' j',k<n->k'<n->j<6->j'<6->I k j=I k' j'->k=k'/\j=j'
 rng:∀k j,k<n->j<6->lo<=I k j/\I k j<H.next
 lev:∀k,k<n->H.get (I k 0)=some (.arr 0 182 (Q0 D r I k))
 tab:∀k j,k<n->1<=j->j<6->H.get (I k j)=some (ko T k j)
 len:T.Len D n
theorem LevH.keep {D:DPr}{r:List Nat}{lo n:Nat}{I:Nat->Nat->Nat}{T:TabS}{H H':AHeap}(h:LevH D r lo n I T H)(hn:H.next<=H'.next)(hk:∀k j,k<n->j<6->H'.get (I k j)=H.get (I k j)):LevH D r lo n I T H' :=
 ⟨h.inj,fun k j h1 h2=>by have:=h.rng k j h1 h2;omega,fun k h1=>by rw[hk k 0 h1 (by omega)];exact h.lev k h1,fun k j h1 h2 h3=>by rw[hk k j h1 h3];exact h.tab k j h1 h2 h3,h.len⟩
theorem LevH.upd {D:DPr}{r:List Nat}{lo n:Nat}{I:Nat->Nat->Nat}{T T':TabS}{H H':AHeap}(h:LevH D r lo n I T H){k0 j0:Nat}(hk:k0<n)(hj1:1<=j0)(hj:j0<6)(hn:H'.next=H.next)(ho:∀i,i≠I k0 j0->H'.get i=H.get i)(hb:H'.get (I k0 j0)=some (ko T' k0 j0))
  (hT:∀k j,k<n->1<=j->j<6->¬(k=k0/\j=j0)->ko T' k j=ko T k j) (hl:T'.Len D n):LevH D r lo n I T' H':=by
 have key:∀k j,k<n->j<6->¬(k=k0/\j=j0)->H'.get (I k j)=H.get (I k j):=fun k j h1 h2 h3=>ho _ fun e=>h3 (h.inj k j k0 j0 h1 hk h2 hj e);refine⟨h.inj,fun k j h1 h2=>by rw[hn];exact h.rng k j h1 h2,fun k h1=>by rw[key k 0 h1 (by omega) (by omega)];exact h.lev k h1,fun k j h1 h2 h3=>?_,hl⟩;by_cases e:k=k0/\j=j0
 ·obtain⟨rfl,rfl⟩:=e;exact hb
 ·rw[key k j h1 h3 e,hT k j h1 h2 h3 e];exact h.tab k j h1 h2 h3
theorem LevH.Q2 {D:DPr}{r:List Nat}{lo n:Nat}{I:Nat->Nat->Nat}{T T':TabS}{H:AHeap}(h:LevH D r lo n I T H){k0 j0:Nat}(hk:k0<n)(hj1:1<=j0)(hj:j0<6)
  (hT:∀k j,k<n->1<=j->j<6->¬(k=k0/\j=j0)->ko T' k j=ko T k j) (hl:T'.Len D n):LevH D r lo n I T' (H.upd (I k0 j0) (ko T' k0 j0)) :=
 h.upd hk hj1 hj (au ..) (fun i hi=>by rw[ae,SI hi]) (by rw[ae,SK rfl]) hT hl
structure SolvH (d:InfP)(r:List Nat)(lo s:Nat)(lvh:AVal)(I:Nat->Nat->Nat)(T:TabS)(tot:Int)(H:AHeap):Prop where
 top:H.get s=some (.arr 0 178 [.lit (.int .i64 d.grain),.vec d.nodes.length (aF d.nodes),.lit (.int .u64 (d.decs:Int)),.vec d.utils.length (aO d.utils),lvh,af (fP d),af (dI d),.lit (.int .i64 tot)])
 slo:lo<=s/\s<H.next
 lv:ay lo H 179 lvh (yR I r.length)
 sep:∀k j,k<r.length->j<6->s≠I k j
 sepl:∀id g n,lvh=.own id g 0 n 1->id≠s/\∀k j,k<r.length->j<6->id≠I k j
 levs:LevH (yB d r) r lo r.length I T H
theorem SolvH.keep {d:InfP}{r:List Nat}{lo s:Nat}{lvh:AVal}{I:Nat->Nat->Nat}{T:TabS}{tot:Int}{H H':AHeap}(h:SolvH d r lo s lvh I T tot H)(hn:H.next<=H'.next)(hk:∀i,lo<=i->i<H.next->H'.get i=H.get i):SolvH d r lo s lvh I T tot H' :=
 ⟨by rw[hk s h.slo.1 h.slo.2];exact h.top,by have:=h.slo;omega,h.lv.keep (Nat.le_refl _) hn fun i g h1 h2 _ _=>hk i h1 h2,h.sep,h.sepl,h.levs.keep hn fun k j h1 h2=>by have:=h.levs.rng k j h1 h2;exact hk _ this.1 this.2⟩
theorem SolvH.upd {d:InfP}{r:List Nat}{lo s:Nat}{lvh:AVal}{I:Nat->Nat->Nat}{T T':TabS}{tot:Int}{H:AHeap}(h:SolvH d r lo s lvh I T tot H){k0 j0:Nat}(hk:k0<r.length)(hj1:1<=j0)(hj:j0<6)
  (hT:∀k j,k<r.length->1<=j->j<6->¬(k=k0/\j=j0)->ko T' k j=ko T k j) (hl:T'.Len (yB d r) r.length):SolvH d r lo s lvh I T' tot (H.upd (I k0 j0) (ko T' k0 j0)) :=
 ⟨by rw[ae,SI (h.sep k0 j0 hk hj)];exact h.top,by rw[au];exact h.slo,h.lv.keep (Nat.le_refl _) (by rw[au];exact Nat.le_refl _) fun i g h1 h2 _ hv=>by rw[ae,SI ((h.sepl _ _ _ hv).2 k0 j0 hk hj)],h.sep,h.sepl,h.levs.Q2 hk hj1 hj hT hl⟩
def Q3 (n:Nat)(T T':TabS):Prop:=∀k j,k<n->ko T k j=ko T' k j
theorem SolvH.same {d:InfP}{r:List Nat}{lo s:Nat}{lvh:AVal}{I:Nat->Nat->Nat}{T T':TabS}{tot:Int}{H:AHeap}(h:SolvH d r lo s lvh I T tot H)(ht:Q3 r.length T T')(hl:T'.Len (yB d r) r.length):SolvH d r lo s lvh I T' tot H :=
 ⟨h.top,h.slo,h.lv,h.sep,h.sepl,⟨h.levs.inj,h.levs.rng,h.levs.lev,fun k j h1 h2 h3=>by rw[<- ht k j h1];exact h.levs.tab k j h1 h2 h3,hl⟩⟩
theorem SolvH.len {d:InfP}{r:List Nat}{lo s:Nat}{lvh:AVal}{I:Nat->Nat->Nat}{T:TabS}{tot:Int}{H:AHeap}(h:SolvH d r lo s lvh I T tot H):dY H lvh=some (aa r.length):=by
 have hpl:=Q1 I r.length;rcases h.lv with ⟨h1,h2⟩|⟨id,g,_,_,h1,h2⟩
 ·have:r.length=0:=by rw[<- hpl,h2];rfl
  rw[h1,this];rfl
 ·rw[h1];unfold dY;simp[ah h2,hpl,aa]
end Go.Proofs
namespace Go.Hx
variable {P:Program} {t:TypeId} {x y:Operand} {k':IntKind} {a:Int}
theorem yS (h:0<=a/\a<4294967296):bx P .and t x y (.lit (.int .u64 a)) (.lit (.int .u64 4294967295))=some (.lit (.int .u64 a)):=by
 obtain⟨n,rfl⟩:=SR h.1;rw[tt];have e1:(BitVec.ofInt 64 (n:Int)).toNat=n:=by rw[BitVec.ofInt_natCast,BitVec.toNat_ofNat,UY (by omega)]
 have e:(BitVec.ofInt (IntKind.bits .u64) (n:Int) &&& BitVec.ofInt (IntKind.bits .u64) 4294967295).toNat=n:=by
  show (BitVec.ofInt 64 (n:Int) &&& BitVec.ofInt 64 ((4294967295:Nat):Int)).toNat=n;rw[BitVec.toNat_and,e1,show (BitVec.ofInt 64 ((4294967295:Nat):Int)).toNat=2 ^ 32-1 by rfl,Nat.and_two_pow_sub_one_eq_mod];omega
 rw[e,Ue _ (by omega)]
theorem ti (h:0<=a/\a<4294967296):bx P .shr t x y (.lit (.int .u64 a)) (.lit (.int k' 32))=some (.lit (.int .u64 0)):=by
 rw[tq (by decide)];have e:a.fdiv (2 ^ (min (32:Int).toNat (IntKind.bits .u64)))=a / 4294967296:=VR a (by decide);rw[e,UT h.1 h.2]
end Go.Hx
namespace Go.Proofs
open Go.Hx Tryz
theorem Q4 (y:Nat)(hy:y<4294967296)(H:AHeap)(K:ARes->AHeap->Prop)(hK:K (.ret (.tup [.lit (.int .u64 0),.lit (.int .u64 y)])) H):ag prog G0 145 [.lit (.int .u64 1),.lit (.int .u64 y)] H K:=by
 have ky:(0:Int)<=(y:Int)/\(y:Int)<4294967296:=by omega
 have k1:(0:Int)<=(1:Int)/\(1:Int)<4294967296:=by omega
 have k0:(0:Int)<=(0:Int)/\(0:Int)<4294967296:=by omega
 have v:=Ue (y:Int) (by omega);have z1:IntKind.u64.wrap 0=0:=rfl;refine ag.sw (n:=51) (rs:=[.tmp 4,.tmp 5]) func145 ?_;refine W.sq ?_;simp only[go_sem];refine W.env fun E0 hE0=>?_;have a0_0:E0 0=.lit (.int .u64 1):=by rw[hE0];rfl
 have a0_1:E0 1=.lit (.int .u64 y):=by rw[hE0];rfl
 clear hE0;refine W.sq ?_;simp only[go_sem,a0_0,yS,k1];refine W.env fun E1 hE1=>?_;have a1_0:E1 0=.lit (.int .u64 1):=by rw[hE1];exact a0_0
 have a1_1:E1 1=.lit (.int .u64 y):=by rw[hE1];exact a0_1
 have a1_6:E1 6=.lit (.int .u64 1):=by rw[hE1];rfl
 clear hE1;refine W.sq ?_;simp only[go_sem,a1_0,ti,k1];refine W.env fun E2 hE2=>?_;have a2_0:E2 0=.lit (.int .u64 1):=by rw[hE2];exact a1_0
 have a2_1:E2 1=.lit (.int .u64 y):=by rw[hE2];exact a1_1
 have a2_6:E2 6=.lit (.int .u64 1):=by rw[hE2];exact a1_6
 have a2_7:E2 7=.lit (.int .u64 0):=by rw[hE2];rfl
 clear hE2;refine W.sq ?_;simp only[go_sem,a2_1,yS,ky];refine W.env fun E3 hE3=>?_;have a3_0:E3 0=.lit (.int .u64 1):=by rw[hE3];exact a2_0
 have a3_1:E3 1=.lit (.int .u64 y):=by rw[hE3];exact a2_1
 have a3_6:E3 6=.lit (.int .u64 1):=by rw[hE3];exact a2_6
 have a3_7:E3 7=.lit (.int .u64 0):=by rw[hE3];exact a2_7
 have a3_8:E3 8=.lit (.int .u64 y):=by rw[hE3];rfl
 clear hE3;refine W.sq ?_;simp only[go_sem,a3_1,ti,ky];refine W.env fun E4 hE4=>?_;have a4_0:E4 0=.lit (.int .u64 1):=by rw[hE4];exact a3_0
 have a4_1:E4 1=.lit (.int .u64 y):=by rw[hE4];exact a3_1
 have a4_6:E4 6=.lit (.int .u64 1):=by rw[hE4];exact a3_6
 have a4_7:E4 7=.lit (.int .u64 0):=by rw[hE4];exact a3_7
 have a4_8:E4 8=.lit (.int .u64 y):=by rw[hE4];exact a3_8
 have a4_9:E4 9=.lit (.int .u64 0):=by rw[hE4];rfl
 clear hE4;refine W.sq ?_;simp only[go_sem,a4_6,a4_8,v,U4];refine W.env fun E5 hE5=>?_;have a5_0:E5 0=.lit (.int .u64 1):=by rw[hE5];exact a4_0
 have a5_1:E5 1=.lit (.int .u64 y):=by rw[hE5];exact a4_1
 have a5_6:E5 6=.lit (.int .u64 1):=by rw[hE5];exact a4_6
 have a5_7:E5 7=.lit (.int .u64 0):=by rw[hE5];exact a4_7
 have a5_8:E5 8=.lit (.int .u64 y):=by rw[hE5];exact a4_8
 have a5_9:E5 9=.lit (.int .u64 0):=by rw[hE5];exact a4_9
 have a5_10:E5 10=.lit (.int .u64 y):=by rw[hE5];rfl
 clear hE5;refine W.sq ?_;simp only[go_sem,a5_7,a5_8,a5_10,ti,ky,z1,V6,Ug];refine W.env fun E6 hE6=>?_;have a6_0:E6 0=.lit (.int .u64 1):=by rw[hE6];exact a5_0
 have a6_1:E6 1=.lit (.int .u64 y):=by rw[hE6];exact a5_1
 have a6_6:E6 6=.lit (.int .u64 1):=by rw[hE6];exact a5_6
 have a6_7:E6 7=.lit (.int .u64 0):=by rw[hE6];exact a5_7
 have a6_8:E6 8=.lit (.int .u64 y):=by rw[hE6];exact a5_8
 have a6_9:E6 9=.lit (.int .u64 0):=by rw[hE6];exact a5_9
 have a6_10:E6 10=.lit (.int .u64 y):=by rw[hE6];exact a5_10
 have a6_11:E6 11=.lit (.int .u64 0):=by rw[hE6];rfl
 clear hE6;refine W.sq ?_;simp only[go_sem,a6_11,yS,k0];refine W.env fun E7 hE7=>?_;have a7_0:E7 0=.lit (.int .u64 1):=by rw[hE7];exact a6_0
 have a7_1:E7 1=.lit (.int .u64 y):=by rw[hE7];exact a6_1
 have a7_6:E7 6=.lit (.int .u64 1):=by rw[hE7];exact a6_6
 have a7_7:E7 7=.lit (.int .u64 0):=by rw[hE7];exact a6_7
 have a7_8:E7 8=.lit (.int .u64 y):=by rw[hE7];exact a6_8
 have a7_9:E7 9=.lit (.int .u64 0):=by rw[hE7];exact a6_9
 have a7_10:E7 10=.lit (.int .u64 y):=by rw[hE7];exact a6_10
 have a7_11:E7 11=.lit (.int .u64 0):=by rw[hE7];exact a6_11
 have a7_12:E7 12=.lit (.int .u64 0):=by rw[hE7];rfl
 clear hE7;refine W.sq ?_;simp only[go_sem,a7_11,ti,k0];refine W.env fun E8 hE8=>?_;have a8_0:E8 0=.lit (.int .u64 1):=by rw[hE8];exact a7_0
 have a8_1:E8 1=.lit (.int .u64 y):=by rw[hE8];exact a7_1
 have a8_6:E8 6=.lit (.int .u64 1):=by rw[hE8];exact a7_6
 have a8_7:E8 7=.lit (.int .u64 0):=by rw[hE8];exact a7_7
 have a8_8:E8 8=.lit (.int .u64 y):=by rw[hE8];exact a7_8
 have a8_9:E8 9=.lit (.int .u64 0):=by rw[hE8];exact a7_9
 have a8_10:E8 10=.lit (.int .u64 y):=by rw[hE8];exact a7_10
 have a8_11:E8 11=.lit (.int .u64 0):=by rw[hE8];exact a7_11
 have a8_12:E8 12=.lit (.int .u64 0):=by rw[hE8];exact a7_12
 have a8_13:E8 13=.lit (.int .u64 0):=by rw[hE8];rfl
 clear hE8;refine W.sq ?_;simp only[go_sem,a8_6,a8_9,a8_12,z1,VD,Ug];refine W.env fun E9 hE9=>?_;have a9_0:E9 0=.lit (.int .u64 1):=by rw[hE9];exact a8_0
 have a9_1:E9 1=.lit (.int .u64 y):=by rw[hE9];exact a8_1
 have a9_6:E9 6=.lit (.int .u64 1):=by rw[hE9];exact a8_6
 have a9_7:E9 7=.lit (.int .u64 0):=by rw[hE9];exact a8_7
 have a9_8:E9 8=.lit (.int .u64 y):=by rw[hE9];exact a8_8
 have a9_9:E9 9=.lit (.int .u64 0):=by rw[hE9];exact a8_9
 have a9_10:E9 10=.lit (.int .u64 y):=by rw[hE9];exact a8_10
 have a9_11:E9 11=.lit (.int .u64 0):=by rw[hE9];exact a8_11
 have a9_12:E9 12=.lit (.int .u64 0):=by rw[hE9];rfl
 have a9_13:E9 13=.lit (.int .u64 0):=by rw[hE9];exact a8_13
 clear hE9;refine W.sq ?_;simp only[go_sem,a9_7,a9_9,a9_12,a9_13,ti,k0,z1,VD,Ug];refine W.env fun E10 hE10=>?_;have a10_0:E10 0=.lit (.int .u64 1):=by rw[hE10];exact a9_0
 have a10_1:E10 1=.lit (.int .u64 y):=by rw[hE10];exact a9_1
 have a10_6:E10 6=.lit (.int .u64 1):=by rw[hE10];exact a9_6
 have a10_7:E10 7=.lit (.int .u64 0):=by rw[hE10];exact a9_7
 have a10_8:E10 8=.lit (.int .u64 y):=by rw[hE10];exact a9_8
 have a10_9:E10 9=.lit (.int .u64 0):=by rw[hE10];exact a9_9
 have a10_10:E10 10=.lit (.int .u64 y):=by rw[hE10];exact a9_10
 have a10_11:E10 11=.lit (.int .u64 0):=by rw[hE10];exact a9_11
 have a10_12:E10 12=.lit (.int .u64 0):=by rw[hE10];exact a9_12
 have a10_13:E10 13=.lit (.int .u64 0):=by rw[hE10];exact a9_13
 have a10_4:E10 4=.lit (.int .u64 0):=by rw[hE10];rfl
 clear hE10;refine W.vs ?_;simp only[go_sem,a10_0,a10_1,a10_4,v,U4];exact ar.mk (Nat.le_refl _) hK
theorem Q5 (y:Nat)(hy:y<4294967296)(H:AHeap)(K:ARes->AHeap->Prop)(hK:K (.ret (.tup [.lit (.int .u64 0),.lit (.int .u64 y)])) H):ag prog G0 130 [.lit (.int .u64 1),.lit (.int .u64 y)] H K:=by
 have v:=Ue (y:Int) (by omega);have z1:IntKind.u64.wrap 0=0:=rfl;have z2:IntKind.u64.wrap 1=1:=rfl;refine ag.st (n:=30) (rs:=[.tmp 4,.tmp 5]) func130 ?_;simp only[go_sem];refine aw.clo (Q4 y hy _ _ ⟨trivial,?_⟩);simp only[go_sem];exact ar.mk (Nat.le_refl _) hK
def iR (a:Int)(m n:Nat):List Int:=List.replicate n a++List.replicate (m-n) 0
theorem DI {a:Int}{m n:Nat}(h:n<=m):(iR a m n).length=m:=by unfold iR;simp;omega
theorem Q6 {a:Int}{m n:Nat}(h:n<=m):setAt (ints (iR a m n)) n (((ints (iR a m n)).take n).take (min n (m-n)))=ints (iR a m (n+min n (m-n))):=by
 unfold iR ints setAt;simp only[Tq,UQ,List.length_append,S6,SN];apply List.ext_getElem
 ·simp;omega
 ·intro i h1 h2;simp[List.getElem_append,Un];split
  ·rfl
  ·rw[SI (by omega)]
theorem Q7 (a:Int)(m:Nat)(hm:1<=m/\m<2 ^ 30)(H:AHeap)(K:ARes->AHeap->Prop)(hK:K (.ret (.own H.next 0 0 m 1)) (ext H [.arr 0 3 (ints (List.replicate m a))])):
  ag prog G0 95 [af [a],aa m] H K:=by
 have v:=Ue (m:Int) (by omega);have z2:IntKind.u64.wrap 1=1:=rfl;have v2:=SF (m:Int) (by omega);have h0:¬(m:Int)<0:=by omega
 have h9:¬(9223372036854775807:Int)<(m:Int):=by omega
 refine ag.sw (n:=48) (rs:=[.tmp 4]) func95 ?_;refine W.sq ?_;simp only[go_sem];refine W.sq ?_;simp only[go_sem,h0];refine W.sq ?_;simp only[go_sem,v,z2];refine aw.clo (Q5 m (by omega) _ _ ⟨trivial,?_⟩);simp only[go_sem];refine W.sq ?_;simp only[go_sem,h9];have hm0:(0:Int)<=m:=by omega
 refine W.sq ?_;simp only[go_sem,v2,hm0];refine⟨by omega,?_⟩;obtain⟨H1,hH1⟩:∃H1,H1=ext H [.arr 0 3 (List.replicate m (.lit (.int .i64 0)))]:=⟨_,rfl⟩
 have e0:List.replicate m (AVal.lit (.int .i64 0))=ints (iR a m 0):=by simp[iR,ints,aa]
 have g1:H1.get H.next=some (.arr 0 3 (ints (iR a m 0))):=by rw[hH1,<- e0];exact bX
 have n1:H1.next=H.next+1:=hH1▸rfl
 have ex1:∀(b:Blk) (i:Nat),i≠H.next->(ext H [b]).get i=H.get i:=fun b i h=>by
  unfold ext;simp only[T0];rw[SI (by omega)]
 have o1:∀i,i≠H.next->H1.get i=H.get i:=fun i h=>by rw[hH1];exact ex1 _ i h
 rw[<- hH1];clear hH1;have l1:=ah g1;have ll1:(ints (iR a m 0)).length=m:=by rw[aH,DI (by omega)]
 have ec:List.take 1 (ints [a])++List.drop (List.take 1 (ints [a])).length (ints (iR a m 0))=ints (iR a m 1):=by
  obtain⟨q,hq⟩:∃q,m=q+1:=⟨m-1,by omega⟩
  rw[hq];simp[iR,ints,TI]
 have em:min 1 m=1:=TY hm.1;refine W.sq ?_;simp only[go_sem,l1,ll1,em];refine⟨rfl,?_⟩;refine W.en (fun E=>E 7=.own H.next 0 0 m 1 /\ E 8=aa 1) (by simp only[go_sem]) fun E ⟨e7,e8⟩=>?_
 refine W.seq (W.block ?_);refine W.aG 140720308486400 (by rfl) (fun ρ Hx=>∃n:Nat,ρ 8=aa n/\1<=n/\n<=m/\Hx.next=H.next+1/\(∀i,i≠H.next->Hx.get i=H.get i)/\Hx.get H.next=some (.arr 0 3 (ints (iR a m n)))) (fun ρ Hx=>m-(iv (ρ 8)).toNat) ?_ ?_
 ·simp only[go_sem,e8,ec];exact⟨1,rfl,Nat.le_refl _,hm.1,by rw[au];exact n1,fun i h=>by rw[ae,SI h];exact o1 i h,by rw[ae,SK rfl]⟩
 rintro ρ Hx ⟨n,h8,hn1,hn,nx,xo,xg⟩;refine W.en (fun E1=>E1 7=.own H.next 0 0 m 1 /\ E1 8=aa n) (by simp only[go_sem,e7,h8]) fun E1 ⟨f7,f8⟩=>?_
 have lx:=ah xg;have llx:(ints (iR a m n)).length=m:=by rw[aH,DI hn]
 by_cases hb:(n:Int)<m;rotate_left
 ·refine W.vs ?_;simp only[go_sem,f7,f8,lx,hb];have hnm:n=m:=by omega
  refine W.vs ?_;simp only[go_sem,f7];have hx:Hx=ext H [.arr 0 3 (ints (List.replicate m a))]:=by
   have hg:∀i,Hx.get i=(ext H [.arr 0 3 (ints (List.replicate m a))]).get i:=fun i=>by
    by_cases h:i=H.next
    ·rw[h,xg,hnm,bX];simp[iR]
    ·rw[xo i h,ex1 _ i h]
   cases Hx;simp only at nx hg;unfold ext;congr 1
   ·funext i
    exact hg i
  rw[hx];exact ar.mk (by rw[aS];exact Nat.le_add_right ..) hK
 have em2:n+min n (m-n)<=m:=by omega
 have w1:=SF ((n:Int)+(min n (m-n):Nat)) (by omega);have ecp:=Q6 (a:=a) hn;refine W.sq ?_;simp only[go_sem,f7,f8,lx,hb];refine W.block ?_;refine W.dr 8 [0,0,0,6,0,0,48,126] mixed ?_;simp only[go_sem,f7,f8,lx,llx,w1,ecp];refine⟨by omega,by omega,⟨by omega,by rw[Td];intro x hx;exact Td.1 (gQ _) x (S8 hx)⟩,by rw[au,au];omega,⟨n+min n (m-n),by simp,by omega,em2,by rw[au];exact nx,fun i h=>by rw[ae,SI h];exact xo i h,by rw[ae,SK rfl]⟩,by rw[h8];simp only[aa,aM];omega⟩
end Go.Proofs
