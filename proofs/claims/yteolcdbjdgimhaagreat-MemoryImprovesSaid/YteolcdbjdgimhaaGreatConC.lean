/- Own work: contracts. -/
import Derived.Test.YteolcdbjdgimhaaGreatConB
set_option linter.all false
set_option maxHeartbeats 8000000
set_option maxRecDepth 100000
namespace Go.Proofs
open Go.Hx Tryz
theorem Dv:∀ {cs vs:List Int} {k:Nat} {c v:Int},vs.length=cs.length->cs[k]?=some c->vs[k]?=some v->v+1<c->(∀(j:Nat) (a b:Int),k<j->cs[j]?=some a->vs[j]?=some b->b=a-1) ->
  kO cs vs=some (vs.take k++(v+1) :: (cs.drop (k+1)).map fun _=>0):=by
 have none_of:∀ {cs vs:List Int},vs.length=cs.length->(∀(j:Nat) (a b:Int),cs[j]?=some a->vs[j]?=some b->b=a-1)->kO cs vs=none:=by
  intro cs
  induction cs with
  |nil=>intro vs _ _;cases vs<;>rfl
  |cons c cs ih =>
   intro vs hl h;cases vs with
   |nil=>rfl
   |cons v vs =>
    have h1:=ih (vs:=vs) (by simpa using hl) fun j a b ha hb=>h (j+1) a b (by simpa using ha) (by simpa using hb);have h2:=h 0 c v rfl rfl;simp only[kO,h1];rw[SI (by omega)]
 intro cs
 induction cs with
 |nil=>intro vs k c v _ h;simp at h
 |cons x cs ih =>
  intro vs k c v hl hc hv hlt hmax;cases vs with
  |nil=>simp at hv
  |cons y vs =>
   cases k with
   |zero =>
    simp only[List.getElem?_cons_zero,Option.some.injEq]at hc hv;subst hc;subst hv;have h1:=none_of (cs:=cs) (vs:=vs) (by simpa using hl) fun j a b ha hb=>hmax (j+1) a b (by omega) (by simpa using ha) (by simpa using hb);simp only[kO,h1];rw[SK hlt];simp
   |succ k =>
    have h1:=ih (vs:=vs) (k:=k) (by simpa using hl) (by simpa using hc) (by simpa using hv) hlt fun j a b hj ha hb=>hmax (j+1) a b (by omega) (by simpa using ha) (by simpa using hb);simp only[kO,h1];simp
theorem Dw:∀ {cs vs:List Int},vs.length=cs.length->(∀(j:Nat) (a b:Int),cs[j]?=some a->vs[j]?=some b->b=a-1)->kO cs vs=none:=by
 intro cs
 induction cs with
 |nil=>intro vs _ _;cases vs<;>rfl
 |cons c cs ih =>
  intro vs hl h;cases vs with
  |nil=>rfl
  |cons v vs =>
   have h1:=ih (vs:=vs) (by simpa using hl) fun j a b ha hb=>h (j+1) a b (by simpa using ha) (by simpa using hb);have h2:=h 0 c v rfl rfl;simp only[kO,h1];rw[SI (by omega)]
def mL (cards:List Int)(N:Nat):List (List AVal):=(List.range (ao cards).toNat).map fun (i:Nat)=>[aa (i:Int),.own N 0 0 cards.length 1]
theorem lX {cards:List Int}{N k:Nat}{x:List AVal}(h:(mL cards N)[k]?=some x):k<(ao cards).toNat/\x=[aa k,.own N 0 0 cards.length 1]:=by
 unfold mL at h;rw[List.getElem?_map]at h;have hk:k<(ao cards).toNat:=by
  rcases S9 k (ao cards).toNat with h1|h1
  ·exact h1
  ·rw[SQ (by simpa using h1)]at h;simp at h
 rw[Tc hk]at h;simp at h;exact⟨hk,h.symm⟩
theorem Qy {cards:List Int}{N k:Nat}(h:k<(ao cards).toNat):(mL cards N)[k]?=some [aa k,.own N 0 0 cards.length 1]:=by
 unfold mL;rw[List.getElem?_map,Tc h];rfl
theorem qD (cards:List Int)(N:Nat):(mL cards N).length=(ao cards).toNat:=by simp[mL]
def lY (cards:List Int)(N k:Nat)(H:AHeap):Prop:=H.get N=some (.arr 0 3 (ints (aR cards k)))
theorem sV (cards:List Int)(hc1:∀c∈cards,1<=c)(hs:cY cards)(b N:Nat)(hbN:b<N):
  D8 prog G0 131 [] [.ptr b 0 0] (mL cards N) N (fun H=>H.get b=some (.arr 0 42 [af cards])) (lY cards N):=by
 intro idy J Stop H K hN hS0 hJw hJ0 hY hK hSt;have l0:=ah (hS0 0 H hJ0);have h12:=hs.1;have hpp:=hs.prod;have hp1:=eD hc1;show ag _ _ _ ([.yld idy]++[.ptr b 0 0]) _ _;refine ag.st (n:=45) (rs:=[]) func131 ?_;simp only[go_sem,l0];refine⟨by omega,?_⟩;have fitI:∀i:Nat,bH cards (aR cards i):=fun i=>kM hc1 _;have idxI:∀i:Nat,i<(ao cards).toNat->bJ cards (aR cards i)=i:=fun i hi=>sv hc1 (by omega) (by omega);subst hN;refine W.aG 35184372088368 (by rfl) (fun ρ H'=>∃i:Nat,ρ 4=aa i/\i<(ao cards).toNat/\J i H'/\lY cards H.next i H'/\H.next+1<=H'.next) (fun ρ H=>(ao cards).toNat-(iv (ρ 4)).toNat) ?_ ?_
 ·simp only[go_sem];refine⟨0,rfl,by omega,hJw 0 H _ hJ0 ⟨by rw[aS];omega,fun id _ h=>dv _ _ _ h⟩,?_⟩;show (ext H _).get H.next=_;rw[cq];have:aR cards ((0:Nat):Int)=List.replicate cards.length 0:=by
   rw[show ((0:Nat):Int)=0 from rfl,xX hc1];exact UA ..
  rw[this];simp[ints,aa]
 rintro ρ H' ⟨i,h4,hi,hj,hcs,hn⟩;refine W.en (fun E=>E 1=.ptr b 0 0 /\ E 0=.yld idy /\ E 3=.own H.next 0 0 cards.length 1 /\ E 4=aa i) (by simp only[go_sem,h4]) fun E ⟨e1,e0,e3,e4⟩=>?_
 refine W.vs ?_;simp only[go_sem,e0,e3,e4];refine hY i [aa i,.own H.next 0 0 cards.length 1] H' _ (Qy hi) hj hcs (by omega) (fun H2 hj2 hcs2 hn2=>⟨trivial,?_⟩) (fun H2 hs2 hn2=>⟨trivial,?_⟩);rotate_left
 ·simp only[go_sem];exact ar.mk (by omega) (hSt H2 hs2 (by omega))
 have hb2:=hS0 _ _ hj2;have lb:=ah hb2;have w0:=SF ((cards.length:Int)-1) (by omega);obtain⟨vs,hvs⟩:∃vs,vs=aR cards i:=⟨_,rfl⟩
 have hvl:vs.length=cards.length:=by rw[hvs,kL]
 have hfit:bH cards vs:=by rw[hvs];exact fitI i
 have hsucc:=B4 hfit;rw[show bJ cards vs=i from by rw[hvs];exact idxI i hi]at hsucc;simp only[go_sem,e1,lb,w0];refine W.aG 137438691360 (by rfl) (fun ρ2 H4=>∃m:Nat,ρ2 5=aa ((m:Int)-1)/\m<=cards.length/\vV H.next H2 H4/\H4.get H.next=some (.arr 0 3 (ints (vs.take m++(cards.drop m).map fun _=>0)))/\(∀(j:Nat) (a b:Int),m<=j->cards[j]?=some a->vs[j]?=some b->b=a-1))
  (fun ρ2 H=>(iv (ρ2 5)+1).toNat) ?_ ?_
 ·simp only[go_sem];refine⟨cards.length,rfl,by omega,⟨Nat.le_refl _,fun _ _ _=>rfl⟩,?_,fun j a b hm ha=>?_⟩
  ·have hg:H2.get H.next=_:=hcs2;rw[<- hvs]at hg;rw[hg,SH (by omega),Vj (by omega)];simp
  ·have:=get_lt ha;omega
 rintro ρ2 H4 ⟨m,h5,hm,hw,hg,hmax⟩;refine W.en (fun E2=>E2 1=.ptr b 0 0 /\ E2 3=.own H.next 0 0 cards.length 1 /\ E2 4=aa i /\ E2 5=aa ((m:Int)-1)) (by simp only[go_sem,e1,e3,e4,h5]) fun E2 ⟨f1,f3,f4,f5⟩=>?_
 refine W.vs ?_;have hw1:=hw.1;have lN:=ah hg;have lb4:=ah ((hw.2 b (by omega) (by omega)).trans hb2);have hj4:J (i+1) H4:=hJw _ _ _ hj2 hw;have clen:(vs.take m++(cards.drop m).map fun _=>(0:Int)).length=cards.length:=by simp;omega
 by_cases hm0:m=0
 ·subst hm0;have f5':E2 5=aa (-1):=f5;have hnone:=Dw hvl fun j a b ha hb=>hmax j a b (UF _) ha hb;rw[hnone]at hsucc;have htot:¬(i:Int)+1<ao cards:=fun h=>by rw[SK h]at hsucc;cases hsucc
  have hti:i+1=(mL cards H.next).length:=by rw[qD];omega
  simp only[go_sem];refine W.dr 12 [0,1,3,7,7,31,63,7,7,391,903,1927] mixed ?_;simp only[go_sem,f5'];exact ar.mk (by omega) (hK H4 (by rw[<- hti];exact hj4) (by omega))
 obtain⟨k,rfl⟩:∃k,m=k+1:=⟨m-1,by omega⟩
 have f5':E2 5=aa k:=by rw[f5];congr 1;omega
 obtain⟨c,hck⟩:=get_of_lt (l:=cards) (i:=k) (by omega);obtain⟨v,hvk⟩:=get_of_lt (l:=vs) (i:=k) (by omega);have hne:=aJ hck;have hr:=hfit.2 k c v hck hvk;have hcs8:=hs.2 c (SE hck);have hvk':(vs.take (k+1)++(cards.drop (k+1)).map fun _=>(0:Int))[k]?=some v:=by
  rw[SU (by simp;omega),Tf (by omega)];exact hvk
 have hk0:(k:Int) >= 0:=by omega
 have hkc:(k:Int)<cards.length:=by omega
 have w1:=SF (c-1) (by omega);have w2:=SF ((k:Int)-1) (by omega);have w3:=SF (v+1) (by omega);have w4:=SF ((i:Int)+1) (by omega);have hk1:¬(k:Int)<0:=by omega
 by_cases hv:v=c-1
 ·simp only[go_sem];refine W.dr 12 [0,1,3,7,7,31,63,7,7,391,903,1927] mixed ?_;simp only[go_sem,f1,f3,f5',hk0,hkc,lN,lb4,hvk',hck,hne,w1,w2,hv];refine⟨by rw[<- List.length_append,clen];omega,by rw[au];omega,⟨k,rfl,by omega,⟨by rw[au];exact hw.1,fun id h1 h2=>by rw[ae,SI h1];exact hw.2 id h1 h2⟩,?_,fun j a b hj ha hb=>?_⟩,?_⟩
  ·rw[ae,SK rfl,fD (by rw[clen];omega)];congr 3;rw[aL hvk,List.append_assoc,To _ _ (by simp;omega),jw hck];simp;rw[show k-min k vs.length=0 by omega];rfl
  ·rcases S9 k j with h|h
   ·exact hmax j a b (by omega) ha hb
   ·obtain rfl:j=k:=(by omega);rw[hck]at ha;rw[hvk]at hb;cases ha;cases hb;exact hv
  ·rw[h5];simp only[aa,aM];omega
 ·simp only[go_sem];refine W.dr 12 [0,1,3,7,7,31,63,7,7,391,903,1927] mixed ?_;simp only[go_sem,f1,f3,f4,f5',hk0,hk1,hkc,lN,lb4,hvk',hck,hne,w1,w3,w4,hv];have hat:=Dv hvl hck hvk (by omega) fun j a b hj ha hb=>hmax j a b (by omega) ha hb;rw[hat]at hsucc;have hlt:(i:Int)+1<ao cards:=by
   refine Ty fun h=>?_;rw[SI h]at hsucc;cases hsucc
  rw[SK hlt]at hsucc;have hw5:vV H.next H2 (H4.upd H.next (.arr 0 3 (setAt (ints (vs.take (k+1)++(cards.drop (k+1)).map fun _=>(0:Int))) k [.lit (.int .i64 (v+1))]))):=⟨by rw[au];exact hw.1,fun id h1 h2=>by rw[ae,SI h1];exact hw.2 id h1 h2⟩
  refine⟨by rw[<- List.length_append,clen];omega,by rw[au];omega,⟨i+1,by simp,by omega,hJw _ _ _ hj2 hw5,?_,by rw[au];omega⟩,?_⟩
  ·show (H4.upd H.next _).get H.next=_;rw[ae,SK rfl,fD (by rw[clen];omega)];congr 3;have e:aR cards ((i+1:Nat):Int)=vs.take k++(v+1) :: (cards.drop (k+1)).map fun _=>0:=by
    have:=Option.some.inj hsucc;rw[show ((i+1:Nat):Int)=(i:Int)+1 by omega];exact this.symm
   rw[e,aL hvk,List.append_assoc,To _ _ (by simp;omega)];simp;rw[show k-min k vs.length=0 by omega];rfl
  ·rw[h4];simp only[aa,aM];omega
theorem sW (cards:List Int)(H:AHeap)(K:ARes->AHeap->Prop)(hK:K (.ret (.clo 131 [] [.ptr H.next 0 0])) (ext H [.arr 0 42 [af cards]])):
  ag prog G0 96 [af cards] H K:=by
 refine ag.st (n:=4) (rs:=[.tmp 2]) func96 ?_;simp only[go_sem];exact ar.mk (by simp[aS]) hK
def nS (ns:List NodeP)(x:NodeP)(vals:List Int):List Int:=x.rows.getD (bJ (aP ns x) (aI vals x.parents)).toNat []
def mA (ns:List NodeP)(vals:List Int)(v:Nat):Int:=match ns[v]? with
 |some x=>(nS ns x vals).getD (vals.getD v 0).toNat 0
 |none=>1
def fy (ns:List NodeP)(vals:List Int):List Int:=(List.range ns.length).map (mA ns vals)
def weight (ns:List NodeP)(vals:List Int):Int:=ao (fy ns vals)
def bh (ns:List NodeP):Nat:=(ao (ak ns)).toNat
def fA (ns:List NodeP):List Int:=(List.range (bh ns)).map fun (i:Nat)=>weight ns (aR (ak ns) (i:Int))
def lQ (ns:List NodeP)(vals:List Int)(u:UtilP):Int:=u.w.getD (bJ (aI (ak ns) u.vars) (aI vals u.vars)).toNat 0
def bt (ns:List NodeP)(us:List UtilP)(vals:List Int):Int:=(us.map (lQ ns vals)).sum
def fK (ns:List NodeP)(us:List UtilP)(k:Nat):Int:=((List.range k).map fun (i:Nat)=>weight ns (aR (ak ns) i)*bt ns us (aR (ak ns) i)).sum
theorem yb (ns:List NodeP)(us:List UtilP)(k:Nat):fK ns us (k+1)=fK ns us k+weight ns (aR (ak ns) k)*bt ns us (aR (ak ns) k):=by
 unfold fK;rw[TZ];simp
theorem sC (ns:List NodeP)(vals:List Int):(fy ns vals).length=ns.length:=by simp[fy]
theorem uL {ns:List NodeP}{vals:List Int}{v:Nat}(h:v<ns.length):(fy ns vals)[v]?=some (mA ns vals v):=by
 unfold fy;rw[List.getElem?_map,Tc h];rfl
theorem pr {ns:List NodeP}{x:NodeP}{vals:List Int}(hin:eF x.parents ns.length)(hf:bH (ak ns) vals):bH (aP ns x) (aI vals x.parents):=by
 refine⟨by unfold aP;rw[gJ,gJ],fun k c v h1 h2=>?_⟩;obtain⟨q,hq⟩:=get_of_lt (l:=x.parents) (i:=k) (by have:=get_lt h2;rw[gJ]at this;exact this);obtain⟨j,rfl,y,hy⟩:=lO (l:=ns) (hin q (SE hq)).1 (hin q (SE hq)).2;obtain⟨b,hb⟩:=get_of_lt (l:=vals) (i:=j) (by rw[hf.1,cC];exact get_lt hy);have e1:(aP ns x)[k]?=some y.card:=by rw[show (aP ns x)[k]?=_ from lj hq,Int.toNat_natCast,bp (dm hy)]
 have e2:(aI vals x.parents)[k]?=some b:=by rw[lj hq,Int.toNat_natCast,bp hb]
 rw[h1]at e1;rw[h2]at e2;cases e1;cases e2;exact hf.2 j y.card _ (dm hy) hb
structure RowAtW (g:Int)(ns:List NodeP)(x:NodeP)(vals:List Int)(v:Nat)(i:Nat)(r:List Int)(a w:Int):Prop where
 idx:bJ (aP ns x) (aI vals x.parents)=i
 row:x.rows[i]?=some r
 val:vals[v]?=some a
 a0:0<=a
 hw:r[a.toNat]?=some w
 wb:0<=w/\w<=g
 eq:mA ns vals v=w
 rv:nS ns x vals=r
 len:(r.length:Int)=x.card
 al:a<r.length
theorem qE {g:Int}{ns:List NodeP}(h:NetOk g ns){v:Nat}{x:NodeP}(hx:ns[v]?=some x){vals:List Int}(hf:bH (ak ns) vals):∃i r a w,RowAtW g ns x vals v i r a w:=by
 have hxm:=SE hx;have hin:eF x.parents ns.length:=fun q hq=>by have:=(h.node x hxm).2.2 q hq;omega
 have hr:=jZ (pr hin hf);obtain⟨r1,r2⟩:=h.rows x hxm;obtain⟨i,hi⟩:=SR hr.1;obtain⟨r,hrr⟩:=get_of_lt (l:=x.rows) (i:=i) (by rw[<- r1,hi]at hr;omega);obtain⟨s1,s2,s3⟩:=r2 r (SE hrr);obtain⟨a,ha⟩:=get_of_lt (l:=vals) (i:=v) (by rw[hf.1,cC];exact get_lt hx);have hb:=hf.2 v x.card a (dm hx) ha;obtain⟨w,hw⟩:=get_of_lt (l:=r) (i:=a.toNat) (by omega);have rv:nS ns x vals=r:=by unfold nS;rw[hi,Int.toNat_natCast,bp hrr]
 exact⟨i,r,a,w,hi,hrr,ha,hb.1,hw,s2 w (SE hw),by unfold mA;rw[hx];simp only;rw[rv,bp ha,bp hw],rv,s1,by omega⟩
theorem vz (k:Nat)(h:k<=8):(60:Int) ^ k<=167961600000000:=by
 have h1:(60:Nat) ^ k<=60 ^ 8:=Te (by decide) h;have h2:(60:Nat) ^ 8=167961600000000:=by decide
 rw[h2]at h1;have h3:=Int.ofNat_le.2 h1;rw[Int.natCast_pow]at h3;exact h3
theorem yE {g:Int}{ns:List NodeP}(h:NetOk g ns){vals:List Int}(hf:bH (ak ns) vals)(k:Nat):0<=ao ((fy ns vals).take k)/\ao ((fy ns vals).take k)<=167961600000000:=by
 have hb:∀w∈fy ns vals,0<=w/\w<=60:=fun w hw=>by
  obtain⟨v,hv,rfl⟩:=SY.1 hw;obtain⟨x,hx⟩:=get_of_lt (Tn.1 hv);obtain⟨i,r,a,w,hR⟩:=qE h hx hf;rw[hR.eq];have:=hR.wb;have:=h.g1;omega
 have h1:=nL (b:=60) (by omega) (l:=(fy ns vals).take k) fun x hx=>hb x (S8 hx);have h2:=vz ((fy ns vals).take k).length (by have:=h.n1;rw[SN,sC];omega);omega
theorem sX (ns:List NodeP)(v:Nat)(x:NodeP)(vals:List Int)(hx:ns[v]?=some x)(hin:eF x.parents ns.length)(hs:cY (aP ns x))(hf:bH (ak ns) vals)(H:AHeap)(N n:Nat)(hN:N<H.next)
  (hg:H.get N=some (.arr 0 3 (ints vals))) (hn:n=vals.length):bf prog G0 (.clo 98 [] []) [.vec ns.length (aF ns),.lit (.int .i64 v),.own N 0 0 n 1] H (.lit (.int .i64 (bJ (aP ns x) (aI vals x.parents)))) [N]:=by
 subst hn;refine bf.mk (fun i hi=>by obtain rfl:=List.mem_singleton.1 hi;exact hN) fun H2 h2 _=>?_;refine(ag.frame (H:=H2) (args:=[.vec ns.length (aF ns),.lit (.int .i64 v),.own N 0 0 vals.length 1]) (args':=[cE ns,.lit (.int .i64 v),af vals]) (v':=.lit (.int .i64 (bJ (aP ns x) (aI vals x.parents)))) aE rfl (fun i hi _=>?_) (QE ns v x vals hx hin hs hf cz _ ⟨_,rfl,.lit _⟩))
 match i,hi with
 |0,_=>exact qJ _
 |1,_=>exact .lit _
 |2,_=>exact Fz.ou ((h2 N (by simp)).trans hg) (by rw[aH]) fun c hc=>by obtain⟨z,_,rfl⟩:=SY.1 hc;exact⟨_,rfl⟩
theorem Qz (g:Int)(ns:List NodeP)(h:NetOk g ns)(H:AHeap)(K:ARes->AHeap->Prop)(hK:K (.ret (af (fA ns))) H):ag prog G0 106 [bL g ns] H K:=by
 refine ag.clo ⟨_,func106,rfl,rfl⟩ fun hcl=>?_;have n8:=h.n1;have hcards:∀c∈ak ns,1<=c/\c<=4:=fun c hc=>by
  obtain⟨x,hx,rfl⟩:=SY.1 hc;exact(h.node x hx).1
 have sm:cY (ak ns):=ki (by rw[cC];omega) hcards;have hp:=eD fun c hc=>(hcards c hc).1;have hsz:=h.size;have hw:((bh ns:Nat):Int)=ao (ak ns):=by unfold bh;omega
 refine ag.st (n:=51) (rs:=[.tmp 2]) func106 ?_;simp only[go_sem,bL,cE];refine aw.clo (ta ns (by omega) _ _ ⟨trivial,?_⟩);simp only[go_sem];refine aw.clo (QD (ak ns) sm _ _ ⟨trivial,?_⟩);rw[<- hw];simp only[go_sem];refine⟨by omega,?_⟩;refine aw.clo (sW (ak ns) _ _ ⟨trivial,?_⟩);simp only[go_sem];obtain⟨H2,hH2⟩:∃H2,H2=ext (ext H [.arr 0 81 [.lit (.int .i64 g),.vec ns.length (aF ns)],.arr 0 3 (List.replicate 0 (.lit (.int .i64 0))),.arr 0 42 [.own (H.next+1) 0 0 0 1]]) [.arr 0 42 [af (ak ns)]]:=⟨_,rfl⟩
 have n2:H2.next=H.next+4:=by rw[hH2];rfl
 have o2:Over H H2:=by rw[hH2];exact(Over.ext _ _).trans (.ext _ _)
 have g0:H2.get H.next=some (.arr 0 81 [.lit (.int .i64 g),.vec ns.length (aF ns)]):=by rw[hH2,dp];exact bD H _ 0 (by simp)
 have g1:H2.get (H.next+1)=some (.arr 0 3 []):=by rw[hH2,dp];exact bD H _ 1 (by simp)
 have g2:H2.get (H.next+2)=some (.arr 0 42 [.own (H.next+1) 0 0 0 1]):=by rw[hH2,dp];exact bD H _ 2 (by simp)
 have g3:H2.get (H.next+3)=some (.arr 0 42 [af (ak ns)]):=by rw[hH2,dp];exact bD H _ 3 (by simp)
 refine W.env fun E hE=>?_;have e1:E 1=.ptr H.next 0 0:=by rw[hE];simp only[go_sem]
 have e4:E 4=.ptr (H.next+2) 0 0:=by rw[hE];simp only[go_sem]
 have e17:E 17=.clo 131 [] [.ptr (H.next+3) 0 0]:=by rw[hE];rfl
 clear hE;show W _ _ _ _ _ _ ⟨E,ext (ext H [.arr 0 81 [.lit (.int .i64 g),.vec ns.length (aF ns)],.arr 0 3 (List.replicate 0 (.lit (.int .i64 0))),.arr 0 42 [.own (H.next+1) 0 0 0 1]]) [.arr 0 42 [af (ak ns)]]⟩;rw[<- hH2];have hit:=sV (ak ns) (fun c hc=>(hcards c hc).1) sm (H.next+3) (H2.next+1) (by omega);refine W.tv (f:=131) (first:=[]) (cap:=[.ptr (H.next+3) 0 0]) (by show E 17=_;exact e17) hit
  (fun k Hx=>H2.next<Hx.next/\(∀id,id<H2.next->id≠H.next+1->id≠H.next+2->Hx.get id=H2.get id)/\∃gn,Hx.get (H.next+2)=some (.arr 0 42 [.own (H.next+1) gn 0 k 1])/\Hx.get (H.next+1)=some (.arr gn 3 (ints ((fA ns).take k))))
  (fun _ _=>False)
  (fun k Hx h=>(h.2.1 _ (by omega) (by omega) (by omega)).trans g3)
  (fun k H1 H3 h hw=>⟨by have:=hw.1;omega,fun id h1 h2 h3=>(hw.2 _ (by omega) (by have:=h.1;omega)).trans (h.2.1 id h1 h2 h3),by
   obtain⟨gn,a1,a2⟩:=h.2.2;exact⟨gn,(hw.2 _ (by omega) (by have:=h.1;omega)).trans a1,(hw.2 _ (by omega) (by have:=h.1;omega)).trans a2⟩⟩)
  (fun k Hx h=>h.1)
  (fun k H1 b h=>⟨h.1,fun id h1 h2 h3=>by rw[ae,SI (by omega)];exact h.2.1 id h1 h2 h3,by
   obtain⟨gn,a1,a2⟩:=h.2.2;exact⟨gn,by rw[ae,SI (by omega)];exact a1,by rw[ae,SI (by omega)];exact a2⟩⟩)
  (fun _ _ _ h=>h) (fun k H1 b h=>by unfold lY at h ⊢;rw[ae,SI (by omega)];exact h)
  (fun b=>⟨by rw[aS];simp,fun id h1 h2 h3=>bb h1,0,by rw[bb (by omega)];exact g2,by rw[bb (by omega)];exact g1⟩) (by decide)
  (fun x hx=>by
   obtain⟨k,hk⟩:=SW.1 hx;obtain⟨_,rfl⟩:=lX hk;rfl) (fun _ _ _=>trivial) (fun _ _ _=>trivial) (fun k y Hx B Bb hy hj hcs hn hB hBb=>?_) (fun Hx hj hn=>?_) (fun _ hs _=>hs.elim) (fun _ _ hs _=>hs.elim)
 ·obtain⟨hk,rfl⟩:=lX hy;refine W.vs ?_;simp only[go_sem,fV,bA,ir,Ts,TS,Tx,Tz,hB];obtain⟨H3,hH3⟩:∃H3,H3=Hx.upd H2.next Bb:=⟨_,rfl⟩
  rw[<- hH3];obtain⟨st,pd,n',en,ps',as',bo,hBe⟩:=hBb;have n3:H3.next=Hx.next:=by rw[hH3];rfl
  have o3:∀id,id≠H2.next->H3.get id=Hx.get id:=fun id h=>by rw[hH3,ae,SI h]
  have jB:H3.get H2.next=some Bb:=by rw[hH3,ae,SK rfl]
  obtain⟨gn,a1,a2⟩:=hj.2.2;have k0:=(o3 _ (by omega)).trans ((hj.2.1 H.next (by omega) (by omega) (by omega)).trans g0);have k1:=(o3 _ (by omega)).trans a2;have k2:=(o3 _ (by omega)).trans a1;have kN:H3.get (H2.next+1)=some (.arr 0 3 (ints (aR (ak ns) k))):=(o3 _ (by omega)).trans hcs;obtain⟨vals,hvals⟩:∃vals,vals=aR (ak ns) k:=⟨_,rfl⟩
  have hfit:bH (ak ns) vals:=by rw[hvals];exact kM (fun c hc=>(hcards c hc).1) _
  rw[<- hvals]at kN;have hvl:vals.length=ns.length:=by rw[hfit.1,cC]
  refine W.en (fun E1=>E1 1=.ptr H.next 0 0 /\ E1 4=.ptr (H.next+2) 0 0 /\ E1 6=.own (H2.next+1) 0 0 ns.length 1) (by simp only[go_sem,bA,e1,e4,cC]) fun E1 ⟨m1,m4,m6⟩=>?_
  have l0:=ah k0;refine W.vs ?_;simp only[go_sem,m1,l0];refine W.aG 70368735789952 (by rfl) (fun ρ2 H4=>∃v:Nat,ρ2 23=aa v/\v<=ns.length/\Over H3 H4/\ρ2 7=aa (ao ((fy ns vals).take v))) (fun ρ2 H=>ns.length-(iv (ρ2 23)).toNat) ?_ ?_
  ·simp only[go_sem];exact⟨0,rfl,by omega,.refl _,by simp[gm]⟩
  rintro ρ2 H4 ⟨v,h23,hv,o4,h7⟩;refine W.en (fun E2=>E2 1=.ptr H.next 0 0 /\ E2 4=.ptr (H.next+2) 0 0 /\ E2 6=.own (H2.next+1) 0 0 ns.length 1 /\ E2 7=aa (ao ((fy ns vals).take v)) /\ E2 21=.vec ns.length (aF ns) /\ E2 22=aa ns.length /\ E2 23=aa v) (by simp only[go_sem,m1,m4,m6,h7,h23]) fun E2 ⟨p1,p4,p6,p7,p21,p22,p23⟩=>?_
  have o4n:=o4.next;have q0:=ah ((o4.old _ (by omega)).trans k0);have q1:=ah ((o4.old _ (by omega)).trans k1);have q2:=ah ((o4.old _ (by omega)).trans k2);have gN4:=(o4.old _ (by omega)).trans kN;refine W.vs ?_;by_cases hb:(v:Int)<ns.length
  ·obtain⟨x,hx⟩:=get_of_lt (l:=ns) (i:=v) (by omega);have hxm:=SE hx;obtain⟨i,r,a,w,hR⟩:=qE h hx hfit;obtain⟨a',rfl⟩:=SR hR.a0;have hin:eF x.parents ns.length:=fun q hq=>by have:=(h.node x hxm).2.2 q hq;omega
   have hne:=dJ hx;have c0:=my hx;have c1:v*3+3<=(aF ns).length:=(by rw[iI];omega);obtain⟨H5,hH5⟩:∃H5,H5=ext H4 [.arr 0 87 [.lit (.int .i64 x.card),.vec x.parents.length (ints x.parents),aj x.rows]]:=⟨_,rfl⟩
   have hpc:bf prog G0 (.clo 98 [] []) [.vec ns.length (aF ns),.lit (.int .i64 v),.own (H2.next+1) 0 0 ns.length 1] H5 (.lit (.int .i64 i)) [H2.next+1]:=by
    have:=sX ns v x vals hx hin (iQ n8.2 (h.node x hxm).2 fun y hy=>(h.node y hy).1) hfit H5 (H2.next+1) ns.length (by rw[hH5,aS];omega) (by rw[hH5,dv _ _ _ (by omega)];exact gN4) hvl.symm;rw[hR.idx]at this;exact this
   have f0:=ah (show H5.get H.next=some (.arr 0 81 [.lit (.int .i64 g),.vec ns.length (aF ns)]) by rw[hH5,dv _ _ _ (by omega)];exact(o4.old _ (by omega)).trans k0);have f4:=ah (show H5.get H4.next=some (.arr 0 87 [.lit (.int .i64 x.card),.vec x.parents.length (ints x.parents),aj x.rows]) by rw[hH5];exact bX);have fN:=ah (show H5.get (H2.next+1)=some (.arr 0 3 (ints vals)) by rw[hH5,dv _ _ _ (by omega)];exact gN4);have hri:=hR.row;have hrne:=aJ hri;have hrl:(i:Int)<x.rows.length:=(by have:=get_lt hri;omega);have hva:=hR.val;have hvne:=aJ hva;have hra:r[a']?=some w:=(by have:=hR.hw;rw[Int.toNat_natCast]at this;exact this);have hrane:=aJ hra;have hal:=hR.al;have wt:=yE h hfit (v+1);rw[aL (uL (vals:=vals) (v:=v) (by omega)),eQ,hR.eq]at wt;have w1:=SF ((v:Int)+1) (by omega);have w2:=SF (ao ((fy ns vals).take v)*w) (by omega);simp only[go_sem,p21,p22,p23,hb,hne,c0,c1];rw[<- hH5];refine W.dr 16 [0,0,2,0,8,0,0,120,254,510,0,0,3072,7168,16382,32766] mixed ?_;simp only[go_sem,p1,p6,p7,f0,f4,aj];refine⟨.lit (.int .i64 i),[H2.next+1],hpc,?_⟩;have hvn:(v:Int)<ns.length:=hb;simp only[go_sem,p1,p6,p7,p23,fN,hri,hrne,hrl,hra,hrane,hva,hal,hvn,w1,w2];have n5:H5.next=H4.next+1:=(by rw[hH5];rfl);exact⟨by omega,⟨_,_,_,_,_,_,_,by rw[hH5,dv _ _ _ (by omega),o4.old _ (by omega),jB,hBe]⟩,⟨v+1,by simp,by omega,by rw[hH5];exact o4.trans (.ext _ _),by rw[aL (uL (vals:=vals) (v:=v) (by omega)),eQ,hR.eq]⟩,by rw[h23];simp only[aa,aM];omega⟩
  ·rw[SH (by rw[sC];omega)]at p7;have hwk:(fA ns)[k]?=some (weight ns vals):=by
    unfold fA;rw[List.getElem?_map,Tc (show k<bh ns from hk),hvals];rfl
   have hkl:((fA ns).take k).length=k:=by
    have:(fA ns).length=bh ns:=(by simp[fA]);have:k<bh ns:=hk;simp;omega
   have hkw:k<bh ns:=hk;have nn:¬H.next+1=H4.next:=(by omega);have nn2:¬H.next+2=H4.next:=(by omega);have hbd:(k+1)*8<=2 ^ 46/\k+1<=2 ^ 46:=(by omega);have q1e:∀L,(ext H4 L).live (H.next+1) gn=some (3,ints ((fA ns).take k)):=fun L=>(dh (by omega)).trans q1;have q2e:∀L b,((ext H4 L).upd (H.next+1) b).live (H.next+2) 0=some (42,[.own (H.next+1) gn 0 k 1]):=fun L b=>(bQ (by omega)).trans ((dh (by omega)).trans q2);simp only[go_sem,p4,p7,p22,p23,hb,q2,q1e,q2e,hkl,hbd,ep,bd];obtain⟨Hf,hHf⟩:∃Hf,Hf=((ext H4 [.arr 0 3 [.lit (.int .i64 (ao (fy ns vals)))]]).upd (H.next+1) (.arr (gn+1) 3 (ints ((fA ns).take k)++[.lit (.int .i64 (ao (fy ns vals)))]))).upd (H.next+2) (.arr 0 42 [.own (H.next+1) (gn+1) 0 (k+1) 1]):=⟨_,rfl⟩
   rw[<- hHf];have hget:∀id,id<H4.next->id≠H.next+1->id≠H.next+2->Hf.get id=H4.get id:=fun id h1 h2 h3=>by rw[hHf,ae,SI h3,ae,SI h2,bb h1]
   have nf:Hf.next=H4.next+1:=(by rw[hHf];rfl);have eint:ints ((fA ns).take (k+1))=ints ((fA ns).take k)++[.lit (.int .i64 (ao (fy ns vals)))]:=(by rw[aL hwk];simp[ints,aa,weight]);refine⟨by rw[hget _ (by omega) (by omega) (by omega),o4.old _ (by omega)];exact jB,by omega,⟨by omega,fun id h1 h2 h3=>by rw[hget _ (by omega) h2 h3,o4.old _ (by omega),o3 _ (by omega)];exact hj.2.1 id h1 h2 h3,gn+1,by rw[hHf,ae,SK rfl],by rw[hHf,ae,SI (by omega),ae,SK rfl,eint]⟩,?_⟩;show Hf.get (H2.next+1)=_;rw[hget _ (by omega) (by omega) (by omega),gN4,hvals]
 ·rw[qD]at hj;obtain⟨gn,a1,a2⟩:=hj.2.2;have l2:=ah a1;simp only[go_sem,e4,l2];have ovx:Over H Hx:=⟨by omega,fun id hi=>(hj.2.1 id (by omega) (by omega) (by omega)).trans (o2.old id hi)⟩
  have hlen:(fA ns).length=(ao (ak ns)).toNat:=by simp[fA,bh]
  rw[SH (by omega)]at a2;refine ar.aV aE hcl ovx ?_ hK;show Fz (fun id=>H.next<=id) Hx H.next (.own (H.next+1) gn 0 (ao (ak ns)).toNat 1) (af (fA ns));exact .ints (S:=fun id=>H.next<=id) (o:=0) (by show H.next<=_;omega) a2 hlen.symm fun i hi=>by simp[ij,hi]
def sY (g:Int)(ns:List NodeP)(us:List UtilP):AVal:=.agg [.lit (.int .i64 g),.vec ns.length (aF ns),.vec us.length (aO us)]
theorem mM {ns:List NodeP}{us:List UtilP}(hu:∀u∈us,UtilOk ns u)(h4:us.length<=4)(vals:List Int)(k:Nat):-400<=bt ns (us.take k) vals/\bt ns (us.take k) vals<=400:=by
 have key:∀l:List UtilP,(∀u∈l,UtilOk ns u)->-(100*l.length:Int)<=bt ns l vals/\bt ns l vals<=100*l.length:=by
  intro l
  induction l with
  |nil=>intro _;simp[bt]
  |cons u l ih =>
   intro h;have h1:=ih fun u hu=>h u (by simp[hu]);have h2:-100<=lQ ns vals u/\lQ ns vals u<=100:=by
    unfold lQ;rw[S2];cases hg:u.w[(bJ (aI (ak ns) u.vars) (aI vals u.vars)).toNat]? with
    |none=>simp
    |some w=>exact(h u (by simp)).w w (SE hg)
   simp only[bt,List.map_cons,Uv,List.length_cons]at h1 ⊢
   push_cast
   omega
 have:=key (us.take k) fun u hk=>hu u (S8 hk);have h5:(us.take k).length<=4:=by simp;omega
 omega
theorem QA (g:Int)(ns:List NodeP)(us:List UtilP)(vals:List Int)(h8:ns.length<=8)(hc:∀y∈ns,1<=y.card/\y.card<=4)(hu:∀u∈us,UtilOk ns u)(h4:us.length<=4)(hf:bH (ak ns) vals)(H:AHeap)(K:ARes->AHeap->Prop)
  (hK:K (.ret (aa (bt ns us vals))) H):ag prog G0 64 [sY g ns us,af vals] H K:=by
 refine ag.clo ⟨_,func64,rfl,rfl⟩ fun hcl=>?_;have hfl:vals.length=ns.length:=by rw[hf.1,cC]
 refine ag.st (n:=49) (rs:=[.tmp 4]) func64 ?_;simp only[go_sem,sY];obtain⟨H1,hH1⟩:∃H1,H1=ext H [.arr 0 128 [.lit (.int .i64 g),.vec ns.length (aF ns),.vec us.length (aO us)]]:=⟨_,rfl⟩
 have l1:H1.live H.next 0=some (128,[.lit (.int .i64 g),.vec ns.length (aF ns),.vec us.length (aO us)]):=by rw[hH1];exact ah (cq ..)
 have n1:H1.next=H.next+1:=hH1▸rfl
 have o1:Over H H1:=hH1▸.ext _ _
 rw[<- hH1];refine W.aG 281474976695712 (by rfl) (fun ρ H'=>∃k:Nat,ρ 14=aa k/\k<=us.length/\Over H1 H'/\ρ 5=aa (bt ns (us.take k) vals)) (fun ρ H=>us.length-(iv (ρ 14)).toNat) ?_ ?_
 ·simp only[go_sem];exact⟨0,rfl,by omega,.refl _,by simp[bt]⟩
 rintro ρ H' ⟨k,h14,hk,ov,h5⟩;refine W.en (fun E=>E 1=af vals /\ E 2=.ptr H.next 0 0 /\ E 5=aa (bt ns (us.take k) vals) /\ E 12=.vec us.length (aO us) /\ E 13=aa us.length /\ E 14=aa k) (by simp only[go_sem,h5,h14]) fun E ⟨e1,e2,e5,e12,e13,e14⟩=>?_
 refine W.vs ?_;have ovn:=ov.next;by_cases hb:(k:Int)<us.length;rotate_left
 ·simp only[go_sem,e5,e13,e14,hb];rw[SH (by omega)];exact ar.aV aE hcl (o1.trans ov) (.lit _) hK
 obtain⟨u,hku⟩:=get_of_lt (l:=us) (i:=k) (by omega);have hum:=SE hku;obtain⟨u1,u2,u3⟩:=hu u hum;have hne:=qg hku;have p0:=sr hku;have p1:k*2+2<=(aO us).length:=by rw[kK];omega
 have v8:=u1.len;obtain⟨H2,hH2⟩:∃H2,H2=ext H' [.arr 0 90 [.vec u.vars.length (ints u.vars),.vec u.w.length (ints u.w)]]:=⟨_,rfl⟩
 have m1:=ah (show H2.get H'.next=some (.arr 0 90 [.vec u.vars.length (ints u.vars),.vec u.w.length (ints u.w)]) by rw[hH2];exact bX);have m2:H2.live H.next 0=some (128,[.lit (.int .i64 g),.vec ns.length (aF ns),.vec us.length (aO us)]):=by rw[hH2];exact(dh (by omega)).trans ((ov.live (by omega)).trans l1)
 have n2:H2.next=H'.next+1:=by rw[hH2];rfl
 have sm:=pq h8 u1 hc;have hin:eF u.vars ns.length:=fun q hq=>by have:=u1.2 q hq;omega
 have fp:bH (aI (ak ns) u.vars) (aI vals u.vars):=pr (x:=⟨0,u.vars,[]⟩) hin hf;have pl:(aI (ak ns) u.vars).length=u.vars.length:=gJ _ _;have vl:(aI vals u.vars).length=u.vars.length:=gJ _ _;have ft:∀j,bH ((aI (ak ns) u.vars).take j) ((aI vals u.vars).take j):=fun j=>⟨by simp[pl,vl],fun i c b h1 h2=>by
  rw[Va]at h1 h2;split at h1
  ·rename_i hik;rw[SK hik]at h2;exact fp.2 i c b h1 h2
  ·cases h1⟩
 have hr:∀j,0<=eZ ((aI (ak ns) u.vars).take j) ((aI vals u.vars).take j)/\eZ ((aI (ak ns) u.vars).take j) ((aI vals u.vars).take j)<68719476737:=fun j=>by
  rw[qh (ft j).1];have a:=jZ (ft j);have b:=(sm.take j).prod;omega
 simp only[go_sem,e12,e13,e14,hb,hne,p0,p1];rw[<- hH2];refine W.aG 1099509531904 (by rfl) (fun ρ2 H3=>H3=H2/\∃j:Nat,ρ2 21=aa j/\j<=u.vars.length/\ρ2 8=aa (eZ ((aI (ak ns) u.vars).take j) ((aI vals u.vars).take j))) (fun ρ2 H=>u.vars.length-(iv (ρ2 21)).toNat) ?_ ?_
 ·simp only[go_sem];exact⟨0,rfl,by omega,rfl⟩
 rintro ρ2 H3 ⟨rfl,j,h21,hj,h8'⟩;refine W.vs ?_;by_cases hb2:(j:Int)<u.vars.length
 ·obtain⟨q,hq⟩:=get_of_lt (l:=u.vars) (i:=j) (by omega);obtain⟨i,rfl,y,hy⟩:=lO (l:=ns) (hin q (SE hq)).1 (hin q (SE hq)).2;obtain⟨b,hbv⟩:=get_of_lt (l:=vals) (i:=i) (by rw[hfl];exact get_lt hy);have hyb:=hf.2 i y.card b (dm hy) hbv;have a1:(aI (ak ns) u.vars)[j]?=some y.card:=by rw[lj hq,Int.toNat_natCast,bp (dm hy)]
  have a2:(aI vals u.vars)[j]?=some b:=by rw[lj hq,Int.toNat_natCast,bp hbv]
  have hne2:=aJ hq;have hne3:=aJ hbv;have hne4:=dJ hy;have ey:=iJ hy;have hi:(i:Int)<ns.length:=by have:=get_lt hy;omega
  have hi2:(i:Int)<vals.length:=by omega
  have w1:=SF ((j:Int)+1) (by omega);have r1:=hr (j+1);rw[qi a1 a2]at r1;have r0:=hr j;have m0:0<=eZ ((aI (ak ns) u.vars).take j) ((aI vals u.vars).take j)*y.card:=T8 r0.1 (by omega);have w2:=SF (eZ ((aI (ak ns) u.vars).take j) ((aI vals u.vars).take j)*y.card) (by omega);have w3:=SF (eZ ((aI (ak ns) u.vars).take j) ((aI vals u.vars).take j)*y.card+b) (by omega);simp only[go_sem,h21,hb2,hq,hne2];refine W.dr 13 [0,0,2,6,0,30,62,126,255,0,0,1536,3584] mixed ?_;simp only[go_sem,h21,h8',e1,e2,m2,hne3,hne4,hi,hi2,hbv,ey,w1,w2,w3];exact⟨⟨j+1,by simp,by omega,by rw[qi a1 a2]⟩,by omega⟩
 ·rw[SH (by omega),SH (by omega),qh (by rw[pl,vl])]at h8';have hx:=jZ fp;obtain⟨ix,hix⟩:=SR hx.1;obtain⟨w,hw⟩:=get_of_lt (l:=u.w) (i:=ix) (by omega);have hwne:=aJ hw;have hwl:(ix:Int)<u.w.length:=by have:=get_lt hw;omega
  have eu:lQ ns vals u=w:=by unfold lQ;rw[hix,Int.toNat_natCast,bp hw]
  have us1:bt ns (us.take (k+1)) vals=bt ns (us.take k) vals+w:=by rw[aL hku];unfold bt;simp[eu]
  have b1:=mM hu h4 vals k;have b2:=mM hu h4 vals (k+1);rw[us1]at b2;have w1:=SF ((k:Int)+1) (by omega);have w2:=SF (bt ns (us.take k) vals+w) (by omega);rw[hix]at h8';simp only[go_sem,h21,h8',e5,e14,m1,hb2,hw,hwne,hwl,w1,w2];exact⟨by omega,⟨k+1,by simp,by omega,by rw[hH2];exact ov.trans (.ext _ _),by rw[us1]⟩,by rw[h14];simp only[aa,aM];omega⟩
theorem QB (g:Int)(ns:List NodeP)(us:List UtilP)(vals:List Int)(h8:ns.length<=8)(hc:∀y∈ns,1<=y.card/\y.card<=4)(hu:∀u∈us,UtilOk ns u)(h4:us.length<=4)(hf:bH (ak ns) vals)(H:AHeap)(N n:Nat)(hN:N<H.next)
  (hg:H.get N=some (.arr 0 3 (ints vals))) (hn:n=vals.length):bf prog G0 (.clo 64 [] []) [.agg [.lit (.int .i64 g),.vec ns.length (aF ns),.vec us.length (aO us)],.own N 0 0 n 1] H (.lit (.int .i64 (bt ns us vals))) [N]:=by
 subst hn;refine bf.mk (fun i hi=>by obtain rfl:=List.mem_singleton.1 hi;exact hN) fun H2 h2 _=>?_;refine(ag.frame (H:=H2) (args:=[.agg [.lit (.int .i64 g),.vec ns.length (aF ns),.vec us.length (aO us)],.own N 0 0 vals.length 1]) (args':=[sY g ns us,af vals]) (v':=.lit (.int .i64 (bt ns us vals))) aE rfl (fun i hi _=>?_) (QA g ns us vals h8 hc hu h4 hf cz _ ⟨_,rfl,.lit _⟩))
 match i,hi with
 |0,_ =>
  refine .agg rfl fun i hi _=>?_
  match i,hi with
  |0,_=>exact .lit _
  |1,_=>exact qJ _
  |2,_ =>
   refine .vec rfl fun i hi _=>?_;have:∀c∈aO us,Fz (fun _=>True) H2 0 c c:=by
    intro c hc;unfold aO at hc;obtain⟨r,hr,hc⟩:=Uh.1 hc;obtain⟨x,_,rfl⟩:=SY.1 hr;unfold UtilP.cells at hc;simp only[List.mem_cons,List.not_mem_nil,or_false]at hc;rcases hc with rfl|rfl
    ·exact .cI _
    ·exact .cI _
   exact this _ (Tk _)
 |1,_=>exact Fz.ou ((h2 N (by simp)).trans hg) (by rw[aH]) fun c hc=>by obtain⟨z,_,rfl⟩:=SY.1 hc;exact⟨_,rfl⟩
theorem QC (g:Int)(ns:List NodeP)(us:List UtilP)(vals:List Int)(h8:ns.length<=8)(hc:∀y∈ns,1<=y.card/\y.card<=4)(hu:∀u∈us,UtilOk ns u)(h4:us.length<=4)(hf:bH (ak ns) vals)(w a:Int)(hw:0<=w/\w<=167961600000000)(ha:-1000000000000000000<=a/\a<=1000000000000000000)
  (H:AHeap) (N n sb fb:Nat) (hg:H.get N=some (.arr 0 3 (ints vals))) (hn:n=vals.length) (hsb:H.get sb=some (.arr 0 3 [.lit (.int .i64 a)])) (hfb:H.get fb=some (.arr 0 128 [.lit (.int .i64 g),.vec ns.length (aF ns),.vec us.length (aO us)])) (hN:N<H.next) (hNs:N≠sb) (hfs:fb≠sb)
  (K:ARes->AHeap->Prop) (hK:K (.ret (.tup [])) (H.upd sb (.arr 0 3 [.lit (.int .i64 (a+w*bt ns us vals))]))):ag prog G0 63 [.own N 0 0 n 1,.lit (.int .i64 w),.ptr sb 0 0,.ptr fb 0 0] H K:=by
 have ls:=ah hsb;have lf:=ah hfb;have hpc:=QB g ns us vals h8 hc hu h4 hf H N n hN hg hn;have b:=mM hu h4 vals us.length;rw[SH (Nat.le_refl _)]at b;have m1:-67184640000000000<=w*bt ns us vals/\w*bt ns us vals<=67184640000000000:=by
  constructor
  ·have h1:w*(-400)<=w*bt ns us vals:=Tb b.1 hw.1;omega
  ·have h1:w*bt ns us vals<=w*400:=Tb b.2 hw.1;omega
 have w1:=SF (w*bt ns us vals) (by omega);have w2:=SF (a+w*bt ns us vals) (by omega);refine ag.st (n:=13) (rs:=[]) func63 ?_;simp only[go_sem];refine W.dr 6 [0,0,0,0,12,30] mixed ?_;simp only[go_sem,ls,lf];refine⟨_,[N],hpc,?_⟩;simp only[go_sem,ls,w1,w2];exact ar.mk (Nat.le_refl _) hK
theorem Ql {ns:List NodeP}{k:Nat}(h:k<bh ns):(fA ns)[k]?=some (weight ns (aR (ak ns) k)):=by
 unfold fA;rw[List.getElem?_map,Tc h];rfl
theorem Qm (ns:List NodeP):(fA ns).length=bh ns:=by simp[fA]
theorem Qn {g:Int}{ns:List NodeP}(h:NetOk g ns){vals:List Int}(hf:bH (ak ns) vals):0<=weight ns vals/\weight ns vals<=167961600000000:=by
 have:=yE h hf ns.length;rw[SH (by rw[sC];omega)]at this;exact this
theorem Qo (g:Int)(ns:List NodeP)(us:List UtilP)(h:NetOk g ns)(hu:∀u∈us,UtilOk ns u)(h4:us.length<=4)(hBd:∀k,k<=bh ns->-1000000000000000000<=fK ns us k/\fK ns us k<=1000000000000000000)
  (H:AHeap) (sb fb:Nat) (hsb:H.get sb=some (.arr 0 3 [.lit (.int .i64 0)])) (hfb:H.get fb=some (.arr 0 128 [.lit (.int .i64 g),.vec ns.length (aF ns),.vec us.length (aO us)])) (hlt:sb<H.next) (hltf:fb<H.next) (hfs:fb≠sb)
  (K:ARes->AHeap->Prop) (hK:∀H',H.next<=H'.next->(∀id,id<H.next->id≠sb->H'.get id=H.get id)->H'.get sb=some (.arr 0 3 [.lit (.int .i64 (fK ns us (bh ns)))])->K (.ret (.tup [])) H'):
  ag prog G0 62 [sY g ns us,.clo 63 [] [.ptr sb 0 0,.ptr fb 0 0]] H K:=by
 have n8:=h.n1;have hcards:∀c∈ak ns,1<=c/\c<=4:=fun c hc=>by
  obtain⟨x,hx,rfl⟩:=SY.1 hc;exact(h.node x hx).1
 have sm:cY (ak ns):=ki (by rw[cC];omega) hcards;have hp:=eD fun c hc=>(hcards c hc).1;refine ag.st (n:=24) (rs:=[]) func62 ?_;simp only[go_sem,sY];refine aw.clo (Qz g ns h _ _ ⟨trivial,?_⟩);simp only[go_sem];refine aw.clo (ta ns (by omega) _ _ ⟨trivial,?_⟩);simp only[go_sem];refine aw.clo (sW (ak ns) _ _ ⟨trivial,?_⟩);simp only[go_sem];obtain⟨H2,hH2⟩:∃H2,H2=ext (ext H [.arr 0 128 [.lit (.int .i64 g),.vec ns.length (aF ns),.vec us.length (aO us)],.arr 0 130 (AVal.clo 63 [] [.ptr sb 0 0,.ptr fb 0 0]).cells,.arr 0 42 [af (fA ns)]]) [.arr 0 42 [af (ak ns)]]:=⟨_,rfl⟩
 have n2:H2.next=H.next+4:=by rw[hH2];rfl
 have o2:Over H H2:=by rw[hH2];exact(Over.ext _ _).trans (.ext _ _)
 have g1:H2.get (H.next+1)=some (.arr 0 130 [.clo 63 [] [.ptr sb 0 0,.ptr fb 0 0]]):=by rw[hH2,dp];exact bD H _ 1 (by simp)
 have g2:H2.get (H.next+2)=some (.arr 0 42 [af (fA ns)]):=by rw[hH2,dp];exact bD H _ 2 (by simp)
 have g3:H2.get (H.next+3)=some (.arr 0 42 [af (ak ns)]):=by rw[hH2,dp];exact bD H _ 3 (by simp)
 have gsb:=(o2.old _ hlt).trans hsb;have gfb:=(o2.old _ hltf).trans hfb;refine W.env fun E hE=>?_;have e3:E 3=.ptr (H.next+1) 0 0:=by rw[hE];simp only[go_sem]
 have e4:E 4=.ptr (H.next+2) 0 0:=by rw[hE];simp only[go_sem]
 have e14:E 14=.clo 131 [] [.ptr (H.next+3) 0 0]:=by rw[hE];rfl
 clear hE;show W _ _ _ _ _ _ ⟨E,ext (ext H [.arr 0 128 [.lit (.int .i64 g),.vec ns.length (aF ns),.vec us.length (aO us)],.arr 0 130 (AVal.clo 63 [] [.ptr sb 0 0,.ptr fb 0 0]).cells,.arr 0 42 [af (fA ns)]]) [.arr 0 42 [af (ak ns)]]⟩;rw[<- hH2];have hit:=sV (ak ns) (fun c hc=>(hcards c hc).1) sm (H.next+3) (H2.next+1) (by omega);refine W.tv (f:=131) (first:=[]) (cap:=[.ptr (H.next+3) 0 0]) (by show E 14=_;exact e14) hit
  (fun k Hx=>H2.next<Hx.next/\(∀id,id<H2.next->id≠sb->Hx.get id=H2.get id)/\Hx.get sb=some (.arr 0 3 [.lit (.int .i64 (fK ns us k))]))
  (fun _ _=>False)
  (fun k Hx h=>(h.2.1 _ (by omega) (by omega)).trans g3)
  (fun k H1 H3 h hw=>⟨by have:=hw.1;omega,fun id h1 h2=>(hw.2 _ (by omega) (by have:=h.1;omega)).trans (h.2.1 id h1 h2),(hw.2 _ (by omega) (by have:=h.1;omega)).trans h.2.2⟩)
  (fun k Hx h=>h.1)
  (fun k H1 b h=>⟨h.1,fun id h1 h2=>by rw[ae,SI (by omega)];exact h.2.1 id h1 h2,by rw[ae,SI (by omega)];exact h.2.2⟩)
  (fun _ _ _ h=>h) (fun k H1 b h=>by unfold lY at h ⊢;rw[ae,SI (by omega)];exact h)
  (fun b=>⟨by rw[aS];simp,fun id h1 h2=>bb h1,by rw[bb (by omega)];exact gsb⟩) (by decide)
  (fun x hx=>by
   obtain⟨k,hk⟩:=SW.1 hx;obtain⟨_,rfl⟩:=lX hk;rfl) (fun _ _ _=>trivial) (fun _ _ _=>trivial) (fun k y Hx B Bb hy hj hcs hn hB hBb=>?_) (fun Hx hj hn=>?_) (fun _ hs _=>hs.elim) (fun _ _ hs _=>hs.elim)
 ·obtain⟨hk,rfl⟩:=lX hy;refine W.vs ?_;simp only[go_sem,fV,bA,ir,Ts,TS,Tx,Tz,hB];obtain⟨H3,hH3⟩:∃H3,H3=Hx.upd H2.next Bb:=⟨_,rfl⟩
  rw[<- hH3];obtain⟨st,pd,n',en,ps',as',bo,hBe⟩:=hBb;have n3:H3.next=Hx.next:=by rw[hH3];rfl
  have o3:∀id,id≠H2.next->H3.get id=Hx.get id:=fun id h=>by rw[hH3,ae,SI h]
  have jB:H3.get H2.next=some Bb:=by rw[hH3,ae,SK rfl]
  have k1:=(o3 _ (by omega)).trans ((hj.2.1 (H.next+1) (by omega) (by omega)).trans g1);have k2:=(o3 _ (by omega)).trans ((hj.2.1 (H.next+2) (by omega) (by omega)).trans g2);have kf:=(o3 _ (by omega)).trans ((hj.2.1 fb (by omega) hfs).trans gfb);have ks:=(o3 _ (by omega)).trans hj.2.2;have kN:H3.get (H2.next+1)=some (.arr 0 3 (ints (aR (ak ns) k))):=(o3 _ (by omega)).trans hcs;obtain⟨vals,hvals⟩:∃vals,vals=aR (ak ns) k:=⟨_,rfl⟩
  have hfit:bH (ak ns) vals:=by rw[hvals];exact kM (fun c hc=>(hcards c hc).1) _
  rw[<- hvals]at kN;have hvl:vals.length=ns.length:=by rw[hfit.1,cC]
  refine W.en (fun E1=>E1 3=.ptr (H.next+1) 0 0 /\ E1 4=.ptr (H.next+2) 0 0 /\ E1 5=aa k /\ E1 6=.own (H2.next+1) 0 0 ns.length 1) (by simp only[go_sem,bA,e3,e4,cC]) fun E1 ⟨m3,m4,m5,m6⟩=>?_
  have l1:=ah k1;have l2:=ah k2;have hkw:k<bh ns:=hk;have hwk:=Ql hkw;rw[<- hvals]at hwk;have hwne:=aJ hwk;have hkl:(k:Int)<(fA ns).length:=by rw[Qm];omega
  have hs1:=yb ns us k;rw[<- hvals]at hs1;refine W.vs ?_;simp only[go_sem];refine W.dr 6 [0,0,0,0,12,28] mixed ?_;simp only[go_sem,m3,m4,m5,m6,l1,l2,hwk,hwne,hkl];refine aw.clo (QC g ns us vals (by omega) (fun y hy=>(h.node y hy).1) hu h4 hfit (weight ns vals) (fK ns us k) (Qn h hfit) (hBd k (by omega)) H3 (H2.next+1) ns.length sb fb kN hvl.symm ks kf (by omega) (by omega) hfs _ ⟨⟨_,_,_,_,_,_,_,by rw[ae,SI (by omega),jB,hBe]⟩,?_⟩);simp only[go_sem];refine⟨by rw[ae,SI (by omega)];exact jB,by rw[au];omega,⟨⟨by rw[au];omega,fun id h1 h2=>by rw[ae,SI h2,o3 _ (by omega)];exact hj.2.1 id h1 h2,by rw[ae,SK rfl,hs1]⟩,?_⟩⟩;unfold lY;rw[ae,SI (by omega),kN,hvals]
 ·simp only[go_sem];exact ar.mk (by omega) (hK Hx (by omega) (fun id h1 h2=>(hj.2.1 id (by omega) h2).trans (o2.old _ h1)) (by have:=hj.2.2;rw[qD]at this;exact this))
theorem Qp (x y:Int)(hx:0<=x)(hy:0<=y):Int.gcd y (x % y)=Int.gcd y x:=by
 obtain⟨a,rfl⟩:=SR hx;obtain⟨b,rfl⟩:=SR hy;rw[<- Int.natCast_emod];show Nat.gcd b (a % b)=Nat.gcd b a;rw[V2 b (a % b),<- Nat.gcd_rec]
theorem Dk (g:Int)(n:Nat)(hg:1<=g/\g<=60)(hn:n<=8)(H:AHeap)(K:ARes->AHeap->Prop)(hK:K (.ret (aa (g ^ n))) H):ag prog G0 57 [aa g,aa n] H K:=by
 refine ag.st (n:=14) (rs:=[.tmp 4]) func57 ?_;simp only[go_sem];refine W.aG 8096 (by rfl) (fun ρ H'=>H'=H/\∃k:Nat,ρ 7=aa k/\k<=n/\ρ 5=aa (g ^ k)) (fun ρ H=>n-(iv (ρ 7)).toNat) ?_ ?_
 ·simp only[go_sem];exact⟨0,rfl,by omega,by rw[VC]⟩
 rintro ρ H' ⟨rfl,k,h7,hk,h5⟩;refine W.vs ?_;have hpow:∀k:Nat,0<=g ^ k/\g ^ k<=60 ^ k:=fun k=>by
  induction k with
  |zero=>simp
  |succ k ih =>
   rw[T4,T4];exact⟨T8 ih.1 (by omega),TJ ih.2 hg.2 (by omega) (by have:=Vt (n:=60) (m:=k) (by decide);omega)⟩
 by_cases hb:(k:Int)<n
 ·have h1:=hpow (k+1);have h2:=vz (k+1) (by omega);rw[T4]at h1;have w1:=SF (g ^ k*g) (by omega);have w2:=SF ((k:Int)+1) (by omega);simp only[go_sem,h7,h5,hb,w1,w2];exact⟨⟨k+1,rfl,by omega,by rw[T4]⟩,by omega⟩
 ·have e:k=n:=by omega
  subst e;simp only[go_sem,h7,h5,hb];exact ar.mk (Nat.le_refl _) hK
def dV (n d:Int):AVal:=.agg [.lit (.int .i64 (n.tdiv (Int.gcd n d:Int))),.lit (.int .i64 (d.tdiv (Int.gcd n d:Int)))]
theorem Dl (n d:Int)(hn:-4611686018427387904<=n/\n<=4611686018427387904)(hd:1<=d/\d<=4611686018427387904)(H:AHeap)(K:ARes->AHeap->Prop)(hK:K (.ret (dV n d)) H):ag prog G0 56 [aa n,aa d] H K:=by
 refine ag.clo ⟨_,func56,rfl,rfl⟩ fun hcl=>?_;have w1:=SF (0-n) (by omega);have w2:(if 0-n > n then 0-n else n)=(n.natAbs:Int):=by split<;>omega
 have w3:(if n<0-n then 0-n else n)=(n.natAbs:Int):=w2;refine ag.st (n:=25) (rs:=[.cell 4 50]) func56 ?_;simp only[go_sem,w1,w2];refine W.aG 258144 (by rfl) (fun ρ H'=>H'=ext H [.arr 0 50 [.lit (.int .i64 0),.lit (.int .i64 0)]]/\∃x y:Int,ρ 5=aa x/\ρ 6=aa y/\0<=x/\0<=y/\Int.gcd x y=Int.gcd n d) (fun ρ H=>(iv (ρ 6)).toNat) ?_ ?_
 ·simp only[go_sem];exact⟨n.natAbs,d,rfl,rfl,by omega,by omega,by simp[Int.gcd]⟩
 rintro ρ H' ⟨rfl,x,y,h5,h6,hx,hy,hg⟩;refine W.en (fun E=>E 0=aa n /\ E 1=aa d /\ E 4=.ptr H.next 0 0 /\ E 5=aa x /\ E 6=aa y) (by simp only[go_sem,h5,h6]) fun E ⟨e0,e1,e4,e5,e6⟩=>?_
 refine W.vs ?_;by_cases hz:y=0
 ·subst hz;have e:x=(Int.gcd n d:Int):=by rw[<- hg,Int.gcd_zero_right];omega
  have g0:0<Int.gcd n d:=VJ _ (by omega);have hxz:¬x=0:=by omega
  have hgn:(Int.gcd n d:Int)≠0:=by omega
  simp only[go_sem,e6];refine W.dr 6 [0,0,3,0,0,24] mixed ?_;have b1:-4611686018427387904<=n.tdiv x/\n.tdiv x<=4611686018427387904:=by
   have h2:(n.tdiv x).natAbs<=n.natAbs:=(by rw[VP];exact UJ _ _);omega
  have b2:-4611686018427387904<=d.tdiv x/\d.tdiv x<=4611686018427387904:=by
   have h2:(d.tdiv x).natAbs<=d.natAbs:=(by rw[VP];exact UJ _ _);omega
  have u1:=SF (n.tdiv x) (by omega);have u2:=SF (d.tdiv x) (by omega);simp only[go_sem,e0,e1,e4,e5,hxz,u1,u2];refine ar.drop aE hcl (v':=dV n d) ?_ hK;rw[e];refine .agg rfl fun i hi _=>?_
  match i,hi with
  |0,_=>exact .lit _
  |1,_=>exact .lit _
 ·have m1:x.tmod y=x % y:=Ta hx;have m2:=TP x hz;have m3:=TO x (show 0<y by omega);simp only[go_sem,e6,hz];refine W.dr 5 [0,0,0,6,3] mixed ?_;simp only[go_sem,e5,e6,hz,m1];refine⟨⟨y,x % y,rfl,rfl,hy,m2,?_⟩,by rw[h6];simp only[aa,aM];omega⟩;rw[<- hg,Int.gcd_comm x y];exact Qp x y hx (by omega)
theorem Dm {g card a:Int}(hg:0<=g)(ha:0<=a/\a<card):jz g card (bI g card a):=by
 refine⟨by rw[sQ];omega,fun w hw=>?_,?_⟩
 ·unfold bI at hw;rcases Tg hw with h|h
  ·have:=Tr h;omega
  ·omega
 ·unfold bI;have key:∀(n i:Nat),i<n->((List.replicate n (0:Int)).set i g).sum=g:=by
   intro n
   induction n with
   |zero=>intro i h;omega
   |succ n ih =>
    intro i h;cases i with
    |zero=>simp[TI]
    |succ i=>rw[TI,List.set_cons_succ,Uv,ih i (by omega)];omega
  exact key _ _ (by omega)
theorem kg (d:InfP)(c:Nat->Nat->Int):ak (bG d c)=ak d.nodes:=OF
theorem dB (d:InfP)(c:Nat->Nat->Int):(bG d c).length=d.nodes.length:=kS _ _ _
theorem eW {d:InfP}{c:Nat->Nat->Int}{v:Nat}{x:NodeP}(h:d.nodes[v]?=some x):(bG d c)[v]?=some (fa d c (az d).length v x):=nP h
theorem pj (d:InfP)(c:Nat->Nat->Int)(x:NodeP):aP (bG d c) x=aP d.nodes x:=by unfold aP;rw[kg]
theorem Dn (d:InfP)(c:Nat->Nat->Int):bj (bG d c)=bj d.nodes:=by
 apply Ti;intro v;unfold bj;rw[List.getElem?_map,List.getElem?_map];rcases S9 v d.nodes.length with h|h
 ·obtain⟨x,hx⟩:=get_of_lt h;rw[eW hx,hx];simp only[Option.map_some,(gD d c _ v x).2]
 ·rw[SQ (by rw[dB];exact h),SQ h]
theorem n9 {d:InfP}{v:Nat}{x:NodeP}(hx:d.nodes[v]?=some x)(hb:d.decs.testBit v=true):(az d)[aU d.decs v]?=some v:=kQ (get_lt hx) hb
theorem lg {d:InfP}{c:Nat->Nat->Int}{v:Nat}{x:NodeP}(hx:d.nodes[v]?=some x)(hb:d.decs.testBit v=true):fa d c (az d).length v x={ x with rows:=x.rows++di d.grain d.nodes c (aU d.decs v) x } :=
 SK ⟨hb,get_lt (n9 hx hb)⟩
theorem kh {d:InfP}{c:Nat->Nat->Int}{v k:Nat}{x:NodeP}(hb:¬d.decs.testBit v=true):fa d c k v x=x:=SI fun h=>hb h.1
def vp (d:InfP)(c:Nat->Nat->Int):Prop:=∀(k v r:Nat) (x:NodeP),(az d)[k]?=some v->d.nodes[v]?=some x->r<bB d.nodes x->0<=c k r/\c k r<x.card
theorem vr {d:InfP}(h:InfOk d){c:Nat->Nat->Int}(hc:vp d c):NetOk d.grain (bG d c):=by
 have h0:=h.net;refine⟨h0.g1,by rw[dB];exact h.n.n1,fun y hy=>?_,by have:=h0.size;rw[kg]at this ⊢;exact this,by have:=h0.acyc;rw[Dn]at this ⊢;exact this,fun y hy=>?_⟩
 ·obtain⟨v,x,hx,rfl⟩:=sR hy;have:=h0.node _ (SE (eW (c:=fun _ _=>0) hx));rw[(gD ..).1,(gD ..).2,dB]at this ⊢;exact this
 ·obtain⟨v,x,hx,rfl⟩:=sR hy;have h1:=h0.rows _ (SE (eW (c:=fun _ _=>0) hx));unfold fO at h1 ⊢;rw[pj]at h1 ⊢;by_cases hb:d.decs.testBit v=true
  ·rw[lg hx hb]at h1 ⊢;have x1:=(h.n.dec v x hx hb).1;refine⟨?_,fun r hr=>?_⟩
   ·have:=h1.1;rw[show ({ x with rows:=x.rows++di d.grain d.nodes (fun _ _=>0) (aU d.decs v) x }:NodeP).rows.length=bB d.nodes x by simp[x1,di]]at this;rw[show ({ x with rows:=x.rows++di d.grain d.nodes c (aU d.decs v) x }:NodeP).rows.length=bB d.nodes x by simp[x1,di]];exact this
   ·rw[show ({ x with rows:=x.rows++di d.grain d.nodes c (aU d.decs v) x }:NodeP).rows=x.rows++di d.grain d.nodes c (aU d.decs v) x from rfl,x1,List.nil_append]at hr;unfold di at hr;obtain⟨i,hi,rfl⟩:=SY.1 hr;have:=h0.g1;exact Dm (by omega) (hc _ _ _ x (n9 hx hb) hx (Tn.1 hi))
  ·rw[kh hb]at h1 ⊢;exact h1
theorem vu {d:InfP}{c:Nat->Nat->Int}{u:UtilP}(h:UtilOk d.nodes u):UtilOk (bG d c) u:=⟨by rw[dB];exact h.vars,by rw[kg];exact h.size,h.w⟩
theorem po {d:InfP}{p:List (List Int)}(h:PolOk d p):vp d (fixC p):=fun k v r x hv hx hr=>by
 obtain⟨l,a,hl,ha,he,hb⟩:=Du h hv hx hr;rw[he];exact hb
def bW (d:InfP)(p:List (List Int)):Int:=fK (bG d (fixC p)) d.utils (bh d.nodes)
noncomputable def ke (d:InfP)(p:List (List Int)):AVal:=if cK d p=0 then dV (bW d p) (d.grain ^ d.nodes.length) else .agg [.lit (.int .i64 0),.lit (.int .i64 0)]
theorem sP (d:InfP)(c:Nat->Nat->Int):bh (bG d c)=bh d.nodes:=by unfold bh;rw[kg]
def Do (d:InfP)(p:List (List Int)):Prop:=InfOk d->PolOk d p->∀k,k<=bh d.nodes->-1000000000000000000<=fK (bG d (fixC p)) d.utils k/\fK (bG d (fixC p)) d.utils k<=1000000000000000000
theorem sL (d:InfP)(hf:InfFit d)(p:List (List Int))(hp:ji p)(hs:Do d p)(H:AHeap)(K:ARes->AHeap->Prop)(hK:K (.ret (.tup [ke d p,aa (cK d p)])) H):ag prog G0 23 [cW d,aj p] H K:=by
 refine ag.clo ⟨_,func23,rfl,rfl⟩ fun hcl=>?_;refine ag.st (n:=37) (rs:=[.cell 4 50,.tmp 5]) func23 ?_;simp only[go_sem,gI,bK];obtain⟨H1,hH1⟩:∃H1,H1=ext H [.arr 0 38 [.lit (.int .i64 d.grain),.vec d.nodes.length (aF d.nodes),.lit (.int .u64 (d.decs:Int)),.vec d.utils.length (aO d.utils)],.arr 0 50 [.lit (.int .i64 0),.lit (.int .i64 0)]]:=⟨_,rfl⟩
 have g1:=df hH1
 have g2:=gE hH1 1 rfl
 have l1:=ah g1;have l2:=ah g2;have n1:H1.next=H.next+2:=hH1▸rfl
 have o1:Over H H1:=hH1▸.ext _ _
 rw[<- hH1];refine aw.clo (Qx d hf p hp _ _ ⟨trivial,?_⟩);by_cases hz:cK d p=0;rotate_left
 ·have hcell:(AVal.lit (.int .i64 (cK d p))).cells=[.lit (.int .i64 (cK d p))]:=rfl;have ef:sU d p=sT:=SI hz;have ev:ke d p=.agg [.lit (.int .i64 0),.lit (.int .i64 0)]:=SI hz;have l2':=ah (show (ext H1 [.arr 0 81 [.lit (.int .i64 0),.vec 0 []]]).get (H.next+1)=some (.arr 0 50 [.lit (.int .i64 0),.lit (.int .i64 0)]) by rw[dv _ _ _ (by omega)];exact g2);rw[ef];simp only[go_sem,hz,l2',sT];rw[ev]at hK;refine ar.aV (v':=.tup [.agg [.lit (.int .i64 0),.lit (.int .i64 0)],aa (cK d p)]) aE hcl (Over.upd (id:=H.next+1) (o1.trans (.ext _ _)) (Uc _) _) (.tup rfl fun i hi _=>?_) hK
  match i,hi with
  |0,_ =>
   refine .agg rfl fun i hi _=>?_
   match i,hi with
   |0,_=>exact .lit _
   |1,_=>exact .lit _
  |1,_=>exact .lit _
 obtain⟨hok,hpo⟩:=qC.1 hz;have ef:sU d p=bL d.grain (bG d (fixC p)):=SK hz;have ev:ke d p=dV (bW d p) (d.grain ^ d.nodes.length):=SK hz;rw[hz,ef,bL,cE];rw[hz,ev]at hK;have hnet:=vr hok (po hpo);have hsum:=hs hok hpo;have hw:=sP d (fixC p);have hfl:=dB d (fixC p);obtain⟨ns,hns⟩:∃ns,ns=bG d (fixC p):=⟨_,rfl⟩
 rw[<- hns]at hnet hsum hw hfl ⊢;obtain⟨H2,hH2⟩:∃H2,H2=ext H1 [.arr 0 81 [.lit (.int .i64 d.grain),.vec ns.length (aF ns)]]:=⟨_,rfl⟩
 have n2:H2.next=H1.next+1:=hH2▸rfl
 have o2:Over H1 H2:=hH2▸.ext _ _
 have q1:=ah ((o2.old _ (by omega)).trans g1);have q3:=ah (show H2.get H1.next=some (.arr 0 81 [.lit (.int .i64 d.grain),.vec ns.length (aF ns)]) by rw[hH2];exact bX);rw[hH2]at q1 q3;simp only[go_sem,q1,q3];obtain⟨H3,hH3⟩:∃H3,H3=ext H1 [.arr 0 81 [.lit (.int .i64 d.grain),.vec ns.length (aF ns)],.arr 0 128 [.lit (.int .i64 d.grain),.vec ns.length (aF ns),.vec d.utils.length (aO d.utils)],.arr 0 3 [.lit (.int .i64 0)]]:=⟨_,rfl⟩
 have n3:H3.next=H1.next+3:=hH3▸rfl
 have o3:Over H H3:=by rw[hH3];exact o1.trans (.ext _ _)
 have r1:=gE hH3 1 rfl
 have r2:=gE hH3 2 rfl
 have r0:H3.get (H.next+1)=some (.arr 0 50 [.lit (.int .i64 0),.lit (.int .i64 0)]):=by rw[hH3,dv _ _ _ (by omega)];exact g2
 rw[<- hH3];refine aw.clo (Qo d.grain ns d.utils hnet (fun u hu=>by rw[hns];exact vu (hok.utils.2 u hu)) hok.utils.1 (fun k hk=>hsum k (by omega)) H3 (H1.next+2) (H1.next+1) r2 r1 (by omega) (by omega) (by omega) _ fun H4 h4 old hsb=>⟨trivial,?_⟩);have s1:=ah ((old (H1.next+1) (by omega) (by omega)).trans r1);have s2:=ah hsb;have s0:=ah ((old (H.next+1) (by omega) (by omega)).trans r0);rw[hw]at s2;simp only[go_sem];refine W.dr 9 [0,0,2,6,0,16,48,112,254] mixed ?_;simp only[go_sem,s1,s2];have gp:=hok.net.g1;have gn:=hok.n.n1;have pw0:1<=d.grain ^ ns.length:=Vt (by omega);have pw1:d.grain ^ ns.length<=167961600000000:=by
  have key:∀k:Nat,d.grain ^ k<=60 ^ k:=fun k=>by
   induction k with
   |zero=>simp
   |succ k ih =>
    rw[T4,T4];exact TJ ih gp.2 (by omega) (by have:=Vt (n:=60) (m:=k) (by decide);omega)
  have:=key ns.length;have:=vz ns.length (by omega);omega
 have hsw:=hsum (bh d.nodes) (Nat.le_refl _);refine⟨aa (d.grain ^ ns.length),[],bf.pure (fun H2=>Dk d.grain ns.length gp (by omega) H2 _ ⟨rfl,rfl⟩),?_⟩;refine aw.clo (Dl _ _ (by omega) (by omega) _ _ ⟨trivial,?_⟩);simp only[go_sem,s0,dV];have o4:Over H H4:=⟨by have:=o3.next;omega,fun id h=>(old id (by omega) (by omega)).trans (o3.old id h)⟩
 refine ar.aV (v':=.tup [dV (bW d p) (d.grain ^ d.nodes.length),aa 0]) aE hcl (Over.upd (id:=H.next+1) o4 (Uc _) _) (.tup rfl fun i hi _=>?_) hK
 match i,hi with
 |0,_ =>
  unfold bW dV;rw[<- hns,hfl];refine .agg rfl fun i hi _=>?_
  match i,hi with
  |0,_=>exact .lit _
  |1,_=>exact .lit _
 |1,_=>exact .lit _
theorem Qq (cs:List Int)(h1:∀c∈cs,1<=c)(hs:cY cs)(i0:Int)(hi:0<=i0/\i0<=4611686018427387904)(H:AHeap)(K:ARes->AHeap->Prop)(hK:K (.ret (af (aR cs i0))) H):ag prog G0 128 [af cs,aa i0] H K:=by
 refine ag.clo ⟨_,func128,rfl,rfl⟩ fun hcl=>?_;have h12:=hs.1;have w0:=SF ((cs.length:Int)-1) (by omega);refine ag.st (n:=33) (rs:=[.tmp 4]) func128 ?_;simp only[go_sem,w0];refine⟨by omega,?_⟩;refine W.aG 4294959170 (by rfl) (fun ρ H'=>∃m:Nat,ρ 6=aa ((m:Int)-1)/\m<=cs.length/\OwnI H H' H.next (List.replicate m 0++aR (cs.drop m) i0)/\ρ 1=aa (i0 / ao (cs.drop m))) (fun ρ H=>(iv (ρ 6)+1).toNat) ?_ ?_
 ·simp only[go_sem];refine⟨cs.length,rfl,by omega,?_,?_⟩
  ·rw[List.drop_length,show aR [] i0=[] from rfl,List.append_nil];exact .new [] _
  ·rw[List.drop_length,gm,Int.ediv_one]
 rintro ρ H' ⟨m,h6,hm,ho,h1'⟩;refine W.en (fun E=>E 0=.vec cs.length (ints cs) /\ E 1=aa (i0 / ao (cs.drop m)) /\ E 5=.own H.next 0 0 cs.length 1 /\ E 6=aa ((m:Int)-1)) (by simp only[go_sem,h1',h6]) fun E ⟨e0,e1,e5,e6⟩=>?_
 refine W.vs ?_;have lN:=ho.live;have clen:(List.replicate m 0++aR (cs.drop m) i0).length=cs.length:=by simp[kL];omega
 by_cases hm0:m=0
 ·subst hm0;have e6':E 6=aa (-1):=e6;simp only[go_sem,e6',e5];exact ho.fin hcl clen.symm hK
 ·obtain⟨k,rfl⟩:∃k,m=k+1:=⟨m-1,by omega⟩
  have e6':E 6=aa k:=by rw[e6];congr 1;omega
  obtain⟨c,hck⟩:=get_of_lt (l:=cs) (i:=k) (by omega);have hne:=aJ hck;have c1:=h1 c (SE hck);have hcz:¬c=0:=by omega
  have hk0:(k:Int) >= 0:=by omega
  have hkc:(k:Int)<cs.length:=by omega
  have pp:1<=ao (cs.drop (k+1)):=eD fun c hc=>h1 c (T3 hc);have q0:0<=i0 / ao (cs.drop (k+1)):=Vq hi.1 (by omega);have q1:i0 / ao (cs.drop (k+1))<=i0:=VH _ hi.1;have m1:(i0 / ao (cs.drop (k+1))).tmod c=i0 / ao (cs.drop (k+1)) % c:=Ta q0;have m2:(i0 / ao (cs.drop (k+1))).tdiv c=i0 / ao (cs.drop (k+1)) / c:=Tw q0;have m3:0<=i0 / ao (cs.drop (k+1)) / c:=Vq q0 (by omega);have m4:i0 / ao (cs.drop (k+1)) / c<=i0 / ao (cs.drop (k+1)):=VH _ q0;have w1:=SF ((k:Int)-1) (by omega);have w2:=SF (i0 / ao (cs.drop (k+1)) / c) (by omega);simp only[go_sem,e0,e1,e5,e6',hk0,hkc,lN,hck,hne,hcz,m1,m2,w1,w2];refine⟨by rw[<- List.length_append,clen];omega,by have:=ho.hi;rw[au];omega,⟨k,rfl,by omega,?_,?_⟩,by rw[h6];simp only[aa,aM];omega⟩
  ·have:=ho.store (k:=k) (by rw[clen];omega) (i0 / ao (cs.drop (k+1)) % c);rw[show (List.replicate (k+1) (0:Int)++aR (cs.drop (k+1)) i0).set k (i0 / ao (cs.drop (k+1)) % c)=List.replicate k 0++aR (cs.drop k) i0 by
    rw[On hck,UZ,List.append_assoc,To _ _ (by simp)];simp]at this
   exact this
  ·rw[jw hck,jf,Uf c,VY (by omega)]
theorem yD (g:Int)(ns:List NodeP)(h8:ns.length<=8)(hc:∀y∈ns,1<=y.card/\y.card<=4)(i0:Int)(hi:0<=i0/\i0<=4611686018427387904)(H:AHeap)(K:ARes->AHeap->Prop)(hK:K (.ret (af (aR (ak ns) i0))) H):ag prog G0 92 [bL g ns,aa i0] H K:=by
 refine ag.clo ⟨_,func92,rfl,rfl⟩ fun hcl=>?_;have hcards:∀c∈ak ns,1<=c/\c<=4:=fun c h=>by
  obtain⟨x,hx,rfl⟩:=SY.1 h;exact hc x hx
 have sm:cY (ak ns):=ki (by rw[cC];omega) hcards;refine ag.st (n:=9) (rs:=[.tmp 4]) func92 ?_;simp only[go_sem,bL,cE];refine aw.clo (pt g ns (by omega) _ _ ⟨trivial,?_⟩);simp only[go_sem];refine aw.clo (Qq (ak ns) (fun c h=>(hcards c h).1) sm i0 hi _ _ ⟨trivial,?_⟩);simp only[go_sem];exact ar.drop aE hcl (.cI _) hK
theorem vv (g:Int)(ns:List NodeP)(h8:ns.length<=8)(hc:∀y∈ns,1<=y.card/\y.card<=4)(H:AHeap)(K:ARes->AHeap->Prop)(hK:K (.ret (aa (ao (ak ns)))) H):ag prog G0 90 [bL g ns] H K:=by
 refine ag.clo ⟨_,func90,rfl,rfl⟩ fun hcl=>?_;have hcards:∀c∈ak ns,1<=c/\c<=4:=fun c h=>by
  obtain⟨x,hx,rfl⟩:=SY.1 h;exact hc x hx
 have sm:cY (ak ns):=ki (by rw[cC];omega) hcards;refine ag.st (n:=6) (rs:=[.tmp 2]) func90 ?_;simp only[go_sem,bL,cE];refine aw.clo (pt g ns (by omega) _ _ ⟨trivial,?_⟩);simp only[go_sem];refine aw.clo (vA (ak ns) sm _ _ ⟨trivial,?_⟩);simp only[go_sem];exact ar.drop aE hcl (.lit _) hK
theorem Qr (g:Int)(ns:List NodeP)(h:NetOk g ns)(vals:List Int)(hf:bH (ak ns) vals)(v:Nat)(x:NodeP)(hx:ns[v]?=some x)(H:AHeap)(K:ARes->AHeap->Prop)(hK:K (.ret (af (nS ns x vals))) H):ag prog G0 129 [bL g ns,aa v,af vals] H K:=by
 refine ag.clo ⟨_,func129,rfl,rfl⟩ fun hcl=>?_;have n8:=h.n1;have hxm:=SE hx;have hin:eF x.parents ns.length:=fun q hq=>by have:=(h.node x hxm).2.2 q hq;omega
 have sm:=iQ n8.2 (h.node x hxm).2 fun y hy=>(h.node y hy).1;have pl:(aP ns x).length=x.parents.length:=gJ _ _;have p12:=sm.1;have hfp:=pr hin hf;obtain⟨i,r,a,w,hR⟩:=qE h hx hf;have hne:=dJ hx;have e1:=jY hx;have e2:=qf hx;have hv:(v:Int)<ns.length:=by have:=get_lt hx;omega
 have hvl:vals.length=ns.length:=by rw[hf.1,cC]
 have hri:=hR.row;have hrne:=aJ hri;have hrl:(i:Int)<x.rows.length:=by have:=get_lt hri;omega
 have hidx:=hR.idx;rw[hR.rv]at hK;have hin':∀q∈x.parents,0<=q/\q<(vals.length:Int):=fun q hq=>by rw[hvl];exact hin q hq
 refine ag.st (n:=27) (rs:=[.tmp 6]) func129 ?_;simp only[go_sem,bL,cE];refine W.dr 18 [0,1,0,7,15,31,0,0,192,0,0,1024,0,7168,15360,31744,65472,131008] mixed ?_;simp only[go_sem,hv,hne,e1,e2];refine⟨af (aP ns x),[],bf.pure (fun H2=>yG g ns v x hx (by omega) (by omega) hin H2 _ ⟨rfl,rfl⟩),?_⟩;simp only[go_sem];refine⟨af (aI vals x.parents),[],bf.pure (fun H2=>qG vals x.parents (by omega) (by omega) hin' H2 _ ⟨rfl,rfl⟩),?_⟩;simp only[go_sem];refine⟨aa i,[],bf.pure (fun H2=>yF (aP ns x) (aI vals x.parents) sm hfp H2 _ ⟨by rw[hidx],rfl⟩),?_⟩;simp only[go_sem,hrl,aj,hri,hrne];exact ar.drop aE hcl (.cI _) hK
theorem Dp (g:Int)(ns:List NodeP)(h:NetOk g ns)(i0:Int)(hi:0<=i0/\i0<=4611686018427387904)(H:AHeap)(K:ARes->AHeap->Prop)(hK:K (.ret (aa (weight ns (aR (ak ns) i0)))) H):ag prog G0 93 [bL g ns,aa i0] H K:=by
 refine ag.clo ⟨_,func93,rfl,rfl⟩ fun hcl=>?_;have n8:=h.n1;have hcards:∀c∈ak ns,1<=c/\c<=4:=fun c hc=>by
  obtain⟨x,hx,rfl⟩:=SY.1 hc;exact(h.node x hx).1
 refine ag.st (n:=31) (rs:=[.tmp 4]) func93 ?_;simp only[go_sem,bL,cE];obtain⟨H1,hH1⟩:∃H1,H1=ext H [.arr 0 81 [.lit (.int .i64 g),.vec ns.length (aF ns)]]:=⟨_,rfl⟩
 have l1:H1.live H.next 0=some (81,[.lit (.int .i64 g),.vec ns.length (aF ns)]):=by rw[hH1];exact ah (cq ..)
 have o1:Over H H1:=hH1▸.ext _ _
 rw[<- hH1];refine aw.clo (yD g ns n8.2 (fun y hy=>(h.node y hy).1) i0 hi _ _ ⟨trivial,?_⟩);obtain⟨vals,hvals⟩:∃vals,vals=aR (ak ns) i0:=⟨_,rfl⟩
 have hfit:bH (ak ns) vals:=by rw[hvals];exact kM (fun c hc=>(hcards c hc).1) _
 have hvl:vals.length=ns.length:=by rw[hfit.1,cC]
 rw[<- hvals]at hK ⊢;simp only[go_sem];refine W.aG 1073739968 (by rfl) (fun ρ H'=>H'=H1/\∃v:Nat,ρ 7=aa v/\v<=ns.length/\ρ 6=aa (ao ((fy ns vals).take v))) (fun ρ H=>ns.length-(iv (ρ 7)).toNat) ?_ ?_
 ·simp only[go_sem];exact⟨0,rfl,by omega,by simp[gm]⟩
 rintro ρ H' ⟨rfl,v,h7,hv,h6⟩;refine W.en (fun E=>E 2=.ptr H.next 0 0 /\ E 5=af vals /\ E 6=aa (ao ((fy ns vals).take v)) /\ E 7=aa v) (by simp only[go_sem,h6,h7]) fun E ⟨e2,e5,e6,e7⟩=>?_
 refine W.vs ?_;by_cases hb:(v:Int)<ns.length
 ·obtain⟨x,hx⟩:=get_of_lt (l:=ns) (i:=v) (by omega);obtain⟨i,r,a,w,hR⟩:=qE h hx hfit;obtain⟨a',rfl⟩:=SR hR.a0;have hva:=hR.val;have hvne:=aJ hva;have hvv:(v:Int)<vals.length:=by omega
  have hra:r[a']?=some w:=by have:=hR.hw;rw[Int.toNat_natCast]at this;exact this
  have hrane:=aJ hra;have hal:=hR.al;have wt:=yE h hfit (v+1);rw[aL (uL (vals:=vals) (v:=v) (by omega)),eQ,hR.eq]at wt;have w1:=SF ((v:Int)+1) (by omega);have w2:=SF (ao ((fy ns vals).take v)*w) (by omega);simp only[go_sem,l1,e2,e7,hb];refine W.dr 11 [0,0,0,0,14,0,0,96,224,510,1022] mixed ?_;simp only[go_sem,l1,e2,e5,e6,e7];refine⟨af r,[],bf.pure (fun H2=>Qr g ns h vals hfit v x hx H2 _ ⟨by rw[hR.rv],rfl⟩),?_⟩;simp only[go_sem,e2,e5,e6,e7,hva,hvne,hvv,hra,hrane,hal,w1,w2];refine⟨⟨v+1,rfl,by omega,?_⟩,by rw[h7];simp only[aa,aM];omega⟩;rw[aL (uL (vals:=vals) (v:=v) (by omega)),eQ,hR.eq]
 ·have e:v=ns.length:=by omega
  subst e;simp only[go_sem,l1,e2,e6,e7,hb];rw[SH (by rw[sC];omega)];exact ar.aV aE hcl o1 (.lit _) hK
end Go.Proofs
namespace Go.Proofs.R01
open Go.Hx Tryz
section
variable {P:Program} {t:TypeId} {x y:Operand} {k k':IntKind} {a b:Int}
theorem pureRun_bind {α β:Type}{s:Sem α}{f:α->Sem β}{a:α}(h:bF P s=some a):bF P (s >>= f)=bF P (f a):=by
 induction s with
 |pure b=>simp only[bF,Option.some.injEq]at h;subst h;rfl
 |program k ih=>exact ih P h
 |mark m k ih=>exact ih h
 |_=>simp[bF]at h
theorem P0 {t:TypeId}{a b:Bool}(n:Nat)(ht:P.underlying t=some .bool):bF P (Op.equalIn (n+1) t (.bool a) (.bool b))=some (a == b):=by
 unfold Op.equalIn;simp[underlying,program,ht,bF,bind,Sem.bind,pure]
theorem P8 {t:TypeId}{x y:Operand}{a b:Bool}(ht:P.underlying t=some .bool):bx P .neq t x y (.lit (.bool a)) (.lit (.bool b))=some (.lit (.bool (!(a == b)))):=by
 have h1:(do eqGuard .neq t x y (.bool a) (.bool b);binOp .neq t (.bool a) (.bool b))=(Op.equalIn (9999+1) t (.bool a) (.bool b) >>= fun r=>pure (Value.bool (!r))):=rfl;show (bF P _).map _=_;rw[h1,pureRun_bind (P0 9999 ht)];rfl
end
section
variable {P:Program} {G:Nat->Option (List AVal)}
theorem Dd {n m:Nat}{v:AVal}(h:Below n v)(hm:n<=m):Below m v:=by
 induction h with
 |lit v=>exact .lit v
 |vec h ih=>exact .vec ih
 |vptr h ih=>exact .vptr ih
 |agg h ih=>exact .agg ih
 |tup h ih=>exact .tup ih
 |clo h1 h2 ih1 ih2=>exact .clo ih1 ih2
 |own h=>exact .own (by omega)
 |ptr h=>exact .ptr (by omega)
 |yld h=>exact .yld (by omega)
theorem P9 {n m:Nat}{b:Blk}(h:rG n b)(hm:n<=m):rG m b:=by
 cases b with
 |arr g e cells=>exact fun i hi=>Dd (h i hi) hm
 |loop st pend n env ps asg body=>exact fun t ht=>Dd (h t ht) hm
 |rsv=>trivial
 |mp=>exact h
theorem Qa {H:AHeap}(hc:Clo H){L:List Blk}(h:∀b,b∈L->rG (H.next+L.length) b):Clo (ext H L):=by
 have key:∀id b,(ext H L).get id=some b->(id<H.next/\H.get id=some b)\/(id<H.next+L.length/\b∈L):=by
  intro id b hb;by_cases h1:id<H.next
  ·rw[dv _ _ _ h1]at hb;exact .inl ⟨h1,hb⟩
  ·by_cases h2:id<H.next+L.length
   ·have:=bD H L (id-H.next) (by omega);rw[show H.next+(id-H.next)=id by omega,hb]at this;exact .inr ⟨h2,SE this.symm⟩
   ·have:(ext H L).get id=H.get id:=(by unfold ext;simp only;rw[SI (by omega)]);rw[this]at hb;exact absurd (hc.lt _ _ hb) h1
 refine⟨fun id b hb=>?_,fun id b hb=>?_⟩
 ·rw[aS];rcases key id b hb with ⟨h1,_⟩|⟨h1,_⟩<;>omega
 ·rw[aS];rcases key id b hb with ⟨_,h1⟩|⟨_,h1⟩
  ·exact P9 (hc.below _ _ h1) (by omega)
  ·exact h b h1
theorem Qb {n g:Nat}{e:TypeId}{cells:List AVal}(h:∀c,c∈cells->∃v,c=.lit v):rG n (.arr g e cells):=fun i hi=>by
 obtain⟨v,hv⟩:=h _ (Tk hi);rw[hv];exact .lit v
end
def qV (n d:Int):AVal:=.agg [.lit (.int .i64 n),.lit (.int .i64 d)]
def sN (a c:Int):Bool:=!(decide (a<0) == decide (c<0))
def gH (p q:Int):Int:=if p<q then -1 else if p=q then 0 else 1
theorem Qc {S:Nat->Prop}{H:AHeap}{nx:Nat}(n d:Int):Fz S H nx (.agg [.lit (.int .i64 n),.lit (.int .i64 d)]) (qV n d) :=
 .agg rfl fun i hi _=>match i,hi with
  |0,_=>.lit _
  |1,_=>.lit _
end Go.Proofs.R01
namespace Go.Proofs.R01
open Go.Hx Tryz
def val:List Int -> Nat
  | [] => 0
  |a :: l => a.toNat + 10000 * val l
def aD (n:Nat):List Int := if h:n=0 then [] else ((n % 10000:Nat):Int) :: aD (n / 10000)
termination_by n
decreasing_by omega
theorem jh:aD 0 = [] := by rw[aD];rfl
theorem pg {n:Nat}(h:n ≠ 0):aD n=((n % 10000:Nat):Int) :: aD (n / 10000) := by
  conv => lhs;rw[aD]
  rw[dif_neg h]
theorem kd:∀n:Nat,val (aD n)=n := by
  intro n
  induction n using Nat.strongRecOn with
  |_ n ih =>
    by_cases h:n=0
    · subst h;rw[jh];rfl
    · rw[pg h,val,ih _ (by omega)];omega
def Dg (l:List Int):Prop := ∀c,c ∈ l -> 0 <= c /\ c <= 9999
theorem lU:∀n:Nat,Dg (aD n) := by
  intro n
  induction n using Nat.strongRecOn with
  |_ n ih =>
    by_cases h:n=0
    · subst h;rw[jh];intro c hc;cases hc
    · rw[pg h];intro c hc;rcases List.mem_cons.1 hc with rfl |hc
      · omega
      · exact ih _ (by omega) c hc
theorem qx:∀(l m:List Int),val (l ++ m)=val l + 10000 ^ l.length * val m
  | [],m => by simp[val]
  |a :: l,m => by
    simp only[List.cons_append,val,qx l m,List.length_cons,TX,U1];rw[show 10000 * (10000 ^ l.length * val m)=10000 ^ l.length * 10000 * val m by ac_rfl];omega
theorem nX:∀ {l:List Int},Dg l -> val l < 10000 ^ l.length
  | [],_ => by simp[val]
  |a :: l,h => by
    have ih := nX (l := l) fun c hc => h c (by simp[hc]);have ha := h a (by simp);simp only[val,List.length_cons,TX];omega
theorem qy {n k:Nat}(h:n < 10000 ^ k):(aD n).length <= k := by
  induction k generalizing n with
  | zero => have : n = 0 := by simpa using h
            subst this;rw[jh];simp
  |succ k ih =>
    by_cases h0:n=0
    · subst h0;rw[jh];simp
    · rw [pg h0, List.length_cons];have : n / 10000 < 10000 ^ k := by
        rw[TX]at h;exact Uj (by rw[UC];exact h)
      have := ih this;omega
theorem CZ:∀ {l:List Int},Dg l -> (∀a,l.getLast? = some a -> a ≠ 0) -> aD (val l)=l
  | [],_,_ => jh
  |a :: l,h,hl => by
    have ha := h a (by simp);have hd:Dg l := fun c hc => h c (by simp[hc]);have ih := CZ (l := l) hd fun b hb => hl b (by
      cases l with
      |nil => cases hb
      |cons c l => simpa[List.getLast?_cons_cons] using hb)
    by_cases h0:val (a :: l)=0
    · exfalso;simp only[val]at h0;have a0:a=0 :=(by omega);have v0:val l=0 :=(by omega);rw[v0,jh]at ih;exact hl a (by rw[<- ih];rfl) a0
    · rw[pg h0];have e1:val (a :: l) % 10000=a.toNat :=(by simp only[val];omega);have e2:val (a :: l) / 10000=val l :=(by simp only[val];omega);rw[e1,e2,ih];congr 1;omega
theorem PL (k:Nat):val (List.replicate k 0)=0 := by
  induction k with
  |zero => rfl
  |succ k ih => simp[TI,val,ih]
theorem yv {n:Nat}:aD n = [] ↔ n=0 := by
  constructor
  · intro h;have := kd n;rw[h]at this;exact this.symm
  · rintro rfl;exact jh
theorem C0 (b:Nat):b ≠ 0 -> 10000 ^ ((aD b).length-1) <= b := by
  induction b using Nat.strongRecOn with
  |_ b ih =>
    intro hb;rw[pg hb,List.length_cons,U9];by_cases h1:b / 10000=0
    · rw[h1,jh];simp;omega
    · have := ih _ (by omega) h1;have hl : (aD (b / 10000)).length ≠ 0 := by
        intro h;exact h1 (yv.1 (SP h))
      obtain⟨k,hk⟩:∃k,(aD (b / 10000)).length=k + 1 := ⟨_,(Nat.succ_pred_eq_of_ne_zero hl).symm⟩
      rw[hk]at this ⊢;rw[U9]at this;rw[TX];omega
theorem qz {a b:Nat}(h:(aD a).length < (aD b).length):a < b := by
  rcases S9 a b with h1 |h1
  · exact h1
  · exfalso;have h2 := C0 b (by intro h0;rw[h0,jh]at h;simp at h);have h3 := nX (lU a);rw[kd]at h3;have h4:10000 ^ (aD a).length <= 10000 ^ ((aD b).length-1) := Te (by decide) (by omega);omega
end Go.Proofs.R01
namespace Go.Proofs.R01
open Go.Hx Tryz
theorem C2 {α:Type}{l:List α}{i:Nat}{a:α}(h:l[i]? = some a):l.take (i + 1)=l.take i ++ [a] := by
  rw[List.take_add_one,h];rfl
theorem lV {H H' H2:AHeap}{v:AVal}{cs:List AVal}{e:TypeId}(ov:Over H H')(h:ay H.next H' e v cs)(hn:H'.next <= H2.next)(hp:∀k,k < H'.next -> (∀g n,v ≠ .own k g 0 n 1) -> H2.get k=H'.get k):Over H H2 :=
  ⟨by have := ov.next;omega,fun id hid => by
    rw[hp id (by have := ov.next;omega) fun g n he => ?_,ov.old id hid]
    rcases h with ⟨h,_⟩ |⟨i2,g2,a1,_,h,_⟩
    · rw[h]at he;cases he
    · rw[h]at he;have := AVal.own.inj he;omega⟩
theorem yw (n:Int)(hn:-9223372036854775808 <= n /\ n <= 9223372036854775807)(H:AHeap)(K:ARes -> AHeap -> Prop)(hK:K (.ret (af (aD n.natAbs))) H):ag prog G0 67 [.lit (.int .i64 n)] H K := by
  refine ag.clo ⟨_,func67,rfl,rfl⟩ fun hcl => ?_
  refine ag.st (n := 19) (rs := [.tmp 2]) func67 ?_
  simp only[go_sem,bd]
  refine W.aG 262137 (by rfl) (fun ρ H' => ∃(c:Int) (done:List Int),ρ 0=aa c /\ Over H H' /\ ay H.next H' 3 (ρ 3) (ints done) /\ aD n.natAbs=done ++ aD c.natAbs /\ c.natAbs <= n.natAbs) (fun ρ H => (iv (ρ 0)).natAbs) ?_ ?_
  · simp only[go_sem,bd]
    exact⟨n,[],rfl,.refl _,.nil,by simp,by omega⟩
  rintro ρ H' ⟨c,done,h0,ov,h3,hd,hc⟩
  refine W.vs ?_
  by_cases hz:c=0
  · subst hz
    simp only[go_sem,h0,bd]
    rw[show (0:Int).natAbs=0 from rfl,jh,List.append_nil]at hd
    rw[hd]at hK
    exact ar.aV aE hcl ov (h3.dG fun i hi => hi) hK
  · have hq:(c.tdiv 10000).natAbs=c.natAbs / 10000 := by rw[VP];rfl
    have hr:(c.tmod 10000).natAbs=c.natAbs % 10000 := by rw[VO];rfl
    have w1 := SF (c.tmod 10000) (by omega)
    have w2 := SF (0-c.tmod 10000) (by omega)
    have w3 := SF (c.tdiv 10000) (by omega)
    have hmax:(if 0-c.tmod 10000 > c.tmod 10000 then 0-c.tmod 10000 else c.tmod 10000)=((c.natAbs % 10000:Nat):Int) := by split <;> omega
    have h5 : (aD n.natAbs).length ≤ 5 := qy (by have : (10000 : Nat) ^ 5 = 100000000000000000000 := by decide
                                                 omega)
    have hlen:done.length <= 5 := by rw[hd,List.length_append]at h5;omega
    have hdc := pg (n := c.natAbs) (by omega)
    obtain⟨v',H2,hA,hO,hn2,hp⟩ := fW (P := prog) (H := H') (t := 42) (x := aa (c.natAbs % 10000:Nat)) (n := H'.next + 1) Tryz.underlying42 Tryz.dz Tryz.dH rfl (by rw[Tryz.dL,aH];omega) h3 ov.next rfl
    simp only[aa]at hA
    simp only[go_sem,h0,hz,w1,w2,w3,hmax,hA]
    have ov2:Over H H2 := lV ov h3 hn2 hp
    refine⟨ov2.next,⟨c.tdiv 10000,done ++ [((c.natAbs % 10000:Nat):Int)],rfl,ov2,?_,?_,by omega⟩,by omega⟩
    · simpa[ints,aa] using hO
    · rw[hd,hdc,hq];simp
theorem sJ (l:List Int)(hl:Dg l)(hn:(l.length:Int) < 2 ^ 40)(H:AHeap)(K:ARes -> AHeap -> Prop)(hK:K (.ret (af (aD (val l)))) H):ag prog G0 108 [af l] H K := by
  refine ag.st (n := 21) (rs := [.tmp 2]) func108 ?_
  simp only[go_sem,bd]
  refine W.aG 1048569 (by rfl) (fun ρ H' => H=H' /\ ∃(m:List Int),ρ 0=af m /\ Dg m /\ val m=val l /\ m.length <= l.length) (fun ρ H => (match ρ 0 with |.vec n _ => n |_ => 0)) ?_ ?_
  · simp only[go_sem,bd]
    exact⟨l,rfl,hl,rfl,Nat.le_refl _⟩
  rintro ρ H' ⟨rfl,m,h0,hd,hv,hm⟩
  refine W.vs ?_
  unfold af at h0
  by_cases hz:m.length=0
  · have hm0:m = [] := SP hz
    subst hm0
    have z1:¬(0:Int) < ((0:Nat):Int) := by omega
    simp only[go_sem,h0,zj,List.length_nil,bd]
    rw[<- hv]at hK
    have:aD (val []) = [] := jh
    rw[this]at hK
    exact ar.mk (Nat.le_refl _) hK
  · obtain⟨a,ha⟩:∃a,m[m.length-1]? = some a := ⟨_,SJ (by omega)⟩
    have hmn:¬m = [] := by rintro rfl;simp at hz
    have z1:(0:Int) < (m.length:Int) := by omega
    have w1:IntKind.i64.wrap ((m.length:Int)-1)=((m.length-1:Nat):Int) := by rw[SF _ (by omega)];omega
    have b1:((m.length-1:Nat):Int) < (m.length:Int) := by omega
    have b2:((m.length-1:Nat):Int) <= (m.length:Int) := by omega
    by_cases h0a:a=0
    · subst h0a
      simp only[go_sem,h0,z1,w1,b1,b2,ha,hmn,bd]
      have hs:m.take (m.length-1) ++ [0]=m := by
        have h := C2 ha
        rw[Nat.sub_add_cancel (by omega),TC]at h
        exact h.symm
      refine⟨⟨m.take (m.length-1),?_,fun c hc => hd c (S8 hc),?_,by simp;omega⟩,by omega⟩
      · simp only[SN,zg];congr 1;omega
      · rw[<- hv]
        conv => rhs;rw[<- hs]
        rw[qx];simp[val]
    · simp only[go_sem,h0,z1,w1,b1,b2,ha,hmn,h0a,bd]
      have hlast:m.getLast? = some a := by rw[List.getLast?_eq_getElem?];exact ha
      have := CZ hd fun b hb => by rw[hlast]at hb;cases hb;exact h0a
      rw[<- hv,this]at hK
      exact ar.mk (Nat.le_refl _) hK
theorem C3 {x y:List Int}(hx:Dg x)(hy:Dg y)(hl:x.length=y.length){k:Nat}{a b:Int}(ha:x[k]? = some a)(hb:y[k]? = some b)(he:∀j,k < j -> x[j]? = y[j]?)(hab:a < b):val x < val y := by
  have sp:∀ {l:List Int} {c:Int},l[k]? = some c -> l=l.take k ++ c :: l.drop (k + 1) := fun {l c} h => by
    have hk := (Tj.1 h).1
    have h2 := (Tj.1 h).2
    conv => lhs;rw[<- Tl k l]
    rw[TB hk,h2]
  have e1:x.drop (k + 1)=y.drop (k + 1) := by
    apply Ti
    intro i
    rw[TN,TN]
    exact he _ (by omega)
  have hk := (Tj.1 ha).1
  have hk2 := (Tj.1 hb).1
  rw[sp ha,sp hb,qx,qx,e1]
  have l1:(x.take k).length=k := by simp;omega
  have l2:(y.take k).length=k := by simp;omega
  rw[l1,l2]
  have v1 := nX (l := x.take k) fun c hc => hx c (S8 hc)
  have v2:0 <= val (y.take k) := UF _
  rw[l1]at v1
  have pa := hx a (SE ha)
  have pb := hy b (SE hb)
  simp only[val]
  have h3:10000 ^ k * (a.toNat + 10000 * val (y.drop (k + 1))) + 10000 ^ k <= 10000 ^ k * (b.toNat + 10000 * val (y.drop (k + 1))) := by
    have:a.toNat + 10000 * val (y.drop (k + 1)) + 1 <= b.toNat + 10000 * val (y.drop (k + 1)) := by omega
    calc _=10000 ^ k * (a.toNat + 10000 * val (y.drop (k + 1)) + 1) := (Nat.mul_succ _ _).symm
      _ <= _ := Ub _ this
  omega
theorem C4 (x y:Nat)(hx:((aD x).length:Int) < 2 ^ 40)(H:AHeap)(K:ARes -> AHeap -> Prop)(hK:K (.ret (.lit (.int .i64 (gH x y)))) H):ag prog G0 65 [af (aD x),af (aD y)] H K := by
  obtain⟨p,hp⟩:∃p,p=aD x := ⟨_,rfl⟩
  obtain⟨q,hq⟩:∃q,q=aD y := ⟨_,rfl⟩
  have dx := lU x
  have dy := lU y
  have vx := kd x
  have vy := kd y
  have lt1:p.length < q.length -> x < y := fun h => qz (by rw[<- hp,<- hq];exact h)
  have lt2:q.length < p.length -> y < x := fun h => qz (by rw[<- hp,<- hq];exact h)
  rw[<- hp]at hx dx vx ⊢
  rw[<- hq]at dy vy ⊢
  refine ag.st (n := 41) (rs := [.tmp 4]) func65 ?_
  by_cases hl:(p.length:Int)=q.length
  rotate_left
  · by_cases hl2:(p.length:Int) < q.length
    · have:gH x y = -1 := by unfold gH;rw[SK (by have := lt1 (by omega);omega)]
      rw[this]at hK
      simp only[go_sem,hl,hl2,bd]
      exact ar.mk (Nat.le_refl _) hK
    · have := lt2 (by omega)
      have:gH x y=1 := by unfold gH;rw[SI (by omega),SI (by omega)]
      rw[this]at hK
      simp only[go_sem,hl,hl2,bd]
      exact ar.mk (Nat.le_refl _) hK
  have hln:p.length=q.length := by omega
  have w0 := SF ((p.length:Int)-1) (by omega)
  simp only[go_sem,hl,w0,bd]
  rw[<- hl,w0]
  refine W.aG 2199022731312 (by rfl) (fun ρ H' => H=H' /\ ∃(k:Nat),ρ 5=aa ((k:Int)-1) /\ k <= p.length /\ ∀j,k <= j -> p[j]? = q[j]?) (fun ρ H => (iv (ρ 5) + 1).toNat) ?_ ?_
  · simp only[go_sem,bd]
    exact⟨p.length,by simp,Nat.le_refl _,fun j hj => by rw[SQ hj,SQ (by omega)]⟩
  rintro ρ H' ⟨rfl,k,h5,hk,he⟩
  refine W.vs ?_
  by_cases hz:k=0
  · subst hz
    have z1:¬(0:Int) <= ((0:Nat):Int)-1 := by omega
    have e0:p=q := Ti fun j => he j (UF _)
    have:x=y := by rw[<- vx,<- vy,e0]
    have:gH x y=0 := by unfold gH;rw[SI (by omega),SK (by omega)]
    rw[this]at hK
    simp only[go_sem,h5,z1,bd]
    exact ar.mk (Nat.le_refl _) hK
  · obtain⟨j,rfl⟩:∃j,k=j + 1 := ⟨k-1,by omega⟩
    obtain⟨a,ha⟩:∃a,p[j]? = some a := ⟨_,SJ (by omega)⟩
    obtain⟨b,hb⟩:∃b,q[j]? = some b := ⟨_,SJ (by omega)⟩
    have hpn:¬p = [] := by rintro rfl;simp at ha
    have hqn:¬q = [] := by rintro rfl;simp at hb
    have ej:((j + 1:Nat):Int)-1=(j:Int) := by omega
    rw[ej]at h5
    have z1:(0:Int) <= (j:Int) := by omega
    have b1:(j:Int) < p.length := by omega
    have b2:(j:Int) < q.length := by omega
    have w2 := SF ((j:Int)-1) (by omega)
    simp only[go_sem,h5,z1,bd]
    refine W.dr 8 [0,0,3,7,0,0,48,112] mixed ?_
    by_cases hab:a=b
    · subst hab
      simp only[go_sem,h5,z1,b1,b2,ha,hb,hpn,hqn,w2,bd]
      exact⟨⟨j,rfl,by omega,fun i hi => by
        rcases S9 j i with h |h
        · exact he i (by omega)
        · obtain rfl:i=j := by omega
          rw[ha,hb]⟩,by omega⟩
    · simp only[go_sem,h5,z1,b1,b2,ha,hb,hpn,hqn,hab,bd]
      refine W.dr 8 [0,0,3,7,0,0,48,112] mixed ?_
      by_cases hlt:a < b
      · have h1 := C3 dx dy hln ha hb (fun i hi => he i (by omega)) hlt
        rw[vx,vy]at h1
        have:gH x y = -1 := by unfold gH;rw[SK (by omega)]
        rw[this]at hK
        simp only[go_sem,h5,z1,b1,b2,ha,hb,hpn,hqn,hlt,bd]
        exact ar.mk (Nat.le_refl _) hK
      · have h1 := C3 dy dx hln.symm hb ha (fun i hi => (he i (by omega)).symm) (by omega)
        rw[vx,vy]at h1
        have:gH x y=1 := by unfold gH;rw[SI (by omega),SI (by omega)]
        rw[this]at hK
        simp only[go_sem,h5,z1,b1,b2,ha,hb,hpn,hqn,hlt,bd]
        exact ar.mk (Nat.le_refl _) hK
end Go.Proofs.R01
namespace Go.Proofs.R01
open Go.Hx Tryz
theorem qA {l:List Int}{i X:Nat}(h:l.drop i=aD X):(i<l.length↔X≠0)/\(X≠0->l[i]?=some ((X % 10000:Nat):Int))/\l.drop (i+1)=aD (X / 10000):=by
 have hl:l.length-i=(aD X).length:=by rw[<- h,Tu]
 by_cases h0:X=0
 ·subst h0;rw[jh]at h hl;simp only[List.length_nil]at hl;refine⟨⟨fun h=>by omega,fun h=>absurd rfl h⟩,fun h=>absurd rfl h,?_⟩;rw[jh,Wb.2 (by omega)]
 ·rw[pg h0]at h hl;simp only[List.length_cons]at hl;refine⟨⟨fun _=>h0,fun _=>by omega⟩,fun _=>?_,?_⟩
  ·have:=congrArg (fun m=>m[0]?) h;simpa[TN] using this
  ·have:=congrArg List.tail h;simpa[List.tail_drop] using this
theorem PM {n:Nat}{k:Nat}(h:(aD n).length<=k):n<10000 ^ k:=by
 have:=nX (lU n);rw[kd]at this;exact S1 this (Te (by decide) h)
theorem PN (x y:Nat)(hxy:y<=x)(hx:(aD x).length<=200)(H:AHeap)(K:ARes->AHeap->Prop)(hK:K (.ret (af (aD (x-y)))) H):ag prog G0 136 [af (aD x),af (aD y)] H K:=by
 refine ag.clo ⟨_,func136,rfl,rfl⟩ fun hcl=>?_;have vx:=kd x;obtain⟨p,hp⟩:∃p,p=aD x:=⟨_,rfl⟩
 obtain⟨q,hq⟩:∃q,q=aD y:=⟨_,rfl⟩
 rw[<- hp]at hx vx ⊢;rw[<- hq];refine ag.st (n:=41) (rs:=[.tmp 4]) func136 ?_;simp only[go_sem];refine W.aG 549755813856 (by rfl) (fun ρ H'=>∃(i c X Y:Nat) (done:List Int),ρ 7=aa i/\ρ 6=aa c/\c<=1/\i<=p.length/\Over H H'/\ay H.next H' 3 (ρ 5) (ints done)/\done.length=i/\Dg done/\p.drop i=aD X/\q.drop i=aD Y/\val done+10000 ^ i*X=(x-y)+10000 ^ i*(Y+c)) (fun ρ H=>p.length-(iv (ρ 7)).toNat) ?_ ?_
 ·simp only[go_sem];exact⟨0,0,x,y,[],rfl,rfl,by omega,by omega,.refl _,.nil,rfl,(fun c hc=>by cases hc),by simpa using hp,by simpa using hq,by simp[val];omega⟩
 rintro ρ H' ⟨i,c,X,Y,done,h7,h6,hc,hi,ov,h5,hl,hdg,hX,hY,he⟩;refine W.vs ?_;obtain⟨a1,a2,a3⟩:=qA hX;obtain⟨b1,b2,b3⟩:=qA hY;by_cases hb:(i:Int)<p.length;rotate_left
 ·simp only[go_sem,h7,hb];have hX0:X=0:=by
   rcases TG X with h|h
   ·exact h
   ·have:=a1.2 (by omega);omega
  have hv:=nX hdg;rw[hl]at hv;have hYc:Y+c=0:=by
   rcases TG (Y+c) with h|h
   ·exact h
   ·have:10000 ^ i*1<=10000 ^ i*(Y+c):=Ub _ h;rw[hX0]at he;omega
  have hvd:val done=x-y:=by rw[hX0,hYc]at he;omega
  refine aw.mv H.next (args':=[af done]) aE rfl (fun j hj _=>match j,hj with|0,_=>h5.dG fun i hi=>hi) (sJ done hdg (by omega) _ _ ⟨trivial,?_⟩);rw[hvd];have ov3:Over H (H'.cut H.next):=ov.mQ (Nat.le_refl _);simp only[go_sem];exact ar.aV aE hcl ov3 (.cI _) hK
 have hx0:X≠0:=a1.1 (by omega);have g1:=a2 hx0;have pn:¬p=[]:=by rintro rfl;simp at hb;omega
 have w3:=SF ((i:Int)+1) (by omega);obtain⟨d,c',hd,hd2,hc'⟩:∃d c':Nat,(d:Int)=((X % 10000:Nat):Int)-c-((Y % 10000:Nat):Int)+10000*(c':Int)/\d<=9999/\c'<=1:=by
  by_cases h:((X % 10000:Nat):Int)-c-((Y % 10000:Nat):Int)<0
  ·exact⟨(((X % 10000:Nat):Int)-c-((Y % 10000:Nat):Int)+10000).toNat,1,by omega,by omega,by omega⟩
  ·exact⟨(((X % 10000:Nat):Int)-c-((Y % 10000:Nat):Int)).toNat,0,by omega,by omega,by omega⟩
 obtain⟨v',H2,hA,hO,hn2,hpr⟩:=fW (P:=prog) (H:=H') (t:=42) (x:=aa (d:Nat)) (n:=H'.next+1) Tryz.underlying42 Tryz.dz Tryz.dH rfl (by rw[Tryz.dL,aH];omega) h5 ov.next rfl;simp only[aa]at hA;have ov2:Over H H2:=lV ov h5 hn2 hpr;have fin:∃(i' c'' X' Y':Nat) (done':List Int),AVal.lit (.int .i64 ((i:Int)+1))=aa i'/\AVal.lit (.int .i64 (c':Int))=aa c''/\c''<=1/\i'<=p.length/\Over H H2/\ay H.next H2 3 v' (ints done')/\done'.length=i'/\Dg done'/\p.drop i'=aD X'/\q.drop i'=aD Y'/\val done'+10000 ^ i'*X'=(x-y)+10000 ^ i'*(Y'+c''):=by
  refine⟨i+1,c',X / 10000,Y / 10000,done++[(d:Int)],by simp[aa],rfl,hc',by omega,ov2,by simpa[ints,aa] using hO,by simp[hl],fun z hz=>?_,a3,b3,?_⟩
  ·rcases S5.1 hz with hz|hz
   ·exact hdg z hz
   ·obtain rfl:=List.mem_singleton.1 hz;omega
  ·rw[qx,hl,TX];have e:d+10000*(X / 10000)+(Y+c)=X+10000*(Y / 10000+c'):=(by omega);have e2:=congrArg (10000 ^ i*·) e;simp only[U1,val,Int.toNat_natCast,Nat.mul_zero,Nat.add_zero,Uu]at e2 he ⊢;generalize 10000 ^ i*d=P1 at *
   generalize 10000 ^ i*(10000*(X / 10000))=P2 at *
   generalize 10000 ^ i*Y=P3 at *
   generalize 10000 ^ i*c=P4 at *
   generalize 10000 ^ i*X=P5 at *
   generalize 10000 ^ i*(10000*(Y / 10000))=P6 at *
   generalize 10000 ^ i*(10000*c')=P7 at *
   omega
 have w4:=SF (((X % 10000:Nat):Int)-(c:Int)) (by omega);have w5:=SF (((X % 10000:Nat):Int)-(c:Int)-((Y % 10000:Nat):Int)) (by omega);by_cases hy0:Y=0
 ·have n2:¬(i:Int)<q.length:=by have:=fun h=>b1.1 h;omega
  by_cases hneg:((X % 10000:Nat):Int)-(c:Int)<0
  ·obtain rfl:c'=1:=(by omega);have ed:((X % 10000:Nat):Int)-(c:Int)+10000=(d:Int):=(by omega);have w6:=SF (d:Int) (by omega);simp only[go_sem,h7,h6,hb,n2,g1,pn,w4,hneg,ed,w6,w3,hA];exact⟨ov2.next,fin,by omega⟩
  ·obtain rfl:c'=0:=(by omega);have ed:((X % 10000:Nat):Int)-(c:Int)=(d:Int):=(by omega);rw[ed]at hneg w4;simp only[go_sem,h7,h6,hb,n2,g1,pn,ed,w4,hneg,w3,hA];exact⟨ov2.next,fin,by omega⟩
 ·have n2:(i:Int)<q.length:=by have:=b1.2 hy0;omega
  have g2:=b2 hy0;have qn:¬q=[]:=by rintro rfl;simp at n2;omega
  by_cases hneg:((X % 10000:Nat):Int)-(c:Int)-((Y % 10000:Nat):Int)<0
  ·obtain rfl:c'=1:=(by omega);have ed:((X % 10000:Nat):Int)-(c:Int)-((Y % 10000:Nat):Int)+10000=(d:Int):=(by omega);have w6:=SF (d:Int) (by omega);simp only[go_sem,h7,h6,hb,n2,g1,g2,pn,qn,w4,w5,hneg,ed,w6,w3,hA];exact⟨ov2.next,fin,by omega⟩
  ·obtain rfl:c'=0:=(by omega);have ed:((X % 10000:Nat):Int)-(c:Int)-((Y % 10000:Nat):Int)=(d:Int):=(by omega);rw[ed]at hneg w5;simp only[go_sem,h7,h6,hb,n2,g1,g2,pn,qn,w4,ed,w5,hneg,w3,hA];exact⟨ov2.next,fin,by omega⟩
end Go.Proofs.R01
namespace Go.Proofs.R01
open Go.Hx Tryz
theorem fD {l:List Int}{k:Nat}(v:Int)(h:k<l.length):setAt (ints l) k [.lit (.int .i64 v)]=ints (l.set k v):=by
 unfold setAt ints;rw[Um,Vw,SK (by simpa using h)];simp[aa]
theorem yx:∀ {l:List Int} {j:Nat} {a:Int} (v:Int),l[j]?=some a->val (l.set j v)+10000 ^ j*a.toNat=val l+10000 ^ j*v.toNat
 |b :: l,0,a,v,h=>by
  simp only[List.getElem?_cons_zero,Option.some.injEq]at h;subst h;simp only[List.set_cons_zero,val,VB,Nat.one_mul];omega
 |b :: l,j+1,a,v,h=>by
  simp only[List.getElem?_cons_succ]at h;have ih:=yx (l:=l) v h;simp only[List.set_cons_succ,val,TX];have e1:10000 ^ j*10000*a.toNat=10000*(10000 ^ j*a.toNat):=by ac_rfl
  have e2:10000 ^ j*10000*v.toNat=10000*(10000 ^ j*v.toNat):=by ac_rfl
  rw[e1,e2];omega
theorem C5 {l:List Int}{i:Nat}{a:Int}(h:l[i]?=some a):val (l.take (i+1))=val (l.take i)+10000 ^ i*a.toNat:=by
 have hi:=(Tj.1 h).1;rw[C2 h,qx,SN,TY (by omega)];simp[val]
theorem C6 (p q:List Int)(hp:Dg p)(hq:∀c,c∈q->0<=c/\c<=10000)(hqv:val q<=10000 ^ q.length)(lp:p.length<=200)(lq:q.length<=200)(H:AHeap)(K:ARes->AHeap->Prop)(hK:K (.ret (af (aD (val p*val q)))) H):ag prog G0 68 [af p,af q] H K:=by
 refine ag.clo ⟨_,func68,rfl,rfl⟩ fun hcl=>?_;have w0:=SF ((p.length:Int)+(q.length:Int)) (by omega);refine ag.st (n:=65) (rs:=[.tmp 4]) func68 ?_;simp only[go_sem,w0];obtain⟨L,hL⟩:∃L,L=p.length+q.length:=⟨_,rfl⟩
 have eL:((p.length:Int)+(q.length:Int)).toNat=L:=by omega
 have eL2:(p.length:Int)+(q.length:Int)=(L:Int):=by omega
 rw[eL,eL2];have eR:List.replicate L (AVal.lit (.int .i64 0))=ints (List.replicate L 0):=by simp[ints,aa]
 rw[eR];refine⟨⟨by omega,by omega,by omega⟩,?_⟩;have dr:Dg (List.replicate L 0):=fun c hc=>by obtain⟨_,rfl⟩:=List.mem_replicate.1 hc;omega
 refine W.aG 9223372036854743488 (by rfl) (fun ρ H'=>∃(i:Nat) (o:List Int),ρ 6=aa i/\i<=p.length/\H'=ext H [.arr 0 3 (ints o)]/\Dg o/\o.length=L/\val o=val (p.take i)*val q) (fun ρ H=>p.length-(iv (ρ 6)).toNat) ?_ ?_
 ·simp only[go_sem];exact⟨0,_,rfl,by omega,rfl,dr,by simp,by simp[PL,val]⟩
 rintro ρ H' ⟨i,o,h6,hi,rfl,ho,hol,hv⟩;refine W.vs ?_;by_cases hb:(i:Int)<p.length;rotate_left
 ·simp only[go_sem,h6,hb];have hO:ay H.next (ext H [.arr 0 3 (ints o)]) 3 (.own H.next 0 0 L 1) (ints o):=.inr ⟨H.next,0,Nat.le_refl _,by simp[aS],by rw[aH,hol],cq _ _ _⟩;refine aw.mv H.next (args':=[af o]) aE rfl (fun j hj _=>match j,hj with|0,_=>hO.dG fun i hi=>hi) (sJ o ho (by omega) _ _ ⟨trivial,?_⟩);rw[hv,SH (by omega)];have ov3:Over H ((ext H [.arr 0 3 (ints o)]).cut H.next):=(Over.ext _ _).mQ (Nat.le_refl _);simp only[go_sem];exact ar.aV aE hcl ov3 (.cI _) hK
 obtain⟨a,ha⟩:∃a,p[i]?=some a:=⟨_,SJ (by omega)⟩
 have ha9:=hp a (SE ha);obtain⟨A,rfl⟩:=SR ha9.1;have pn:¬p=[]:=by rintro rfl;simp at ha
 have vt:=C5 ha;rw[Int.toNat_natCast]at vt;have w1:=SF ((i:Int)+1) (by omega);simp only[go_sem,h6,hb];refine W.aG 9223372036852679040 (by rfl) (fun ρ' H'=>∃(k c:Nat) (o2:List Int),ρ' 8=aa k/\ρ' 7=aa c/\c<=10000/\k<=L/\H'=ext H [.arr 0 3 (ints o2)]/\Dg o2/\o2.length=L/\val o2+10000 ^ (i+k)*c=val (p.take i)*val q+10000 ^ i*(A*val (q.take k))) (fun ρ' H=>L-(iv (ρ' 8)).toNat) ?_ ?_
 ·simp only[go_sem];exact⟨0,0,o,rfl,rfl,by omega,by omega,rfl,ho,hol,by simp[val,hv]⟩
 rintro ρ' H' ⟨k,c,o2,h8,h7,hc,hk,rfl,ho2,hol2,hv2⟩;refine W.vs ?_;by_cases hend:¬k<q.length/\c=0
 ·obtain⟨hk2,rfl⟩:=hend;have n1:¬(k:Int)<q.length:=by omega
  have n2:¬(0:Int)<((0:Nat):Int):=by omega
  simp only[go_sem,h8,h7,n1,h6,w1];refine⟨⟨i+1,o2,by simp,by omega,rfl,ho2,hol2,?_⟩,by omega⟩;rw[SH (l:=q) (i:=k) (by omega)]at hv2;rw[vt,T2];simp only[Nat.mul_zero,Nat.add_zero]at hv2;rw[hv2,Uu]
 have hik:i+k<L:=by
  by_cases hkq:k<q.length
  ·omega
  ·have hc1:1<=c:=(by omega);rw[SH (l:=q) (i:=k) (by omega)]at hv2;have e:val (p.take i)*val q+10000 ^ i*(A*val q)=val (p.take (i+1))*val q:=(by rw[vt,T2,Uu]);rw[e]at hv2;have b1:val (p.take (i+1))<10000 ^ (i+1):=by
    have:=nX (l:=p.take (i+1)) fun c hc=>hp c (S8 hc)
    rwa [SN,TY (by omega)]at this
   have b2:val (p.take (i+1))*val q<10000 ^ (i+1)*10000 ^ q.length:=by
    have p0:0<10000 ^ q.length:=Wf (by decide)
    calc val (p.take (i+1))*val q<=val (p.take (i+1))*10000 ^ q.length:=Ub _ hqv
     _<10000 ^ (i+1)*10000 ^ q.length:=Nat.mul_lt_mul_of_pos_right b1 p0
   rw[<- Wg]at b2;have b3:10000 ^ (i+k)*1<=10000 ^ (i+k)*c:=Ub _ hc1;have b4:10000 ^ (i+k)<10000 ^ (i+1+q.length):=(by omega);have:=(Nat.pow_lt_pow_iff_right (by decide:1<10000)).1 b4;omega
 obtain⟨b,hbk⟩:∃b,o2[i+k]?=some b:=⟨_,SJ (by omega)⟩
 have hb9:=ho2 b (SE hbk);obtain⟨B,rfl⟩:=SR hb9.1;have o2n:¬o2=[]:=by rintro rfl;simp at hbk
 have w2:=SF ((i:Int)+(k:Int)) (by omega);have w3:=SF ((k:Int)+1) (by omega);have eik:(i:Int)+(k:Int)=((i+k:Nat):Int):=by omega
 rw[eik]at w2;have bik:((i+k:Nat):Int)<(L:Int):=by omega
 have w4:=SF ((c:Int)+(B:Int)) (by omega);by_cases hkq:k<q.length
 ·obtain⟨d,hdk⟩:∃d,q[k]?=some d:=⟨_,SJ (by omega)⟩
  have hd9:=hq d (SE hdk);obtain⟨D,rfl⟩:=SR hd9.1;have qn:¬q=[]:=by rintro rfl;simp at hdk
  have n1:(k:Int)<q.length:=by omega
  have mAD:A*D<=9999*10000:=Nat.mul_le_mul (by omega) (by omega);have cAD:(A:Int)*(D:Int)=((A*D:Nat):Int):=(Int.natCast_mul _ _).symm;obtain⟨t,ht⟩:∃t,t=c+B+A*D:=⟨_,rfl⟩
  have et:(c:Int)+(B:Int)+((A*D:Nat):Int)=(t:Int):=by omega
  have w5:=SF ((A*D:Nat):Int) (by omega);have w6:=SF (t:Int) (by omega);have tm:((t:Int)).tmod 10000=((t % 10000:Nat):Int):=by rw[Ta (by omega)];rfl
  have td:((t:Int)).tdiv 10000=((t / 10000:Nat):Int):=by rw[Tw (by omega)];rfl
  have w7:=SF ((t % 10000:Nat):Int) (by omega);have w8:=SF ((t / 10000:Nat):Int) (by omega);have hs:=yx ((t % 10000:Nat):Int) hbk;rw[Int.toNat_natCast,Int.toNat_natCast]at hs;have vq:=C5 hdk;rw[Int.toNat_natCast]at vq;have fin:∃(k' c':Nat) (o3:List Int),AVal.lit (.int .i64 ((k:Int)+1))=aa k'/\AVal.lit (.int .i64 ((t / 10000:Nat):Int))=aa c'/\c'<=10000/\k'<=L/\ext H [.arr 0 3 (ints (o2.set (i+k) ((t % 10000:Nat):Int)))]=ext H [.arr 0 3 (ints o3)]/\Dg o3/\o3.length=L/\val o3+10000 ^ (i+k')*c'=val (p.take i)*val q+10000 ^ i*(A*val (q.take k')):=by
   refine⟨k+1,t / 10000,_,by simp[aa],rfl,by omega,by omega,rfl,fun z hz=>?_,by simp[hol2],?_⟩
   ·rcases Tg hz with h|h
    ·exact ho2 z h
    ·omega
   ·rw[vq,<- Uk,TX];have e1:t=t % 10000+10000*(t / 10000):=(by omega);have e2:=congrArg (10000 ^ (i+k)*·) (show c+B+A*D=t % 10000+10000*(t / 10000) by omega);have e3:10000 ^ i*(A*(val (q.take k)+10000 ^ k*D))=10000 ^ i*(A*val (q.take k))+10000 ^ (i+k)*(A*D):=by
     rw[U1,U1,Wg];congr 1
     ac_rfl
    rw[e3];simp only[U1,Uu]at e2 hv2 hs ⊢;omega
  simp only[go_sem,h8,h7,n1,h6,w2,w4,eik,bik,hbk];refine W.dr 10 [0,0,0,6,14,0,0,96,224,510] mixed ?_;simp only[go_sem,h8,h7,n1,h6,w2,eik,bik,ha,hdk,pn,qn,hb,cAD,w5,et,w6];rw[w3,td,w8,tm,fD _ (by omega)];exact⟨by omega,fin,by omega⟩
 ·have n1:¬(k:Int)<q.length:=by omega
  have n2:(0:Int)<(c:Int):=by omega
  obtain⟨t,ht⟩:∃t,t=c+B:=⟨_,rfl⟩
  have et:(c:Int)+(B:Int)=(t:Int):=by omega
  have w6:=SF (t:Int) (by omega);have tm:((t:Int)).tmod 10000=((t % 10000:Nat):Int):=by rw[Ta (by omega)];rfl
  have td:((t:Int)).tdiv 10000=((t / 10000:Nat):Int):=by rw[Tw (by omega)];rfl
  have w7:=SF ((t % 10000:Nat):Int) (by omega);have w8:=SF ((t / 10000:Nat):Int) (by omega);have hs:=yx ((t % 10000:Nat):Int) hbk;rw[Int.toNat_natCast,Int.toNat_natCast]at hs;have fin:∃(k' c':Nat) (o3:List Int),AVal.lit (.int .i64 ((k:Int)+1))=aa k'/\AVal.lit (.int .i64 ((t / 10000:Nat):Int))=aa c'/\c'<=10000/\k'<=L/\ext H [.arr 0 3 (ints (o2.set (i+k) ((t % 10000:Nat):Int)))]=ext H [.arr 0 3 (ints o3)]/\Dg o3/\o3.length=L/\val o3+10000 ^ (i+k')*c'=val (p.take i)*val q+10000 ^ i*(A*val (q.take k')):=by
   refine⟨k+1,t / 10000,_,by simp[aa],rfl,by omega,by omega,rfl,fun z hz=>?_,by simp[hol2],?_⟩
   ·rcases Tg hz with h|h
    ·exact ho2 z h
    ·omega
   ·rw[SH (l:=q) (i:=k) (by omega)]at hv2;rw[SH (l:=q) (i:=k+1) (by omega),<- Uk,TX];have e2:=congrArg (10000 ^ (i+k)*·) (show c+B=t % 10000+10000*(t / 10000) by omega);simp only[U1,Uu]at e2 hv2 hs ⊢;omega
  simp only[go_sem,h8,h7,n1,n2,h6,w2,eik,bik,hbk,et,w6,hol2];rw[w3,td,w8,tm,fD _ (by omega)];exact⟨by omega,fin,by omega⟩
end Go.Proofs.R01
namespace Go.Proofs.R01
open Go.Hx Tryz
theorem PO (x y:Nat)(hx:(aD x).length<=200)(hy:(aD y).length<=200)(H:AHeap)(K:ARes->AHeap->Prop)(hK:K (.ret (af (aD (x*y)))) H):ag prog G0 68 [af (aD x),af (aD y)] H K :=
 C6 (aD x) (aD y) (lU x) (fun c hc=>by have:=lU y c hc;omega) (Vk (nX (lU y))) hx hy H K (by rw[kd,kd];exact hK)
theorem PP (x d:Nat)(hd:d<=10000)(hx:(aD x).length<=200)(H:AHeap)(K:ARes->AHeap->Prop)(hK:K (.ret (af (aD (x*d)))) H):ag prog G0 68 [af (aD x),af [(d:Int)]] H K:=by
 have e:val [(d:Int)]=d:=by simp[val]
 refine C6 (aD x) [(d:Int)] (lU x) (fun c hc=>?_) (by rw[e];simpa using hd) hx (by simp) H K (by rw[kd,e];exact hK);obtain rfl:=List.mem_singleton.1 hc;omega
theorem sK (n:Nat):∀k:Nat,(aD n).drop k=aD (n / 10000 ^ k)
 |0=>by simp
 |k+1=>by
  have h:=(qA (sK n k)).2.2;rw[h,TX,US]
theorem vk {n k:Nat}(h:k<(aD n).length):(aD n)[k]?=some ((n / 10000 ^ k % 10000:Nat):Int):=(qA (sK n k)).2.1 ((qA (sK n k)).1.1 h)
theorem C7 {n k:Nat}(h:¬k<(aD n).length):n / 10000 ^ k=0:=by
 rcases TG (n / 10000 ^ k) with h0|h0
 ·exact h0
 ·exact absurd ((qA (sK n k)).1.2 (by omega)) h
theorem PQ {N y P:Nat}(hP:0<P)(ht:0<y / P):N / y<=N / P / (y / P):=by
 rw[UI ht,UI hP]
 calc N / y*(y / P)*P=N / y*(y / P*P):=Uu ..
  _<=N / y*y:=Ub _ (U2 _ _)
  _<=N:=U2 _ _
theorem PR {N y P:Nat}(hP:0<P)(hy:0<y):N / P / (y / P+1)<=N / y:=by
 rw[UI hy];have h1:y<=(y / P+1)*P:=by
  have:=Wh y hP;rw[UC]at this;omega
 calc N / P / (y / P+1)*y<=N / P / (y / P+1)*((y / P+1)*P):=Ub _ h1
  _=N / P / (y / P+1)*(y / P+1)*P:=(Uu ..).symm
  _<=N / P*P:=TU _ (U2 _ _)
  _<=N:=U2 _ _
theorem PS {N y n:Nat}(hN:N<10000*y)(hy:10000 ^ n<=y):N / 10000 ^ (n-1) / (y / 10000 ^ (n-1))<=10000:=by
 have hP:0<10000 ^ (n-1):=Wf (by decide);rcases TG n with h0|h0
 ·subst h0;have hy0:0<y:=by simp at hy;omega
  simp only[Nat.zero_sub,VB,Wi];exact Vk (Uj (by rw[UC];exact hN))
 ·have ht:10000<=y / 10000 ^ (n-1):=by
   rw[UI hP];have:10000*10000 ^ (n-1)=10000 ^ n:=(by rw[UC,<- TX];congr 1;omega);omega
  generalize 10000 ^ (n-1)=P at *
  refine Nat.le_of_lt_succ (Uj ?_);refine Uj ?_;have h1:=Wh y hP;generalize y / P=T at *
  have h2:P*(T+1)*10000<=P*(T*10001):=by
   rw[Uu];exact Ub _ (by omega)
  have h3:y<P*(T+1):=h1;generalize P*(T+1)=Z at *
  generalize hW:P*(T*10001)=W at *
  have h4:N<W:=by omega
  first|exact h4|(rw[<- hW]at h4;simpa[UC,Nat.mul_left_comm,Uu] using h4)
theorem PT {X a y Q R:Nat}(hX:X=y*Q+R)(hR:R<y):(a+10000*X) / y=10000*Q+(a+10000*R) / y/\(a+10000*X) % y=(a+10000*R) % y:=by
 have e:a+10000*X=(a+10000*R)+y*(10000*Q):=by
  rw[hX,U1];have:10000*(y*Q)=y*(10000*Q):=by ac_rfl
  omega
 rw[e,Nat.add_mul_div_left _ _ (by omega),Nat.add_mul_mod_self_left];exact⟨Nat.add_comm _ _,rfl⟩
end Go.Proofs.R01
