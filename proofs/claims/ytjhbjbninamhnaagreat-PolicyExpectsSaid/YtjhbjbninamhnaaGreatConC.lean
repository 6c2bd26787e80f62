/- Own work: contracts. -/
import Derived.Test.YtjhbjbninamhnaaGreatConB
import Derived.Test.YtjhbjbninamhnaaGreatConA
set_option linter.all false
set_option maxRecDepth 100000
namespace Go.Proofs
open Go.Hx
theorem QM:∀ {cs vs:List Int} {k:Nat} {c v:Int},vs.length=cs.length->cs[k]?=some c->vs[k]?=some v->v+1<c->(∀ (j:Nat) (a b:Int),k<j->cs[j]?=some a->vs[j]?=some b->b=a - 1) ->
  jM cs vs=some (vs.take k++(v+1) :: (cs.drop (k+1)).map fun _=>0):=by
 have none_of:∀ {cs vs:List Int},vs.length=cs.length->(∀ (j:Nat) (a b:Int),cs[j]?=some a->vs[j]?=some b->b=a - 1)->jM cs vs=none:=by
  intro cs
  induction cs with
  | nil=>intro vs _ _;cases vs<;>rfl
  | cons c cs ih =>
   intro vs hl h;cases vs with
   | nil=>rfl
   | cons v vs =>
    have h1:=ih (vs:=vs) (by simpa using hl) fun j a b ha hb=>h (j+1) a b (by simpa using ha) (by simpa using hb);have h2:=h 0 c v rfl rfl;simp only[jM,h1];rw[SO (by omega)]
 intro cs
 induction cs with
 | nil=>intro vs k c v _ h;simp at h
 | cons x cs ih =>
  intro vs k c v hl hc hv hlt hmax;cases vs with
  | nil=>simp at hv
  | cons y vs =>
   cases k with
   | zero =>
    simp only[List.getElem?_cons_zero,Option.some.injEq]at hc hv;subst hc;subst hv;have h1:=none_of (cs:=cs) (vs:=vs) (by simpa using hl) fun j a b ha hb=>hmax (j+1) a b (by omega) (by simpa using ha) (by simpa using hb);simp only[jM,h1];rw[SQ hlt];simp
   | succ k =>
    have h1:=ih (vs:=vs) (k:=k) (by simpa using hl) (by simpa using hc) (by simpa using hv) hlt fun j a b hj ha hb=>hmax (j+1) a b (by omega) (by simpa using ha) (by simpa using hb);simp only[jM,h1];simp
theorem QN:∀ {cs vs:List Int},vs.length=cs.length->(∀ (j:Nat) (a b:Int),cs[j]?=some a->vs[j]?=some b->b=a - 1)->jM cs vs=none:=by
 intro cs
 induction cs with
 | nil=>intro vs _ _;cases vs<;>rfl
 | cons c cs ih =>
  intro vs hl h;cases vs with
  | nil=>rfl
  | cons v vs =>
   have h1:=ih (vs:=vs) (by simpa using hl) fun j a b ha hb=>h (j+1) a b (by simpa using ha) (by simpa using hb);have h2:=h 0 c v rfl rfl;simp only[jM,h1];rw[SO (by omega)]
def lM (cards:List Int)(N:Nat):List (List AVal):=(List.range (au cards).toNat).map fun (i:Nat)=>[aa (i:Int),.own N 0 0 cards.length 1]
theorem vp {cards:List Int}{N k:Nat}{x:List AVal}(h:(lM cards N)[k]?=some x):k<(au cards).toNat/\x=[aa k,.own N 0 0 cards.length 1]:=by
 unfold lM at h;rw[List.getElem?_map]at h;have hk:k<(au cards).toNat:=by
  rcases Te k (au cards).toNat with h1|h1
  ·exact h1
  ·rw[SV (by simpa using h1)]at h;simp at h
 rw[Tn hk]at h;simp at h;exact⟨hk,h.symm⟩
theorem QO {cards:List Int}{N k:Nat}(h:k<(au cards).toNat):(lM cards N)[k]?=some [aa k,.own N 0 0 cards.length 1]:=by
 unfold lM;rw[List.getElem?_map,Tn h];rfl
theorem ze (cards:List Int)(N:Nat):(lM cards N).length=(au cards).toNat:=by simp [lM]
def pQ (cards:List Int)(N k:Nat)(H:AHeap):Prop:=H.get N=some (.arr 0 3 (ints (bC cards k)))
set_option maxHeartbeats 1000000 in
theorem DU (cards:List Int)(hc1:∀ c∈cards,1<=c)(hs:cU cards)(b N:Nat)(hbN:b<N):
  Ez Tryz.prog G0 143 [] [.ptr b 0 0] (lM cards N) N (fun H=>H.get b=some (.arr 0 46 [af cards])) (pQ cards N):=by
 intro idy J Stop H K hN hS0 hJw hJ0 hY hK hSt;have l0:=ag (hS0 0 H hJ0);have h12:=hs.1;have hpp:=hs.prod;have hp1:=fw hc1;show ae _ _ _ ([.yld idy]++[.ptr b 0 0]) _ _;refine ae.aZ (n:=45) (rs:=[]) Tryz.func143 rfl rfl rfl (by decide) (by kernel_rfl) (by simp) ?_;simp only[go_sem,l0];refine⟨by omega,?_⟩;have fitI:∀ i:Nat,bL cards (bC cards i):=fun i=>rO hc1 _;have idxI:∀ i:Nat,i<(au cards).toNat->bp cards (bC cards i)=i:=fun i hi=>yB hc1 (by omega) (by omega);subst hN;refine W.aL 35184372088368 (by rfl) (fun ρ H'=>∃ i:Nat,ρ 4=aa i/\i<(au cards).toNat/\J i H'/\pQ cards H.next i H'/\H.next+1<=H'.next) (fun ρ H=>(au cards).toNat - (iv (ρ 4)).toNat) ?_ ?_
 ·simp only[go_sem];refine⟨0,rfl,by omega,hJw 0 H _ hJ0 ⟨by rw[bI];omega,fun id _ h=>dH _ _ _ h⟩,?_⟩;show (ext H _).get H.next=_;rw[bQ];have:bC cards ((0:Nat):Int)=List.replicate cards.length 0:=by
   rw[show ((0:Nat):Int)=0 from rfl,CS hc1];exact UK ..
  rw[this];simp [ints,aa]
 rintro ρ H' ⟨i,h4,hi,hj,hcs,hn⟩;refine W.en (fun E=>E 1=.ptr b 0 0 /\ E 0=.yld idy /\ E 3=.own H.next 0 0 cards.length 1 /\ E 4=aa i) (by simp only[go_sem,h4]) fun E ⟨e1,e0,e3,e4⟩=>?_
 refine W.vs ?_;simp only[go_sem,e0,e3,e4];refine hY i [aa i,.own H.next 0 0 cards.length 1] H' _ (QO hi) hj hcs (by omega) (fun H2 hj2 hcs2 hn2=>⟨trivial,?_⟩) (fun H2 hs2 hn2=>⟨trivial,?_⟩);rotate_left
 ·simp only[go_sem];exact ay.mk (by omega) (hSt H2 hs2 (by omega))
 have hb2:=hS0 _ _ hj2;have lb:=ag hb2;have w0:=SM ((cards.length:Int) - 1) (by omega);obtain⟨vs,hvs⟩:∃ vs,vs=bC cards i:=⟨_,rfl⟩
 have hvl:vs.length=cards.length:=by rw[hvs,rN]
 have hfit:bL cards vs:=by rw[hvs];exact fitI i
 have hsucc:=O7 hfit;rw[show bp cards vs=i from by rw[hvs];exact idxI i hi]at hsucc;simp only[go_sem,e1,lb,w0];refine W.aL 137438691360 (by rfl) (fun ρ2 H4=>∃ m:Nat,ρ2 5=aa ((m:Int) - 1)/\m<=cards.length/\vJ H.next H2 H4/\H4.get H.next=some (.arr 0 3 (ints (vs.take m++(cards.drop m).map fun _=>0)))/\(∀ (j:Nat) (a b:Int),m<=j->cards[j]?=some a->vs[j]?=some b->b=a - 1))
  (fun ρ2 H=>(iv (ρ2 5)+1).toNat) ?_ ?_
 ·simp only[go_sem];refine⟨cards.length,rfl,by omega,⟨Nat.le_refl _,fun _ _ _=>rfl⟩,?_,fun j a b hm ha=>?_⟩
  ·have hg:H2.get H.next=_:=hcs2;rw[<- hvs]at hg;rw[hg,SP (by omega),VT (by omega)];simp
  ·have:=get_lt ha;omega
 rintro ρ2 H4 ⟨m,h5,hm,hw,hg,hmax⟩;refine W.en (fun E2=>E2 1=.ptr b 0 0 /\ E2 3=.own H.next 0 0 cards.length 1 /\ E2 4=aa i /\ E2 5=aa ((m:Int) - 1)) (by simp only[go_sem,e1,e3,e4,h5]) fun E2 ⟨f1,f3,f4,f5⟩=>?_
 refine W.vs ?_;have hw1:=hw.1;have lN:=ag hg;have lb4:=ag ((hw.2 b (by omega) (by omega)).trans hb2);have hj4:J (i+1) H4:=hJw _ _ _ hj2 hw;have clen:(vs.take m++(cards.drop m).map fun _=>(0:Int)).length=cards.length:=by simp;omega
 by_cases hm0:m=0
 ·subst hm0;have f5':E2 5=aa (-1):=f5;have hnone:=QN hvl fun j a b ha hb=>hmax j a b (U1 _) ha hb;rw[hnone]at hsucc;have htot:¬ (i:Int)+1<au cards:=fun h=>by rw[SQ h]at hsucc;cases hsucc
  have hti:i+1=(lM cards H.next).length:=by rw[ze];omega
  simp only[go_sem];refine W.draw 12 [0,1,3,7,7,31,63,7,7,391,903,1927] Tryz.mixed (by kernel_rfl) (by kernel_rfl) ?_;simp only[go_sem,f5'];exact ay.mk (by omega) (hK H4 (by rw[<- hti];exact hj4) (by omega))
 obtain⟨k,rfl⟩:∃ k,m=k+1:=⟨m - 1,by omega⟩
 have f5':E2 5=aa k:=by rw[f5];congr 1;omega
 obtain⟨c,hck⟩:=get_of_lt (l:=cards) (i:=k) (by omega);obtain⟨v,hvk⟩:=get_of_lt (l:=vs) (i:=k) (by omega);have hne:=aK hck;have hr:=hfit.2 k c v hck hvk;have hcs8:=hs.2 c (SK hck);have hvk':(vs.take (k+1)++(cards.drop (k+1)).map fun _=>(0:Int))[k]?=some v:=by
  rw[SW (by simp;omega),Ts (by omega)];exact hvk
 have hk0:(k:Int) >= 0:=by omega
 have hkc:(k:Int)<cards.length:=by omega
 have w1:=SM (c - 1) (by omega);have w2:=SM ((k:Int) - 1) (by omega);have w3:=SM (v+1) (by omega);have w4:=SM ((i:Int)+1) (by omega);have hk1:¬ (k:Int)<0:=by omega
 by_cases hv:v=c - 1
 ·simp only[go_sem];refine W.draw 12 [0,1,3,7,7,31,63,7,7,391,903,1927] Tryz.mixed (by kernel_rfl) (by kernel_rfl) ?_;simp only[go_sem,f1,f3,f5',hk0,hkc,lN,lb4,hvk',hck,hne,w1,w2,hv];refine⟨by rw[<- List.length_append,clen];omega,by rw[aw];omega,⟨k,rfl,by omega,⟨by rw[aw];exact hw.1,fun id h1 h2=>by rw[ab,SO h1];exact hw.2 id h1 h2⟩,?_,fun j a b hj ha hb=>?_⟩,?_⟩
  ·rw[ab,SQ rfl,gD (by rw[clen];omega)];congr 3;rw[aO hvk,List.append_assoc,Tv _ _ (by simp;omega),lz hck];simp;rw[show k - min k vs.length=0 by omega];rfl
  ·rcases Te k j with h|h
   ·exact hmax j a b (by omega) ha hb
   ·obtain rfl:j=k:=(by omega);rw[hck]at ha;rw[hvk]at hb;cases ha;cases hb;exact hv
  ·rw[h5];simp only[aa,aQ];omega
 ·simp only[go_sem];refine W.draw 12 [0,1,3,7,7,31,63,7,7,391,903,1927] Tryz.mixed (by kernel_rfl) (by kernel_rfl) ?_;simp only[go_sem,f1,f3,f4,f5',hk0,hk1,hkc,lN,lb4,hvk',hck,hne,w1,w3,w4,hv];have hat:=QM hvl hck hvk (by omega) fun j a b hj ha hb=>hmax j a b (by omega) ha hb;rw[hat]at hsucc;have hlt:(i:Int)+1<au cards:=by
   refine TG fun h=>?_;rw[SO h]at hsucc;cases hsucc
  rw[SQ hlt]at hsucc;have hw5:vJ H.next H2 (H4.upd H.next (.arr 0 3 (setAt (ints (vs.take (k+1)++(cards.drop (k+1)).map fun _=>(0:Int))) k [.lit (.int .i64 (v+1))]))):=⟨by rw[aw];exact hw.1,fun id h1 h2=>by rw[ab,SO h1];exact hw.2 id h1 h2⟩
  refine⟨by rw[<- List.length_append,clen];omega,by rw[aw];omega,⟨i+1,by simp,by omega,hJw _ _ _ hj2 hw5,?_,by rw[aw];omega⟩,?_⟩
  ·show (H4.upd H.next _).get H.next=_;rw[ab,SQ rfl,gD (by rw[clen];omega)];congr 3;have e:bC cards ((i+1:Nat):Int)=vs.take k++(v+1) :: (cards.drop (k+1)).map fun _=>0:=by
    have:=Option.some.inj hsucc;rw[show ((i+1:Nat):Int)=(i:Int)+1 by omega];exact this.symm
   rw[e,aO hvk,List.append_assoc,Tv _ _ (by simp;omega)];simp;rw[show k - min k vs.length=0 by omega];rfl
  ·rw[h4];simp only[aa,aQ];omega
theorem DV (cards:List Int)(H:AHeap)(K:ARes->AHeap->Prop)(hK:K (.ret (.clo 143 [] [.ptr H.next 0 0])) (ext H [.arr 0 46 [af cards]])):
  ae Tryz.prog G0 118 [af cards] H K:=by
 refine ae.aZ (n:=4) (rs:=[.tmp 2]) Tryz.func118 rfl rfl rfl (by decide) (by kernel_rfl) (by simp) ?_;simp only[go_sem];exact ay.mk (by simp [bI]) hK
def mE (ns:List NodeP)(x:NodeP)(vals:List Int):List Int:=x.rows.getD (bp (aH ns x) (aF vals x.parents)).toNat []
def lE (ns:List NodeP)(vals:List Int)(v:Nat):Int:=match ns[v]? with
 | some x=>(mE ns x vals).getD (vals.getD v 0).toNat 0
 | none=>1
def gv (ns:List NodeP)(vals:List Int):List Int:=(List.range ns.length).map (lE ns vals)
def weight (ns:List NodeP)(vals:List Int):Int:=au (gv ns vals)
def cK (ns:List NodeP):Nat:=(au (ao ns)).toNat
def mF (ns:List NodeP)(vals:List Int)(u:UtilP):Int:=u.w.getD (bp (aF (ao ns) u.vars) (aF vals u.vars)).toNat 0
def bU (ns:List NodeP)(us:List UtilP)(vals:List Int):Int:=(us.map (mF ns vals)).sum
theorem yJ (ns:List NodeP)(vals:List Int):(gv ns vals).length=ns.length:=by simp [gv]
theorem C5 {ns:List NodeP}{vals:List Int}{v:Nat}(h:v<ns.length):(gv ns vals)[v]?=some (lE ns vals v):=by
 unfold gv;rw[List.getElem?_map,Tn h];rfl
theorem pR {ns:List NodeP}{x:NodeP}{vals:List Int}(hin:eR x.parents ns.length)(hf:bL (ao ns) vals):bL (aH ns x) (aF vals x.parents):=by
 refine⟨by unfold aH;rw[fM,fM],fun k c v h1 h2=>?_⟩;obtain⟨q,hq⟩:=get_of_lt (l:=x.parents) (i:=k) (by have:=get_lt h2;rw[fM]at this;exact this);obtain⟨j,rfl,y,hy⟩:=lu (l:=ns) (hin q (SK hq)).1 (hin q (SK hq)).2;obtain⟨b,hb⟩:=get_of_lt (l:=vals) (i:=j) (by rw[hf.1,cM];exact get_lt hy);have e1:(aH ns x)[k]?=some y.card:=by rw[show (aH ns x)[k]?=_ from lO hq,Int.toNat_natCast,bq (cL hy)]
 have e2:(aF vals x.parents)[k]?=some b:=by rw[lO hq,Int.toNat_natCast,bq hb]
 rw[h1]at e1;rw[h2]at e2;cases e1;cases e2;exact hf.2 j y.card _ (cL hy) hb
structure RowAtW (g:Int)(ns:List NodeP)(x:NodeP)(vals:List Int)(v:Nat)(i:Nat)(r:List Int)(a w:Int):Prop where
 idx:bp (aH ns x) (aF vals x.parents)=i
 row:x.rows[i]?=some r
 val:vals[v]?=some a
 a0:0<=a
 hw:r[a.toNat]?=some w
 wb:0<=w/\w<=g
 eq:lE ns vals v=w
 rv:mE ns x vals=r
 len:(r.length:Int)=x.card
 al:a<r.length
theorem rX {g:Int}{ns:List NodeP}(h:NetOk g ns){v:Nat}{x:NodeP}(hx:ns[v]?=some x){vals:List Int}(hf:bL (ao ns) vals):∃ i r a w,RowAtW g ns x vals v i r a w:=by
 have hxm:=SK hx;have hin:eR x.parents ns.length:=fun q hq=>by have:=(h.node x hxm).2.2 q hq;omega
 have hr:=kE (pR hin hf);obtain⟨r1,r2⟩:=h.rows x hxm;obtain⟨i,hi⟩:=S2 hr.1;obtain⟨r,hrr⟩:=get_of_lt (l:=x.rows) (i:=i) (by rw[<- r1,hi]at hr;omega);obtain⟨s1,s2,s3⟩:=r2 r (SK hrr);obtain⟨a,ha⟩:=get_of_lt (l:=vals) (i:=v) (by rw[hf.1,cM];exact get_lt hx);have hb:=hf.2 v x.card a (cL hx) ha;obtain⟨w,hw⟩:=get_of_lt (l:=r) (i:=a.toNat) (by omega);have rv:mE ns x vals=r:=by unfold mE;rw[hi,Int.toNat_natCast,bq hrr]
 exact⟨i,r,a,w,hi,hrr,ha,hb.1,hw,s2 w (SK hw),by unfold lE;rw[hx];simp only;rw[rv,bq ha,bq hw],rv,s1,by omega⟩
theorem DW (k:Nat)(h:k<=8):(60:Int) ^ k<=167961600000000:=by
 have h1:(60:Nat) ^ k<=60 ^ 8:=Tm (by decide) h;have h2:(60:Nat) ^ 8=167961600000000:=by decide
 rw[h2]at h1;have h3:=Int.ofNat_le.2 h1;rw[Int.natCast_pow]at h3;exact h3
theorem QP {g:Int}{ns:List NodeP}(h:NetOk g ns){vals:List Int}(hf:bL (ao ns) vals)(k:Nat):0<=au ((gv ns vals).take k)/\au ((gv ns vals).take k)<=167961600000000:=by
 have hb:∀ w∈gv ns vals,0<=w/\w<=60:=fun w hw=>by
  obtain⟨v,hv,rfl⟩:=S9.1 hw;obtain⟨x,hx⟩:=get_of_lt (To.1 hv);obtain⟨i,r,a,w,hR⟩:=rX h hx hf;rw[hR.eq];have:=hR.wb;have:=h.g1;omega
 have h1:=nI (b:=60) (by omega) (l:=(gv ns vals).take k) fun x hx=>hb x (Tg hx);have h2:=DW ((gv ns vals).take k).length (by have:=h.n1;rw[SX,yJ];omega);omega
theorem zf (ns:List NodeP)(v:Nat)(x:NodeP)(vals:List Int)(hx:ns[v]?=some x)(hin:eR x.parents ns.length)(hs:cU (aH ns x))(hf:bL (ao ns) vals)(H:AHeap)(N n:Nat)(hN:N<H.next)
  (hg:H.get N=some (.arr 0 3 (ints vals))) (hn:n=vals.length):bO Tryz.prog G0 (.clo 69 [] []) [.vec ns.length (aG ns),.lit (.int .i64 v),.own N 0 0 n 1] H (.lit (.int .i64 (bp (aH ns x) (aF vals x.parents)))) [N]:=by
 subst hn;refine bO.mk (fun i hi=>by obtain rfl:=List.mem_singleton.1 hi;exact hN) fun H2 h2 _=>?_;refine(ae.frame (H:=H2) (args:=[.vec ns.length (aG ns),.lit (.int .i64 v),.own N 0 0 vals.length 1]) (args':=[cj ns,.lit (.int .i64 v),af vals]) (v':=.lit (.int .i64 (bp (aH ns x) (aF vals x.parents)))) aS rfl (fun i hi _=>?_) (QQ ns v x vals hx hin hs hf bZ _ ⟨_,rfl,.lit _⟩))
 match i,hi with
 | 0,_=>exact zt _
 | 1,_=>exact .lit _
 | 2,_=>exact Fz.se ((h2 N (by simp)).trans hg) (by rw[aP]) fun c hc=>by obtain⟨z,_,rfl⟩:=S9.1 hc;exact⟨_,rfl⟩
theorem rY {ns:List NodeP}{us:List UtilP}(hu:∀ u∈us,UtilOk ns u)(h4:us.length<=4)(vals:List Int)(k:Nat):-400<=bU ns (us.take k) vals/\bU ns (us.take k) vals<=400:=by
 have key:∀ l:List UtilP,(∀ u∈l,UtilOk ns u)->-(100*l.length:Int)<=bU ns l vals/\bU ns l vals<=100*l.length:=by
  intro l
  induction l with
  | nil=>intro _;simp [bU]
  | cons u l ih =>
   intro h;have h1:=ih fun u hu=>h u (by simp [hu]);have h2:-100<=mF ns vals u/\mF ns vals u<=100:=by
    unfold mF;rw[Td];cases hg:u.w[(bp (aF (ao ns) u.vars) (aF vals u.vars)).toNat]? with
    | none=>simp
    | some w=>exact(h u (by simp)).w w (SK hg)
   simp only[bU,List.map_cons,Uq,List.length_cons]at h1 ⊢
   push_cast
   omega
 have:=key (us.take k) fun u hk=>hu u (Tg hk);have h5:(us.take k).length<=4:=by simp;omega
 omega
theorem DO {g card a:Int}(hg:0<=g)(ha:0<=a/\a<card):jk g card (bj g card a):=by
 refine⟨by rw[rV];omega,fun w hw=>?_,?_⟩
 ·unfold bj at hw;rcases Tq hw with h|h
  ·have:=Tz h;omega
  ·omega
 ·unfold bj;have key:∀ (n i:Nat),i<n->((List.replicate n (0:Int)).set i g).sum=g:=by
   intro n
   induction n with
   | zero=>intro i h;omega
   | succ n ih =>
    intro i h;cases i with
    | zero=>simp [TZ]
    | succ i=>rw[TZ,List.set_cons_succ,Uq,ih i (by omega)];omega
  exact key _ _ (by omega)
theorem jV (d:InfP)(c:Nat->Nat->Int):ao (bP d c)=ao d.nodes:=Pk
theorem dE (d:InfP)(c:Nat->Nat->Int):(bP d c).length=d.nodes.length:=jO _ _ _
theorem eF {d:InfP}{c:Nat->Nat->Int}{v:Nat}{x:NodeP}(h:d.nodes[v]?=some x):(bP d c)[v]?=some (dR d c (az d).length v x):=mC h
theorem nQ (d:InfP)(c:Nat->Nat->Int)(x:NodeP):aH (bP d c) x=aH d.nodes x:=by unfold aH;rw[jV]
theorem DP (d:InfP)(c:Nat->Nat->Int):aY (bP d c)=aY d.nodes:=by
 apply Tk;intro v;unfold aY;rw[List.getElem?_map,List.getElem?_map];rcases Te v d.nodes.length with h|h
 ·obtain⟨x,hx⟩:=get_of_lt h;rw[eF hx,hx];simp only[Option.map_some,(gp d c _ v x).2]
 ·rw[SV (by rw[dE];exact h),SV h]
theorem nS {d:InfP}{v:Nat}{x:NodeP}(hx:d.nodes[v]?=some x)(hb:d.decs.testBit v=true):(az d)[aX d.decs v]?=some v:=kF (get_lt hx) hb
theorem jW {d:InfP}{c:Nat->Nat->Int}{v:Nat}{x:NodeP}(hx:d.nodes[v]?=some x)(hb:d.decs.testBit v=true):dR d c (az d).length v x={ x with rows:=x.rows++cG d.grain d.nodes c (aX d.decs v) x } :=
 SQ ⟨hb,get_lt (nS hx hb)⟩
theorem jj {d:InfP}{c:Nat->Nat->Int}{v k:Nat}{x:NodeP}(hb:¬ d.decs.testBit v=true):dR d c k v x=x:=SO fun h=>hb h.1
def vn (d:InfP)(c:Nat->Nat->Int):Prop:=∀ (k v r:Nat) (x:NodeP),(az d)[k]?=some v->d.nodes[v]?=some x->r<bH d.nodes x->0<=c k r/\c k r<x.card
theorem QA {d:InfP}(h:InfOk d){c:Nat->Nat->Int}(hc:vn d c):NetOk d.grain (bP d c):=by
 have h0:=h.net;refine⟨h0.g1,by rw[dE];exact h.n.n1,fun y hy=>?_,by have:=h0.size;rw[jV]at this ⊢;exact this,by have:=h0.acyc;rw[DP]at this ⊢;exact this,fun y hy=>?_⟩
 ·obtain⟨v,x,hx,rfl⟩:=rW hy;have:=h0.node _ (SK (eF (c:=fun _ _=>0) hx));rw[(gp ..).1,(gp ..).2,dE]at this ⊢;exact this
 ·obtain⟨v,x,hx,rfl⟩:=rW hy;have h1:=h0.rows _ (SK (eF (c:=fun _ _=>0) hx));unfold fA at h1 ⊢;rw[nQ]at h1 ⊢;by_cases hb:d.decs.testBit v=true
  ·rw[jW hx hb]at h1 ⊢;have x1:=(h.n.dec v x hx hb).1;refine⟨?_,fun r hr=>?_⟩
   ·have:=h1.1;rw[show ({ x with rows:=x.rows++cG d.grain d.nodes (fun _ _=>0) (aX d.decs v) x }:NodeP).rows.length=bH d.nodes x by simp [x1,cG]]at this;rw[show ({ x with rows:=x.rows++cG d.grain d.nodes c (aX d.decs v) x }:NodeP).rows.length=bH d.nodes x by simp [x1,cG]];exact this
   ·rw[show ({ x with rows:=x.rows++cG d.grain d.nodes c (aX d.decs v) x }:NodeP).rows=x.rows++cG d.grain d.nodes c (aX d.decs v) x from rfl,x1,List.nil_append]at hr;unfold cG at hr;obtain⟨i,hi,rfl⟩:=S9.1 hr;have:=h0.g1;exact DO (by omega) (hc _ _ _ x (nS hx hb) hx (To.1 hi))
  ·rw[jj hb]at h1 ⊢;exact h1
theorem QB {d:InfP}{c:Nat->Nat->Int}{u:UtilP}(h:UtilOk d.nodes u):UtilOk (bP d c) u:=⟨by rw[dE];exact h.vars,by rw[jV];exact h.size,h.w⟩
theorem zb {d:InfP}{p:List (List Int)}(h:PolOk d p):vn d (fixC p):=fun k v r x hv hx hr=>by
 obtain⟨l,a,hl,ha,he,hb⟩:=QL h hv hx hr;rw[he];exact hb
theorem DQ (d:InfP)(c:Nat->Nat->Int):cK (bP d c)=cK d.nodes:=by unfold cK;rw[jV]
set_option maxHeartbeats 1000000 in
theorem QC (cs:List Int)(h1:∀ c∈cs,1<=c)(hs:cU cs)(i0:Int)(hi:0<=i0/\i0<=4611686018427387904)(H:AHeap)(K:ARes->AHeap->Prop)(hK:K (.ret (af (bC cs i0))) H):ae Tryz.prog G0 116 [af cs,aa i0] H K:=by
 refine ae.clo ⟨_,Tryz.func116,rfl,rfl⟩ fun hcl=>?_;have h12:=hs.1;have w0:=SM ((cs.length:Int) - 1) (by omega);refine ae.aZ (n:=33) (rs:=[.tmp 4]) Tryz.func116 rfl rfl rfl (by decide) (by kernel_rfl) (by simp) ?_;simp only[go_sem,w0];refine⟨by omega,?_⟩;refine W.aL 4294959170 (by rfl) (fun ρ H'=>∃ m:Nat,ρ 6=aa ((m:Int) - 1)/\m<=cs.length/\OwnI H H' H.next (List.replicate m 0++bC (cs.drop m) i0)/\ρ 1=aa (i0 / au (cs.drop m))) (fun ρ H=>(iv (ρ 6)+1).toNat) ?_ ?_
 ·simp only[go_sem];refine⟨cs.length,rfl,by omega,?_,?_⟩
  ·rw[List.drop_length,show bC [] i0=[] from rfl,List.append_nil];exact .new [] _
  ·rw[List.drop_length,gi,Int.ediv_one]
 rintro ρ H' ⟨m,h6,hm,ho,h1'⟩;refine W.en (fun E=>E 0=.vec cs.length (ints cs) /\ E 1=aa (i0 / au (cs.drop m)) /\ E 5=.own H.next 0 0 cs.length 1 /\ E 6=aa ((m:Int) - 1)) (by simp only[go_sem,h1',h6]) fun E ⟨e0,e1,e5,e6⟩=>?_
 refine W.vs ?_;have lN:=ho.live;have clen:(List.replicate m 0++bC (cs.drop m) i0).length=cs.length:=by simp [rN];omega
 by_cases hm0:m=0
 ·subst hm0;have e6':E 6=aa (-1):=e6;simp only[go_sem,e6',e5];exact ho.fin hcl clen.symm hK
 ·obtain⟨k,rfl⟩:∃ k,m=k+1:=⟨m - 1,by omega⟩
  have e6':E 6=aa k:=by rw[e6];congr 1;omega
  obtain⟨c,hck⟩:=get_of_lt (l:=cs) (i:=k) (by omega);have hne:=aK hck;have c1:=h1 c (SK hck);have hcz:¬ c=0:=by omega
  have hk0:(k:Int) >= 0:=by omega
  have hkc:(k:Int)<cs.length:=by omega
  have pp:1<=au (cs.drop (k+1)):=fw fun c hc=>h1 c (T8 hc);have q0:0<=i0 / au (cs.drop (k+1)):=Vm hi.1 (by omega);have q1:i0 / au (cs.drop (k+1))<=i0:=VF _ hi.1;have m1:(i0 / au (cs.drop (k+1))).tmod c=i0 / au (cs.drop (k+1)) % c:=Tj q0;have m2:(i0 / au (cs.drop (k+1))).tdiv c=i0 / au (cs.drop (k+1)) / c:=VK q0;have m3:0<=i0 / au (cs.drop (k+1)) / c:=Vm q0 (by omega);have m4:i0 / au (cs.drop (k+1)) / c<=i0 / au (cs.drop (k+1)):=VF _ q0;have w1:=SM ((k:Int) - 1) (by omega);have w2:=SM (i0 / au (cs.drop (k+1)) / c) (by omega);simp only[go_sem,e0,e1,e5,e6',hk0,hkc,lN,hck,hne,hcz,m1,m2,w1,w2];refine⟨by rw[<- List.length_append,clen];omega,by have:=ho.hi;rw[aw];omega,⟨k,rfl,by omega,?_,?_⟩,by rw[h6];simp only[aa,aQ];omega⟩
  ·have:=ho.store (k:=k) (by rw[clen];omega) (i0 / au (cs.drop (k+1)) % c);rw[show (List.replicate (k+1) (0:Int)++bC (cs.drop (k+1)) i0).set k (i0 / au (cs.drop (k+1)) % c)=List.replicate k 0++bC (cs.drop k) i0 by
    rw[O4 hck,UZ,List.append_assoc,Tv _ _ (by simp)];simp]at this
   exact this
  ·rw[lz hck,il,Ur c,VR (by omega)]
theorem DR (g:Int)(ns:List NodeP)(h8:ns.length<=8)(hc:∀ y∈ns,1<=y.card/\y.card<=4)(i0:Int)(hi:0<=i0/\i0<=4611686018427387904)(H:AHeap)(K:ARes->AHeap->Prop)(hK:K (.ret (af (bC (ao ns) i0))) H):ae Tryz.prog G0 74 [bJ g ns,aa i0] H K:=by
 refine ae.clo ⟨_,Tryz.func74,rfl,rfl⟩ fun hcl=>?_;have hcards:∀ c∈ao ns,1<=c/\c<=4:=fun c h=>by
  obtain⟨x,hx,rfl⟩:=S9.1 h;exact hc x hx
 have sm:cU (ao ns):=lS (by rw[cM];omega) hcards;refine ae.aZ (n:=9) (rs:=[.tmp 4]) Tryz.func74 rfl rfl rfl (by decide) (by kernel_rfl) (by simp) ?_;simp only[go_sem,bJ,cj];refine aB.clo (pT g ns (by omega) _ _ ⟨trivial,?_⟩);simp only[go_sem];refine aB.clo (QC (ao ns) (fun c h=>(hcards c h).1) sm i0 hi _ _ ⟨trivial,?_⟩);simp only[go_sem];exact ay.drop aS hcl (.dq _) hK
theorem DS (g:Int)(ns:List NodeP)(h8:ns.length<=8)(hc:∀ y∈ns,1<=y.card/\y.card<=4)(H:AHeap)(K:ARes->AHeap->Prop)(hK:K (.ret (aa (au (ao ns)))) H):ae Tryz.prog G0 73 [bJ g ns] H K:=by
 refine ae.clo ⟨_,Tryz.func73,rfl,rfl⟩ fun hcl=>?_;have hcards:∀ c∈ao ns,1<=c/\c<=4:=fun c h=>by
  obtain⟨x,hx,rfl⟩:=S9.1 h;exact hc x hx
 have sm:cU (ao ns):=lS (by rw[cM];omega) hcards;refine ae.aZ (n:=6) (rs:=[.tmp 2]) Tryz.func73 rfl rfl rfl (by decide) (by kernel_rfl) (by simp) ?_;simp only[go_sem,bJ,cj];refine aB.clo (pT g ns (by omega) _ _ ⟨trivial,?_⟩);simp only[go_sem];refine aB.clo (vq (ao ns) sm _ _ ⟨trivial,?_⟩);simp only[go_sem];exact ay.drop aS hcl (.lit _) hK
set_option maxHeartbeats 1000000 in
theorem QD (g:Int)(ns:List NodeP)(h:NetOk g ns)(vals:List Int)(hf:bL (ao ns) vals)(v:Nat)(x:NodeP)(hx:ns[v]?=some x)(H:AHeap)(K:ARes->AHeap->Prop)(hK:K (.ret (af (mE ns x vals))) H):ae Tryz.prog G0 119 [bJ g ns,aa v,af vals] H K:=by
 refine ae.clo ⟨_,Tryz.func119,rfl,rfl⟩ fun hcl=>?_;have n8:=h.n1;have hxm:=SK hx;have hin:eR x.parents ns.length:=fun q hq=>by have:=(h.node x hxm).2.2 q hq;omega
 have sm:=jY n8.2 (h.node x hxm).2 fun y hy=>(h.node y hy).1;have pl:(aH ns x).length=x.parents.length:=fM _ _;have p12:=sm.1;have hfp:=pR hin hf;obtain⟨i,r,a,w,hR⟩:=rX h hx hf;have hne:=dC hx;have e1:=je hx;have e2:=pG hx;have hv:(v:Int)<ns.length:=by have:=get_lt hx;omega
 have hvl:vals.length=ns.length:=by rw[hf.1,cM]
 have hri:=hR.row;have hrne:=aK hri;have hrl:(i:Int)<x.rows.length:=by have:=get_lt hri;omega
 have hidx:=hR.idx;rw[hR.rv]at hK;have hin':∀ q∈x.parents,0<=q/\q<(vals.length:Int):=fun q hq=>by rw[hvl];exact hin q hq
 refine ae.aZ (n:=27) (rs:=[.tmp 6]) Tryz.func119 rfl rfl rfl (by decide) (by kernel_rfl) (by simp) ?_;simp only[go_sem,bJ,cj];refine W.draw 18 [0,1,0,7,15,31,0,0,192,0,0,1024,0,7168,15360,31744,65472,131008] Tryz.mixed (by kernel_rfl) (by kernel_rfl) ?_;simp only[go_sem,hv,hne,e1,e2];refine⟨af (aH ns x),[],bO.pure (fun H2=>zh g ns v x hx (by omega) (by omega) hin H2 _ ⟨rfl,rfl⟩),?_⟩;simp only[go_sem];refine⟨af (aF vals x.parents),[],bO.pure (fun H2=>pS vals x.parents (by omega) (by omega) hin' H2 _ ⟨rfl,rfl⟩),?_⟩;simp only[go_sem];refine⟨aa i,[],bO.pure (fun H2=>zg (aH ns x) (aF vals x.parents) sm hfp H2 _ ⟨by rw[hidx],rfl⟩),?_⟩;simp only[go_sem,hrl,ah,hri,hrne];exact ay.drop aS hcl (.dq _) hK
set_option maxHeartbeats 1000000 in
theorem QE (g:Int)(ns:List NodeP)(h:NetOk g ns)(i0:Int)(hi:0<=i0/\i0<=4611686018427387904)(H:AHeap)(K:ARes->AHeap->Prop)(hK:K (.ret (aa (weight ns (bC (ao ns) i0)))) H):ae Tryz.prog G0 79 [bJ g ns,aa i0] H K:=by
 refine ae.clo ⟨_,Tryz.func79,rfl,rfl⟩ fun hcl=>?_;have n8:=h.n1;have hcards:∀ c∈ao ns,1<=c/\c<=4:=fun c hc=>by
  obtain⟨x,hx,rfl⟩:=S9.1 hc;exact(h.node x hx).1
 refine ae.aZ (n:=31) (rs:=[.tmp 4]) Tryz.func79 rfl rfl rfl (by decide) (by kernel_rfl) (by simp) ?_;simp only[go_sem,bJ,cj];obtain⟨H1,hH1⟩:∃ H1,H1=ext H [.arr 0 103 [.lit (.int .i64 g),.vec ns.length (aG ns)]]:=⟨_,rfl⟩
 have l1:H1.live H.next 0=some (103,[.lit (.int .i64 g),.vec ns.length (aG ns)]):=by rw[hH1];exact ag (bQ ..)
 have o1:Over H H1:=by rw[hH1];exact .ext _ _
 rw[<- hH1];refine aB.clo (DR g ns n8.2 (fun y hy=>(h.node y hy).1) i0 hi _ _ ⟨trivial,?_⟩);obtain⟨vals,hvals⟩:∃ vals,vals=bC (ao ns) i0:=⟨_,rfl⟩
 have hfit:bL (ao ns) vals:=by rw[hvals];exact rO (fun c hc=>(hcards c hc).1) _
 have hvl:vals.length=ns.length:=by rw[hfit.1,cM]
 rw[<- hvals]at hK ⊢;simp only[go_sem];refine W.aL 1073739968 (by rfl) (fun ρ H'=>H'=H1/\∃ v:Nat,ρ 7=aa v/\v<=ns.length/\ρ 6=aa (au ((gv ns vals).take v))) (fun ρ H=>ns.length - (iv (ρ 7)).toNat) ?_ ?_
 ·simp only[go_sem];exact⟨0,rfl,by omega,by simp [gi]⟩
 rintro ρ H' ⟨rfl,v,h7,hv,h6⟩;refine W.en (fun E=>E 2=.ptr H.next 0 0 /\ E 5=af vals /\ E 6=aa (au ((gv ns vals).take v)) /\ E 7=aa v) (by simp only[go_sem,h6,h7]) fun E ⟨e2,e5,e6,e7⟩=>?_
 refine W.vs ?_;by_cases hb:(v:Int)<ns.length
 ·obtain⟨x,hx⟩:=get_of_lt (l:=ns) (i:=v) (by omega);obtain⟨i,r,a,w,hR⟩:=rX h hx hfit;obtain⟨a',rfl⟩:=S2 hR.a0;have hva:=hR.val;have hvne:=aK hva;have hvv:(v:Int)<vals.length:=by omega
  have hra:r[a']?=some w:=by have:=hR.hw;rw[Int.toNat_natCast]at this;exact this
  have hrane:=aK hra;have hal:=hR.al;have wt:=QP h hfit (v+1);rw[aO (C5 (vals:=vals) (v:=v) (by omega)),eO,hR.eq]at wt;have w1:=SM ((v:Int)+1) (by omega);have w2:=SM (au ((gv ns vals).take v)*w) (by omega);simp only[go_sem,l1,e2,e7,hb];refine W.draw 11 [0,0,0,0,14,0,0,96,224,510,1022] Tryz.mixed (by kernel_rfl) (by kernel_rfl) ?_;simp only[go_sem,l1,e2,e5,e6,e7];refine⟨af r,[],bO.pure (fun H2=>QD g ns h vals hfit v x hx H2 _ ⟨by rw[hR.rv],rfl⟩),?_⟩;simp only[go_sem,e2,e5,e6,e7,hva,hvne,hvv,hra,hrane,hal,w1,w2];refine⟨⟨v+1,rfl,by omega,?_⟩,by rw[h7];simp only[aa,aQ];omega⟩;rw[aO (C5 (vals:=vals) (v:=v) (by omega)),eO,hR.eq]
 ·have e:v=ns.length:=by omega
  subst e;simp only[go_sem,l1,e2,e6,e7,hb];rw[SP (by rw[yJ];omega)];exact ay.bx aS hcl o1 (.lit _) hK
end Go.Proofs
namespace Go.Proofs.R01
open Go.Hx
section
variable {P:Program} {t:TypeId} {x y:Operand} {k k':IntKind} {a b:Int}
theorem pureRun_bind {α β:Type}{s:Sem α}{f:α->Sem β}{a:α}(h:cI P s=some a):cI P (s >>= f)=cI P (f a):=by
 induction s with
 | pure b=>simp only[cI,Option.some.injEq]at h;subst h;rfl
 | program k ih=>exact ih P h
 | mark m k ih=>exact ih h
 | _=>simp [cI]at h
end
section
variable {P:Program} {G:Nat->Option (List AVal)}
end
end Go.Proofs.R01
namespace Go.Proofs.R01
open Go.Hx
def val:List Int -> Nat
  | [] => 0
  | a :: l => a.toNat + 10000 * val l
end Go.Proofs.R01
namespace Go.Proofs.R01
open Go.Hx
theorem mJ {H H' H2:AHeap}{v:AVal}{cs:List AVal}{e:TypeId}(ov:Over H H')(h:aA H.next H' e v cs)(hn:H'.next <= H2.next)(hp:∀ k, k < H'.next -> (∀ g n, v ≠ .own k g 0 n 1) -> H2.get k = H'.get k):Over H H2 :=
  ⟨by have := ov.next; omega, fun id hid => by
    rw[hp id (by have := ov.next; omega) fun g n he => ?_, ov.old id hid]
    rcases h with ⟨h, _⟩ | ⟨i2, g2, a1, _, h, _⟩
    · rw[h]at he; cases he
    · rw[h]at he; have := AVal.own.inj he; omega⟩
end Go.Proofs.R01
namespace Go.Proofs.R01
open Go.Hx
end Go.Proofs.R01
namespace Go.Proofs.R01
open Go.Hx
theorem gD {l:List Int}{k:Nat}(v:Int)(h:k<l.length):setAt (ints l) k [.lit (.int .i64 v)]=ints (l.set k v):=by
 unfold setAt ints;rw[UU,Vt,SQ (by simpa using h)];simp [aa]
end Go.Proofs.R01
namespace Go.Proofs.R01
open Go.Hx
end Go.Proofs.R01
namespace Go.Proofs.R01
open Go.Hx
end Go.Proofs.R01
namespace Go.Proofs.R01
open Go.Hx
end Go.Proofs.R01
namespace Go.Proofs.R01
open Go.Hx
end Go.Proofs.R01
namespace Go.Proofs
open Go.Hx
def bn (l:List Int):List AVal:=l.map fun n=>.lit (.int .u8 n)
theorem rF {l:List Int}{k:Nat}{a:Int}(h:l[k]?=some a):(bn l)[k]?=some (.lit (.int .u8 a)):=by unfold bn;rw[List.getElem?_map,h];rfl
end Go.Proofs
namespace Go.Hx
variable {P:Program} {H H':AHeap}
theorem pJ {t e:TypeId}{lo n m:Nat}{v x:AVal}{cs src:List AVal}{z:List AVal}(ht:P.underlying t=some (.slice e))(hz:P.cellsOf e=1)(hzero:bE P e=some z)(hsrc:cw H 1 x=some (m,src))(hm:src.length=m)(hx:src.all AVal.one=true)
  (hb:(cs.length+m)*P.bytesOf e<=2 ^ 46/\cs.length+m<=2 ^ 46) (ho:aA lo H e v cs) (hlo:lo<=H.next) (hn:n=H.next):
  ∃ v' H',bf P H n t t v x=some (v',H')/\aA lo H' e v' (cs++src)/\H.next<=H'.next/\(∀ k,k<H.next->(∀ g n,v≠.own k g 0 n 1)->H'.get k=H.get k):=by
 subst hm;obtain⟨v',H',hA,h2⟩:=qR (H:=H) (n:=n) ht hz hzero hx hb ho hlo hn;refine⟨v',H',?_,h2⟩;rw[<- hA];have e2:cw H 1 (.vec src.length src)=some (src.length,src):=by unfold cw;simp
 unfold bf;rw[ht];simp only[hz,hsrc,e2]
end Go.Hx
namespace Go.Proofs
open Go.Hx
def U8 (n:Int):Prop:=0<=n/\n<256
theorem PE (n:Nat)(hn:n<=5)(ord:List Int)(H:AHeap)(K:ARes->AHeap->Prop)(hK:K (.ret (af (List.replicate n 1))) H):
  ae Tryz.prog G0 133 [.agg [.vec n (bn (List.replicate n 0)),(.lit (.int .u16 0)),.vec ord.length (bn ord)]] H K:=by
 refine ae.clo ⟨_,Tryz.func133,rfl,rfl⟩ fun hcl=>?_;refine ae.aZ (n:=28) (rs:=[.tmp 2]) Tryz.func133 rfl rfl rfl (by decide) (by kernel_rfl) (by simp) ?_;simp only[go_sem];obtain⟨H1,hH1⟩:∃ H1,H1=ext H [.arr 0 162 [.vec n (bn (List.replicate n 0)),.lit (.int .u16 0),.vec ord.length (bn ord)]]:=⟨_,rfl⟩
 have l1:=ag (show H1.get H.next=some (.arr 0 162 [.vec n (bn (List.replicate n 0)),.lit (.int .u16 0),.vec ord.length (bn ord)]) by rw[hH1];exact bQ ..);have n1:H1.next=H.next+1:=by rw[hH1];rfl
 have o1:Over H H1:=by rw[hH1];exact .ext _ _
 rw[<- hH1];refine W.aL 134217720 (by rfl) (fun ρ H'=>∃ k:Nat,ρ 4=aa k/\k<=n/\Over H1 H'/\aA H1.next H' 3 (ρ 3) (ints (List.replicate k 1))) (fun ρ H=>n - (iv (ρ 4)).toNat) ?_ ?_
 ·simp only[go_sem];exact⟨0,rfl,by omega,.refl _,.nil⟩
 rintro ρ H' ⟨k,h4,hk,ov,h3⟩;refine W.en (fun E=>E 1=.ptr H.next 0 0 /\ E 3=ρ 3 /\ E 4=aa k) (by simp only[go_sem,h4]) fun E ⟨e1,e3,e4⟩=>?_
 refine W.vs ?_;have l2:=(ov.live (g:=0) (by omega:H.next<H1.next)).trans l1;by_cases hb:(k:Int)<n
 ·have h5:(k:Int)<5:=by omega
  have hg:(bn (List.replicate n 0))[k]?=some (.lit (.int .u8 0)):=rF (by rw[TR,SQ (by omega)]);have hne:=aK hg;obtain⟨v',H2,hA,ov2,hO,hn2,_⟩:=iQ 1 ov h3 (by simp;omega);have w1:=SM ((k:Int)+1) (by omega);have hk0:(k:Int) >= 0:=by omega
  have w5:IntKind.i64.wrap (1+IntKind.i64.wrap (Int.tmod 0 4))=1:=by decide
  simp only[go_sem,e1,e3,e4,l2,hb,h5,hk0,hg,hne,w1,w5,hA];refine⟨by have:=ov2.next;omega,⟨k+1,rfl,by omega,ov2,?_⟩,by rw[h4];simp only[aa,aQ];omega⟩;rw[UZ];exact hO
 ·simp only[go_sem,e1,e3,e4,l2,hb];obtain rfl:k=n:=by omega
  exact ay.bx aS hcl (o1.trans ov) (h3.eX fun i hi=>by omega) hK
structure IsPerm (n:Nat)(p:List Int):Prop where
 len:p.length=n
 nd:p.Nodup
 rng:∀ x∈p,0<=x/\x<n
theorem PF {n:Nat}{p:List Int}(h:IsPerm n p)(at':Nat)(ha:at'<=n):IsPerm (n+1) (p.take at'++(n:Int) :: p.drop at'):=by
 have hperm:(p.take at'++(n:Int) :: p.drop at').Perm ((n:Int) :: p):=by
  have:=List.perm_middle (a:=(n:Int)) (l₁:=p.take at') (l₂:=p.drop at')
  rwa [Tu]at this
 refine⟨by rw[hperm.length_eq];simp [h.len],(hperm.nodup_iff).2 (Vj.2 ⟨fun hm=>?_,h.nd⟩),fun x hx=>?_⟩
 ·have:=h.rng _ hm;omega
 ·rcases List.mem_cons.1 (hperm.mem_iff.1 hx) with rfl|h2
  ·omega
  ·have:=h.rng x h2;omega
def lH (ord:List Int)(k:Nat):Nat:=if k<ord.length then (ord.getD k 0 % ((k:Int)+1)).toNat else 0
def fa (ord:List Int):Nat->List Int
 | 0=>[]
 | k+1=>(fa ord k).take (lH ord k)++(k:Int) :: (fa ord k).drop (lH ord k)
theorem PG (ord:List Int)(k:Nat):lH ord k<=k:=by
 unfold lH;split
 ·have:=T7 (ord.getD k 0) (show 0<(k:Int)+1 by omega);omega
 ·omega
theorem yQ (ord:List Int):∀ n:Nat,IsPerm n (fa ord n)
 | 0=>⟨rfl,by simp [fa],by simp [fa]⟩
 | n+1=>PF (yQ ord n) _ (PG ord n)
set_option maxHeartbeats 1000000 in
theorem PH (n:Nat)(hn:n<=5)(ord:List Int)(hol:(ord.length:Int)<2 ^ 63)(ho8:∀ x∈ord,U8 x)(H:AHeap)(K:ARes->AHeap->Prop)(hK:∀ v H',Over H H'->aA H.next H' 3 v (ints (fa ord n))->K (.ret v) H'):
  ae Tryz.prog G0 99 [.agg [.vec n (bn (List.replicate n 0)),.lit (.int .u16 0),.vec ord.length (bn ord)]] H K:=by
 refine ae.clo ⟨_,Tryz.func99,rfl,rfl⟩ fun hcl=>?_;refine ae.aZ (n:=42) (rs:=[.tmp 2]) Tryz.func99 rfl rfl rfl (by decide) (by kernel_rfl) (by simp) ?_;simp only[go_sem];obtain⟨H1,hH1⟩:∃ H1,H1=ext H [.arr 0 162 [.vec n (bn (List.replicate n 0)),.lit (.int .u16 0),.vec ord.length (bn ord)]]:=⟨_,rfl⟩
 have l1:=ag (show H1.get H.next=some (.arr 0 162 [.vec n (bn (List.replicate n 0)),.lit (.int .u16 0),.vec ord.length (bn ord)]) by rw[hH1];exact bQ ..);have n1:H1.next=H.next+1:=by rw[hH1];rfl
 have o1:Over H H1:=by rw[hH1];exact .ext _ _
 rw[<- hH1];refine W.aL 2199023255544 (by rfl) (fun ρ H'=>∃ (k:Nat) (p:List Int),ρ 4=aa k/\k<=n/\p=fa ord k/\Over H1 H'/\aA H1.next H' 3 (ρ 3) (ints p)) (fun ρ H=>n - (iv (ρ 4)).toNat) ?_ ?_
 ·simp only[go_sem];exact⟨0,[],rfl,by omega,rfl,.refl _,.nil⟩
 rintro ρ H' ⟨k,p,h4,hk,hpe,ov,h3⟩;have hp:IsPerm k p:=by rw[hpe];exact yQ ord k
 refine W.en (fun E=>E 1=.ptr H.next 0 0 /\ E 3=ρ 3 /\ E 4=aa k) (by simp only[go_sem,h4]) fun E ⟨e1,e3,e4⟩=>?_
 refine W.vs ?_;have l2:=(ov.live (g:=0) (by omega:H.next<H1.next)).trans l1;simp only[go_sem,e1,l2];refine aB.clo (PE n hn ord _ _ ⟨trivial,?_⟩);by_cases hb:(k:Int)<n;rotate_left
 ·simp only[go_sem,Tl,e3,e4,hb];obtain rfl:k=n:=by omega
  exact ay.mk (o1.trans ov).next (hK _ _ (o1.trans ov) (by rw[<- hpe];exact h3.keep (by omega) (Nat.le_refl _) fun _ _ _ _ _ _=>rfl))
  -- the place
 rcases h3 with ⟨h3n,hpn⟩|⟨oi,og,hoi1,hoi2,h3o,hog⟩
 ·have p0:p=[]:=by cases p with
   | nil=>rfl
   | cons a l=>simp [ints]at hpn
  have pl:=hp.len;rw[p0]at pl;obtain rfl:k=0:=by simpa using pl.symm
  rw[h3n]at e3;have e4':E 4=aa 0:=e4;have hb':(0:Int)<n:=hb;by_cases ho:(0:Int)<ord.length
  ·obtain⟨b,hbg⟩:=get_of_lt (l:=ord) (i:=0) (by omega);have b8:=ho8 b (SK hbg);have hbg':=rF hbg;have hbne:=aK hbg';have w2:IntKind.i64.wrap b=b:=SM b (by have:=b8.1;have:=b8.2;omega);have w1:IntKind.i64.wrap 1=1:=(by decide);have m1:b.tmod 1=0:=(by simp);obtain⟨v2,Hb,hA2,ovB,hO2,hn2,hp2⟩:=iQ (H:=H') (H':=H') (l:=[]) (v:=.lit (.slice none 0 0)) (0:Int) (.refl _) aA.nil (by simp);obtain⟨v3,Hc,hA3,hO3,hn3,hp3⟩:=pJ (P:=Tryz.prog) (H:=Hb) (t:=46) (n:=Hb.next) (m:=0) (v:=v2) (x:=.lit (.slice none 0 0)) (src:=[]) Tryz.underlying46 Tryz.dx Tryz.dQ rfl rfl rfl (by rw[Tryz.eC];exact⟨by decide,by decide⟩) hO2 ovB.next rfl;have ovC:Over H' Hc:=mJ ovB hO2 hn3 hp3;have hA1:bf Tryz.prog H' H'.next 46 46 (.lit (.slice none 0 0)) (.lit (.slice none 0 0))=some (.lit (.slice none 0 0),H'):=by
    unfold bf;rw[Tryz.underlying46];simp only[Tryz.dQ,Tryz.dx,Option.bind_some,xe,if_true]
   have hO3':aA H1.next Hc 3 v3 (ints [0]):=by
    rw[List.append_nil]at hO3;exact hO3.keep ov.next (Nat.le_refl _) fun _ _ _ _ _ _=>rfl
   simp only[go_sem,Tl,e1,e3,e4',l2,hb',ho,hbg',hbne,w1,w2,m1,hA1,hA2,hA3];refine⟨by have:=ovC.next;have:=ov.next;omega,⟨1,[0],rfl,by omega,by simp [fa],ov.trans ovC,hO3'⟩,by rw[h4];simp only[aa,aQ];omega⟩
  ·have w1:IntKind.i64.wrap 1=1:=(by decide);obtain⟨v2,Hb,hA2,ovB,hO2,hn2,hp2⟩:=iQ (H:=H') (H':=H') (l:=[]) (v:=.lit (.slice none 0 0)) (0:Int) (.refl _) aA.nil (by simp);obtain⟨v3,Hc,hA3,hO3,hn3,hp3⟩:=pJ (P:=Tryz.prog) (H:=Hb) (t:=46) (n:=Hb.next) (m:=0) (v:=v2) (x:=.lit (.slice none 0 0)) (src:=[]) Tryz.underlying46 Tryz.dx Tryz.dQ rfl rfl rfl (by rw[Tryz.eC];exact⟨by decide,by decide⟩) hO2 ovB.next rfl;have ovC:Over H' Hc:=mJ ovB hO2 hn3 hp3;have hA1:bf Tryz.prog H' H'.next 46 46 (.lit (.slice none 0 0)) (.lit (.slice none 0 0))=some (.lit (.slice none 0 0),H'):=by
    unfold bf;rw[Tryz.underlying46];simp only[Tryz.dQ,Tryz.dx,Option.bind_some,xe,if_true]
   have hO3':aA H1.next Hc 3 v3 (ints [0]):=by
    rw[List.append_nil]at hO3;exact hO3.keep ov.next (Nat.le_refl _) fun _ _ _ _ _ _=>rfl
   simp only[go_sem,Tl,e1,e3,e4',l2,hb',ho,w1,hA1,hA2,hA3];refine⟨by have:=ovC.next;have:=ov.next;omega,⟨1,[0],rfl,by omega,by simp [fa],ov.trans ovC,hO3'⟩,by rw[h4];simp only[aa,aQ];omega⟩
 rw[h3o]at e3;have lo:=ag hog;by_cases ho:(k:Int)<ord.length
 ·obtain⟨b,hbg⟩:=get_of_lt (l:=ord) (i:=k) (by omega);have b8:=ho8 b (SK hbg);have hbg':=rF hbg;have hbne:=aK hbg';have w0:=SM ((k:Int)+1) (by omega);have w1:=w0;have w2:IntKind.i64.wrap b=b:=SM b (by have:=b8.1;have:=b8.2;omega);have m1:b.tmod ((k:Int)+1)=b % ((k:Int)+1):=Tj b8.1;have m2:=Ue b (show (k:Int)+1≠0 by omega);have m3:=T7 b (show 0<(k:Int)+1 by omega);have hz:¬ (k:Int)+1=0:=by omega
  obtain⟨a,hat⟩:=S2 m2;have ha:a<=k:=by omega
  have hac:(0:Int)<=(a:Int):=by omega
  have hap:(a:Int)<=(p.length:Int):=by rw[hp.len];omega
  have hak:(0:Int)<=(a:Int)/\(a:Int)<=(p.length:Int):=⟨hac,hap⟩
  have pl:p.length=k:=hp.len;obtain⟨v1,Ha,hA1,hO1,hn1,hp1⟩:=pJ (P:=Tryz.prog) (H:=H') (t:=46) (n:=H'.next) (m:=a) (v:=.lit (.slice none 0 0)) (x:=.own oi og 0 a 1) (src:=(ints p).take a) Tryz.underlying46 Tryz.dx Tryz.dQ
   (by rw[qN,SQ rfl,lo];simp) (by simp [aP]<;>omega) (Tf.2 fun c hc=>by
    obtain⟨z,_,rfl⟩:=S9.1 (Tg hc);rfl) (by rw[Tryz.eC];simp<;>omega) aA.nil (Nat.le_refl _) rfl
  have ovA:Over H' Ha:=⟨hn1,fun id hi=>hp1 id hi fun g n h=>by cases h⟩
  rw[List.nil_append,Es]at hO1;obtain⟨v2,Hb,hA2,ovB,hO2,hn2,hp2⟩:=iQ (k:Int) ovA hO1 (by simp<;>omega);have hcl2:(ints (p.take a++[(k:Int)])).length<=k+1:=by rw[aP,List.length_append,SX];simp<;>omega
  have hlb:Hb.live oi og=some (3,ints p):=(ovB.live hoi2).trans lo;obtain⟨v3,Hc,hA3,hO3,hn3,hp3⟩:=pJ (P:=Tryz.prog) (H:=Hb) (t:=46) (n:=Hb.next) (m:=p.length - a) (v:=v2) (x:=.own oi og a (p.length - a) 1) (src:=(ints p).drop a) Tryz.underlying46 Tryz.dx Tryz.dQ
   (by rw[qN,SQ rfl,hlb];simp [SP,aP]) (by simp [aP]) (Tf.2 fun c hc=>by
    obtain⟨z,_,rfl⟩:=S9.1 (T8 hc);rfl) (by rw[Tryz.eC];omega) hO2 ovB.next rfl
  have ovC:Over H' Hc:=mJ ovB hO2 hn3 hp3;have hla:Ha.live oi og=some (3,ints p):=(ovA.live hoi2).trans lo;rw[Et]at hO3;have hO3':aA H1.next Hc 3 v3 (ints (p.take a++(k:Int) :: p.drop a)):=by
   have:ints (p.take a++[(k:Int)])++ints (p.drop a)=ints (p.take a++(k:Int) :: p.drop a):=(by simp [ints]);rw[this]at hO3;exact hO3.keep ov.next (Nat.le_refl _) fun _ _ _ _ _ _=>rfl
  simp only[go_sem,Tl,e1,e3,e4,l2,hb,ho,hbg',hbne,w0,w2,m1,hz,hat,hac,hap,Int.toNat_natCast,lo,hlb,hA1,hA2,hA3];refine⟨by have:=ovC.next;omega,⟨k+1,_,rfl,by omega,by rw[fa,<- hpe,show lH ord k=a by unfold lH;rw[SQ (by omega),bq hbg,hat];rfl],ov.trans ovC,hO3'⟩,by rw[h4];simp only[aa,aQ];omega⟩
 ·have w0:=SM ((k:Int)+1) (by omega);have pl:p.length=k:=hp.len;obtain⟨v1,Ha,hA1,hO1,hn1,hp1⟩:=pJ (P:=Tryz.prog) (H:=H') (t:=46) (n:=H'.next) (m:=0) (v:=.lit (.slice none 0 0)) (x:=.own oi og 0 0 1) (src:=(ints p).take 0) Tryz.underlying46 Tryz.dx Tryz.dQ
   (by rw[qN,SQ rfl,lo];simp) (by simp [aP]<;>omega) (Tf.2 fun c hc=>by
    obtain⟨z,_,rfl⟩:=S9.1 (Tg hc);rfl) (by rw[Tryz.eC];simp<;>omega) aA.nil (Nat.le_refl _) rfl
  have ovA:Over H' Ha:=⟨hn1,fun id hi=>hp1 id hi fun g n h=>by cases h⟩
  rw[List.nil_append,Es]at hO1;obtain⟨v2,Hb,hA2,ovB,hO2,hn2,hp2⟩:=iQ (k:Int) ovA hO1 (by simp<;>omega);have hcl2:(ints (p.take 0++[(k:Int)])).length<=k+1:=by rw[aP,List.length_append,SX];simp<;>omega
  have hlb:Hb.live oi og=some (3,ints p):=(ovB.live hoi2).trans lo;obtain⟨v3,Hc,hA3,hO3,hn3,hp3⟩:=pJ (P:=Tryz.prog) (H:=Hb) (t:=46) (n:=Hb.next) (m:=p.length) (v:=v2) (x:=.own oi og 0 (p.length) 1) (src:=(ints p).drop 0) Tryz.underlying46 Tryz.dx Tryz.dQ
   (by rw[qN,SQ rfl,hlb];simp [SP,aP]) (by simp [aP]) (Tf.2 fun c hc=>by
    obtain⟨z,_,rfl⟩:=S9.1 (T8 hc);rfl) (by rw[Tryz.eC];omega) hO2 ovB.next rfl
  have ovC:Over H' Hc:=mJ ovB hO2 hn3 hp3;have hla:Ha.live oi og=some (3,ints p):=(ovA.live hoi2).trans lo;rw[Et]at hO3;have hO3':aA H1.next Hc 3 v3 (ints (p.take 0++(k:Int) :: p.drop 0)):=by
   have:ints (p.take 0++[(k:Int)])++ints (p.drop 0)=ints (p.take 0++(k:Int) :: p.drop 0):=(by simp [ints]);rw[this]at hO3;exact hO3.keep ov.next (Nat.le_refl _) fun _ _ _ _ _ _=>rfl
  simp only[go_sem,Tl,e1,e3,e4,l2,hb,ho,w0,lo,hlb,hA1,hA2,hA3];refine⟨by have:=ovC.next;omega,⟨k+1,_,rfl,by omega,by rw[fa,<- hpe,show lH ord k=0 by unfold lH;rw[SO (by omega)]],ov.trans ovC,hO3'⟩,by rw[h4];simp only[aa,aQ];omega⟩
theorem nM {l:List Int}(h:∀ x∈l,0<=x):0<=l.sum:=by
 induction l with
 | nil=>simp
 | cons a l ih =>
  rw[Uq];have:=h a (by simp);have:=ih fun x hx=>h x (by simp [hx]);omega
theorem Dh {l:List Int}{i:Nat}{a b:Int}(h:l[i]?=some a):(l.set i b).sum=l.sum - a+b:=by
 induction l generalizing i with
 | nil=>simp at h
 | cons x l ih =>
  cases i with
  | zero=>simp at h;subst h;simp only[List.set_cons_zero,Uq];omega
  | succ i =>
   simp only[List.set_cons_succ,Uq];rw[ih (by simpa using h)];omega
theorem PI {l:List Int}{b:Int}(h:∀ x∈l,0<=x/\x<=b):l.sum<=b*l.length:=by
 induction l with
 | nil=>simp
 | cons a l ih =>
  rw[Uq,List.length_cons];have:=(h a (by simp)).2;have:=ih fun x hx=>h x (by simp [hx]);rw[show b*((l.length+1:Nat):Int)=b*l.length+b by rw[Int.natCast_add,Vb];simp];omega
def wF (n:Nat)(bs:List Int)(from':Int):List Int:=(List.range n).map fun (k:Nat)=>if bs.length=0 then 0 else bs.getD ((from'+(k:Int)) % (bs.length:Int)).toNat 0 % 8
theorem Di (n:Nat)(bs:List Int)(from':Int):(wF n bs from').length=n:=by simp [wF]
theorem Dj {n:Nat}(bs:List Int)(from':Int){k:Nat}(h:k<n):(wF n bs from')[k]?=some (if bs.length=0 then 0 else bs.getD ((from'+(k:Int)) % (bs.length:Int)).toNat 0 % 8):=by
 unfold wF;rw[List.getElem?_map,Tn h];rfl
theorem PJ (n:Nat)(bs:List Int)(from':Int):∀ x∈wF n bs from',0<=x/\x<=7:=fun x hx=>by
 unfold wF at hx;obtain⟨k,_,rfl⟩:=S9.1 hx;split<;>omega
def uX (g s:Int)(st:List Int × Nat)(m:Nat):List Int × Nat:=if 0<st.1.getD m 0 then (st.1.set m (g*st.1.getD m 0 / s),m) else st
def iM (g:Int)(c:List Int)(m:Nat):List Int × Nat:=(List.range m).foldl (uX g c.sum) (c,0)
theorem Dk (g:Int)(c:List Int)(m:Nat):iM g c (m+1)=uX g c.sum (iM g c m) m:=by unfold iM;rw[T4,Ua];rfl
def mH (g:Int)(n:Nat)(bs:List Int)(from':Int):List Int:=(iM g (wF n bs from') n).1.set (iM g (wF n bs from') n).2 ((iM g (wF n bs from') n).1.getD (iM g (wF n bs from') n).2 0+(g - (iM g (wF n bs from') n).1.sum))
structure RInv (g:Int)(c:List Int)(m:Nat)(d:List Int)(last:Nat):Prop where
 dl:d.length=c.length
 d0:∀ x∈d,0<=x
 dd:d.drop m=c.drop m
 dg:(d.take m).sum<=g
 ds:c.sum*(d.take m).sum<=g*(c.take m).sum
 la:last<c.length
theorem Dl {g:Int}{c:List Int}(hg:1<=g)(hc:∀ x∈c,0<=x)(hl:0<c.length):∀ m,m<=c.length->RInv g c m (iM g c m).1 (iM g c m).2:=by
 intro m
 induction m with
 | zero=>intro _;exact⟨rfl,hc,rfl,by simp;omega,by simp,hl⟩
 | succ m ih =>
  intro hm;obtain⟨hdl,hd0,hdd,hdg,hds,hla⟩:=ih (by omega);rw[Dk];generalize iM g c m=st at *
  obtain⟨d,last⟩:=st;simp only at hdl hd0 hdd hdg hds hla;obtain⟨x,hcx⟩:=get_of_lt (l:=c) (i:=m) (by omega);have hx0:=hc x (SK hcx);have hdx:d[m]?=some x:=by
   have h1:(d.drop m)[0]?=d[m]?:=(by rw[T6];rfl);have h2:(c.drop m)[0]?=c[m]?:=(by rw[T6];rfl);rw[<- h1,hdd,h2,hcx]
  have hdd':d.drop (m+1)=c.drop (m+1):=by
   have:=congrArg (List.drop 1) hdd
   rwa [UF,UF]at this
  have hct:(c.take (m+1)).sum=(c.take m).sum+x:=by rw[aO hcx];simp
  have hcs:(c.take (m+1)).sum+(c.drop (m+1)).sum=c.sum:=by rw[<- Vi,Tu]
  have hcd0:=nM (l:=c.drop (m+1)) fun y hy=>hc y (T8 hy);have hc00:=nM (l:=c.take m) fun y hy=>hc y (Tg hy);have hd00:=nM (l:=d.take m) fun y hy=>hd0 y (Tg hy);unfold uX;rw[bq hdx];by_cases hx:0<x
  ·rw[SQ hx];have gx:0<=g*x:=Us (by omega) hx0;have y0:0<=g*x / c.sum:=Vm gx (by omega);have y2:c.sum*(g*x / c.sum)<=g*x:=V2 (by omega);have dt:((d.set m (g*x / c.sum)).take (m+1)).sum=(d.take m).sum+g*x / c.sum:=by
    rw[aO (S1 (by omega)),U2 (Nat.le_refl _)];simp
   have hs2:c.sum*((d.take m).sum+g*x / c.sum)<=g*(c.take (m+1)).sum:=by
    rw[Vb,hct,Vb];omega
   have hle:(d.take m).sum+g*x / c.sum<=g:=by
    have h1:g*(c.take (m+1)).sum<=g*c.sum:=Tr (by omega) (by omega);have h2:c.sum*((d.take m).sum+g*x / c.sum)<=c.sum*g:=(by rw[Ur c.sum g];omega);exact VM h2 (by omega)
   refine⟨by simp [hdl],fun y hy=>?_,?_,by dsimp only;rw[dt];exact hle,by dsimp only;rw[dt];exact hs2,by dsimp only;omega⟩
   ·rcases Tq hy with h|h
    ·exact hd0 y h
    ·omega
   ·rw[<- hdd',List.drop_set_of_lt (by omega)]
  ·rw[SO hx];have x0:x=0:=(by omega);have dt:(d.take (m+1)).sum=(d.take m).sum:=(by rw[aO hdx,x0];simp);rw[x0,UA]at hct;exact⟨hdl,hd0,hdd',by dsimp only;rw[dt];exact hdg,by dsimp only;rw[dt,hct];exact hds,hla⟩
theorem PK {g:Int}{n:Nat}(hg:1<=g)(hn:1<=n)(bs:List Int)(from':Int):jk g n (mH g n bs from'):=by
 have hw:=Di n bs from';have I:=Dl (g:=g) (c:=wF n bs from') hg (fun x hx=>(PJ n bs from' x hx).1) (by omega) n (by omega);unfold mH;generalize iM g (wF n bs from') n=st at *
 obtain⟨d,last⟩:=st;obtain⟨hdl,hd0,hdd,hdg,hds,hla⟩:=I;dsimp only at hdl hd0 hdd hdg hds hla ⊢;obtain⟨y,hy⟩:=get_of_lt (l:=d) (i:=last) (by omega);have y0:=hd0 y (SK hy);rw[bq hy];rw[SP (by omega)]at hdg;have hs:(d.set last (y+(g - d.sum))).sum=g:=by rw[Dh hy];omega
 have h0:∀ w∈d.set last (y+(g - d.sum)),0<=w:=fun w hw=>by
  rcases Tq hw with h|h
  ·exact hd0 w h
  ·omega
 exact⟨by simp [hdl,hw],fun w hw=>⟨h0 w hw,by have:=zn h0 w hw;omega⟩,hs⟩
set_option maxHeartbeats 2000000 in
theorem PL (g:Int)(n:Nat)(hg:1<=g/\g<=60)(hn:1<=n/\n<=4)(bs:List Int)(hbl:(bs.length:Int)<2 ^ 63)(hb8:∀ x∈bs,U8 x)(from':Int)(hf:0<=from'/\from'<=1000000)(H:AHeap)(K:ARes->AHeap->Prop)(hK:∀ v H',Over H H'->aA H.next H' 3 v (ints (mH g n bs from'))->K (.ret v) H'):
  ae Tryz.prog G0 101 [aa g,aa n,.vec bs.length (bn bs),aa from'] H K:=by
 refine ae.clo ⟨_,Tryz.func101,rfl,rfl⟩ fun hcl=>?_;refine ae.aZ (n:=84) (rs:=[.tmp 8]) Tryz.func101 rfl rfl rfl (by decide) (by kernel_rfl) (by simp) ?_;simp only[go_sem];refine⟨by omega,?_⟩;refine W.aL 35184371960832 (by rfl) (fun ρ H'=>∃ (k:Nat) (c:List Int),ρ 11=aa k/\k<=n/\c.length=n/\(∀ x∈c,0<=x/\x<=7)/\(∀ j x,k<=j->c[j]?=some x->x=0)/\(∀ j,j<k->c[j]?=(wF n bs from')[j]?)/\ρ 10=aa c.sum/\OwnI H H' H.next c) (fun ρ H=>n - (iv (ρ 11)).toNat) ?_ ?_
 ·simp only[go_sem];refine⟨0,List.replicate n 0,rfl,by omega,by simp,fun x hx=>?_,fun j x _ hx=>?_,fun j hj=>by omega,by simp,?_⟩
  ·have:=Tz hx;omega
  ·exact Tz (SK hx)
  ·exact .new [] _
 rintro ρ H' ⟨k,c,h11,hk,hcl',hc7,hc0,hcw,h10,ho⟩;refine W.en (fun E=>E 0=aa g /\ E 1=aa n /\ E 2=.vec bs.length (bn bs) /\ E 3=aa from' /\ E 9=.own H.next 0 0 n 1 /\ E 10=aa c.sum /\ E 11=aa k) (by simp only[go_sem,h10,h11]) fun E ⟨e0,e1,e2,e3,e9,e10,e11⟩=>?_
 refine W.vs ?_;have lN:=ho.live;have hs0:=nM fun x hx=>(hc7 x hx).1;have hs1:=PI hc7;by_cases hb:(k:Int)<n
 ·have hck:c[k]?=some 0:=by
   obtain⟨a,ha⟩:=get_of_lt (l:=c) (i:=k) (by omega);rw[ha,hc0 k a (Nat.le_refl _) ha]
  have hcne:=aK hck;have hk0:(k:Int) >= 0:=by omega
  have w1:=SM ((k:Int)+1) (by omega);by_cases hz:(0:Int)<bs.length
  ·have hzn:¬ (bs.length:Int)=0:=(by omega);have w2:=SM (from'+k) (by omega);have m1:(from'+(k:Int)).tmod bs.length=(from'+k) % bs.length:=Tj (by omega);have m2:=Ue (from'+k) hzn;have m3:=T7 (from'+k) hz;obtain⟨q,hq⟩:=S2 m2;have hq0:(q:Int) >= 0:=(by omega);have hql:(q:Int)<bs.length:=(by omega);obtain⟨b,hbg⟩:=get_of_lt (l:=bs) (i:=q) (by omega);have b8:=hb8 b (SK hbg);have hbg':=rF hbg;have hbne:=aK hbg';have t1:b.tmod 8=b % 8:=Tj b8.1;have w3:IntKind.u8.wrap (b % 8)=b % 8:=VP _ (by omega);have w4:IntKind.i64.wrap (b % 8)=b % 8:=SM _ (by omega);have w5:=SM (c.sum+b % 8) (by omega);have hsg:(setAt (ints c) k [.lit (.int .i64 (b % 8))])[k]?=some (.lit (.int .i64 (b % 8))):=by
    rw[gD (by omega),gJ,S1 (by omega)];rfl
   simp only[go_sem,hsg,e1,e2,e3,e9,e10,e11,hb,hz,hzn,w1,w2,m1,hq,hq0,hql,hbg',hbne,t1,w4,w5,hk0,lN];refine⟨by omega,by have:=ho.hi;rw[aw];omega,⟨k+1,c.set k (b % 8),rfl,by omega,by simp [hcl'],fun x hx=>?_,fun j x hj hx=>?_,fun j hj=>?_,by rw[Dh hck,Int.sub_zero],ho.store (by omega) _⟩,by rw[h11];simp only[aa,aQ];omega⟩
   ·rcases Tq hx with h|h
    ·exact hc7 x h
    ·omega
   ·rw[Tb (by omega)]at hx;exact hc0 j x (by omega) hx
   ·by_cases hjk:j=k
    ·subst hjk;rw[S1 (by omega),Dj bs from' (by omega),SO (by omega),hq,Int.toNat_natCast,bq hbg]
    ·rw[Tb (by omega)];exact hcw j (by omega)
  ·have w5:=SM (c.sum+0) (by omega);rw[UA]at w5;simp only[go_sem,e1,e2,e9,e10,e11,hb,hz,w1,w5,UA,hk0,hck,lN];refine⟨by have:=ho.hi;omega,⟨k+1,c,rfl,by omega,hcl',hc7,fun j x hj hx=>hc0 j x (by omega) hx,fun j hj=>by
    by_cases hjk:j=k
    ·subst hjk;rw[hck,Dj bs from' (by omega),SQ (by omega)]
    ·exact hcw j (by omega),rfl,ho⟩,by rw[h11];simp only[aa,aQ];omega⟩
 ·obtain rfl:k=n:=by omega
  simp only[go_sem,e1,e11,hb];have hcwF:c=wF k bs from':=by
   apply Tk;intro j;rcases Te j k with h|h
   ·exact hcw j h
   ·rw[SV (by omega),SV (by rw[Di];exact h)]
  have hRI:=fun m (hm:m<=k)=>Dl (g:=g) (c:=c) hg.1 (fun x hx=>(hc7 x hx).1) (by omega) m (by omega);refine W.aL 18889465861109836705792 (by rfl) (fun ρ H2=>∃ (m last:Nat) (d:List Int),ρ 14=aa m/\m<=k/\iM g c m=(d,last)/\ρ 12=aa (g - (d.take m).sum)/\ρ 13=aa last/\H'.next<=H2.next/\OwnI H H2 H.next d) (fun ρ H=>k - (iv (ρ 14)).toNat) ?_ ?_
  ·simp only[go_sem,e0];exact⟨0,0,c,rfl,by omega,rfl,by simp,rfl,ho⟩
  rintro ρ2 H2 ⟨m,last,d,h14,hm,hrf,h12,h13,hnn,hod⟩;obtain⟨hdl,hd0,hdd,hdg,hds,hlast⟩:RInv g c m d last:=by have:=hRI m hm;rw[hrf]at this;exact this
  rw[hcl']at hdl hlast;have hrs:=Dk g c m;rw[hrf]at hrs;unfold uX at hrs;dsimp only at hrs;refine W.en (fun E2=>E2 0=aa g /\ E2 1=aa k /\ E2 9=.own H.next 0 0 k 1 /\ E2 10=aa c.sum /\ E2 12=aa (g - (d.take m).sum) /\ E2 13=aa last /\ E2 14=aa m) (by simp only[go_sem,e0,e1,e9,e10,h12,h13,h14]) fun E2 ⟨f0,f1,f9,f10,f12,f13,f14⟩=>?_
  refine W.vs ?_;have lN2:=hod.live;by_cases hb2:(m:Int)<k
  ·obtain⟨x,hcx⟩:=get_of_lt (l:=c) (i:=m) (by omega);have hx7:=hc7 x (SK hcx);have hdx:d[m]?=some x:=by
    have h1:(d.drop m)[0]?=d[m]?:=(by rw[T6];rfl);have h2:(c.drop m)[0]?=c[m]?:=(by rw[T6];rfl);rw[<- h1,hdd,h2,hcx]
   have hdne:=aK hdx;have hm0:(m:Int) >= 0:=(by omega);have w1:=SM ((m:Int)+1) (by omega);have hdd':d.drop (m+1)=c.drop (m+1):=by
    have:=congrArg (List.drop 1) hdd
    rwa [UF,UF]at this
   have hct:(c.take (m+1)).sum=(c.take m).sum+x:=(by rw[aO hcx];simp);have hcs:(c.take (m+1)).sum+(c.drop (m+1)).sum=c.sum:=(by rw[<- Vi,Tu]);have hcd0:=nM (l:=c.drop (m+1)) fun y hy=>(hc7 y (T8 hy)).1;have hc00:=nM (l:=c.take m) fun y hy=>(hc7 y (Tg hy)).1;have hd00:=nM (l:=d.take m) fun y hy=>hd0 y (Tg hy);by_cases hx:0<x
   ·have hsz:¬ c.sum=0:=(by omega);have gx:0<=g*x:=Us (by omega) hx7.1;have gx2:g*x<=60*7:=Uc hg.2 hx7.2 hx7.1 (by omega);have w2:=SM (g*x) (by omega);have t1:(g*x).tdiv c.sum=g*x / c.sum:=VK gx;have y0:0<=g*x / c.sum:=Vm gx hs0;have y1:g*x / c.sum<=g*x:=VF _ gx;have y2:c.sum*(g*x / c.sum)<=g*x:=V2 (by omega);have w3:=SM (g*x / c.sum) (by omega);have w4:=SM (g - (d.take m).sum - g*x / c.sum) (by omega);have hsg:(setAt (ints d) m [.lit (.int .i64 (g*x / c.sum))])[m]?=some (.lit (.int .i64 (g*x / c.sum))):=by
     rw[gD (by omega),gJ,S1 (by omega)];rfl
    have dt:((d.set m (g*x / c.sum)).take (m+1)).sum=(d.take m).sum+g*x / c.sum:=by
     rw[aO (S1 (by omega)),U2 (Nat.le_refl _)];simp
    have hs2:c.sum*((d.take m).sum+g*x / c.sum)<=g*(c.take (m+1)).sum:=by
     rw[Vb,hct,Vb];omega
    have hle:(d.take m).sum+g*x / c.sum<=g:=by
     have h1:g*(c.take (m+1)).sum<=g*c.sum:=Tr (by omega) (by omega);have h2:c.sum*((d.take m).sum+g*x / c.sum)<=c.sum*g:=(by rw[Ur c.sum g];omega);exact VM h2 (by omega)
    simp only[go_sem,hsg,f0,f1,f9,f10,f12,f13,f14,hb2,hx,hsz,w1,w2,t1,w3,w4,hm0,hdx,lN2];rw[bq hdx,SQ hx]at hrs;exact⟨by omega,by rw[aw];exact hnn,⟨m+1,m,d.set m (g*x / c.sum),rfl,by omega,hrs,by rw[dt];congr 2;omega,rfl,by rw[aw];exact hnn,hod.store (by omega) _⟩,by rw[h14];simp only[aa,aQ];omega⟩
   ·have x0:x=0:=(by omega);have w4:=SM (g - (d.take m).sum) (by omega);simp only[go_sem,f1,f9,f12,f13,f14,hb2,x0,w1,w4,hm0,hdx,Int.sub_zero,lN2];have dt:(d.take (m+1)).sum=(d.take m).sum:=(by rw[aO hdx,x0];simp);rw[x0,UA]at hct;rw[bq hdx,SO hx]at hrs;exact⟨hnn,⟨m+1,last,d,rfl,by omega,hrs,by rw[dt],rfl,hnn,hod⟩,by rw[h14];simp only[aa,aQ];omega⟩
  ·obtain rfl:m=k:=(by omega);obtain⟨y,hy⟩:=get_of_lt (l:=d) (i:=last) (by omega);have hyne:=aK hy;have hl0:(last:Int) >= 0:=(by omega);have hlk:(last:Int)<m:=(by omega);have y0:=hd0 y (SK hy);rw[SP (by omega)]at hdg hds h12 f12;have hyle:=zn hd0 y (SK hy);have w1:=SM (y+(g - d.sum)) (by omega);have hle:last+1<=d.length:=(by omega);simp only[go_sem,f1,f9,f12,f13,f14,hb2,hl0,hlk,hy,lN2,w1];refine⟨hle,?_⟩;have hrow:mH g m bs from'=d.set last (y+(g - d.sum)):=by
    unfold mH;rw[<- hcwF,hrf];dsimp only;rw[bq hy]
   rw[hrow]at hK;have ho2:=hod.store (k:=last) (by omega) (y+(g - d.sum));refine ay.mk ho2.ov.next (hK _ _ ho2.ov (.inr ⟨_,0,ho2.lo,ho2.hi,?_,ho2.get⟩));rw[aP,SU,hdl]
structure DrP where
 card:Int
 par:Int
 w:List Int
def DrP.cells (x:DrP):List AVal:=[.lit (.int .u8 x.card),.lit (.int .u8 x.par),.vec x.w.length (bn x.w)]
def dY (l:List DrP):List AVal:=(l.map DrP.cells).flatten
def DrP.Ok (x:DrP):Prop:=U8 x.card/\U8 x.par/\(x.w.length:Int)<2 ^ 63/\∀ b∈x.w,U8 b
def u7 (g:Int)(ps:List DrP)(ord:List Int):AVal:=.agg [.lit (.int .u8 g),.vec ps.length (dY ps),.vec ord.length (bn ord)]
theorem DA {l:List DrP}{i:Nat}{x:DrP}(h:l[i]?=some x):((dY l).drop (i*3)).take 3=[.lit (.int .u8 x.card),.lit (.int .u8 x.par),.vec x.w.length (bn x.w)]:=my (f:=DrP.cells) (z:=3) (fun _=>rfl) l i x h
theorem DB (l:List DrP):(dY l).length=l.length*3:=kC (f:=DrP.cells) (fun _=>rfl) l
def NodeP.cC (x:NodeP):List AVal:=if x.rows=[] then [aa x.card,.lit (.slice none 0 0),.lit (.slice none 0 0)] else [aa x.card,af x.parents,ah x.rows]
def bG (l:List NodeP):List AVal:=(l.map NodeP.cC).flatten
theorem jT (x:NodeP):x.cC.length=3:=by unfold NodeP.cC;split<;>rfl
theorem DC (l:List NodeP):(bG l).length=l.length*3:=kC (f:=NodeP.cC) jT l
theorem DD {l:List NodeP}{i:Nat}{x:NodeP}(h:l[i]?=some x):(bG l)[i*3]?=some (aa x.card):=by
 have:=gS (f:=NodeP.cC) (z:=3) jT l i 0 x h (by omega);rw[Nat.add_zero]at this;rw[show (bG l)[i*3]?=_ from this];unfold NodeP.cC;split<;>rfl
theorem P7 {l:List NodeP}(h:∀ x∈l,x.rows≠[]):bG l=aG l:=by
 unfold bG aG;congr 1;exact Ti fun x hx=>SO (h x hx)
theorem u9 {α:Type}{f:α->List AVal}{z:Nat}(hz:∀ a,(f a).length=z):∀ (l:List α) (i:Nat) (a:α),i<l.length->((l.set i a).map f).flatten=((l.map f).flatten).take (i*z)++f a++((l.map f).flatten).drop (i*z+z):=by
 intro l
 induction l with
 | nil=>intro i a h;simp at h
 | cons b l ih =>
  intro i a h;cases i with
  | zero=>simp [hz]
  | succ i =>
   have hb:=hz b;simp only[List.set_cons_succ,List.map_cons,List.flatten_cons];rw[ih i a (by simpa using h),show (i+1)*z=z+i*z by rw[T3];omega,List.take_append,List.drop_append,hb];rw[SP (l:=f b) (i:=z+i*z) (by omega),VT (l:=f b) (i:=z+i*z+z) (by omega),show z+i*z - z=i*z by omega,show z+i*z+z - z=i*z+z by omega];simp
theorem DE {S:Nat->Prop}{H:AHeap}{nx:Nat}{A B:List AVal}{i:Nat}{a b:AVal}(h:∀ j (h:j<A.length) (h':j<B.length),Fz S H nx A[j] B[j])(hab:Fz S H nx a b):∀ j (h:j<(A.set i a).length) (h':j<(B.set i b).length),Fz S H nx (A.set i a)[j] (B.set i b)[j]:=by
 intro j h1 h2;rw[UD,UD];split
 ·exact hab
 ·exact h j (by simpa using h1) (by simpa using h2)
theorem yX {S:Nat->Prop}{H:AHeap}{nx:Nat}(l:List (List Int)):Fz S H nx (ah l) (ah l):=.vec rfl fun i hi _=>by simp only[S4];exact .dq _
theorem P8 {S:Nat->Prop}{H:AHeap}{nx:Nat}(x:NodeP):∀ c∈x.cC,Fz S H nx c c:=by
 intro c hc;unfold NodeP.cC at hc;split at hc
 ·simp only[List.mem_cons,List.not_mem_nil,or_false]at hc;rcases hc with rfl|rfl|rfl<;>exact .lit _
 ·simp only[List.mem_cons,List.not_mem_nil,or_false]at hc;rcases hc with rfl|rfl|rfl
  ·exact .lit _
  ·exact .dq _
  ·exact yX _
theorem DF {S:Nat->Prop}{H:AHeap}{nx:Nat}(l:List NodeP):∀ c∈bG l,Fz S H nx c c:=by
 intro c hc;unfold bG at hc;obtain⟨r,hr,hc⟩:=UT.1 hc;obtain⟨x,_,rfl⟩:=S9.1 hr;exact P8 x c hc
theorem P9 {S:Nat->Prop}{H:AHeap}{nx:Nat}:∀ (l:List NodeP),(∀ x∈l,x.rows=[]->x.parents=[])->∀ (i:Nat) (h:i<(bG l).length) (h':i<(aG l).length),Fz S H nx (bG l)[i] (aG l)[i]:=by
 intro l
 induction l with
 | nil=>intro _ i h;simp [bG]at h
 | cons x l ih =>
  intro hx i h h';have e1:bG (x :: l)=x.cC++bG l:=by simp [bG]
  have e2:aG (x :: l)=x.cells++aG l:=by simp [aG]
  have l1:=jT x;have l2:x.cells.length=3:=rfl;have hc:∀ (i:Nat) (h:i<x.cC.length) (h':i<x.cells.length),Fz S H nx x.cC[i] x.cells[i]:=by
   intro i h h';by_cases hr:x.rows=[]
   ·have hp:=hx x (by simp) hr;have ez:x.cC=[aa x.card,.lit (.slice none 0 0),.lit (.slice none 0 0)]:=SQ hr;have ec:x.cells=[aa x.card,af [],ah []]:=(by unfold NodeP.cells;rw[hr,hp]);simp only[ez,ec]
    match i,h' with
    | 0,_=>exact .lit _
    | 1,_=>exact .nil
    | 2,_=>exact .nil
   ·have ez:x.cC=x.cells:=SO hr;simp only[ez]
    match i,h' with
    | 0,_=>exact .lit _
    | 1,_=>exact .dq _
    | 2,_=>exact yX _
  simp only[e1,e2];by_cases hi:i<3
  ·rw[TK (by omega),TK (by omega)];exact hc i (by omega) (by omega)
  ·rw[TM (by omega),TM (by omega)];simp only[l1,l2];exact ih (fun y hy=>hx y (by simp [hy])) (i - 3) _ _
theorem Qa {l:List NodeP}{i:Nat}{x y:NodeP}(h:l[i]?=some x)(hy:y.card=x.card):aG (l.set i y)=((aG l).set (i*3+1) (af y.parents)).set (i*3+2) (ah y.rows):=by
 have hl:=get_lt h;have h1:=u9 (f:=NodeP.cells) (z:=3) (fun _=>rfl) l i y hl;have h2:=my (f:=NodeP.cells) (z:=3) (fun _=>rfl) l i x h;unfold aG;rw[h1];have h3:(l.map NodeP.cells).flatten=((l.map NodeP.cells).flatten).take (i*3)++(x.cells++((l.map NodeP.cells).flatten).drop (i*3+3)):=by
  rw[<- h2,<- UF,Tu,Tu]
 have hlen:(((l.map NodeP.cells).flatten).take (i*3)).length=i*3:=by
  rw[SX,kC (f:=NodeP.cells) (z:=3) (fun _=>rfl)];omega
 conv=>rhs;rw[h3]
 rw[Tv _ _ (by omega),Tv _ _ (by omega),hlen,show i*3+1 - i*3=1 by omega,show i*3+2 - i*3=2 by omega];unfold NodeP.cells;simp [hy]
theorem va {lo:Nat}{H:AHeap}{e:TypeId}{v:AVal}{cs:List AVal}(h:aA lo H e v cs){d:Option TypeDesc}{t:TypeId}(hd:d=some (.slice t)):qK d H v=some (.lit (.int .i64 cs.length)):=by
 subst hd;rcases h with ⟨rfl,rfl⟩|⟨id,g,_,_,rfl,h4⟩
 ·rfl
 ·rw[o7,Bq,ag h4];rfl
theorem Qb (l p:List Int)(hl:(l.length:Int)<2 ^ 40)(hp:(p.length:Int)<2 ^ 39)(hin:∀ q∈p,0<=q/\q<l.length)(H:AHeap)(K:ARes->AHeap->Prop)(hK:∀ v H',Over H H'->aA H.next H' 3 v (ints (aF l p))->K (.ret v) H'):ae Tryz.prog G0 77 [af l,af p] H K:=by
 refine ae.clo ⟨_,Tryz.func77,rfl,rfl⟩ fun hcl=>?_;refine ae.aZ (n:=24) (rs:=[.tmp 4]) Tryz.func77 rfl rfl rfl (by decide) (by kernel_rfl) (by simp) ?_;simp only[go_sem];refine W.aL 8388576 (by rfl) (fun ρ H'=>∃ k:Nat,ρ 6=aa k/\k<=p.length/\Over H H'/\aA H.next H' 3 (ρ 5) (ints (aF l (p.take k)))) (fun ρ H=>p.length - (iv (ρ 6)).toNat) ?_ ?_
 ·simp only[go_sem];exact⟨0,rfl,by omega,.refl _,.nil⟩
 rintro ρ H' ⟨k,h6,hk,ov,h5⟩;refine W.vs ?_;by_cases hb:(k:Int)<p.length
 ·obtain⟨q,hq⟩:=get_of_lt (l:=p) (i:=k) (by omega);obtain⟨j,rfl,a,ha⟩:=lu (hin q (SK hq)).1 (hin q (SK hq)).2;have hne:=aK hq;have hne2:=aK ha;have hj:=get_lt ha;have hj':(j:Int)<l.length:=by omega
  obtain⟨v',H2,hA,ov2,hO,hn2,_⟩:=iQ a ov h5 (by simp [aF];omega);have w1:=SM ((k:Int)+1) (by omega);simp only[go_sem,h6,hb,hq,hne,ha,hne2,hj',w1,hA];refine⟨by have:=ov2.next;omega,⟨k+1,by simp,by omega,ov2,?_⟩,by omega⟩;rw[D0 hq,Int.toNat_natCast,bq ha];exact hO
 ·simp only[go_sem,h6,hb];rw[SP (by omega)]at h5;exact ay.mk ov.next (hK _ _ ov h5)
theorem Qc (g:Int)(ns:List NodeP)(v:Nat)(x:NodeP)(hx:ns[v]?=some x)(hl:(ns.length:Int)<2 ^ 39)(hp:(x.parents.length:Int)<2 ^ 39)(hin:eR x.parents ns.length)(H:AHeap)(K:ARes->AHeap->Prop)
  (hK:∀ v H',Over H H'->aA H.next H' 3 v (ints (aH ns x))->K (.ret v) H'):ae Tryz.prog G0 76 [bJ g ns,aa v] H K:=by
 refine ae.clo ⟨_,Tryz.func76,rfl,rfl⟩ fun hcl=>?_;have hne:=dC hx;have e1:=je hx;have hv:(v:Int)<ns.length:=by have:=get_lt hx;omega
 refine ae.aZ (n:=14) (rs:=[.tmp 4]) Tryz.func76 rfl rfl rfl (by decide) (by kernel_rfl) (by simp) ?_;simp only[go_sem,bJ,cj];refine W.draw 8 [0,1,0,4,0,28,60,124] Tryz.mixed (by kernel_rfl) (by kernel_rfl) ?_;simp only[go_sem];refine⟨af (ao ns),[],bO.pure fun H2=>pT g ns hl H2 _ ⟨rfl,rfl⟩,?_⟩;simp only[go_sem,hv,hne,e1];refine aB.clo (Qb (ao ns) x.parents (by rw[cM];omega) hp (by rw[cM];exact hin) _ _ fun w H3 ov ho=>⟨trivial,?_⟩);simp only[go_sem];have o1:Over H H3:=(Over.ext _ _).trans ov;exact ay.mk o1.next (hK _ _ o1 (ho.keep (by simp [bI]) (Nat.le_refl _) fun _ _ _ _ _ _=>rfl))
theorem DG {ns:List NodeP}{P:List Int}(hP:IsPerm ns.length P)(hall:∀ v:Nat,v<ns.length->(v:Int)∈P)(hr:∀ (j v:Nat) (x:NodeP),P[j]?=some (v:Int)->ns[v]?=some x->∀ q∈x.parents,0<=q/\∃ k,k<j/\P[k]?=some q):lC (aY ns):=by
 intro v hv;have hl:(aY ns).length=ns.length:=by simp [aY]
 rw[hl]at hv;obtain⟨j,hj⟩:=S8.1 (hall v hv);have h0:∀ p∈P.take j,0<=p:=fun p hp=>(hP.rng p (Tg hp)).1;have sub:∀ (k u:Nat) (x:NodeP),k<=j->P[k]?=some (u:Int)->ns[u]?=some x->Sub ((aY ns).getD u 0) (cB (P.take j)):=fun k u x hk hu hx i hi=>by
  rw[bq (lQ hx)]at hi;have hp0:∀ p∈x.parents,0<=p:=fun p hp=>(hr k u x hu hx p hp).1;rw[mA hp0]at hi;obtain⟨_,k',hk',hq⟩:=hr k u x hu hx _ (of_decide_eq_true hi);rw[mA h0];refine T1 ?_;exact S8.2 ⟨k',by rw[Ts (by omega)];exact hq⟩
 have hcl:mB (aY ns) (cB (P.take j)):=fun u hu ht=>by
  rw[hl]at hu;rw[mA h0]at ht;obtain⟨k,hk⟩:=S8.1 (of_decide_eq_true ht);have hkl:=get_lt hk;rw[SX]at hkl;rw[Ts (by omega)]at hk;obtain⟨x,hx⟩:=get_of_lt hu;exact sub k u x (by omega) hk hx
 obtain⟨x,hx⟩:=get_of_lt hv;have h1:=uM hcl (aY ns).length (sub j v x (Nat.le_refl _) hj hx);cases hb:(gj (aY ns) ((aY ns).getD v 0)).testBit v with
 | false=>rfl
 | true =>
  exfalso;have h2:=h1 v hb;rw[mA h0]at h2;obtain⟨k,hk⟩:=S8.1 (of_decide_eq_true h2);have hkl:=get_lt hk;rw[SX]at hkl;rw[Ts (by omega)]at hk;have e:P[k]?=P[j]?:=by rw[hk,hj]
  have:=(Uh (get_lt hk) hP.nd).1 e;omega
end Go.Proofs
