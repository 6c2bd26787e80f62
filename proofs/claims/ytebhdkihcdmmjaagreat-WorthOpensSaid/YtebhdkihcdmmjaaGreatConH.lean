/- Own work: contracts. -/
import Derived.Test.YtebhdkihcdmmjaaGreatConG
import Derived.Test.YtebhdkihcdmmjaaGreatConF
import Derived.Test.YtebhdkihcdmmjaaGreatConC
import Derived.Test.YtebhdkihcdmmjaaGreatConB
import Derived.Test.YtebhdkihcdmmjaaGreatConA
import Derived.Test.YtebhdkihcdmmjaaGreatConD
import Derived.Test.YtebhdkihcdmmjaaGreatConE
import Derived.Test.YtebhdkihcdmmjaaGreatLibC
set_option linter.all false
set_option maxHeartbeats 8000000
set_option maxRecDepth 100000
namespace Go.Hx
variable {P:Program} {G:Nat->Option (List nnn)} {all:Array Oper} {tail:St->Prop} {b i:Nat} {bs:List Nat} {acc:List (Nat × FP)} {K:FP->St->Prop} {s:St} {d:Option Tmp} {ty:TypeId} {pos:String} {aft:Array Edge} {g:Option (Nat × Bool)}
def Ug (t:TypeId)(x y:Operand):Ev.bA P G ⟨d,.indexAddr t x y,ty,pos,aft,g⟩ K s=bA P G ⟨d,.indexAddr t x y,ty,pos,aft,g⟩ K s:=rfl
end Go.Hx
namespace Go.Proofs
open Go.Hx Tryz
variable {l:List Int}{r:List Nat}{M M' S a c i n u v w:Nat}{x:nna}{d d':nnb}
def FK (w w5 a r:Int)(d:nnb)(x:nna):Prop:=w % 8<4/\HoleAt w5 r d.F (a % (d.F.length:Int)).toNat x/\d.nl.testBit (a % (d.F.length:Int)).toNat=true
def tf (a:Int)(d:nnb)(x:nna)(id g:Nat):nnn:=bH d (aT d.F (a % (d.F.length:Int)).toNat (aa x.Q) (ah x.J) (.Z id g 0 0 1))
def wH (l:List Int):Ids (fun _=>False) (ah l):=by
 refine .L fun i h=>?_;simp only[ints,Xi,aa];exact .lit _
def Uh (x:nna):Ids (fun _=>False) (aR x):=by
 unfold aR;split
 ·exact .lit _
 ·refine .L fun i h=>?_;simp only[Xi];exact wH _
def Ui (ns:List nna)(i:Nat)(h:i<(aP ns).length):Ids (fun _=>False) (aP ns)[i]:=by
 have hb:i / 3<ns.length:=by rw[fa]at h;omega
 obtain⟨x,hx⟩:=get_of_lt hb;have hp:i=(i / 3)*3+i % 3:=U
 have g1:(aP ns)[i]?=some (aP ns)[i]:=W5 h;generalize (aP ns)[i]=u at g1 ⊢;have c3:i % 3=0\/i % 3=1\/i % 3=2:=U
 rcases c3 with c|c|c
 ·rw[hp,c,Nat.add_zero,iR hx]at g1;cases g1;exact .lit _
 ·rw[hp,c,jn hx]at g1;cases g1;exact wH _
 ·rw[hp,c,ka hx]at g1;cases g1;exact Uh _
def Uj (a:Int)(d:nnb)(x:nna)(hA:(a % (d.F.length:Int)).toNat<d.F.length)(id g id' g':Nat):nnN id g id' g' (tf a d x id g) (tf a d x id' g'):=by
 refine .agg rfl fun i hi _=>?_
 match i,hi with
 |0,_=>exact .same (.lit _)
 |1,_ =>
  refine .L (by rw[dV,dV]) fun j h1 h2=>?_;generalize (a % (d.F.length:Int)).toNat=A at hA h1 h2 ⊢;have e1:=W5 h1;have e2:=W5 h2;generalize (aT d.F A (aa x.Q) (ah x.J) (.Z id g 0 0 1))[j]=u at e1 ⊢;generalize (aT d.F A (aa x.Q) (ah x.J) (.Z id' g' 0 0 1))[j]=v at e2 ⊢;by_cases c0:j=A*3
  ·rw[c0,oz hA]at e1 e2;cases e1;cases e2;exact .same (.lit _)
  by_cases c1:j=A*3+1
  ·rw[c1,qJ hA]at e1 e2;cases e1;cases e2;exact .same (wH _)
  by_cases c2:j=A*3+2
  ·rw[c2,lU hA]at e1 e2;cases e1;cases e2;exact .hole
  rw[kT c0 c1 c2]at e1 e2;rw[e1]at e2;cases e2;have hl:j<(aP d.F).length:=by rw[fa];rw[dV]at h1;exact h1
  rw[W5 hl]at e1;cases e1;exact .same (Ui _ _ hl)
 |2,_=>exact .same (.lit _)
 |3,_ =>
  refine .same (.L fun j h=>?_);have hm:=XA h;generalize (aH d.V)[j]=c at hm;unfold aH at hm;obtain⟨r,hr,hc⟩:=Y2.1 hm;obtain⟨x,_,rfl⟩:=Xx.1 hr;unfold nni.cells at hc;simp only[List.mem_cons,List.not_mem_nil,or_false]at hc;rcases hc with rfl|rfl<;>exact wH _
def tg (a:Int)(d:nnb)(x:nna):nnb:=⟨d.nn,d.F.set (a % (d.F.length:Int)).toNat { x with X:=[] },d.nl,d.V⟩
def Uk (a:Int)(d:nnb)(x:nna)(id g:Nat):tf a d x id g=bH (tg a d x) (aT d.F (a % (d.F.length:Int)).toNat (aa x.Q) (ah x.J) (.Z id g 0 0 1)):=by
 have e:(tg a d x).F.length=d.F.length:=Xb ..;unfold tf;rw[fg,fg];unfold eN;rw[e];rfl
def Ul {w w5 a r:Int}(h:FK w w5 a r d x)(hf:nnm d)(hc:1<=x.Q/\x.Q<=4)(id:Nat):
  nnm (tg a d x)/\HolY id (tg a d x) (aT d.F (a % (d.F.length:Int)).toNat (aa x.Q) (ah x.J) (.Z id 0 0 0 1)) (a % (d.F.length:Int)).toNat { x with X:=[] }:=by
 have hA:=get_lt h.2.1.at';refine⟨⟨⟨by show ((d.F.set _ _).length:Int)<_;rw[Xb];exact hf.F.1,fun z hz=>?_⟩,hf.nl,hf.V⟩,⟨Xj hA,rfl,h.2.2,hc,?_⟩⟩
 ·rcases XI hz with h1|rfl
  ·exact hf.F.2 z h1
  ·obtain⟨h1,h2,h3⟩:=hf.F.2 x (an h.2.1.at');exact⟨h1,by show ((([]:List (List Int)).length:Nat):Int)<_;simp,fun r hr=>by cases hr⟩
 ·exact(Uc hA _ _ _).symm
def AO (D:DPr)(k w:Nat):Nat:=if k=0 then 0 else D.br (k-1) w
def FM (D:DPr)(k:Nat):Nat->List Int
 |0=>List.replicate (D.cs k) 0
 |n+1=>(FM D k n).set (D.nJ k n) (AO D k n)
def AP (D:DPr)(k:Nat):Nat->List Bool
 |0=>List.replicate (D.cs k) false
 |n+1=>(AP D k n).set (D.nJ k n) ((AP D k n).getD (D.nJ k n) false ||decide (0<D.wt n))
def wI (D:DPr)(k:Nat):Nat->List Int
 |0=>List.replicate (D.cs k*D.cd k) 0
 |n+1=>if k+1=D.K then (wI D k n).set (D.br k n) ((wI D k n).getD (D.br k n) 0+D.nE n) else wI D k n
def AQ {α:Type}(l:List α)(i j:Nat)(a d:α)(hi:i<l.length):(l.set i a).getD j d=if i=j then a else l.getD j d:=by
 rw[Xh,Xh,YZ];by_cases h:i=j
 ·subst h;rw[W8 rfl,W8 hi,W8 rfl];rfl
 ·rw[W7 h,W7 h]
structure DPr.Rec (D:DPr):Prop where
 up:∀k w w',k<D.K->w<D.N->w'<D.N->D.nJ k w=D.nJ k w'->AO D k w=AO D k w'
def Uq (D:DPr)(ch:Ch):Prop:=∀k c y,k<D.K->c<D.cs k->ch k c=some y->y<D.cd k
def Ur (D:DPr)(t:nnP)(q:nt):Prop:=q.Ok D/\D.total q=t.T
structure Chosen (D:DPr)(t:nnP)(pos:List (Nat × Nat))(ch:Ch):Prop where
 np:Uq D ch
 fe:Un D t ch
 made:∀k c,(k,c)∈pos->∃y,ch k c=some y
 opn:∀k c,(k,c) ∉ pos->ch k c=none
 lex:∀q:nt,Ur D t q->Um D ch q\/∃(j k c y:Nat),pos[j]?=some (k,c)/\ch k c=some y/\y<q k c/\∀(i k' c' y':Nat),i<j->pos[i]?=some (k',c')->ch k' c'=some y'->y'=q k' c'
structure nnF (d d':nnb):Prop where
 len:d'.F.length=d.F.length
 nl:d'.nl=d.nl
 nn:d'.nn=d.nn
 V:d'.V=d.V
 node:∀v x x',d.F[v]?=some x->d'.F[v]?=some x'->x'.Q=x.Q/\(∀p∈x.J,p∈x'.J)/\(d.nl.testBit v=false->x'=x)
def nnF.ny (h:nnF d d'):aE d'.F=aE d.F:=by
 apply XQ;intro v;unfold aE;rw[List.getElem?_map,List.getElem?_map];rcases Xu v d.F.length with hv|hv
 ·obtain⟨x,hx⟩:=get_of_lt hv;obtain⟨x',hx'⟩:=get_of_lt (l:=d'.F) (i:=v) (by rw[h.len];exact hv);rw[hx,hx',Option.map_some,Option.map_some,(h.node v x x' hx hx').1]
 ·rw[Xf hv,Xf (by rw[h.len];exact hv)]
theorem nnF.wv (h:nnF d d')(w:Nat):wv d' w=wv d w:=by unfold Go.Proofs.wv;rw[h.ny]
theorem nnF.mX (h:nnF d d'):mX d'.F=mX d.F:=by unfold Go.Proofs.mX;rw[h.ny]
theorem nnF.ay (h:nnF d d'):ay d'=ay d:=by unfold Go.Proofs.ay;rw[h.nl,h.len]
def nnF.par (h:nnF d d')(x:nna):aW d'.F x=aW d.F x:=by unfold aW;rw[h.ny]
def nnF.nE (h:nnF d d')(vals:List Int):qZ d' vals=qZ d vals:=by
 have h1:qY d' vals=qY d vals:=by
  unfold qY;rw[h.len];congr 1;refine Yk fun v hv=>?_;have hv:=XJ.1 hv;unfold AC;rw[h.nl,h.nn];cases hb:d.nl.testBit v with
  |true=>rfl
  |false =>
   obtain⟨x,hx⟩:=get_of_lt hv;obtain⟨x',hx'⟩:=get_of_lt (l:=d'.F) (i:=v) (by rw[h.len];exact hv);obtain rfl:=(h.node v x x' hx hx').2.2 hb;rw[W7 aaw,W7 aaw];unfold AB;rw[hx,hx'];simp only;unfold AA;rw[h.par]
 unfold qZ;rw[h1,h.V];congr 1;unfold EZ;congr 1;refine Yk fun u _=>?_;unfold EY;rw[h.ny]
def nnF.row (h:nnF d d')(hok:nnj d)(hok':nnj d')(hv:v∈Go.Proofs.ay d){w':Nat}(e:ke d'.F v (Go.Proofs.wv d w)=ke d'.F v (Go.Proofs.wv d w')):ke d.F v (Go.Proofs.wv d w)=ke d.F v (Go.Proofs.wv d w'):=by
 obtain⟨x,hx⟩:=get_of_lt (cL.1 hv).1;obtain⟨x',hx'⟩:=get_of_lt (l:=d'.F) (i:=v) (by rw[h.len];exact(cL.1 hv).1);have hpx:=(hok.n.dec v x hx (cL.1 hv).2).2;have hpx':=(hok'.n.dec v x' hx' (by rw[h.nl];exact(cL.1 hv).2)).2;have hin':jt x'.J d'.F.length:=fun q hq=>by have:=hpx'.2 q hq;omega
 have hf:=Fb hok' w;have hf':=Fb hok' w';rw[h.wv]at hf hf';have e1:=(Fa hok' hx' hf).1;have e2:=(Fa hok' hx' hf').1;have hat:bb (Go.Proofs.wv d w) x'.J=bb (Go.Proofs.wv d w') x'.J:=Up (AV hin' hf) (AV hin' hf') (by rw[<- e1,<- e2,e]);have hat2:bb (Go.Proofs.wv d w) x.J=bb (Go.Proofs.wv d w') x.J:=Yk fun q hq=>by
  obtain⟨j,hj⟩:=Xg.1 ((h.node v x x' hx hx').2.1 q hq);have a1:=pa (l:=Go.Proofs.wv d w) hj;have a2:=pa (l:=Go.Proofs.wv d w') hj;rw[hat,a2]at a1;exact(Option.some.inj a1).symm
 unfold ke;rw[hx];simp only;rw[hat2]
def D6 (s n:Nat):bB (ct s n) n:=⟨wB s n,fun q hq=>by
 obtain⟨u,rfl,h,_⟩:=kZ.1 hq;omega⟩
def RY {s:Nat}(h:s<2 ^ n):bc (ct s n)=s:=by
 refine X4 fun i=>?_;rw[fU fun p hp=>((D6 s n).2 p hp).1,Yt,X0,kZ];constructor
 ·rintro⟨u,e,_,hu⟩;obtain rfl:i=u:=U
  exact hu
 ·intro hi;refine⟨i,rfl,?_,hi⟩;refine Yu fun hn=>?_;rw[Yf (Xd h (Xq aax hn))]at hi;cases hi
theorem Af:∀ {a b:List Int},a.Pairwise (·<·)->b.Pairwise (·<·)->(∀q,q∈a↔q∈b)->a=b
 | [],b,_,_,h=>by
  cases b with
  |nil=>rfl
  |cons y b=>exact absurd ((h y).2 aaw) (aaw)
 |x :: a,[],_,_,h=>absurd ((h x).1 aaw) (aaw)
 |x :: a,y :: b,ha,hb,h=>by
  rw[Y5]at ha hb;have e:x=y:=by
   rcases List.mem_cons.1 ((h x).1 aaw) with e|hm
   ·exact e
   ·rcases List.mem_cons.1 ((h y).2 aaw) with e|hm'
    ·exact e.symm
    ·have:=hb.1 x hm;have:=ha.1 y hm';omega
  subst e;rw[Af ha.2 hb.2 fun q=>?_];constructor
  ·intro hq;rcases List.mem_cons.1 ((h q).1 (by simp[hq])) with e|hm
   ·have:=ha.1 q hq;omega
   ·exact hm
  ·intro hq;rcases List.mem_cons.1 ((h q).2 (by simp[hq])) with e|hm
   ·have:=hb.1 q hq;omega
   ·exact hm
def D7 (h:bB l n):ct (bc l) n=l:=Af (wB _ _) h.1 fun q=>by
 rw[kZ];constructor
 ·rintro⟨u,rfl,_,hu⟩;rw[fU fun p hp=>(h.2 p hp).1]at hu;exact of_decide_eq_true hu
 ·intro hq;have:=h.2 q hq;refine⟨q.toNat,U,U,?_⟩;rw[fU fun p hp=>(h.2 p hp).1];exact Xy (by rw[ZQ this.1];exact hq)
def gG (r:List Nat)(u v:Nat):Bool:=decide (v∈r/\r.idxOf u<=r.idxOf v)
def gW (n:Nat)(r:List Nat)(u S v:Nat)(x:nna):nna:=if gG r u v=true then { x with J:=ct (bc x.J |||S) n } else x
def bX (d:nnb)(r:List Nat)(u S:Nat):nnb:={ d with F:=d.F.zipIdx.map fun p=>gW d.F.length r u S p.2 p.1 }
def jU (d:nnb)(r:List Nat)(u S:Nat):(bX d r u S).F.length=d.F.length:=by simp[bX]
def sV (h:d.F[v]?=some x):(bX d r u S).F[v]?=some (gW d.F.length r u S v x):=by
 unfold bX;rw[List.getElem?_map,YK,h];simp
def sW (n:Nat)(r:List Nat)(u S v:Nat)(x:nna):(gW n r u S v x).Q=x.Q/\(gW n r u S v x).X=x.X:=by unfold gW;split<;>exact⟨rfl,rfl⟩
def Ag (d:nnb)(r:List Nat)(u S:Nat):aE (bX d r u S).F=aE d.F:=by
 apply XQ;intro v;unfold aE;rw[List.getElem?_map,List.getElem?_map];rcases Xu v d.F.length with hv|hv
 ·obtain⟨x,hx⟩:=get_of_lt hv;rw[hx,sV hx,Option.map_some,Option.map_some,(sW ..).1]
 ·rw[Xf hv,Xf (by rw[jU];exact hv)]
def D8 (d:nnb)(u:Nat):List Nat:=(List.range d.F.length).filter fun v=>!d.nl.testBit v && !(bT (aq d.F) ((aq d.F).getD v 0)).testBit u
def ew (d:nnb)(u:Nat):Nat:=fI (D8 d u)
def qM :(ew d u).testBit i=true↔i<d.F.length/\d.nl.testBit i=false/\(bT (aq d.F) ((aq d.F).getD i 0)).testBit u=false:=by
 unfold ew D8;rw[ld,YX,XJ];simp
def Ah (hS:Sub S (ew d u)):S<2 ^ d.F.length:=s9 fun i hi=>(qM.1 (hS i hi)).1
def eW (ns:List nna):(aq ns).length=ns.length:=by simp[aq]
def lV {ns:List nna}(h:ns[v]?=some x):(aq ns).getD v 0=bc x.J:=by
 rw[Xh,lf h];rfl
def lW (hok:nnj d)(hx:d.F[v]?=some x):bB x.J d.F.length:=by
 have:=(hok.nC.node _ (an (kq (c:=fun _ _=>0) hx))).2;rw[(jm ..).2,js]at this;exact this
def D9 (hok:nnj d):∀p∈aq d.F,p<2 ^ (aq d.F).length:=fun p hp=>by
 obtain⟨x,hx,rfl⟩:=Xx.1 hp;obtain⟨v,hv⟩:=Xg.1 hx;rw[eW];exact kW fun q hq=>(lW hok hv).2 q hq
def Eb (hok:nnj d):jY (aq d.F):=by have:=hok.nC.acyc;rw[AU]at this;exact this
def sX (hok:nnj d)(hv:v<d.F.length):(aq d.F).getD v 0<2 ^ (aq d.F).length:=by
 obtain⟨x,hx⟩:=get_of_lt hv;rw[lV hx,eW];exact kW fun q hq=>(lW hok hx).2 q hq
def vM (hok:nnj d)(hc:c<d.F.length)(ha:a<d.F.length)(h:(bT (aq d.F) ((aq d.F).getD c 0)).testBit a=true):
  Sub (bT (aq d.F) ((aq d.F).getD a 0)) (bT (aq d.F) ((aq d.F).getD c 0)) :=
 have hcl:=Aw (D9 hok) (sX hok hc)
 ng hcl _ (hcl a (by rw[eW];exact ha) h)
def oG (h:((aq d.F).getD c 0).testBit a=true):(bT (aq d.F) ((aq d.F).getD c 0)).testBit a=true:=oL _ _ _ _ h
def vO (hok:nnj d)(hc:c<d.F.length)(h:((aq d.F).getD c 0).testBit a=true):a<d.F.length:=by
 obtain⟨x,hx⟩:=get_of_lt hc;rw[lV hx,fU fun p hp=>((lW hok hx).2 p hp).1]at h;have:=(lW hok hx).2 _ (of_decide_eq_true h);omega
def RZ (hok:nnj d)(hr:nnJ d r)(hu:u∈r)(h:gG r u v=true):v=u\/(bT (aq d.F) ((aq d.F).getD v 0)).testBit u=true:=by
 obtain⟨hv,hi⟩:=of_decide_eq_true h;obtain⟨i,hi1⟩:∃i,i=r.idxOf u:=⟨_,rfl⟩
 obtain⟨j,hj1⟩:∃j,j=r.idxOf v:=⟨_,rfl⟩
 have gu:r[i]?=some u:=by rw[hi1,W5 (aab hu),List.getElem_idxOf]
 have gv:r[j]?=some v:=by rw[hj1,W5 (aab hv),List.getElem_idxOf]
 rw[<- hi1,<- hj1]at hi;rcases Nat.lt_or_eq_of_le hi with hlt|he
 ·right;obtain⟨hm,_,hn,_⟩:=hr.ro j v gv;refine oG ?_;obtain⟨x,hx⟩:=get_of_lt (cL.1 hm).1;have hp:bp d v=bc x.J:=by unfold bp;rw[hx]
  rw[lV hx,<- hp];exact vG hn _ (vI.2 ⟨u,Xg.2 ⟨i,by rw[XC hlt];exact gu⟩,by rw[XB,Yg];simp⟩)
 ·left;rw[he,gv]at gu;exact Option.some.inj gu
def R7 (hx:d.F[v]?=some x)(hlt:bc x.J |||S<2 ^ d.F.length):(aq (bX d r u S).F).getD v 0=if gG r u v=true then (aq d.F).getD v 0 |||S else (aq d.F).getD v 0:=by
 rw[lV (sV hx),lV hx];unfold gW;split
 ·exact RY hlt
 ·rfl
def R8 (hok:nnj d)(hr:nnJ d r)(hu:u∈r)(hS:Sub S (ew d u)):jY (aq (bX d r u S).F):=by
 have hSl:=Ah hS;have hul:u<d.F.length:=(cL.1 (hr.mem u hu)).1;have hub:d.nl.testBit u=true:=(cL.1 (hr.mem u hu)).2;have hn:(aq (bX d r u S).F).length=(aq d.F).length:=by rw[eW,eW,jU]
 have par:∀v,v<d.F.length->(aq (bX d r u S).F).getD v 0=if gG r u v=true then (aq d.F).getD v 0 |||S else (aq d.F).getD v 0:=fun v hv=>by
  obtain⟨x,hx⟩:=get_of_lt hv;have:=sX hok hv;rw[lV hx,eW]at this;exact R7 hx (XV this hSl)
  -- what is not behind the decision
 obtain⟨N,hN⟩:∃N:Nat,∀i,N.testBit i=true↔i<d.F.length/\i≠u/\(bT (aq d.F) ((aq d.F).getD i 0)).testBit u=false :=
  ⟨fI ((List.range d.F.length).filter fun v=>decide (v≠u) && !(bT (aq d.F) ((aq d.F).getD v 0)).testBit u),fun i=>by rw[ld,YX,XJ];simp⟩
 have hSN:Sub S N:=fun i hi=>by
  obtain⟨a,b,c⟩:=qM.1 (hS i hi);exact(hN i).2 ⟨a,fun e=>(by rw[e,hub]at b;cases b),c⟩
 have hNup:∀i,N.testBit i=true->Sub ((aq d.F).getD i 0) N:=fun i hi q hq=>by
  obtain⟨a,b,c⟩:=(hN i).1 hi;have hql:=vO hok a hq;refine(hN q).2 ⟨hql,fun e=>?_,?_⟩
  ·rw[e]at hq;rw[oG hq]at c;cases c
  ·cases hb:(bT (aq d.F) ((aq d.F).getD q 0)).testBit u with
   |false=>rfl
   |true =>
    rw[vM hok a hql (oG hq) u hb]at c;cases c
 have hNno:∀i,N.testBit i=true->gG r u i=false:=fun i hi=>by
  obtain⟨a,b,c⟩:=(hN i).1 hi;cases hl:gG r u i with
  |false=>rfl
  |true =>
   rcases RZ hok hr hu hl with e|e
   ·exact absurd e b
   ·rw[e]at c;cases c
 intro v hv;rw[hn,eW]at hv;have hav:=Eb hok v (by rw[eW];exact hv);have hcl:=Aw (D9 hok) (sX hok hv);have key:∀t:Nat,jZ (aq (bX d r u S).F) t->Sub ((aq (bX d r u S).F).getD v 0) t->t.testBit v=false->(bT (aq (bX d r u S).F) ((aq (bX d r u S).F).getD v 0)).testBit v=false:=fun t h1 h2 h3=>by
  cases hb:(bT (aq (bX d r u S).F) ((aq (bX d r u S).F).getD v 0)).testBit v with
  |false=>rfl
  |true =>
   have:=ng h1 _ h2 v hb;rw[h3]at this;cases this
 cases hNv:N.testBit v with
 | true =>
    -- all ancestors are as they were
  refine key (bT (aq d.F) ((aq d.F).getD v 0)) (fun a ha hb=>?_) ?_ hav
  ·rw[hn,eW]at ha;have haN:N.testBit a=true:=by
    refine(hN a).2 ⟨ha,fun e=>?_,?_⟩
    ·rw[e]at hb;have:=((hN v).1 hNv).2.2;rw[hb]at this;cases this
    ·cases hc:(bT (aq d.F) ((aq d.F).getD a 0)).testBit u with
     |false=>rfl
     |true =>
      have:=vM hok hv ha hb u hc;rw[((hN v).1 hNv).2.2]at this;cases this
   rw[par a ha,hNno a haN];exact hcl a (by rw[eW];exact ha) hb
  ·rw[par v hv,hNno v hNv];exact oL _ _ _
 |false =>
  refine key (bT (aq d.F) ((aq d.F).getD v 0) |||N) (fun a ha hb=>?_) ?_ (by rw[XB,hav,hNv];rfl)
  ·rw[hn,eW]at ha;rw[XB,XU]at hb;have h0:Sub ((aq d.F).getD a 0) (bT (aq d.F) ((aq d.F).getD v 0) |||N):=by
    rcases hb with hb|hb
    ·exact(hcl a (by rw[eW];exact ha) hb).trans (.left _ _)
    ·exact(hNup a hb).trans (.right _ _)
   rw[par a ha];split
   ·exact h0.or (hSN.trans (.right _ _))
   ·exact h0
  ·have h0:Sub ((aq d.F).getD v 0) (bT (aq d.F) ((aq d.F).getD v 0) |||N):=Sub.trans (oL _ _ _) (.left _ _);rw[par v hv];split
   ·exact h0.or (hSN.trans (.right _ _))
   ·exact h0
def R9 (hok:nnj d)(hr:nnJ d r)(hu:u∈r)(hS:Sub S (ew d u)):nnj (bX d r u S):=by
 have hget:∀(v:Nat) (y:nna),(bX d r u S).F[v]?=some y->∃x,d.F[v]?=some x/\y=gW d.F.length r u S v x:=fun v y hy=>by
  obtain⟨x,hx⟩:=get_of_lt (l:=d.F) (i:=v) (by have:=get_lt hy;rw[jU]at this;exact this);rw[sV hx]at hy;exact⟨x,hx,(Option.some.inj hy).symm⟩
 have hpl:∀(v:Nat) (y:nna),(bX d r u S).F[v]?=some y->bB y.J d.F.length:=fun v y hy=>by
  obtain⟨x,hx,rfl⟩:=hget v y hy;unfold gW;split
  ·exact D6 _ _
  ·exact lW hok hx
 have hcard:∀y∈(bX d r u S).F,1<=y.Q/\y.Q<=4:=fun y hy=>by
  obtain⟨v,hv⟩:=Xg.1 hy;obtain⟨x,hx,rfl⟩:=hget v y hv;rw[(sW ..).1];exact hok.n.Q x (an hx)
 have hlate:∀v,d.nl.testBit v=false->gG r u v=false:=fun v hb=>by
  cases hl:gG r u v with
  |false=>rfl
  |true =>
   have:=(cL.1 (hr.mem v (of_decide_eq_true hl).1)).2;rw[hb]at this;cases this
 have hR:nnq (bX d r u S):=⟨by rw[jU];exact hok.n.n1,by rw[jU];exact hok.n.nl,hcard,fun v y hy hb=>by
  obtain⟨x,hx,rfl⟩:=hget v y hy;refine⟨by rw[(sW ..).2];exact(hok.n.dec v x hx hb).1,by rw[jU];exact hpl v _ hy⟩⟩
 have h0:=hok.nC;refine⟨hR,⟨h0.g1,by rw[js,jU];exact hok.n.n1,fun y hy=>?_,by have:=h0.size;rw[ti]at this ⊢;rw[Ag];exact this,by rw[AU];exact R8 hok hr hu hS,fun y hy=>?_⟩,?_⟩
 ·obtain⟨v,y,hy',rfl⟩:=tn hy;clear hy;have hy:=hy';rw[(jm ..).1,(jm ..).2,js,jU];exact⟨hcard y (an hy),hpl v y hy⟩
 ·obtain⟨v,y,hy',rfl⟩:=tn hy;clear hy;have hy:=hy';obtain⟨x,hx,e⟩:=hget v y hy;have h1:=h0.X _ (an (kq (c:=fun _ _=>0) hx));unfold fK at h1 ⊢;rw[wL]at h1 ⊢;have hpc:∀z:nna,aW (bX d r u S).F z=aW d.F z:=fun z=>by unfold aW;rw[Ag]
  rw[hpc];by_cases hb:d.nl.testBit v=true
  ·have hyr:=(hR.dec v y hy hb).1;have hyc:=hcard y (an hy);rw[wM (d:=bX d r u S) hy hb];have hl:({ y with X:=y.X++ei (bX d r u S).nn (bX d r u S).F (fun _ _=>0) (cY (bX d r u S).nl v) y }:nna).X=ei d.nn (bX d r u S).F (fun _ _=>0) (cY d.nl v) y:=by
    show y.X++_=_;rw[hyr];rfl
   rw[hl];have hpos:=jX (l:=aW d.F y) fun c hc=>(pf (fun q hq=>by have:=(hpl v y hy).2 q hq;omega) hok.n.Q c hc).1;refine⟨?_,fun w hw=>?_⟩
   ·show ((ei d.nn (bX d r u S).F (fun _ _=>0) (cY d.nl v) y).length:Int)=aL (aW d.F y);unfold ei dk;rw[Xl,Ym,hpc];omega
   ·unfold ei at hw;obtain⟨i,_,rfl⟩:=Xx.1 hw;have:=h0.g1;exact FN (by show 0<=d.nn;omega) ⟨Int.le_refl 0,(by show (0:Int)<y.Q;omega)⟩
  ·have hb':d.nl.testBit v=false:=(by simpa using hb);rw[o9 hb]at h1;rw[o9 (d:=bX d r u S) hb];have ey:y=x:=(by rw[e];unfold gW;rw[hlate v hb'];rfl);rw[ey];exact h1
 ·refine⟨hok.V.1,fun w hw=>?_⟩;have:=hok.V.2 w hw;exact⟨by rw[jU];exact this.vars,by rw[Ag];exact this.size,this.w⟩
def Sa (hok:nnj d)(hr:nnJ d r):dX d=some r:=by
 have hR:=hok.n;have hnd:r.Nodup:=by
  rw[aae,Yr];intro i j hi hj hij e;have h1:r[i]?=some r[i]:=W5 hi;have h2:r[j]?=some r[i]:=by rw[W5 hj,e]
  have:=hr.ro.new h2;have h3:(fI (r.take j)).testBit r[i]=true:=ld.2 (Xg.2 ⟨i,by rw[XC hij];exact h1⟩);rw[this]at h3;cases h3
 have hmem:∀v,v∈r↔v∈ay d:=fun v=>by
  rw[cL,<- ld,hr.all];constructor
  ·intro h;refine⟨Yu fun hn=>?_,h⟩;have:=hR.nl;rw[Zc]at this;have hlt:d.nl<2 ^ d.F.length:=by
    rcases Xu d.nl (2 ^ d.F.length) with h|h
    ·exact h
    ·have:=Nat.div_pos h (Yy _);omega
   rw[Yf (Xd hlt (Xq aax hn))]at h;cases h
  ·exact fun h=>h.2
 have nx:∀(k v:Nat),r[k]?=some v->iy d (fy d (r.take k))=some v:=fun k v hv=>by
  obtain⟨hm,hko⟩:=hr.ro k v hv;have huniq:∀w,w∈ay d->fw d (fy d (r.take k)) w->w=v:=fun w hw hwk=>by
   obtain⟨j,hj⟩:=Xg.1 ((hmem w).2 hw);rcases YV j k with hlt|he|hlt
   ·have:=(vI (d:=d) (l:=r.take k) (i:=w)).2 ⟨w,Xg.2 ⟨j,by rw[XC hlt];exact hj⟩,by rw[XB,Yg];simp⟩;rw[hwk.1]at this;cases this
   ·rw[he,hv]at hj;exact(Option.some.inj hj).symm
   ·obtain⟨_,_,hsub,_⟩:=hr.ro j w hj;have h1:(bp d w).testBit v=true:=vG hsub _ (vI.2 ⟨v,Xg.2 ⟨k,by rw[XC hlt];exact hv⟩,by rw[XB,Yg];simp⟩);have h2:(bp d w &&& d.nl).testBit v=true:=(by rw[XE,h1,(cL.1 hm).2];rfl);rw[hwk.2.2,XE,hko.1]at h2;cases h2
  cases hf:iy d (fy d (r.take k)) with
  |none =>
   unfold iy at hf;rw[Zn]at hf;exact absurd (Xy hko) (hf v hm)
  |some w =>
   obtain⟨w1,w2⟩:=qL hf;rw[huniq w w1 w2]
 have hlen:(ay d).length=r.length:=by
  have h1:r.Perm (ay d):=(List.perm_ext_iff_of_nodup hnd (Zr.filter _)).2 hmem;exact h1.length_eq.symm
 have full:∀k,fy d (r.take k) &&& d.nl=d.nl->k<=r.length->k=r.length:=fun k hk hkl=>by
  refine Xw fun hne=>?_;obtain⟨v,hv⟩:=get_of_lt (l:=r) (i:=k) U;have h1:=(hr.ro k v hv)
  have h2:(fy d (r.take k) &&& d.nl).testBit v=true:=by rw[hk];exact(cL.1 h1.1).2
  rw[XE,h1.2.1]at h2;cases h2
 have go:∀(f k:Nat),k+f=r.length->eg d f (fy d (r.take k)) (r.take k)=some r:=by
  intro f
  induction f with
  |zero =>
   intro k hk;unfold eg;rw[W8]
   ·rw[W9 U]
   ·refine(Ac hR).2 fun v hv=>vI.2 ⟨v,?_,by rw[XB,Yg];simp⟩;rw[W9 U];exact(hmem v).2 hv
  |succ f ih =>
   intro k hk;unfold eg;split
   ·rename_i hd;have:=full k hd U;omega
   ·obtain⟨v,hv⟩:=get_of_lt (l:=r) (i:=k) U;rw[nx k v hv];have:=ih (k+1) U;rw[aQ hv,vF]at this;exact this
 have:=go r.length 0 U;unfold dX;rw[hlen];exact this
abbrev qN (d:nnb)(i:Nat):Nat:=bT (aq d.F) ((aq d.F).getD i 0)
abbrev mY (d:nnb)(i:Nat):Nat:=(aq d.F).getD i 0
structure DfsR (d:nnb)(v M M':Nat):Prop where
 sub:Sub M M'
 lt:M'<2 ^ d.F.length
 new:∀i,M'.testBit i=true->M.testBit i=false->(qN d i).testBit v=true
 nO:∀c,c<d.F.length->(mY d c).testBit v=true->M'.testBit c=true
 cls:∀i c,M'.testBit i=true->M.testBit i=false->c<d.F.length->(mY d c).testBit i=true->M'.testBit c=true
structure nnG (d:nnb)(v M w M':Nat):Prop where
 sub:Sub M M'
 lt:M'<2 ^ d.F.length
 new:∀i,M'.testBit i=true->M.testBit i=false->(qN d i).testBit v=true
 nO:∀c,c<w->(mY d c).testBit v=true->M'.testBit c=true
 cls:∀i c,M'.testBit i=true->M.testBit i=false->c<d.F.length->(mY d c).testBit i=true->M'.testBit c=true
def nnG.start (h:M<2 ^ d.F.length):nnG d v M 0 M :=
 ⟨.refl _,h,fun i h1 h2=>(by rw[h1]at h2;cases h2),fun c h=>absurd h (Xo _),fun i c h1 h2=>(by rw[h1]at h2;cases h2)⟩
def nnG.done (h:nnG d v M d.F.length M'):DfsR d v M M':=⟨h.sub,h.lt,h.new,h.nO,h.cls⟩
def nnG.met (h:nnG d v M w M')(hm:M'.testBit w=true):nnG d v M (w+1) M' :=
 ⟨h.sub,h.lt,h.new,fun c hc hp=>by
  by_cases e:c=w
  ·rw[e];exact hm
  ·exact h.nO c U hp,h.cls⟩
def nnG.no (h:nnG d v M w M')(hp0:(mY d w).testBit v=false):nnG d v M (w+1) M' :=
 ⟨h.sub,h.lt,h.new,fun c hc hp=>by
  by_cases e:c=w
  ·rw[e,hp0]at hp;cases hp
  ·exact h.nO c U hp,h.cls⟩
def sY :(a |||2 ^ w).testBit i=true↔a.testBit i=true\/i=w:=by
 rw[XB,XU,Yv];exact or_congr_right ⟨fun h=>(of_decide_eq_true h).symm,fun h=>Xy h.symm⟩
def nnG.step (hok:nnj d){M1 M2:Nat}(h:nnG d v M w M1)(hw:w<d.F.length)(hv:v<d.F.length)(hp:(mY d w).testBit v=true)(hr:DfsR d w (M1 |||2 ^ w) M2):nnG d v M (w+1) M2:=by
 have s1:Sub M1 M2:=fun i hi=>hr.sub i (sY.2 (.inl hi));have hw2:M2.testBit w=true:=hr.sub w (sY.2 (.inr rfl));have cases3:∀i,M2.testBit i=true->M1.testBit i=true\/i=w\/(M1 |||2 ^ w).testBit i=false:=fun i _=>by
  cases hb:(M1 |||2 ^ w).testBit i with
  |false=>exact .inr (.inr rfl)
  |true=>exact(sY.1 hb).imp (fun h2=>h2) .inl
 refine⟨h.sub.trans s1,hr.lt,fun i h1 h2=>?_,fun c hc hpc=>?_,fun i c h1 h2 hc hpc=>?_⟩
 ·rcases cases3 i h1 with h3|rfl|h3
  ·exact h.new i h3 h2
  ·exact oG hp
  ·have h4:=hr.new i h1 h3;have hil:i<d.F.length:=Yu fun hn=>by
    rw[Yf (Xd hr.lt (Xq aax hn))]at h1;cases h1
   exact vM hok hil hw h4 v (oG hp)
 ·by_cases e:c=w
  ·rw[e];exact hw2
  ·exact s1 c (h.nO c U hpc)
 ·rcases cases3 i h1 with h3|rfl|h3
  ·exact s1 c (h.cls i c h3 h2 hc hpc)
  ·exact hr.nO c hc hpc
  ·exact hr.cls i c h1 h3 hc hpc
def Sb (hok:nnj d)(hu:u<d.F.length)(h:DfsR d u 0 M)(hi:i<d.F.length):M.testBit i=(qN d i).testBit u:=by
 rw[Yt];constructor
 ·exact fun h1=>h.new i h1 (XX i)
 ·intro ha;refine Xw fun hno=>?_;have hno:M.testBit i=false:=by simpa using hno
  obtain⟨t,ht⟩:∃t:Nat,∀q,t.testBit q=true↔q<d.F.length/\q≠u/\M.testBit q=false :=
   ⟨fI ((List.range d.F.length).filter fun q=>decide (q≠u) && !M.testBit q),fun q=>by rw[ld,YX,XJ];simp⟩
  have cl:∀a,a<d.F.length->M.testBit a=false->Sub (mY d a) t:=fun a hal hM q hq=>by
   refine(ht q).2 ⟨vO hok hal hq,fun e=>?_,?_⟩
   ·rw[e]at hq;rw[h.nO a hal hq]at hM;cases hM
   ·cases hb:M.testBit q with
    |false=>rfl
    |true =>
     rw[h.cls q a hb (XX q) hal hq]at hM;cases hM
  have hc:jZ (aq d.F) t:=fun a hal hb=>by
   obtain⟨h1,_,h3⟩:=(ht a).1 hb;exact cl a h1 h3
  have:=ng hc (aq d.F).length (cl i hi hno) u ha;exact((ht u).1 this).2.1 rfl
def sZ (d:nnb)(M:Nat):Nat:=((List.range d.F.length).filter fun i=>!M.testBit i).length
def Sc (hs:Sub M M')(hw:w<d.F.length)(h0:M.testBit w=false)(h1:M'.testBit w=true):sZ d M'<sZ d M:=by
 unfold sZ;have key:∀n,((List.range n).filter fun i=>!M'.testBit i).length<=((List.range n).filter fun i=>!M.testBit i).length/\(w<n->((List.range n).filter fun i=>!M'.testBit i).length<((List.range n).filter fun i=>!M.testBit i).length):=by
  intro n
  induction n with
  |zero=>exact⟨aaz,fun h=>absurd h (Xo _)⟩
  |succ n ih =>
   rw[Yj,Y6,Y6,List.length_append,List.length_append];have e:∀N:Nat,((List.filter (fun i=>!N.testBit i) [n]).length=if N.testBit n=true then 0 else 1):=fun N=>by
    cases hb:N.testBit n<;>simp[hb]
   rw[e,e];have hsn:M.testBit n=true->M'.testBit n=true:=hs n;by_cases hwn:w=n
   ·subst hwn;rw[h0,h1];simp only[if_true,Bool.false_eq_true,if_false];omega
   ·refine⟨?_,fun h=>?_⟩
    ·by_cases hb:M.testBit n=true
     ·rw[W8 hb,W8 (hsn hb)];omega
     ·rw[W7 hb];split<;>omega
    ·have:=ih.2 U;by_cases hb:M.testBit n=true
     ·rw[W8 hb,W8 (hsn hb)];omega
     ·rw[W7 hb];split<;>omega
 exact(key _).2 hw
def F8 {v:Int}{k:Nat}(h:∀j,j<k->∀b,l[j]?=some b->b≠v)(hk:l[k]?=some v):l.idxOf v=k:=by
 induction l generalizing k with
 |nil=>simp at hk
 |cons a l ih =>
  cases k with
  |zero=>simp only[List.getElem?_cons_zero,Option.some.injEq]at hk;subst hk;simp
  |succ k =>
   have ha:=h 0 U a rfl;have hr:=ih (k:=k) (fun j hj b hb=>h (j+1) U b (by simpa using hb)) (by simpa using hk);have hbe:(a == v)=false:=beq_false_of_ne ha;simp[ZK,hbe,hr]
def Vg (l:List Int)(v:Int)(hv:v∈l)(hl:(l.length:Int)<2 ^ 62)(H:nnl)(K:nnf->nnl->Prop)(hK:K (.ret (aa ((l.idxOf v:Nat):Int))) H):af prog G0 87 [ah l,aa v] H K:=by
 refine af.st (n:=19) (rs:=[.tmp 4]) func87 ?_;simp only[go_sem];refine W.aM 524080 (by rfl) (fun ρ H'=>H'=H/\∃k:Nat,ρ 8=aa k/\k<=l.length/\∀j,j<k->∀b,l[j]?=some b->b≠v) (fun ρ H=>l.length-(iv (ρ 8)).toNat) ?_ ?_
 ·simp only[go_sem];exact⟨0,rfl,U,fun j h=>absurd h (Xo _)⟩
 rintro ρ H' ⟨rfl,k,h8,hk,hno⟩;refine W.vs ?_;by_cases hb:(k:Int)<l.length
 ·obtain⟨b,hkb⟩:=get_of_lt (l:=l) (i:=k) U;have hne:=aS hkb;have w1:=W6 ((k:Int)+1) U;by_cases he:v=b
  ·subst he;simp only[go_sem,h8,hb,hkb,hne];rw[F8 hno hkb]at hK;exact ar.mk aaz hK
  ·simp only[go_sem,h8,hb,hkb,hne,he,w1];exact⟨⟨k+1,aaw,U,fun j hj b' hb'=>by
    by_cases hjk:j=k
    ·subst hjk;rw[hkb]at hb';cases hb';exact fun h=>he h.symm
    ·exact hno j U b' hb'⟩,U⟩
 ·exfalso;obtain⟨j,hj⟩:=Xg.1 hv;exact hno j (by have:=get_lt hj;omega) v hj rfl
def fA (l:List Int)(v:Int):Int:=if v∈l then (l.idxOf v:Nat) else -1
def Ai (l:List Int)(v:Int)(hl:(l.length:Int)<2 ^ 62)(H:nnl)(K:nnf->nnl->Prop)(hK:K (.ret (aa (fA l v))) H):af prog G0 87 [ah l,aa v] H K:=by
 by_cases hv:v∈l
 ·refine Vg l v hv hl H K ?_;unfold fA at hK;rw[W8 hv]at hK;exact hK
 unfold fA at hK;rw[W7 hv]at hK;refine af.st (n:=19) (rs:=[.tmp 4]) func87 ?_;simp only[go_sem];refine W.aM 524080 (by rfl) (fun ρ H'=>H'=H/\∃k:Nat,ρ 8=aa k/\k<=l.length) (fun ρ H=>l.length-(iv (ρ 8)).toNat) ?_ ?_
 ·simp only[go_sem];exact⟨0,rfl,U⟩
 rintro ρ Hx ⟨rfl,k,h8,hk⟩;refine W.vs ?_;by_cases hb:(k:Int)<l.length;rotate_left
 ·simp only[go_sem,h8,hb];exact ar.mk aaz hK
 obtain⟨x,hx⟩:=get_of_lt (l:=l) (i:=k) U;have hx':(ints l)[k]?=some (aa x):=by rw[gR,hx];rfl
 have hne:=aS hx;have hxv:¬v=x:=fun h=>hv (h ▸ an hx);have w1:=W6 ((k:Int)+1) U;simp only[go_sem,h8,hb,hx',hne,hxv,w1];exact⟨⟨k+1,rfl,U⟩,U⟩
def Ec (l:List Int)(v:Int)(hl:(l.length:Int)<2 ^ 62)(H:nnl)(K:nnf->nnl->Prop)(hK:K (.ret (.lit (.bool (decide (v∈l))))) H):af prog G0 79 [ah l,aa v] H K:=by
 refine af.st (n:=9) (rs:=[.tmp 4]) func79 ?_;simp only[go_sem];refine aC.nb (Ai l v hl H _ ⟨trivial,?_⟩);by_cases hv:v∈l
 ·rw[Xy hv]at hK;have h0:fA l v >= 0:=by unfold fA;rw[W8 hv];omega
  simp only[go_sem,h0];exact ar.mk aaz hK
 ·rw[XL hv]at hK;have h0:¬fA l v >= 0:=by unfold fA;rw[W7 hv];omega
  simp only[go_sem,h0];exact ar.mk aaz hK
def iz (d:nnb)(r:List Nat)(u:Nat):List nnn:=[aa d.nn,.L d.F.length (aG d.F),az d.nl,.L d.V.length (aH d.V),ah (av r),aa u]
structure Beh (d:nnb)(r:List Nat)(u s B:Nat)(H:nnl)(M:Nat):Prop where
 sl:s<B
 nx:B+2<H.C
 gs:H.get s=some (.O 0 157 (iz d r u))
 gb:H.get B=some (.O 0 101 [.Y s 0 0])
 gm:H.get (B+1)=some (.O 0 34 [az M])
 gw:H.get (B+2)=some (.O 0 197 [.nb 123 [] [.Y B 0 0,.Y (B+1) 0 0,.Y (B+2) 0 0]])
def Beh.nf {s B:Nat}{H H':nnl}(h:Beh d r u s B H M)(hn:H.C<=H'.C)(hk:∀i,i<H.C->H'.get i=H.get i):Beh d r u s B H' M:=by
 have h1:=h.nx;have h2:=h.sl;exact⟨h2,U,(hk _ U).trans h.gs,(hk _ U).trans h.gb,(hk _ U).trans h.gm,(hk _ U).trans h.gw⟩
def Sf (hok:nnj d){s B:Nat}(hpl:∀x∈d.F,(x.J.length:Int)<2 ^ 62):∀(m M v:Nat) (H:nnl) (K:nnf->nnl->Prop),sZ d M<m->v<d.F.length->M<2 ^ d.F.length->Beh d r u s B H M ->
  (∀H' M',DfsR d v M M'->Beh d r u s B H' M'->(∀i,i<H.C->i≠B+1->H'.get i=H.get i)->H.C<=H'.C->K (.ret (.nc [])) H') ->
  af prog G0 123 [aa v,.Y B 0 0,.Y (B+1) 0 0,.Y (B+2) 0 0] H K:=by
 have n8:=hok.n.n1;have p64:∀a:Nat,a<2 ^ d.F.length->a<2 ^ 64:=fun a h=>Xd h (Xq aax U);intro m
 induction m with
 |zero=>exact fun M v H K hm=>absurd hm (Xo _)
 |succ m ih =>
  intro M v H K hm hv hM hB hK;have ls:=ag hB.gs;have lb:=ag hB.gb;unfold iz at ls;refine af.sw (n:=37) (rs:=[]) func123 ?_;refine W.sq ?_;simp only[go_sem,lb,ls];refine W.en (fun E=>E 0=aa v /\ E 2=.Y (B+1) 0 0 /\ E 3=.Y (B+2) 0 0 /\ E 11=.L d.F.length (aG d.F) /\ E 12=aa d.F.length /\ E 13=aa 0) (by simp only[go_sem]) fun E ⟨e0,e2,e3,e11,e12,e13⟩=>?_
  refine W.block ?_;refine W.aM 137438945376 (by rfl) (fun ρ Hx=>∃k M1:Nat,ρ 13=aa k/\k<=d.F.length/\nnG d v M k M1/\Beh d r u s B Hx M1/\(∀i,i<H.C->i≠B+1->Hx.get i=H.get i)/\H.C<=Hx.C) (fun ρ _=>d.F.length-(iv (ρ 13)).toNat) ?_ ?_
  ·exact⟨0,M,e13,U,.start hM,hB,fun _ _ _=>rfl,aaz⟩
  rintro ρ Hx ⟨k,M1,h13,hk,hD,hB1,hold,hn⟩;refine W.en (fun E1=>E1 0=aa v /\ E1 2=.Y (B+1) 0 0 /\ E1 3=.Y (B+2) 0 0 /\ E1 11=.L d.F.length (aG d.F) /\ E1 12=aa d.F.length /\ E1 13=aa k) (by simp only[go_sem,e0,e2,e3,e11,e12,h13]) fun E1 ⟨f0,f2,f3,f11,f12,f13⟩=>?_
  by_cases hb:(k:Int)<d.F.length;rotate_left
  ·refine W.vs ?_;simp only[go_sem,f12,f13,hb];obtain rfl:k=d.F.length:=U;exact ar.mk hn (hK Hx M1 hD.done hB1 hold hn)
  obtain⟨x,hx⟩:=get_of_lt (l:=d.F) (i:=k) U;have c0:=lZ hx;have cne:=eC hx;have w1:=W6 ((k:Int)+1) U;have c3:k*3+3<=(aG d.F).length:=by rw[fJ];omega
  refine W.sq ?_;simp only[go_sem,f12,f13,hb];refine W.sq ?_;simp only[go_sem];refine W.seq (W.block ?_);refine W.sq ?_;simp only[go_sem,f11,f13,hb,c0,cne,c3];obtain⟨H1,hH1⟩:∃H1,H1=ext Hx [.O 0 76 [.lit (.int .i64 x.Q),.L x.J.length (ints x.J),aD x.X]]:=⟨_,rfl⟩
  have o1:nnd Hx H1:=hH1▸.ext _ _
  have n1:H1.C=Hx.C+1:=hH1▸rfl
  have g6:=de hH1
  have hB2:Beh d r u s B H1 M1:=hB1.nf U fun i h=>o1.ng i h;have bnx:=hB1.nx;have l6:=ag g6;have lm:=ag hB2.gm;have lw:=ag hB2.gw;have hold1:∀i,i<H.C->i≠B+1->H1.get i=H.get i:=fun i h h2=>(o1.ng i U).trans (hold i h h2);rw[<- hH1];clear hH1;have M64:=p64 M1 hD.lt;have s1:=fun t x y=>lh (P:=prog) (t:=t) (x:=x) (y:=y) (k':=.i64) (s:=k) M64;have s2:=fun t x y=>pr (P:=prog) (t:=t) (x:=x) (y:=y) (s:=k) M64;refine W.en (fun E2=>E2 0=aa v /\ E2 2=.Y (B+1) 0 0 /\ E2 3=.Y (B+2) 0 0 /\ E2 5=aa k /\ E2 6=.Y Hx.C 0 0 /\ E2 13=aa k) (by simp only[go_sem,f0,f2,f3,f13]) fun E2 ⟨m0,m2,m3,m5,m6,m13⟩=>?_
  have hpx:=lW hok hx;have par:(mY d k).testBit v=decide ((v:Int)∈x.J):=by
   show ((aq d.F).getD k 0).testBit v=_;rw[lV hx,fU fun p hp=>(hpx.2 p hp).1]
  cases hbit:M1.testBit k with
  |true =>
   refine W.sq ?_;simp only[go_sem,m2,m5,lm,s1,s2,hbit];refine W.cond (t:=false) (by simp only[go_sem]) ?_;refine W.vs ?_;simp only[go_sem];refine W.vs ?_;simp only[go_sem,m13,w1];exact⟨U,⟨k+1,M1,rfl,U,hD.met hbit,hB2,hold1,U⟩,by rw[h13];simp only[aa,aI];omega⟩
  |false =>
   refine W.sq ?_;simp only[go_sem,m0,m2,m5,m6,lm,l6,s1,s2,hbit];refine aC.nb (Ec x.J v (hpl x (an hx)) _ _ ⟨trivial,?_⟩);by_cases hv':(v:Int)∈x.J;rotate_left
   ·rw[XL hv']at par ⊢;simp only[go_sem];refine W.cond (t:=false) (by simp only[go_sem]) ?_;refine W.vs ?_;simp only[go_sem];refine W.vs ?_;simp only[go_sem,m13,w1];exact⟨U,⟨k+1,M1,rfl,U,hD.no par,hB2,hold1,U⟩,by rw[h13];simp only[aa,aI];omega⟩
   rw[Xy hv']at par ⊢;simp only[go_sem];refine W.cond (t:=true) (by simp only[go_sem]) ?_;have s3:=fun t x y=>fZ (P:=prog) (t:=t) (x:=x) (y:=y) (k':=.i64) (s:=k) U;have hk2:2 ^ k<2 ^ d.F.length:=XG aax U;have s4:=fun t x y=>fj (P:=prog) (t:=t) (x:=x) (y:=y) M64 (p64 _ hk2);refine W.seq ?_;refine W.dr 3 [0,0,2] mixed ?_;simp only[go_sem,m2,m5,lm,s3,s4];obtain⟨H2,hH2⟩:∃H2,H2=H1.upd (B+1) (.O 0 34 [.lit (.int .u64 ((M1 |||2 ^ k:Nat):Int))]):=⟨_,rfl⟩
   have u1:∀i,i≠B+1->H2.get i=H1.get i:=fun i h=>by rw[hH2,ae,W7 h]
   have n2:H2.C=H1.C:=(by rw[hH2];rfl);have bsl:=hB2.sl;have hB3:Beh d r u s B H2 (M1 |||2 ^ k):=⟨bsl,U,(u1 _ U).trans hB2.gs,(u1 _ U).trans hB2.gb,by rw[hH2,ae,W8 rfl];rfl,(u1 _ U).trans hB2.gw⟩
   have lw3:=ag hB3.gw;rw[<- hH2];clear hH2;have hM0:M.testBit k=false:=by
    cases hb0:M.testBit k with
    |false=>rfl
    |true=>rw[hD.sub k hb0]at hbit;cases hbit
   have hlt:=Sc (d:=d) (M:=M) (M':=M1 |||2 ^ k) (w:=k) (fun i hi=>sY.2 (.inl (hD.sub i hi))) U hM0 (sY.2 (.inr rfl));refine W.vs ?_;simp only[go_sem,m3,m5,lw3];refine aC.nb (ih (M1 |||2 ^ k) k H2 _ U U (XV hD.lt hk2) hB3 fun H3 M3 hR hB4 kp n3=>⟨trivial,?_⟩);simp only[go_sem];refine W.vs ?_;simp only[go_sem,m13,w1];exact⟨U,⟨k+1,M3,rfl,U,hD.step hok U hv par hR,hB4,fun i h1 h2=>(kp i U h2).trans ((u1 i h2).trans (hold1 i h1 h2)),U⟩,by rw[h13];simp only[aa,aI];omega⟩
def m8 (d:nnb)(u:Nat):Nat:=fI ((List.range d.F.length).filter fun i=>(qN d i).testBit u)
def Eg :(m8 d u).testBit i=true↔i<d.F.length/\(qN d i).testBit u=true:=by
 unfold m8;rw[ld,YX,XJ]
def Sp (hok:nnj d)(hu:u<d.F.length)(h:DfsR d u 0 M):M=m8 d u:=X4 fun i=>by
 rw[Yt,Eg];rcases Xu i d.F.length with hi|hi
 ·rw[Sb hok hu h hi];exact⟨fun h=>⟨hi,h⟩,fun h=>h.2⟩
 ·rw[Yf (Xd h.lt (Xq aax hi))];exact⟨fun h=>Bool.noConfusion h,fun h=>absurd h.1 U⟩
def Sq (hok:nnj d){s:Nat}(hpl:∀x∈d.F,(x.J.length:Int)<2 ^ 62)(hu:u<d.F.length)(H:nnl)(hs:H.get s=some (.O 0 157 (iz d r u)))(hsl:s<H.C)(K:nnf->nnl->Prop)(hK:K (.ret (az (m8 d u))) H):
  af prog G0 80 [.Y s 0 0] H K:=by
 refine af.nb ⟨_,func80,rfl,rfl⟩ fun hcl=>?_;refine af.sw (n:=13) (rs:=[.tmp 2]) func80 ?_;refine W.sq ?_;simp only[go_sem];refine W.sq ?_;simp only[go_sem];refine W.sq ?_;simp only[go_sem];refine W.sq ?_;simp only[go_sem];refine⟨⟨rfl,rfl,aaz⟩,?_⟩;obtain⟨H1,hH1⟩:∃H1,H1=ext H [.O 0 101 [.Y s 0 0],.O 0 34 [.lit (.int .u64 0)],.O 0 197 [.nb 123 [] [.Y H.C 0 0,.Y (H.C+1) 0 0,.Y (H.C+2) 0 0]]]:=⟨_,rfl⟩
 have o1:nnd H H1:=hH1▸.ext _ _
 have n1:H1.C=H.C+3:=hH1▸rfl
 have g0:=de hH1
 have g1:=gE hH1 1 rfl
 have g2:=gE hH1 2 rfl
 have hB:Beh d r u s H.C H1 0:=⟨hsl,U,(o1.ng s hsl).trans hs,g0,g1,g2⟩
 have l0:=ag g0;have l2:=ag g2;have ls:=ag hB.gs;unfold iz at ls;have cc:(nnn.nb 123 [] [.Y H.C 0 0,.Y (H.C+1) 0 0,.Y (H.C+2) 0 0]).cells=[.nb 123 [] [.Y H.C 0 0,.Y (H.C+1) 0 0,.Y (H.C+2) 0 0]]:=rfl;simp only[cc,X7,List.drop_one,List.tail_cons,List.append_nil];rw[<- hH1];clear hH1;refine W.seq ?_;refine W.dr 5 [0,0,2,6,14] mixed ?_;simp only[go_sem,l0,l2,ls];refine aC.nb (Sf hok hpl (sZ d 0+1) 0 u H1 _ (X6 _) hu (Yy _) hB fun H2 M hD hB2 kp n2=>⟨trivial,?_⟩);have lm:=ag hB2.gm;have e:=Sp hok hu hD;subst e;simp only[go_sem];refine W.vs ?_;simp only[go_sem,lm];refine ar.bw aO hcl ⟨U,fun i h=>(kp i U U).trans (o1.ng i h)⟩ (.lit _) hK
def Sr (hok:nnj d)(u:Nat):cN (cN (2 ^ d.F.length-1) d.nl) (m8 d u)=ew d u:=X4 fun i=>by
 have n8:=hok.n.n1;have h1:2 ^ d.F.length-1<2 ^ 64:=by
  have:=Xq (n:=2) aax (show d.F.length<=64 by omega);have:=Yy d.F.length;omega
 rw[pj (xa _ _),pj h1,Yt,qM,XT];have hb:=Eg (d:=d) (u:=u) (i:=i);rcases Xu i d.F.length with hi|hi
 ·rw[Xy hi];cases h2:d.nl.testBit i<;>cases h3:(m8 d u).testBit i<;>cases h4:(qN d i).testBit u<;>simp_all
 ·rw[XL U];simp;omega
def Eh (hok:nnj d){s:Nat}(hpl:∀x∈d.F,(x.J.length:Int)<2 ^ 62)(hu:u<d.F.length)(H:nnl)(hs:H.get s=some (.O 0 157 (iz d r u)))(hsl:s<H.C)(K:nnf->nnl->Prop)(hK:K (.ret (az (ew d u))) H):
  af prog G0 41 [.Y s 0 0] H K:=by
 have n8:=hok.n.n1;have ls:=ag hs;unfold iz at ls;have p1:=Yy d.F.length;have p2:=Xq (n:=2) aax (show d.F.length<=8 by omega);have s1:=fun t x y=>fZ (P:=prog) (t:=t) (x:=x) (y:=y) (k':=.i64) (s:=d.F.length) U;have w1:IntKind.u64.wrap ((2 ^ d.F.length:Nat)-1:Int)=((2 ^ d.F.length-1:Nat):Int):=by
  rw[show ((2 ^ d.F.length:Nat):Int)-1=((2 ^ d.F.length-1:Nat):Int) by omega];exact po (U)
 have s2:=fun t x y=>jz (P:=prog) (t:=t) (x:=x) (y:=y) (a:=2 ^ d.F.length-1) (b:=d.nl);have s3:=fun t x y=>jz (P:=prog) (t:=t) (x:=x) (y:=y) (a:=cN (2 ^ d.F.length-1) d.nl) (b:=m8 d u);refine af.sw (n:=22) (rs:=[.tmp 2]) func41 ?_;refine W.sq ?_;simp only[go_sem];refine W.sq ?_;simp only[go_sem,ls,s1,w1];refine W.seq ?_;refine W.dr 9 [0,0,2,6,14,30,63,0,128] mixed ?_;simp only[go_sem,ls,s2];refine⟨az (m8 d u),[s],cz.mk (fun i hi=>by obtain rfl:=List.mem_singleton.1 hi;exact hsl) fun H2 h2 hn2=>Sq hok hpl hu H2 ((h2 s aaw).trans hs) U _ ⟨rfl,rfl⟩,?_⟩;unfold az;simp only[go_sem,s3,Sr hok u];refine W.vs ?_;simp only[go_sem];exact ar.mk aaz hK
end Go.Proofs
namespace Go.Hx
variable {P:Program}
variable {l m:List nnn}{e:TypeId}{H:nnl}{u v:nnn}
structure nnK (lo:Nat)(H:nnl)(e:TypeId)(v:nnn)(l:List nnn)(u:nnn)(m:List nnn):Prop where
 a:aB lo H e v l
 b:aB lo H e u m
 ne:∀i g n g' n',v=.Z i g 0 n 1->u≠.Z i g' 0 n' 1
def nnK.symm {lo:Nat}(h:nnK lo H e v l u m):nnK lo H e u m v l:=⟨h.b,h.a,fun i g n g' n' h1 h2=>h.ne i g' n' g n h2 h1⟩
theorem nnK.nil {lo:Nat}:nnK lo H e (.lit (.slice none 0 0)) [] (.lit (.slice none 0 0)) []:=⟨.nil,.nil,fun _ _ _ _ _ h=>(by cases h)⟩
theorem nnK.nf {lo:Nat}{H':nnl}(h:nnK lo H e v l u m)(hn:H.C<=H'.C)(hk:∀id,lo<=id->id<H.C->H'.get id=H.get id):nnK lo H' e v l u m :=
 ⟨h.a.nf aaz hn fun id _ h1 h2 _ _=>hk id h1 h2,h.b.nf aaz hn fun id _ h1 h2 _ _=>hk id h1 h2,h.ne⟩
def nnK.app {lo n:Nat}{t:TypeId}{x:nnn}{z:List nnn}(ht:P.underlying t=some (.slice e))(hz:P.cellsOf e=1)(hzero:bC P e=some z)(hx:x.one=true)
  (hb:(l.length+1)*P.bytesOf e<=2 ^ 47/\l.length+1<=2 ^ 47) (h:nnK lo H e v l u m) (hlo:lo<=H.C) (hn:n=H.C+1):
  ∃v' H',bh P (ext H [.O 0 e [x]]) n t t v (.Z H.C 0 0 1 1)=some (v',H')/\nnK lo H' e v' (l++[x]) u m/\H.C<=H'.C/\(∀k,k<lo->H'.get k=H.get k):=by
 have hsrc:bU (ext H [.O 0 e [x]]) 1 (.Z H.C 0 0 1 1)=some (1,[x]):=by
  unfold bU;have:=ag (H:=ext H [.O 0 e [x]]) (g:=0) (bV (b:=.O 0 e [x]));simp[this]
 have hne:(ext H [Blk.O 0 e [x]]).C=H.C+1:=rfl;obtain⟨ha,hbb,hnn⟩:=h;rcases ha with ⟨rfl,rfl⟩|⟨i,g,h1,h2,rfl,h4⟩
 ·have n2:(ext (ext H [.O 0 e [x]]) [.O 0 e [x]]).C=H.C+2:=rfl;have ng:∀k,k<H.C->(ext (ext H [.O 0 e [x]]) [.O 0 e [x]]).get k=H.get k:=fun k hk=>by rw[cH (by rw[hne];omega),cH hk]
  refine⟨.Z (H.C+1) 0 0 1 1,ext (ext H [.O 0 e [x]]) [.O 0 e [x]],?_,⟨.inr ⟨H.C+1,0,U,by rw[n2];omega,aaw,?_⟩,hbb.nf aaz (by rw[n2];omega) fun id _ _ hid _ _=>ng id hid,fun i g n g' n' he hu=>?_⟩,by rw[n2];omega,fun k hk=>ng k U⟩
  ·unfold bh;rw[ht];simp only[hzero,hz,Option.bind_some,hsrc];rw[W7 aax,W8 (by simpa using hb),sh (by rw[hn,hne]),hn];rfl
  ·rw[<- hne];exact bV
  ·have:=(nnn.Z.inj he).1;rcases hbb with ⟨rfl,_⟩|⟨j,g2,_,a2,rfl,_⟩
   ·cases hu
   ·have:=(nnn.Z.inj hu).1;omega
 ·have h4':(ext H [.O 0 e [x]]).get i=some (.O g e l):=by rw[cH h2];exact h4
  refine⟨.Z i (g+1) 0 (l.length+1) 1,(ext H [.O 0 e [x]]).upd i (.O (g+1) e (l++[x])),?_,⟨.inr ⟨i,g+1,h1,by rw[aw,hne];omega,aaw,by rw[ae,W8 rfl]⟩,hbb.nf aaz (by rw[aw,hne];omega) fun id g3 _ hid _ hu=>?_,fun i' g' n' g'' n'' he hu=>hnn i g l.length g'' n'' rfl (by rw[hu,(nnn.Z.inj he).1])⟩,by rw[aw,hne];omega,fun k hk=>?_⟩
  ·unfold bh;rw[ht];have hl:=ag h4';simp only[hzero,hz,Option.bind_some,hsrc,hl];rw[W8 ⟨trivial,trivial,U,hb.1,hb.2,by simp[hx]⟩];simp
  ·rw[ae,W7,cH hid];rintro rfl;exact hnn id g l.length g3 _ rfl hu
  ·rw[ae,W7 U,cH U]
end Go.Hx

namespace Go.Proofs
open Go.Hx Tryz
variable {D:DPr}{tot:Int}{r:List Nat}{j0 k0:Nat}{I:Nat->Nat->Nat}{d:nnb}{H H':nnl}{lvh:nnn}
structure RowNo (d:nnb)(x:nna)(vals:List Int)(v i:Nat)(r:List Int)(a w:Int):Prop where
 idx:gH (aW d.F x) (bb vals x.J)=i
 row:x.X[i]?=some r
 val:vals[v]?=some a
 a0:0<=a
 hw:r[a.toNat]?=some w
 wb:0<=w/\w<=60
 eq:AC d vals v=w
 al:a<r.length
def A6 (d:nnb):List Int:=(List.range (mX d.F)).map fun (i:Nat)=>qY d (wv d i)
def A7 (d:nnb):List Int:=(List.range (mX d.F)).map fun (i:Nat)=>qZ d (wv d i)
def UX (l:List Bool):List nnn:=l.map fun b=>.lit (.bool b)
structure nnC where
 ab:Nat->List Int
 oc:Nat->List Bool
 ex:Nat->List Int
 be:Nat->List Int
 ch:Nat->List Int
def jy (T:nnC)(k:Nat):Nat->Blk
 |1=>.O 0 3 (ints (T.ab k))
 |2=>.O 0 4 (UX (T.oc k))
 |3=>.O 0 3 (ints (T.ex k))
 |4=>.O 0 3 (ints (T.be k))
 |_=>.O 0 3 (ints (T.ch k))
def UY (D:DPr)(r:List Nat)(I:Nat->Nat->Nat)(k:Nat):List nnn :=
 [.lit (.int .i64 (r.getD k 0:Nat)),.lit (.int .i64 (D.cd k:Nat)),.Z (I k 1) 0 0 (D.cs k) 1,.Z (I k 2) 0 0 (D.cs k) 1,.Z (I k 3) 0 0 (D.cs k*D.cd k) 1,.Z (I k 4) 0 0 (D.cs k) 1,.Z (I k 5) 0 0 (D.cs k) 1]
def wW (I:Nat->Nat->Nat)(n:Nat):List nnn:=(List.range n).map fun k=>.Y (I k 0) 0 0
def UZ (I:Nat->Nat->Nat)(n:Nat):(wW I n).length=n:=by simp[wW]
structure nnC.Len (D:DPr)(n:Nat)(T:nnC):Prop where
 ab:∀k,k<n->(T.ab k).length=D.cs k
 oc:∀k,k<n->(T.oc k).length=D.cs k
 ex:∀k,k<n->(T.ex k).length=D.cs k*D.cd k
 be:∀k,k<n->(T.be k).length=D.cs k
 ch:∀k,k<n->(T.ch k).length=D.cs k
structure nnL (D:DPr)(r:List Nat)(lo n:Nat)(I:Nat->Nat->Nat)(T:nnC)(H:nnl):Prop where
 inj:∀k j k' j',k<n->k'<n->j<6->j'<6->I k j=I k' j'->k=k'/\j=j'
 np:∀k j,k<n->j<6->lo<=I k j/\I k j<H.C
 lev:∀k,k<n->H.get (I k 0)=some (.O 0 191 (UY D r I k))
 tab:∀k j,k<n->1<=j->j<6->H.get (I k j)=some (jy T k j)
 len:T.Len D n
variable {T:nnC}
def nnL.nf {lo n:Nat}(h:nnL D r lo n I T H)(hn:H.C<=H'.C)(hk:∀k j,k<n->j<6->H'.get (I k j)=H.get (I k j)):nnL D r lo n I T H' :=
 ⟨h.inj,fun k j h1 h2=>by have:=h.np k j h1 h2;omega,fun k h1=>by rw[hk k 0 h1 U];exact h.lev k h1,fun k j h1 h2 h3=>by rw[hk k j h1 h3];exact h.tab k j h1 h2 h3,h.len⟩
variable {T':nnC}
def nnL.upd {lo n:Nat}(h:nnL D r lo n I T H)(hk:k0<n)(hj1:1<=j0)(hj:j0<6)(hn:H'.C=H.C)(ho:∀i,i≠I k0 j0->H'.get i=H.get i)(hb:H'.get (I k0 j0)=some (jy T' k0 j0))
  (hT:∀k j,k<n->1<=j->j<6->¬(k=k0/\j=j0)->jy T' k j=jy T k j) (hl:T'.Len D n):nnL D r lo n I T' H':=by
 have key:∀k j,k<n->j<6->¬(k=k0/\j=j0)->H'.get (I k j)=H.get (I k j):=fun k j h1 h2 h3=>ho _ fun e=>h3 (h.inj k j k0 j0 h1 hk h2 hj e);refine⟨h.inj,fun k j h1 h2=>by rw[hn];exact h.np k j h1 h2,fun k h1=>by rw[key k 0 h1 U U];exact h.lev k h1,fun k j h1 h2 h3=>?_,hl⟩;by_cases e:k=k0/\j=j0
 ·obtain⟨rfl,rfl⟩:=e;exact hb
 ·rw[key k j h1 h3 e,hT k j h1 h2 h3 e];exact h.tab k j h1 h2 h3
def nnL.U0 {lo n:Nat}(h:nnL D r lo n I T H)(hk:k0<n)(hj1:1<=j0)(hj:j0<6)
  (hT:∀k j,k<n->1<=j->j<6->¬(k=k0/\j=j0)->jy T' k j=jy T k j) (hl:T'.Len D n):nnL D r lo n I T' (H.upd (I k0 j0) (jy T' k0 j0)) :=
 h.upd hk hj1 hj (aw ..) (fun i hi=>by rw[ae,W7 hi]) (by rw[ae,W8 rfl]) hT hl
structure nnD (d:nnb)(r:List Nat)(lo s:Nat)(lvh:nnn)(I:Nat->Nat->Nat)(T:nnC)(tot:Int)(H:nnl):Prop where
 top:H.get s=some (.O 0 184 [.lit (.int .i64 d.nn),.L d.F.length (aG d.F),.lit (.int .u64 (d.nl:Int)),.L d.V.length (aH d.V),lvh,ah (A6 d),ah (A7 d),.lit (.int .i64 tot)])
 slo:lo<=s/\s<H.C
 lv:aB lo H 187 lvh (wW I r.length)
 sep:∀k j,k<r.length->j<6->s≠I k j
 sepl:∀id g n,lvh=.Z id g 0 n 1->id≠s/\∀k j,k<r.length->j<6->id≠I k j
 nD:nnL (oY d r) r lo r.length I T H
theorem nnD.nf {lo s:Nat}(h:nnD d r lo s lvh I T tot H)(hn:H.C<=H'.C)(hk:∀i,lo<=i->i<H.C->H'.get i=H.get i):nnD d r lo s lvh I T tot H' :=
 ⟨by rw[hk s h.slo.1 h.slo.2];exact h.top,by have:=h.slo;omega,h.lv.nf aaz hn fun i g h1 h2 _ _=>hk i h1 h2,h.sep,h.sepl,h.nD.nf hn fun k j h1 h2=>by have:=h.nD.np k j h1 h2;exact hk _ this.1 this.2⟩
theorem nnD.upd {lo s:Nat}(h:nnD d r lo s lvh I T tot H)(hk:k0<r.length)(hj1:1<=j0)(hj:j0<6)
  (hT:∀k j,k<r.length->1<=j->j<6->¬(k=k0/\j=j0)->jy T' k j=jy T k j) (hl:T'.Len (oY d r) r.length):nnD d r lo s lvh I T' tot (H.upd (I k0 j0) (jy T' k0 j0)) :=
 ⟨by rw[ae,W7 (h.sep k0 j0 hk hj)];exact h.top,by rw[aw];exact h.slo,h.lv.nf aaz (by rw[aw];exact Nat.le_refl _) fun i g h1 h2 _ hv=>by rw[ae,W7 ((h.sepl _ _ _ hv).2 k0 j0 hk hj)],h.sep,h.sepl,h.nD.U0 hk hj1 hj hT hl⟩
def Vh (d:nnb):List nnn:=[.lit (.int .i64 d.nn),.L d.F.length (aG d.F),.lit (.int .u64 (d.nl:Int)),.L d.V.length (aH d.V),.lit (.slice none 0 0),ah (A6 d),ah (A7 d),.lit (.int .i64 0)]
structure ExH (d:nnb)(p:List (List Int))(v0 db eb pb rb sb so:Nat)(rv:nnn)(H:nnl):Prop where
 hd:H.get db=some (ko d)
 he:H.get eb=some (.O 0 3 [.lit (.int .i64 v0)])
 hp:H.get pb=some (.O 0 74 [aD p])
 hr:H.get rb=some (.O 0 74 [rv])
 hs:H.get sb=some (.O 0 134 [.Y so 0 0])
 hso:H.get so=some (.O 0 184 (Vh d))
def ExH.nf {p:List (List Int)}{v0 db eb pb rb sb so:Nat}{rv:nnn}(h:ExH d p v0 db eb pb rb sb so rv H)(hk:∀id,id=db\/id=eb\/id=pb\/id=rb\/id=sb\/id=so->H'.get id=H.get id):ExH d p v0 db eb pb rb sb so rv H' :=
 ⟨(hk _ aaw).trans h.hd,(hk _ aaw).trans h.he,(hk _ aaw).trans h.hp,(hk _ aaw).trans h.hr,(hk _ aaw).trans h.hs,(hk _ aaw).trans h.hso⟩
def Vi (hok:nnj d){v:Nat}{x:nna}(hx:d.F[v]?=some x):(dk d.F x:Int)=aL (aW d.F x)/\bB x.J d.F.length/\jt x.J d.F.length/\fh (aW d.F x):=by
 have hxp:bB x.J d.F.length:=by
  have:=(hok.nC.node _ (an (kq (c:=fun _ _=>0) hx))).2;rw[(jm ..).2,js]at this;exact this
 have ps:=nC hok.n.n1.2 hxp hok.n.Q;exact⟨by have:=ps.prod;unfold dk;omega,hxp,fun q hq=>by have:=hxp.2 q hq;omega,ps⟩
def Vc (D:DPr)(be ch:Nat->List Int)(w:Nat):nnC:=⟨fun k=>FM D k w,fun k=>AP D k w,fun k=>wI D k w,be,ch⟩
def Vd (n:Nat)(T T':nnC):Prop:=∀k j,k<n->jy T k j=jy T' k j
def nnD.same {lo s:Nat}(h:nnD d r lo s lvh I T tot H)(ht:Vd r.length T T')(hl:T'.Len (oY d r) r.length):nnD d r lo s lvh I T' tot H :=
 ⟨h.top,h.slo,h.lv,h.sep,h.sepl,⟨h.nD.inj,h.nD.np,h.nD.lev,fun k j h1 h2 h3=>by rw[<- ht k j h1];exact h.nD.tab k j h1 h2 h3,hl⟩⟩
end Go.Proofs
namespace Go.Hx
variable {P:Program}
end Go.Hx
namespace Go.Proofs
open Go.Hx Tryz
def nnD.len {d:nnb}{r:List Nat}{lo s:Nat}{lvh:nnn}{I:Nat->Nat->Nat}{T:nnC}{tot:Int}{H:nnl}(h:nnD d r lo s lvh I T tot H):ef H lvh=some (aa r.length):=by
 have hpl:=UZ I r.length;rcases h.lv with ⟨h1,h2⟩|⟨id,g,_,_,h1,h2⟩
 ·have:r.length=0:=by rw[<- hpl,h2];rfl
  rw[h1,this];rfl
 ·rw[h1];unfold ef;simp[ag h2,hpl,aa]
end Go.Proofs
namespace Go.Hx
variable {P:Program} {t:TypeId} {x y:Operand} {k':IntKind} {a:Int}
end Go.Hx
namespace Go.Proofs
open Go.Hx Tryz
variable {l:List Nat}{g i id j k n:Nat}{f:Nat->Nat}{H:nnl}
def U1 (D:DPr):Nat->List Int:=fun k=>List.replicate (D.cs k) 0
def U2 (D:DPr):Nat->List Int:=fun k=>List.replicate (D.cs k) (-1)
def A5 {d:nnb}:∀(f need:Nat) (out r:List Nat),eg d f need out=some r->r.length<=out.length+f:=by
 intro f
 induction f with
 |zero =>
  intro need out r h;unfold eg at h;split at h
  ·cases h;omega
  ·cases h
 |succ f ih =>
  intro need out r h;unfold eg at h;split at h
  ·cases h;omega
  ·split at h
   ·cases h
   ·have:=ih _ _ r h;rw[List.length_append,X7]at this;omega
def Ei (d:nnb)(r:List Nat)(u:Nat):Blk:=.O 0 157 (iz d r u)
def Ej (d:nnb)(hf:nnm d)(dec:Int)(H:nnl)(K:nnf->nnl->Prop)
  (hE:dJ d=4->K (.ret (.nc [.lit (.pointer none),aa 210])) H)
  (hE2:dJ d≠4->dJ d≠0->K (.ret (.nc [.lit (.pointer none),aa (dJ d)])) H)
  (hN:dJ d=0->dec ∉ av (gF d)->K (.ret (.nc [.lit (.pointer none),aa 2])) H)
  (hK:∀(r:List Nat) (u:Nat) (H':nnl),dJ d=0->gF d=r->dec=u->u∈r->H'=ext H [ko d,Ei d r u]->K (.ret (.nc [.Y (H.C+1) 0 0,aa 0])) H'):
  af prog G0 40 [cM d,aa dec] H K:=by
 refine af.nb ⟨_,func40,rfl,rfl⟩ fun hcl=>?_;refine af.sw (n:=27) (rs:=[.tmp 4,.tmp 5]) func40 ?_;refine W.sq ?_;simp only[go_sem,hJ,dm];obtain⟨H1,hH1⟩:∃H1,H1=ext H [.O 0 38 [.lit (.int .i64 d.nn),.L d.F.length (aG d.F),.lit (.int .u64 (d.nl:Int)),.L d.V.length (aH d.V)]]:=⟨_,rfl⟩
 have g1:=de hH1
 have o1:nnd H H1:=hH1▸.ext _ _
 rw[<- hH1];have l1:=ag g1;refine W.sq ?_;simp only[go_sem,l1];refine aC.nb (Qx d hf H1 _ ⟨trivial,?_⟩);simp only[go_sem];by_cases h4:dJ d=4
 ·refine W.sq ?_;simp only[go_sem,h4];exact ar.bw aO hcl o1 (.nc rfl fun i hi _=>match i,hi with|0,_=>.lit _|1,_=>.lit _) (hE h4)
 refine W.sq ?_;simp only[go_sem,h4];by_cases h0:dJ d=0;rotate_left
 ·refine W.sq ?_;simp only[go_sem,h0];exact ar.bw aO hcl o1 (.nc rfl fun i hi _=>match i,hi with|0,_=>.lit _|1,_=>.lit _) (hE2 h4 h0)
 refine W.sq ?_;simp only[go_sem,h0];have hrl:((av (gF d)).length:Int)<2 ^ 62:=by
  have h1:=hf.F.1;have h2:(ay d).length<=d.F.length:=mb;unfold gF;rw[W8 h0];cases hr:dX d with
  |none=>simp[av]
  |some r =>
   have h3:=A5 _ _ _ _ hr;simp[av]at h3 ⊢;omega
 refine W.sq ?_;simp only[go_sem];refine aC.nb (Ec (av (gF d)) dec hrl H1 _ ⟨trivial,?_⟩);by_cases hm:dec∈av (gF d);rotate_left
 ·rw[XL hm];simp only[go_sem];exact ar.bw aO hcl o1 (.nc rfl fun i hi _=>match i,hi with|0,_=>.lit _|1,_=>.lit _) (hN h0 hm)
 rw[Xy hm];simp only[go_sem];obtain⟨u,hu,rfl⟩:∃u:Nat,u∈gF d/\(u:Int)=dec:=by
  unfold av at hm;obtain⟨u,h1,h2⟩:=Xx.1 hm;exact⟨u,h1,h2⟩
 refine W.vs ?_;simp only[go_sem,l1];refine ar.mk (by rw[hH1,bu,bu];simp;omega) ?_;have:=hK (gF d) u (ext H [ko d,Ei d (gF d) u]) h0 rfl rfl hu rfl;rw[hH1,eT];exact this
structure BldH (d:nnb)(r:List Nat)(lo s n:Nat)(lvh:nnn)(I:Nat->Nat->Nat)(H:nnl):Prop where
 top:H.get s=some (.O 0 184 [.lit (.int .i64 d.nn),.L d.F.length (aG d.F),.lit (.int .u64 (d.nl:Int)),.L d.V.length (aH d.V),lvh,ah (A6 d),ah (A7 d),.lit (.int .i64 0)])
 slo:s<H.C
 lv:aB lo H 187 lvh (wW I n)
 sep:∀k j,k<n->j<6->s≠I k j
 sepl:∀id g m,lvh=.Z id g 0 m 1->id≠s/\∀k j,k<n->j<6->id≠I k j
 nD:nnL (oY d r) r lo n I (Vc (oY d r) (U1 (oY d r)) (U2 (oY d r)) 0) H
 nv:n=0->lvh=.lit (.slice none 0 0)
structure nnC.Rng (D:DPr)(T:nnC):Prop where
 ab:∀k c,0<k->k<D.K->c<D.cs k->0<=(T.ab k).getD c 0/\((T.ab k).getD c 0).toNat<D.cs (k-1)*D.cd (k-1)
 ch:∀k c,k<D.K->c<D.cs k->(T.ch k).getD c 0=-1\/0<=(T.ch k).getD c 0
def ph (l:List Nat)(i j:Nat):List Nat:=(l.set i (l.getD j 0)).set j (l.getD i 0)
def U3 (hi:i<l.length)(hj:j<l.length)(hij:i≠j)(a:Nat):(ph l i j).getD a 0=if a=j then l.getD i 0 else if a=i then l.getD j 0 else l.getD a 0:=by
 unfold ph;rw[AQ _ _ _ _ _ (by rw[Xb];exact hj),AQ _ _ _ _ _ hi];by_cases h1:a=j
 ·rw[W8 h1,W8 h1.symm]
 ·rw[W7 h1,W7 fun h=>h1 h.symm];by_cases h2:a=i
  ·rw[W8 h2,W8 h2.symm]
  ·rw[W7 h2,W7 fun h=>h2 h.symm]
def rm (f:Nat->Nat)(l:List Nat)(n:Nat):Prop:=∀a b,a<b->b<n->f (l.getD a 0)<=f (l.getD b 0)
def tx (f:Nat->Nat)(l:List Nat)(i j:Nat):Prop:=(∀a b,a<b->b<=i->a≠j->b≠j->f (l.getD a 0)<=f (l.getD b 0))/\∀b,j<b->b<=i->f (l.getD j 0)<=f (l.getD b 0)
def U4 (h:rm f l i):tx f l i i:=⟨fun a b h1 h2 h3 h4=>h a b h1 U,fun b h1 h2=>U⟩
def U5 (h:tx f l i j)(hj:j<=i)(hd:j=0\/f (l.getD (j-1) 0)<=f (l.getD j 0)):rm f l (i+1):=by
 intro a b h1 h2;by_cases hb:b=j
 ·subst hb;rcases hd with h0|h0
  ·omega
  ·by_cases ha:a=b-1
   ·rw[ha];exact h0
   ·exact XN (h.1 a (b-1) U U U U) h0
 ·by_cases ha:a=j
  ·subst ha;exact h.2 b h1 (U)
  ·exact h.1 a b h1 U ha hb
def U6 (h:tx f l i j)(hj:j<=i)(hi:i<l.length)(h0:0<j)(hlt:f (l.getD j 0)<f (l.getD (j-1) 0)):tx f (ph l j (j-1)) i (j-1):=by
 have g:=U3 (l:=l) (i:=j) (j:=j-1) U U U;constructor
 ·intro a b h1 h2 h3 h4;rw[g a,g b,W7 h3,W7 h4];by_cases ha:a=j
  ·rw[W8 ha,W7 U];exact h.1 (j-1) b U h2 U (U)
  ·rw[W7 ha];by_cases hb:b=j
   ·rw[W8 hb];exact h.1 a (j-1) U U ha (U)
   ·rw[W7 hb];exact h.1 a b h1 h2 ha hb
 ·intro b h1 h2;rw[g (j-1),W8 rfl,g b,W7 U];by_cases hb:b=j
  ·rw[W8 hb];exact ZA hlt
  ·rw[W7 hb];exact h.2 b U h2
def U7 (hi:i<l.length)(hj:j<l.length):(ph l i j).Perm l:=by
 unfold ph;rw[Xh,Xh,W5 hi,W5 hj];exact List.set_set_perm hi hj
def rp (h:i<l.length):l[i]?=some (l.getD i 0):=by
 rw[Xh,W5 h];rfl
def wX {b:Blk}(h:H.get id=some b):H.upd id b=H:=by
 have e:(fun j=>if j=id then some b else H.get j)=H.get:=by
  funext j
  by_cases hj:j=id
  ·rw[W8 hj,hj,h]
  ·rw[W7 hj]
 show nnl.mk (fun j=>if j=id then some b else H.get j) H.C=H;rw[e]
def wY (H:nnl)(id:Nat)(b c:Blk):(H.upd id b).upd id c=H.upd id c:=by
 unfold nnl.upd;congr 1
 funext j
 by_cases hj:j=id<;>simp[hj]
def bR (l:List Nat):List nnn:=l.map fun (n:Nat)=>aa (n:Int)
def oH (l:List Nat):(bR l).length=l.length:=by simp[bR]
def mZ (h:i<l.length):(bR l)[i]?=some (aa (l.getD i 0:Nat)):=by
 unfold bR;rw[List.getElem?_map,rp h];rfl
def vQ (l:List Nat):bR l=ints (av l):=by unfold bR ints av;rw[List.map_map];rfl
def Aj {a:Nat}(h:i<l.length):setAt (bR l) i [aa (a:Int)]=bR (l.set i a):=by
 rw[vQ];show setAt (ints (av l)) i [.lit (.int .i64 (a:Int))]=_;rw[ki (by simpa[av] using h),vQ];congr 1;unfold av;rw[Zo]
structure nnM (l:List Nat)(j k:Nat)(s:List Nat):Prop where
 len:s.length=l.length
 kj:k<j
 k1:1<=k
 jl:j<=l.length
 rest:∀i,k<=i->s.getD i 0=l.getD i 0
 inc:∀a b,a<b->b<k->s.getD a 0<s.getD b 0
 mem:∀q,(∃a,a<k/\s.getD a 0=q)↔∃a,a<j/\l.getD a 0=q
 last:s.getD (k-1) 0=l.getD (j-1) 0
def qO (l:List Nat):Prop:=∀a b,a<b->b<l.length->l.getD a 0<=l.getD b 0
def nnM.start (hs:qO l)(hk:1<=k)(hkl:k<l.length)(hd:∀a,1<=a->a<k->l.getD a 0≠l.getD (a-1) 0)(he:l.getD k 0=l.getD (k-1) 0):nnM l (k+1) k l:=by
 refine⟨rfl,X6 k,hk,hkl,fun _ _=>rfl,fun a b h1 h2=>?_,fun q=>?_,by rw[Zl,he]⟩
 ·have h3:=hd b U h2;have h4:=hs (b-1) b U U;have h5:l.getD a 0<=l.getD (b-1) 0:=by
   by_cases e:a=b-1
   ·rw[e];exact Nat.le_refl _
   ·exact hs a (b-1) U (U)
  omega
 ·constructor
  ·rintro⟨a,h1,h2⟩;exact⟨a,U,h2⟩
  ·rintro⟨a,h1,h2⟩;by_cases e:a=k
   ·exact⟨k-1,U,by rw[<- he,<- e];exact h2⟩
   ·exact⟨a,U,h2⟩
def nnM.same {s:List Nat}(h:nnM l j k s)(hj:j<l.length)(he:l.getD j 0=l.getD (j-1) 0):nnM l (j+1) k s:=by
 have hkj:=h.kj;have hk1:=h.k1;refine⟨h.len,U,h.k1,hj,h.rest,h.inc,fun q=>?_,by rw[Zl,he];exact h.last⟩;rw[h.mem q];constructor
 ·rintro⟨a,h1,h2⟩;exact⟨a,U,h2⟩
 ·rintro⟨a,h1,h2⟩;by_cases e:a=j
  ·exact⟨j-1,U,by rw[<- he,<- e];exact h2⟩
  ·exact⟨a,U,h2⟩
def nnM.C (hs:qO l){s:List Nat}(h:nnM l j k s)(hj:j<l.length)(hn:l.getD j 0≠l.getD (j-1) 0):nnM l (j+1) (k+1) (s.set k (l.getD j 0)):=by
 have hkj:=h.kj;have hk1:=h.k1;have hsl:=h.len;have g:∀i,(s.set k (l.getD j 0)).getD i 0=if k=i then l.getD j 0 else s.getD i 0:=fun i=>AQ _ _ _ _ _ (U)
 have hlt:l.getD (j-1) 0<l.getD j 0:=by
  have:=hs (j-1) j U hj;omega
 refine⟨by rw[Xb];exact hsl,U,U,hj,fun i hi=>?_,fun a b h1 h2=>?_,fun q=>?_,by rw[Zl,Zl,g,W8 rfl]⟩
 ·rw[g,W7 U];exact h.rest i (U)
 ·rw[g,g,W7 U];by_cases e:b=k
  ·rw[W8 e.symm];have h3:s.getD a 0<=s.getD (k-1) 0:=by
    by_cases e2:a=k-1
    ·rw[e2];exact Nat.le_refl _
    ·exact ZA (h.inc a (k-1) U U)
   rw[h.last]at h3;omega
  ·rw[W7 fun h=>e h.symm];exact h.inc a b h1 (U)
 ·constructor
  ·rintro⟨a,h1,h2⟩;rw[g]at h2;by_cases e:k=a
   ·rw[W8 e]at h2;exact⟨j,U,h2⟩
   ·rw[W7 e]at h2;obtain⟨b,h3,h4⟩:=(h.mem q).1 ⟨a,U,h2⟩;exact⟨b,U,h4⟩
  ·rintro⟨a,h1,h2⟩;by_cases e:a=j
   ·exact⟨k,U,by rw[g,W8 rfl,<- e];exact h2⟩
   ·obtain⟨b,h3,h4⟩:=(h.mem q).2 ⟨a,U,h2⟩;exact⟨b,U,by rw[g,W7 U];exact h4⟩
structure Comp (l r:List Nat):Prop where
 inc:r.Pairwise (·<·)
 mem:∀q,q∈r↔q∈l
def Ed {q:Nat}:q∈l↔∃a,a<l.length/\l.getD a 0=q:=by
 constructor
 ·intro h;obtain⟨a,ha⟩:=Xg.1 h;exact⟨a,get_lt ha,Uo ha⟩
 ·rintro⟨a,h1,rfl⟩;exact an (rp h1)
def nnM.done {s:List Nat}(h:nnM l l.length k s):Comp l (s.take k):=by
 have hkj:=h.kj;have hsl:=h.len;have g:∀a,a<k->(s.take k).getD a 0=s.getD a 0:=fun a ha=>by
  rw[Xh,Xh,XC ha]
 have hl:(s.take k).length=k:=by rw[Xm];omega
 refine⟨Yr.2 fun a b ha hb hab=>?_,fun q=>?_⟩
 ·have e1:=rp (l:=s.take k) ha;have e2:=rp (l:=s.take k) hb;rw[W5 ha]at e1;rw[W5 hb]at e2;rw[Option.some.inj e1,Option.some.inj e2,g a U,g b U];exact h.inc a b hab (U)
 ·rw[Ed,Ed,<- h.mem q,hl];constructor
  ·rintro⟨a,h1,h2⟩;exact⟨a,h1,by rw[<- g a h1];exact h2⟩
  ·rintro⟨a,h1,h2⟩;exact⟨a,h1,by rw[g a h1];exact h2⟩
def Ef (hs:qO l)(hd:∀a,1<=a->a<l.length->l.getD a 0≠l.getD (a-1) 0):Comp l l:=by
 refine⟨Yr.2 fun a b ha hb hab=>?_,fun q=>Iff.rfl⟩;have e1:=rp (l:=l) ha;have e2:=rp (l:=l) hb;rw[W5 ha]at e1;rw[W5 hb]at e2;rw[Option.some.inj e1,Option.some.inj e2];have h3:=hd b U hb;have h4:=hs (b-1) b U hb;have h5:l.getD a 0<=l.getD (b-1) 0:=by
  by_cases e:a=b-1
  ·rw[e];exact Nat.le_refl _
  ·exact hs a (b-1) U (U)
 omega
def Sd (h:rm (fun a=>a) l l.length):qO l:=h
def Se {ps:List Int}{S:Nat}(hp:bB ps n)(hS:S<2 ^ n){r:List Nat}(hl:∀q,q∈l↔(q:Int)∈ps\/S.testBit q=true)(h:Comp l r):av r=ct (bc ps |||S) n:=by
 refine Af ?_ (wB _ _) fun q=>?_
 ·unfold av;exact List.Pairwise.map _ (R:=(·<·)) (fun a b h=>U) h.inc
 ·rw[kZ];unfold av;constructor
  ·intro hq;obtain⟨v,hv,rfl⟩:=Xx.1 hq;have h1:=(hl v).1 ((h.mem v).1 hv);refine⟨v,rfl,?_,?_⟩
   ·rcases h1 with h1|h1
    ·have:=hp.2 _ h1;omega
    ·exact Yu fun hn=>by
      rw[Yf (Xd hS (Xq aax hn))]at h1;cases h1
   ·rw[XB,XU];refine h1.imp (fun h1=>?_) (fun h2=>h2);rw[fU fun p hq=>(hp.2 p hq).1];exact Xy h1
  ·rintro⟨v,rfl,_,hb⟩;refine Xx.2 ⟨v,(h.mem v).2 ((hl v).2 ?_),rfl⟩;rw[XB,XU]at hb;refine hb.imp (fun h1=>?_) (fun h2=>h2);rw[fU fun p hq=>(hp.2 p hq).1]at h1;exact of_decide_eq_true h1
def U9 {s:ByteArray}{F:nnn->Prop}(hs:s.size=256)(hi:i<256)(h:∀L:Nat,L<256->F (.lit (.int .u8 (L:Int)))):bd (mr prog 9 (.lit (.string s)) (.lit (.int .u8 (i:Int)))) F:=by
 have ix:mr prog 9 (.lit (.string s)) (.lit (.int .u8 (i:Int)))=some (.lit (.int .u8 (((s[i]!).toNat:Nat):Int))):=by
  unfold mr;simp only[];have e1:s[i]?=some s[i]!:=by
   rw[getElem!_pos s i U];exact getElem?_pos s i (U)
  have ht:prog.underlying 9=some .string:=Tryz.underlying9;simp[Instr.index,asIntOf,underlying,program,ht,cE,bind,Sem.bind,pure,e1]
 rw[ix,mz];exact h _ (UInt8.toNat_lt _)
def Va (h12:n<=12)(H:nnl)(K:nnf->nnl->Prop)(hK:∀L:Nat,L<256->K (.ret (aa L)) H):af prog G0 162 [.lit (.int .u64 (n:Int))] H K:=by
 have h1:¬(4294967296:Int)<=(n:Int):=U
 have h2:¬(65536:Int)<=(n:Int):=U
 have h3:¬(256:Int)<=(n:Int):=U
 have ww:IntKind.u8.wrap ((n:Nat):Int)=(n:Int):=by simp[IntKind.wrap,IntKind.bits,IntKind.signed];omega
 refine af.sw (n:=25) (rs:=[.tmp 2]) func162 ?_;refine W.sq ?_;simp only[go_sem];refine W.sq ?_;simp only[go_sem,h1];refine W.sq ?_;simp only[go_sem,h2];refine W.sq ?_;simp only[go_sem,h3];refine W.vs ?_;simp only[go_sem,ww];refine U9 aay U fun L hL=>?_;have w:IntKind.i64.wrap (0+(L:Int))=(L:Int):=by rw[Int.zero_add];exact W6 (L:Int) (U)
 have w0:=W6 (L:Int) U;simp only[go_sem,w0,w];exact ar.mk aaz (hK L hL)
def Vb (h12:n<=12)(H:nnl)(K:nnf->nnl->Prop)(hK:∀L:Nat,L<256->K (.ret (aa L)) H):af prog G0 127 [.lit (.int .u64 (n:Int))] H K:=by
 refine af.sw (n:=8) (rs:=[.tmp 2]) func127 ?_;refine W.vs ?_;simp only[go_sem];refine aC.nb (Va h12 H _ fun L hL=>⟨trivial,?_⟩);simp only[go_sem];exact ar.mk aaz (hK L hL)
def Si (a:Int)(H:nnl)(K:nnf->nnl->Prop)(hK:K (.ret (.lit (.bool false))) H):af prog G0 183 [aa a] H K:=by
 have h0:(a == a)=true:=aaw
 refine af.st (n:=6) (rs:=[.tmp 2]) func183 ?_;simp only[go_sem];exact ar.mk aaz hK
def Sj (a b:Int)(H:nnl)(K:nnf->nnl->Prop)(hK:K (.ret (.lit (.bool (decide (a<b))))) H):af prog G0 158 [aa a,aa b] H K:=by
 refine af.st (n:=17) (rs:=[.tmp 4]) func158 ?_;simp only[go_sem];refine aC.nb (Si a H _ ⟨trivial,?_⟩);simp only[go_sem];by_cases h:a<b
 ·rw[Xy h]at hK;simp only[go_sem,h];exact ar.mk aaz hK
 ·rw[XL h]at hK;simp only[go_sem,h];exact ar.mk aaz hK
def Sk (hl:l.length<=64)(hm:∀a∈l,a<64)(H:nnl)(hid:H.get id=some (.O g 3 (bR l)))(K:nnf->nnl->Prop)
  (hK:∀l' H',H'=H.upd id (.O g 3 (bR l'))->l'.Perm l->rm (fun a=>a) l' l.length->K (.ret (.nc [])) H'):
  af prog G0 152 [.Z id g 0 l.length 1,aa 0,aa l.length] H K:=by
 refine af.sw (n:=49) (rs:=[]) func152 ?_;refine W.sq ?_;simp only[go_sem];refine W.env fun E hE=>?_;have e0:E 0=.Z id g 0 l.length 1:=by rw[hE];simp only[go_sem]
 have e1:E 1=aa 0:=by rw[hE];simp only[go_sem]
 have e2:E 2=aa l.length:=by rw[hE];simp only[go_sem]
 have e6:E 6=aa 1:=by rw[hE];simp only[go_sem];rfl
 clear hE;refine W.block ?_;refine W.aM 562949953420480 (by rfl) (fun ρ Hx=>∃(i:Nat) (q:List Nat),ρ 6=aa i/\1<=i/\(i=1\/i<=l.length)/\q.Perm l/\rm (fun a=>a) q i/\Hx=H.upd id (.O g 3 (bR q))) (fun ρ Hx=>l.length-(iv (ρ 6)).toNat) ?_ ?_
 ·refine⟨1,l,e6,U,.inl rfl,.refl _,fun a b h1 h2=>U,(wX hid).symm⟩
 rintro ρ Hx ⟨i,q,h6,hi1,hi,hq,hS,hHx⟩;have ql:=hq.length_eq;refine W.en (fun E1=>E1 0=.Z id g 0 l.length 1 /\ E1 1=aa 0 /\ E1 2=aa l.length /\ E1 6=aa i) (by simp only[go_sem,e0,e1,e2,h6]) fun E1 ⟨f0,f1,f2,f6⟩=>?_
 by_cases hb:(i:Int)<l.length;rotate_left
 ·refine W.vs ?_;simp only[go_sem,f6,f2,hb];refine ar.mk (by rw[hHx,aw];exact Nat.le_refl _) (hK q Hx hHx hq fun a b h1 h2=>?_);rcases hi with h|h
  ·omega
  ·exact hS a b h1 (U)
 refine W.sq ?_;simp only[go_sem,f6,f2,hb];refine W.seq (W.block ?_);refine W.sq ?_;simp only[go_sem,f6];refine W.en (fun E2=>E2 0=.Z id g 0 l.length 1 /\ E2 1=aa 0 /\ E2 2=aa l.length /\ E2 6=aa i /\ E2 7=aa i) (by simp only[go_sem,f0,f1,f2,f6]) fun E2 ⟨m0,m1,m2,m6,m7⟩=>?_
 refine W.block ?_;refine W.aM 562949953355904 (by rfl) (fun ρ Hz=>∃(j:Nat) (p:List Nat),ρ 7=aa j/\j<=i/\p.Perm l/\tx (fun a=>a) p i j/\Hz=H.upd id (.O g 3 (bR p))) (fun ρ Hz=>(iv (ρ 7)).toNat) ?_ ?_
 ·exact⟨i,q,m7,aaz,hq,U4 hS,hHx⟩
 rintro ρ2 Hz ⟨j,p,h7,hj,hp,hIn,hHz⟩;have pl:=hp.length_eq;refine W.en (fun E3=>E3 0=.Z id g 0 l.length 1 /\ E3 1=aa 0 /\ E3 2=aa l.length /\ E3 6=aa i /\ E3 7=aa j) (by simp only[go_sem,m0,m1,m2,m6,h7]) fun E3 ⟨u0,u1,u2,u6,u7⟩=>?_
 have gz:Hz.get id=some (.O g 3 (bR p)):=by rw[hHz,ae,W8 rfl]
 have lz:=ag gz;have plen:=oH p;refine W.seq (W.dI (fun s'=>s'.H=Hz/\s'.ρ 0=.Z id g 0 l.length 1/\s'.ρ 6=aa i/\s'.ρ 7=aa j/\s'.ρ 30=.lit (.bool (decide (0<j) && decide (p.getD j 0<p.getD (j-1) 0)))) ?_ ?_)
 ·refine W.dr 13 [0,0,3,7,15,15,63,127,15,15,527,1807,3855] mixed ?_;by_cases hjb:(j:Int) > 0
  ·have wj:=W6 ((j:Int)-1) U;have cj:((j:Int)-1).toNat=j-1:=U;have gj:=mZ (l:=p) (i:=j) U;have gj1:=mZ (l:=p) (i:=j-1) U;have gjn:=aS gj;have gj1n:=aS gj1;have b1:(j:Int)<l.length:=U;have b2:(j:Int)-1<l.length:=U;have b3:(0:Int)<=(j:Int)-1:=U;simp only[go_sem,u0,u1,u7,lz,hjb,wj,cj,gj,gj1,b1,b2,b3];refine aC.nb (Sj _ _ Hz _ ⟨trivial,?_⟩);have hd1:decide (0<j)=true:=Xy U;rw[hd1];by_cases hlt:p.getD j 0<p.getD (j-1) 0
   ·have hlt':((p.getD j 0:Nat):Int)<(p.getD (j-1) 0:Nat):=U;rw[Xy hlt,Xy hlt'];simp only[go_sem,u0,u6,u7]
    try rfl
   ·have hlt':¬((p.getD j 0:Nat):Int)<(p.getD (j-1) 0:Nat):=U;rw[XL hlt,XL hlt'];simp only[go_sem,u0,u6,u7]
    try rfl
  ·simp only[go_sem,u0,u1,u6,u7,hjb];have hj0:j=0:=U;subst hj0;rfl
 rintro⟨ρ3,Hq⟩ ⟨hHq,v0,v6,v7,v30⟩;simp only at hHq v0 v6 v7 v30;rw[hHq];clear hHq Hq;cases hfl:(decide (0<j) && decide (p.getD j 0<p.getD (j-1) 0)) with
 |false =>
  rw[hfl]at v30;refine W.cond (t:=false) v30 ?_;refine W.vs ?_;simp only[go_sem];have wi:=W6 ((i:Int)+1) U;have hd:j=0\/p.getD (j-1) 0<=p.getD j 0:=by
   by_cases h0:j=0
   ·exact .inl h0
   ·rw[Xy (by omega:0<j),Bool.true_and,YL]at hfl;exact .inr (U)
  have hS':=U5 hIn hj hd;refine W.vs ?_;simp only[go_sem,v6,wi];exact⟨by rw[hHz,aw];exact Nat.le_refl _,⟨i+1,p,rfl,U,.inr U,hp,hS',hHz⟩,by rw[h6];simp only[aa,aI];omega⟩
 |true =>
  rw[hfl]at v30;refine W.cond (t:=true) v30 ?_;have hfl2:0<j/\p.getD j 0<p.getD (j-1) 0:=by simpa using hfl
  have wj:=W6 ((j:Int)-1) U;have cj:((j:Int)-1).toNat=j-1:=U
  have gj:=mZ (l:=p) (i:=j) U;have gj1:=mZ (l:=p) (i:=j-1) U;have gjn:=aS gj;have gj1n:=aS gj1;have b1:(j:Int)<l.length:=U
  have b2:(j:Int)-1<l.length:=U
  have b3:(0:Int)<=(j:Int)-1:=U
  have s1:setAt (bR p) j [.lit (.int .i64 ((p.getD (j-1) 0:Nat):Int))]=bR (p.set j (p.getD (j-1) 0)):=Aj U;have s2:setAt (bR (p.set j (p.getD (j-1) 0))) (j-1) [.lit (.int .i64 ((p.getD j 0:Nat):Int))]=bR (ph p j (j-1)):=Aj (by rw[Xb];omega);have plen2:=oH (p.set j (p.getD (j-1) 0));rw[Xb]at plen2;refine W.vs ?_;simp only[go_sem];refine W.seq (W.block ?_);refine W.dr 16 [0,0,0,0,8,0,0,64,224,480,0,0,3072,7168,16355,32739] mixed ?_;simp only[go_sem,v0,v7,lz,plen,pl,wj,cj,gj,gj1,b1,b2,b3,s1,s2,plen2];refine⟨U,U,nX _ _ _ (by rfl) ?_⟩;simp only[go_sem,v7,wj];refine⟨by rw[hHx,hHz];simp only[aw];exact Nat.le_refl _,⟨j-1,ph p j (j-1),?_,U,(U7 U U).trans hp,U6 hIn hj U hfl2.1 hfl2.2,?_⟩,by rw[h7];simp only[aa,aI];omega⟩
  ·congr 2;omega
  ·rw[hHz,wY,wY]
def Sl {L:Nat}(h12:l.length<=12)(hm:∀a∈l,a<64)(H:nnl)(hid:H.get id=some (.O g 3 (bR l)))(K:nnf->nnl->Prop)
  (hK:∀l' H',H'=H.upd id (.O g 3 (bR l'))->l'.Perm l->rm (fun a=>a) l' l.length->K (.ret (.nc [])) H'):
  af prog G0 126 [.Z id g 0 l.length 1,aa 0,aa l.length,aa L] H K:=by
 have wn:IntKind.i64.wrap ((l.length:Int)-0)=(l.length:Int):=by rw[aao];exact W6 (l.length:Int) (U)
 have hb:(l.length:Int)<=12:=U
 refine af.sw (n:=134) (rs:=[]) func126 ?_;refine W.sq ?_;simp only[go_sem];refine W.sq ?_;simp only[go_sem];refine W.en (fun E=>E 0=.Z id g 0 l.length 1 /\ E 1=aa 0 /\ E 2=aa l.length) (by simp only[go_sem]) fun E ⟨e0,e1,e2⟩=>?_
 refine W.block ?_;refine W.aM 21778071482940061661655974875633165532942 aay (fun ρ Hx=>ρ 0=.Z id g 0 l.length 1/\ρ 1=aa 0/\ρ 2=aa l.length/\Hx=H) (fun ρ Hx=>0) ?_ ?_
 ·exact⟨e0,e1,e2,rfl⟩
 rintro ρ Hx ⟨h0,h1,h2,hHx⟩;refine W.en (fun E1=>E1 0=.Z id g 0 l.length 1 /\ E1 1=aa 0 /\ E1 2=aa l.length) (by simp only[go_sem,h0,e0,h1,h2]) fun E1 ⟨f0,f1,f2⟩=>?_
 rw[hHx];refine W.block ?_;refine W.sq ?_;simp only[go_sem,f1,f2,wn];refine W.sq ?_;simp only[go_sem,hb,f0,f1,f2];refine aC.nb (Sk U hm H hid _ fun l' H' e1 e2 e3=>⟨trivial,?_⟩);simp only[go_sem];exact ar.mk (by rw[e1,aw];exact Nat.le_refl _) (hK l' H' e1 e2 e3)
def Sm (h12:l.length<=12)(hm:∀a∈l,a<64)(H:nnl)(hid:H.get id=some (.O g 3 (bR l)))(K:nnf->nnl->Prop)
  (hK:∀l' H',H'=H.upd id (.O g 3 (bR l'))->l'.Perm l->qO l'->K (.ret (.nc [])) H'):
  af prog G0 89 [.Z id g 0 l.length 1] H K:=by
 have wn:IntKind.u64.wrap ((l.length:Nat):Int)=(l.length:Int):=by simp[IntKind.wrap,IntKind.bits,IntKind.signed];omega
 have lv:=ag hid;have cl:=oH l;refine af.sw (n:=11) (rs:=[]) func89 ?_;refine W.sq ?_;simp only[go_sem,lv];refine W.vs ?_;simp only[go_sem,wn];refine aC.nb (Vb h12 H _ fun L hL=>⟨trivial,?_⟩);simp only[go_sem];refine aC.nb (Sl h12 hm H hid _ fun l' H' e1 e2 e3=>⟨trivial,?_⟩);simp only[go_sem];exact ar.mk (by rw[e1,aw];exact Nat.le_refl _) (hK l' H' e1 e2 (by rw[<- e2.length_eq]at e3;exact Sd e3))
def builtin_clear {P:Program}(H:nnl)(id:Nat)(t:TypeId)(x:nnn):fE P H id .clear [t] [x]=ij P H t x:=rfl
def Sn {s:List Nat}(hg:H.get id=some (.O g 3 (bR s)))(hk:k<=s.length):
  ∃q H',ij prog H 72 (.Z id g k (s.length-k) 1)=some (.nc [],H')/\H'=H.upd id (.O g 3 (bR (s.take k++q))):=by
 have lv:=ag hg;have hu:prog.underlying 72=some (.slice 3):=Tryz.underlying72;by_cases h0:s.length-k=0
 ·refine⟨[],H,?_,?_⟩
  ·unfold ij;rw[hu];simp only[lv,Option.bind_some];rw[W8 h0]
  ·have e:s.take k++[]=s:=(by rw[List.append_nil,W9 U]);rw[e];exact(wX hg).symm
 ·refine⟨List.replicate (s.length-k) 0,_,?_,rfl⟩;have hz:jc prog 3 (s.length-k)=some (List.replicate (s.length-k) (aa 0)):=by
   rw[CB,Tryz.eh];show some (List.replicate (s.length-k) [aa 0]).flatten=_;congr 1;exact CC ..
  unfold ij;rw[hu];simp only[lv,Option.bind_some];rw[W7 h0,hz];simp only[Option.bind_some];rw[W8 ⟨aaw,by rw[oH];omega,by simp[aa,nnn.one,Value.oneCell]⟩];have e:setAt (bR s) k (List.replicate (s.length-k) (aa 0))=bR (s.take k++List.replicate (s.length-k) 0):=by
   unfold setAt bR;rw[X2,List.map_take,YR,XH,aaj (by simp;omega),List.append_nil];rfl
  rw[e]
def So (hs:qO l)(h64:l.length<=64)(H:nnl)(hid:H.get id=some (.O g 3 (bR l)))(hlt:id<H.C)(K:nnf->nnl->Prop)
  (hK:∀r q H',H'=H.upd id (.O g 3 (bR (r++q)))->Comp l r->K (.ret (.Z id g 0 r.length 1)) H'):
  af prog G0 90 [.Z id g 0 l.length 1] H K:=by
 have lv:=ag hid;have cl:=oH l;have self:∀r:List Nat,r=l->Comp l r->K (.ret (.Z id g 0 l.length 1)) H:=fun r e hc=>by
  subst e;exact hK r [] H (by rw[List.append_nil];exact(wX hid).symm) hc
 by_cases h2:(l.length:Int)<2
 ·refine af.sw (n:=61) (rs:=[.tmp 2]) func90 ?_;refine W.sq ?_;simp only[go_sem];refine W.sq ?_;simp only[go_sem,lv,h2];exact ar.mk aaz (self l rfl (Ef hs fun a h1 h3=>U))
 refine af.sw (n:=61) (rs:=[.tmp 2]) func90 ?_;refine W.sq ?_;simp only[go_sem];refine W.sq ?_;simp only[go_sem,lv,h2];refine W.en (fun E=>E 0=.Z id g 0 l.length 1) (by simp only[go_sem]) fun E e0=>?_
 refine W.sq ?_;simp only[go_sem];refine W.env fun E1 hE1=>?_;have f0:E1 0=.Z id g 0 l.length 1:=by rw[hE1];simp only[go_sem,e0]
 have f3:E1 3=aa 1:=by rw[hE1];simp only[go_sem]
 clear hE1;refine W.aM 1152921504606846012 (by rfl) (fun ρ Hx=>∃k:Nat,ρ 3=aa k/\1<=k/\k<=l.length/\Hx=H/\∀a,1<=a->a<k->l.getD a 0≠l.getD (a-1) 0) (fun ρ _=>l.length-(iv (ρ 3)).toNat) ?_ ?_
 ·exact⟨1,f3,U,U,rfl,fun a h1 h3=>U⟩
 rintro ρ Hx ⟨k,h3,hk1,hkl,hHx,hd⟩;rw[hHx];refine W.en (fun E2=>E2 0=.Z id g 0 l.length 1 /\ E2 3=aa k) (by simp only[go_sem,f0,h3]) fun E2 ⟨m0,m3⟩=>?_
 by_cases hb:(k:Int)<l.length;rotate_left
 ·refine W.vs ?_;simp only[go_sem,m0,m3,lv,hb];refine W.vs ?_;simp only[go_sem,m0];obtain rfl:k=l.length:=U
  exact ar.mk aaz (self l rfl (Ef hs hd))
 have wk:=W6 ((k:Int)+1) U;have wm:=W6 ((k:Int)-1) U;have ck:((k:Int)-1).toNat=k-1:=U
 have gk:=mZ (l:=l) (i:=k) U;have gk1:=mZ (l:=l) (i:=k-1) U;have gkn:=aS gk;have gk1n:=aS gk1;have b1:(0:Int)<=(k:Int)-1:=U
 have b2:(k:Int)-1<l.length:=U
 refine W.sq ?_;simp only[go_sem,m0,m3,lv,hb];refine W.seq (W.block ?_);refine W.seq ?_;refine W.dr 9 [0,0,3,7,0,0,32,112,240] mixed ?_;simp only[go_sem,m0,m3,lv,hb,wm,ck,gk,gk1,b1,b2];by_cases he:l.getD k 0=l.getD (k-1) 0;rotate_left
 ·have heI:¬((l.getD k 0:Nat):Int)=(l.getD (k-1) 0:Nat):=U
  simp only[go_sem,heI];refine W.cond (t:=false) (by simp only[go_sem]) ?_;refine W.vs ?_;simp only[go_sem];refine W.vs ?_;simp only[go_sem,m3,wk];exact⟨⟨k+1,rfl,U,U,fun a h1 h4=>by
   by_cases e:a=k
   ·rw[e];exact he
   ·exact hd a h1 U⟩,by rw[h3];simp only[aa,aI];omega⟩
 have heI:((l.getD k 0:Nat):Int)=(l.getD (k-1) 0:Nat):=U
 simp only[go_sem,heI];refine W.cond (t:=true) (by simp only[go_sem]) ?_;have bk:(k:Int)<=l.length:=U
 have bn:k<=l.length:=U
 refine W.sq ?_;simp only[go_sem,m0,m3,lv,bk];refine W.en (fun E3=>E3 0=.Z id g 0 l.length 1 /\ E3 3=aa k /\ E3 4=.Z id g k (l.length-k) 1) (by simp only[go_sem,m0,m3]) fun E3 ⟨u0,u3,u4⟩=>?_
 refine W.seq ?_;refine W.sq ?_;simp only[go_sem];refine W.env fun E4 hE4=>?_;have v0:E4 0=.Z id g 0 l.length 1:=by rw[hE4];simp only[go_sem,u0]
 have v3:E4 3=aa k:=by rw[hE4];simp only[go_sem,u3]
 have v4:E4 4=.Z id g k (l.length-k) 1:=by rw[hE4];simp only[go_sem,u4]
 have v5:E4 5=aa 1:=by rw[hE4];simp only[go_sem]
 clear hE4;refine W.block ?_;refine W.aM 18014397972611112 (by rfl) (fun ρ Hx=>∃(k2 k3:Nat) (q:List Nat),ρ 5=aa k2/\1<=k2/\k2<=l.length-k/\ρ 3=aa k3/\nnM l (k+k2) k3 q/\Hx=H.upd id (.O g 3 (bR q))) (fun ρ _=>(l.length-k)-(iv (ρ 5)).toNat) ?_ ?_
 ·exact⟨1,k,l,v5,U,U,v3,.start hs hk1 U hd he,(wX hid).symm⟩
 rintro ρ2 Hy ⟨k2,k3,q,h5,hk2,hk2l,h3',hC,hHy⟩;have ql:=hC.len;have kj:=hC.kj;have k31:=hC.k1;have gq:Hy.get id=some (.O g 3 (bR q)):=by rw[hHy,ae,W8 rfl]
 have lq:=ag gq;have cq:=oH q;rw[ql]at cq;refine W.en (fun E5=>E5 0=.Z id g 0 l.length 1 /\ E5 3=aa k3 /\ E5 4=.Z id g k (l.length-k) 1 /\ E5 5=aa k2) (by simp only[go_sem,v0,h3',v4,h5]) fun E5 ⟨x0,x3,x4,x5⟩=>?_
 by_cases hb2:(k2:Int)<((l.length-k:Nat):Int)
 rotate_left
 ·have b3:(k3:Int)<=l.length:=U
  have b3n:k3<=l.length:=U
  obtain⟨z,H2,hz,hH2⟩:=Sn gq (k:=k3) U;rw[ql]at hz;refine W.vs ?_;simp only[go_sem,x4,x5,lq,hb2];have h4:k+k2=l.length:=U
  rw[h4]at hC;have hR:=hC.done;have hrl:(q.take k3).length=k3:=by rw[Xm];omega
  have lq2:H2.na id g=some (3,bR (q.take k3++z)):=ag (by rw[hH2,ae,W8 rfl]);refine W.vs ?_;simp only[go_sem,x0,x3,lq,b3,builtin_clear,hz,lq2];have hKr:=hK (q.take k3) z H2 (by rw[hH2,hHy,wY]) hR;rw[hrl]at hKr;exact ar.mk (by rw[hH2,hHy];simp only[aw];exact Nat.le_refl _) hKr
 have w2:=W6 ((k2:Int)+1) U;have w3:=W6 ((k3:Int)+1) U;have w2m:=W6 ((k2:Int)-1) U;have c2:((k2:Int)-1).toNat=k2-1:=U
 have r0:=hC.rest (k+k2) U;have r1:=hC.rest (k+(k2-1)) U;have g0:=mZ (l:=q) (i:=k+k2) U;have g1:=mZ (l:=q) (i:=k+(k2-1)) U;have g0n:=aS g0;have g1n:=aS g1;have b4:(0:Int)<=(k2:Int)-1:=U
 have b5:(k2:Int)-1<((l.length-k:Nat):Int):=U
 refine W.sq ?_;simp only[go_sem,x4,x5,lq,hb2];refine W.seq (W.block ?_);refine W.seq ?_;refine W.dr 9 [0,0,3,7,0,0,32,112,240] mixed ?_;simp only[go_sem,x4,x5,lq,hb2,w2m,c2,g0,g1,b4,b5];have ek:k+k2-1=k+(k2-1):=U
 by_cases he2:q.getD (k+k2) 0=q.getD (k+(k2-1)) 0
 ·have heI2:((q.getD (k+k2) 0:Nat):Int)=(q.getD (k+(k2-1)) 0:Nat):=U
  have hel:l.getD (k+k2) 0=l.getD (k+k2-1) 0:=by rw[ek,<- r0,<- r1];exact he2
  refine W.cond (t:=false) (by simp only[go_sem,heI2]) ?_;refine W.vs ?_;simp only[go_sem];refine W.vs ?_;simp only[go_sem,x5,w2];exact⟨by rw[hHy,aw];exact Nat.le_refl _,⟨k2+1,k3,q,rfl,U,U,x3,hC.same U hel,hHy⟩,by rw[h5];simp only[aa,aI];omega⟩
 have heI2:¬((q.getD (k+k2) 0:Nat):Int)=(q.getD (k+(k2-1)) 0:Nat):=U
 have hel:¬l.getD (k+k2) 0=l.getD (k+k2-1) 0:=by rw[ek,<- r0,<- r1];exact he2
 have b6:(k3:Int)<l.length:=U
 have b7:k3<l.length:=U
 have es:setAt (bR q) k3 [.lit (.int .i64 ((q.getD (k+k2) 0:Nat):Int))]=bR (q.set k3 (l.getD (k+k2) 0)):=by rw[r0];exact Aj (U)
 refine W.cond (t:=true) (by simp only[go_sem,heI2]) ?_;refine W.vs ?_;simp only[go_sem,x0,x3,x4,x5,lq,cq,hb2,g0,b6,es,w3];refine⟨U,nX _ _ _ (by rfl) ?_⟩;simp only[go_sem,x5,w2];refine⟨by rw[aw,hHy,aw];exact Nat.le_refl _,⟨k2+1,k3+1,q.set k3 (l.getD (k+k2) 0),rfl,U,U,rfl,hC.C hs U hel,by rw[hHy,wY]⟩,by rw[h5];simp only[aa,aI];omega⟩
end Go.Proofs
namespace Go.Hx
variable {P:Program} {G:Nat->Option (List nnn)} {H:nnl}
def jK.Sg {e:TypeId}:jK P G H (.lit (.slice none 0 0)) (ext H [.O 0 e []]) (.Z H.C 0 0 0 1):=by
  intro Γ w R;have hΓ:Γ H.C=none:=by
    cases h:Γ H.C with
    |none=>rfl
    |some x =>
      obtain⟨y,hy⟩:=R.nB _ _ h;have:=R.C _ _ hy;omega
  have new:(ext H [.O 0 e []]).get H.C=some (.O 0 e []):=bV;have ng:∀j,j≠H.C->(ext H [.O 0 e []]).get j=H.get j:=fun j hj=>by
    show (if H.C<=j/\j<H.C+1 then _ else H.get j)=H.get j;rw[W7 U]
  have E:Evo Γ H w Γ (ext H [.O 0 e []]) w:=⟨rfl,rfl,rfl,aaz,fun _ _ h=>⟨rfl,h⟩,fun id h1 _ x' hx=>⟨x',(by rw[ng id U]at hx;exact hx),Blk.le_refl _ _ _⟩,fun _ _=>rfl,.refl _,.refl _ _⟩
  have hn:H.C<=(ext H [.O 0 e []]).C:=Yb _;refine⟨Γ,?_,E,fun cv h=>?_⟩
  · exact
      { O:=fun j g e1 cells h1=>by
          by_cases hj:j=H.C
          · subst hj;rw[new]at h1;cases h1;rw[hΓ]
          · rw[ng j hj]at h1;have h2:=R.O j g e1 cells h1;cases hΓj:Γ j with
            |none=>rw[hΓj]at h2;exact h2
            |some y =>
              obtain⟨b,base,n⟩:=y;rw[hΓj]at h2;obtain⟨c,a1,a2,a3,a4⟩:=h2;exact⟨c,a1,a2,a3,fun i hi=>let ⟨cv,b1,b2⟩:=a4 i hi;⟨cv,b1,b2.aU E hn⟩⟩
        loop:=fun j st pend n env ps asg body h1=>by
          have hj:j≠H.C:=fun h=>by rw[h,new]at h1;cases h1
          rw[ng j hj]at h1;obtain⟨b,rr,a1,a2,a3,a4,a5,a6,a7,a8,a9⟩:=R.loop j st pend n env ps asg body h1;exact⟨b,rr,a1,a2,a3,a4,a5,a6,a7,a8,fun t ht=>(a9 t ht).aU E hn⟩
        mp:=fun j es h1=>by
          have hj:j≠H.C:=fun h=>by rw[h,new]at h1;cases h1
          rw[ng j hj]at h1;exact R.mp j es h1
        nj:=fun j h1=>by
          have hj:j≠H.C:=fun h=>by rw[h,new]at h1;cases h1
          rw[ng j hj]at h1;exact R.nj j h1
        inj:=R.inj
        nB:=fun j x hx=>by
          obtain⟨y,hy⟩:=R.nB j x hx;have:=R.C j y hy;exact⟨y,by rw[ng j U];exact hy⟩
        lt:=R.lt
        C:=fun j y h1=>by
          by_cases hj:j=H.C
          · subst hj;exact X6 _
          · rw[ng j hj]at h1;exact Xd (R.C j y h1) hn
        nz:=fun g cells h=>(R.nz g cells h).aU E hn
        nN:=R.nN }
  · cases h;refine .Z ⟨X6 _,rfl,by rw[new];simp,fun g e1 cells h1=>?_⟩;rw[new]at h1;cases h1;refine⟨aaz,fun _=>?_⟩;rw[hΓ];exact⟨rfl,rfl,rfl⟩
end Go.Hx
namespace Go.Proofs
open Go.Hx Tryz
def gC (t:List Int):Nat:=if t.length=0 then 0 else 1
def Sh (t:List Int)(ht:(t.length:Int)<2 ^ 40)(H:nnl)(K:nnf->nnl->Prop)(hK:K (.ret (.Z H.C (gC t) 0 t.length 1)) (ext H [.O (gC t) 3 (ints t)])):af prog G0 88 [ah t] H K:=by
  refine af.st (n:=8) (rs:=[.tmp 2]) func88 ?_;simp only[go_sem,cK];intro b hlen;cases b with
  |true =>
    have h0:t=[]:=Xc (by
      rcases Yp t.length with h|h
      · exact h
      · exact absurd (hlen (by simpa using h)) aax)
    subst h0;simp only[go_sem,cK];exact⟨_,_,jK.Sg,by rw[bu];simp,hK⟩
  |false =>
    by_cases hn:t.length=0
    · have h0:t=[]:=Xc hn;subst h0;simp only[go_sem,cK];exact⟨⟨rfl,rfl⟩,ar.mk (by rw[bu];simp) hK⟩
    unfold gC at hK;rw[W7 hn]at hK;simp only[go_sem,hn,cK];exact⟨⟨aaw,U,U,kI _⟩,ar.mk (by rw[bu];simp) hK⟩
end Go.Proofs
