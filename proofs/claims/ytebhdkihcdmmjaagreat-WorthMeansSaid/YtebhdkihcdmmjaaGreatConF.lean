/- Own work: contracts. -/
import Derived.Test.YtebhdkihcdmmjaaGreatConE
import Derived.Test.YtebhdkihcdmmjaaGreatConD
import Derived.Test.YtebhdkihcdmmjaaGreatConB
import Derived.Test.YtebhdkihcdmmjaaGreatConA
set_option linter.all false
set_option maxHeartbeats 8000000
set_option maxRecDepth 100000
namespace Go.Proofs
open Go.Hx Tryz
variable {ch:Ch}{p:List (List Int)}{l:List Int}{r:List Nat}{M M' S a c i k u u' v w:Nat}{t:Z3}{x:ZM}{d d':ZN}{D:ZU}
def jF (f:Nat->Bool):Nat->Nat->Nat
 |0,x=>x
 |n+1,x=>if f x=true then x else jF f n (x+1)
def SD (f:Nat->Bool):∀n x,x<=jF f n x/\jF f n x<=x+n/\(∀y,x<=y->y<jF f n x->f y=false)/\(jF f n x<x+n->f (jF f n x)=true):=by
 intro n
 induction n with
 |zero=>intro x;exact⟨ZJ,ZJ,fun y h1 h2=>by unfold jF at h2;omega,fun h=>by unfold jF at h;omega⟩
 |succ n ih =>
  intro x;unfold jF;by_cases h:f x=true
  ·rw[Vh h];exact⟨ZJ,V,fun y h1 h2=>V,fun _=>h⟩
  ·rw[Vg h];obtain⟨a,b,c,e⟩:=ih (x+1);refine⟨V,V,fun y h1 h2=>?_,fun h2=>e V⟩;by_cases hy:y=x
   ·subst hy;simpa using h
   ·exact c y V h2
def kH (ch:Ch)(k c x:Nat):Ch:=fun k' c'=>if k'=k/\c'=c then some x else ch k' c'
def nD (ch:Ch)(k c x:Nat):kH ch k c x k c=some x:=Vh ⟨rfl,rfl⟩
def nE {x k' c':Nat}(h:¬(k'=k/\c'=c)):kH ch k c x k' c'=ch k' c':=Vg h
noncomputable def iS (D:ZU)(t:Z3)(ch:Ch)(k c:Nat):Nat:=jF (fun x=>lI (jW D t (kH ch k c x))) (D.cd k-1) 0
noncomputable def rW (D:ZU)(t:Z3)(ch:Ch)(kc:Nat × Nat):Ch:=kH ch kc.1 kc.2 (iS D t ch kc.1 kc.2)
noncomputable def oN (D:ZU)(t:Z3)(pos:List (Nat × Nat)):Ch:=pos.foldl (rW D t) fun _ _=>none
def FG (D:ZU)(t:Z3)(pos:List (Nat × Nat))(a:Nat × Nat):oN D t (pos++[a])=rW D t (oN D t pos) a:=by unfold oN;rw[Wn];rfl
def nG (D:ZU)(ch:Ch):Prop:=∀k c y,k<D.K->c<D.cs k->ch k c=some y->y<D.cd k
def rX (D:ZU)(t:Z3)(q:dm):Prop:=q.Ok D/\D.total q=t.T
def SE (hD:D.Ok)(ht:t.Ok D)(hc:nG D ch)(hf:jW D t ch)(hk:k<D.K)(hcc:c<D.cs k)(ho:ch k c=none):
  iS D t ch k c<D.cd k/\nG D (rW D t ch (k,c))/\jW D t (rW D t ch (k,c))/\∀q:dm,rX D t q->nA D ch q->iS D t ch k c<=q k c:=by
 have hset:∀x,x<D.cd k->nG D (kH ch k c x):=fun x hx k' c' y h1 h2 h3=>by
  by_cases h:k'=k/\c'=c
  ·obtain⟨rfl,rfl⟩:=h;rw[nD]at h3;cases h3;exact hx
  ·rw[nE h]at h3;exact hc k' c' y h1 h2 h3
 have hag:∀q:dm,nA D ch q->nA D (kH ch k c (q k c)) q:=fun q hq k' c' y h1 h2 h3=>by
  by_cases h:k'=k/\c'=c
  ·obtain⟨rfl,rfl⟩:=h;rw[nD]at h3;cases h3;rfl
  ·rw[nE h]at h3;exact hq k' c' y h1 h2 h3
 have hfe:∀q:dm,rX D t q->nA D ch q->jW D t (kH ch k c (q k c)):=fun q hq ha=>(tT hD ht (hset _ (hq.1 k c hk hcc))).2 ⟨q,hq.1,hag q ha,hq.2⟩;have h1:=hD.cd k hk;obtain⟨_,a2,a3,a4⟩:=SD (fun x=>lI (jW D t (kH ch k c x))) (D.cd k-1) 0;have hx:iS D t ch k c<D.cd k:=by unfold iS;omega
 have hle:∀q,rX D t q->nA D ch q->iS D t ch k c<=q k c:=fun q hq ha=>by
  refine Yw fun hlt=>?_;have:=a3 (q k c) (WK _) hlt;rw[tY.2 (hfe q hq ha)]at this;cases this
 refine⟨hx,hset _ hx,?_,hle⟩;show jW D t (kH ch k c (iS D t ch k c));by_cases hlt:iS D t ch k c<0+(D.cd k-1)
 ·exact tY.1 (a4 hlt)
 ·obtain⟨q,q1,q2,q3⟩:=(tT hD ht hc).1 hf;have h2:=hle q ⟨q1,q3⟩ q2;have h3:=q1 k c hk hcc;have:q k c=iS D t ch k c:=V
  rw[<- this];exact hfe q ⟨q1,q3⟩ q2
structure Chosen (D:ZU)(t:Z3)(pos:List (Nat × Nat))(ch:Ch):Prop where
 np:nG D ch
 fe:jW D t ch
 made:∀k c,(k,c)∈pos->∃y,ch k c=some y
 opn:∀k c,(k,c) ∉ pos->ch k c=none
 lex:∀q:dm,rX D t q->nA D ch q\/∃(j k c y:Nat),pos[j]?=some (k,c)/\ch k c=some y/\y<q k c/\∀(i k' c' y':Nat),i<j->pos[i]?=some (k',c')->ch k' c'=some y'->y'=q k' c'
def FH (hD:D.Ok)(ht:t.Ok D):∀(n:Nat) (pos:List (Nat × Nat)),pos.length=n->pos.Nodup->(∀p∈pos,p.1<D.K/\p.2<D.cs p.1)->Chosen D t pos (oN D t pos):=by
 intro n
 induction n with
 |zero =>
  intro pos hl _ _;obtain rfl:=Vp hl;exact⟨fun k c y _ _ h=>(by cases h),Sp hD ht,fun k c h=>(by cases h),fun _ _ _=>rfl,fun q _=>.inl fun k c y _ _ h=>(by cases h)⟩
 |succ n ih =>
  intro pos hl hnd hr;obtain⟨qs,⟨k,c⟩,rfl⟩:∃qs a,pos=qs++[a]:=by
   rcases X7 pos with h|⟨qs,a,h⟩
   ·rw[h]at hl;cases hl
   ·exact⟨qs,a,by rw[h,X8]⟩
  rw[List.length_append,Wh]at hl;obtain⟨nd1,_,nd2⟩:=Xp.1 hnd;have hk:=hr (k,c) ZG;have hI:=ih qs V nd1 fun p hp=>hr p (by simp[hp]);have hnin:(k,c) ∉ qs:=fun h=>nd2 _ h _ ZG rfl;obtain⟨s1,s2,s3,s4⟩:=SE hD ht hI.np hI.fe hk.1 hk.2 (hI.opn k c hnin);rw[FG];generalize oN D t qs=ch at *
  have self:rW D t ch (k,c) k c=some (iS D t ch k c):=nD ..;have other:∀k' c',¬(k'=k/\c'=c)->rW D t ch (k,c) k' c'=ch k' c':=fun k' c' h=>nE h;have inq:∀k' c',(k',c')∈qs->¬(k'=k/\c'=c):=fun k' c' h e=>hnin (by rw[<- e.1,<- e.2];exact h);refine⟨s2,s3,fun k' c' h=>?_,fun k' c' h=>?_,fun q hq=>?_⟩
  ·by_cases e:k'=k/\c'=c
   ·rw[e.1,e.2];exact⟨_,self⟩
   ·rw[other _ _ e];rcases VH.1 h with h|h
    ·exact hI.made k' c' h
    ·simp at h;exact absurd h e
  ·have e:¬(k'=k/\c'=c):=fun e=>h (by rw[e.1,e.2];simp);rw[other _ _ e];exact hI.opn k' c' fun h'=>h (by simp[h'])
  ·have nf:∀(i:Nat) (k' c':Nat),i<qs.length->(qs++[(k,c)])[i]?=some (k',c')->qs[i]?=some (k',c')/\¬(k'=k/\c'=c):=fun i k' c' hi h=>by
    rw[Vx hi]at h;exact⟨h,inq k' c' (an h)⟩
   rcases hI.lex q hq with h|⟨j,k1,c1,y,h1,h2,h3,h4⟩
   ·have h5:=s4 q hq h;rcases XF h5 with h6|h6
    ·refine .inr ⟨qs.length,k,c,_,ZG,self,h6,fun i k' c' y' hi hp hy=>?_⟩;obtain⟨hp',e⟩:=nf i k' c' hi hp;rw[other _ _ e]at hy;have hr':=hr (k',c') (by rw[VH];exact .inl (an hp'));exact h k' c' y' hr'.1 hr'.2 hy
    ·refine .inl fun k' c' y' g1 g2 g3=>?_;by_cases e:k'=k/\c'=c
     ·rw[e.1,e.2]at g3 ⊢;rw[self]at g3;cases g3;exact h6
     ·rw[other _ _ e]at g3;exact h k' c' y' g1 g2 g3
   ·have hj:=aO h1;refine .inr ⟨j,k1,c1,y,by rw[Vx hj];exact h1,by rw[other _ _ (inq _ _ (an h1))];exact h2,h3,fun i k' c' y' hi hp hy=>?_⟩;obtain⟨hp',e⟩:=nf i k' c' V hp;rw[other _ _ e]at hy;exact h4 i k' c' y' hi hp' hy
noncomputable def nH (ch:Ch):dm:=fun k c=>(ch k c).getD 0
def SF (hD:D.Ok)(ht:t.Ok D){pos:List (Nat × Nat)}(h:Chosen D t pos ch)(hall:∀k c,k<D.K->c<D.cs k->(k,c)∈pos):rX D t (nH ch):=by
 obtain⟨q,q1,q2,q3⟩:=(tT hD ht h.np).1 h.fe;have e:∀k c,k<D.K->c<D.cs k->nH ch k c=q k c:=fun k c hk hc=>by
  obtain⟨y,hy⟩:=h.made k c (hall k c hk hc);unfold nH;rw[hy];exact q2 k c y hk hc hy
 exact⟨fun k c hk hc=>by rw[e k c hk hc];exact q1 k c hk hc,by rw[FB hD e];exact q3⟩
def SG {α:Type}{f g:α->Int}:∀ {l:List α} {j:Nat} {a:α},l[j]?=some a->f a<g a->(∀i b,i<j->l[i]?=some b->f b=g b)->yZ (l.map f) (l.map g):=by
 intro l
 induction l with
 |nil=>intro j a h;simp at h
 |cons x l ih =>
  intro j a h hlt heq;cases j with
  |zero =>
   simp only[List.getElem?_cons_zero,Option.some.injEq]at h;subst h;exact .inl hlt
  |succ j =>
   simp only[List.getElem?_cons_succ]at h;refine .inr ⟨heq 0 x V rfl,ih h hlt fun i b hi hb=>heq (i+1) b V (by simpa using hb)⟩
def oO (d:ZN)(r:List Nat):List (Nat × Nat):=((aJ d).map fun v=>(List.range (dB d v)).map fun c=>(r.idxOf v,c)).flatten
def FI (d:ZN)(r:List Nat)(q:dm):(kF d r q).flatten=(oO d r).map fun a=>(q a.1 a.2:Int):=by
 unfold kF oO;rw[List.map_flatten,XW];congr 1;refine VI fun v _=>?_;simp
def Ax (hr:Z0 d r):(k,c)∈oO d r↔k<(aA d r).K/\c<(aA d r).cs k:=by
 unfold oO;rw[XS];constructor
 ·rintro⟨l,hl,h⟩;obtain⟨v,hv,rfl⟩:=Vu.1 hl;obtain⟨c',hc,he⟩:=Vu.1 h;cases he;have hi:r.idxOf v<r.length:=VY (hr.qe hv);refine⟨hi,?_⟩;show c<dB d (r.getD (r.idxOf v) 0);rw[gD (by rw[Vf hi,Wq hi])];exact Vs.1 hc
 ·rintro⟨hk,hc⟩;obtain⟨v,hv⟩:=ay (show k<r.length from hk);have hm:=hr.mem v (an hv);have hc':c<dB d (r.getD k 0):=hc;rw[gD hv]at hc';refine⟨_,Vu.2 ⟨v,hm,rfl⟩,Vu.2 ⟨c,Vs.2 hc',?_⟩⟩;have h1:r.idxOf v<r.length:=VY (an hv);rw[(Wu h1 hr.nodup).1 (by rw[hv,Vf h1,Wq h1])]
def SH (hr:Z0 d r):(oO d r).Nodup:=by
 unfold oO;show List.Pairwise _ _;rw[List.pairwise_flatten];constructor
 ·intro l hl;obtain⟨v,_,rfl⟩:=Vu.1 hl;rw[List.pairwise_map];exact Xz.imp fun h e=>h (by cases e;rfl)
 ·rw[List.pairwise_map];have hnd:(aJ d).Nodup:=Xz.filter _;refine(List.Pairwise.and_mem.1 hnd).imp fun {v w} ⟨hv,hw,hne⟩=>?_;intro a ha b hb e;obtain⟨c,_,rfl⟩:=Vu.1 ha;obtain⟨c',_,rfl⟩:=Vu.1 hb;have h1:r.idxOf v=r.idxOf w:=(Prod.mk.inj e).1;have i1:=Wq (VY (hr.qe hv));have i2:=Wq (VY (hr.qe hw));simp only[h1]at i1;exact hne (i1.symm.trans i2)
def FJ (hok:ZS d)(hr:Z0 d r)(hp:Z2 d p):kF d r (mq d r p)=p:=by
 apply V3;intro k;rcases VC k (aJ d).length with hk|hk
 ·obtain⟨v,hv⟩:=ay hk;obtain⟨l,hl⟩:=ay (l:=p) (i:=k) (by rw[hp.len];exact hk);obtain⟨v1,v2,v3⟩:=rE hv;obtain⟨x,hx⟩:=ay (l:=d.C) (i:=v) v1;have hc:=hok.n.L x (an hx);obtain⟨e1,_⟩:=iQ hx V;obtain⟨ll,lr⟩:=hp.row k v x l hv hx hl;rw[Ar hv,hl];congr 1;have hm:v∈aJ d:=an hv;have hi:r.idxOf v<r.length:=VY (hr.qe hm);have hri:r.getD (r.idxOf v) 0=v:=gD (by rw[Vf hi,Wq hi]);apply V3;intro c;rcases VC c (dB d v) with hcc|hcc
  ·obtain⟨a,ha⟩:=ay (l:=l) (i:=c) V;have har:=lr a (an ha);rw[List.getElem?_map,VR hcc,ha];show some ((mq d r p (r.idxOf v) c:Nat):Int)=some a;unfold mq;rw[hri,v3];have:fixC p k c=a:=(by unfold fixC;simp[Vj,hl,ha]);rw[this];congr 1;omega
  ·rw[Vo (by simpa using hcc),Vo V]
 ·rw[Vo (by simpa[kF] using hk),Vo (by rw[hp.len];exact hk)]
noncomputable def nI (d:ZN)(r:List Nat):List (List Int):=kF d r (nH (oN (aA d r) (mu (aA d r)) (oO d r)))
def dC (d:ZN)(r:List Nat):Int:=rV (aA d r)
def wO (hok:ZS d)(hr:Z0 d r):Z2 d (nI d r)/\fa d (fixC (nI d r))=dC d r /\
  ∀q,Z2 d q->fa d (fixC q)<=dC d r/\(fa d (fixC q)=dC d r->q=nI d r\/yZ (nI d r).flatten q.flatten):=by
 have hD:=wL hok hr.mem;have ht:=SB hD (SC hok hr) (Aw hok hr);have hC:=FH hD ht _ (oO d r) rfl (SH hr) fun p hp=>(Ax hr).1 hp;have hB:=SF hD ht hC fun k c hk hc=>(Ax hr).2 ⟨hk,hc⟩;refine⟨FA hok hr hB.1,by unfold nI;rw[Su hok hr hB.1];exact hB.2,fun q hq=>?_⟩;have hqo:=Sr hok hr hq;have hqt:=Fy hok hr hq;refine⟨by rw[<- hqt];exact(Aq hD ht hqo).1,fun he=>?_⟩;have hqb:rX (aA d r) (mu (aA d r)) (mq d r q):=⟨hqo,by rw[hqt,he];rfl⟩
 rcases hC.lex _ hqb with h|⟨j,k,c,y,h1,h2,h3,h4⟩
 ·left;rw[<- FJ hok hr hq];unfold nI kF;refine VI fun v hv=>?_;refine VI fun c hc=>?_;have hi:r.idxOf v<r.length:=VY (hr.qe hv);have hri:r.getD (r.idxOf v) 0=v:=gD (by rw[Vf hi,Wq hi]);have hcs:c<(aA d r).cs (r.idxOf v):=by
   show c<dB d (r.getD (r.idxOf v) 0);rw[hri];exact Vs.1 hc
  obtain⟨y,hy⟩:=hC.made (r.idxOf v) c ((Ax hr).2 ⟨hi,hcs⟩);have:=h (r.idxOf v) c y hi hcs hy;unfold nH;rw[hy];simp only[Option.getD_some];omega
 ·right;rw[<- FJ hok hr hq];unfold nI;rw[FI,FI];refine SG h1 (by show ((nH _ k c:Nat):Int)<_;unfold nH;rw[h2];simp only[Option.getD_some];omega) fun i b hi hb=>?_;obtain⟨k',c'⟩:=b;obtain⟨y',hy'⟩:=hC.made k' c' (an hb);have:=h4 i k' c' y' hi hb hy';show ((nH _ k' c':Nat):Int)=_;unfold nH;rw[hy'];simp only[Option.getD_some];omega
structure nnb (d d':ZN):Prop where
 len:d'.C.length=d.C.length
 nl:d'.nl=d.nl
 Z:d'.Z=d.Z
 Y:d'.Y=d.Y
 node:∀v x x',d.C[v]?=some x->d'.C[v]?=some x'->x'.L=x.L/\(∀p∈x.F,p∈x'.F)/\(d.nl.testBit v=false->x'=x)
def nnb.nz (h:nnb d d'):au d'.C=au d.C:=by
 apply V3;intro v;unfold au;rw[List.getElem?_map,List.getElem?_map];rcases VC v d.C.length with hv|hv
 ·obtain⟨x,hx⟩:=ay hv;obtain⟨x',hx'⟩:=ay (l:=d'.C) (i:=v) (by rw[h.len];exact hv);rw[hx,hx',Option.map_some,Option.map_some,(h.node v x x' hx hx').1]
 ·rw[Vo hv,Vo (by rw[h.len];exact hv)]
theorem nnb.wv (h:nnb d d')(w:Nat):wv d' w=wv d w:=by unfold Go.Proofs.wv;rw[h.nz]
theorem nnb.cH (h:nnb d d'):cH d'.C=cH d.C:=by unfold Go.Proofs.cH;rw[h.nz]
theorem nnb.aJ (h:nnb d d'):aJ d'=aJ d:=by unfold Go.Proofs.aJ;rw[h.nl,h.len]
def nnb.par (h:nnb d d')(x:ZM):aT d'.C x=aT d.C x:=by unfold aT;rw[h.nz]
def nnb.nr (h:nnb d d')(vals:List Int):dk d' vals=dk d vals:=by
 have h1:cK d' vals=cK d vals:=by
  unfold cK;rw[h.len];congr 1;refine VI fun v hv=>?_;have hv:=Vs.1 hv;unfold jC;rw[h.nl,h.Z];cases hb:d.nl.testBit v with
  |true=>rfl
  |false =>
   obtain⟨x,hx⟩:=ay hv;obtain⟨x',hx'⟩:=ay (l:=d'.C) (i:=v) (by rw[h.len];exact hv);obtain rfl:=(h.node v x x' hx hx').2.2 hb;rw[Vg ZG,Vg ZG];unfold gf;rw[hx,hx'];simp only;unfold jA;rw[h.par]
 unfold dk;rw[h1,h.Y];congr 1;unfold cX;congr 1;refine VI fun u _=>?_;unfold oF;rw[h.nz]
def nnb.row (h:nnb d d')(hok:ZS d)(hok':ZS d')(hv:v∈Go.Proofs.aJ d){w':Nat}(e:cM d'.C v (Go.Proofs.wv d w)=cM d'.C v (Go.Proofs.wv d w')):cM d.C v (Go.Proofs.wv d w)=cM d.C v (Go.Proofs.wv d w'):=by
 obtain⟨x,hx⟩:=ay (bN.1 hv).1;obtain⟨x',hx'⟩:=ay (l:=d'.C) (i:=v) (by rw[h.len];exact(bN.1 hv).1);have hpx:=(hok.n.dec v x hx (bN.1 hv).2).2;have hpx':=(hok'.n.dec v x' hx' (by rw[h.nl];exact(bN.1 hv).2)).2;have hin':iI x'.F d'.C.length:=fun q hq=>by have:=hpx'.2 q hq;omega
 have hf:=iE hok' w;have hf':=iE hok' w';rw[h.wv]at hf hf';have e1:=(lu hok' hx' hf).1;have e2:=(lu hok' hx' hf').1;have hat:aK (Go.Proofs.wv d w) x'.F=aK (Go.Proofs.wv d w') x'.F:=Fx (qi hin' hf) (qi hin' hf') (by rw[<- e1,<- e2,e]);have hat2:aK (Go.Proofs.wv d w) x.F=aK (Go.Proofs.wv d w') x.F:=VI fun q hq=>by
  obtain⟨j,hj⟩:=Vl.1 ((h.node v x x' hx hx').2.1 q hq);have a1:=jY (l:=Go.Proofs.wv d w) hj;have a2:=jY (l:=Go.Proofs.wv d w') hj;rw[hat,a2]at a1;exact(Option.some.inj a1).symm
 unfold cM;rw[hx];simp only;rw[hat2]
noncomputable def pH (d d':ZN)(c:Nat->Nat->Int)(k r:Nat):Int :=
 @dite _ (∃w,cM d'.C ((Go.Proofs.aJ d).getD k 0) (Go.Proofs.wv d w)=r) (Classical.propDecidable _) (fun h=>c k (cM d.C ((Go.Proofs.aJ d).getD k 0) (Go.Proofs.wv d h.choose))) fun _=>0
def Pn (h:nnb d d')(hok:ZS d)(hok':ZS d')(c:Nat->Nat->Int)(hv:v∈Go.Proofs.aJ d)(w:Nat):
  pH d d' c (bp d.nl v) (cM d'.C v (Go.Proofs.wv d w))=c (bp d.nl v) (cM d.C v (Go.Proofs.wv d w)):=by
 have hk:(Go.Proofs.aJ d).getD (bp d.nl v) 0=v:=gD (mj (bN.1 hv).1 (bN.1 hv).2);have hex:∃w',cM d'.C ((Go.Proofs.aJ d).getD (bp d.nl v) 0) (Go.Proofs.wv d w')=cM d'.C v (Go.Proofs.wv d w):=⟨w,by rw[hk]⟩
 unfold pH;rw[dif_pos hex];have hc:=hex.choose_spec;generalize hex.choose=w' at hc ⊢;rw[hk]at hc ⊢;rw[h.row hok hok' hv hc]
noncomputable def pI (d d':ZN)(c:Nat->Nat->Int):List (List Int):=(List.range (Go.Proofs.aJ d).length).map fun k=>(List.range (dB d' ((Go.Proofs.aJ d).getD k 0))).map (pH d d' c k)
def Po {c:Nat->Nat->Int}{r:Nat}(hk:k<(Go.Proofs.aJ d).length)(hr:r<dB d' ((Go.Proofs.aJ d).getD k 0)):fixC (pI d d' c) k r=pH d d' c k r:=by
 unfold fixC pI;have e:((List.range (Go.Proofs.aJ d).length).map fun k=>(List.range (dB d' ((Go.Proofs.aJ d).getD k 0))).map (pH d d' c k))[k]?=some ((List.range (dB d' ((Go.Proofs.aJ d).getD k 0))).map (pH d d' c k)):=by
  rw[List.getElem?_map,VR hk];rfl
 rw[bI e];refine bI ?_;rw[List.getElem?_map,VR hr];rfl
def Pp (h:nnb d d')(hok:ZS d)(hok':ZS d')(hp:Z2 d p):∃p',Z2 d' p'/\fa d' (fixC p')=fa d (fixC p):=by
 have hdl:=h.aJ;refine⟨pI d d' (fixC p),⟨by rw[hdl];simp[pI],fun k v x' l hv hx' hl=>?_⟩,?_⟩
 ·rw[hdl]at hv;have hk:=aO hv;have hgv:(Go.Proofs.aJ d).getD k 0=v:=gD hv;obtain⟨v1,v2,v3⟩:=rE hv;obtain⟨x,hx⟩:=ay v1;have hcd:=(h.node v x x' hx hx').1;have hc:=hok.n.L x (an hx);have hc':=hok'.n.L x' (an hx');unfold pI at hl;rw[List.getElem?_map,VR hk,Option.map_some,hgv]at hl;cases hl;have hn:=(iQ hx' V).1;refine⟨by rw[VA,WT,hn],fun a ha=>?_⟩;obtain⟨r,hr,rfl⟩:=Vu.1 ha;unfold pH;split
  ·rename_i hex;obtain⟨w',hw'⟩:∃w',w'=hex.choose:=⟨_,rfl⟩
   rw[<- hw',hgv];have hfr:=(lu hok hx (iE hok w')).2;rw[<- (iQ hx V).1]at hfr;have:=tP hok hp (an hv) hfr;rw[v3,(iQ hx V).2]at this;rw[hcd];exact this
  ·omega
 ·unfold fa;rw[h.cH];refine gP fun w _=>?_;rw[h.wv,h.nr];have:gh d' (fixC (pI d d' (fixC p))) (Go.Proofs.wv d w)=gh d (fixC p) (Go.Proofs.wv d w):=by
   unfold gh;rw[hdl];have key:∀v∈Go.Proofs.aJ d,ku d' (fixC (pI d d' (fixC p))) (Go.Proofs.wv d w) v=ku d (fixC p) (Go.Proofs.wv d w) v:=fun v hv=>by
    obtain⟨v1,v2⟩:=bN.1 hv;have hg:=mj v1 v2;obtain⟨x',hx'⟩:=ay (l:=d'.C) (i:=v) (by rw[h.len];exact v1);have hc':=hok'.n.L x' (an hx');have hf:=iE hok' w;rw[h.wv]at hf;have hr:=(lu hok' hx' hf).2;rw[<- (iQ hx' V).1]at hr;have hgd:(Go.Proofs.aJ d).getD (bp d.nl v) 0=v:=gD hg;unfold ku;rw[h.nl,Po (aO hg) (by rw[hgd];exact hr),Pn h hok hok' _ hv]
   rw[WG,VG,VG];exact⟨fun a v hv=>by rw[<- key v hv];exact a v hv,fun a v hv=>by rw[key v hv];exact a v hv⟩
  rw[this]
def Pq (h:nnb d d')(hok:ZS d)(hok':ZS d'){r':List Nat}(hr:Z0 d r)(hr':Z0 d' r'):dC d r<=dC d' r':=by
 obtain⟨h1,h2,_⟩:=wO hok hr;obtain⟨p',h3,h4⟩:=Pp h hok hok' h1;have:=((wO hok' hr').2.2 p' h3).1;omega
def Dq (s n:Nat):bW (dQ s n) n:=⟨Ag s n,fun q hq=>by
 obtain⟨u,rfl,h,_⟩:=lE.1 hq;omega⟩
def Dr {s n:Nat}(h:s<2 ^ n):bF (dQ s n)=s:=by
 refine VW fun i=>?_;rw[iD fun p hp=>((Dq s n).2 p hp).1,WG,Ym,lE];constructor
 ·rintro⟨u,e,_,hu⟩;obtain rfl:i=u:=V
  exact hu
 ·intro hi;refine⟨i,rfl,?_,hi⟩;refine Wr fun hn=>?_;rw[Wy (Vn h (Vr ZH hn))]at hi;cases hi
theorem Ds:∀ {a b:List Int},a.Pairwise (·<·)->b.Pairwise (·<·)->(∀q,q∈a↔q∈b)->a=b
 | [],b,_,_,h=>by
  cases b with
  |nil=>rfl
  |cons y b=>exact absurd ((h y).2 ZG) (ZG)
 |x :: a,[],_,_,h=>absurd ((h x).1 ZG) (ZG)
 |x :: a,y :: b,ha,hb,h=>by
  rw[XG]at ha hb;have e:x=y:=by
   rcases List.mem_cons.1 ((h x).1 ZG) with e|hm
   ·exact e
   ·rcases List.mem_cons.1 ((h y).2 ZG) with e|hm'
    ·exact e.symm
    ·have:=hb.1 x hm;have:=ha.1 y hm';omega
  subst e;rw[Ds ha.2 hb.2 fun q=>?_];constructor
  ·intro hq;rcases List.mem_cons.1 ((h q).1 (by simp[hq])) with e|hm
   ·have:=ha.1 q hq;omega
   ·exact hm
  ·intro hq;rcases List.mem_cons.1 ((h q).2 (by simp[hq])) with e|hm
   ·have:=hb.1 q hq;omega
   ·exact hm
def fM (r:List Nat)(u v:Nat):Bool:=decide (v∈r/\r.idxOf u<=r.idxOf v)
def jf (n:Nat)(r:List Nat)(u S v:Nat)(x:ZM):ZM:=if fM r u v=true then { x with F:=dQ (bF x.F |||S) n } else x
def bw (d:ZN)(r:List Nat)(u S:Nat):ZN:={ d with C:=d.C.zipIdx.map fun p=>jf d.C.length r u S p.2 p.1 }
def hJ (d:ZN)(r:List Nat)(u S:Nat):(bw d r u S).C.length=d.C.length:=by simp[bw]
def rp (h:d.C[v]?=some x):(bw d r u S).C[v]?=some (jf d.C.length r u S v x):=by
 unfold bw;rw[List.getElem?_map,Xm,h];simp
def rq (n:Nat)(r:List Nat)(u S v:Nat)(x:ZM):(jf n r u S v x).L=x.L/\(jf n r u S v x).nb=x.nb:=by unfold jf;split<;>exact⟨rfl,rfl⟩
def zw (d:ZN)(r:List Nat)(u S:Nat):au (bw d r u S).C=au d.C:=by
 apply V3;intro v;unfold au;rw[List.getElem?_map,List.getElem?_map];rcases VC v d.C.length with hv|hv
 ·obtain⟨x,hx⟩:=ay hv;rw[hx,rp hx,Option.map_some,Option.map_some,(rq ..).1]
 ·rw[Vo hv,Vo (by rw[hJ];exact hv)]
def Du (d:ZN)(u:Nat):List Nat:=(List.range d.C.length).filter fun v=>!d.nl.testBit v && !(dP (aB d.C) ((aB d.C).getD v 0)).testBit u
def bz (d:ZN)(u:Nat):Nat:=dE (Du d u)
def vG :(bz d u).testBit i=true↔i<d.C.length/\d.nl.testBit i=false/\(dP (aB d.C) ((aB d.C).getD i 0)).testBit u=false:=by
 unfold bz Du;rw[lG,Xa,Vs];simp
def pJ (hS:Sub S (bz d u)):S<2 ^ d.C.length:=vZ fun i hi=>(vG.1 (hS i hi)).1
def ki (ns:List ZM):(aB ns).length=ns.length:=by simp[aB]
def pK {ns:List ZM}(h:ns[v]?=some x):(aB ns).getD v 0=bF x.F:=by
 rw[Vj,kI h];rfl
def ot (hok:ZS d)(hx:d.C[v]?=some x):bW x.F d.C.length:=by
 have:=(hok.nB.node _ (an (jG (c:=fun _ _=>0) hx))).2;rw[(iP ..).2,ik]at this;exact this
def Dv (hok:ZS d):∀p∈aB d.C,p<2 ^ (aB d.C).length:=fun p hp=>by
 obtain⟨x,hx,rfl⟩:=Vu.1 hp;obtain⟨v,hv⟩:=Vl.1 hx;rw[ki];exact lh fun q hq=>(ot hok hv).2 q hq
def Pr (hok:ZS d):jR (aB d.C):=by have:=hok.nB.nL;rw[tZ]at this;exact this
def zx (hok:ZS d)(hv:v<d.C.length):(aB d.C).getD v 0<2 ^ (aB d.C).length:=by
 obtain⟨x,hx⟩:=ay hv;rw[pK hx,ki];exact lh fun q hq=>(ot hok hx).2 q hq
def zy (hok:ZS d)(hc:c<d.C.length)(ha:a<d.C.length)(h:(dP (aB d.C) ((aB d.C).getD c 0)).testBit a=true):
  Sub (dP (aB d.C) ((aB d.C).getD a 0)) (dP (aB d.C) ((aB d.C).getD c 0)) :=
 have hcl:=zU (Dv hok) (zx hok hc)
 pT hcl _ (hcl a (by rw[ki];exact ha) h)
def tE (h:((aB d.C).getD c 0).testBit a=true):(dP (aB d.C) ((aB d.C).getD c 0)).testBit a=true:=rC _ _ _ _ h
def Dw (hok:ZS d)(hc:c<d.C.length)(h:((aB d.C).getD c 0).testBit a=true):a<d.C.length:=by
 obtain⟨x,hx⟩:=ay hc;rw[pK hx,iD fun p hp=>((ot hok hx).2 p hp).1]at h;have:=(ot hok hx).2 _ (of_decide_eq_true h);omega
def Ps (hok:ZS d)(hr:Z0 d r)(hu:u∈r)(h:fM r u v=true):v=u\/(dP (aB d.C) ((aB d.C).getD v 0)).testBit u=true:=by
 obtain⟨hv,hi⟩:=of_decide_eq_true h;obtain⟨i,hi1⟩:∃i,i=r.idxOf u:=⟨_,rfl⟩
 obtain⟨j,hj1⟩:∃j,j=r.idxOf v:=⟨_,rfl⟩
 have gu:r[i]?=some u:=by rw[hi1,Vf (VY hu),Wq]
 have gv:r[j]?=some v:=by rw[hj1,Vf (VY hv),Wq]
 rw[<- hi1,<- hj1]at hi;rcases XF hi with hlt|he
 ·right;obtain⟨hm,_,hn,_⟩:=hr.ro j v gv;refine tE ?_;obtain⟨x,hx⟩:=ay (bN.1 hm).1;have hp:bG d v=bF x.F:=by unfold bG;rw[hx]
  rw[pK hx,<- hp];exact vo hn _ (jx.2 ⟨u,Vl.2 ⟨i,by rw[Vz hlt];exact gu⟩,by rw[Vy,V6];simp⟩)
 ·left;rw[he,gv]at gu;exact Option.some.inj gu
def Pt (hx:d.C[v]?=some x)(hlt:bF x.F |||S<2 ^ d.C.length):(aB (bw d r u S).C).getD v 0=if fM r u v=true then (aB d.C).getD v 0 |||S else (aB d.C).getD v 0:=by
 rw[pK (rp hx),pK hx];unfold jf;split
 ·exact Dr hlt
 ·rfl
def Pu (hok:ZS d)(hr:Z0 d r)(hu:u∈r)(hS:Sub S (bz d u)):jR (aB (bw d r u S).C):=by
 have hSl:=pJ hS;have hul:u<d.C.length:=(bN.1 (hr.mem u hu)).1;have hub:d.nl.testBit u=true:=(bN.1 (hr.mem u hu)).2;have hn:(aB (bw d r u S).C).length=(aB d.C).length:=by rw[ki,ki,hJ]
 have par:∀v,v<d.C.length->(aB (bw d r u S).C).getD v 0=if fM r u v=true then (aB d.C).getD v 0 |||S else (aB d.C).getD v 0:=fun v hv=>by
  obtain⟨x,hx⟩:=ay hv;have:=zx hok hv;rw[pK hx,ki]at this;exact Pt hx (WR this hSl)
  -- what is not behind the decision
 obtain⟨N,hN⟩:∃N:Nat,∀i,N.testBit i=true↔i<d.C.length/\i≠u/\(dP (aB d.C) ((aB d.C).getD i 0)).testBit u=false :=
  ⟨dE ((List.range d.C.length).filter fun v=>decide (v≠u) && !(dP (aB d.C) ((aB d.C).getD v 0)).testBit u),fun i=>by rw[lG,Xa,Vs];simp⟩
 have hSN:Sub S N:=fun i hi=>by
  obtain⟨a,b,c⟩:=vG.1 (hS i hi);exact(hN i).2 ⟨a,fun e=>(by rw[e,hub]at b;cases b),c⟩
 have hNup:∀i,N.testBit i=true->Sub ((aB d.C).getD i 0) N:=fun i hi q hq=>by
  obtain⟨a,b,c⟩:=(hN i).1 hi;have hql:=Dw hok a hq;refine(hN q).2 ⟨hql,fun e=>?_,?_⟩
  ·rw[e]at hq;rw[tE hq]at c;cases c
  ·cases hb:(dP (aB d.C) ((aB d.C).getD q 0)).testBit u with
   |false=>rfl
   |true =>
    rw[zy hok a hql (tE hq) u hb]at c;cases c
 have hNno:∀i,N.testBit i=true->fM r u i=false:=fun i hi=>by
  obtain⟨a,b,c⟩:=(hN i).1 hi;cases hl:fM r u i with
  |false=>rfl
  |true =>
   rcases Ps hok hr hu hl with e|e
   ·exact absurd e b
   ·rw[e]at c;cases c
 intro v hv;rw[hn,ki]at hv;have hav:=Pr hok v (by rw[ki];exact hv);have hcl:=zU (Dv hok) (zx hok hv);have key:∀t:Nat,mi (aB (bw d r u S).C) t->Sub ((aB (bw d r u S).C).getD v 0) t->t.testBit v=false->(dP (aB (bw d r u S).C) ((aB (bw d r u S).C).getD v 0)).testBit v=false:=fun t h1 h2 h3=>by
  cases hb:(dP (aB (bw d r u S).C) ((aB (bw d r u S).C).getD v 0)).testBit v with
  |false=>rfl
  |true =>
   have:=pT h1 _ h2 v hb;rw[h3]at this;cases this
 cases hNv:N.testBit v with
 | true =>
    -- all ancestors are as they were
  refine key (dP (aB d.C) ((aB d.C).getD v 0)) (fun a ha hb=>?_) ?_ hav
  ·rw[hn,ki]at ha;have haN:N.testBit a=true:=by
    refine(hN a).2 ⟨ha,fun e=>?_,?_⟩
    ·rw[e]at hb;have:=((hN v).1 hNv).2.2;rw[hb]at this;cases this
    ·cases hc:(dP (aB d.C) ((aB d.C).getD a 0)).testBit u with
     |false=>rfl
     |true =>
      have:=zy hok hv ha hb u hc;rw[((hN v).1 hNv).2.2]at this;cases this
   rw[par a ha,hNno a haN];exact hcl a (by rw[ki];exact ha) hb
  ·rw[par v hv,hNno v hNv];exact rC _ _ _
 |false =>
  refine key (dP (aB d.C) ((aB d.C).getD v 0) |||N) (fun a ha hb=>?_) ?_ (by rw[Vy,hav,hNv];rfl)
  ·rw[hn,ki]at ha;rw[Vy,VN]at hb;have h0:Sub ((aB d.C).getD a 0) (dP (aB d.C) ((aB d.C).getD v 0) |||N):=by
    rcases hb with hb|hb
    ·exact(hcl a (by rw[ki];exact ha) hb).trans (.left _ _)
    ·exact(hNup a hb).trans (.right _ _)
   rw[par a ha];split
   ·exact h0.or (hSN.trans (.right _ _))
   ·exact h0
  ·have h0:Sub ((aB d.C).getD v 0) (dP (aB d.C) ((aB d.C).getD v 0) |||N):=Sub.trans (rC _ _ _) (.left _ _);rw[par v hv];split
   ·exact h0.or (hSN.trans (.right _ _))
   ·exact h0
def pL (hok:ZS d)(hr:Z0 d r)(hu:u∈r)(hS:Sub S (bz d u)):ZS (bw d r u S):=by
 have hget:∀(v:Nat) (y:ZM),(bw d r u S).C[v]?=some y->∃x,d.C[v]?=some x/\y=jf d.C.length r u S v x:=fun v y hy=>by
  obtain⟨x,hx⟩:=ay (l:=d.C) (i:=v) (by have:=aO hy;rw[hJ]at this;exact this);rw[rp hx]at hy;exact⟨x,hx,(Option.some.inj hy).symm⟩
 have hpl:∀(v:Nat) (y:ZM),(bw d r u S).C[v]?=some y->bW y.F d.C.length:=fun v y hy=>by
  obtain⟨x,hx,rfl⟩:=hget v y hy;unfold jf;split
  ·exact Dq _ _
  ·exact ot hok hx
 have hcard:∀y∈(bw d r u S).C,1<=y.L/\y.L<=4:=fun y hy=>by
  obtain⟨v,hv⟩:=Vl.1 hy;obtain⟨x,hx,rfl⟩:=hget v y hv;rw[(rq ..).1];exact hok.n.L x (an hx)
 have hlate:∀v,d.nl.testBit v=false->fM r u v=false:=fun v hb=>by
  cases hl:fM r u v with
  |false=>rfl
  |true =>
   have:=(bN.1 (hr.mem v (of_decide_eq_true hl).1)).2;rw[hb]at this;cases this
 have hR:Z7 (bw d r u S):=⟨by rw[hJ];exact hok.n.n1,by rw[hJ];exact hok.n.nl,hcard,fun v y hy hb=>by
  obtain⟨x,hx,rfl⟩:=hget v y hy;refine⟨by rw[(rq ..).2];exact(hok.n.dec v x hx hb).1,by rw[hJ];exact hpl v _ hy⟩⟩
 have h0:=hok.nB;refine⟨hR,⟨h0.g1,by rw[ik,hJ];exact hok.n.n1,fun y hy=>?_,by have:=h0.size;rw[jX]at this ⊢;rw[zw];exact this,by rw[tZ];exact Pu hok hr hu hS,fun y hy=>?_⟩,?_⟩
 ·obtain⟨v,y,hy',rfl⟩:=qh hy;clear hy;have hy:=hy';rw[(iP ..).1,(iP ..).2,ik,hJ];exact⟨hcard y (an hy),hpl v y hy⟩
 ·obtain⟨v,y,hy',rfl⟩:=qh hy;clear hy;have hy:=hy';obtain⟨x,hx,e⟩:=hget v y hy;have h1:=h0.nb _ (an (jG (c:=fun _ _=>0) hx));unfold gF at h1 ⊢;rw[rZ]at h1 ⊢;have hpc:∀z:ZM,aT (bw d r u S).C z=aT d.C z:=fun z=>by unfold aT;rw[zw]
  rw[hpc];by_cases hb:d.nl.testBit v=true
  ·have hyr:=(hR.dec v y hy hb).1;have hyc:=hcard y (an hy);rw[wV (d:=bw d r u S) hy hb];have hl:({ y with nb:=y.nb++dG (bw d r u S).Z (bw d r u S).C (fun _ _=>0) (bp (bw d r u S).nl v) y }:ZM).nb=dG d.Z (bw d r u S).C (fun _ _=>0) (bp d.nl v) y:=by
    show y.nb++_=_;rw[hyr];rfl
   rw[hl];have hpos:=fX (l:=aT d.C y) fun c hc=>(sf (fun q hq=>by have:=(hpl v y hy).2 q hq;omega) hok.n.L c hc).1;refine⟨?_,fun w hw=>?_⟩
   ·show ((dG d.Z (bw d r u S).C (fun _ _=>0) (bp d.nl v) y).length:Int)=aC (aT d.C y);unfold dG bZ;rw[VA,WT,hpc];omega
   ·unfold dG at hw;obtain⟨i,_,rfl⟩:=Vu.1 hw;have:=h0.g1;exact AD (by show 0<=d.Z;omega) ⟨Int.le_refl 0,(by show (0:Int)<y.L;omega)⟩
  ·have hb':d.nl.testBit v=false:=(by simpa using hb);rw[oT hb]at h1;rw[oT (d:=bw d r u S) hb];have ey:y=x:=(by rw[e];unfold jf;rw[hlate v hb'];rfl);rw[ey];exact h1
 ·refine⟨hok.Y.1,fun w hw=>?_⟩;have:=hok.Y.2 w hw;exact⟨by rw[hJ];exact this.vars,by rw[zw];exact this.size,this.w⟩
def ou (hok:ZS d)(hr:Z0 d r):iL d=some r:=by
 have hR:=hok.n;have hnd:r.Nodup:=by
  rw[Za,Ws];intro i j hi hj hij e;have h1:r[i]?=some r[i]:=Vf hi;have h2:r[j]?=some r[i]:=by rw[Vf hj,e]
  have:=hr.ro.new h2;have h3:(dE (r.take j)).testBit r[i]=true:=lG.2 (Vl.2 ⟨i,by rw[Vz hij];exact h1⟩);rw[this]at h3;cases h3
 have hmem:∀v,v∈r↔v∈aJ d:=fun v=>by
  rw[bN,<- lG,hr.all];constructor
  ·intro h;refine⟨Wr fun hn=>?_,h⟩;have:=hR.nl;rw[XP]at this;have hlt:d.nl<2 ^ d.C.length:=by
    rcases VC d.nl (2 ^ d.C.length) with h|h
    ·exact h
    ·have:=Nat.div_pos h (Xn _);omega
   rw[Wy (Vn hlt (Vr ZH hn))]at h;cases h
  ·exact fun h=>h.2
 have nx:∀(k v:Nat),r[k]?=some v->jO d (cQ d (r.take k))=some v:=fun k v hv=>by
  obtain⟨hm,hko⟩:=hr.ro k v hv;have huniq:∀w,w∈aJ d->jw d (cQ d (r.take k)) w->w=v:=fun w hw hwk=>by
   obtain⟨j,hj⟩:=Vl.1 ((hmem w).2 hw);rcases WH j k with hlt|he|hlt
   ·have:=(jx (d:=d) (l:=r.take k) (i:=w)).2 ⟨w,Vl.2 ⟨j,by rw[Vz hlt];exact hj⟩,by rw[Vy,V6];simp⟩;rw[hwk.1]at this;cases this
   ·rw[he,hv]at hj;exact(Option.some.inj hj).symm
   ·obtain⟨_,_,hsub,_⟩:=hr.ro j w hj;have h1:(bG d w).testBit v=true:=vo hsub _ (jx.2 ⟨v,Vl.2 ⟨k,by rw[Vz hlt];exact hv⟩,by rw[Vy,V6];simp⟩);have h2:(bG d w &&& d.nl).testBit v=true:=(by rw[Wc,h1,(bN.1 hm).2];rfl);rw[hwk.2.2,Wc,hko.1]at h2;cases h2
  cases hf:jO d (cQ d (r.take k)) with
  |none =>
   unfold jO at hf;rw[XH]at hf;exact absurd (VD hko) (hf v hm)
  |some w =>
   obtain⟨w1,w2⟩:=vk hf;rw[huniq w w1 w2]
 have hlen:(aJ d).length=r.length:=by
  have h1:r.Perm (aJ d):=(List.perm_ext_iff_of_nodup hnd (Xz.filter _)).2 hmem;exact h1.length_eq.symm
 have full:∀k,cQ d (r.take k) &&& d.nl=d.nl->k<=r.length->k=r.length:=fun k hk hkl=>by
  refine VZ fun hne=>?_;obtain⟨v,hv⟩:=ay (l:=r) (i:=k) V;have h1:=(hr.ro k v hv)
  have h2:(cQ d (r.take k) &&& d.nl).testBit v=true:=by rw[hk];exact(bN.1 h1.1).2
  rw[Wc,h1.2.1]at h2;cases h2
 have go:∀(f k:Nat),k+f=r.length->gJ d f (cQ d (r.take k)) (r.take k)=some r:=by
  intro f
  induction f with
  |zero =>
   intro k hk;unfold gJ;rw[Vh]
   ·rw[Vi V]
   ·refine(zb hR).2 fun v hv=>jx.2 ⟨v,?_,by rw[Vy,V6];simp⟩;rw[Vi V];exact(hmem v).2 hv
  |succ f ih =>
   intro k hk;unfold gJ;split
   ·rename_i hd;have:=full k hd V;omega
   ·obtain⟨v,hv⟩:=ay (l:=r) (i:=k) V;rw[nx k v hv];have:=ih (k+1) V;rw[bd hv,tw]at this;exact this
 have:=go r.length 0 V;unfold iL;rw[hlen];exact this
def zz (hok:ZS d)(hv:v<d.C.length)(hS:S<2 ^ d.C.length):bG (bw d r u S) v=if fM r u v=true then bG d v |||S else bG d v:=by
 obtain⟨x,hx⟩:=ay hv;have hp:bG d v=bF x.F:=by unfold bG;rw[hx]
 unfold bG;rw[rp hx,hx];simp only;unfold jf;split
 ·refine Dr (WR (lh fun q hq=>(ot hok hx).2 q hq) hS)
 ·rfl
def pM (hok:ZS d)(hr:Z0 d r)(hu:u∈r)(hS:Sub S (bz d u)):Z0 (bw d r u S) r:=by
 have hSl:=pJ hS;have hdl:aJ (bw d r u S)=aJ d:=by unfold aJ;rw[hJ];rfl
 have hSd:∀i,S.testBit i=true->d.nl.testBit i=false:=fun i hi=>(vG.1 (hS i hi)).2.1;refine⟨fun k v hv=>?_,hr.all⟩;obtain⟨hm,h1,h2,h3⟩:=hr.ro k v hv;have hvl:=(bN.1 hm).1;have hnd:∀j w,r[j]?=some w->r.idxOf w=j:=fun j w hj=>by
  have hw:w∈r:=an hj;have e:r[r.idxOf w]?=some w:=by rw[Vf (VY hw),Wq]
  rcases WH (r.idxOf w) j with hlt|he|hlt
  ·have:=hr.ro.new hj;rw[lG.2 (Vl.2 ⟨r.idxOf w,by rw[Vz hlt];exact e⟩)]at this;cases this
  ·exact he
  ·have:=hr.ro.new e;rw[lG.2 (Vl.2 ⟨j,by rw[Vz hlt];exact hj⟩)]at this;cases this
 have hlv:fM r u v=true↔r.idxOf u<=k:=by
  unfold fM;rw[Ym,hnd k v hv];exact⟨fun h=>h.2,fun h=>⟨an hv,h⟩⟩
  -- what is known when this decision comes
 have need:∀i,(cQ (bw d r u S) (r.take k)).testBit i=true->(cQ d (r.take k)).testBit i=true\/(S.testBit i=true/\r.idxOf u<k):=fun i hi=>by
  obtain⟨w,hw,hb⟩:=jx.1 hi;obtain⟨j,hj⟩:=Vl.1 hw;have hjk:j<k:=by have:=aO hj;rw[Vv]at this;omega
  rw[Vz hjk]at hj;have hwl:=(bN.1 (hr.mem w (an hj))).1;rw[Vy,zz hok hwl hSl]at hb;cases hl:fM r u w with
  |false =>
   rw[hl,Vg ZG,<- Vy]at hb;exact .inl (jx.2 ⟨w,hw,hb⟩)
  |true =>
   rw[hl,Vh rfl]at hb;have hju:r.idxOf u<=j:=(by have:=(of_decide_eq_true hl).2;rw[hnd j w hj]at this;exact this);rw[Vy]at hb;cases hs:S.testBit i with
   |true=>exact .inr ⟨rfl,V⟩
   |false =>
    rw[hs,Zk,<- Vy]at hb;exact .inl (jx.2 ⟨w,hw,hb⟩)
 have needG:Sub (cQ d (r.take k)) (cQ (bw d r u S) (r.take k)):=fun i hi=>by
  obtain⟨w,hw,hb⟩:=jx.1 hi;have hwl:=(bN.1 (hr.mem w (VE hw))).1;refine jx.2 ⟨w,hw,?_⟩;rw[Vy,zz hok hwl hSl];rw[Vy]at hb;split
  ·rw[Vy];cases h:(bG d w).testBit i<;>simp_all
  ·exact hb
 have hpv:=zz (r:=r) (u:=u) hok hvl hSl;refine⟨by rw[hdl];exact hm,?_,?_,?_⟩
 ·cases hb:(cQ (bw d r u S) (r.take k)).testBit v with
  |false=>rfl
  |true =>
   rcases need v hb with h|⟨h,_⟩
   ·rw[h1]at h;cases h
   ·have:=hSd v h;rw[(bN.1 hm).2]at this;cases this
 ·refine VW fun i=>?_;rw[Wc];cases hb:(cQ (bw d r u S) (r.take k)).testBit i with
  |false=>simp
  |true =>
   have:(bG (bw d r u S) v).testBit i=true:=by
    rw[hpv];rcases need i hb with h|⟨h,hk⟩
    ·have:=vo h2 i h;split
     ·rw[Vy,this];rfl
     ·exact this
    ·rw[Vh (hlv.2 V),Vy,h];simp
   rw[this];rfl
 ·refine VW fun i=>?_;have h3i:=congrArg (fun n=>n.testBit i) h3;simp only[Wc]at h3i;show (bG (bw d r u S) v &&& d.nl).testBit i=(cQ (bw d r u S) (r.take k) &&& d.nl).testBit i;rw[Wc,Wc];cases hd:d.nl.testBit i with
  |false=>simp
  |true =>
   rw[hd,Bool.and_true,Bool.and_true]at h3i;have hSi:S.testBit i=false:=by
    cases hs:S.testBit i with
    |false=>rfl
    |true=>have:=hSd i hs;rw[hd]at this;cases this
   have e1:(bG (bw d r u S) v).testBit i=(bG d v).testBit i:=by
    rw[hpv];split
    ·rw[Vy,hSi,Zk]
    ·rfl
   have e2:(cQ (bw d r u S) (r.take k)).testBit i=(cQ d (r.take k)).testBit i:=by
    rw[WG];refine⟨fun h=>?_,needG i⟩;rcases need i h with h|⟨h,_⟩
    ·exact h
    ·rw[hSi]at h;cases h
   rw[e1,e2,h3i]
def Pv (hr:Z0 d r)(h:fM r u v=true):v∈aJ d:=hr.mem v (of_decide_eq_true h).1
def Pw (hok:ZS d)(hr:Z0 d r){S':Nat}(hS:S<2 ^ d.C.length)(hS':S'<2 ^ d.C.length)(hl:∀v,fM r u v=true->fM r u' v=true)(hs:Sub S S'):
  nnb (bw d r u S) (bw d r u' S'):=by
 refine⟨by rw[hJ,hJ],rfl,rfl,rfl,fun v y y' hy hy'=>?_⟩;obtain⟨x,hx⟩:=ay (l:=d.C) (i:=v) (by have:=aO hy;rw[hJ]at this;exact this);rw[rp hx]at hy hy';cases hy;cases hy';have hpl:=ot hok hx;refine⟨by rw[(rq ..).1,(rq ..).1],fun p hp=>?_,fun hb=>?_⟩
 ·have inb:∀T:Nat,(bF x.F |||T).testBit p.toNat=true->0<=p->p<d.C.length->p∈dQ (bF x.F |||T) d.C.length:=fun T h h0 h1=>lE.2 ⟨p.toNat,V,V,h⟩;have par:p∈x.F->(bF x.F).testBit p.toNat=true/\0<=p/\p<d.C.length:=fun h=>by
   have h0:=hpl.2 p h;refine⟨?_,h0.1,h0.2⟩;rw[iD fun q hq=>(hpl.2 q hq).1];exact VD (by rw[Xx h0.1];exact h)
  unfold jf at hp ⊢;by_cases h1:fM r u v=true
  ·rw[Vh h1]at hp;rw[Vh (hl v h1)];obtain⟨i,rfl,h2,h3⟩:=lE.1 hp;refine inb S' ?_ V V;rw[Vy,VN]at h3 ⊢;rw[Int.toNat_natCast];exact h3.imp (fun h2=>h2) fun h=>hs i h
  ·rw[Vg h1]at hp;obtain⟨a,b,c⟩:=par hp;split
   ·exact inb S' (by rw[Vy,a];rfl) b c
   ·exact hp
 ·have h1:∀u,fM r u v=false:=fun u=>by
   cases h:fM r u v with
   |false=>rfl
   |true =>
    have:=(bN.1 (Pv hr h)).2;have hb':d.nl.testBit v=false:=hb;rw[hb']at this;cases this
  unfold jf;rw[h1,h1];rfl
def dO (d:ZN)(r:List Nat)(u S:Nat):Int:=dC (bw d r u S) r-dC d r
def Px (hok:ZS d)(hr:Z0 d r)(hu:u∈r)(hu':u'∈r)(hi:r.idxOf u'<=r.idxOf u)(hS:Sub S (bz d u))(hS':Sub S (bz d u')):dO d r u S<=dO d r u' S:=by
 have:=Pq (Pw hok hr (pJ hS) (pJ hS') (fun v h=>by
  have:=of_decide_eq_true h;exact VD ⟨this.1,VM hi this.2⟩) fun i h=>h) (pL hok hr hu hS) (pL hok hr hu' hS') (pM hok hr hu hS) (pM hok hr hu' hS')
 unfold dO;omega
abbrev ru (d:ZN)(i:Nat):Nat:=dP (aB d.C) ((aB d.C).getD i 0)
abbrev ow (d:ZN)(i:Nat):Nat:=(aB d.C).getD i 0
structure DfsR (d:ZN)(v M M':Nat):Prop where
 sub:Sub M M'
 lt:M'<2 ^ d.C.length
 new:∀i,M'.testBit i=true->M.testBit i=false->(ru d i).testBit v=true
 nO:∀c,c<d.C.length->(ow d c).testBit v=true->M'.testBit c=true
 cls:∀i c,M'.testBit i=true->M.testBit i=false->c<d.C.length->(ow d c).testBit i=true->M'.testBit c=true
structure nnh (d:ZN)(v M w M':Nat):Prop where
 sub:Sub M M'
 lt:M'<2 ^ d.C.length
 new:∀i,M'.testBit i=true->M.testBit i=false->(ru d i).testBit v=true
 nO:∀c,c<w->(ow d c).testBit v=true->M'.testBit c=true
 cls:∀i c,M'.testBit i=true->M.testBit i=false->c<d.C.length->(ow d c).testBit i=true->M'.testBit c=true
def nnh.start (h:M<2 ^ d.C.length):nnh d v M 0 M :=
 ⟨.refl _,h,fun i h1 h2=>(by rw[h1]at h2;cases h2),fun c h=>absurd h (Vt _),fun i c h1 h2=>(by rw[h1]at h2;cases h2)⟩
def nnh.done (h:nnh d v M d.C.length M'):DfsR d v M M':=⟨h.sub,h.lt,h.new,h.nO,h.cls⟩
def nnh.met (h:nnh d v M w M')(hm:M'.testBit w=true):nnh d v M (w+1) M' :=
 ⟨h.sub,h.lt,h.new,fun c hc hp=>by
  by_cases e:c=w
  ·rw[e];exact hm
  ·exact h.nO c V hp,h.cls⟩
def nnh.no (h:nnh d v M w M')(hp0:(ow d w).testBit v=false):nnh d v M (w+1) M' :=
 ⟨h.sub,h.lt,h.new,fun c hc hp=>by
  by_cases e:c=w
  ·rw[e,hp0]at hp;cases hp
  ·exact h.nO c V hp,h.cls⟩
def tF :(a |||2 ^ w).testBit i=true↔a.testBit i=true\/i=w:=by
 rw[Vy,VN,Xu];exact or_congr_right ⟨fun h=>(of_decide_eq_true h).symm,fun h=>VD h.symm⟩
def nnh.step (hok:ZS d){M1 M2:Nat}(h:nnh d v M w M1)(hw:w<d.C.length)(hv:v<d.C.length)(hp:(ow d w).testBit v=true)(hr:DfsR d w (M1 |||2 ^ w) M2):nnh d v M (w+1) M2:=by
 have s1:Sub M1 M2:=fun i hi=>hr.sub i (tF.2 (.inl hi));have hw2:M2.testBit w=true:=hr.sub w (tF.2 (.inr rfl));have cases3:∀i,M2.testBit i=true->M1.testBit i=true\/i=w\/(M1 |||2 ^ w).testBit i=false:=fun i _=>by
  cases hb:(M1 |||2 ^ w).testBit i with
  |false=>exact .inr (.inr rfl)
  |true=>exact(tF.1 hb).imp (fun h2=>h2) .inl
 refine⟨h.sub.trans s1,hr.lt,fun i h1 h2=>?_,fun c hc hpc=>?_,fun i c h1 h2 hc hpc=>?_⟩
 ·rcases cases3 i h1 with h3|rfl|h3
  ·exact h.new i h3 h2
  ·exact tE hp
  ·have h4:=hr.new i h1 h3;have hil:i<d.C.length:=Wr fun hn=>by
    rw[Wy (Vn hr.lt (Vr ZH hn))]at h1;cases h1
   exact zy hok hil hw h4 v (tE hp)
 ·by_cases e:c=w
  ·rw[e];exact hw2
  ·exact s1 c (h.nO c V hpc)
 ·rcases cases3 i h1 with h3|rfl|h3
  ·exact s1 c (h.cls i c h3 h2 hc hpc)
  ·exact hr.nO c hc hpc
  ·exact hr.cls i c h1 h3 hc hpc
def Py (hok:ZS d)(hu:u<d.C.length)(h:DfsR d u 0 M)(hi:i<d.C.length):M.testBit i=(ru d i).testBit u:=by
 rw[WG];constructor
 ·exact fun h1=>h.new i h1 (V4 i)
 ·intro ha;refine VZ fun hno=>?_;have hno:M.testBit i=false:=by simpa using hno
  obtain⟨t,ht⟩:∃t:Nat,∀q,t.testBit q=true↔q<d.C.length/\q≠u/\M.testBit q=false :=
   ⟨dE ((List.range d.C.length).filter fun q=>decide (q≠u) && !M.testBit q),fun q=>by rw[lG,Xa,Vs];simp⟩
  have cl:∀a,a<d.C.length->M.testBit a=false->Sub (ow d a) t:=fun a hal hM q hq=>by
   refine(ht q).2 ⟨Dw hok hal hq,fun e=>?_,?_⟩
   ·rw[e]at hq;rw[h.nO a hal hq]at hM;cases hM
   ·cases hb:M.testBit q with
    |false=>rfl
    |true =>
     rw[h.cls q a hb (V4 q) hal hq]at hM;cases hM
  have hc:mi (aB d.C) t:=fun a hal hb=>by
   obtain⟨h1,_,h3⟩:=(ht a).1 hb;exact cl a h1 h3
  have:=pT hc (aB d.C).length (cl i hi hno) u ha;exact((ht u).1 this).2.1 rfl
def tG (d:ZN)(M:Nat):Nat:=((List.range d.C.length).filter fun i=>!M.testBit i).length
def Pz (hs:Sub M M')(hw:w<d.C.length)(h0:M.testBit w=false)(h1:M'.testBit w=true):tG d M'<tG d M:=by
 unfold tG;have key:∀n,((List.range n).filter fun i=>!M'.testBit i).length<=((List.range n).filter fun i=>!M.testBit i).length/\(w<n->((List.range n).filter fun i=>!M'.testBit i).length<((List.range n).filter fun i=>!M.testBit i).length):=by
  intro n
  induction n with
  |zero=>exact⟨ZJ,fun h=>absurd h (Vt _)⟩
  |succ n ih =>
   rw[VX,WY,WY,List.length_append,List.length_append];have e:∀N:Nat,((List.filter (fun i=>!N.testBit i) [n]).length=if N.testBit n=true then 0 else 1):=fun N=>by
    cases hb:N.testBit n<;>simp[hb]
   rw[e,e];have hsn:M.testBit n=true->M'.testBit n=true:=hs n;by_cases hwn:w=n
   ·subst hwn;rw[h0,h1];simp only[if_true,Bool.false_eq_true,if_false];omega
   ·refine⟨?_,fun h=>?_⟩
    ·by_cases hb:M.testBit n=true
     ·rw[Vh hb,Vh (hsn hb)];omega
     ·rw[Vg hb];split<;>omega
    ·have:=ih.2 V;by_cases hb:M.testBit n=true
     ·rw[Vh hb,Vh (hsn hb)];omega
     ·rw[Vg hb];split<;>omega
 exact(key _).2 hw
def Ul (h:l≠[])(b:Int):iF (l++[b])=max (iF l) b:=by
 cases l with
 |nil=>exact absurd rfl h
 |cons a l =>
  show (l++[b]).foldl max a=_;rw[Wn];rfl
def Um (l:List Int)(h0:l≠[])(hl:(l.length:Int)<2 ^ 62)(H:ZK)(K:ZQ->ZK->Prop)(hK:K (.ret (aa (iF l))) H):ae prog G0 150 [af l] H K:=by
 have hpos:0<l.length:=List.length_pos_iff.2 h0;obtain⟨a,ha⟩:=ay hpos;have h1:¬((l.length:Int)<1):=V
 have hp1:(0:Int)<l.length:=V
 refine ae.st (n:=25) (rs:=[.tmp 2]) func150 ?_;simp only[go_sem,h1,ha,h0,hp1];refine W.aS 16773144 (by rfl) (fun ρ H'=>H'=H/\∃k:Nat,ρ 4=aa (k:Int)/\1<=k/\k<=l.length/\ρ 3=aa (iF (l.take k))) (fun ρ H=>l.length-(iv (ρ 4)).toNat) ?_ ?_
 ·simp only[go_sem];refine⟨1,rfl,ZJ,V,?_⟩;rw[bd ha,List.take_zero];rfl
 rintro ρ H' ⟨rfl,k,h4,hk1,hk,h3⟩;refine W.vs ?_;by_cases hb:(k:Int)<l.length
 ·obtain⟨b,hkb⟩:=ay (l:=l) (i:=k) V;have hne:=aZ hkb;have w1:=Vd ((k:Int)+1) V;simp only[go_sem,h4,h3,hb,hkb,hne,w1,builtin_max];refine⟨⟨k+1,ZG,V,V,?_⟩,V⟩;rw[bd hkb,Ul (fun e=>by have:=congrArg List.length e;rw[Vv,XJ V]at this;rw[List.length_nil]at this;omega)];congr 2;split<;>omega
 ·simp only[go_sem,h4,h3,hb];rw[Vi V];exact aj.mk ZJ hK
def Un {v:Int}(h:∀j,j<k->∀b,l[j]?=some b->b≠v)(hk:l[k]?=some v):l.idxOf v=k:=by
 induction l generalizing k with
 |nil=>simp at hk
 |cons a l ih =>
  cases k with
  |zero=>simp only[List.getElem?_cons_zero,Option.some.injEq]at hk;subst hk;simp
  |succ k =>
   have ha:=h 0 V a rfl;have hr:=ih (k:=k) (fun j hj b hb=>h (j+1) V b (by simpa using hb)) (by simpa using hk);have hbe:(a == v)=false:=beq_false_of_ne ha;simp[Yh,hbe,hr]
def Uo (l:List Int)(v:Int)(hv:v∈l)(hl:(l.length:Int)<2 ^ 62)(H:ZK)(K:ZQ->ZK->Prop)(hK:K (.ret (aa ((l.idxOf v:Nat):Int))) H):ae prog G0 87 [af l,aa v] H K:=by
 refine ae.st (n:=19) (rs:=[.tmp 4]) func87 ?_;simp only[go_sem];refine W.aS 524080 (by rfl) (fun ρ H'=>H'=H/\∃k:Nat,ρ 8=aa k/\k<=l.length/\∀j,j<k->∀b,l[j]?=some b->b≠v) (fun ρ H=>l.length-(iv (ρ 8)).toNat) ?_ ?_
 ·simp only[go_sem];exact⟨0,rfl,V,fun j h=>absurd h (Vt _)⟩
 rintro ρ H' ⟨rfl,k,h8,hk,hno⟩;refine W.vs ?_;by_cases hb:(k:Int)<l.length
 ·obtain⟨b,hkb⟩:=ay (l:=l) (i:=k) V;have hne:=aZ hkb;have w1:=Vd ((k:Int)+1) V;by_cases he:v=b
  ·subst he;simp only[go_sem,h8,hb,hkb,hne];rw[Un hno hkb]at hK;exact aj.mk ZJ hK
  ·simp only[go_sem,h8,hb,hkb,hne,he,w1];exact⟨⟨k+1,ZG,V,fun j hj b' hb'=>by
    by_cases hjk:j=k
    ·subst hjk;rw[hkb]at hb';cases hb';exact fun h=>he h.symm
    ·exact hno j V b' hb'⟩,V⟩
 ·exfalso;obtain⟨j,hj⟩:=Vl.1 hv;exact hno j (by have:=aO hj;omega) v hj rfl
def fP (l:List Int)(v:Int):Int:=if v∈l then (l.idxOf v:Nat) else -1
def zA (l:List Int)(v:Int)(hl:(l.length:Int)<2 ^ 62)(H:ZK)(K:ZQ->ZK->Prop)(hK:K (.ret (aa (fP l v))) H):ae prog G0 87 [af l,aa v] H K:=by
 by_cases hv:v∈l
 ·refine Uo l v hv hl H K ?_;unfold fP at hK;rw[Vh hv]at hK;exact hK
 unfold fP at hK;rw[Vg hv]at hK;refine ae.st (n:=19) (rs:=[.tmp 4]) func87 ?_;simp only[go_sem];refine W.aS 524080 (by rfl) (fun ρ H'=>H'=H/\∃k:Nat,ρ 8=aa k/\k<=l.length) (fun ρ H=>l.length-(iv (ρ 8)).toNat) ?_ ?_
 ·simp only[go_sem];exact⟨0,rfl,V⟩
 rintro ρ Hx ⟨rfl,k,h8,hk⟩;refine W.vs ?_;by_cases hb:(k:Int)<l.length;rotate_left
 ·simp only[go_sem,h8,hb];exact aj.mk ZJ hK
 obtain⟨x,hx⟩:=ay (l:=l) (i:=k) V;have hx':(ints l)[k]?=some (aa x):=by rw[gZ,hx];rfl
 have hne:=aZ hx;have hxv:¬v=x:=fun h=>hv (h ▸ an hx);have w1:=Vd ((k:Int)+1) V;simp only[go_sem,h8,hb,hx',hne,hxv,w1];exact⟨⟨k+1,rfl,V⟩,V⟩
def Dx (l:List Int)(v:Int)(hl:(l.length:Int)<2 ^ 62)(H:ZK)(K:ZQ->ZK->Prop)(hK:K (.ret (.lit (.bool (decide (v∈l))))) H):ae prog G0 79 [af l,aa v] H K:=by
 refine ae.st (n:=9) (rs:=[.tmp 4]) func79 ?_;simp only[go_sem];refine ak.X (zA l v hl H _ ⟨trivial,?_⟩);by_cases hv:v∈l
 ·rw[VD hv]at hK;have h0:fP l v >= 0:=by unfold fP;rw[Vh hv];omega
  simp only[go_sem,h0];exact aj.mk ZJ hK
 ·rw[V7 hv]at hK;have h0:¬fP l v >= 0:=by unfold fP;rw[Vg hv];omega
  simp only[go_sem,h0];exact aj.mk ZJ hK
def hZ (d:ZN)(r:List Nat)(u:Nat):List ZL:=[aa d.Z,.Q d.C.length (aG d.C),aL d.nl,.Q d.Y.length (bA d.Y),af (aE r),aa u]
structure Beh (d:ZN)(r:List Nat)(u s B:Nat)(H:ZK)(M:Nat):Prop where
 sl:s<B
 nx:B+2<H.A
 gs:H.get s=some (.J 0 157 (hZ d r u))
 gb:H.get B=some (.J 0 101 [.O s 0 0])
 gm:H.get (B+1)=some (.J 0 34 [aL M])
 gw:H.get (B+2)=some (.J 0 197 [.X 123 [] [.O B 0 0,.O (B+1) 0 0,.O (B+2) 0 0]])
def Beh.ng {s B:Nat}{H H':ZK}(h:Beh d r u s B H M)(hn:H.A<=H'.A)(hk:∀i,i<H.A->H'.get i=H.get i):Beh d r u s B H' M:=by
 have h1:=h.nx;have h2:=h.sl;exact⟨h2,V,(hk _ V).trans h.gs,(hk _ V).trans h.gb,(hk _ V).trans h.gm,(hk _ V).trans h.gw⟩
def PC (hok:ZS d){s B:Nat}(hpl:∀x∈d.C,(x.F.length:Int)<2 ^ 62):∀(m M v:Nat) (H:ZK) (K:ZQ->ZK->Prop),tG d M<m->v<d.C.length->M<2 ^ d.C.length->Beh d r u s B H M ->
  (∀H' M',DfsR d v M M'->Beh d r u s B H' M'->(∀i,i<H.A->i≠B+1->H'.get i=H.get i)->H.A<=H'.A->K (.ret (.nc [])) H') ->
  ae prog G0 123 [aa v,.O B 0 0,.O (B+1) 0 0,.O (B+2) 0 0] H K:=by
 have n8:=hok.n.n1;have p64:∀a:Nat,a<2 ^ d.C.length->a<2 ^ 64:=fun a h=>Vn h (Vr ZH V);intro m
 induction m with
 |zero=>exact fun M v H K hm=>absurd hm (Vt _)
 |succ m ih =>
  intro M v H K hm hv hM hB hK;have ls:=ag hB.gs;have lb:=ag hB.gb;unfold hZ at ls;refine ae.sw (n:=37) (rs:=[]) func123 ?_;refine W.sq ?_;simp only[go_sem,lb,ls];refine W.en (fun E=>E 0=aa v /\ E 2=.O (B+1) 0 0 /\ E 3=.O (B+2) 0 0 /\ E 11=.Q d.C.length (aG d.C) /\ E 12=aa d.C.length /\ E 13=aa 0) (by simp only[go_sem]) fun E ⟨e0,e2,e3,e11,e12,e13⟩=>?_
  refine W.block ?_;refine W.aS 137438945376 (by rfl) (fun ρ Hx=>∃k M1:Nat,ρ 13=aa k/\k<=d.C.length/\nnh d v M k M1/\Beh d r u s B Hx M1/\(∀i,i<H.A->i≠B+1->Hx.get i=H.get i)/\H.A<=Hx.A) (fun ρ _=>d.C.length-(iv (ρ 13)).toNat) ?_ ?_
  ·exact⟨0,M,e13,V,.start hM,hB,fun _ _ _=>rfl,ZJ⟩
  rintro ρ Hx ⟨k,M1,h13,hk,hD,hB1,hold,hn⟩;refine W.en (fun E1=>E1 0=aa v /\ E1 2=.O (B+1) 0 0 /\ E1 3=.O (B+2) 0 0 /\ E1 11=.Q d.C.length (aG d.C) /\ E1 12=aa d.C.length /\ E1 13=aa k) (by simp only[go_sem,e0,e2,e3,e11,e12,h13]) fun E1 ⟨f0,f2,f3,f11,f12,f13⟩=>?_
  by_cases hb:(k:Int)<d.C.length;rotate_left
  ·refine W.vs ?_;simp only[go_sem,f12,f13,hb];obtain rfl:k=d.C.length:=V;exact aj.mk hn (hK Hx M1 hD.done hB1 hold hn)
  obtain⟨x,hx⟩:=ay (l:=d.C) (i:=k) V;have c0:=oC hx;have cne:=fQ hx;have w1:=Vd ((k:Int)+1) V;have c3:k*3+3<=(aG d.C).length:=by rw[kq];omega
  refine W.sq ?_;simp only[go_sem,f12,f13,hb];refine W.sq ?_;simp only[go_sem];refine W.seq (W.block ?_);refine W.sq ?_;simp only[go_sem,f11,f13,hb,c0,cne,c3];obtain⟨H1,hH1⟩:∃H1,H1=ext Hx [.J 0 76 [.lit (.int .i64 x.L),.Q x.F.length (ints x.F),bb x.nb]]:=⟨_,rfl⟩
  have o1:ZP Hx H1:=hH1▸.ext _ _
  have n1:H1.A=Hx.A+1:=hH1▸rfl
  have g6:=dh hH1
  have hB2:Beh d r u s B H1 M1:=hB1.ng V fun i h=>o1.nf i h;have bnx:=hB1.nx;have l6:=ag g6;have lm:=ag hB2.gm;have lw:=ag hB2.gw;have hold1:∀i,i<H.A->i≠B+1->H1.get i=H.get i:=fun i h h2=>(o1.nf i V).trans (hold i h h2);rw[<- hH1];clear hH1;have M64:=p64 M1 hD.lt;have s1:=fun t x y=>jm (P:=prog) (t:=t) (x:=x) (y:=y) (k':=.i64) (s:=k) M64;have s2:=fun t x y=>pf (P:=prog) (t:=t) (x:=x) (y:=y) (s:=k) M64;refine W.en (fun E2=>E2 0=aa v /\ E2 2=.O (B+1) 0 0 /\ E2 3=.O (B+2) 0 0 /\ E2 5=aa k /\ E2 6=.O Hx.A 0 0 /\ E2 13=aa k) (by simp only[go_sem,f0,f2,f3,f13]) fun E2 ⟨m0,m2,m3,m5,m6,m13⟩=>?_
  have hpx:=ot hok hx;have par:(ow d k).testBit v=decide ((v:Int)∈x.F):=by
   show ((aB d.C).getD k 0).testBit v=_;rw[pK hx,iD fun p hp=>(hpx.2 p hp).1]
  cases hbit:M1.testBit k with
  |true =>
   refine W.sq ?_;simp only[go_sem,m2,m5,lm,s1,s2,hbit];refine W.cond (t:=false) (by simp only[go_sem]) ?_;refine W.vs ?_;simp only[go_sem];refine W.vs ?_;simp only[go_sem,m13,w1];exact⟨V,⟨k+1,M1,rfl,V,hD.met hbit,hB2,hold1,V⟩,by rw[h13];simp only[aa,bf];omega⟩
  |false =>
   refine W.sq ?_;simp only[go_sem,m0,m2,m5,m6,lm,l6,s1,s2,hbit];refine ak.X (Dx x.F v (hpl x (an hx)) _ _ ⟨trivial,?_⟩);by_cases hv':(v:Int)∈x.F;rotate_left
   ·rw[V7 hv']at par ⊢;simp only[go_sem];refine W.cond (t:=false) (by simp only[go_sem]) ?_;refine W.vs ?_;simp only[go_sem];refine W.vs ?_;simp only[go_sem,m13,w1];exact⟨V,⟨k+1,M1,rfl,V,hD.no par,hB2,hold1,V⟩,by rw[h13];simp only[aa,bf];omega⟩
   rw[VD hv']at par ⊢;simp only[go_sem];refine W.cond (t:=true) (by simp only[go_sem]) ?_;have s3:=fun t x y=>lP (P:=prog) (t:=t) (x:=x) (y:=y) (k':=.i64) (s:=k) V;have hk2:2 ^ k<2 ^ d.C.length:=Ww ZH V;have s4:=fun t x y=>j5 (P:=prog) (t:=t) (x:=x) (y:=y) M64 (p64 _ hk2);refine W.seq ?_;refine W.dr 3 [0,0,2] mixed ?_;simp only[go_sem,m2,m5,lm,s3,s4];obtain⟨H2,hH2⟩:∃H2,H2=H1.upd (B+1) (.J 0 34 [.lit (.int .u64 ((M1 |||2 ^ k:Nat):Int))]):=⟨_,rfl⟩
   have u1:∀i,i≠B+1->H2.get i=H1.get i:=fun i h=>by rw[hH2,ah,Vg h]
   have n2:H2.A=H1.A:=(by rw[hH2];rfl);have bsl:=hB2.sl;have hB3:Beh d r u s B H2 (M1 |||2 ^ k):=⟨bsl,V,(u1 _ V).trans hB2.gs,(u1 _ V).trans hB2.gb,by rw[hH2,ah,Vh rfl];rfl,(u1 _ V).trans hB2.gw⟩
   have lw3:=ag hB3.gw;rw[<- hH2];clear hH2;have hM0:M.testBit k=false:=by
    cases hb0:M.testBit k with
    |false=>rfl
    |true=>rw[hD.sub k hb0]at hbit;cases hbit
   have hlt:=Pz (d:=d) (M:=M) (M':=M1 |||2 ^ k) (w:=k) (fun i hi=>tF.2 (.inl (hD.sub i hi))) V hM0 (tF.2 (.inr rfl));refine W.vs ?_;simp only[go_sem,m3,m5,lw3];refine ak.X (ih (M1 |||2 ^ k) k H2 _ V V (WR hD.lt hk2) hB3 fun H3 M3 hR hB4 kp n3=>⟨trivial,?_⟩);simp only[go_sem];refine W.vs ?_;simp only[go_sem,m13,w1];exact⟨V,⟨k+1,M3,rfl,V,hD.step hok V hv par hR,hB4,fun i h1 h2=>(kp i V h2).trans ((u1 i h2).trans (hold1 i h1 h2)),V⟩,by rw[h13];simp only[aa,bf];omega⟩
def oz (d:ZN)(u:Nat):Nat:=dE ((List.range d.C.length).filter fun i=>(ru d i).testBit u)
def DA :(oz d u).testBit i=true↔i<d.C.length/\(ru d i).testBit u=true:=by
 unfold oz;rw[lG,Xa,Vs]
def PM (hok:ZS d)(hu:u<d.C.length)(h:DfsR d u 0 M):M=oz d u:=VW fun i=>by
 rw[WG,DA];rcases VC i d.C.length with hi|hi
 ·rw[Py hok hu h hi];exact⟨fun h=>⟨hi,h⟩,fun h=>h.2⟩
 ·rw[Wy (Vn h.lt (Vr ZH hi))];exact⟨fun h=>Bool.noConfusion h,fun h=>absurd h.1 V⟩
def PN (hok:ZS d){s:Nat}(hpl:∀x∈d.C,(x.F.length:Int)<2 ^ 62)(hu:u<d.C.length)(H:ZK)(hs:H.get s=some (.J 0 157 (hZ d r u)))(hsl:s<H.A)(K:ZQ->ZK->Prop)(hK:K (.ret (aL (oz d u))) H):
  ae prog G0 80 [.O s 0 0] H K:=by
 refine ae.X ⟨_,func80,rfl,rfl⟩ fun hcl=>?_;refine ae.sw (n:=13) (rs:=[.tmp 2]) func80 ?_;refine W.sq ?_;simp only[go_sem];refine W.sq ?_;simp only[go_sem];refine W.sq ?_;simp only[go_sem];refine W.sq ?_;simp only[go_sem];refine⟨⟨rfl,rfl,ZJ⟩,?_⟩;obtain⟨H1,hH1⟩:∃H1,H1=ext H [.J 0 101 [.O s 0 0],.J 0 34 [.lit (.int .u64 0)],.J 0 197 [.X 123 [] [.O H.A 0 0,.O (H.A+1) 0 0,.O (H.A+2) 0 0]]]:=⟨_,rfl⟩
 have o1:ZP H H1:=hH1▸.ext _ _
 have n1:H1.A=H.A+3:=hH1▸rfl
 have g0:=dh hH1
 have g1:=gE hH1 1 rfl
 have g2:=gE hH1 2 rfl
 have hB:Beh d r u s H.A H1 0:=⟨hsl,V,(o1.nf s hsl).trans hs,g0,g1,g2⟩
 have l0:=ag g0;have l2:=ag g2;have ls:=ag hB.gs;unfold hZ at ls;have cc:(ZL.X 123 [] [.O H.A 0 0,.O (H.A+1) 0 0,.O (H.A+2) 0 0]).cells=[.X 123 [] [.O H.A 0 0,.O (H.A+1) 0 0,.O (H.A+2) 0 0]]:=rfl;simp only[cc,Wh,List.drop_one,List.tail_cons,List.append_nil];rw[<- hH1];clear hH1;refine W.seq ?_;refine W.dr 5 [0,0,2,6,14] mixed ?_;simp only[go_sem,l0,l2,ls];refine ak.X (PC hok hpl (tG d 0+1) 0 u H1 _ (Wi _) hu (Xn _) hB fun H2 M hD hB2 kp n2=>⟨trivial,?_⟩);have lm:=ag hB2.gm;have e:=PM hok hu hD;subst e;simp only[go_sem];refine W.vs ?_;simp only[go_sem,lm];refine aj.bB aF hcl ⟨V,fun i h=>(kp i V V).trans (o1.nf i h)⟩ (.lit _) hK
def PO (hok:ZS d)(u:Nat):eE (eE (2 ^ d.C.length-1) d.nl) (oz d u)=bz d u:=VW fun i=>by
 have n8:=hok.n.n1;have h1:2 ^ d.C.length-1<2 ^ 64:=by
  have:=Vr (n:=2) ZH (show d.C.length<=64 by omega);have:=Xn d.C.length;omega
 rw[mA (AZ _ _),mA h1,WG,vG,WW];have hb:=DA (d:=d) (u:=u) (i:=i);rcases VC i d.C.length with hi|hi
 ·rw[VD hi];cases h2:d.nl.testBit i<;>cases h3:(oz d u).testBit i<;>cases h4:(ru d i).testBit u<;>simp_all
 ·rw[V7 V];simp;omega
def vJ (hok:ZS d){s:Nat}(hpl:∀x∈d.C,(x.F.length:Int)<2 ^ 62)(hu:u<d.C.length)(H:ZK)(hs:H.get s=some (.J 0 157 (hZ d r u)))(hsl:s<H.A)(K:ZQ->ZK->Prop)(hK:K (.ret (aL (bz d u))) H):
  ae prog G0 41 [.O s 0 0] H K:=by
 have n8:=hok.n.n1;have ls:=ag hs;unfold hZ at ls;have p1:=Xn d.C.length;have p2:=Vr (n:=2) ZH (show d.C.length<=8 by omega);have s1:=fun t x y=>lP (P:=prog) (t:=t) (x:=x) (y:=y) (k':=.i64) (s:=d.C.length) V;have w1:IntKind.u64.wrap ((2 ^ d.C.length:Nat)-1:Int)=((2 ^ d.C.length-1:Nat):Int):=by
  rw[show ((2 ^ d.C.length:Nat):Int)-1=((2 ^ d.C.length-1:Nat):Int) by omega];exact qu (V)
 have s2:=fun t x y=>pe (P:=prog) (t:=t) (x:=x) (y:=y) (a:=2 ^ d.C.length-1) (b:=d.nl);have s3:=fun t x y=>pe (P:=prog) (t:=t) (x:=x) (y:=y) (a:=eE (2 ^ d.C.length-1) d.nl) (b:=oz d u);refine ae.sw (n:=22) (rs:=[.tmp 2]) func41 ?_;refine W.sq ?_;simp only[go_sem];refine W.sq ?_;simp only[go_sem,ls,s1,w1];refine W.seq ?_;refine W.dr 9 [0,0,2,6,14,30,63,0,128] mixed ?_;simp only[go_sem,ls,s2];refine⟨aL (oz d u),[s],aY.mk (fun i hi=>by obtain rfl:=List.mem_singleton.1 hi;exact hsl) fun H2 h2 hn2=>PN hok hpl hu H2 ((h2 s ZG).trans hs) V _ ⟨rfl,rfl⟩,?_⟩;unfold aL;simp only[go_sem,s3,PO hok u];refine W.vs ?_;simp only[go_sem];exact aj.mk ZJ hK
end Go.Proofs
namespace Go.Hx
variable {P:Program}
variable {l m:List ZL}{lo:Nat}{e:TypeId}{H:ZK}{u v:ZL}
structure nnd (lo:Nat)(H:ZK)(e:TypeId)(v:ZL)(l:List ZL)(u:ZL)(m:List ZL):Prop where
 a:aI lo H e v l
 b:aI lo H e u m
 ne:∀i g n g' n',v=.U i g 0 n 1->u≠.U i g' 0 n' 1
def nnd.symm (h:nnd lo H e v l u m):nnd lo H e u m v l:=⟨h.b,h.a,fun i g n g' n' h1 h2=>h.ne i g' n' g n h2 h1⟩
theorem nnd.nil :nnd lo H e (.lit (.slice none 0 0)) [] (.lit (.slice none 0 0)) []:=⟨.nil,.nil,fun _ _ _ _ _ h=>(by cases h)⟩
theorem nnd.ng {H':ZK}(h:nnd lo H e v l u m)(hn:H.A<=H'.A)(hk:∀id,lo<=id->id<H.A->H'.get id=H.get id):nnd lo H' e v l u m :=
 ⟨h.a.ng ZJ hn fun id _ h1 h2 _ _=>hk id h1 h2,h.b.ng ZJ hn fun id _ h1 h2 _ _=>hk id h1 h2,h.ne⟩
def nnd.app {n:Nat}{t:TypeId}{x:ZL}{z:List ZL}(ht:P.underlying t=some (.slice e))(hz:P.cellsOf e=1)(hzero:bQ P e=some z)(hx:x.one=true)
  (hb:(l.length+1)*P.bytesOf e<=2 ^ 47/\l.length+1<=2 ^ 47) (h:nnd lo H e v l u m) (hlo:lo<=H.A) (hn:n=H.A+1):
  ∃v' H',bS P (ext H [.J 0 e [x]]) n t t v (.U H.A 0 0 1 1)=some (v',H')/\nnd lo H' e v' (l++[x]) u m/\H.A<=H'.A/\(∀k,k<lo->H'.get k=H.get k):=by
 have hsrc:dc (ext H [.J 0 e [x]]) 1 (.U H.A 0 0 1 1)=some (1,[x]):=by
  unfold dc;have:=ag (H:=ext H [.J 0 e [x]]) (g:=0) (ef (b:=.J 0 e [x]));simp[this]
 have hne:(ext H [ZR.J 0 e [x]]).A=H.A+1:=rfl;obtain⟨ha,hbb,hnn⟩:=h;rcases ha with ⟨rfl,rfl⟩|⟨i,g,h1,h2,rfl,h4⟩
 ·have n2:(ext (ext H [.J 0 e [x]]) [.J 0 e [x]]).A=H.A+2:=rfl;have nf:∀k,k<H.A->(ext (ext H [.J 0 e [x]]) [.J 0 e [x]]).get k=H.get k:=fun k hk=>by rw[dz (by rw[hne];omega),dz hk]
  refine⟨.U (H.A+1) 0 0 1 1,ext (ext H [.J 0 e [x]]) [.J 0 e [x]],?_,⟨.inr ⟨H.A+1,0,V,by rw[n2];omega,ZG,?_⟩,hbb.ng ZJ (by rw[n2];omega) fun id _ _ hid _ _=>nf id hid,fun i g n g' n' he hu=>?_⟩,by rw[n2];omega,fun k hk=>nf k V⟩
  ·unfold bS;rw[ht];simp only[hzero,hz,Option.bind_some,hsrc];rw[Vg ZH,Vh (by simpa using hb),vf (by rw[hn,hne]),hn];rfl
  ·rw[<- hne];exact ef
  ·have:=(ZL.U.inj he).1;rcases hbb with ⟨rfl,_⟩|⟨j,g2,_,a2,rfl,_⟩
   ·cases hu
   ·have:=(ZL.U.inj hu).1;omega
 ·have h4':(ext H [.J 0 e [x]]).get i=some (.J g e l):=by rw[dz h2];exact h4
  refine⟨.U i (g+1) 0 (l.length+1) 1,(ext H [.J 0 e [x]]).upd i (.J (g+1) e (l++[x])),?_,⟨.inr ⟨i,g+1,h1,by rw[aQ,hne];omega,ZG,by rw[ah,Vh rfl]⟩,hbb.ng ZJ (by rw[aQ,hne];omega) fun id g3 _ hid _ hu=>?_,fun i' g' n' g'' n'' he hu=>hnn i g l.length g'' n'' rfl (by rw[hu,(ZL.U.inj he).1])⟩,by rw[aQ,hne];omega,fun k hk=>?_⟩
  ·unfold bS;rw[ht];have hl:=ag h4';simp only[hzero,hz,Option.bind_some,hsrc,hl];rw[Vh ⟨trivial,trivial,V,hb.1,hb.2,by simp[hx]⟩];simp
  ·rw[ah,Vg,dz hid];rintro rfl;exact hnn id g l.length g3 _ rfl hu
  ·rw[ah,Vg V,dz V]
end Go.Hx

namespace Go.Proofs
open Go.Hx Tryz
variable {tot:Int}{vals:List Int}{r:List Nat}{j0 k k0 lo n v:Nat}{I:Nat->Nat->Nat}{α:Type}{H H':ZK}{lvh:ZL}{d:ZN}{D:ZU}
def iW (d:ZN)(vals:List Int):List Int:=(List.range d.C.length).map (jC d vals)
def xB (d:ZN)(vals:List Int):(iW d vals).length=d.C.length:=by simp[iW]
def AT (h:v<d.C.length):(iW d vals)[v]?=some (jC d vals v):=by
 unfold iW;rw[List.getElem?_map,VR h];rfl
structure RowNo (d:ZN)(x:ZM)(vals:List Int)(v i:Nat)(r:List Int)(a w:Int):Prop where
 idx:bL (aT d.C x) (aK vals x.F)=i
 row:x.nb[i]?=some r
 val:vals[v]?=some a
 a0:0<=a
 hw:r[a.toNat]?=some w
 wb:0<=w/\w<=60
 eq:jC d vals v=w
 al:a<r.length
def Gt (hok:ZS d){x:ZM}(hx:d.C[v]?=some x)(hb:¬d.nl.testBit v=true)(hf:cJ (au d.C) vals):∃i r a w,RowNo d x vals v i r a w:=by
 have hx2:=jG (c:=fun _ _=>0) hx;rw[oT hb]at hx2;obtain⟨i,r,a,w,hR⟩:=FV hok.nB hx2 (vals:=vals) (by rw[jX];exact hf);have hi:=hR.idx;rw[rZ]at hi;have hg:=hok.nB.g1;have h60:=hR.wb;refine⟨i,r,a,w,hi,hR.row,hR.val,hR.a0,hR.hw,V,?_,hR.al⟩;unfold jC;rw[Vg hb];unfold gf;rw[hx];simp only;unfold jA;rw[hi,Int.toNat_natCast,bI hR.row,bI hR.val,bI hR.hw]
def Gu (hok:ZS d)(hf:cJ (au d.C) vals)(hv:v<d.C.length):0<=jC d vals v/\jC d vals v<=60:=by
 obtain⟨x,hx⟩:=ay hv;by_cases hb:d.nl.testBit v=true
 ·unfold jC;rw[Vh hb];have:=hok.nB.g1;omega
 ·obtain⟨i,r,a,w,hR⟩:=Gt hok hx hb hf;rw[hR.eq];exact hR.wb
def Gv (hok:ZS d)(hf:cJ (au d.C) vals)(k:Nat):0<=aC ((iW d vals).take k)/\aC ((iW d vals).take k)<=167961600000000:=by
 have hb:∀w∈iW d vals,0<=w/\w<=60:=fun w hw=>by
  obtain⟨v,hv,rfl⟩:=Vu.1 hw;exact Gu hok hf (Vs.1 hv)
 have h1:=pS (b:=60) V (l:=(iW d vals).take k) fun x hx=>hb x (VE hx);have h2:=AG ((iW d vals).take k).length (by have:=hok.n.n1;rw[Vv,xB];omega);omega
def eC (d:ZN):List Int:=(List.range (cH d.C)).map fun (i:Nat)=>cK d (wv d i)
def dM (d:ZN):List Int:=(List.range (cH d.C)).map fun (i:Nat)=>dk d (wv d i)
def Ux (h:k<cH d.C):(eC d)[k]?=some (cK d (wv d k)):=by unfold eC;rw[List.getElem?_map,VR h];rfl
def AU (h:k<cH d.C):(dM d)[k]?=some (dk d (wv d k)):=by unfold dM;rw[List.getElem?_map,VR h];rfl
def Gw (d:ZN):(eC d).length=cH d.C:=by simp[eC]
def Gx (d:ZN):(dM d).length=cH d.C:=by simp[dM]
def AV {ns:List ZM}{us:List ZY}(hu:∀u∈us,nnl ns u)(h4:us.length<=4)(vals:List Int):-400<=cX ns us vals/\cX ns us vals<=400:=by
 have b:=xd hu h4 vals us.length;rw[Vi ZJ]at b;exact b
def Uy (d:ZN)(hok:ZS d)(hD:d.nl<2 ^ 64)(H:ZK)(K:ZQ->ZK->Prop)(hK:K (.ret (.nc [af (eC d),af (dM d)])) H):ae prog G0 110 [da d] H K:=by
 refine ae.X ⟨_,func110,rfl,rfl⟩ fun hcl=>?_;obtain⟨ns,hns⟩:∃ns,ns=d.C:=⟨_,rfl⟩
 have n8:=hok.n.n1;have hcd:=hok.n.L;have hcards:∀c∈au d.C,1<=c/\c<=4:=fun c hc=>by
  obtain⟨x,hx,rfl⟩:=Vu.1 hc;exact hcd x hx
 have sm:fb (au d.C):=se (by rw[eU];omega) hcards;have hp:=fX fun c hc=>(hcards c hc).1;have hsz:=sm.prod;have hw:((cH d.C:Nat):Int)=aC (au d.C):=by unfold cH;omega
 have hu4:=hok.Y.1;have hus:=hok.Y.2;refine ae.st (n:=105) (rs:=[.cell 2 72,.cell 3 72]) func110 ?_;simp only[go_sem,gR,cR];refine ak.X (FY d.C V _ _ ⟨trivial,?_⟩);simp only[go_sem];refine ak.X (FU (au d.C) _ _ ⟨trivial,?_⟩);simp only[go_sem];obtain⟨H2,hH2⟩:∃H2,H2=ext (ext H [.J 0 38 (cR d),.J 0 72 [.lit (.slice none 0 0)],.J 0 72 [.lit (.slice none 0 0)],.J 0 72 [af (au d.C)]]) [.J 0 72 [af (au d.C)]]:=⟨_,rfl⟩
 have n2:H2.A=H.A+5:=by rw[hH2];rfl
 have o2:ZP H H2:=by rw[hH2];exact(ZP.ext _ _).trans (.ext _ _)
 have g0:H2.get H.A=some (.J 0 38 (cR d)):=by rw[hH2,ee];exact bM H _ 0 (ZG)
 have g1:H2.get (H.A+1)=some (.J 0 72 [.lit (.slice none 0 0)]):=by rw[hH2,ee];exact bM H _ 1 (ZG)
 have g2:H2.get (H.A+2)=some (.J 0 72 [.lit (.slice none 0 0)]):=by rw[hH2,ee];exact bM H _ 2 (ZG)
 have g3:H2.get (H.A+3)=some (.J 0 72 [af (au d.C)]):=by rw[hH2,ee];exact bM H _ 3 (ZG)
 have g4:H2.get (H.A+4)=some (.J 0 72 [af (au d.C)]):=by rw[hH2,ee];exact bM H _ 4 (ZG)
 refine W.env fun E hE=>?_;have e1:E 1=.O H.A 0 0:=by rw[hE];simp only[go_sem]
 have e2:E 2=.O (H.A+1) 0 0:=by rw[hE];simp only[go_sem]
 have e3:E 3=.O (H.A+2) 0 0:=by rw[hE];simp only[go_sem]
 have e4:E 4=.O (H.A+3) 0 0:=by rw[hE];simp only[go_sem]
 have e20:E 20=.X 176 [] [.O (H.A+4) 0 0]:=by rw[hE];rfl
 clear hE;unfold cR at hH2;show W _ _ _ _ _ _ ⟨E,ext (ext H [.J 0 38 [.lit (.int .i64 d.Z),.Q d.C.length (aG d.C),.lit (.int .u64 (d.nl:Int)),.Q d.Y.length (bA d.Y)],.J 0 72 [.lit (.slice none 0 0)],.J 0 72 [.lit (.slice none 0 0)],.J 0 72 [af (au d.C)]]) [.J 0 72 [af (au d.C)]]⟩;rw[<- hH2];have hit:=FT (au d.C) (fun c hc=>(hcards c hc).1) sm (H.A+4) (H2.A+1) V;refine W.GF (f:=176) (first:=[]) (cap:=[.O (H.A+4) 0 0]) (by show E 20=_;exact e20) hit
  (fun k Hx=>H2.A<Hx.A/\(∀id,id<H2.A->id≠H.A+1->id≠H.A+2->Hx.get id=H2.get id)/\∃v u,Hx.get (H.A+1)=some (.J 0 72 [v])/\Hx.get (H.A+2)=some (.J 0 72 [u])/\nnd (H2.A+2) Hx 3 v (ints ((eC d).take k)) u (ints ((dM d).take k)))
  (fun _ _=>False)
  (fun k Hx h=>(h.2.1 _ V V V).trans g4)
  (fun k H1 H3 h hw=>⟨by have:=hw.1;omega,fun id h1 h2 h3=>(hw.2 _ V (by have:=h.1;omega)).trans (h.2.1 id h1 h2 h3),by
   obtain⟨v,u,a1,a2,a3⟩:=h.2.2;exact⟨v,u,(hw.2 _ V (by have:=h.1;omega)).trans a1,(hw.2 _ V (by have:=h.1;omega)).trans a2,a3.ng hw.1 fun id h1 h2=>hw.2 id V h2⟩⟩)
  (fun k Hx h=>h.1)
  (fun k H1 b h=>⟨h.1,fun id h1 h2 h3=>by rw[ah,Vg V];exact h.2.1 id h1 h2 h3,by
   obtain⟨v,u,a1,a2,a3⟩:=h.2.2;exact⟨v,u,by rw[ah,Vg V];exact a1,by rw[ah,Vg V];exact a2,a3.ng ZJ fun id h1 h2=>by rw[ah,Vg V]⟩⟩)
  (fun _ _ _ h=>h) (fun k H1 b h=>by unfold sd at h ⊢;rw[ah,Vg V];exact h)
  (fun b=>⟨by rw[aW];simp,fun id h1 h2 h3=>dz h1,_,_,by rw[dz V];exact g1,by rw[dz V];exact g2,.nil⟩) (ZH)
  (fun x hx=>by
   obtain⟨k,hk⟩:=Vl.1 hx;obtain⟨_,rfl⟩:=xc hk;rfl) (fun _ _ _=>trivial) (fun _ _ _=>trivial) (fun k y Hx B Bb hy hj hcs hn hB hBb=>?_) (fun Hx hj hn=>?_) (fun _ hs _=>hs.elim) (fun _ _ hs _=>hs.elim)
 ·obtain⟨hk,rfl⟩:=xc hy;refine W.vs ?_;simp only[go_sem,jL,dq,mE,Wk,XB,WX,W5,hB];obtain⟨H3,hH3⟩:∃H3,H3=Hx.upd H2.A Bb:=⟨_,rfl⟩
  rw[<- hH3];obtain⟨st,pd,n',en,ps',as',bo,hBe⟩:=hBb;have n3:H3.A=Hx.A:=by rw[hH3];rfl
  have o3:∀id,id≠H2.A->H3.get id=Hx.get id:=fun id h=>by rw[hH3,ah,Vg h]
  have jB:H3.get H2.A=some Bb:=by rw[hH3,ah,Vh rfl]
  obtain⟨pv,pu,a1,a2,a3⟩:=hj.2.2;have k0:=(o3 _ V).trans ((hj.2.1 H.A V V V).trans g0);have k3:=(o3 _ V).trans ((hj.2.1 (H.A+3) V V V).trans g3);have k1:=(o3 _ V).trans a1;have k2:=(o3 _ V).trans a2;have a4:nnd (H2.A+2) H3 3 pv (ints ((eC d).take k)) pu (ints ((dM d).take k)):=a3.ng V fun id h1 h2=>o3 id V;have kN:H3.get (H2.A+1)=some (.J 0 3 (ints (bU (au d.C) k))):=(o3 _ V).trans hcs;obtain⟨vals,hvals⟩:∃vals,vals=wv d k:=⟨_,rfl⟩
  have hfit:cJ (au d.C) vals:=by rw[hvals];exact tL (fun c hc=>(hcards c hc).1) _
  have kN2:H3.get (H2.A+1)=some (.J 0 3 (ints vals)):=by rw[hvals];exact kN
  have hvl:vals.length=d.C.length:=by rw[hfit.1,eU]
  unfold cR at k0;refine W.en (fun E1=>E1 1=.O H.A 0 0 /\ E1 2=.O (H.A+1) 0 0 /\ E1 3=.O (H.A+2) 0 0 /\ E1 4=.O (H.A+3) 0 0 /\ E1 6=.U (H2.A+1) 0 0 d.C.length 1) (by simp only[go_sem,dq,e1,e2,e3,e4,eU]) fun E1 ⟨m1,m2,m3,m4,m6⟩=>?_
  have l0:=ag k0;refine W.vs ?_;simp only[go_sem,m1,l0];refine W.aS 576460752236315520 (by rfl) (fun ρ2 H4=>∃v:Nat,ρ2 26=aa v/\v<=d.C.length/\ZP H3 H4/\ρ2 7=aa (aC ((iW d vals).take v))) (fun ρ2 H=>d.C.length-(iv (ρ2 26)).toNat) ?_ ?_
  ·simp only[go_sem];exact⟨0,rfl,V,.refl _,by simp[iM]⟩
  rintro ρ2 H4 ⟨v,h26,hv,o4,h7⟩;refine W.en (fun E2=>E2 1=.O H.A 0 0 /\ E2 2=.O (H.A+1) 0 0 /\ E2 3=.O (H.A+2) 0 0 /\ E2 4=.O (H.A+3) 0 0 /\ E2 6=.U (H2.A+1) 0 0 d.C.length 1 /\ E2 7=aa (aC ((iW d vals).take v)) /\ E2 24=.Q d.C.length (aG d.C) /\ E2 25=aa d.C.length /\ E2 26=aa v) (by simp only[go_sem,m1,m2,m3,m4,m6,h7,h26]) fun E2 ⟨p1,p2,p3,p4,p6,p7,p24,p25,p26⟩=>?_
  have o4n:=o4.A;have q0:=ag ((o4.nf _ V).trans k0);have gN4:=(o4.nf _ V).trans kN2;refine W.vs ?_;by_cases hb:(v:Int)<d.C.length
  ·obtain⟨x,hx⟩:=ay (l:=d.C) (i:=v) V;have hne:=fQ hx;have c0:=oC hx;have c1:v*3+3<=(aG d.C).length:=(by rw[kq];omega);have wt:=Gv hok hfit (v+1);rw[bd (AT (d:=d) (vals:=vals) (v:=v) V),jh]at wt;have w1:=Vd ((v:Int)+1) V;obtain⟨H5,hH5⟩:∃H5,H5=ext H4 [.J 0 76 [.lit (.int .i64 x.L),.Q x.F.length (ints x.F),bb x.nb]]:=⟨_,rfl⟩
   have n5:H5.A=H4.A+1:=(by rw[hH5];rfl);have f0:=ag (show H5.get H.A=some (.J 0 38 [.lit (.int .i64 d.Z),.Q d.C.length (aG d.C),.lit (.int .u64 (d.nl:Int)),.Q d.Y.length (bA d.Y)]) by rw[hH5,c9 _ _ _ V];exact(o4.nf _ V).trans k0);have f4:=ag (show H5.get H4.A=some (.J 0 76 [.lit (.int .i64 x.L),.Q x.F.length (ints x.F),bb x.nb]) by rw[hH5];exact ef);have gN5:H5.get (H2.A+1)=some (.J 0 3 (ints vals)):=(by rw[hH5,c9 _ _ _ V];exact gN4);have fN:=ag gN5;have s1:=fun t x y=>jm (P:=prog) (t:=t) (x:=x) (y:=y) (k':=.i64) (s:=v) hD;have s2:=fun t x y=>pf (P:=prog) (t:=t) (x:=x) (y:=y) (s:=v) hD;cases hbit:d.nl.testBit v
   ·obtain⟨i,r,a,w,hR⟩:=Gt hok hx (by rw[hbit];simp) hfit;obtain⟨a',rfl⟩:=Vm hR.a0;rw[hR.eq]at wt;have hxp:bW x.F d.C.length:=by
     have:=(hok.nB.node _ (an (jG (c:=fun _ _=>0) hx))).2;rw[(iP ..).2,ik]at this;exact this
    have hin:iI x.F d.C.length:=fun q hq=>by have:=hxp.2 q hq;omega
    have hpc:aY prog G0 (.X 147 [] []) [.Q d.C.length (aG d.C),.lit (.int .i64 v),.U (H2.A+1) 0 0 d.C.length 1] H5 (.lit (.int .i64 i)) [H2.A+1]:=by
     have:=FW d.C v x vals hx hin (oV n8.2 hxp hcd) hfit H5 (H2.A+1) d.C.length V gN5 hvl.symm;rw[hR.idx]at this;exact this
    have hri:=hR.row;have hrne:=aZ hri;have hrl:(i:Int)<x.nb.length:=(by have:=aO hri;omega);have hva:=hR.val;have hra:r[a']?=some w:=(by have:=hR.hw;rw[Int.toNat_natCast]at this;exact this);have hrane:=aZ hra;have hal:=hR.al;have w2:=Vd (aC ((iW d vals).take v)*w) V;simp only[go_sem,p1,p24,p25,p26,hb,hne,c0,c1];rw[<- hH5];simp only[go_sem,f0,s1,s2,hbit];refine W.dr 16 [0,0,2,0,8,0,0,120,254,510,0,0,3072,7168,16382,32766] mixed ?_;simp only[go_sem,p1,p6,p7,f0,f4,bb];refine⟨.lit (.int .i64 i),[H2.A+1],hpc,?_⟩;have hvn:(v:Int)<d.C.length:=hb;simp only[go_sem,p1,p6,p7,p26,fN,hri,hrne,hrl,hra,hrane,hva,hal,hvn,w1,w2];exact⟨V,⟨_,_,_,_,_,_,_,by rw[hH5,c9 _ _ _ V,o4.nf _ V,jB,hBe]⟩,⟨v+1,ZG,V,by rw[hH5];exact o4.trans (.ext _ _),by rw[bd (AT (d:=d) (vals:=vals) (v:=v) V),jh,hR.eq]⟩,by rw[h26];simp only[aa,bf];omega⟩
   ·have hg:jC d vals v=d.Z:=Vh hbit;rw[hg]at wt;have w2:=Vd (aC ((iW d vals).take v)*d.Z) V;simp only[go_sem,p1,p24,p25,p26,hb,hne,c0,c1];rw[<- hH5];simp only[go_sem,p1,p7,p26,f0,s1,s2,hbit,w1,w2];exact⟨V,⟨_,_,_,_,_,_,_,by rw[hH5,c9 _ _ _ V,o4.nf _ V,jB,hBe]⟩,⟨v+1,ZG,V,by rw[hH5];exact o4.trans (.ext _ _),by rw[bd (AT (d:=d) (vals:=vals) (v:=v) V),jh,hg]⟩,by rw[h26];simp only[aa,bf];omega⟩
  ·rw[Vi (by rw[xB];omega)]at p7;have hgp:aC (iW d vals)=cK d vals:=rfl;rw[hgp]at p7;simp only[go_sem,p25,p26,hb,p1,q0];refine W.aS 9903520309671356180765651968 (by rfl) (fun ρ3 H6=>∃j:Nat,ρ3 62=aa j/\j<=d.Y.length/\ZP H4 H6/\ρ3 10=aa (cX d.C (d.Y.take j) vals)) (fun ρ3 H=>d.Y.length-(iv (ρ3 62)).toNat) ?_ ?_
   ·simp only[go_sem];exact⟨0,rfl,V,.refl _,by simp[cX]⟩
   rintro ρ3 H6 ⟨j,h62,hjl,o6,h10⟩;refine W.env fun E3 hE3=>?_;have r2:E3 2=.O (H.A+1) 0 0:=(by rw[hE3];simp only[go_sem,p2]);have r3:E3 3=.O (H.A+2) 0 0:=(by rw[hE3];simp only[go_sem,p3]);have r4:E3 4=.O (H.A+3) 0 0:=(by rw[hE3];simp only[go_sem,p4]);have r6:E3 6=.U (H2.A+1) 0 0 d.C.length 1:=(by rw[hE3];simp only[go_sem,p6]);have r7:E3 7=aa (cK d vals):=(by rw[hE3];simp only[go_sem,p7]);have r10:E3 10=aa (cX d.C (d.Y.take j) vals):=(by rw[hE3];simp only[go_sem,h10]);have r60:E3 60=.Q d.Y.length (bA d.Y):=(by rw[hE3];simp only[go_sem]);have r61:E3 61=aa d.Y.length:=(by rw[hE3];simp only[go_sem]);have r62:E3 62=aa j:=(by rw[hE3];simp only[go_sem,h62]);clear hE3;have o36:=o4.trans o6;have o6n:=o6.A;have gN6:=(o36.nf _ V).trans kN2;have q3:=(o36.nf _ V).trans k3;refine W.vs ?_;by_cases hb2:(j:Int)<d.Y.length
   ·obtain⟨u,hku⟩:=ay (l:=d.Y) (i:=j) V;have huo:=hus u (an hku);have hne:=zL hku;have c0:=zK hku;have c1:j*2+2<=(bA d.Y).length:=(by rw[zJ];omega);have v8:=huo.vars.len;obtain⟨H7,hH7⟩:∃H7,H7=ext H6 [.J 0 87 [.Q u.vars.length (ints u.vars),.Q u.w.length (ints u.w)]]:=⟨_,rfl⟩
    have n7:H7.A=H6.A+1:=(by rw[hH7];rfl);have l7:=ag (show H7.get H6.A=some (.J 0 87 [.Q u.vars.length (ints u.vars),.Q u.w.length (ints u.w)]) by rw[hH7];exact ef);have l7N:=ag (show H7.get (H2.A+1)=some (.J 0 3 (ints vals)) by rw[hH7,dz V];exact gN6);have l73:=ag (show H7.get (H.A+3)=some (.J 0 72 [af (au d.C)]) by rw[hH7,dz V];exact q3);have smu:=xb n8.2 huo.vars hcd;have hin:iI u.vars d.C.length:=fun q hq=>by have:=huo.vars.2 q hq;omega
    have fp:cJ (aK (au d.C) u.vars) (aK vals u.vars):=qi (x:=⟨0,u.vars,[]⟩) hin hfit;have pl:(aK (au d.C) u.vars).length=u.vars.length:=jj _ _;have vl:(aK vals u.vars).length=u.vars.length:=jj _ _;have ft:∀j,cJ ((aK (au d.C) u.vars).take j) ((aK vals u.vars).take j):=fun j=>⟨by simp[pl,vl],fun i c b h1 h2=>by
     rw[YS]at h1 h2;split at h1
     ·rename_i hik;rw[Vh hik]at h2;exact fp.2 i c b h1 h2
     ·cases h1⟩
    have hr:∀j,0<=iC ((aK (au d.C) u.vars).take j) ((aK vals u.vars).take j)/\iC ((aK (au d.C) u.vars).take j) ((aK vals u.vars).take j)<68719476737:=fun j=>by
     rw[vW (ft j).1];have a:=oD (ft j);have b:=(smu.take j).prod;omega
    simp only[go_sem,r60,r61,r62,hb2,hne,c0,c1];rw[<- hH7];refine W.aS 38685035931857774884986880 (by rfl) (fun ρ4 H8=>H8=H7/\∃i:Nat,ρ4 69=aa i/\i<=u.vars.length/\ρ4 13=aa (iC ((aK (au d.C) u.vars).take i) ((aK vals u.vars).take i))) (fun ρ4 H=>u.vars.length-(iv (ρ4 69)).toNat) ?_ ?_
    ·simp only[go_sem];exact⟨0,rfl,V,rfl⟩
    rintro ρ4 H8 ⟨rfl,i,h69,hi,h13⟩;refine W.vs ?_;by_cases hb3:(i:Int)<u.vars.length
    ·obtain⟨q,hq⟩:=ay (l:=u.vars) (i:=i) V;obtain⟨t,rfl,y,hy⟩:=mX (l:=d.C) (hin q (an hq)).1 (hin q (an hq)).2;obtain⟨b,hbv⟩:=ay (l:=vals) (i:=t) (by rw[hvl];exact aO hy);have hyb:=hfit.2 t y.L b (cS hy) hbv;have a1:(aK (au d.C) u.vars)[i]?=some y.L:=(by rw[jY hq,Int.toNat_natCast,bI (cS hy)]);have a2:(aK vals u.vars)[i]?=some b:=(by rw[jY hq,Int.toNat_natCast,bI hbv]);have hne2:=aZ hq;have hne3:=aZ hbv;have hyc:=cS hy;have hne4:=aZ hyc;have ht:(t:Int)<d.C.length:=(by have:=aO hy;omega);have htc:(t:Int)<(au d.C).length:=(by rw[eU];omega);have ht2:(t:Int)<vals.length:=V;have w1:=Vd ((i:Int)+1) V;have r1:=hr (i+1);rw[vX a1 a2]at r1;have r0:=hr i;have m0:0<=iC ((aK (au d.C) u.vars).take i) ((aK vals u.vars).take i)*y.L:=W2 r0.1 (by have:=hcd y (an hy);omega);have w2:=Vd (iC ((aK (au d.C) u.vars).take i) ((aK vals u.vars).take i)*y.L) V;have w3:=Vd (iC ((aK (au d.C) u.vars).take i) ((aK vals u.vars).take i)*y.L+b) V;simp only[go_sem,h69,hb3,hq,hne2];refine W.dr 10 [0,0,0,6,14,31,0,0,192,448] mixed ?_;simp only[go_sem,h69,h13,r4,r6,l73,l7N,hne4,ht,htc,hbv,hyc,w1,w2,w3];exact⟨⟨_,_,_,_,_,_,_,by rw[hH7,dz V,o36.nf _ V,jB,hBe]⟩,⟨i+1,ZG,V,by rw[vX a1 a2]⟩,V⟩
    ·rw[Vi V,Vi V,vW (by rw[pl,vl])]at h13;have hx:=oD fp;obtain⟨ix,hix⟩:=Vm hx.1;have hsz2:=huo.size;obtain⟨w,hw'⟩:=ay (l:=u.w) (i:=ix) V;have hwne:=aZ hw';have hwl:(ix:Int)<u.w.length:=(by have:=aO hw';omega);have eu:oF d.C vals u=w:=(by unfold oF;rw[hix,Int.toNat_natCast,bI hw']);have us1:cX d.C (d.Y.take (j+1)) vals=cX d.C (d.Y.take j) vals+w:=(by rw[bd hku];unfold cX;simp[eu]);have b1:=xd hus hu4 vals j;have b2:=xd hus hu4 vals (j+1);rw[us1]at b2;have w1:=Vd ((j:Int)+1) V;have w2:=Vd (cX d.C (d.Y.take j) vals+w) V;rw[hix]at h13;simp only[go_sem,h69,h13,r10,r62,l7,hb3,hw',hwne,hwl,w1,w2];exact⟨V,⟨_,_,_,_,_,_,_,by rw[hH7,dz V,o36.nf _ V,jB,hBe]⟩,⟨j+1,ZG,V,by rw[hH7];exact o6.trans (.ext _ _),by rw[us1]⟩,by rw[h62];simp only[aa,bf];omega⟩
   ·rw[Vi V]at r10;have hkw:k<cH d.C:=hk;have bu:=AV hus hu4 vals;have bg:=Gv hok hfit d.C.length;rw[Vi (by rw[xB];omega),hgp]at bg;have m1:-67184640000000000<=cK d vals*cX d.C d.Y vals/\cK d vals*cX d.C d.Y vals<=67184640000000000:=by
     constructor
     ·have h1:cK d vals*(-400)<=cK d vals*cX d.C d.Y vals:=VU bu.1 bg.1;omega
     ·have h1:cK d vals*cX d.C d.Y vals<=cK d vals*400:=VU bu.2 bg.1;omega
    have w2:=Vd (cK d vals*cX d.C d.Y vals) V;have hl1:((eC d).take k).length=k:=(by rw[Vv,Gw];omega);have hl2:((dM d).take k).length=k:=(by rw[Vv,Gx];omega);have hw40:cH d.C<=2 ^ 40:=V;have a6:nnd (H2.A+2) H6 3 pv (ints ((eC d).take k)) pu (ints ((dM d).take k)):=a4.ng o36.A fun id h1 h2=>o36.nf id h2;obtain⟨pv',H7,hA1,hO1,hn7,hp7⟩:=a6.app (P:=prog) (t:=72) (x:=aa (cK d vals)) (n:=H6.A+1) Tryz.underlying72 Tryz.fC Tryz.fm rfl (by rw[Tryz.fV,bD,hl1];omega) V rfl;simp only[aa]at hA1;have l61:=ag ((o36.nf _ V).trans k1);have l61e:∀L,(ext H6 L).na (H.A+1) 0=some (72,[pv]):=fun L=>(eF V).trans l61;have l71:=ag ((hp7 (H.A+1) V).trans ((o36.nf _ V).trans k1));obtain⟨H8,hH8⟩:∃H8,H8=H7.upd (H.A+1) (.J 0 72 [pv']):=⟨_,rfl⟩
    have n8':H8.A=H7.A:=(by rw[hH8];rfl);have o8:∀id,id≠H.A+1->H8.get id=H7.get id:=fun id h=>by rw[hH8,ah,Vg h]
    have a8:nnd (H2.A+2) H8 3 pv' (ints ((eC d).take k)++[aa (cK d vals)]) pu (ints ((dM d).take k)):=hO1.ng V fun id h1 h2=>o8 id V;obtain⟨pu',H9,hA2,hO2,hn9,hp9⟩:=a8.symm.app (P:=prog) (t:=72) (x:=aa (cK d vals*cX d.C d.Y vals)) (n:=H8.A+1) Tryz.underlying72 Tryz.fC Tryz.fm rfl (by rw[Tryz.fV,bD,hl2];omega) V rfl;simp only[aa]at hA2;have l82:=ag ((o8 (H.A+2) V).trans ((hp7 (H.A+2) V).trans ((o36.nf _ V).trans k2)));have l82e:∀L,(ext H8 L).na (H.A+2) 0=some (72,[pu]):=fun L=>(eF V).trans l82;have l92:=ag ((hp9 (H.A+2) V).trans ((o8 (H.A+2) V).trans ((hp7 (H.A+2) V).trans ((o36.nf _ V).trans k2))));have one1:=hO1.a.one;have cel1:=hO1.a.cells;have one2:=hO2.a.one;have cel2:=hO2.a.cells;have pc1:=a6.a.cells;have pc2:=a6.b.cells;simp only[go_sem,r2,r3,r7,r61,r62,hb2,l61,l71,hA1,one1,cel1];rw[<- hH8];simp only[go_sem,r3,r7,r10,l82,l92,hA2,one2,cel2,w2,im];have hget:∀id,id<H2.A+2->id≠H.A+1->id≠H.A+2->(H9.upd (H.A+2) (.J 0 72 [pu'])).get id=H3.get id:=fun id h1 h2 h3=>by
     rw[ah,Vg h3,hp9 id h1,o8 id h2,hp7 id h1,o36.nf id V]
    have ew:ints ((eC d).take (k+1))=ints ((eC d).take k)++[aa (cK d vals)]:=(by rw[bd (Ux hkw),hvals];simp[ints,aa]);have eg:ints ((dM d).take (k+1))=ints ((dM d).take k)++[aa (cK d vals*cX d.C d.Y vals)]:=(by rw[bd (AU hkw),hvals];simp[ints,aa,dk]);refine⟨by rw[hget _ V V V];exact jB,by rw[aQ];omega,⟨by rw[aQ];omega,fun id h1 h2 h3=>by rw[hget id V h2 h3,o3 _ V];exact hj.2.1 id h1 h2 h3,pv',pu',?_,by rw[ah,Vh rfl],?_⟩,?_⟩
    ·rw[ah,Vg V,hp9 _ V,hH8,ah,Vh rfl]
    ·rw[ew,eg];exact hO2.symm.ng (by rw[aQ];exact Nat.le_refl _) fun id h1 h2=>by rw[ah,Vg V]
    ·unfold sd;rw[hget _ V V V];exact kN
 ·obtain⟨v,u,a1,a2,a3⟩:=hj.2.2;rw[AF]at a3;rw[Vi (by rw[Gw];exact Nat.le_refl _),Vi (by rw[Gx];exact Nat.le_refl _)]at a3;have l1:=ag a1;have l2:=ag a2;have c1:=a3.a.cells;have c2:=a3.b.cells;have ovx:ZP H Hx:=⟨V,fun id hi=>(hj.2.1 id V V V).trans (o2.nf id hi)⟩
  simp only[go_sem];refine W.dr 3 [0,0,1] mixed ?_;have on1:=a3.a.one;have on2:=a3.b.one;have l2u:∀b,(Hx.upd (H.A+1) b).na (H.A+2) 0=some (72,[u]):=fun b=>(lQ V).trans l2;have l1u:∀b,((Hx.upd (H.A+1) (.J 0 72 [v])).upd (H.A+2) b).na (H.A+1) 0=some (72,[v]):=fun b=>(lQ V).trans GA;have hne12:∀x:Nat,x=H.A+1->¬x=H.A+2:=fun x h=>V
  simp only[go_sem,e2,e3,l1,l2,c1,c2,on1,on2,l2u,l1u];refine⟨hne12,?_⟩;have a5:nnd (H2.A+2) ((Hx.upd (H.A+1) (.J 0 72 [v])).upd (H.A+2) (.J 0 72 [u])) 3 v (ints (eC d)) u (ints (dM d)):=a3.ng (by rw[aQ,aQ];exact Nat.le_refl _) fun id h1 _=>by rw[ah,Vg V,ah,Vg V]
  refine aj.bB aF hcl ((ovx.upd V _).upd V _) ?_ hK;exact .nc rfl fun i hi _=>match i,hi with
   |0,_=>a5.a.iB fun i hi=>by show H.A<=i;omega
   |1,_=>a5.b.iB fun i hi=>by show H.A<=i;omega
def gG (l:List Bool):List ZL:=l.map fun b=>.lit (.bool b)
def F9 (l:List Bool):(gG l).length=l.length:=by simp[gG]
def TA (l:List Bool)(i:Nat):(gG l)[i]?=(l[i]?).map fun b=>.lit (.bool b):=by simp[gG]
def TB {l:List Bool}{i:Nat}{b:Bool}(h:i<l.length):setAt (gG l) i [.lit (.bool b)]=gG (l.set i b):=by
 rw[iX (by rw[F9];omega)];simp[gG,X6]
structure ZW where
 ab:Nat->List Int
 oc:Nat->List Bool
 ex:Nat->List Int
 be:Nat->List Int
 ch:Nat->List Int
def dL (T:ZW)(k:Nat):Nat->ZR
 |1=>.J 0 3 (ints (T.ab k))
 |2=>.J 0 4 (gG (T.oc k))
 |3=>.J 0 3 (ints (T.ex k))
 |4=>.J 0 3 (ints (T.be k))
 |_=>.J 0 3 (ints (T.ch k))
def my (D:ZU)(r:List Nat)(I:Nat->Nat->Nat)(k:Nat):List ZL :=
 [.lit (.int .i64 (r.getD k 0:Nat)),.lit (.int .i64 (D.cd k:Nat)),.U (I k 1) 0 0 (D.cs k) 1,.U (I k 2) 0 0 (D.cs k) 1,.U (I k 3) 0 0 (D.cs k*D.cd k) 1,.U (I k 4) 0 0 (D.cs k) 1,.U (I k 5) 0 0 (D.cs k) 1]
def lJ (I:Nat->Nat->Nat)(n:Nat):List ZL:=(List.range n).map fun k=>.O (I k 0) 0 0
def qm (I:Nat->Nat->Nat)(n:Nat):(lJ I n).length=n:=by simp[lJ]
def AM (h:k<n):(lJ I n)[k]?=some (.O (I k 0) 0 0):=by unfold lJ;rw[List.getElem?_map,VR h];rfl
structure ZW.Len (D:ZU)(n:Nat)(T:ZW):Prop where
 ab:∀k,k<n->(T.ab k).length=D.cs k
 oc:∀k,k<n->(T.oc k).length=D.cs k
 ex:∀k,k<n->(T.ex k).length=D.cs k*D.cd k
 be:∀k,k<n->(T.be k).length=D.cs k
 ch:∀k,k<n->(T.ch k).length=D.cs k
structure nnm (D:ZU)(r:List Nat)(lo n:Nat)(I:Nat->Nat->Nat)(T:ZW)(H:ZK):Prop where
 inj:∀k j k' j',k<n->k'<n->j<6->j'<6->I k j=I k' j'->k=k'/\j=j'
 np:∀k j,k<n->j<6->lo<=I k j/\I k j<H.A
 nJ:∀k,k<n->H.get (I k 0)=some (.J 0 191 (my D r I k))
 nF:∀k j,k<n->1<=j->j<6->H.get (I k j)=some (dL T k j)
 len:T.Len D n
variable {T:ZW}
def nnm.ng (h:nnm D r lo n I T H)(hn:H.A<=H'.A)(hk:∀k j,k<n->j<6->H'.get (I k j)=H.get (I k j)):nnm D r lo n I T H' :=
 ⟨h.inj,fun k j h1 h2=>by have:=h.np k j h1 h2;omega,fun k h1=>by rw[hk k 0 h1 V];exact h.nJ k h1,fun k j h1 h2 h3=>by rw[hk k j h1 h3];exact h.nF k j h1 h2 h3,h.len⟩
variable {T':ZW}
def nnm.upd (h:nnm D r lo n I T H)(hk:k0<n)(hj1:1<=j0)(hj:j0<6)(hn:H'.A=H.A)(ho:∀i,i≠I k0 j0->H'.get i=H.get i)(hb:H'.get (I k0 j0)=some (dL T' k0 j0))
  (hT:∀k j,k<n->1<=j->j<6->¬(k=k0/\j=j0)->dL T' k j=dL T k j) (hl:T'.Len D n):nnm D r lo n I T' H':=by
 have key:∀k j,k<n->j<6->¬(k=k0/\j=j0)->H'.get (I k j)=H.get (I k j):=fun k j h1 h2 h3=>ho _ fun e=>h3 (h.inj k j k0 j0 h1 hk h2 hj e);refine⟨h.inj,fun k j h1 h2=>by rw[hn];exact h.np k j h1 h2,fun k h1=>by rw[key k 0 h1 V V];exact h.nJ k h1,fun k j h1 h2 h3=>?_,hl⟩;by_cases e:k=k0/\j=j0
 ·obtain⟨rfl,rfl⟩:=e;exact hb
 ·rw[key k j h1 h3 e,hT k j h1 h2 h3 e];exact h.nF k j h1 h2 h3
def fE (f:Nat->α)(k0:Nat)(a:α):Nat->α:=fun k=>if k=k0 then a else f k
def lK (f:Nat->α)(k0:Nat)(a:α):fE f k0 a k0=a:=Vh rfl
def lL {f:Nat->α}{a:α}(h:k≠k0):fE f k0 a k=f k:=Vg h
def nnm.TC (h:nnm D r lo n I T H)(hk:k0<n)(hj1:1<=j0)(hj:j0<6)
  (hT:∀k j,k<n->1<=j->j<6->¬(k=k0/\j=j0)->dL T' k j=dL T k j) (hl:T'.Len D n):nnm D r lo n I T' (H.upd (I k0 j0) (dL T' k0 j0)) :=
 h.upd hk hj1 hj (aQ ..) (fun i hi=>by rw[ah,Vg hi]) (by rw[ah,Vh rfl]) hT hl
structure ZX (d:ZN)(r:List Nat)(lo s:Nat)(lvh:ZL)(I:Nat->Nat->Nat)(T:ZW)(tot:Int)(H:ZK):Prop where
 top:H.get s=some (.J 0 184 [.lit (.int .i64 d.Z),.Q d.C.length (aG d.C),.lit (.int .u64 (d.nl:Int)),.Q d.Y.length (bA d.Y),lvh,af (eC d),af (dM d),.lit (.int .i64 tot)])
 nH:lo<=s/\s<H.A
 lv:aI lo H 187 lvh (lJ I r.length)
 sep:∀k j,k<r.length->j<6->s≠I k j
 nK:∀id g n,lvh=.U id g 0 n 1->id≠s/\∀k j,k<r.length->j<6->id≠I k j
 nj:nnm (aA d r) r lo r.length I T H
theorem ZX.ng {s:Nat}(h:ZX d r lo s lvh I T tot H)(hn:H.A<=H'.A)(hk:∀i,lo<=i->i<H.A->H'.get i=H.get i):ZX d r lo s lvh I T tot H' :=
 ⟨by rw[hk s h.nH.1 h.nH.2];exact h.top,by have:=h.nH;omega,h.lv.ng ZJ hn fun i g h1 h2 _ _=>hk i h1 h2,h.sep,h.nK,h.nj.ng hn fun k j h1 h2=>by have:=h.nj.np k j h1 h2;exact hk _ this.1 this.2⟩
theorem ZX.upd {s:Nat}(h:ZX d r lo s lvh I T tot H)(hk:k0<r.length)(hj1:1<=j0)(hj:j0<6)
  (hT:∀k j,k<r.length->1<=j->j<6->¬(k=k0/\j=j0)->dL T' k j=dL T k j) (hl:T'.Len (aA d r) r.length):ZX d r lo s lvh I T' tot (H.upd (I k0 j0) (dL T' k0 j0)) :=
 ⟨by rw[ah,Vg (h.sep k0 j0 hk hj)];exact h.top,by rw[aQ];exact h.nH,h.lv.ng ZJ (by rw[aQ];exact Nat.le_refl _) fun i g h1 h2 _ hv=>by rw[ah,Vg ((h.nK _ _ _ hv).2 k0 j0 hk hj)],h.sep,h.nK,h.nj.TC hk hj1 hj hT hl⟩
def ZX.Ga {s:Nat}{tot':Int}(h:ZX d r lo s lvh I T tot H):ZX d r lo s lvh I T tot' (H.upd s (.J 0 184 [.lit (.int .i64 d.Z),.Q d.C.length (aG d.C),.lit (.int .u64 (d.nl:Int)),.Q d.Y.length (bA d.Y),lvh,af (eC d),af (dM d),.lit (.int .i64 tot')])) :=
 ⟨by rw[ah,Vh rfl],by rw[aQ];exact h.nH,h.lv.ng ZJ (by rw[aQ];exact Nat.le_refl _) fun i g h1 h2 _ hv=>by rw[ah,Vg (h.nK _ _ _ hv).1],h.sep,h.nK,h.nj.ng (by rw[aQ];exact Nat.le_refl _) fun k j h1 h2=>by rw[ah,Vg fun e=>h.sep k j h1 h2 e.symm]⟩
def ZX.AN {s:Nat}(h:ZX d r lo s lvh I T tot H)(hk:k<r.length):∃id g,lvh=.U id g 0 r.length 1/\H.get id=some (.J g 187 (lJ I r.length))/\lo<=id/\id<H.A:=by
 rcases h.lv with ⟨_,h2⟩|⟨id,g,h1,h2,h3,h4⟩
 ·have:=congrArg List.length h2;rw[qm,List.length_nil]at this;omega
 ·exact⟨id,g,by rw[h3,qm],h4,h1,h2⟩
def sj (cd c:Nat)(ex be ch:List Int)(bad:List Bool):Bool:=(List.range cd).any fun x=>decide (ex.getD (c*cd+x) 0=be.getD c 0) && !bad.getD (c*cd+x) false && (decide (ch.getD c 0=-1) ||decide (ch.getD c 0=(x:Int)))
end Go.Proofs
namespace Go.Hx
variable {P:Program} {G:Nat->Option (List ZL)}
variable {n ob:Nat}{e:TypeId}{b:ZR}
def ZK.jN (H:ZK)(n ob:Nat)(b:ZR):ZK:=⟨fun id=>if id=ob then some b else if n<=id then none else H.get id,H.A⟩
variable {H:ZK}
def Cu :(H.jN n ob b).get ob=some b:=by simp[ZK.jN]
def MM {id:Nat}(h:id<n)(h2:id≠ob):(H.jN n ob b).get id=H.get id:=by simp[ZK.jN,Nat.not_le.2 h,h2]
def MN (hc:Clo H){g:Nat}{cells cells':List ZL}(hob:H.get ob=some (.J g e cells))(hl:cells'.length=cells.length)
  (hcell:∀i (h:i<cells.length) (h':i<cells'.length),Fz (fun id=>n<=id/\id≠ob) H H.A cells[i] cells'[i]):FzH (fun id=>n<=id/\id≠ob) H (H.jN n ob (.J g e cells')) where
 gone id hs:=by simp[ZK.jN,hs.1,hs.2]
 kept id b hs hb:=by
  have hbb:=hc.below id b hb;refine⟨hc.lt id b hb,?_⟩;by_cases h:id=ob
  ·subst h;rw[hob]at hb;cases hb;exact⟨.J g e cells',Cu,rfl,rfl,hl,hcell⟩
  ·have hn:¬n<=id:=fun hn=>hs ⟨hn,h⟩;refine⟨b,by simp[ZK.jN,h,hn,hb],?_⟩;cases b with
   |nq=>trivial
   |mp=>rfl
   |J g e cells=>exact⟨rfl,rfl,rfl,fun i h _=>.dead (hbb i h)⟩
   |loop st pend n env ps asg body=>exact⟨rfl,rfl,rfl,rfl,rfl,rfl,rfl,fun t ht=>.dead (hbb t ht)⟩
 none id hs hb:=by
  by_cases h:id=ob
  ·subst h;rw[hob]at hb;cases hb
  ·have hn:¬n<=id:=fun hn=>hs ⟨hn,h⟩;simp[ZK.jN,h,hn,hb]
theorem eV.jN (hG:fB G){s:St}{g:Nat}{cells cells':List ZL}(hob:s.H.get ob=some (.J g e cells))(hl:cells'.length=cells.length)
  (hcell:(∀c∈cells,Below s.H.A c)->∀i (h:i<cells.length) (h':i<cells'.length),Fz (fun id=>n<=id/\id≠ob) s.H s.H.A cells[i] cells'[i]):eV P G s ⟨s.ρ,s.H.jN n ob (.J g e cells')⟩:=by
 intro n' wb Γ a w hs;exact eV.freeze (s:=s) (s':=⟨s.ρ,s.H.jN n ob (.J g e cells')⟩) hG (MN hs.heap.X hob hl (hcell fun c hc=>by
  obtain⟨i,hi,rfl⟩:=Zq.1 hc;exact hs.heap.X.below ob _ hob i hi)) (fun t=>.dead (hs.env t).ta) n' wb Γ a w hs
def nnn.ne {lo:Nat}{e1 e0:TypeId}{v:ZL}{ids:List Nat}{nb:List (List ZL)}(h:nnn lo H e1 e0 v ids nb){k g':Nat}{c:List ZL}(hk:H.get k=some (.J g' e c))(he:e≠e1):∀g n,v≠.U k g 0 n 1:=fun g n hv=>by
 rcases h.top with ⟨h1,_⟩|⟨i,g2,_,_,h1,h2⟩
 ·rw[h1]at hv;cases hv
 ·rw[h1]at hv;obtain rfl:=(ZL.U.inj hv).1;rw[hk]at h2;cases h2;exact he rfl
def W.tt {rd:Option Nat}{Q:AX->St->Prop}{s:St}{x y:Code}(Φ:St->Prop)(h:W P G n rd x (fun ax s'=>ax=.normal/\Φ s') s)(h2:∀s',Φ s'->W P G n rd y Q s'):W P G n rd (.seq x y) Q s :=
 W.seq (h.mono fun ax s' ⟨e,hp⟩=>by subst e;exact h2 s' hp)
def eV.same {s:St}:eV P G s s:=by
 intro n wb Γ a w hs;exact⟨Γ,hs,.refl _ _ _,fun _ _ h _=>h⟩
end Go.Hx
namespace Go.Proofs
open Go.Hx Tryz
variable {ids:List Nat}{lo:Nat}{H H':ZK}{pv rv:ZL}{x:ZM}
structure nnq (lo:Nat)(H:ZK)(pv rv:ZL)(ids:List Nat)(x:ZM):Prop where
 par:aI lo H 3 pv (ints x.F)
 nb:nnn lo H 72 3 rv ids (x.nb.map ints)
 dj:∀id g n,pv=.U id g 0 n 1->id ∉ ids
 nil:x.nb=[]->rv=.lit (.slice none 0 0)
theorem nnq.ng (h:nnq lo H pv rv ids x)(hn:H.A<=H'.A)(hk:∀id,lo<=id->id<H.A->H'.get id=H.get id):nnq lo H' pv rv ids x :=
 ⟨h.par.ng ZJ hn fun id _ h1 h2 _ _=>hk id h1 h2,h.nb.ng hn hk,h.dj,h.nil⟩
def nnq.over (h:nnq lo H pv rv ids x)(o:ZP H H'):nnq lo H' pv rv ids x:=h.ng o.A fun id _ h2=>o.nf id h2
def nnq.low {lo':Nat}(h:nnq lo H pv rv ids x)(hl:lo'<=lo):nnq lo' H pv rv ids x :=
 ⟨h.par.ng hl ZJ fun _ _ _ _ _ _=>rfl,⟨h.nb.len,h.nb.nd,fun i hi=>⟨by have:=(h.nb.np i hi).1;omega,(h.nb.np i hi).2⟩,h.nb.top.ng hl ZJ fun _ _ _ _ _ _=>rfl,h.nb.row⟩,h.dj,h.nil⟩
def kK {α:Type}{l:List α}{i:Nat}{a z:α}(h:l[i]?=some a):l.getD i z=a:=by rw[Vj,h];rfl
end Go.Proofs
