/- Own work: contracts. -/
import Derived.Test.YtebhdkihcdmmjaaGreatConE
import Derived.Test.YtebhdkihcdmmjaaGreatConD
import Derived.Test.YtebhdkihcdmmjaaGreatConB
import Derived.Test.YtebhdkihcdmmjaaGreatConA
set_option linter.all false
set_option maxHeartbeats 8000000
set_option maxRecDepth 100000
namespace Go.Proofs
open Go.Hx Tryz
variable {ch:Ch}{p:List (List Int)}{l:List Int}{r:List Nat}{M M' S S' a c i k u v w:Nat}{t:Z0}{x:ZJ}{d d':ZK}{D:ZR}
def jF (f:Nat->Bool):Nat->Nat->Nat
 |0,x=>x
 |n+1,x=>if f x=true then x else jF f n (x+1)
def SA (f:Nat->Bool):∀n x,x<=jF f n x/\jF f n x<=x+n/\(∀y,x<=y->y<jF f n x->f y=false)/\(jF f n x<x+n->f (jF f n x)=true):=by
 intro n
 induction n with
 |zero=>intro x;exact⟨ZG,ZG,fun y h1 h2=>by unfold jF at h2;omega,fun h=>by unfold jF at h;omega⟩
 |succ n ih =>
  intro x;unfold jF;by_cases h:f x=true
  ·rw[Vf h];exact⟨ZG,V,fun y h1 h2=>V,fun _=>h⟩
  ·rw[Ve h];obtain⟨a,b,c,e⟩:=ih (x+1);refine⟨V,V,fun y h1 h2=>?_,fun h2=>e V⟩;by_cases hy:y=x
   ·subst hy;simpa using h
   ·exact c y V h2
def kG (ch:Ch)(k c x:Nat):Ch:=fun k' c'=>if k'=k/\c'=c then some x else ch k' c'
def nu (ch:Ch)(k c x:Nat):kG ch k c x k c=some x:=Vf ⟨rfl,rfl⟩
def ny {x k' c':Nat}(h:¬(k'=k/\c'=c)):kG ch k c x k' c'=ch k' c':=Ve h
noncomputable def iT (D:ZR)(t:Z0)(ch:Ch)(k c:Nat):Nat:=jF (fun x=>lI (jW D t (kG ch k c x))) (D.cd k-1) 0
noncomputable def rJ (D:ZR)(t:Z0)(ch:Ch)(kc:Nat × Nat):Ch:=kG ch kc.1 kc.2 (iT D t ch kc.1 kc.2)
noncomputable def oG (D:ZR)(t:Z0)(pos:List (Nat × Nat)):Ch:=pos.foldl (rJ D t) fun _ _=>none
def Ft (D:ZR)(t:Z0)(pos:List (Nat × Nat))(a:Nat × Nat):oG D t (pos++[a])=rJ D t (oG D t pos) a:=by unfold oG;rw[Wl];rfl
def nA (D:ZR)(ch:Ch):Prop:=∀k c y,k<D.K->c<D.cs k->ch k c=some y->y<D.cd k
def rK (D:ZR)(t:Z0)(q:dp):Prop:=q.Ok D/\D.total q=t.T
def SB (hD:D.Ok)(ht:t.Ok D)(hc:nA D ch)(hf:jW D t ch)(hk:k<D.K)(hcc:c<D.cs k)(ho:ch k c=none):
  iT D t ch k c<D.cd k/\nA D (rJ D t ch (k,c))/\jW D t (rJ D t ch (k,c))/\∀q:dp,rK D t q->nr D ch q->iT D t ch k c<=q k c:=by
 have hset:∀x,x<D.cd k->nA D (kG ch k c x):=fun x hx k' c' y h1 h2 h3=>by
  by_cases h:k'=k/\c'=c
  ·obtain⟨rfl,rfl⟩:=h;rw[nu]at h3;cases h3;exact hx
  ·rw[ny h]at h3;exact hc k' c' y h1 h2 h3
 have hag:∀q:dp,nr D ch q->nr D (kG ch k c (q k c)) q:=fun q hq k' c' y h1 h2 h3=>by
  by_cases h:k'=k/\c'=c
  ·obtain⟨rfl,rfl⟩:=h;rw[nu]at h3;cases h3;rfl
  ·rw[ny h]at h3;exact hq k' c' y h1 h2 h3
 have hfe:∀q:dp,rK D t q->nr D ch q->jW D t (kG ch k c (q k c)):=fun q hq ha=>(tH hD ht (hset _ (hq.1 k c hk hcc))).2 ⟨q,hq.1,hag q ha,hq.2⟩;have h1:=hD.cd k hk;obtain⟨_,a2,a3,a4⟩:=SA (fun x=>lI (jW D t (kG ch k c x))) (D.cd k-1) 0;have hx:iT D t ch k c<D.cd k:=by unfold iT;omega
 have hle:∀q,rK D t q->nr D ch q->iT D t ch k c<=q k c:=fun q hq ha=>by
  refine Yy fun hlt=>?_;have:=a3 (q k c) (WH _) hlt;rw[tM.2 (hfe q hq ha)]at this;cases this
 refine⟨hx,hset _ hx,?_,hle⟩;show jW D t (kG ch k c (iT D t ch k c));by_cases hlt:iT D t ch k c<0+(D.cd k-1)
 ·exact tM.1 (a4 hlt)
 ·obtain⟨q,q1,q2,q3⟩:=(tH hD ht hc).1 hf;have h2:=hle q ⟨q1,q3⟩ q2;have h3:=q1 k c hk hcc;have:q k c=iT D t ch k c:=V
  rw[<- this];exact hfe q ⟨q1,q3⟩ q2
structure Chosen (D:ZR)(t:Z0)(pos:List (Nat × Nat))(ch:Ch):Prop where
 np:nA D ch
 fe:jW D t ch
 made:∀k c,(k,c)∈pos->∃y,ch k c=some y
 opn:∀k c,(k,c) ∉ pos->ch k c=none
 lex:∀q:dp,rK D t q->nr D ch q\/∃(j k c y:Nat),pos[j]?=some (k,c)/\ch k c=some y/\y<q k c/\∀(i k' c' y':Nat),i<j->pos[i]?=some (k',c')->ch k' c'=some y'->y'=q k' c'
def Fu (hD:D.Ok)(ht:t.Ok D):∀(n:Nat) (pos:List (Nat × Nat)),pos.length=n->pos.Nodup->(∀p∈pos,p.1<D.K/\p.2<D.cs p.1)->Chosen D t pos (oG D t pos):=by
 intro n
 induction n with
 |zero =>
  intro pos hl _ _;obtain rfl:=Vn hl;exact⟨fun k c y _ _ h=>(by cases h),Sm hD ht,fun k c h=>(by cases h),fun _ _ _=>rfl,fun q _=>.inl fun k c y _ _ h=>(by cases h)⟩
 |succ n ih =>
  intro pos hl hnd hr;obtain⟨qs,⟨k,c⟩,rfl⟩:∃qs a,pos=qs++[a]:=by
   rcases Ya pos with h|⟨qs,a,h⟩
   ·rw[h]at hl;cases hl
   ·exact⟨qs,a,by rw[h,Yb]⟩
  rw[List.length_append,Wf]at hl;obtain⟨nd1,_,nd2⟩:=Xn.1 hnd;have hk:=hr (k,c) ZD;have hI:=ih qs V nd1 fun p hp=>hr p (by simp[hp]);have hnin:(k,c) ∉ qs:=fun h=>nd2 _ h _ ZD rfl;obtain⟨s1,s2,s3,s4⟩:=SB hD ht hI.np hI.fe hk.1 hk.2 (hI.opn k c hnin);rw[Ft];generalize oG D t qs=ch at *
  have self:rJ D t ch (k,c) k c=some (iT D t ch k c):=nu ..;have other:∀k' c',¬(k'=k/\c'=c)->rJ D t ch (k,c) k' c'=ch k' c':=fun k' c' h=>ny h;have inq:∀k' c',(k',c')∈qs->¬(k'=k/\c'=c):=fun k' c' h e=>hnin (by rw[<- e.1,<- e.2];exact h);refine⟨s2,s3,fun k' c' h=>?_,fun k' c' h=>?_,fun q hq=>?_⟩
  ·by_cases e:k'=k/\c'=c
   ·rw[e.1,e.2];exact⟨_,self⟩
   ·rw[other _ _ e];rcases VC.1 h with h|h
    ·exact hI.made k' c' h
    ·simp at h;exact absurd h e
  ·have e:¬(k'=k/\c'=c):=fun e=>h (by rw[e.1,e.2];simp);rw[other _ _ e];exact hI.opn k' c' fun h'=>h (by simp[h'])
  ·have nf:∀(i:Nat) (k' c':Nat),i<qs.length->(qs++[(k,c)])[i]?=some (k',c')->qs[i]?=some (k',c')/\¬(k'=k/\c'=c):=fun i k' c' hi h=>by
    rw[Vv hi]at h;exact⟨h,inq k' c' (Va h)⟩
   rcases hI.lex q hq with h|⟨j,k1,c1,y,h1,h2,h3,h4⟩
   ·have h5:=s4 q hq h;rcases XE h5 with h6|h6
    ·refine .inr ⟨qs.length,k,c,_,ZD,self,h6,fun i k' c' y' hi hp hy=>?_⟩;obtain⟨hp',e⟩:=nf i k' c' hi hp;rw[other _ _ e]at hy;have hr':=hr (k',c') (by rw[VC];exact .inl (Va hp'));exact h k' c' y' hr'.1 hr'.2 hy
    ·refine .inl fun k' c' y' g1 g2 g3=>?_;by_cases e:k'=k/\c'=c
     ·rw[e.1,e.2]at g3 ⊢;rw[self]at g3;cases g3;exact h6
     ·rw[other _ _ e]at g3;exact h k' c' y' g1 g2 g3
   ·have hj:=aP h1;refine .inr ⟨j,k1,c1,y,by rw[Vv hj];exact h1,by rw[other _ _ (inq _ _ (Va h1))];exact h2,h3,fun i k' c' y' hi hp hy=>?_⟩;obtain⟨hp',e⟩:=nf i k' c' V hp;rw[other _ _ e]at hy;exact h4 i k' c' y' hi hp' hy
noncomputable def nC (ch:Ch):dp:=fun k c=>(ch k c).getD 0
def SC (hD:D.Ok)(ht:t.Ok D){pos:List (Nat × Nat)}(h:Chosen D t pos ch)(hall:∀k c,k<D.K->c<D.cs k->(k,c)∈pos):rK D t (nC ch):=by
 obtain⟨q,q1,q2,q3⟩:=(tH hD ht h.np).1 h.fe;have e:∀k c,k<D.K->c<D.cs k->nC ch k c=q k c:=fun k c hk hc=>by
  obtain⟨y,hy⟩:=h.made k c (hall k c hk hc);unfold nC;rw[hy];exact q2 k c y hk hc hy
 exact⟨fun k c hk hc=>by rw[e k c hk hc];exact q1 k c hk hc,by rw[Fm hD e];exact q3⟩
def SD {α:Type}{f g:α->Int}:∀ {l:List α} {j:Nat} {a:α},l[j]?=some a->f a<g a->(∀i b,i<j->l[i]?=some b->f b=g b)->yM (l.map f) (l.map g):=by
 intro l
 induction l with
 |nil=>intro j a h;simp at h
 |cons x l ih =>
  intro j a h hlt heq;cases j with
  |zero =>
   simp only[List.getElem?_cons_zero,Option.some.injEq]at h;subst h;exact .inl hlt
  |succ j =>
   simp only[List.getElem?_cons_succ]at h;refine .inr ⟨heq 0 x V rfl,ih h hlt fun i b hi hb=>heq (i+1) b V (by simpa using hb)⟩
def oI (d:ZK)(r:List Nat):List (Nat × Nat):=((aG d).map fun v=>(List.range (dC d v)).map fun c=>(r.idxOf v,c)).flatten
def Fv (d:ZK)(r:List Nat)(q:dp):(kE d r q).flatten=(oI d r).map fun a=>(q a.1 a.2:Int):=by
 unfold kE oI;rw[List.map_flatten,XZ];congr 1;refine VF fun v _=>?_;simp
def Aj (hr:ZX d r):(k,c)∈oI d r↔k<(az d r).K/\c<(az d r).cs k:=by
 unfold oI;rw[XV];constructor
 ·rintro⟨l,hl,h⟩;obtain⟨v,hv,rfl⟩:=Vu.1 hl;obtain⟨c',hc,he⟩:=Vu.1 h;cases he;have hi:r.idxOf v<r.length:=VY (hr.pS hv);refine⟨hi,?_⟩;show c<dC d (r.getD (r.idxOf v) 0);rw[gF (by rw[Vd hi,Wn hi])];exact Vp.1 hc
 ·rintro⟨hk,hc⟩;obtain⟨v,hv⟩:=ay (show k<r.length from hk);have hm:=hr.mem v (Va hv);have hc':c<dC d (r.getD k 0):=hc;rw[gF hv]at hc';refine⟨_,Vu.2 ⟨v,hm,rfl⟩,Vu.2 ⟨c,Vp.2 hc',?_⟩⟩;have h1:r.idxOf v<r.length:=VY (Va hv);rw[(Ws h1 hr.nodup).1 (by rw[hv,Vd h1,Wn h1])]
def SE (hr:ZX d r):(oI d r).Nodup:=by
 unfold oI;show List.Pairwise _ _;rw[List.pairwise_flatten];constructor
 ·intro l hl;obtain⟨v,_,rfl⟩:=Vu.1 hl;rw[List.pairwise_map];exact Xx.imp fun h e=>h (by cases e;rfl)
 ·rw[List.pairwise_map];have hnd:(aG d).Nodup:=Xx.filter _;refine(List.Pairwise.and_mem.1 hnd).imp fun {v w} ⟨hv,hw,hne⟩=>?_;intro a ha b hb e;obtain⟨c,_,rfl⟩:=Vu.1 ha;obtain⟨c',_,rfl⟩:=Vu.1 hb;have h1:r.idxOf v=r.idxOf w:=(Prod.mk.inj e).1;have i1:=Wn (VY (hr.pS hv));have i2:=Wn (VY (hr.pS hw));simp only[h1]at i1;exact hne (i1.symm.trans i2)
def Fw (hok:ZP d)(hr:ZX d r)(hp:ZZ d p):kE d r (mr d r p)=p:=by
 apply V2;intro k;rcases VA k (aG d).length with hk|hk
 ·obtain⟨v,hv⟩:=ay hk;obtain⟨l,hl⟩:=ay (l:=p) (i:=k) (by rw[hp.len];exact hk);obtain⟨v1,v2,v3⟩:=ri hv;obtain⟨x,hx⟩:=ay (l:=d.C) (i:=v) v1;have hc:=hok.n.L x (Va hx);obtain⟨e1,_⟩:=iQ hx V;obtain⟨ll,lr⟩:=hp.row k v x l hv hx hl;rw[Ad hv,hl];congr 1;have hm:v∈aG d:=Va hv;have hi:r.idxOf v<r.length:=VY (hr.pS hm);have hri:r.getD (r.idxOf v) 0=v:=gF (by rw[Vd hi,Wn hi]);apply V2;intro c;rcases VA c (dC d v) with hcc|hcc
  ·obtain⟨a,ha⟩:=ay (l:=l) (i:=c) V;have har:=lr a (Va ha);rw[List.getElem?_map,VQ hcc,ha];show some ((mr d r p (r.idxOf v) c:Nat):Int)=some a;unfold mr;rw[hri,v3];have:fixC p k c=a:=(by unfold fixC;simp[Vh,hl,ha]);rw[this];congr 1;omega
  ·rw[Vm (by simpa using hcc),Vm V]
 ·rw[Vm (by simpa[kE] using hk),Vm (by rw[hp.len];exact hk)]
noncomputable def nD (d:ZK)(r:List Nat):List (List Int):=kE d r (nC (oG (az d r) (mv (az d r)) (oI d r)))
def eM (d:ZK)(r:List Nat):Int:=rI (az d r)
def wC (hok:ZP d)(hr:ZX d r):ZZ d (nD d r)/\fg d (fixC (nD d r))=eM d r /\
  ∀q,ZZ d q->fg d (fixC q)<=eM d r/\(fg d (fixC q)=eM d r->q=nD d r\/yM (nD d r).flatten q.flatten):=by
 have hD:=wx hok hr.mem;have ht:=Sy hD (Sz hok hr) (Ai hok hr);have hC:=Fu hD ht _ (oI d r) rfl (SE hr) fun p hp=>(Aj hr).1 hp;have hB:=SC hD ht hC fun k c hk hc=>(Aj hr).2 ⟨hk,hc⟩;refine⟨Fl hok hr hB.1,by unfold nD;rw[Sq hok hr hB.1];exact hB.2,fun q hq=>?_⟩;have hqo:=So hok hr hq;have hqt:=Fk hok hr hq;refine⟨by rw[<- hqt];exact(Ac hD ht hqo).1,fun he=>?_⟩;have hqb:rK (az d r) (mv (az d r)) (mr d r q):=⟨hqo,by rw[hqt,he];rfl⟩
 rcases hC.lex _ hqb with h|⟨j,k,c,y,h1,h2,h3,h4⟩
 ·left;rw[<- Fw hok hr hq];unfold nD kE;refine VF fun v hv=>?_;refine VF fun c hc=>?_;have hi:r.idxOf v<r.length:=VY (hr.pS hv);have hri:r.getD (r.idxOf v) 0=v:=gF (by rw[Vd hi,Wn hi]);have hcs:c<(az d r).cs (r.idxOf v):=by
   show c<dC d (r.getD (r.idxOf v) 0);rw[hri];exact Vp.1 hc
  obtain⟨y,hy⟩:=hC.made (r.idxOf v) c ((Aj hr).2 ⟨hi,hcs⟩);have:=h (r.idxOf v) c y hi hcs hy;unfold nC;rw[hy];simp only[Option.getD_some];omega
 ·right;rw[<- Fw hok hr hq];unfold nD;rw[Fv,Fv];refine SD h1 (by show ((nC _ k c:Nat):Int)<_;unfold nC;rw[h2];simp only[Option.getD_some];omega) fun i b hi hb=>?_;obtain⟨k',c'⟩:=b;obtain⟨y',hy'⟩:=hC.made k' c' (Va hb);have:=h4 i k' c' y' hi hb hy';show ((nC _ k' c':Nat):Int)=_;unfold nC;rw[hy'];simp only[Option.getD_some];omega
structure nnn (d d':ZK):Prop where
 len:d'.C.length=d.C.length
 Y:d'.Y=d.Y
 nl:d'.nl=d.nl
 Z:d'.Z=d.Z
 node:∀v x x',d.C[v]?=some x->d'.C[v]?=some x'->x'.L=x.L/\(∀p∈x.F,p∈x'.F)/\(d.Y.testBit v=false->x'=x)
def nnn.nB (h:nnn d d'):aw d'.C=aw d.C:=by
 apply V2;intro v;unfold aw;rw[List.getElem?_map,List.getElem?_map];rcases VA v d.C.length with hv|hv
 ·obtain⟨x,hx⟩:=ay hv;obtain⟨x',hx'⟩:=ay (l:=d'.C) (i:=v) (by rw[h.len];exact hv);rw[hx,hx',Option.map_some,Option.map_some,(h.node v x x' hx hx').1]
 ·rw[Vm hv,Vm (by rw[h.len];exact hv)]
theorem nnn.wv (h:nnn d d')(w:Nat):wv d' w=wv d w:=by unfold Go.Proofs.wv;rw[h.nB]
theorem nnn.cJ (h:nnn d d'):cJ d'.C=cJ d.C:=by unfold Go.Proofs.cJ;rw[h.nB]
theorem nnn.aG (h:nnn d d'):aG d'=aG d:=by unfold Go.Proofs.aG;rw[h.Y,h.len]
def nnn.par (h:nnn d d')(x:ZJ):aU d'.C x=aU d.C x:=by unfold aU;rw[h.nB]
def nnn.nt (h:nnn d d')(vals:List Int):dm d' vals=dm d vals:=by
 have h1:cO d' vals=cO d vals:=by
  unfold cO;rw[h.len];congr 1;refine VF fun v hv=>?_;have hv:=Vp.1 hv;unfold jC;rw[h.Y,h.nl];cases hb:d.Y.testBit v with
  |true=>rfl
  |false =>
   obtain⟨x,hx⟩:=ay hv;obtain⟨x',hx'⟩:=ay (l:=d'.C) (i:=v) (by rw[h.len];exact hv);obtain rfl:=(h.node v x x' hx hx').2.2 hb;rw[Ve ZD,Ve ZD];unfold gh;rw[hx,hx'];simp only;unfold jA;rw[h.par]
 unfold dm;rw[h1,h.Z];congr 1;unfold cZ;congr 1;refine VF fun u _=>?_;unfold oA;rw[h.nB]
def nnn.row (h:nnn d d')(hok:ZP d)(hok':ZP d')(hv:v∈Go.Proofs.aG d){w':Nat}(e:cP d'.C v (Go.Proofs.wv d w)=cP d'.C v (Go.Proofs.wv d w')):cP d.C v (Go.Proofs.wv d w)=cP d.C v (Go.Proofs.wv d w'):=by
 obtain⟨x,hx⟩:=ay (bL.1 hv).1;obtain⟨x',hx'⟩:=ay (l:=d'.C) (i:=v) (by rw[h.len];exact(bL.1 hv).1);have hpx:=(hok.n.dec v x hx (bL.1 hv).2).2;have hpx':=(hok'.n.dec v x' hx' (by rw[h.Y];exact(bL.1 hv).2)).2;have hin':iI x'.F d'.C.length:=fun q hq=>by have:=hpx'.2 q hq;omega
 have hf:=iF hok' w;have hf':=iF hok' w';rw[h.wv]at hf hf';have e1:=(lk hok' hx' hf).1;have e2:=(lk hok' hx' hf').1;have hat:aL (Go.Proofs.wv d w) x'.F=aL (Go.Proofs.wv d w') x'.F:=Fj (pW hin' hf) (pW hin' hf') (by rw[<- e1,<- e2,e]);have hat2:aL (Go.Proofs.wv d w) x.F=aL (Go.Proofs.wv d w') x.F:=VF fun q hq=>by
  obtain⟨j,hj⟩:=Vj.1 ((h.node v x x' hx hx').2.1 q hq);have a1:=jY (l:=Go.Proofs.wv d w) hj;have a2:=jY (l:=Go.Proofs.wv d w') hj;rw[hat,a2]at a1;exact(Option.some.inj a1).symm
 unfold cP;rw[hx];simp only;rw[hat2]
noncomputable def py (d d':ZK)(c:Nat->Nat->Int)(k r:Nat):Int :=
 @dite _ (∃w,cP d'.C ((Go.Proofs.aG d).getD k 0) (Go.Proofs.wv d w)=r) (Classical.propDecidable _) (fun h=>c k (cP d.C ((Go.Proofs.aG d).getD k 0) (Go.Proofs.wv d h.choose))) fun _=>0
def Pc (h:nnn d d')(hok:ZP d)(hok':ZP d')(c:Nat->Nat->Int)(hv:v∈Go.Proofs.aG d)(w:Nat):
  py d d' c (bp d.Y v) (cP d'.C v (Go.Proofs.wv d w))=c (bp d.Y v) (cP d.C v (Go.Proofs.wv d w)):=by
 have hk:(Go.Proofs.aG d).getD (bp d.Y v) 0=v:=gF (ml (bL.1 hv).1 (bL.1 hv).2);have hex:∃w',cP d'.C ((Go.Proofs.aG d).getD (bp d.Y v) 0) (Go.Proofs.wv d w')=cP d'.C v (Go.Proofs.wv d w):=⟨w,by rw[hk]⟩
 unfold py;rw[dif_pos hex];have hc:=hex.choose_spec;generalize hex.choose=w' at hc ⊢;rw[hk]at hc ⊢;rw[h.row hok hok' hv hc]
noncomputable def pz (d d':ZK)(c:Nat->Nat->Int):List (List Int):=(List.range (Go.Proofs.aG d).length).map fun k=>(List.range (dC d' ((Go.Proofs.aG d).getD k 0))).map (py d d' c k)
def Pd {c:Nat->Nat->Int}{r:Nat}(hk:k<(Go.Proofs.aG d).length)(hr:r<dC d' ((Go.Proofs.aG d).getD k 0)):fixC (pz d d' c) k r=py d d' c k r:=by
 unfold fixC pz;have e:((List.range (Go.Proofs.aG d).length).map fun k=>(List.range (dC d' ((Go.Proofs.aG d).getD k 0))).map (py d d' c k))[k]?=some ((List.range (dC d' ((Go.Proofs.aG d).getD k 0))).map (py d d' c k)):=by
  rw[List.getElem?_map,VQ hk];rfl
 rw[bJ e];refine bJ ?_;rw[List.getElem?_map,VQ hr];rfl
def Pe (h:nnn d d')(hok:ZP d)(hok':ZP d')(hp:ZZ d p):∃p',ZZ d' p'/\fg d' (fixC p')=fg d (fixC p):=by
 have hdl:=h.aG;refine⟨pz d d' (fixC p),⟨by rw[hdl];simp[pz],fun k v x' l hv hx' hl=>?_⟩,?_⟩
 ·rw[hdl]at hv;have hk:=aP hv;have hgv:(Go.Proofs.aG d).getD k 0=v:=gF hv;obtain⟨v1,v2,v3⟩:=ri hv;obtain⟨x,hx⟩:=ay v1;have hcd:=(h.node v x x' hx hx').1;have hc:=hok.n.L x (Va hx);have hc':=hok'.n.L x' (Va hx');unfold pz at hl;rw[List.getElem?_map,VQ hk,Option.map_some,hgv]at hl;cases hl;have hn:=(iQ hx' V).1;refine⟨by rw[Vx,WT,hn],fun a ha=>?_⟩;obtain⟨r,hr,rfl⟩:=Vu.1 ha;unfold py;split
  ·rename_i hex;obtain⟨w',hw'⟩:∃w',w'=hex.choose:=⟨_,rfl⟩
   rw[<- hw',hgv];have hfr:=(lk hok hx (iF hok w')).2;rw[<- (iQ hx V).1]at hfr;have:=tC hok hp (Va hv) hfr;rw[v3,(iQ hx V).2]at this;rw[hcd];exact this
  ·omega
 ·unfold fg;rw[h.cJ];refine gQ fun w _=>?_;rw[h.wv,h.nt];have:gi d' (fixC (pz d d' (fixC p))) (Go.Proofs.wv d w)=gi d (fixC p) (Go.Proofs.wv d w):=by
   unfold gi;rw[hdl];have key:∀v∈Go.Proofs.aG d,ku d' (fixC (pz d d' (fixC p))) (Go.Proofs.wv d w) v=ku d (fixC p) (Go.Proofs.wv d w) v:=fun v hv=>by
    obtain⟨v1,v2⟩:=bL.1 hv;have hg:=ml v1 v2;obtain⟨x',hx'⟩:=ay (l:=d'.C) (i:=v) (by rw[h.len];exact v1);have hc':=hok'.n.L x' (Va hx');have hf:=iF hok' w;rw[h.wv]at hf;have hr:=(lk hok' hx' hf).2;rw[<- (iQ hx' V).1]at hr;have hgd:(Go.Proofs.aG d).getD (bp d.Y v) 0=v:=gF hg;unfold ku;rw[h.Y,Pd (aP hg) (by rw[hgd];exact hr),Pc h hok hok' _ hv]
   rw[WC,VG,VG];exact⟨fun a v hv=>by rw[<- key v hv];exact a v hv,fun a v hv=>by rw[key v hv];exact a v hv⟩
  rw[this]
def Pf (h:nnn d d')(hok:ZP d)(hok':ZP d'){r':List Nat}(hr:ZX d r)(hr':ZX d' r'):eM d r<=eM d' r':=by
 obtain⟨h1,h2,_⟩:=wC hok hr;obtain⟨p',h3,h4⟩:=Pe h hok hok' h1;have:=((wC hok' hr').2.2 p' h3).1;omega
def Da (s n:Nat):bZ (dR s n) n:=⟨zU s n,fun q hq=>by
 obtain⟨u,rfl,h,_⟩:=lD.1 hq;omega⟩
def Db {s n:Nat}(h:s<2 ^ n):bG (dR s n)=s:=by
 refine VP fun i=>?_;rw[iE fun p hp=>((Da s n).2 p hp).1,WC,WW,lD];constructor
 ·rintro⟨u,e,_,hu⟩;obtain rfl:i=u:=V
  exact hu
 ·intro hi;refine⟨i,rfl,?_,hi⟩;refine Wo fun hn=>?_;rw[Wu (Vl h (Vq ZE hn))]at hi;cases hi
theorem Dc:∀ {a b:List Int},a.Pairwise (·<·)->b.Pairwise (·<·)->(∀q,q∈a↔q∈b)->a=b
 | [],b,_,_,h=>by
  cases b with
  |nil=>rfl
  |cons y b=>exact absurd ((h y).2 ZD) (ZD)
 |x :: a,[],_,_,h=>absurd ((h x).1 ZD) (ZD)
 |x :: a,y :: b,ha,hb,h=>by
  rw[XF]at ha hb;have e:x=y:=by
   rcases List.mem_cons.1 ((h x).1 ZD) with e|hm
   ·exact e
   ·rcases List.mem_cons.1 ((h y).2 ZD) with e|hm'
    ·exact e.symm
    ·have:=hb.1 x hm;have:=ha.1 y hm';omega
  subst e;rw[Dc ha.2 hb.2 fun q=>?_];constructor
  ·intro hq;rcases List.mem_cons.1 ((h q).1 (by simp[hq])) with e|hm
   ·have:=ha.1 q hq;omega
   ·exact hm
  ·intro hq;rcases List.mem_cons.1 ((h q).2 (by simp[hq])) with e|hm
   ·have:=hb.1 q hq;omega
   ·exact hm
def fS (r:List Nat)(u v:Nat):Bool:=decide (v∈r/\r.idxOf u<=r.idxOf v)
def jh (n:Nat)(r:List Nat)(u S v:Nat)(x:ZJ):ZJ:=if fS r u v=true then { x with F:=dR (bG x.F |||S) n } else x
def bw (d:ZK)(r:List Nat)(u S:Nat):ZK:={ d with C:=d.C.zipIdx.map fun p=>jh d.C.length r u S p.2 p.1 }
def iC (d:ZK)(r:List Nat)(u S:Nat):(bw d r u S).C.length=d.C.length:=by simp[bw]
def qQ (h:d.C[v]?=some x):(bw d r u S).C[v]?=some (jh d.C.length r u S v x):=by
 unfold bw;rw[List.getElem?_map,Xk,h];simp
def qR (n:Nat)(r:List Nat)(u S v:Nat)(x:ZJ):(jh n r u S v x).L=x.L/\(jh n r u S v x).nb=x.nb:=by unfold jh;split<;>exact⟨rfl,rfl⟩
def zf (d:ZK)(r:List Nat)(u S:Nat):aw (bw d r u S).C=aw d.C:=by
 apply V2;intro v;unfold aw;rw[List.getElem?_map,List.getElem?_map];rcases VA v d.C.length with hv|hv
 ·obtain⟨x,hx⟩:=ay hv;rw[hx,qQ hx,Option.map_some,Option.map_some,(qR ..).1]
 ·rw[Vm hv,Vm (by rw[iC];exact hv)]
def Dd (d:ZK)(u:Nat):List Nat:=(List.range d.C.length).filter fun v=>!d.Y.testBit v && !(dQ (aC d.C) ((aC d.C).getD v 0)).testBit u
def bA (d:ZK)(u:Nat):Nat:=dJ (Dd d u)
def vk :(bA d u).testBit i=true↔i<d.C.length/\d.Y.testBit i=false/\(dQ (aC d.C) ((aC d.C).getD i 0)).testBit u=false:=by
 unfold bA Dd;rw[lG,WO,Vp];simp
def pA (hS:Sub S (bA d u)):S<2 ^ d.C.length:=vG fun i hi=>(vk.1 (hS i hi)).1
def ki (ns:List ZJ):(aC ns).length=ns.length:=by simp[aC]
def pB {ns:List ZJ}(h:ns[v]?=some x):(aC ns).getD v 0=bG x.F:=by
 rw[Vh,kH h];rfl
def oo (hok:ZP d)(hx:d.C[v]?=some x):bZ x.F d.C.length:=by
 have:=(hok.nC.node _ (Va (jG (c:=fun _ _=>0) hx))).2;rw[(iP ..).2,ik]at this;exact this
def De (hok:ZP d):∀p∈aC d.C,p<2 ^ (aC d.C).length:=fun p hp=>by
 obtain⟨x,hx,rfl⟩:=Vu.1 hp;obtain⟨v,hv⟩:=Vj.1 hx;rw[ki];exact lg fun q hq=>(oo hok hv).2 q hq
def Pg (hok:ZP d):jS (aC d.C):=by have:=hok.nC.nL;rw[tO]at this;exact this
def zg (hok:ZP d)(hv:v<d.C.length):(aC d.C).getD v 0<2 ^ (aC d.C).length:=by
 obtain⟨x,hx⟩:=ay hv;rw[pB hx,ki];exact lg fun q hq=>(oo hok hx).2 q hq
def zj (hok:ZP d)(hc:c<d.C.length)(ha:a<d.C.length)(h:(dQ (aC d.C) ((aC d.C).getD c 0)).testBit a=true):
  Sub (dQ (aC d.C) ((aC d.C).getD a 0)) (dQ (aC d.C) ((aC d.C).getD c 0)) :=
 have hcl:=zB (De hok) (zg hok hc)
 pG hcl _ (hcl a (by rw[ki];exact ha) h)
def tg (h:((aC d.C).getD c 0).testBit a=true):(dQ (aC d.C) ((aC d.C).getD c 0)).testBit a=true:=q8 _ _ _ _ h
def Df (hok:ZP d)(hc:c<d.C.length)(h:((aC d.C).getD c 0).testBit a=true):a<d.C.length:=by
 obtain⟨x,hx⟩:=ay hc;rw[pB hx,iE fun p hp=>((oo hok hx).2 p hp).1]at h;have:=(oo hok hx).2 _ (of_decide_eq_true h);omega
def Ph (hok:ZP d)(hr:ZX d r)(hu:u∈r)(h:fS r u v=true):v=u\/(dQ (aC d.C) ((aC d.C).getD v 0)).testBit u=true:=by
 obtain⟨hv,hi⟩:=of_decide_eq_true h;obtain⟨i,hi1⟩:∃i,i=r.idxOf u:=⟨_,rfl⟩
 obtain⟨j,hj1⟩:∃j,j=r.idxOf v:=⟨_,rfl⟩
 have gu:r[i]?=some u:=by rw[hi1,Vd (VY hu),Wn]
 have gv:r[j]?=some v:=by rw[hj1,Vd (VY hv),Wn]
 rw[<- hi1,<- hj1]at hi;rcases XE hi with hlt|he
 ·right;obtain⟨hm,_,hn,_⟩:=hr.ro j v gv;refine tg ?_;obtain⟨x,hx⟩:=ay (bL.1 hm).1;have hp:bH d v=bG x.F:=by unfold bH;rw[hx]
  rw[pB hx,<- hp];exact uZ hn _ (jx.2 ⟨u,Vj.2 ⟨i,by rw[Vy hlt];exact gu⟩,by rw[Vw,V6];simp⟩)
 ·left;rw[he,gv]at gu;exact Option.some.inj gu
def Pi (hx:d.C[v]?=some x)(hlt:bG x.F |||S<2 ^ d.C.length):(aC (bw d r u S).C).getD v 0=if fS r u v=true then (aC d.C).getD v 0 |||S else (aC d.C).getD v 0:=by
 rw[pB (qQ hx),pB hx];unfold jh;split
 ·exact Db hlt
 ·rfl
def Pj (hok:ZP d)(hr:ZX d r)(hu:u∈r)(hS:Sub S (bA d u)):jS (aC (bw d r u S).C):=by
 have hSl:=pA hS;have hul:u<d.C.length:=(bL.1 (hr.mem u hu)).1;have hub:d.Y.testBit u=true:=(bL.1 (hr.mem u hu)).2;have hn:(aC (bw d r u S).C).length=(aC d.C).length:=by rw[ki,ki,iC]
 have par:∀v,v<d.C.length->(aC (bw d r u S).C).getD v 0=if fS r u v=true then (aC d.C).getD v 0 |||S else (aC d.C).getD v 0:=fun v hv=>by
  obtain⟨x,hx⟩:=ay hv;have:=zg hok hv;rw[pB hx,ki]at this;exact Pi hx (WR this hSl)
  -- what is not behind the decision
 obtain⟨N,hN⟩:∃N:Nat,∀i,N.testBit i=true↔i<d.C.length/\i≠u/\(dQ (aC d.C) ((aC d.C).getD i 0)).testBit u=false :=
  ⟨dJ ((List.range d.C.length).filter fun v=>decide (v≠u) && !(dQ (aC d.C) ((aC d.C).getD v 0)).testBit u),fun i=>by rw[lG,WO,Vp];simp⟩
 have hSN:Sub S N:=fun i hi=>by
  obtain⟨a,b,c⟩:=vk.1 (hS i hi);exact(hN i).2 ⟨a,fun e=>(by rw[e,hub]at b;cases b),c⟩
 have hNup:∀i,N.testBit i=true->Sub ((aC d.C).getD i 0) N:=fun i hi q hq=>by
  obtain⟨a,b,c⟩:=(hN i).1 hi;have hql:=Df hok a hq;refine(hN q).2 ⟨hql,fun e=>?_,?_⟩
  ·rw[e]at hq;rw[tg hq]at c;cases c
  ·cases hb:(dQ (aC d.C) ((aC d.C).getD q 0)).testBit u with
   |false=>rfl
   |true =>
    rw[zj hok a hql (tg hq) u hb]at c;cases c
 have hNno:∀i,N.testBit i=true->fS r u i=false:=fun i hi=>by
  obtain⟨a,b,c⟩:=(hN i).1 hi;cases hl:fS r u i with
  |false=>rfl
  |true =>
   rcases Ph hok hr hu hl with e|e
   ·exact absurd e b
   ·rw[e]at c;cases c
 intro v hv;rw[hn,ki]at hv;have hav:=Pg hok v (by rw[ki];exact hv);have hcl:=zB (De hok) (zg hok hv);have key:∀t:Nat,mj (aC (bw d r u S).C) t->Sub ((aC (bw d r u S).C).getD v 0) t->t.testBit v=false->(dQ (aC (bw d r u S).C) ((aC (bw d r u S).C).getD v 0)).testBit v=false:=fun t h1 h2 h3=>by
  cases hb:(dQ (aC (bw d r u S).C) ((aC (bw d r u S).C).getD v 0)).testBit v with
  |false=>rfl
  |true =>
   have:=pG h1 _ h2 v hb;rw[h3]at this;cases this
 cases hNv:N.testBit v with
 | true =>
    -- all ancestors are as they were
  refine key (dQ (aC d.C) ((aC d.C).getD v 0)) (fun a ha hb=>?_) ?_ hav
  ·rw[hn,ki]at ha;have haN:N.testBit a=true:=by
    refine(hN a).2 ⟨ha,fun e=>?_,?_⟩
    ·rw[e]at hb;have:=((hN v).1 hNv).2.2;rw[hb]at this;cases this
    ·cases hc:(dQ (aC d.C) ((aC d.C).getD a 0)).testBit u with
     |false=>rfl
     |true =>
      have:=zj hok hv ha hb u hc;rw[((hN v).1 hNv).2.2]at this;cases this
   rw[par a ha,hNno a haN];exact hcl a (by rw[ki];exact ha) hb
  ·rw[par v hv,hNno v hNv];exact q8 _ _ _
 |false =>
  refine key (dQ (aC d.C) ((aC d.C).getD v 0) |||N) (fun a ha hb=>?_) ?_ (by rw[Vw,hav,hNv];rfl)
  ·rw[hn,ki]at ha;rw[Vw,VM]at hb;have h0:Sub ((aC d.C).getD a 0) (dQ (aC d.C) ((aC d.C).getD v 0) |||N):=by
    rcases hb with hb|hb
    ·exact(hcl a (by rw[ki];exact ha) hb).trans (.left _ _)
    ·exact(hNup a hb).trans (.right _ _)
   rw[par a ha];split
   ·exact h0.or (hSN.trans (.right _ _))
   ·exact h0
  ·have h0:Sub ((aC d.C).getD v 0) (dQ (aC d.C) ((aC d.C).getD v 0) |||N):=Sub.trans (q8 _ _ _) (.left _ _);rw[par v hv];split
   ·exact h0.or (hSN.trans (.right _ _))
   ·exact h0
def qS (hok:ZP d)(hr:ZX d r)(hu:u∈r)(hS:Sub S (bA d u)):ZP (bw d r u S):=by
 have hget:∀(v:Nat) (y:ZJ),(bw d r u S).C[v]?=some y->∃x,d.C[v]?=some x/\y=jh d.C.length r u S v x:=fun v y hy=>by
  obtain⟨x,hx⟩:=ay (l:=d.C) (i:=v) (by have:=aP hy;rw[iC]at this;exact this);rw[qQ hx]at hy;exact⟨x,hx,(Option.some.inj hy).symm⟩
 have hpl:∀(v:Nat) (y:ZJ),(bw d r u S).C[v]?=some y->bZ y.F d.C.length:=fun v y hy=>by
  obtain⟨x,hx,rfl⟩:=hget v y hy;unfold jh;split
  ·exact Da _ _
  ·exact oo hok hx
 have hcard:∀y∈(bw d r u S).C,1<=y.L/\y.L<=4:=fun y hy=>by
  obtain⟨v,hv⟩:=Vj.1 hy;obtain⟨x,hx,rfl⟩:=hget v y hv;rw[(qR ..).1];exact hok.n.L x (Va hx)
 have hlate:∀v,d.Y.testBit v=false->fS r u v=false:=fun v hb=>by
  cases hl:fS r u v with
  |false=>rfl
  |true =>
   have:=(bL.1 (hr.mem v (of_decide_eq_true hl).1)).2;rw[hb]at this;cases this
 have hR:Z4 (bw d r u S):=⟨by rw[iC];exact hok.n.n1,by rw[iC];exact hok.n.Y,hcard,fun v y hy hb=>by
  obtain⟨x,hx,rfl⟩:=hget v y hy;refine⟨by rw[(qR ..).2];exact(hok.n.dec v x hx hb).1,by rw[iC];exact hpl v _ hy⟩⟩
 have h0:=hok.nC;refine⟨hR,⟨h0.g1,by rw[ik,iC];exact hok.n.n1,fun y hy=>?_,by have:=h0.size;rw[jX]at this ⊢;rw[zf];exact this,by rw[tO];exact Pj hok hr hu hS,fun y hy=>?_⟩,?_⟩
 ·obtain⟨v,y,hy',rfl⟩:=pV hy;clear hy;have hy:=hy';rw[(iP ..).1,(iP ..).2,ik,iC];exact⟨hcard y (Va hy),hpl v y hy⟩
 ·obtain⟨v,y,hy',rfl⟩:=pV hy;clear hy;have hy:=hy';obtain⟨x,hx,e⟩:=hget v y hy;have h1:=h0.nb _ (Va (jG (c:=fun _ _=>0) hx));unfold gG at h1 ⊢;rw[rM]at h1 ⊢;have hpc:∀z:ZJ,aU (bw d r u S).C z=aU d.C z:=fun z=>by unfold aU;rw[zf]
  rw[hpc];by_cases hb:d.Y.testBit v=true
  ·have hyr:=(hR.dec v y hy hb).1;have hyc:=hcard y (Va hy);rw[wH (d:=bw d r u S) hy hb];have hl:({ y with nb:=y.nb++dE (bw d r u S).nl (bw d r u S).C (fun _ _=>0) (bp (bw d r u S).Y v) y }:ZJ).nb=dE d.nl (bw d r u S).C (fun _ _=>0) (bp d.Y v) y:=by
    show y.nb++_=_;rw[hyr];rfl
   rw[hl];have hpos:=fZ (l:=aU d.C y) fun c hc=>(rQ (fun q hq=>by have:=(hpl v y hy).2 q hq;omega) hok.n.L c hc).1;refine⟨?_,fun w hw=>?_⟩
   ·show ((dE d.nl (bw d r u S).C (fun _ _=>0) (bp d.Y v) y).length:Int)=aD (aU d.C y);unfold dE cr;rw[Vx,WT,hpc];omega
   ·unfold dE at hw;obtain⟨i,_,rfl⟩:=Vu.1 hw;have:=h0.g1;exact Ap (by show 0<=d.nl;omega) ⟨Int.le_refl 0,(by show (0:Int)<y.L;omega)⟩
  ·have hb':d.Y.testBit v=false:=(by simpa using hb);rw[oK hb]at h1;rw[oK (d:=bw d r u S) hb];have ey:y=x:=(by rw[e];unfold jh;rw[hlate v hb'];rfl);rw[ey];exact h1
 ·refine⟨hok.Z.1,fun w hw=>?_⟩;have:=hok.Z.2 w hw;exact⟨by rw[iC];exact this.vars,by rw[zf];exact this.size,this.w⟩
def ti (hok:ZP d)(hr:ZX d r):iL d=some r:=by
 have hR:=hok.n;have hnd:r.Nodup:=by
  rw[List.nodup_iff_pairwise_ne,WN];intro i j hi hj hij e;have h1:r[i]?=some r[i]:=Vd hi;have h2:r[j]?=some r[i]:=by rw[Vd hj,e]
  have:=hr.ro.new h2;have h3:(dJ (r.take j)).testBit r[i]=true:=lG.2 (Vj.2 ⟨i,by rw[Vy hij];exact h1⟩);rw[this]at h3;cases h3
 have hmem:∀v,v∈r↔v∈aG d:=fun v=>by
  rw[bL,<- lG,hr.all];constructor
  ·intro h;refine⟨Wo fun hn=>?_,h⟩;have:=hR.Y;rw[XR]at this;have hlt:d.Y<2 ^ d.C.length:=by
    rcases VA d.Y (2 ^ d.C.length) with h|h
    ·exact h
    ·have:=Nat.div_pos h (Xl _);omega
   rw[Wu (Vl hlt (Vq ZE hn))]at h;cases h
  ·exact fun h=>h.2
 have nx:∀(k v:Nat),r[k]?=some v->jQ d (cV d (r.take k))=some v:=fun k v hv=>by
  obtain⟨hm,hko⟩:=hr.ro k v hv;have huniq:∀w,w∈aG d->jw d (cV d (r.take k)) w->w=v:=fun w hw hwk=>by
   obtain⟨j,hj⟩:=Vj.1 ((hmem w).2 hw);rcases WD j k with hlt|he|hlt
   ·have:=(jx (d:=d) (l:=r.take k) (i:=w)).2 ⟨w,Vj.2 ⟨j,by rw[Vy hlt];exact hj⟩,by rw[Vw,V6];simp⟩;rw[hwk.1]at this;cases this
   ·rw[he,hv]at hj;exact(Option.some.inj hj).symm
   ·obtain⟨_,_,hsub,_⟩:=hr.ro j w hj;have h1:(bH d w).testBit v=true:=uZ hsub _ (jx.2 ⟨v,Vj.2 ⟨k,by rw[Vy hlt];exact hv⟩,by rw[Vw,V6];simp⟩);have h2:(bH d w &&& d.Y).testBit v=true:=(by rw[Wa,h1,(bL.1 hm).2];rfl);rw[hwk.2.2,Wa,hko.1]at h2;cases h2
  cases hf:jQ d (cV d (r.take k)) with
  |none =>
   unfold jQ at hf;rw[XG]at hf;exact absurd (VB hko) (hf v hm)
  |some w =>
   obtain⟨w1,w2⟩:=uY hf;rw[huniq w w1 w2]
 have hlen:(aG d).length=r.length:=by
  have h1:r.Perm (aG d):=(List.perm_ext_iff_of_nodup hnd (Xx.filter _)).2 hmem;exact h1.length_eq.symm
 have full:∀k,cV d (r.take k) &&& d.Y=d.Y->k<=r.length->k=r.length:=fun k hk hkl=>by
  refine VZ fun hne=>?_;obtain⟨v,hv⟩:=ay (l:=r) (i:=k) V;have h1:=(hr.ro k v hv)
  have h2:(cV d (r.take k) &&& d.Y).testBit v=true:=by rw[hk];exact(bL.1 h1.1).2
  rw[Wa,h1.2.1]at h2;cases h2
 have go:∀(f k:Nat),k+f=r.length->gK d f (cV d (r.take k)) (r.take k)=some r:=by
  intro f
  induction f with
  |zero =>
   intro k hk;unfold gK;rw[Vf]
   ·rw[Vg V]
   ·refine(yQ hR).2 fun v hv=>jx.2 ⟨v,?_,by rw[Vw,V6];simp⟩;rw[Vg V];exact(hmem v).2 hv
  |succ f ih =>
   intro k hk;unfold gK;split
   ·rename_i hd;have:=full k hd V;omega
   ·obtain⟨v,hv⟩:=ay (l:=r) (i:=k) V;rw[nx k v hv];have:=ih (k+1) V;rw[bb hv,sZ]at this;exact this
 have:=go r.length 0 V;unfold iL;rw[hlen];exact this
def zk (hok:ZP d)(hv:v<d.C.length)(hS:S<2 ^ d.C.length):bH (bw d r u S) v=if fS r u v=true then bH d v |||S else bH d v:=by
 obtain⟨x,hx⟩:=ay hv;have hp:bH d v=bG x.F:=by unfold bH;rw[hx]
 unfold bH;rw[qQ hx,hx];simp only;unfold jh;split
 ·refine Db (WR (lg fun q hq=>(oo hok hx).2 q hq) hS)
 ·rfl
def qT (hok:ZP d)(hr:ZX d r)(hu:u∈r)(hS:Sub S (bA d u)):ZX (bw d r u S) r:=by
 have hSl:=pA hS;have hdl:aG (bw d r u S)=aG d:=by unfold aG;rw[iC];rfl
 have hSd:∀i,S.testBit i=true->d.Y.testBit i=false:=fun i hi=>(vk.1 (hS i hi)).2.1;refine⟨fun k v hv=>?_,hr.all⟩;obtain⟨hm,h1,h2,h3⟩:=hr.ro k v hv;have hvl:=(bL.1 hm).1;have hnd:∀j w,r[j]?=some w->r.idxOf w=j:=fun j w hj=>by
  have hw:w∈r:=Va hj;have e:r[r.idxOf w]?=some w:=by rw[Vd (VY hw),Wn]
  rcases WD (r.idxOf w) j with hlt|he|hlt
  ·have:=hr.ro.new hj;rw[lG.2 (Vj.2 ⟨r.idxOf w,by rw[Vy hlt];exact e⟩)]at this;cases this
  ·exact he
  ·have:=hr.ro.new e;rw[lG.2 (Vj.2 ⟨j,by rw[Vy hlt];exact hj⟩)]at this;cases this
 have hlv:fS r u v=true↔r.idxOf u<=k:=by
  unfold fS;rw[WW,hnd k v hv];exact⟨fun h=>h.2,fun h=>⟨Va hv,h⟩⟩
  -- what is known when this decision comes
 have need:∀i,(cV (bw d r u S) (r.take k)).testBit i=true->(cV d (r.take k)).testBit i=true\/(S.testBit i=true/\r.idxOf u<k):=fun i hi=>by
  obtain⟨w,hw,hb⟩:=jx.1 hi;obtain⟨j,hj⟩:=Vj.1 hw;have hjk:j<k:=by have:=aP hj;rw[Vr]at this;omega
  rw[Vy hjk]at hj;have hwl:=(bL.1 (hr.mem w (Va hj))).1;rw[Vw,zk hok hwl hSl]at hb;cases hl:fS r u w with
  |false =>
   rw[hl,Ve ZD,<- Vw]at hb;exact .inl (jx.2 ⟨w,hw,hb⟩)
  |true =>
   rw[hl,Vf rfl]at hb;have hju:r.idxOf u<=j:=(by have:=(of_decide_eq_true hl).2;rw[hnd j w hj]at this;exact this);rw[Vw]at hb;cases hs:S.testBit i with
   |true=>exact .inr ⟨rfl,V⟩
   |false =>
    rw[hs,Zi,<- Vw]at hb;exact .inl (jx.2 ⟨w,hw,hb⟩)
 have needG:Sub (cV d (r.take k)) (cV (bw d r u S) (r.take k)):=fun i hi=>by
  obtain⟨w,hw,hb⟩:=jx.1 hi;have hwl:=(bL.1 (hr.mem w (VD hw))).1;refine jx.2 ⟨w,hw,?_⟩;rw[Vw,zk hok hwl hSl];rw[Vw]at hb;split
  ·rw[Vw];cases h:(bH d w).testBit i<;>simp_all
  ·exact hb
 have hpv:=zk (r:=r) (u:=u) hok hvl hSl;refine⟨by rw[hdl];exact hm,?_,?_,?_⟩
 ·cases hb:(cV (bw d r u S) (r.take k)).testBit v with
  |false=>rfl
  |true =>
   rcases need v hb with h|⟨h,_⟩
   ·rw[h1]at h;cases h
   ·have:=hSd v h;rw[(bL.1 hm).2]at this;cases this
 ·refine VP fun i=>?_;rw[Wa];cases hb:(cV (bw d r u S) (r.take k)).testBit i with
  |false=>simp
  |true =>
   have:(bH (bw d r u S) v).testBit i=true:=by
    rw[hpv];rcases need i hb with h|⟨h,hk⟩
    ·have:=uZ h2 i h;split
     ·rw[Vw,this];rfl
     ·exact this
    ·rw[Vf (hlv.2 V),Vw,h];simp
   rw[this];rfl
 ·refine VP fun i=>?_;have h3i:=congrArg (fun n=>n.testBit i) h3;simp only[Wa]at h3i;show (bH (bw d r u S) v &&& d.Y).testBit i=(cV (bw d r u S) (r.take k) &&& d.Y).testBit i;rw[Wa,Wa];cases hd:d.Y.testBit i with
  |false=>simp
  |true =>
   rw[hd,Bool.and_true,Bool.and_true]at h3i;have hSi:S.testBit i=false:=by
    cases hs:S.testBit i with
    |false=>rfl
    |true=>have:=hSd i hs;rw[hd]at this;cases this
   have e1:(bH (bw d r u S) v).testBit i=(bH d v).testBit i:=by
    rw[hpv];split
    ·rw[Vw,hSi,Zi]
    ·rfl
   have e2:(cV (bw d r u S) (r.take k)).testBit i=(cV d (r.take k)).testBit i:=by
    rw[WC];refine⟨fun h=>?_,needG i⟩;rcases need i h with h|⟨h,_⟩
    ·exact h
    ·rw[hSi]at h;cases h
   rw[e1,e2,h3i]
def Pk (hr:ZX d r)(h:fS r u v=true):v∈aG d:=hr.mem v (of_decide_eq_true h).1
def Pl (hok:ZP d)(hr:ZX d r){u':Nat}(hS:S<2 ^ d.C.length)(hS':S'<2 ^ d.C.length)(hl:∀v,fS r u v=true->fS r u' v=true)(hs:Sub S S'):
  nnn (bw d r u S) (bw d r u' S'):=by
 refine⟨by rw[iC,iC],rfl,rfl,rfl,fun v y y' hy hy'=>?_⟩;obtain⟨x,hx⟩:=ay (l:=d.C) (i:=v) (by have:=aP hy;rw[iC]at this;exact this);rw[qQ hx]at hy hy';cases hy;cases hy';have hpl:=oo hok hx;refine⟨by rw[(qR ..).1,(qR ..).1],fun p hp=>?_,fun hb=>?_⟩
 ·have inb:∀T:Nat,(bG x.F |||T).testBit p.toNat=true->0<=p->p<d.C.length->p∈dR (bG x.F |||T) d.C.length:=fun T h h0 h1=>lD.2 ⟨p.toNat,V,V,h⟩;have par:p∈x.F->(bG x.F).testBit p.toNat=true/\0<=p/\p<d.C.length:=fun h=>by
   have h0:=hpl.2 p h;refine⟨?_,h0.1,h0.2⟩;rw[iE fun q hq=>(hpl.2 q hq).1];exact VB (by rw[Xv h0.1];exact h)
  unfold jh at hp ⊢;by_cases h1:fS r u v=true
  ·rw[Vf h1]at hp;rw[Vf (hl v h1)];obtain⟨i,rfl,h2,h3⟩:=lD.1 hp;refine inb S' ?_ V V;rw[Vw,VM]at h3 ⊢;rw[Int.toNat_natCast];exact h3.imp (fun h2=>h2) fun h=>hs i h
  ·rw[Ve h1]at hp;obtain⟨a,b,c⟩:=par hp;split
   ·exact inb S' (by rw[Vw,a];rfl) b c
   ·exact hp
 ·have h1:∀u,fS r u v=false:=fun u=>by
   cases h:fS r u v with
   |false=>rfl
   |true =>
    have:=(bL.1 (Pk hr h)).2;have hb':d.Y.testBit v=false:=hb;rw[hb']at this;cases this
  unfold jh;rw[h1,h1];rfl
def eo (d:ZK)(r:List Nat)(u S:Nat):Int:=eM (bw d r u S) r-eM d r
def Pm (hok:ZP d)(hr:ZX d r)(hu:u∈r)(hS':Sub S' (bA d u))(h:Sub S S'):eo d r u S<=eo d r u S':=by
 have hS:=h.trans hS';have:=Pf (Pl hok hr (pA hS) (pA hS') (fun v h=>h) h) (qS hok hr hu hS) (qS hok hr hu hS') (qT hok hr hu hS) (qT hok hr hu hS');unfold eo;omega
abbrev qU (d:ZK)(i:Nat):Nat:=dQ (aC d.C) ((aC d.C).getD i 0)
abbrev oq (d:ZK)(i:Nat):Nat:=(aC d.C).getD i 0
structure DfsR (d:ZK)(v M M':Nat):Prop where
 sub:Sub M M'
 lt:M'<2 ^ d.C.length
 new:∀i,M'.testBit i=true->M.testBit i=false->(qU d i).testBit v=true
 nO:∀c,c<d.C.length->(oq d c).testBit v=true->M'.testBit c=true
 cls:∀i c,M'.testBit i=true->M.testBit i=false->c<d.C.length->(oq d c).testBit i=true->M'.testBit c=true
structure nnc (d:ZK)(v M w M':Nat):Prop where
 sub:Sub M M'
 lt:M'<2 ^ d.C.length
 new:∀i,M'.testBit i=true->M.testBit i=false->(qU d i).testBit v=true
 nO:∀c,c<w->(oq d c).testBit v=true->M'.testBit c=true
 cls:∀i c,M'.testBit i=true->M.testBit i=false->c<d.C.length->(oq d c).testBit i=true->M'.testBit c=true
def nnc.start (h:M<2 ^ d.C.length):nnc d v M 0 M :=
 ⟨.refl _,h,fun i h1 h2=>(by rw[h1]at h2;cases h2),fun c h=>absurd h (Vs _),fun i c h1 h2=>(by rw[h1]at h2;cases h2)⟩
def nnc.done (h:nnc d v M d.C.length M'):DfsR d v M M':=⟨h.sub,h.lt,h.new,h.nO,h.cls⟩
def nnc.met (h:nnc d v M w M')(hm:M'.testBit w=true):nnc d v M (w+1) M' :=
 ⟨h.sub,h.lt,h.new,fun c hc hp=>by
  by_cases e:c=w
  ·rw[e];exact hm
  ·exact h.nO c V hp,h.cls⟩
def nnc.no (h:nnc d v M w M')(hp0:(oq d w).testBit v=false):nnc d v M (w+1) M' :=
 ⟨h.sub,h.lt,h.new,fun c hc hp=>by
  by_cases e:c=w
  ·rw[e,hp0]at hp;cases hp
  ·exact h.nO c V hp,h.cls⟩
def tj :(a |||2 ^ w).testBit i=true↔a.testBit i=true\/i=w:=by
 rw[Vw,VM,Xs];exact or_congr_right ⟨fun h=>(of_decide_eq_true h).symm,fun h=>VB h.symm⟩
def nnc.step (hok:ZP d){M1 M2:Nat}(h:nnc d v M w M1)(hw:w<d.C.length)(hv:v<d.C.length)(hp:(oq d w).testBit v=true)(hr:DfsR d w (M1 |||2 ^ w) M2):nnc d v M (w+1) M2:=by
 have s1:Sub M1 M2:=fun i hi=>hr.sub i (tj.2 (.inl hi));have hw2:M2.testBit w=true:=hr.sub w (tj.2 (.inr rfl));have cases3:∀i,M2.testBit i=true->M1.testBit i=true\/i=w\/(M1 |||2 ^ w).testBit i=false:=fun i _=>by
  cases hb:(M1 |||2 ^ w).testBit i with
  |false=>exact .inr (.inr rfl)
  |true=>exact(tj.1 hb).imp (fun h2=>h2) .inl
 refine⟨h.sub.trans s1,hr.lt,fun i h1 h2=>?_,fun c hc hpc=>?_,fun i c h1 h2 hc hpc=>?_⟩
 ·rcases cases3 i h1 with h3|rfl|h3
  ·exact h.new i h3 h2
  ·exact tg hp
  ·have h4:=hr.new i h1 h3;have hil:i<d.C.length:=Wo fun hn=>by
    rw[Wu (Vl hr.lt (Vq ZE hn))]at h1;cases h1
   exact zj hok hil hw h4 v (tg hp)
 ·by_cases e:c=w
  ·rw[e];exact hw2
  ·exact s1 c (h.nO c V hpc)
 ·rcases cases3 i h1 with h3|rfl|h3
  ·exact s1 c (h.cls i c h3 h2 hc hpc)
  ·exact hr.nO c hc hpc
  ·exact hr.cls i c h1 h3 hc hpc
def Pn (hok:ZP d)(hu:u<d.C.length)(h:DfsR d u 0 M)(hi:i<d.C.length):M.testBit i=(qU d i).testBit u:=by
 rw[WC];constructor
 ·exact fun h1=>h.new i h1 (V3 i)
 ·intro ha;refine VZ fun hno=>?_;have hno:M.testBit i=false:=by simpa using hno
  obtain⟨t,ht⟩:∃t:Nat,∀q,t.testBit q=true↔q<d.C.length/\q≠u/\M.testBit q=false :=
   ⟨dJ ((List.range d.C.length).filter fun q=>decide (q≠u) && !M.testBit q),fun q=>by rw[lG,WO,Vp];simp⟩
  have cl:∀a,a<d.C.length->M.testBit a=false->Sub (oq d a) t:=fun a hal hM q hq=>by
   refine(ht q).2 ⟨Df hok hal hq,fun e=>?_,?_⟩
   ·rw[e]at hq;rw[h.nO a hal hq]at hM;cases hM
   ·cases hb:M.testBit q with
    |false=>rfl
    |true =>
     rw[h.cls q a hb (V3 q) hal hq]at hM;cases hM
  have hc:mj (aC d.C) t:=fun a hal hb=>by
   obtain⟨h1,_,h3⟩:=(ht a).1 hb;exact cl a h1 h3
  have:=pG hc (aC d.C).length (cl i hi hno) u ha;exact((ht u).1 this).2.1 rfl
def tn (d:ZK)(M:Nat):Nat:=((List.range d.C.length).filter fun i=>!M.testBit i).length
def Po (hs:Sub M M')(hw:w<d.C.length)(h0:M.testBit w=false)(h1:M'.testBit w=true):tn d M'<tn d M:=by
 unfold tn;have key:∀n,((List.range n).filter fun i=>!M'.testBit i).length<=((List.range n).filter fun i=>!M.testBit i).length/\(w<n->((List.range n).filter fun i=>!M'.testBit i).length<((List.range n).filter fun i=>!M.testBit i).length):=by
  intro n
  induction n with
  |zero=>exact⟨ZG,fun h=>absurd h (Vs _)⟩
  |succ n ih =>
   rw[VW,WZ,WZ,List.length_append,List.length_append];have e:∀N:Nat,((List.filter (fun i=>!N.testBit i) [n]).length=if N.testBit n=true then 0 else 1):=fun N=>by
    cases hb:N.testBit n<;>simp[hb]
   rw[e,e];have hsn:M.testBit n=true->M'.testBit n=true:=hs n;by_cases hwn:w=n
   ·subst hwn;rw[h0,h1];simp only[if_true,Bool.false_eq_true,if_false];omega
   ·refine⟨?_,fun h=>?_⟩
    ·by_cases hb:M.testBit n=true
     ·rw[Vf hb,Vf (hsn hb)];omega
     ·rw[Ve hb];split<;>omega
    ·have:=ih.2 V;by_cases hb:M.testBit n=true
     ·rw[Vf hb,Vf (hsn hb)];omega
     ·rw[Ve hb];split<;>omega
 exact(key _).2 hw
def Ui (h:l≠[])(b:Int):iG (l++[b])=max (iG l) b:=by
 cases l with
 |nil=>exact absurd rfl h
 |cons a l =>
  show (l++[b]).foldl max a=_;rw[Wl];rfl
def Uj (l:List Int)(h0:l≠[])(hl:(l.length:Int)<2 ^ 62)(H:ZH)(K:ZN->ZH->Prop)(hK:K (.ret (aa (iG l))) H):ae prog G0 150 [af l] H K:=by
 have hpos:0<l.length:=List.length_pos_iff.2 h0;obtain⟨a,ha⟩:=ay hpos;have h1:¬((l.length:Int)<1):=V
 have hp1:(0:Int)<l.length:=V
 refine ae.st (n:=25) (rs:=[.tmp 2]) func150 ?_;simp only[go_sem,h1,ha,h0,hp1];refine W.aT 16773144 (by rfl) (fun ρ H'=>H'=H/\∃k:Nat,ρ 4=aa (k:Int)/\1<=k/\k<=l.length/\ρ 3=aa (iG (l.take k))) (fun ρ H=>l.length-(iv (ρ 4)).toNat) ?_ ?_
 ·simp only[go_sem];refine⟨1,rfl,ZG,V,?_⟩;rw[bb ha,List.take_zero];rfl
 rintro ρ H' ⟨rfl,k,h4,hk1,hk,h3⟩;refine W.vs ?_;by_cases hb:(k:Int)<l.length
 ·obtain⟨b,hkb⟩:=ay (l:=l) (i:=k) V;have hne:=bd hkb;have w1:=Vb ((k:Int)+1) V;simp only[go_sem,h4,h3,hb,hkb,hne,w1,builtin_max];refine⟨⟨k+1,ZD,V,V,?_⟩,V⟩;rw[bb hkb,Ui (fun e=>by have:=congrArg List.length e;rw[Vr,XI V]at this;rw[List.length_nil]at this;omega)];congr 2;split<;>omega
 ·simp only[go_sem,h4,h3,hb];rw[Vg V];exact ak.mk ZG hK
def Uk {v:Int}(h:∀j,j<k->∀b,l[j]?=some b->b≠v)(hk:l[k]?=some v):l.idxOf v=k:=by
 induction l generalizing k with
 |nil=>simp at hk
 |cons a l ih =>
  cases k with
  |zero=>simp only[List.getElem?_cons_zero,Option.some.injEq]at hk;subst hk;simp
  |succ k =>
   have ha:=h 0 V a rfl;have hr:=ih (k:=k) (fun j hj b hb=>h (j+1) V b (by simpa using hb)) (by simpa using hk);have hbe:(a == v)=false:=beq_false_of_ne ha;simp[Y4,hbe,hr]
def Ul (l:List Int)(v:Int)(hv:v∈l)(hl:(l.length:Int)<2 ^ 62)(H:ZH)(K:ZN->ZH->Prop)(hK:K (.ret (aa ((l.idxOf v:Nat):Int))) H):ae prog G0 87 [af l,aa v] H K:=by
 refine ae.st (n:=19) (rs:=[.tmp 4]) func87 ?_;simp only[go_sem];refine W.aT 524080 (by rfl) (fun ρ H'=>H'=H/\∃k:Nat,ρ 8=aa k/\k<=l.length/\∀j,j<k->∀b,l[j]?=some b->b≠v) (fun ρ H=>l.length-(iv (ρ 8)).toNat) ?_ ?_
 ·simp only[go_sem];exact⟨0,rfl,V,fun j h=>absurd h (Vs _)⟩
 rintro ρ H' ⟨rfl,k,h8,hk,hno⟩;refine W.vs ?_;by_cases hb:(k:Int)<l.length
 ·obtain⟨b,hkb⟩:=ay (l:=l) (i:=k) V;have hne:=bd hkb;have w1:=Vb ((k:Int)+1) V;by_cases he:v=b
  ·subst he;simp only[go_sem,h8,hb,hkb,hne];rw[Uk hno hkb]at hK;exact ak.mk ZG hK
  ·simp only[go_sem,h8,hb,hkb,hne,he,w1];exact⟨⟨k+1,ZD,V,fun j hj b' hb'=>by
    by_cases hjk:j=k
    ·subst hjk;rw[hkb]at hb';cases hb';exact fun h=>he h.symm
    ·exact hno j V b' hb'⟩,V⟩
 ·exfalso;obtain⟨j,hj⟩:=Vj.1 hv;exact hno j (by have:=aP hj;omega) v hj rfl
def fT (l:List Int)(v:Int):Int:=if v∈l then (l.idxOf v:Nat) else -1
def zm (l:List Int)(v:Int)(hl:(l.length:Int)<2 ^ 62)(H:ZH)(K:ZN->ZH->Prop)(hK:K (.ret (aa (fT l v))) H):ae prog G0 87 [af l,aa v] H K:=by
 by_cases hv:v∈l
 ·refine Ul l v hv hl H K ?_;unfold fT at hK;rw[Vf hv]at hK;exact hK
 unfold fT at hK;rw[Ve hv]at hK;refine ae.st (n:=19) (rs:=[.tmp 4]) func87 ?_;simp only[go_sem];refine W.aT 524080 (by rfl) (fun ρ H'=>H'=H/\∃k:Nat,ρ 8=aa k/\k<=l.length) (fun ρ H=>l.length-(iv (ρ 8)).toNat) ?_ ?_
 ·simp only[go_sem];exact⟨0,rfl,V⟩
 rintro ρ Hx ⟨rfl,k,h8,hk⟩;refine W.vs ?_;by_cases hb:(k:Int)<l.length;rotate_left
 ·simp only[go_sem,h8,hb];exact ak.mk ZG hK
 obtain⟨x,hx⟩:=ay (l:=l) (i:=k) V;have hx':(ints l)[k]?=some (aa x):=by rw[gY,hx];rfl
 have hne:=bd hx;have hxv:¬v=x:=fun h=>hv (h ▸ Va hx);have w1:=Vb ((k:Int)+1) V;simp only[go_sem,h8,hb,hx',hne,hxv,w1];exact⟨⟨k+1,rfl,V⟩,V⟩
def Dh (l:List Int)(v:Int)(hl:(l.length:Int)<2 ^ 62)(H:ZH)(K:ZN->ZH->Prop)(hK:K (.ret (.lit (.bool (decide (v∈l))))) H):ae prog G0 79 [af l,aa v] H K:=by
 refine ae.st (n:=9) (rs:=[.tmp 4]) func79 ?_;simp only[go_sem];refine ao.X (zm l v hl H _ ⟨trivial,?_⟩);by_cases hv:v∈l
 ·rw[VB hv]at hK;have h0:fT l v >= 0:=by unfold fT;rw[Vf hv];omega
  simp only[go_sem,h0];exact ak.mk ZG hK
 ·rw[V1 hv]at hK;have h0:¬fT l v >= 0:=by unfold fT;rw[Ve hv];omega
  simp only[go_sem,h0];exact ak.mk ZG hK
def gZ (d:ZK)(r:List Nat)(u:Nat):List ZI:=[aa d.nl,.Q d.C.length (aI d.C),aM d.Y,.Q d.Z.length (bt d.Z),af (aH r),aa u]
structure Beh (d:ZK)(r:List Nat)(u s B:Nat)(H:ZH)(M:Nat):Prop where
 sl:s<B
 nx:B+2<H.A
 gs:H.get s=some (.J 0 157 (gZ d r u))
 gb:H.get B=some (.J 0 101 [.O s 0 0])
 gm:H.get (B+1)=some (.J 0 34 [aM M])
 gw:H.get (B+2)=some (.J 0 197 [.X 123 [] [.O B 0 0,.O (B+1) 0 0,.O (B+2) 0 0]])
def Beh.ng {s B:Nat}{H H':ZH}(h:Beh d r u s B H M)(hn:H.A<=H'.A)(hk:∀i,i<H.A->H'.get i=H.get i):Beh d r u s B H' M:=by
 have h1:=h.nx;have h2:=h.sl;exact⟨h2,V,(hk _ V).trans h.gs,(hk _ V).trans h.gb,(hk _ V).trans h.gm,(hk _ V).trans h.gw⟩
def Pr (hok:ZP d){s B:Nat}(hpl:∀x∈d.C,(x.F.length:Int)<2 ^ 62):∀(m M v:Nat) (H:ZH) (K:ZN->ZH->Prop),tn d M<m->v<d.C.length->M<2 ^ d.C.length->Beh d r u s B H M ->
  (∀H' M',DfsR d v M M'->Beh d r u s B H' M'->(∀i,i<H.A->i≠B+1->H'.get i=H.get i)->H.A<=H'.A->K (.ret (.nc [])) H') ->
  ae prog G0 123 [aa v,.O B 0 0,.O (B+1) 0 0,.O (B+2) 0 0] H K:=by
 have n8:=hok.n.n1;have p64:∀a:Nat,a<2 ^ d.C.length->a<2 ^ 64:=fun a h=>Vl h (Vq ZE V);intro m
 induction m with
 |zero=>exact fun M v H K hm=>absurd hm (Vs _)
 |succ m ih =>
  intro M v H K hm hv hM hB hK;have ls:=ah hB.gs;have lb:=ah hB.gb;unfold gZ at ls;refine ae.sw (n:=37) (rs:=[]) func123 ?_;refine W.sq ?_;simp only[go_sem,lb,ls];refine W.en (fun E=>E 0=aa v /\ E 2=.O (B+1) 0 0 /\ E 3=.O (B+2) 0 0 /\ E 11=.Q d.C.length (aI d.C) /\ E 12=aa d.C.length /\ E 13=aa 0) (by simp only[go_sem]) fun E ⟨e0,e2,e3,e11,e12,e13⟩=>?_
  refine W.block ?_;refine W.aT 137438945376 (by rfl) (fun ρ Hx=>∃k M1:Nat,ρ 13=aa k/\k<=d.C.length/\nnc d v M k M1/\Beh d r u s B Hx M1/\(∀i,i<H.A->i≠B+1->Hx.get i=H.get i)/\H.A<=Hx.A) (fun ρ _=>d.C.length-(iv (ρ 13)).toNat) ?_ ?_
  ·exact⟨0,M,e13,V,.start hM,hB,fun _ _ _=>rfl,ZG⟩
  rintro ρ Hx ⟨k,M1,h13,hk,hD,hB1,hold,hn⟩;refine W.en (fun E1=>E1 0=aa v /\ E1 2=.O (B+1) 0 0 /\ E1 3=.O (B+2) 0 0 /\ E1 11=.Q d.C.length (aI d.C) /\ E1 12=aa d.C.length /\ E1 13=aa k) (by simp only[go_sem,e0,e2,e3,e11,e12,h13]) fun E1 ⟨f0,f2,f3,f11,f12,f13⟩=>?_
  by_cases hb:(k:Int)<d.C.length;rotate_left
  ·refine W.vs ?_;simp only[go_sem,f12,f13,hb];obtain rfl:k=d.C.length:=V;exact ak.mk hn (hK Hx M1 hD.done hB1 hold hn)
  obtain⟨x,hx⟩:=ay (l:=d.C) (i:=k) V;have c0:=ox hx;have cne:=fU hx;have w1:=Vb ((k:Int)+1) V;have c3:k*3+3<=(aI d.C).length:=by rw[kq];omega
  refine W.sq ?_;simp only[go_sem,f12,f13,hb];refine W.sq ?_;simp only[go_sem];refine W.seq (W.block ?_);refine W.sq ?_;simp only[go_sem,f11,f13,hb,c0,cne,c3];obtain⟨H1,hH1⟩:∃H1,H1=ext Hx [.J 0 76 [.lit (.int .i64 x.L),.Q x.F.length (ints x.F),ba x.nb]]:=⟨_,rfl⟩
  have o1:ZM Hx H1:=hH1▸.ext _ _
  have n1:H1.A=Hx.A+1:=hH1▸rfl
  have g6:=dI hH1
  have hB2:Beh d r u s B H1 M1:=hB1.ng V fun i h=>o1.nf i h;have bnx:=hB1.nx;have l6:=ah g6;have lm:=ah hB2.gm;have lw:=ah hB2.gw;have hold1:∀i,i<H.A->i≠B+1->H1.get i=H.get i:=fun i h h2=>(o1.nf i V).trans (hold i h h2);rw[<- hH1];clear hH1;have M64:=p64 M1 hD.lt;have s1:=fun t x y=>jo (P:=prog) (t:=t) (x:=x) (y:=y) (k':=.i64) (s:=k) M64;have s2:=fun t x y=>oU (P:=prog) (t:=t) (x:=x) (y:=y) (s:=k) M64;refine W.en (fun E2=>E2 0=aa v /\ E2 2=.O (B+1) 0 0 /\ E2 3=.O (B+2) 0 0 /\ E2 5=aa k /\ E2 6=.O Hx.A 0 0 /\ E2 13=aa k) (by simp only[go_sem,f0,f2,f3,f13]) fun E2 ⟨m0,m2,m3,m5,m6,m13⟩=>?_
  have hpx:=oo hok hx;have par:(oq d k).testBit v=decide ((v:Int)∈x.F):=by
   show ((aC d.C).getD k 0).testBit v=_;rw[pB hx,iE fun p hp=>(hpx.2 p hp).1]
  cases hbit:M1.testBit k with
  |true =>
   refine W.sq ?_;simp only[go_sem,m2,m5,lm,s1,s2,hbit];refine W.cond (t:=false) (by simp only[go_sem]) ?_;refine W.vs ?_;simp only[go_sem];refine W.vs ?_;simp only[go_sem,m13,w1];exact⟨V,⟨k+1,M1,rfl,V,hD.met hbit,hB2,hold1,V⟩,by rw[h13];simp only[aa,bf];omega⟩
  |false =>
   refine W.sq ?_;simp only[go_sem,m0,m2,m5,m6,lm,l6,s1,s2,hbit];refine ao.X (Dh x.F v (hpl x (Va hx)) _ _ ⟨trivial,?_⟩);by_cases hv':(v:Int)∈x.F;rotate_left
   ·rw[V1 hv']at par ⊢;simp only[go_sem];refine W.cond (t:=false) (by simp only[go_sem]) ?_;refine W.vs ?_;simp only[go_sem];refine W.vs ?_;simp only[go_sem,m13,w1];exact⟨V,⟨k+1,M1,rfl,V,hD.no par,hB2,hold1,V⟩,by rw[h13];simp only[aa,bf];omega⟩
   rw[VB hv']at par ⊢;simp only[go_sem];refine W.cond (t:=true) (by simp only[go_sem]) ?_;have s3:=fun t x y=>lQ (P:=prog) (t:=t) (x:=x) (y:=y) (k':=.i64) (s:=k) V;have hk2:2 ^ k<2 ^ d.C.length:=Wt ZE V;have s4:=fun t x y=>j5 (P:=prog) (t:=t) (x:=x) (y:=y) M64 (p64 _ hk2);refine W.seq ?_;refine W.dr 3 [0,0,2] mixed ?_;simp only[go_sem,m2,m5,lm,s3,s4];obtain⟨H2,hH2⟩:∃H2,H2=H1.upd (B+1) (.J 0 34 [.lit (.int .u64 ((M1 |||2 ^ k:Nat):Int))]):=⟨_,rfl⟩
   have u1:∀i,i≠B+1->H2.get i=H1.get i:=fun i h=>by rw[hH2,aj,Ve h]
   have n2:H2.A=H1.A:=(by rw[hH2];rfl);have bsl:=hB2.sl;have hB3:Beh d r u s B H2 (M1 |||2 ^ k):=⟨bsl,V,(u1 _ V).trans hB2.gs,(u1 _ V).trans hB2.gb,by rw[hH2,aj,Vf rfl];rfl,(u1 _ V).trans hB2.gw⟩
   have lw3:=ah hB3.gw;rw[<- hH2];clear hH2;have hM0:M.testBit k=false:=by
    cases hb0:M.testBit k with
    |false=>rfl
    |true=>rw[hD.sub k hb0]at hbit;cases hbit
   have hlt:=Po (d:=d) (M:=M) (M':=M1 |||2 ^ k) (w:=k) (fun i hi=>tj.2 (.inl (hD.sub i hi))) V hM0 (tj.2 (.inr rfl));refine W.vs ?_;simp only[go_sem,m3,m5,lw3];refine ao.X (ih (M1 |||2 ^ k) k H2 _ V V (WR hD.lt hk2) hB3 fun H3 M3 hR hB4 kp n3=>⟨trivial,?_⟩);simp only[go_sem];refine W.vs ?_;simp only[go_sem,m13,w1];exact⟨V,⟨k+1,M3,rfl,V,hD.step hok V hv par hR,hB4,fun i h1 h2=>(kp i V h2).trans ((u1 i h2).trans (hold1 i h1 h2)),V⟩,by rw[h13];simp only[aa,bf];omega⟩
def ou (d:ZK)(u:Nat):Nat:=dJ ((List.range d.C.length).filter fun i=>(qU d i).testBit u)
def Dk :(ou d u).testBit i=true↔i<d.C.length/\(qU d i).testBit u=true:=by
 unfold ou;rw[lG,WO,Vp]
def PB (hok:ZP d)(hu:u<d.C.length)(h:DfsR d u 0 M):M=ou d u:=VP fun i=>by
 rw[WC,Dk];rcases VA i d.C.length with hi|hi
 ·rw[Pn hok hu h hi];exact⟨fun h=>⟨hi,h⟩,fun h=>h.2⟩
 ·rw[Wu (Vl h.lt (Vq ZE hi))];exact⟨fun h=>Bool.noConfusion h,fun h=>absurd h.1 V⟩
def PC (hok:ZP d){s:Nat}(hpl:∀x∈d.C,(x.F.length:Int)<2 ^ 62)(hu:u<d.C.length)(H:ZH)(hs:H.get s=some (.J 0 157 (gZ d r u)))(hsl:s<H.A)(K:ZN->ZH->Prop)(hK:K (.ret (aM (ou d u))) H):
  ae prog G0 80 [.O s 0 0] H K:=by
 refine ae.X ⟨_,func80,rfl,rfl⟩ fun hcl=>?_;refine ae.sw (n:=13) (rs:=[.tmp 2]) func80 ?_;refine W.sq ?_;simp only[go_sem];refine W.sq ?_;simp only[go_sem];refine W.sq ?_;simp only[go_sem];refine W.sq ?_;simp only[go_sem];refine⟨⟨rfl,rfl,ZG⟩,?_⟩;obtain⟨H1,hH1⟩:∃H1,H1=ext H [.J 0 101 [.O s 0 0],.J 0 34 [.lit (.int .u64 0)],.J 0 197 [.X 123 [] [.O H.A 0 0,.O (H.A+1) 0 0,.O (H.A+2) 0 0]]]:=⟨_,rfl⟩
 have o1:ZM H H1:=hH1▸.ext _ _
 have n1:H1.A=H.A+3:=hH1▸rfl
 have g0:=dI hH1
 have g1:=gE hH1 1 rfl
 have g2:=gE hH1 2 rfl
 have hB:Beh d r u s H.A H1 0:=⟨hsl,V,(o1.nf s hsl).trans hs,g0,g1,g2⟩
 have l0:=ah g0;have l2:=ah g2;have ls:=ah hB.gs;unfold gZ at ls;have cc:(ZI.X 123 [] [.O H.A 0 0,.O (H.A+1) 0 0,.O (H.A+2) 0 0]).cells=[.X 123 [] [.O H.A 0 0,.O (H.A+1) 0 0,.O (H.A+2) 0 0]]:=rfl;simp only[cc,Wf,List.drop_one,List.tail_cons,List.append_nil];rw[<- hH1];clear hH1;refine W.seq ?_;refine W.dr 5 [0,0,2,6,14] mixed ?_;simp only[go_sem,l0,l2,ls];refine ao.X (Pr hok hpl (tn d 0+1) 0 u H1 _ (Wg _) hu (Xl _) hB fun H2 M hD hB2 kp n2=>⟨trivial,?_⟩);have lm:=ah hB2.gm;have e:=PB hok hu hD;subst e;simp only[go_sem];refine W.vs ?_;simp only[go_sem,lm];refine ak.bB aF hcl ⟨V,fun i h=>(kp i V V).trans (o1.nf i h)⟩ (.lit _) hK
def PD (hok:ZP d)(u:Nat):dV (dV (2 ^ d.C.length-1) d.Y) (ou d u)=bA d u:=VP fun i=>by
 have n8:=hok.n.n1;have h1:2 ^ d.C.length-1<2 ^ 64:=by
  have:=Vq (n:=2) ZE (show d.C.length<=64 by omega);have:=Xl d.C.length;omega
 rw[lP (AL _ _),lP h1,WC,vk,WX];have hb:=Dk (d:=d) (u:=u) (i:=i);rcases VA i d.C.length with hi|hi
 ·rw[VB hi];cases h2:d.Y.testBit i<;>cases h3:(ou d u).testBit i<;>cases h4:(qU d i).testBit u<;>simp_all
 ·rw[V1 V];simp;omega
def vo (hok:ZP d){s:Nat}(hpl:∀x∈d.C,(x.F.length:Int)<2 ^ 62)(hu:u<d.C.length)(H:ZH)(hs:H.get s=some (.J 0 157 (gZ d r u)))(hsl:s<H.A)(K:ZN->ZH->Prop)(hK:K (.ret (aM (bA d u))) H):
  ae prog G0 41 [.O s 0 0] H K:=by
 have n8:=hok.n.n1;have ls:=ah hs;unfold gZ at ls;have p1:=Xl d.C.length;have p2:=Vq (n:=2) ZE (show d.C.length<=8 by omega);have s1:=fun t x y=>lQ (P:=prog) (t:=t) (x:=x) (y:=y) (k':=.i64) (s:=d.C.length) V;have w1:IntKind.u64.wrap ((2 ^ d.C.length:Nat)-1:Int)=((2 ^ d.C.length-1:Nat):Int):=by
  rw[show ((2 ^ d.C.length:Nat):Int)-1=((2 ^ d.C.length-1:Nat):Int) by omega];exact qe (V)
 have s2:=fun t x y=>nK (P:=prog) (t:=t) (x:=x) (y:=y) (a:=2 ^ d.C.length-1) (b:=d.Y);have s3:=fun t x y=>nK (P:=prog) (t:=t) (x:=x) (y:=y) (a:=dV (2 ^ d.C.length-1) d.Y) (b:=ou d u);refine ae.sw (n:=22) (rs:=[.tmp 2]) func41 ?_;refine W.sq ?_;simp only[go_sem];refine W.sq ?_;simp only[go_sem,ls,s1,w1];refine W.seq ?_;refine W.dr 9 [0,0,2,6,14,30,63,0,128] mixed ?_;simp only[go_sem,ls,s2];refine⟨aM (ou d u),[s],bD.mk (fun i hi=>by obtain rfl:=List.mem_singleton.1 hi;exact hsl) fun H2 h2 hn2=>PC hok hpl hu H2 ((h2 s ZD).trans hs) V _ ⟨rfl,rfl⟩,?_⟩;unfold aM;simp only[go_sem,s3,PD hok u];refine W.vs ?_;simp only[go_sem];exact ak.mk ZG hK
end Go.Proofs
namespace Go.Hx
variable {P:Program}
variable {l m:List ZI}{lo:Nat}{e:TypeId}{H:ZH}{u v:ZI}
structure nna (lo:Nat)(H:ZH)(e:TypeId)(v:ZI)(l:List ZI)(u:ZI)(m:List ZI):Prop where
 a:aK lo H e v l
 b:aK lo H e u m
 ne:∀i g n g' n',v=.U i g 0 n 1->u≠.U i g' 0 n' 1
def nna.symm (h:nna lo H e v l u m):nna lo H e u m v l:=⟨h.b,h.a,fun i g n g' n' h1 h2=>h.ne i g' n' g n h2 h1⟩
theorem nna.nil :nna lo H e (.lit (.slice none 0 0)) [] (.lit (.slice none 0 0)) []:=⟨.nil,.nil,fun _ _ _ _ _ h=>(by cases h)⟩
theorem nna.ng {H':ZH}(h:nna lo H e v l u m)(hn:H.A<=H'.A)(hk:∀id,lo<=id->id<H.A->H'.get id=H.get id):nna lo H' e v l u m :=
 ⟨h.a.ng ZG hn fun id _ h1 h2 _ _=>hk id h1 h2,h.b.ng ZG hn fun id _ h1 h2 _ _=>hk id h1 h2,h.ne⟩
def nna.app {n:Nat}{t:TypeId}{x:ZI}{z:List ZI}(ht:P.underlying t=some (.slice e))(hz:P.cellsOf e=1)(hzero:bQ P e=some z)(hx:x.one=true)
  (hb:(l.length+1)*P.bytesOf e<=2 ^ 46/\l.length+1<=2 ^ 46) (h:nna lo H e v l u m) (hlo:lo<=H.A) (hn:n=H.A+1):
  ∃v' H',bU P (ext H [.J 0 e [x]]) n t t v (.U H.A 0 0 1 1)=some (v',H')/\nna lo H' e v' (l++[x]) u m/\H.A<=H'.A/\(∀k,k<lo->H'.get k=H.get k):=by
 have hsrc:de (ext H [.J 0 e [x]]) 1 (.U H.A 0 0 1 1)=some (1,[x]):=by
  unfold de;have:=ah (H:=ext H [.J 0 e [x]]) (g:=0) (eh (b:=.J 0 e [x]));simp[this]
 have hne:(ext H [ZO.J 0 e [x]]).A=H.A+1:=rfl;obtain⟨ha,hbb,hnn⟩:=h;rcases ha with ⟨rfl,rfl⟩|⟨i,g,h1,h2,rfl,h4⟩
 ·have n2:(ext (ext H [.J 0 e [x]]) [.J 0 e [x]]).A=H.A+2:=rfl;have nf:∀k,k<H.A->(ext (ext H [.J 0 e [x]]) [.J 0 e [x]]).get k=H.get k:=fun k hk=>by rw[dA (by rw[hne];omega),dA hk]
  refine⟨.U (H.A+1) 0 0 1 1,ext (ext H [.J 0 e [x]]) [.J 0 e [x]],?_,⟨.inr ⟨H.A+1,0,V,by rw[n2];omega,ZD,?_⟩,hbb.ng ZG (by rw[n2];omega) fun id _ _ hid _ _=>nf id hid,fun i g n g' n' he hu=>?_⟩,by rw[n2];omega,fun k hk=>nf k V⟩
  ·unfold bU;rw[ht];simp only[hzero,hz,Option.bind_some,hsrc];rw[Ve ZE,Vf (by simpa using hb),uU (by rw[hn,hne]),hn];rfl
  ·rw[<- hne];exact eh
  ·have:=(ZI.U.inj he).1;rcases hbb with ⟨rfl,_⟩|⟨j,g2,_,a2,rfl,_⟩
   ·cases hu
   ·have:=(ZI.U.inj hu).1;omega
 ·have h4':(ext H [.J 0 e [x]]).get i=some (.J g e l):=by rw[dA h2];exact h4
  refine⟨.U i (g+1) 0 (l.length+1) 1,(ext H [.J 0 e [x]]).upd i (.J (g+1) e (l++[x])),?_,⟨.inr ⟨i,g+1,h1,by rw[aQ,hne];omega,ZD,by rw[aj,Vf rfl]⟩,hbb.ng ZG (by rw[aQ,hne];omega) fun id g3 _ hid _ hu=>?_,fun i' g' n' g'' n'' he hu=>hnn i g l.length g'' n'' rfl (by rw[hu,(ZI.U.inj he).1])⟩,by rw[aQ,hne];omega,fun k hk=>?_⟩
  ·unfold bU;rw[ht];have hl:=ah h4';simp only[hzero,hz,Option.bind_some,hsrc,hl];rw[Vf ⟨trivial,trivial,V,hb.1,hb.2,by simp[hx]⟩];simp
  ·rw[aj,Ve,dA hid];rintro rfl;exact hnn id g l.length g3 _ rfl hu
  ·rw[aj,Ve V,dA V]
end Go.Hx

namespace Go.Proofs
open Go.Hx Tryz
variable {tot:Int}{vals:List Int}{r:List Nat}{j0 k k0 lo n v:Nat}{I:Nat->Nat->Nat}{α:Type}{H H':ZH}{lvh:ZI}{d:ZK}{D:ZR}
def iX (d:ZK)(vals:List Int):List Int:=(List.range d.C.length).map (jC d vals)
def xe (d:ZK)(vals:List Int):(iX d vals).length=d.C.length:=by simp[iX]
def AG (h:v<d.C.length):(iX d vals)[v]?=some (jC d vals v):=by
 unfold iX;rw[List.getElem?_map,VQ h];rfl
structure RowNo (d:ZK)(x:ZJ)(vals:List Int)(v i:Nat)(r:List Int)(a w:Int):Prop where
 idx:bM (aU d.C x) (aL vals x.F)=i
 row:x.nb[i]?=some r
 val:vals[v]?=some a
 a0:0<=a
 hw:r[a.toNat]?=some w
 wb:0<=w/\w<=60
 eq:jC d vals v=w
 al:a<r.length
def Gh (hok:ZP d){x:ZJ}(hx:d.C[v]?=some x)(hb:¬d.Y.testBit v=true)(hf:cM (aw d.C) vals):∃i r a w,RowNo d x vals v i r a w:=by
 have hx2:=jG (c:=fun _ _=>0) hx;rw[oK hb]at hx2;obtain⟨i,r,a,w,hR⟩:=FI hok.nC hx2 (vals:=vals) (by rw[jX];exact hf);have hi:=hR.idx;rw[rM]at hi;have hg:=hok.nC.g1;have h60:=hR.wb;refine⟨i,r,a,w,hi,hR.row,hR.val,hR.a0,hR.hw,V,?_,hR.al⟩;unfold jC;rw[Ve hb];unfold gh;rw[hx];simp only;unfold jA;rw[hi,Int.toNat_natCast,bJ hR.row,bJ hR.val,bJ hR.hw]
def Gi (hok:ZP d)(hf:cM (aw d.C) vals)(hv:v<d.C.length):0<=jC d vals v/\jC d vals v<=60:=by
 obtain⟨x,hx⟩:=ay hv;by_cases hb:d.Y.testBit v=true
 ·unfold jC;rw[Vf hb];have:=hok.nC.g1;omega
 ·obtain⟨i,r,a,w,hR⟩:=Gh hok hx hb hf;rw[hR.eq];exact hR.wb
def Gj (hok:ZP d)(hf:cM (aw d.C) vals)(k:Nat):0<=aD ((iX d vals).take k)/\aD ((iX d vals).take k)<=167961600000000:=by
 have hb:∀w∈iX d vals,0<=w/\w<=60:=fun w hw=>by
  obtain⟨v,hv,rfl⟩:=Vu.1 hw;exact Gi hok hf (Vp.1 hv)
 have h1:=pF (b:=60) V (l:=(iX d vals).take k) fun x hx=>hb x (VD hx);have h2:=As ((iX d vals).take k).length (by have:=hok.n.n1;rw[Vr,xe];omega);omega
def eE (d:ZK):List Int:=(List.range (cJ d.C)).map fun (i:Nat)=>cO d (wv d i)
def dO (d:ZK):List Int:=(List.range (cJ d.C)).map fun (i:Nat)=>dm d (wv d i)
def Ut (h:k<cJ d.C):(eE d)[k]?=some (cO d (wv d k)):=by unfold eE;rw[List.getElem?_map,VQ h];rfl
def AH (h:k<cJ d.C):(dO d)[k]?=some (dm d (wv d k)):=by unfold dO;rw[List.getElem?_map,VQ h];rfl
def Gk (d:ZK):(eE d).length=cJ d.C:=by simp[eE]
def Gl (d:ZK):(dO d).length=cJ d.C:=by simp[dO]
def AI {ns:List ZJ}{us:List ZV}(hu:∀u∈us,Z8 ns u)(h4:us.length<=4)(vals:List Int):-400<=cZ ns us vals/\cZ ns us vals<=400:=by
 have b:=wM hu h4 vals us.length;rw[Vg ZG]at b;exact b
def Uu (d:ZK)(hok:ZP d)(hD:d.Y<2 ^ 64)(H:ZH)(K:ZN->ZH->Prop)(hK:K (.ret (.nc [af (eE d),af (dO d)])) H):ae prog G0 110 [dh d] H K:=by
 refine ae.X ⟨_,func110,rfl,rfl⟩ fun hcl=>?_;obtain⟨ns,hns⟩:∃ns,ns=d.C:=⟨_,rfl⟩
 have n8:=hok.n.n1;have hcd:=hok.n.L;have hcards:∀c∈aw d.C,1<=c/\c<=4:=fun c hc=>by
  obtain⟨x,hx,rfl⟩:=Vu.1 hc;exact hcd x hx
 have sm:fh (aw d.C):=rP (by rw[eW];omega) hcards;have hp:=fZ fun c hc=>(hcards c hc).1;have hsz:=sm.prod;have hw:((cJ d.C:Nat):Int)=aD (aw d.C):=by unfold cJ;omega
 have hu4:=hok.Z.1;have hus:=hok.Z.2;refine ae.st (n:=105) (rs:=[.cell 2 72,.cell 3 72]) func110 ?_;simp only[go_sem,ij,c9];refine ao.X (FL d.C V _ _ ⟨trivial,?_⟩);simp only[go_sem];refine ao.X (FH (aw d.C) _ _ ⟨trivial,?_⟩);simp only[go_sem];obtain⟨H2,hH2⟩:∃H2,H2=ext (ext H [.J 0 38 (c9 d),.J 0 72 [.lit (.slice none 0 0)],.J 0 72 [.lit (.slice none 0 0)],.J 0 72 [af (aw d.C)]]) [.J 0 72 [af (aw d.C)]]:=⟨_,rfl⟩
 have n2:H2.A=H.A+5:=by rw[hH2];rfl
 have o2:ZM H H2:=by rw[hH2];exact(ZM.ext _ _).trans (.ext _ _)
 have g0:H2.get H.A=some (.J 0 38 (c9 d)):=by rw[hH2,ef];exact bN H _ 0 (ZD)
 have g1:H2.get (H.A+1)=some (.J 0 72 [.lit (.slice none 0 0)]):=by rw[hH2,ef];exact bN H _ 1 (ZD)
 have g2:H2.get (H.A+2)=some (.J 0 72 [.lit (.slice none 0 0)]):=by rw[hH2,ef];exact bN H _ 2 (ZD)
 have g3:H2.get (H.A+3)=some (.J 0 72 [af (aw d.C)]):=by rw[hH2,ef];exact bN H _ 3 (ZD)
 have g4:H2.get (H.A+4)=some (.J 0 72 [af (aw d.C)]):=by rw[hH2,ef];exact bN H _ 4 (ZD)
 refine W.env fun E hE=>?_;have e1:E 1=.O H.A 0 0:=by rw[hE];simp only[go_sem]
 have e2:E 2=.O (H.A+1) 0 0:=by rw[hE];simp only[go_sem]
 have e3:E 3=.O (H.A+2) 0 0:=by rw[hE];simp only[go_sem]
 have e4:E 4=.O (H.A+3) 0 0:=by rw[hE];simp only[go_sem]
 have e20:E 20=.X 176 [] [.O (H.A+4) 0 0]:=by rw[hE];rfl
 clear hE;unfold c9 at hH2;show W _ _ _ _ _ _ ⟨E,ext (ext H [.J 0 38 [.lit (.int .i64 d.nl),.Q d.C.length (aI d.C),.lit (.int .u64 (d.Y:Int)),.Q d.Z.length (bt d.Z)],.J 0 72 [.lit (.slice none 0 0)],.J 0 72 [.lit (.slice none 0 0)],.J 0 72 [af (aw d.C)]]) [.J 0 72 [af (aw d.C)]]⟩;rw[<- hH2];have hit:=FG (aw d.C) (fun c hc=>(hcards c hc).1) sm (H.A+4) (H2.A+1) V;refine W.Gt (f:=176) (first:=[]) (cap:=[.O (H.A+4) 0 0]) (by show E 20=_;exact e20) hit
  (fun k Hx=>H2.A<Hx.A/\(∀id,id<H2.A->id≠H.A+1->id≠H.A+2->Hx.get id=H2.get id)/\∃v u,Hx.get (H.A+1)=some (.J 0 72 [v])/\Hx.get (H.A+2)=some (.J 0 72 [u])/\nna (H2.A+2) Hx 3 v (ints ((eE d).take k)) u (ints ((dO d).take k)))
  (fun _ _=>False)
  (fun k Hx h=>(h.2.1 _ V V V).trans g4)
  (fun k H1 H3 h hw=>⟨by have:=hw.1;omega,fun id h1 h2 h3=>(hw.2 _ V (by have:=h.1;omega)).trans (h.2.1 id h1 h2 h3),by
   obtain⟨v,u,a1,a2,a3⟩:=h.2.2;exact⟨v,u,(hw.2 _ V (by have:=h.1;omega)).trans a1,(hw.2 _ V (by have:=h.1;omega)).trans a2,a3.ng hw.1 fun id h1 h2=>hw.2 id V h2⟩⟩)
  (fun k Hx h=>h.1)
  (fun k H1 b h=>⟨h.1,fun id h1 h2 h3=>by rw[aj,Ve V];exact h.2.1 id h1 h2 h3,by
   obtain⟨v,u,a1,a2,a3⟩:=h.2.2;exact⟨v,u,by rw[aj,Ve V];exact a1,by rw[aj,Ve V];exact a2,a3.ng ZG fun id h1 h2=>by rw[aj,Ve V]⟩⟩)
  (fun _ _ _ h=>h) (fun k H1 b h=>by unfold rO at h ⊢;rw[aj,Ve V];exact h)
  (fun b=>⟨by rw[aX];simp,fun id h1 h2 h3=>dA h1,_,_,by rw[dA V];exact g1,by rw[dA V];exact g2,.nil⟩) (ZE)
  (fun x hx=>by
   obtain⟨k,hk⟩:=Vj.1 hx;obtain⟨_,rfl⟩:=wL hk;rfl) (fun _ _ _=>trivial) (fun _ _ _=>trivial) (fun k y Hx B Bb hy hj hcs hn hB hBb=>?_) (fun Hx hj hn=>?_) (fun _ hs _=>hs.elim) (fun _ _ hs _=>hs.elim)
 ·obtain⟨hk,rfl⟩:=wL hy;refine W.vs ?_;simp only[go_sem,jM,dw,mC,Wi,XA,WY,W6,hB];obtain⟨H3,hH3⟩:∃H3,H3=Hx.upd H2.A Bb:=⟨_,rfl⟩
  rw[<- hH3];obtain⟨st,pd,n',en,ps',as',bo,hBe⟩:=hBb;have n3:H3.A=Hx.A:=by rw[hH3];rfl
  have o3:∀id,id≠H2.A->H3.get id=Hx.get id:=fun id h=>by rw[hH3,aj,Ve h]
  have jB:H3.get H2.A=some Bb:=by rw[hH3,aj,Vf rfl]
  obtain⟨pv,pu,a1,a2,a3⟩:=hj.2.2;have k0:=(o3 _ V).trans ((hj.2.1 H.A V V V).trans g0);have k3:=(o3 _ V).trans ((hj.2.1 (H.A+3) V V V).trans g3);have k1:=(o3 _ V).trans a1;have k2:=(o3 _ V).trans a2;have a4:nna (H2.A+2) H3 3 pv (ints ((eE d).take k)) pu (ints ((dO d).take k)):=a3.ng V fun id h1 h2=>o3 id V;have kN:H3.get (H2.A+1)=some (.J 0 3 (ints (bV (aw d.C) k))):=(o3 _ V).trans hcs;obtain⟨vals,hvals⟩:∃vals,vals=wv d k:=⟨_,rfl⟩
  have hfit:cM (aw d.C) vals:=by rw[hvals];exact tz (fun c hc=>(hcards c hc).1) _
  have kN2:H3.get (H2.A+1)=some (.J 0 3 (ints vals)):=by rw[hvals];exact kN
  have hvl:vals.length=d.C.length:=by rw[hfit.1,eW]
  unfold c9 at k0;refine W.en (fun E1=>E1 1=.O H.A 0 0 /\ E1 2=.O (H.A+1) 0 0 /\ E1 3=.O (H.A+2) 0 0 /\ E1 4=.O (H.A+3) 0 0 /\ E1 6=.U (H2.A+1) 0 0 d.C.length 1) (by simp only[go_sem,dw,e1,e2,e3,e4,eW]) fun E1 ⟨m1,m2,m3,m4,m6⟩=>?_
  have l0:=ah k0;refine W.vs ?_;simp only[go_sem,m1,l0];refine W.aT 576460752236315520 (by rfl) (fun ρ2 H4=>∃v:Nat,ρ2 26=aa v/\v<=d.C.length/\ZM H3 H4/\ρ2 7=aa (aD ((iX d vals).take v))) (fun ρ2 H=>d.C.length-(iv (ρ2 26)).toNat) ?_ ?_
  ·simp only[go_sem];exact⟨0,rfl,V,.refl _,by simp[iM]⟩
  rintro ρ2 H4 ⟨v,h26,hv,o4,h7⟩;refine W.en (fun E2=>E2 1=.O H.A 0 0 /\ E2 2=.O (H.A+1) 0 0 /\ E2 3=.O (H.A+2) 0 0 /\ E2 4=.O (H.A+3) 0 0 /\ E2 6=.U (H2.A+1) 0 0 d.C.length 1 /\ E2 7=aa (aD ((iX d vals).take v)) /\ E2 24=.Q d.C.length (aI d.C) /\ E2 25=aa d.C.length /\ E2 26=aa v) (by simp only[go_sem,m1,m2,m3,m4,m6,h7,h26]) fun E2 ⟨p1,p2,p3,p4,p6,p7,p24,p25,p26⟩=>?_
  have o4n:=o4.A;have q0:=ah ((o4.nf _ V).trans k0);have gN4:=(o4.nf _ V).trans kN2;refine W.vs ?_;by_cases hb:(v:Int)<d.C.length
  ·obtain⟨x,hx⟩:=ay (l:=d.C) (i:=v) V;have hne:=fU hx;have c0:=ox hx;have c1:v*3+3<=(aI d.C).length:=(by rw[kq];omega);have wt:=Gj hok hfit (v+1);rw[bb (AG (d:=d) (vals:=vals) (v:=v) V),jj]at wt;have w1:=Vb ((v:Int)+1) V;obtain⟨H5,hH5⟩:∃H5,H5=ext H4 [.J 0 76 [.lit (.int .i64 x.L),.Q x.F.length (ints x.F),ba x.nb]]:=⟨_,rfl⟩
   have n5:H5.A=H4.A+1:=(by rw[hH5];rfl);have f0:=ah (show H5.get H.A=some (.J 0 38 [.lit (.int .i64 d.nl),.Q d.C.length (aI d.C),.lit (.int .u64 (d.Y:Int)),.Q d.Z.length (bt d.Z)]) by rw[hH5,dc _ _ _ V];exact(o4.nf _ V).trans k0);have f4:=ah (show H5.get H4.A=some (.J 0 76 [.lit (.int .i64 x.L),.Q x.F.length (ints x.F),ba x.nb]) by rw[hH5];exact eh);have gN5:H5.get (H2.A+1)=some (.J 0 3 (ints vals)):=(by rw[hH5,dc _ _ _ V];exact gN4);have fN:=ah gN5;have s1:=fun t x y=>jo (P:=prog) (t:=t) (x:=x) (y:=y) (k':=.i64) (s:=v) hD;have s2:=fun t x y=>oU (P:=prog) (t:=t) (x:=x) (y:=y) (s:=v) hD;cases hbit:d.Y.testBit v
   ·obtain⟨i,r,a,w,hR⟩:=Gh hok hx (by rw[hbit];simp) hfit;obtain⟨a',rfl⟩:=Vk hR.a0;rw[hR.eq]at wt;have hxp:bZ x.F d.C.length:=by
     have:=(hok.nC.node _ (Va (jG (c:=fun _ _=>0) hx))).2;rw[(iP ..).2,ik]at this;exact this
    have hin:iI x.F d.C.length:=fun q hq=>by have:=hxp.2 q hq;omega
    have hpc:bD prog G0 (.X 147 [] []) [.Q d.C.length (aI d.C),.lit (.int .i64 v),.U (H2.A+1) 0 0 d.C.length 1] H5 (.lit (.int .i64 i)) [H2.A+1]:=by
     have:=FJ d.C v x vals hx hin (oM n8.2 hxp hcd) hfit H5 (H2.A+1) d.C.length V gN5 hvl.symm;rw[hR.idx]at this;exact this
    have hri:=hR.row;have hrne:=bd hri;have hrl:(i:Int)<x.nb.length:=(by have:=aP hri;omega);have hva:=hR.val;have hra:r[a']?=some w:=(by have:=hR.hw;rw[Int.toNat_natCast]at this;exact this);have hrane:=bd hra;have hal:=hR.al;have w2:=Vb (aD ((iX d vals).take v)*w) V;simp only[go_sem,p1,p24,p25,p26,hb,hne,c0,c1];rw[<- hH5];simp only[go_sem,f0,s1,s2,hbit];refine W.dr 16 [0,0,2,0,8,0,0,120,254,510,0,0,3072,7168,16382,32766] mixed ?_;simp only[go_sem,p1,p6,p7,f0,f4,ba];refine⟨.lit (.int .i64 i),[H2.A+1],hpc,?_⟩;have hvn:(v:Int)<d.C.length:=hb;simp only[go_sem,p1,p6,p7,p26,fN,hri,hrne,hrl,hra,hrane,hva,hal,hvn,w1,w2];exact⟨V,⟨_,_,_,_,_,_,_,by rw[hH5,dc _ _ _ V,o4.nf _ V,jB,hBe]⟩,⟨v+1,ZD,V,by rw[hH5];exact o4.trans (.ext _ _),by rw[bb (AG (d:=d) (vals:=vals) (v:=v) V),jj,hR.eq]⟩,by rw[h26];simp only[aa,bf];omega⟩
   ·have hg:jC d vals v=d.nl:=Vf hbit;rw[hg]at wt;have w2:=Vb (aD ((iX d vals).take v)*d.nl) V;simp only[go_sem,p1,p24,p25,p26,hb,hne,c0,c1];rw[<- hH5];simp only[go_sem,p1,p7,p26,f0,s1,s2,hbit,w1,w2];exact⟨V,⟨_,_,_,_,_,_,_,by rw[hH5,dc _ _ _ V,o4.nf _ V,jB,hBe]⟩,⟨v+1,ZD,V,by rw[hH5];exact o4.trans (.ext _ _),by rw[bb (AG (d:=d) (vals:=vals) (v:=v) V),jj,hg]⟩,by rw[h26];simp only[aa,bf];omega⟩
  ·rw[Vg (by rw[xe];omega)]at p7;have hgp:aD (iX d vals)=cO d vals:=rfl;rw[hgp]at p7;simp only[go_sem,p25,p26,hb,p1,q0];refine W.aT 9903520309671356180765651968 (by rfl) (fun ρ3 H6=>∃j:Nat,ρ3 62=aa j/\j<=d.Z.length/\ZM H4 H6/\ρ3 10=aa (cZ d.C (d.Z.take j) vals)) (fun ρ3 H=>d.Z.length-(iv (ρ3 62)).toNat) ?_ ?_
   ·simp only[go_sem];exact⟨0,rfl,V,.refl _,by simp[cZ]⟩
   rintro ρ3 H6 ⟨j,h62,hjl,o6,h10⟩;refine W.env fun E3 hE3=>?_;have r2:E3 2=.O (H.A+1) 0 0:=(by rw[hE3];simp only[go_sem,p2]);have r3:E3 3=.O (H.A+2) 0 0:=(by rw[hE3];simp only[go_sem,p3]);have r4:E3 4=.O (H.A+3) 0 0:=(by rw[hE3];simp only[go_sem,p4]);have r6:E3 6=.U (H2.A+1) 0 0 d.C.length 1:=(by rw[hE3];simp only[go_sem,p6]);have r7:E3 7=aa (cO d vals):=(by rw[hE3];simp only[go_sem,p7]);have r10:E3 10=aa (cZ d.C (d.Z.take j) vals):=(by rw[hE3];simp only[go_sem,h10]);have r60:E3 60=.Q d.Z.length (bt d.Z):=(by rw[hE3];simp only[go_sem]);have r61:E3 61=aa d.Z.length:=(by rw[hE3];simp only[go_sem]);have r62:E3 62=aa j:=(by rw[hE3];simp only[go_sem,h62]);clear hE3;have o36:=o4.trans o6;have o6n:=o6.A;have gN6:=(o36.nf _ V).trans kN2;have q3:=(o36.nf _ V).trans k3;refine W.vs ?_;by_cases hb2:(j:Int)<d.Z.length
   ·obtain⟨u,hku⟩:=ay (l:=d.Z) (i:=j) V;have huo:=hus u (Va hku);have hne:=zw hku;have c0:=zu hku;have c1:j*2+2<=(bt d.Z).length:=(by rw[zt];omega);have v8:=huo.vars.len;obtain⟨H7,hH7⟩:∃H7,H7=ext H6 [.J 0 87 [.Q u.vars.length (ints u.vars),.Q u.w.length (ints u.w)]]:=⟨_,rfl⟩
    have n7:H7.A=H6.A+1:=(by rw[hH7];rfl);have l7:=ah (show H7.get H6.A=some (.J 0 87 [.Q u.vars.length (ints u.vars),.Q u.w.length (ints u.w)]) by rw[hH7];exact eh);have l7N:=ah (show H7.get (H2.A+1)=some (.J 0 3 (ints vals)) by rw[hH7,dA V];exact gN6);have l73:=ah (show H7.get (H.A+3)=some (.J 0 72 [af (aw d.C)]) by rw[hH7,dA V];exact q3);have smu:=wK n8.2 huo.vars hcd;have hin:iI u.vars d.C.length:=fun q hq=>by have:=huo.vars.2 q hq;omega
    have fp:cM (aL (aw d.C) u.vars) (aL vals u.vars):=pW (x:=⟨0,u.vars,[]⟩) hin hfit;have pl:(aL (aw d.C) u.vars).length=u.vars.length:=jm _ _;have vl:(aL vals u.vars).length=u.vars.length:=jm _ _;have ft:∀j,cM ((aL (aw d.C) u.vars).take j) ((aL vals u.vars).take j):=fun j=>⟨by simp[pl,vl],fun i c b h1 h2=>by
     rw[YR]at h1 h2;split at h1
     ·rename_i hik;rw[Vf hik]at h2;exact fp.2 i c b h1 h2
     ·cases h1⟩
    have hr:∀j,0<=iD ((aL (aw d.C) u.vars).take j) ((aL vals u.vars).take j)/\iD ((aL (aw d.C) u.vars).take j) ((aL vals u.vars).take j)<68719476737:=fun j=>by
     rw[vD (ft j).1];have a:=oy (ft j);have b:=(smu.take j).prod;omega
    simp only[go_sem,r60,r61,r62,hb2,hne,c0,c1];rw[<- hH7];refine W.aT 38685035931857774884986880 (by rfl) (fun ρ4 H8=>H8=H7/\∃i:Nat,ρ4 69=aa i/\i<=u.vars.length/\ρ4 13=aa (iD ((aL (aw d.C) u.vars).take i) ((aL vals u.vars).take i))) (fun ρ4 H=>u.vars.length-(iv (ρ4 69)).toNat) ?_ ?_
    ·simp only[go_sem];exact⟨0,rfl,V,rfl⟩
    rintro ρ4 H8 ⟨rfl,i,h69,hi,h13⟩;refine W.vs ?_;by_cases hb3:(i:Int)<u.vars.length
    ·obtain⟨q,hq⟩:=ay (l:=u.vars) (i:=i) V;obtain⟨t,rfl,y,hy⟩:=mU (l:=d.C) (hin q (Va hq)).1 (hin q (Va hq)).2;obtain⟨b,hbv⟩:=ay (l:=vals) (i:=t) (by rw[hvl];exact aP hy);have hyb:=hfit.2 t y.L b (cW hy) hbv;have a1:(aL (aw d.C) u.vars)[i]?=some y.L:=(by rw[jY hq,Int.toNat_natCast,bJ (cW hy)]);have a2:(aL vals u.vars)[i]?=some b:=(by rw[jY hq,Int.toNat_natCast,bJ hbv]);have hne2:=bd hq;have hne3:=bd hbv;have hyc:=cW hy;have hne4:=bd hyc;have ht:(t:Int)<d.C.length:=(by have:=aP hy;omega);have htc:(t:Int)<(aw d.C).length:=(by rw[eW];omega);have ht2:(t:Int)<vals.length:=V;have w1:=Vb ((i:Int)+1) V;have r1:=hr (i+1);rw[vE a1 a2]at r1;have r0:=hr i;have m0:0<=iD ((aL (aw d.C) u.vars).take i) ((aL vals u.vars).take i)*y.L:=W3 r0.1 (by have:=hcd y (Va hy);omega);have w2:=Vb (iD ((aL (aw d.C) u.vars).take i) ((aL vals u.vars).take i)*y.L) V;have w3:=Vb (iD ((aL (aw d.C) u.vars).take i) ((aL vals u.vars).take i)*y.L+b) V;simp only[go_sem,h69,hb3,hq,hne2];refine W.dr 10 [0,0,0,6,14,31,0,0,192,448] mixed ?_;simp only[go_sem,h69,h13,r4,r6,l73,l7N,hne4,ht,htc,hbv,hyc,w1,w2,w3];exact⟨⟨_,_,_,_,_,_,_,by rw[hH7,dA V,o36.nf _ V,jB,hBe]⟩,⟨i+1,ZD,V,by rw[vE a1 a2]⟩,V⟩
    ·rw[Vg V,Vg V,vD (by rw[pl,vl])]at h13;have hx:=oy fp;obtain⟨ix,hix⟩:=Vk hx.1;have hsz2:=huo.size;obtain⟨w,hw'⟩:=ay (l:=u.w) (i:=ix) V;have hwne:=bd hw';have hwl:(ix:Int)<u.w.length:=(by have:=aP hw';omega);have eu:oA d.C vals u=w:=(by unfold oA;rw[hix,Int.toNat_natCast,bJ hw']);have us1:cZ d.C (d.Z.take (j+1)) vals=cZ d.C (d.Z.take j) vals+w:=(by rw[bb hku];unfold cZ;simp[eu]);have b1:=wM hus hu4 vals j;have b2:=wM hus hu4 vals (j+1);rw[us1]at b2;have w1:=Vb ((j:Int)+1) V;have w2:=Vb (cZ d.C (d.Z.take j) vals+w) V;rw[hix]at h13;simp only[go_sem,h69,h13,r10,r62,l7,hb3,hw',hwne,hwl,w1,w2];exact⟨V,⟨_,_,_,_,_,_,_,by rw[hH7,dA V,o36.nf _ V,jB,hBe]⟩,⟨j+1,ZD,V,by rw[hH7];exact o6.trans (.ext _ _),by rw[us1]⟩,by rw[h62];simp only[aa,bf];omega⟩
   ·rw[Vg V]at r10;have hkw:k<cJ d.C:=hk;have bu:=AI hus hu4 vals;have bg:=Gj hok hfit d.C.length;rw[Vg (by rw[xe];omega),hgp]at bg;have m1:-67184640000000000<=cO d vals*cZ d.C d.Z vals/\cO d vals*cZ d.C d.Z vals<=67184640000000000:=by
     constructor
     ·have h1:cO d vals*(-400)<=cO d vals*cZ d.C d.Z vals:=VV bu.1 bg.1;omega
     ·have h1:cO d vals*cZ d.C d.Z vals<=cO d vals*400:=VV bu.2 bg.1;omega
    have w2:=Vb (cO d vals*cZ d.C d.Z vals) V;have hl1:((eE d).take k).length=k:=(by rw[Vr,Gk];omega);have hl2:((dO d).take k).length=k:=(by rw[Vr,Gl];omega);have hw40:cJ d.C<=2 ^ 40:=V;have a6:nna (H2.A+2) H6 3 pv (ints ((eE d).take k)) pu (ints ((dO d).take k)):=a4.ng o36.A fun id h1 h2=>o36.nf id h2;obtain⟨pv',H7,hA1,hO1,hn7,hp7⟩:=a6.app (P:=prog) (t:=72) (x:=aa (cO d vals)) (n:=H6.A+1) Tryz.underlying72 Tryz.fR Tryz.fD rfl (by rw[Tryz.gM,bE,hl1];omega) V rfl;simp only[aa]at hA1;have l61:=ah ((o36.nf _ V).trans k1);have l61e:∀L,(ext H6 L).na (H.A+1) 0=some (72,[pv]):=fun L=>(eF V).trans l61;have l71:=ah ((hp7 (H.A+1) V).trans ((o36.nf _ V).trans k1));obtain⟨H8,hH8⟩:∃H8,H8=H7.upd (H.A+1) (.J 0 72 [pv']):=⟨_,rfl⟩
    have n8':H8.A=H7.A:=(by rw[hH8];rfl);have o8:∀id,id≠H.A+1->H8.get id=H7.get id:=fun id h=>by rw[hH8,aj,Ve h]
    have a8:nna (H2.A+2) H8 3 pv' (ints ((eE d).take k)++[aa (cO d vals)]) pu (ints ((dO d).take k)):=hO1.ng V fun id h1 h2=>o8 id V;obtain⟨pu',H9,hA2,hO2,hn9,hp9⟩:=a8.symm.app (P:=prog) (t:=72) (x:=aa (cO d vals*cZ d.C d.Z vals)) (n:=H8.A+1) Tryz.underlying72 Tryz.fR Tryz.fD rfl (by rw[Tryz.gM,bE,hl2];omega) V rfl;simp only[aa]at hA2;have l82:=ah ((o8 (H.A+2) V).trans ((hp7 (H.A+2) V).trans ((o36.nf _ V).trans k2)));have l82e:∀L,(ext H8 L).na (H.A+2) 0=some (72,[pu]):=fun L=>(eF V).trans l82;have l92:=ah ((hp9 (H.A+2) V).trans ((o8 (H.A+2) V).trans ((hp7 (H.A+2) V).trans ((o36.nf _ V).trans k2))));have one1:=hO1.a.one;have cel1:=hO1.a.cells;have one2:=hO2.a.one;have cel2:=hO2.a.cells;have pc1:=a6.a.cells;have pc2:=a6.b.cells;simp only[go_sem,r2,r3,r7,r61,r62,hb2,l61,l71,hA1,one1,cel1];rw[<- hH8];simp only[go_sem,r3,r7,r10,l82,l92,hA2,one2,cel2,w2,im];have hget:∀id,id<H2.A+2->id≠H.A+1->id≠H.A+2->(H9.upd (H.A+2) (.J 0 72 [pu'])).get id=H3.get id:=fun id h1 h2 h3=>by
     rw[aj,Ve h3,hp9 id h1,o8 id h2,hp7 id h1,o36.nf id V]
    have ew:ints ((eE d).take (k+1))=ints ((eE d).take k)++[aa (cO d vals)]:=(by rw[bb (Ut hkw),hvals];simp[ints,aa]);have eg:ints ((dO d).take (k+1))=ints ((dO d).take k)++[aa (cO d vals*cZ d.C d.Z vals)]:=(by rw[bb (AH hkw),hvals];simp[ints,aa,dm]);refine⟨by rw[hget _ V V V];exact jB,by rw[aQ];omega,⟨by rw[aQ];omega,fun id h1 h2 h3=>by rw[hget id V h2 h3,o3 _ V];exact hj.2.1 id h1 h2 h3,pv',pu',?_,by rw[aj,Vf rfl],?_⟩,?_⟩
    ·rw[aj,Ve V,hp9 _ V,hH8,aj,Vf rfl]
    ·rw[ew,eg];exact hO2.symm.ng (by rw[aQ];exact Nat.le_refl _) fun id h1 h2=>by rw[aj,Ve V]
    ·unfold rO;rw[hget _ V V V];exact kN
 ·obtain⟨v,u,a1,a2,a3⟩:=hj.2.2;rw[Ar]at a3;rw[Vg (by rw[Gk];exact Nat.le_refl _),Vg (by rw[Gl];exact Nat.le_refl _)]at a3;have l1:=ah a1;have l2:=ah a2;have c1:=a3.a.cells;have c2:=a3.b.cells;have ovx:ZM H Hx:=⟨V,fun id hi=>(hj.2.1 id V V V).trans (o2.nf id hi)⟩
  simp only[go_sem];refine W.dr 3 [0,0,1] mixed ?_;have on1:=a3.a.one;have on2:=a3.b.one;have l2u:∀b,(Hx.upd (H.A+1) b).na (H.A+2) 0=some (72,[u]):=fun b=>(lS V).trans l2;have l1u:∀b,((Hx.upd (H.A+1) (.J 0 72 [v])).upd (H.A+2) b).na (H.A+1) 0=some (72,[v]):=fun b=>(lS V).trans Gp;have hne12:∀x:Nat,x=H.A+1->¬x=H.A+2:=fun x h=>V
  simp only[go_sem,e2,e3,l1,l2,c1,c2,on1,on2,l2u,l1u];refine⟨hne12,?_⟩;have a5:nna (H2.A+2) ((Hx.upd (H.A+1) (.J 0 72 [v])).upd (H.A+2) (.J 0 72 [u])) 3 v (ints (eE d)) u (ints (dO d)):=a3.ng (by rw[aQ,aQ];exact Nat.le_refl _) fun id h1 _=>by rw[aj,Ve V,aj,Ve V]
  refine ak.bB aF hcl ((ovx.upd V _).upd V _) ?_ hK;exact .nc rfl fun i hi _=>match i,hi with
   |0,_=>a5.a.iB fun i hi=>by show H.A<=i;omega
   |1,_=>a5.b.iB fun i hi=>by show H.A<=i;omega
def gH (l:List Bool):List ZI:=l.map fun b=>.lit (.bool b)
def FW (l:List Bool):(gH l).length=l.length:=by simp[gH]
def Tx (l:List Bool)(i:Nat):(gH l)[i]?=(l[i]?).map fun b=>.lit (.bool b):=by simp[gH]
def Ty {l:List Bool}{i:Nat}{b:Bool}(h:i<l.length):setAt (gH l) i [.lit (.bool b)]=gH (l.set i b):=by
 rw[iY (by rw[FW];omega)];simp[gH,X9]
structure ZT where
 ab:Nat->List Int
 oc:Nat->List Bool
 ex:Nat->List Int
 be:Nat->List Int
 ch:Nat->List Int
def dN (T:ZT)(k:Nat):Nat->ZO
 |1=>.J 0 3 (ints (T.ab k))
 |2=>.J 0 4 (gH (T.oc k))
 |3=>.J 0 3 (ints (T.ex k))
 |4=>.J 0 3 (ints (T.be k))
 |_=>.J 0 3 (ints (T.ch k))
def mz (D:ZR)(r:List Nat)(I:Nat->Nat->Nat)(k:Nat):List ZI :=
 [.lit (.int .i64 (r.getD k 0:Nat)),.lit (.int .i64 (D.cd k:Nat)),.U (I k 1) 0 0 (D.cs k) 1,.U (I k 2) 0 0 (D.cs k) 1,.U (I k 3) 0 0 (D.cs k*D.cd k) 1,.U (I k 4) 0 0 (D.cs k) 1,.U (I k 5) 0 0 (D.cs k) 1]
def lJ (I:Nat->Nat->Nat)(n:Nat):List ZI:=(List.range n).map fun k=>.O (I k 0) 0 0
def pZ (I:Nat->Nat->Nat)(n:Nat):(lJ I n).length=n:=by simp[lJ]
def Ay (h:k<n):(lJ I n)[k]?=some (.O (I k 0) 0 0):=by unfold lJ;rw[List.getElem?_map,VQ h];rfl
structure ZT.Len (D:ZR)(n:Nat)(T:ZT):Prop where
 ab:∀k,k<n->(T.ab k).length=D.cs k
 oc:∀k,k<n->(T.oc k).length=D.cs k
 ex:∀k,k<n->(T.ex k).length=D.cs k*D.cd k
 be:∀k,k<n->(T.be k).length=D.cs k
 ch:∀k,k<n->(T.ch k).length=D.cs k
structure nni (D:ZR)(r:List Nat)(lo n:Nat)(I:Nat->Nat->Nat)(T:ZT)(H:ZH):Prop where
 inj:∀k j k' j',k<n->k'<n->j<6->j'<6->I k j=I k' j'->k=k'/\j=j'
 np:∀k j,k<n->j<6->lo<=I k j/\I k j<H.A
 nJ:∀k,k<n->H.get (I k 0)=some (.J 0 191 (mz D r I k))
 nG:∀k j,k<n->1<=j->j<6->H.get (I k j)=some (dN T k j)
 len:T.Len D n
variable {T:ZT}
def nni.ng (h:nni D r lo n I T H)(hn:H.A<=H'.A)(hk:∀k j,k<n->j<6->H'.get (I k j)=H.get (I k j)):nni D r lo n I T H' :=
 ⟨h.inj,fun k j h1 h2=>by have:=h.np k j h1 h2;omega,fun k h1=>by rw[hk k 0 h1 V];exact h.nJ k h1,fun k j h1 h2 h3=>by rw[hk k j h1 h3];exact h.nG k j h1 h2 h3,h.len⟩
variable {T':ZT}
def nni.upd (h:nni D r lo n I T H)(hk:k0<n)(hj1:1<=j0)(hj:j0<6)(hn:H'.A=H.A)(ho:∀i,i≠I k0 j0->H'.get i=H.get i)(hb:H'.get (I k0 j0)=some (dN T' k0 j0))
  (hT:∀k j,k<n->1<=j->j<6->¬(k=k0/\j=j0)->dN T' k j=dN T k j) (hl:T'.Len D n):nni D r lo n I T' H':=by
 have key:∀k j,k<n->j<6->¬(k=k0/\j=j0)->H'.get (I k j)=H.get (I k j):=fun k j h1 h2 h3=>ho _ fun e=>h3 (h.inj k j k0 j0 h1 hk h2 hj e);refine⟨h.inj,fun k j h1 h2=>by rw[hn];exact h.np k j h1 h2,fun k h1=>by rw[key k 0 h1 V V];exact h.nJ k h1,fun k j h1 h2 h3=>?_,hl⟩;by_cases e:k=k0/\j=j0
 ·obtain⟨rfl,rfl⟩:=e;exact hb
 ·rw[key k j h1 h3 e,hT k j h1 h2 h3 e];exact h.nG k j h1 h2 h3
def fG (f:Nat->α)(k0:Nat)(a:α):Nat->α:=fun k=>if k=k0 then a else f k
def lK (f:Nat->α)(k0:Nat)(a:α):fG f k0 a k0=a:=Vf rfl
def lL {f:Nat->α}{a:α}(h:k≠k0):fG f k0 a k=f k:=Ve h
def nni.Tz (h:nni D r lo n I T H)(hk:k0<n)(hj1:1<=j0)(hj:j0<6)
  (hT:∀k j,k<n->1<=j->j<6->¬(k=k0/\j=j0)->dN T' k j=dN T k j) (hl:T'.Len D n):nni D r lo n I T' (H.upd (I k0 j0) (dN T' k0 j0)) :=
 h.upd hk hj1 hj (aQ ..) (fun i hi=>by rw[aj,Ve hi]) (by rw[aj,Vf rfl]) hT hl
structure ZU (d:ZK)(r:List Nat)(lo s:Nat)(lvh:ZI)(I:Nat->Nat->Nat)(T:ZT)(tot:Int)(H:ZH):Prop where
 top:H.get s=some (.J 0 184 [.lit (.int .i64 d.nl),.Q d.C.length (aI d.C),.lit (.int .u64 (d.Y:Int)),.Q d.Z.length (bt d.Z),lvh,af (eE d),af (dO d),.lit (.int .i64 tot)])
 nI:lo<=s/\s<H.A
 lv:aK lo H 187 lvh (lJ I r.length)
 sep:∀k j,k<r.length->j<6->s≠I k j
 nK:∀id g n,lvh=.U id g 0 n 1->id≠s/\∀k j,k<r.length->j<6->id≠I k j
 nj:nni (az d r) r lo r.length I T H
theorem ZU.ng {s:Nat}(h:ZU d r lo s lvh I T tot H)(hn:H.A<=H'.A)(hk:∀i,lo<=i->i<H.A->H'.get i=H.get i):ZU d r lo s lvh I T tot H' :=
 ⟨by rw[hk s h.nI.1 h.nI.2];exact h.top,by have:=h.nI;omega,h.lv.ng ZG hn fun i g h1 h2 _ _=>hk i h1 h2,h.sep,h.nK,h.nj.ng hn fun k j h1 h2=>by have:=h.nj.np k j h1 h2;exact hk _ this.1 this.2⟩
theorem ZU.upd {s:Nat}(h:ZU d r lo s lvh I T tot H)(hk:k0<r.length)(hj1:1<=j0)(hj:j0<6)
  (hT:∀k j,k<r.length->1<=j->j<6->¬(k=k0/\j=j0)->dN T' k j=dN T k j) (hl:T'.Len (az d r) r.length):ZU d r lo s lvh I T' tot (H.upd (I k0 j0) (dN T' k0 j0)) :=
 ⟨by rw[aj,Ve (h.sep k0 j0 hk hj)];exact h.top,by rw[aQ];exact h.nI,h.lv.ng ZG (by rw[aQ];exact Nat.le_refl _) fun i g h1 h2 _ hv=>by rw[aj,Ve ((h.nK _ _ _ hv).2 k0 j0 hk hj)],h.sep,h.nK,h.nj.Tz hk hj1 hj hT hl⟩
def ZU.FX {s:Nat}{tot':Int}(h:ZU d r lo s lvh I T tot H):ZU d r lo s lvh I T tot' (H.upd s (.J 0 184 [.lit (.int .i64 d.nl),.Q d.C.length (aI d.C),.lit (.int .u64 (d.Y:Int)),.Q d.Z.length (bt d.Z),lvh,af (eE d),af (dO d),.lit (.int .i64 tot')])) :=
 ⟨by rw[aj,Vf rfl],by rw[aQ];exact h.nI,h.lv.ng ZG (by rw[aQ];exact Nat.le_refl _) fun i g h1 h2 _ hv=>by rw[aj,Ve (h.nK _ _ _ hv).1],h.sep,h.nK,h.nj.ng (by rw[aQ];exact Nat.le_refl _) fun k j h1 h2=>by rw[aj,Ve fun e=>h.sep k j h1 h2 e.symm]⟩
def ZU.Az {s:Nat}(h:ZU d r lo s lvh I T tot H)(hk:k<r.length):∃id g,lvh=.U id g 0 r.length 1/\H.get id=some (.J g 187 (lJ I r.length))/\lo<=id/\id<H.A:=by
 rcases h.lv with ⟨_,h2⟩|⟨id,g,h1,h2,h3,h4⟩
 ·have:=congrArg List.length h2;rw[pZ,List.length_nil]at this;omega
 ·exact⟨id,g,by rw[h3,pZ],h4,h1,h2⟩
def rS (cd c:Nat)(ex be ch:List Int)(bad:List Bool):Bool:=(List.range cd).any fun x=>decide (ex.getD (c*cd+x) 0=be.getD c 0) && !bad.getD (c*cd+x) false && (decide (ch.getD c 0=-1) ||decide (ch.getD c 0=(x:Int)))
end Go.Proofs
namespace Go.Hx
variable {P:Program} {G:Nat->Option (List ZI)}
variable {n ob:Nat}{e:TypeId}{b:ZO}
def ZH.jP (H:ZH)(n ob:Nat)(b:ZO):ZH:=⟨fun id=>if id=ob then some b else if n<=id then none else H.get id,H.A⟩
variable {H:ZH}
def Ce :(H.jP n ob b).get ob=some b:=by simp[ZH.jP]
def MC {id:Nat}(h:id<n)(h2:id≠ob):(H.jP n ob b).get id=H.get id:=by simp[ZH.jP,Nat.not_le.2 h,h2]
def MD (hc:Clo H){g:Nat}{cells cells':List ZI}(hob:H.get ob=some (.J g e cells))(hl:cells'.length=cells.length)
  (hcell:∀i (h:i<cells.length) (h':i<cells'.length),Fz (fun id=>n<=id/\id≠ob) H H.A cells[i] cells'[i]):FzH (fun id=>n<=id/\id≠ob) H (H.jP n ob (.J g e cells')) where
 gone id hs:=by simp[ZH.jP,hs.1,hs.2]
 kept id b hs hb:=by
  have hbb:=hc.below id b hb;refine⟨hc.lt id b hb,?_⟩;by_cases h:id=ob
  ·subst h;rw[hob]at hb;cases hb;exact⟨.J g e cells',Ce,rfl,rfl,hl,hcell⟩
  ·have hn:¬n<=id:=fun hn=>hs ⟨hn,h⟩;refine⟨b,by simp[ZH.jP,h,hn,hb],?_⟩;cases b with
   |nq=>trivial
   |mp=>rfl
   |J g e cells=>exact⟨rfl,rfl,rfl,fun i h _=>.dead (hbb i h)⟩
   |loop st pend n env ps asg body=>exact⟨rfl,rfl,rfl,rfl,rfl,rfl,rfl,fun t ht=>.dead (hbb t ht)⟩
 none id hs hb:=by
  by_cases h:id=ob
  ·subst h;rw[hob]at hb;cases hb
  ·have hn:¬n<=id:=fun hn=>hs ⟨hn,h⟩;simp[ZH.jP,h,hn,hb]
theorem eZ.jP (hG:fB G){s:St}{g:Nat}{cells cells':List ZI}(hob:s.H.get ob=some (.J g e cells))(hl:cells'.length=cells.length)
  (hcell:(∀c∈cells,Below s.H.A c)->∀i (h:i<cells.length) (h':i<cells'.length),Fz (fun id=>n<=id/\id≠ob) s.H s.H.A cells[i] cells'[i]):eZ P G s ⟨s.ρ,s.H.jP n ob (.J g e cells')⟩:=by
 intro n' wb Γ a w hs;exact eZ.freeze (s:=s) (s':=⟨s.ρ,s.H.jP n ob (.J g e cells')⟩) hG (MD hs.heap.X hob hl (hcell fun c hc=>by
  obtain⟨i,hi,rfl⟩:=Zp.1 hc;exact hs.heap.X.below ob _ hob i hi)) (fun t=>.dead (hs.env t).sO) n' wb Γ a w hs
def Z7.ne {lo:Nat}{e1 e0:TypeId}{v:ZI}{ids:List Nat}{nb:List (List ZI)}(h:Z7 lo H e1 e0 v ids nb){k g':Nat}{c:List ZI}(hk:H.get k=some (.J g' e c))(he:e≠e1):∀g n,v≠.U k g 0 n 1:=fun g n hv=>by
 rcases h.top with ⟨h1,_⟩|⟨i,g2,_,_,h1,h2⟩
 ·rw[h1]at hv;cases hv
 ·rw[h1]at hv;obtain rfl:=(ZI.U.inj hv).1;rw[hk]at h2;cases h2;exact he rfl
def W.sX {rd:Option Nat}{Q:AX->St->Prop}{s:St}{x y:Code}(Φ:St->Prop)(h:W P G n rd x (fun ax s'=>ax=.normal/\Φ s') s)(h2:∀s',Φ s'->W P G n rd y Q s'):W P G n rd (.seq x y) Q s :=
 W.seq (h.mono fun ax s' ⟨e,hp⟩=>by subst e;exact h2 s' hp)
def eZ.same {s:St}:eZ P G s s:=by
 intro n wb Γ a w hs;exact⟨Γ,hs,.refl _ _ _,fun _ _ h _=>h⟩
end Go.Hx
namespace Go.Proofs
open Go.Hx Tryz
variable {ids:List Nat}{lo:Nat}{H H':ZH}{pv rv:ZI}{x:ZJ}
structure nno (lo:Nat)(H:ZH)(pv rv:ZI)(ids:List Nat)(x:ZJ):Prop where
 par:aK lo H 3 pv (ints x.F)
 nb:Z7 lo H 72 3 rv ids (x.nb.map ints)
 dj:∀id g n,pv=.U id g 0 n 1->id ∉ ids
 nil:x.nb=[]->rv=.lit (.slice none 0 0)
theorem nno.ng (h:nno lo H pv rv ids x)(hn:H.A<=H'.A)(hk:∀id,lo<=id->id<H.A->H'.get id=H.get id):nno lo H' pv rv ids x :=
 ⟨h.par.ng ZG hn fun id _ h1 h2 _ _=>hk id h1 h2,h.nb.ng hn hk,h.dj,h.nil⟩
def nno.over (h:nno lo H pv rv ids x)(o:ZM H H'):nno lo H' pv rv ids x:=h.ng o.A fun id _ h2=>o.nf id h2
def nno.low {lo':Nat}(h:nno lo H pv rv ids x)(hl:lo'<=lo):nno lo' H pv rv ids x :=
 ⟨h.par.ng hl ZG fun _ _ _ _ _ _=>rfl,⟨h.nb.len,h.nb.nd,fun i hi=>⟨by have:=(h.nb.np i hi).1;omega,(h.nb.np i hi).2⟩,h.nb.top.ng hl ZG fun _ _ _ _ _ _=>rfl,h.nb.row⟩,h.dj,h.nil⟩
def kJ {α:Type}{l:List α}{i:Nat}{a z:α}(h:l[i]?=some a):l.getD i z=a:=by rw[Vh,h];rfl
end Go.Proofs
