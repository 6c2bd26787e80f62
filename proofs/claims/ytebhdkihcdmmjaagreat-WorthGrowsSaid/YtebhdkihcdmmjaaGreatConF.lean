/- Own work: contracts. -/
import Derived.Test.YtebhdkihcdmmjaaGreatConE
import Derived.Test.YtebhdkihcdmmjaaGreatConD
import Derived.Test.YtebhdkihcdmmjaaGreatConB
import Derived.Test.YtebhdkihcdmmjaaGreatConA
set_option linter.all false
set_option maxHeartbeats 8000000
set_option maxRecDepth 100000
namespace Go.Proofs
open Go.Hx Tryz
variable {ch:Ch}{p:List (List Int)}{l:List Int}{r:List Nat}{M M' S S' a c i k n u v w:Nat}{t:ZF}{x:Zp}{d d':Zq}{D:Zx}
def jE (f:Nat->Bool):Nat->Nat->Nat
 |0,x=>x
 |n+1,x=>if f x=true then x else jE f n (x+1)
def Sk (f:Nat->Bool):∀n x,x<=jE f n x/\jE f n x<=x+n/\(∀y,x<=y->y<jE f n x->f y=false)/\(jE f n x<x+n->f (jE f n x)=true):=by
 intro n
 induction n with
 |zero=>intro x;exact⟨Zm,Zm,fun y h1 h2=>by unfold jE at h2;omega,fun h=>by unfold jE at h;omega⟩
 |succ n ih =>
  intro x;unfold jE;by_cases h:f x=true
  ·rw[UX h];exact⟨Zm,V,fun y h1 h2=>V,fun _=>h⟩
  ·rw[UW h];obtain⟨a,b,c,e⟩:=ih (x+1);refine⟨V,V,fun y h1 h2=>?_,fun h2=>e V⟩;by_cases hy:y=x
   ·subst hy;simpa using h
   ·exact c y V h2
def kG (ch:Ch)(k c x:Nat):Ch:=fun k' c'=>if k'=k/\c'=c then some x else ch k' c'
def np (ch:Ch)(k c x:Nat):kG ch k c x k c=some x:=UX ⟨rfl,rfl⟩
def nr {x k' c':Nat}(h:¬(k'=k/\c'=c)):kG ch k c x k' c'=ch k' c':=UW h
noncomputable def iR (D:Zx)(t:ZF)(ch:Ch)(k c:Nat):Nat:=jE (fun x=>nC (jW D t (kG ch k c x))) (D.cd k-1) 0
noncomputable def rF (D:Zx)(t:ZF)(ch:Ch)(kc:Nat × Nat):Ch:=kG ch kc.1 kc.2 (iR D t ch kc.1 kc.2)
noncomputable def oD (D:Zx)(t:ZF)(pos:List (Nat × Nat)):Ch:=pos.foldl (rF D t) fun _ _=>none
def Fa (D:Zx)(t:ZF)(pos:List (Nat × Nat))(a:Nat × Nat):oD D t (pos++[a])=rF D t (oD D t pos) a:=by unfold oD;rw[V5];rfl
def nt (D:Zx)(ch:Ch):Prop:=∀k c y,k<D.K->c<D.cs k->ch k c=some y->y<D.cd k
def rG (D:Zx)(t:ZF)(q:dm):Prop:=q.Ok D/\D.total q=t.T
def Sl (hD:D.Ok)(ht:t.Ok D)(hc:nt D ch)(hf:jW D t ch)(hk:k<D.K)(hcc:c<D.cs k)(ho:ch k c=none):
  iR D t ch k c<D.cd k/\nt D (rF D t ch (k,c))/\jW D t (rF D t ch (k,c))/\∀q:dm,rG D t q->nj D ch q->iR D t ch k c<=q k c:=by
 have hset:∀x,x<D.cd k->nt D (kG ch k c x):=fun x hx k' c' y h1 h2 h3=>by
  by_cases h:k'=k/\c'=c
  ·obtain⟨rfl,rfl⟩:=h;rw[np]at h3;cases h3;exact hx
  ·rw[nr h]at h3;exact hc k' c' y h1 h2 h3
 have hag:∀q:dm,nj D ch q->nj D (kG ch k c (q k c)) q:=fun q hq k' c' y h1 h2 h3=>by
  by_cases h:k'=k/\c'=c
  ·obtain⟨rfl,rfl⟩:=h;rw[np]at h3;cases h3;rfl
  ·rw[nr h]at h3;exact hq k' c' y h1 h2 h3
 have hfe:∀q:dm,rG D t q->nj D ch q->jW D t (kG ch k c (q k c)):=fun q hq ha=>(tD hD ht (hset _ (hq.1 k c hk hcc))).2 ⟨q,hq.1,hag q ha,hq.2⟩;have h1:=hD.cd k hk;obtain⟨_,a2,a3,a4⟩:=Sk (fun x=>nC (jW D t (kG ch k c x))) (D.cd k-1) 0;have hx:iR D t ch k c<D.cd k:=by unfold iR;omega
 have hle:∀q,rG D t q->nj D ch q->iR D t ch k c<=q k c:=fun q hq ha=>by
  refine Ya fun hlt=>?_;have:=a3 (q k c) (Wo _) hlt;rw[tI.2 (hfe q hq ha)]at this;cases this
 refine⟨hx,hset _ hx,?_,hle⟩;show jW D t (kG ch k c (iR D t ch k c));by_cases hlt:iR D t ch k c<0+(D.cd k-1)
 ·exact tI.1 (a4 hlt)
 ·obtain⟨q,q1,q2,q3⟩:=(tD hD ht hc).1 hf;have h2:=hle q ⟨q1,q3⟩ q2;have h3:=q1 k c hk hcc;have:q k c=iR D t ch k c:=V
  rw[<- this];exact hfe q ⟨q1,q3⟩ q2
structure Chosen (D:Zx)(t:ZF)(pos:List (Nat × Nat))(ch:Ch):Prop where
 nq:nt D ch
 fe:jW D t ch
 made:∀k c,(k,c)∈pos->∃y,ch k c=some y
 opn:∀k c,(k,c) ∉ pos->ch k c=none
 lex:∀q:dm,rG D t q->nj D ch q\/∃(j k c y:Nat),pos[j]?=some (k,c)/\ch k c=some y/\y<q k c/\∀(i k' c' y':Nat),i<j->pos[i]?=some (k',c')->ch k' c'=some y'->y'=q k' c'
def Fb (hD:D.Ok)(ht:t.Ok D):∀(n:Nat) (pos:List (Nat × Nat)),pos.length=n->pos.Nodup->(∀p∈pos,p.1<D.K/\p.2<D.cs p.1)->Chosen D t pos (oD D t pos):=by
 intro n
 induction n with
 |zero =>
  intro pos hl _ _;obtain rfl:=U5 hl;exact⟨fun k c y _ _ h=>(by cases h),R7 hD ht,fun k c h=>(by cases h),fun _ _ _=>rfl,fun q _=>.inl fun k c y _ _ h=>(by cases h)⟩
 |succ n ih =>
  intro pos hl hnd hr;obtain⟨qs,⟨k,c⟩,rfl⟩:∃qs a,pos=qs++[a]:=by
   rcases XN pos with h|⟨qs,a,h⟩
   ·rw[h]at hl;cases hl
   ·exact⟨qs,a,by rw[h,XO]⟩
  rw[List.length_append,VX]at hl;obtain⟨nd1,_,nd2⟩:=W8.1 hnd;have hk:=hr (k,c) Zj;have hI:=ih qs V nd1 fun p hp=>hr p (by simp[hp]);have hnin:(k,c) ∉ qs:=fun h=>nd2 _ h _ Zj rfl;obtain⟨s1,s2,s3,s4⟩:=Sl hD ht hI.nq hI.fe hk.1 hk.2 (hI.opn k c hnin);rw[Fa];generalize oD D t qs=ch at *
  have self:rF D t ch (k,c) k c=some (iR D t ch k c):=np ..;have other:∀k' c',¬(k'=k/\c'=c)->rF D t ch (k,c) k' c'=ch k' c':=fun k' c' h=>nr h;have inq:∀k' c',(k',c')∈qs->¬(k'=k/\c'=c):=fun k' c' h e=>hnin (by rw[<- e.1,<- e.2];exact h);refine⟨s2,s3,fun k' c' h=>?_,fun k' c' h=>?_,fun q hq=>?_⟩
  ·by_cases e:k'=k/\c'=c
   ·rw[e.1,e.2];exact⟨_,self⟩
   ·rw[other _ _ e];rcases Vp.1 h with h|h
    ·exact hI.made k' c' h
    ·simp at h;exact absurd h e
  ·have e:¬(k'=k/\c'=c):=fun e=>h (by rw[e.1,e.2];simp);rw[other _ _ e];exact hI.opn k' c' fun h'=>h (by simp[h'])
  ·have nc:∀(i:Nat) (k' c':Nat),i<qs.length->(qs++[(k,c)])[i]?=some (k',c')->qs[i]?=some (k',c')/\¬(k'=k/\c'=c):=fun i k' c' hi h=>by
    rw[Vf hi]at h;exact⟨h,inq k' c' (an h)⟩
   rcases hI.lex q hq with h|⟨j,k1,c1,y,h1,h2,h3,h4⟩
   ·have h5:=s4 q hq h;rcases WY h5 with h6|h6
    ·refine .inr ⟨qs.length,k,c,_,Zj,self,h6,fun i k' c' y' hi hp hy=>?_⟩;obtain⟨hp',e⟩:=nc i k' c' hi hp;rw[other _ _ e]at hy;have hr':=hr (k',c') (by rw[Vp];exact .inl (an hp'));exact h k' c' y' hr'.1 hr'.2 hy
    ·refine .inl fun k' c' y' g1 g2 g3=>?_;by_cases e:k'=k/\c'=c
     ·rw[e.1,e.2]at g3 ⊢;rw[self]at g3;cases g3;exact h6
     ·rw[other _ _ e]at g3;exact h k' c' y' g1 g2 g3
   ·have hj:=aO h1;refine .inr ⟨j,k1,c1,y,by rw[Vf hj];exact h1,by rw[other _ _ (inq _ _ (an h1))];exact h2,h3,fun i k' c' y' hi hp hy=>?_⟩;obtain⟨hp',e⟩:=nc i k' c' V hp;rw[other _ _ e]at hy;exact h4 i k' c' y' hi hp' hy
noncomputable def nu (ch:Ch):dm:=fun k c=>(ch k c).getD 0
def Sm (hD:D.Ok)(ht:t.Ok D){pos:List (Nat × Nat)}(h:Chosen D t pos ch)(hall:∀k c,k<D.K->c<D.cs k->(k,c)∈pos):rG D t (nu ch):=by
 obtain⟨q,q1,q2,q3⟩:=(tD hD ht h.nq).1 h.fe;have e:∀k c,k<D.K->c<D.cs k->nu ch k c=q k c:=fun k c hk hc=>by
  obtain⟨y,hy⟩:=h.made k c (hall k c hk hc);unfold nu;rw[hy];exact q2 k c y hk hc hy
 exact⟨fun k c hk hc=>by rw[e k c hk hc];exact q1 k c hk hc,by rw[EV hD e];exact q3⟩
def Sn {α:Type}{f g:α->Int}:∀ {l:List α} {j:Nat} {a:α},l[j]?=some a->f a<g a->(∀i b,i<j->l[i]?=some b->f b=g b)->yE (l.map f) (l.map g):=by
 intro l
 induction l with
 |nil=>intro j a h;simp at h
 |cons x l ih =>
  intro j a h hlt heq;cases j with
  |zero =>
   simp only[List.getElem?_cons_zero,Option.some.injEq]at h;subst h;exact .inl hlt
  |succ j =>
   simp only[List.getElem?_cons_succ]at h;refine .inr ⟨heq 0 x V rfl,ih h hlt fun i b hi hb=>heq (i+1) b V (by simpa using hb)⟩
def oE (d:Zq)(r:List Nat):List (Nat × Nat):=((aE d).map fun v=>(List.range (dB d v)).map fun c=>(r.idxOf v,c)).flatten
def Fc (d:Zq)(r:List Nat)(q:dm):(kE d r q).flatten=(oE d r).map fun a=>(q a.1 a.2:Int):=by
 unfold kE oE;rw[List.map_flatten,XD];congr 1;refine Vn fun v _=>?_;simp
def Aa (hr:ZB d r):(k,c)∈oE d r↔k<(ay d r).K/\c<(ay d r).cs k:=by
 unfold oE;rw[Xz];constructor
 ·rintro⟨l,hl,h⟩;obtain⟨v,hv,rfl⟩:=Vb.1 hl;obtain⟨c',hc,he⟩:=Vb.1 h;cases he;have hi:r.idxOf v<r.length:=Vy (hr.pP hv);refine⟨hi,?_⟩;show c<dB d (r.getD (r.idxOf v) 0);rw[gf (by rw[UV hi,VZ hi])];exact U9.1 hc
 ·rintro⟨hk,hc⟩;obtain⟨v,hv⟩:=aw (show k<r.length from hk);have hm:=hr.mem v (an hv);have hc':c<dB d (r.getD k 0):=hc;rw[gf hv]at hc';refine⟨_,Vb.2 ⟨v,hm,rfl⟩,Vb.2 ⟨c,U9.2 hc',?_⟩⟩;have h1:r.idxOf v<r.length:=Vy (an hv);rw[(Wa h1 hr.nodup).1 (by rw[hv,UV h1,VZ h1])]
def So (hr:ZB d r):(oE d r).Nodup:=by
 unfold oE;show List.Pairwise _ _;rw[List.pairwise_flatten];constructor
 ·intro l hl;obtain⟨v,_,rfl⟩:=Vb.1 hl;rw[List.pairwise_map];exact Xh.imp fun h e=>h (by cases e;rfl)
 ·rw[List.pairwise_map];have hnd:(aE d).Nodup:=Xh.filter _;refine(List.Pairwise.and_mem.1 hnd).imp fun {v w} ⟨hv,hw,hne⟩=>?_;intro a ha b hb e;obtain⟨c,_,rfl⟩:=Vb.1 ha;obtain⟨c',_,rfl⟩:=Vb.1 hb;have h1:r.idxOf v=r.idxOf w:=(Prod.mk.inj e).1;have i1:=VZ (Vy (hr.pP hv));have i2:=VZ (Vy (hr.pP hw));simp only[h1]at i1;exact hne (i1.symm.trans i2)
def Fe (hok:Zv d)(hr:ZB d r)(hp:ZG d p):kE d r (mi d r p)=p:=by
 apply VG;intro k;rcases Vj k (aE d).length with hk|hk
 ·obtain⟨v,hv⟩:=aw hk;obtain⟨l,hl⟩:=aw (l:=p) (i:=k) (by rw[hp.len];exact hk);obtain⟨v1,v2,v3⟩:=q8 hv;obtain⟨x,hx⟩:=aw (l:=d.C) (i:=v) v1;have hc:=hok.n.L x (an hx);obtain⟨e1,_⟩:=iO hx V;obtain⟨ll,lr⟩:=hp.row k v x l hv hx hl;rw[zX hv,hl];congr 1;have hm:v∈aE d:=an hv;have hi:r.idxOf v<r.length:=Vy (hr.pP hm);have hri:r.getD (r.idxOf v) 0=v:=gf (by rw[UV hi,VZ hi]);apply VG;intro c;rcases Vj c (dB d v) with hcc|hcc
  ·obtain⟨a,ha⟩:=aw (l:=l) (i:=c) V;have har:=lr a (an ha);rw[List.getElem?_map,Vz hcc,ha];show some ((mi d r p (r.idxOf v) c:Nat):Int)=some a;unfold mi;rw[hri,v3];have:fixC p k c=a:=(by unfold fixC;simp[UZ,hl,ha]);rw[this];congr 1;omega
  ·rw[U3 (by simpa using hcc),U3 V]
 ·rw[U3 (by simpa[kE] using hk),U3 (by rw[hp.len];exact hk)]
noncomputable def ny (d:Zq)(r:List Nat):List (List Int):=kE d r (nu (oD (ay d r) (ml (ay d r)) (oE d r)))
def eG (d:Zq)(r:List Nat):Int:=rE (ay d r)
def wq (hok:Zv d)(hr:ZB d r):ZG d (ny d r)/\eV d (fixC (ny d r))=eG d r /\
  ∀q,ZG d q->eV d (fixC q)<=eG d r/\(eV d (fixC q)=eG d r->q=ny d r\/yE (ny d r).flatten q.flatten):=by
 have hD:=wg hok hr.mem;have ht:=Si hD (Sj hok hr) (z9 hok hr);have hC:=Fb hD ht _ (oE d r) rfl (So hr) fun p hp=>(Aa hr).1 hp;have hB:=Sm hD ht hC fun k c hk hc=>(Aa hr).2 ⟨hk,hc⟩;refine⟨EU hok hr hB.1,by unfold ny;rw[Sb hok hr hB.1];exact hB.2,fun q hq=>?_⟩;have hqo:=R9 hok hr hq;have hqt:=ET hok hr hq;refine⟨by rw[<- hqt];exact(zW hD ht hqo).1,fun he=>?_⟩;have hqb:rG (ay d r) (ml (ay d r)) (mi d r q):=⟨hqo,by rw[hqt,he];rfl⟩
 rcases hC.lex _ hqb with h|⟨j,k,c,y,h1,h2,h3,h4⟩
 ·left;rw[<- Fe hok hr hq];unfold ny kE;refine Vn fun v hv=>?_;refine Vn fun c hc=>?_;have hi:r.idxOf v<r.length:=Vy (hr.pP hv);have hri:r.getD (r.idxOf v) 0=v:=gf (by rw[UV hi,VZ hi]);have hcs:c<(ay d r).cs (r.idxOf v):=by
   show c<dB d (r.getD (r.idxOf v) 0);rw[hri];exact U9.1 hc
  obtain⟨y,hy⟩:=hC.made (r.idxOf v) c ((Aa hr).2 ⟨hi,hcs⟩);have:=h (r.idxOf v) c y hi hcs hy;unfold nu;rw[hy];simp only[Option.getD_some];omega
 ·right;rw[<- Fe hok hr hq];unfold ny;rw[Fc,Fc];refine Sn h1 (by show ((nu _ k c:Nat):Int)<_;unfold nu;rw[h2];simp only[Option.getD_some];omega) fun i b hi hb=>?_;obtain⟨k',c'⟩:=b;obtain⟨y',hy'⟩:=hC.made k' c' (an hb);have:=h4 i k' c' y' hi hb hy';show ((nu _ k' c':Nat):Int)=_;unfold nu;rw[hy'];simp only[Option.getD_some];omega
structure ZQ (d d':Zq):Prop where
 len:d'.C.length=d.C.length
 X:d'.X=d.X
 nl:d'.nl=d.nl
 Y:d'.Y=d.Y
 node:∀v x x',d.C[v]?=some x->d'.C[v]?=some x'->x'.L=x.L/\(∀p∈x.F,p∈x'.F)/\(d.X.testBit v=false->x'=x)
def ZQ.nB (h:ZQ d d'):au d'.C=au d.C:=by
 apply VG;intro v;unfold au;rw[List.getElem?_map,List.getElem?_map];rcases Vj v d.C.length with hv|hv
 ·obtain⟨x,hx⟩:=aw hv;obtain⟨x',hx'⟩:=aw (l:=d'.C) (i:=v) (by rw[h.len];exact hv);rw[hx,hx',Option.map_some,Option.map_some,(h.node v x x' hx hx').1]
 ·rw[U3 hv,U3 (by rw[h.len];exact hv)]
theorem ZQ.wv (h:ZQ d d')(w:Nat):wv d' w=wv d w:=by unfold Go.Proofs.wv;rw[h.nB]
theorem ZQ.cI (h:ZQ d d'):cI d'.C=cI d.C:=by unfold Go.Proofs.cI;rw[h.nB]
theorem ZQ.aE (h:ZQ d d'):aE d'=aE d:=by unfold Go.Proofs.aE;rw[h.X,h.len]
def ZQ.par (h:ZQ d d')(x:Zp):aT d'.C x=aT d.C x:=by unfold aT;rw[h.nB]
def ZQ.nu (h:ZQ d d')(vals:List Int):di d' vals=di d vals:=by
 have h1:cL d' vals=cL d vals:=by
  unfold cL;rw[h.len];congr 1;refine Vn fun v hv=>?_;have hv:=U9.1 hv;unfold jA;rw[h.X,h.nl];cases hb:d.X.testBit v with
  |true=>rfl
  |false =>
   obtain⟨x,hx⟩:=aw hv;obtain⟨x',hx'⟩:=aw (l:=d'.C) (i:=v) (by rw[h.len];exact hv);obtain rfl:=(h.node v x x' hx hx').2.2 hb;rw[UW Zj,UW Zj];unfold fX;rw[hx,hx'];simp only;unfold jz;rw[h.par]
 unfold di;rw[h1,h.Y];congr 1;unfold cX;congr 1;refine Vn fun u _=>?_;unfold ox;rw[h.nB]
def ZQ.row (h:ZQ d d')(hok:Zv d)(hok':Zv d')(hv:v∈Go.Proofs.aE d){w':Nat}(e:cO d'.C v (Go.Proofs.wv d w)=cO d'.C v (Go.Proofs.wv d w')):cO d.C v (Go.Proofs.wv d w)=cO d.C v (Go.Proofs.wv d w'):=by
 obtain⟨x,hx⟩:=aw (bM.1 hv).1;obtain⟨x',hx'⟩:=aw (l:=d'.C) (i:=v) (by rw[h.len];exact(bM.1 hv).1);have hpx:=(hok.n.dec v x hx (bM.1 hv).2).2;have hpx':=(hok'.n.dec v x' hx' (by rw[h.X];exact(bM.1 hv).2)).2;have hin':iG x'.F d'.C.length:=fun q hq=>by have:=hpx'.2 q hq;omega
 have hf:=iC hok' w;have hf':=iC hok' w';rw[h.wv]at hf hf';have e1:=(lk hok' hx' hf).1;have e2:=(lk hok' hx' hf').1;have hat:aL (Go.Proofs.wv d w) x'.F=aL (Go.Proofs.wv d w') x'.F:=ES (pT hin' hf) (pT hin' hf') (by rw[<- e1,<- e2,e]);have hat2:aL (Go.Proofs.wv d w) x.F=aL (Go.Proofs.wv d w') x.F:=Vn fun q hq=>by
  obtain⟨j,hj⟩:=U1.1 ((h.node v x x' hx hx').2.1 q hq);have a1:=jY (l:=Go.Proofs.wv d w) hj;have a2:=jY (l:=Go.Proofs.wv d w') hj;rw[hat,a2]at a1;exact(Option.some.inj a1).symm
 unfold cO;rw[hx];simp only;rw[hat2]
noncomputable def pt (d d':Zq)(c:Nat->Nat->Int)(k r:Nat):Int :=
 @dite _ (∃w,cO d'.C ((Go.Proofs.aE d).getD k 0) (Go.Proofs.wv d w)=r) (Classical.propDecidable _) (fun h=>c k (cO d.C ((Go.Proofs.aE d).getD k 0) (Go.Proofs.wv d h.choose))) fun _=>0
def OX (h:ZQ d d')(hok:Zv d)(hok':Zv d')(c:Nat->Nat->Int)(hv:v∈Go.Proofs.aE d)(w:Nat):
  pt d d' c (bw d.X v) (cO d'.C v (Go.Proofs.wv d w))=c (bw d.X v) (cO d.C v (Go.Proofs.wv d w)):=by
 have hk:(Go.Proofs.aE d).getD (bw d.X v) 0=v:=gf (mf (bM.1 hv).1 (bM.1 hv).2);have hex:∃w',cO d'.C ((Go.Proofs.aE d).getD (bw d.X v) 0) (Go.Proofs.wv d w')=cO d'.C v (Go.Proofs.wv d w):=⟨w,by rw[hk]⟩
 unfold pt;rw[dif_pos hex];have hc:=hex.choose_spec;generalize hex.choose=w' at hc ⊢;rw[hk]at hc ⊢;rw[h.row hok hok' hv hc]
noncomputable def px (d d':Zq)(c:Nat->Nat->Int):List (List Int):=(List.range (Go.Proofs.aE d).length).map fun k=>(List.range (dB d' ((Go.Proofs.aE d).getD k 0))).map (pt d d' c k)
def OY {c:Nat->Nat->Int}{r:Nat}(hk:k<(Go.Proofs.aE d).length)(hr:r<dB d' ((Go.Proofs.aE d).getD k 0)):fixC (px d d' c) k r=pt d d' c k r:=by
 unfold fixC px;have e:((List.range (Go.Proofs.aE d).length).map fun k=>(List.range (dB d' ((Go.Proofs.aE d).getD k 0))).map (pt d d' c k))[k]?=some ((List.range (dB d' ((Go.Proofs.aE d).getD k 0))).map (pt d d' c k)):=by
  rw[List.getElem?_map,Vz hk];rfl
 rw[bK e];refine bK ?_;rw[List.getElem?_map,Vz hr];rfl
def OZ (h:ZQ d d')(hok:Zv d)(hok':Zv d')(hp:ZG d p):∃p',ZG d' p'/\eV d' (fixC p')=eV d (fixC p):=by
 have hdl:=h.aE;refine⟨px d d' (fixC p),⟨by rw[hdl];simp[px],fun k v x' l hv hx' hl=>?_⟩,?_⟩
 ·rw[hdl]at hv;have hk:=aO hv;have hgv:(Go.Proofs.aE d).getD k 0=v:=gf hv;obtain⟨v1,v2,v3⟩:=q8 hv;obtain⟨x,hx⟩:=aw v1;have hcd:=(h.node v x x' hx hx').1;have hc:=hok.n.L x (an hx);have hc':=hok'.n.L x' (an hx');unfold px at hl;rw[List.getElem?_map,Vz hk,Option.map_some,hgv]at hl;cases hl;have hn:=(iO hx' V).1;refine⟨by rw[Vh,Ww,hn],fun a ha=>?_⟩;obtain⟨r,hr,rfl⟩:=Vb.1 ha;unfold pt;split
  ·rename_i hex;obtain⟨w',hw'⟩:∃w',w'=hex.choose:=⟨_,rfl⟩
   rw[<- hw',hgv];have hfr:=(lk hok hx (iC hok w')).2;rw[<- (iO hx V).1]at hfr;have:=tA hok hp (an hv) hfr;rw[v3,(iO hx V).2]at this;rw[hcd];exact this
  ·omega
 ·unfold eV;rw[h.cI];refine gO fun w _=>?_;rw[h.wv,h.nu];have:fY d' (fixC (px d d' (fixC p))) (Go.Proofs.wv d w)=fY d (fixC p) (Go.Proofs.wv d w):=by
   unfold fY;rw[hdl];have key:∀v∈Go.Proofs.aE d,ku d' (fixC (px d d' (fixC p))) (Go.Proofs.wv d w) v=ku d (fixC p) (Go.Proofs.wv d w) v:=fun v hv=>by
    obtain⟨v1,v2⟩:=bM.1 hv;have hg:=mf v1 v2;obtain⟨x',hx'⟩:=aw (l:=d'.C) (i:=v) (by rw[h.len];exact v1);have hc':=hok'.n.L x' (an hx');have hf:=iC hok' w;rw[h.wv]at hf;have hr:=(lk hok' hx' hf).2;rw[<- (iO hx' V).1]at hr;have hgd:(Go.Proofs.aE d).getD (bw d.X v) 0=v:=gf hg;unfold ku;rw[h.X,OY (aO hg) (by rw[hgd];exact hr),OX h hok hok' _ hv]
   rw[Wk,Vo,Vo];exact⟨fun a v hv=>by rw[<- key v hv];exact a v hv,fun a v hv=>by rw[key v hv];exact a v hv⟩
  rw[this]
def O0 (h:ZQ d d')(hok:Zv d)(hok':Zv d'){r':List Nat}(hr:ZB d r)(hr':ZB d' r'):eG d r<=eG d' r':=by
 obtain⟨h1,h2,_⟩:=wq hok hr;obtain⟨p',h3,h4⟩:=OZ h hok hok' h1;have:=((wq hok' hr').2.2 p' h3).1;omega
def CX (s n:Nat):bV (dL s n) n:=⟨vW s n,fun q hq=>by
 obtain⟨u,rfl,h,_⟩:=kB.1 hq;omega⟩
def CY {s:Nat}(h:s<2 ^ n):bt (dL s n)=s:=by
 refine Vq fun i=>?_;rw[gK fun p hp=>((CX s n).2 p hp).1,Wk,X1,kB];constructor
 ·rintro⟨u,e,_,hu⟩;obtain rfl:i=u:=V
  exact hu
 ·intro hi;refine⟨i,rfl,?_,hi⟩;refine V7 fun hn=>?_;rw[Wc (U4 h (U7 Zk hn))]at hi;cases hi
theorem yY:∀ {a b:List Int},a.Pairwise (·<·)->b.Pairwise (·<·)->(∀q,q∈a↔q∈b)->a=b
 | [],b,_,_,h=>by
  cases b with
  |nil=>rfl
  |cons y b=>exact absurd ((h y).2 Zj) (Zj)
 |x :: a,[],_,_,h=>absurd ((h x).1 Zj) (Zj)
 |x :: a,y :: b,ha,hb,h=>by
  rw[Xn]at ha hb;have e:x=y:=by
   rcases List.mem_cons.1 ((h x).1 Zj) with e|hm
   ·exact e
   ·rcases List.mem_cons.1 ((h y).2 Zj) with e|hm'
    ·exact e.symm
    ·have:=hb.1 x hm;have:=ha.1 y hm';omega
  subst e;rw[yY ha.2 hb.2 fun q=>?_];constructor
  ·intro hq;rcases List.mem_cons.1 ((h q).1 (by simp[hq])) with e|hm
   ·have:=ha.1 q hq;omega
   ·exact hm
  ·intro hq;rcases List.mem_cons.1 ((h q).2 (by simp[hq])) with e|hm
   ·have:=hb.1 q hq;omega
   ·exact hm
def O1 (h:bV l n):dL (bt l) n=l:=yY (vW _ _) h.1 fun q=>by
 rw[kB];constructor
 ·rintro⟨u,rfl,_,hu⟩;rw[gK fun p hp=>(h.2 p hp).1]at hu;exact of_decide_eq_true hu
 ·intro hq;have:=h.2 q hq;refine⟨q.toNat,V,V,?_⟩;rw[gK fun p hp=>(h.2 p hp).1];exact Vl (by rw[WR this.1];exact hq)
def fA (r:List Nat)(u v:Nat):Bool:=decide (v∈r/\r.idxOf u<=r.idxOf v)
def fT (n:Nat)(r:List Nat)(u S v:Nat)(x:Zp):Zp:=if fA r u v=true then { x with F:=dL (bt x.F |||S) n } else x
def bp (d:Zq)(r:List Nat)(u S:Nat):Zq:={ d with C:=d.C.zipIdx.map fun p=>fT d.C.length r u S p.2 p.1 }
def iA (d:Zq)(r:List Nat)(u S:Nat):(bp d r u S).C.length=d.C.length:=by simp[bp]
def qM (h:d.C[v]?=some x):(bp d r u S).C[v]?=some (fT d.C.length r u S v x):=by
 unfold bp;rw[List.getElem?_map,WC,h];simp
def qN (n:Nat)(r:List Nat)(u S v:Nat)(x:Zp):(fT n r u S v x).L=x.L/\(fT n r u S v x).nb=x.nb:=by unfold fT;split<;>exact⟨rfl,rfl⟩
def yZ (d:Zq)(r:List Nat)(u S:Nat):au (bp d r u S).C=au d.C:=by
 apply VG;intro v;unfold au;rw[List.getElem?_map,List.getElem?_map];rcases Vj v d.C.length with hv|hv
 ·obtain⟨x,hx⟩:=aw hv;rw[hx,qM hx,Option.map_some,Option.map_some,(qN ..).1]
 ·rw[U3 hv,U3 (by rw[iA];exact hv)]
def CZ (d:Zq)(u:Nat):List Nat:=(List.range d.C.length).filter fun v=>!d.X.testBit v && !(dJ (az d.C) ((az d.C).getD v 0)).testBit u
def bD (d:Zq)(u:Nat):Nat:=dI (CZ d u)
def qO :(bD d u).testBit i=true↔i<d.C.length/\d.X.testBit i=false/\(dJ (az d.C) ((az d.C).getD i 0)).testBit u=false:=by
 unfold bD CZ;rw[lF,WQ,U9];simp
def od (hS:Sub S (bD d u)):S<2 ^ d.C.length:=vD fun i hi=>(qO.1 (hS i hi)).1
def jP (ns:List Zp):(az ns).length=ns.length:=by simp[az]
def oe {ns:List Zp}(h:ns[v]?=some x):(az ns).getD v 0=bt x.F:=by
 rw[UZ,kH h];rfl
def ma (hok:Zv d)(hx:d.C[v]?=some x):bV x.F d.C.length:=by
 have:=(hok.nC.node _ (an (jF (c:=fun _ _=>0) hx))).2;rw[(iN ..).2,ig]at this;exact this
def C0 (hok:Zv d):∀p∈az d.C,p<2 ^ (az d.C).length:=fun p hp=>by
 obtain⟨x,hx,rfl⟩:=Vb.1 hp;obtain⟨v,hv⟩:=U1.1 hx;rw[jP];exact jR fun q hq=>(ma hok hv).2 q hq
def C2 (hok:Zv d):jS (az d.C):=by have:=hok.nC.nL;rw[tJ]at this;exact this
def y8 (hok:Zv d)(hv:v<d.C.length):(az d.C).getD v 0<2 ^ (az d.C).length:=by
 obtain⟨x,hx⟩:=aw hv;rw[oe hx,jP];exact jR fun q hq=>(ma hok hx).2 q hq
def vh (hok:Zv d)(hc:c<d.C.length)(ha:a<d.C.length)(h:(dJ (az d.C) ((az d.C).getD c 0)).testBit a=true):
  Sub (dJ (az d.C) ((az d.C).getD a 0)) (dJ (az d.C) ((az d.C).getD c 0)) :=
 have hcl:=zr (C0 hok) (y8 hok hc)
 pC hcl _ (hcl a (by rw[jP];exact ha) h)
def qP (h:((az d.C).getD c 0).testBit a=true):(dJ (az d.C) ((az d.C).getD c 0)).testBit a=true:=qZ _ _ _ _ h
def za (hok:Zv d)(hc:c<d.C.length)(h:((az d.C).getD c 0).testBit a=true):a<d.C.length:=by
 obtain⟨x,hx⟩:=aw hc;rw[oe hx,gK fun p hp=>((ma hok hx).2 p hp).1]at h;have:=(ma hok hx).2 _ (of_decide_eq_true h);omega
def O2 (hok:Zv d)(hr:ZB d r)(hu:u∈r)(h:fA r u v=true):v=u\/(dJ (az d.C) ((az d.C).getD v 0)).testBit u=true:=by
 obtain⟨hv,hi⟩:=of_decide_eq_true h;obtain⟨i,hi1⟩:∃i,i=r.idxOf u:=⟨_,rfl⟩
 obtain⟨j,hj1⟩:∃j,j=r.idxOf v:=⟨_,rfl⟩
 have gu:r[i]?=some u:=by rw[hi1,UV (Vy hu),VZ]
 have gv:r[j]?=some v:=by rw[hj1,UV (Vy hv),VZ]
 rw[<- hi1,<- hj1]at hi;rcases WY hi with hlt|he
 ·right;obtain⟨hm,_,hn,_⟩:=hr.ro j v gv;refine qP ?_;obtain⟨x,hx⟩:=aw (bM.1 hm).1;have hp:bA d v=bt x.F:=by unfold bA;rw[hx]
  rw[oe hx,<- hp];exact sV hn _ (jd.2 ⟨u,U1.2 ⟨i,by rw[Vg hlt];exact gu⟩,by rw[Vc,VN];simp⟩)
 ·left;rw[he,gv]at gu;exact Option.some.inj gu
def O3 (hx:d.C[v]?=some x)(hlt:bt x.F |||S<2 ^ d.C.length):(az (bp d r u S).C).getD v 0=if fA r u v=true then (az d.C).getD v 0 |||S else (az d.C).getD v 0:=by
 rw[oe (qM hx),oe hx];unfold fT;split
 ·exact CY hlt
 ·rfl
def O4 (hok:Zv d)(hr:ZB d r)(hu:u∈r)(hS:Sub S (bD d u)):jS (az (bp d r u S).C):=by
 have hSl:=od hS;have hul:u<d.C.length:=(bM.1 (hr.mem u hu)).1;have hub:d.X.testBit u=true:=(bM.1 (hr.mem u hu)).2;have hn:(az (bp d r u S).C).length=(az d.C).length:=by rw[jP,jP,iA]
 have par:∀v,v<d.C.length->(az (bp d r u S).C).getD v 0=if fA r u v=true then (az d.C).getD v 0 |||S else (az d.C).getD v 0:=fun v hv=>by
  obtain⟨x,hx⟩:=aw hv;have:=y8 hok hv;rw[oe hx,jP]at this;exact O3 hx (V8 this hSl)
  -- what is not behind the decision
 obtain⟨N,hN⟩:∃N:Nat,∀i,N.testBit i=true↔i<d.C.length/\i≠u/\(dJ (az d.C) ((az d.C).getD i 0)).testBit u=false :=
  ⟨dI ((List.range d.C.length).filter fun v=>decide (v≠u) && !(dJ (az d.C) ((az d.C).getD v 0)).testBit u),fun i=>by rw[lF,WQ,U9];simp⟩
 have hSN:Sub S N:=fun i hi=>by
  obtain⟨a,b,c⟩:=qO.1 (hS i hi);exact(hN i).2 ⟨a,fun e=>(by rw[e,hub]at b;cases b),c⟩
 have hNup:∀i,N.testBit i=true->Sub ((az d.C).getD i 0) N:=fun i hi q hq=>by
  obtain⟨a,b,c⟩:=(hN i).1 hi;have hql:=za hok a hq;refine(hN q).2 ⟨hql,fun e=>?_,?_⟩
  ·rw[e]at hq;rw[qP hq]at c;cases c
  ·cases hb:(dJ (az d.C) ((az d.C).getD q 0)).testBit u with
   |false=>rfl
   |true =>
    rw[vh hok a hql (qP hq) u hb]at c;cases c
 have hNno:∀i,N.testBit i=true->fA r u i=false:=fun i hi=>by
  obtain⟨a,b,c⟩:=(hN i).1 hi;cases hl:fA r u i with
  |false=>rfl
  |true =>
   rcases O2 hok hr hu hl with e|e
   ·exact absurd e b
   ·rw[e]at c;cases c
 intro v hv;rw[hn,jP]at hv;have hav:=C2 hok v (by rw[jP];exact hv);have hcl:=zr (C0 hok) (y8 hok hv);have key:∀t:Nat,me (az (bp d r u S).C) t->Sub ((az (bp d r u S).C).getD v 0) t->t.testBit v=false->(dJ (az (bp d r u S).C) ((az (bp d r u S).C).getD v 0)).testBit v=false:=fun t h1 h2 h3=>by
  cases hb:(dJ (az (bp d r u S).C) ((az (bp d r u S).C).getD v 0)).testBit v with
  |false=>rfl
  |true =>
   have:=pC h1 _ h2 v hb;rw[h3]at this;cases this
 cases hNv:N.testBit v with
 | true =>
    -- all ancestors are as they were
  refine key (dJ (az d.C) ((az d.C).getD v 0)) (fun a ha hb=>?_) ?_ hav
  ·rw[hn,jP]at ha;have haN:N.testBit a=true:=by
    refine(hN a).2 ⟨ha,fun e=>?_,?_⟩
    ·rw[e]at hb;have:=((hN v).1 hNv).2.2;rw[hb]at this;cases this
    ·cases hc:(dJ (az d.C) ((az d.C).getD a 0)).testBit u with
     |false=>rfl
     |true =>
      have:=vh hok hv ha hb u hc;rw[((hN v).1 hNv).2.2]at this;cases this
   rw[par a ha,hNno a haN];exact hcl a (by rw[jP];exact ha) hb
  ·rw[par v hv,hNno v hNv];exact qZ _ _ _
 |false =>
  refine key (dJ (az d.C) ((az d.C).getD v 0) |||N) (fun a ha hb=>?_) ?_ (by rw[Vc,hav,hNv];rfl)
  ·rw[hn,jP]at ha;rw[Vc,Vu]at hb;have h0:Sub ((az d.C).getD a 0) (dJ (az d.C) ((az d.C).getD v 0) |||N):=by
    rcases hb with hb|hb
    ·exact(hcl a (by rw[jP];exact ha) hb).trans (.left _ _)
    ·exact(hNup a hb).trans (.right _ _)
   rw[par a ha];split
   ·exact h0.or (hSN.trans (.right _ _))
   ·exact h0
  ·have h0:Sub ((az d.C).getD v 0) (dJ (az d.C) ((az d.C).getD v 0) |||N):=Sub.trans (qZ _ _ _) (.left _ _);rw[par v hv];split
   ·exact h0.or (hSN.trans (.right _ _))
   ·exact h0
def qQ (hok:Zv d)(hr:ZB d r)(hu:u∈r)(hS:Sub S (bD d u)):Zv (bp d r u S):=by
 have hget:∀(v:Nat) (y:Zp),(bp d r u S).C[v]?=some y->∃x,d.C[v]?=some x/\y=fT d.C.length r u S v x:=fun v y hy=>by
  obtain⟨x,hx⟩:=aw (l:=d.C) (i:=v) (by have:=aO hy;rw[iA]at this;exact this);rw[qM hx]at hy;exact⟨x,hx,(Option.some.inj hy).symm⟩
 have hpl:∀(v:Nat) (y:Zp),(bp d r u S).C[v]?=some y->bV y.F d.C.length:=fun v y hy=>by
  obtain⟨x,hx,rfl⟩:=hget v y hy;unfold fT;split
  ·exact CX _ _
  ·exact ma hok hx
 have hcard:∀y∈(bp d r u S).C,1<=y.L/\y.L<=4:=fun y hy=>by
  obtain⟨v,hv⟩:=U1.1 hy;obtain⟨x,hx,rfl⟩:=hget v y hv;rw[(qN ..).1];exact hok.n.L x (an hx)
 have hlate:∀v,d.X.testBit v=false->fA r u v=false:=fun v hb=>by
  cases hl:fA r u v with
  |false=>rfl
  |true =>
   have:=(bM.1 (hr.mem v (of_decide_eq_true hl).1)).2;rw[hb]at this;cases this
 have hR:ZK (bp d r u S):=⟨by rw[iA];exact hok.n.n1,by rw[iA];exact hok.n.X,hcard,fun v y hy hb=>by
  obtain⟨x,hx,rfl⟩:=hget v y hy;refine⟨by rw[(qN ..).2];exact(hok.n.dec v x hx hb).1,by rw[iA];exact hpl v _ hy⟩⟩
 have h0:=hok.nC;refine⟨hR,⟨h0.g1,by rw[ig,iA];exact hok.n.n1,fun y hy=>?_,by have:=h0.size;rw[jX]at this ⊢;rw[yZ];exact this,by rw[tJ];exact O4 hok hr hu hS,fun y hy=>?_⟩,?_⟩
 ·obtain⟨v,y,hy',rfl⟩:=pS hy;clear hy;have hy:=hy';rw[(iN ..).1,(iN ..).2,ig,iA];exact⟨hcard y (an hy),hpl v y hy⟩
 ·obtain⟨v,y,hy',rfl⟩:=pS hy;clear hy;have hy:=hy';obtain⟨x,hx,e⟩:=hget v y hy;have h1:=h0.nb _ (an (jF (c:=fun _ _=>0) hx));unfold gh at h1 ⊢;rw[rI]at h1 ⊢;have hpc:∀z:Zp,aT (bp d r u S).C z=aT d.C z:=fun z=>by unfold aT;rw[yZ]
  rw[hpc];by_cases hb:d.X.testBit v=true
  ·have hyr:=(hR.dec v y hy hb).1;have hyc:=hcard y (an hy);rw[wz (d:=bp d r u S) hy hb];have hl:({ y with nb:=y.nb++dD (bp d r u S).nl (bp d r u S).C (fun _ _=>0) (bw (bp d r u S).X v) y }:Zp).nb=dD d.nl (bp d r u S).C (fun _ _=>0) (bw d.X v) y:=by
    show y.nb++_=_;rw[hyr];rfl
   rw[hl];have hpos:=fV (l:=aT d.C y) fun c hc=>(rM (fun q hq=>by have:=(hpl v y hy).2 q hq;omega) hok.n.L c hc).1;refine⟨?_,fun w hw=>?_⟩
   ·show ((dD d.nl (bp d r u S).C (fun _ _=>0) (bw d.X v) y).length:Int)=aB (aT d.C y);unfold dD cr;rw[Vh,Ww,hpc];omega
   ·unfold dD at hw;obtain⟨i,_,rfl⟩:=Vb.1 hw;have:=h0.g1;exact Ag (by show 0<=d.nl;omega) ⟨Int.le_refl 0,(by show (0:Int)<y.L;omega)⟩
  ·have hb':d.X.testBit v=false:=(by simpa using hb);rw[oG hb]at h1;rw[oG (d:=bp d r u S) hb];have ey:y=x:=(by rw[e];unfold fT;rw[hlate v hb'];rfl);rw[ey];exact h1
 ·refine⟨hok.Y.1,fun w hw=>?_⟩;have:=hok.Y.2 w hw;exact⟨by rw[iA];exact this.vars,by rw[yZ];exact this.size,this.w⟩
def te (hok:Zv d)(hr:ZB d r):iJ d=some r:=by
 have hR:=hok.n;have hnd:r.Nodup:=by
  rw[List.nodup_iff_pairwise_ne,Wu];intro i j hi hj hij e;have h1:r[i]?=some r[i]:=UV hi;have h2:r[j]?=some r[i]:=by rw[UV hj,e]
  have:=hr.ro.new h2;have h3:(dI (r.take j)).testBit r[i]=true:=lF.2 (U1.2 ⟨i,by rw[Vg hij];exact h1⟩);rw[this]at h3;cases h3
 have hmem:∀v,v∈r↔v∈aE d:=fun v=>by
  rw[bM,<- lF,hr.all];constructor
  ·intro h;refine⟨V7 fun hn=>?_,h⟩;have:=hR.X;rw[W1]at this;have hlt:d.X<2 ^ d.C.length:=by
    rcases Vj d.X (2 ^ d.C.length) with h|h
    ·exact h
    ·have:=Nat.div_pos h (W6 _);omega
   rw[Wc (U4 hlt (U7 Zk hn))]at h;cases h
  ·exact fun h=>h.2
 have nx:∀(k v:Nat),r[k]?=some v->jO d (cR d (r.take k))=some v:=fun k v hv=>by
  obtain⟨hm,hko⟩:=hr.ro k v hv;have huniq:∀w,w∈aE d->jv d (cR d (r.take k)) w->w=v:=fun w hw hwk=>by
   obtain⟨j,hj⟩:=U1.1 ((hmem w).2 hw);rcases Wl j k with hlt|he|hlt
   ·have:=(jd (d:=d) (l:=r.take k) (i:=w)).2 ⟨w,U1.2 ⟨j,by rw[Vg hlt];exact hj⟩,by rw[Vc,VN];simp⟩;rw[hwk.1]at this;cases this
   ·rw[he,hv]at hj;exact(Option.some.inj hj).symm
   ·obtain⟨_,_,hsub,_⟩:=hr.ro j w hj;have h1:(bA d w).testBit v=true:=sV hsub _ (jd.2 ⟨v,U1.2 ⟨k,by rw[Vg hlt];exact hv⟩,by rw[Vc,VN];simp⟩);have h2:(bA d w &&& d.X).testBit v=true:=(by rw[VB,h1,(bM.1 hm).2];rfl);rw[hwk.2.2,VB,hko.1]at h2;cases h2
  cases hf:jO d (cR d (r.take k)) with
  |none =>
   unfold jO at hf;rw[Xo]at hf;exact absurd (Vl hko) (hf v hm)
  |some w =>
   obtain⟨w1,w2⟩:=uV hf;rw[huniq w w1 w2]
 have hlen:(aE d).length=r.length:=by
  have h1:r.Perm (aE d):=(List.perm_ext_iff_of_nodup hnd (Xh.filter _)).2 hmem;exact h1.length_eq.symm
 have full:∀k,cR d (r.take k) &&& d.X=d.X->k<=r.length->k=r.length:=fun k hk hkl=>by
  refine VI fun hne=>?_;obtain⟨v,hv⟩:=aw (l:=r) (i:=k) V;have h1:=(hr.ro k v hv)
  have h2:(cR d (r.take k) &&& d.X).testBit v=true:=by rw[hk];exact(bM.1 h1.1).2
  rw[VB,h1.2.1]at h2;cases h2
 have go:∀(f k:Nat),k+f=r.length->gG d f (cR d (r.take k)) (r.take k)=some r:=by
  intro f
  induction f with
  |zero =>
   intro k hk;unfold gG;rw[UX]
   ·rw[UY V]
   ·refine(yG hR).2 fun v hv=>jd.2 ⟨v,?_,by rw[Vc,VN];simp⟩;rw[UY V];exact(hmem v).2 hv
  |succ f ih =>
   intro k hk;unfold gG;split
   ·rename_i hd;have:=full k hd V;omega
   ·obtain⟨v,hv⟩:=aw (l:=r) (i:=k) V;rw[nx k v hv];have:=ih (k+1) V;rw[bd hv,sU]at this;exact this
 have:=go r.length 0 V;unfold iJ;rw[hlen];exact this
def zb (hok:Zv d)(hv:v<d.C.length)(hS:S<2 ^ d.C.length):bA (bp d r u S) v=if fA r u v=true then bA d v |||S else bA d v:=by
 obtain⟨x,hx⟩:=aw hv;have hp:bA d v=bt x.F:=by unfold bA;rw[hx]
 unfold bA;rw[qM hx,hx];simp only;unfold fT;split
 ·refine CY (V8 (jR fun q hq=>(ma hok hx).2 q hq) hS)
 ·rfl
def qR (hok:Zv d)(hr:ZB d r)(hu:u∈r)(hS:Sub S (bD d u)):ZB (bp d r u S) r:=by
 have hSl:=od hS;have hdl:aE (bp d r u S)=aE d:=by unfold aE;rw[iA];rfl
 have hSd:∀i,S.testBit i=true->d.X.testBit i=false:=fun i hi=>(qO.1 (hS i hi)).2.1;refine⟨fun k v hv=>?_,hr.all⟩;obtain⟨hm,h1,h2,h3⟩:=hr.ro k v hv;have hvl:=(bM.1 hm).1;have hnd:∀j w,r[j]?=some w->r.idxOf w=j:=fun j w hj=>by
  have hw:w∈r:=an hj;have e:r[r.idxOf w]?=some w:=by rw[UV (Vy hw),VZ]
  rcases Wl (r.idxOf w) j with hlt|he|hlt
  ·have:=hr.ro.new hj;rw[lF.2 (U1.2 ⟨r.idxOf w,by rw[Vg hlt];exact e⟩)]at this;cases this
  ·exact he
  ·have:=hr.ro.new e;rw[lF.2 (U1.2 ⟨j,by rw[Vg hlt];exact hj⟩)]at this;cases this
 have hlv:fA r u v=true↔r.idxOf u<=k:=by
  unfold fA;rw[X1,hnd k v hv];exact⟨fun h=>h.2,fun h=>⟨an hv,h⟩⟩
  -- what is known when this decision comes
 have need:∀i,(cR (bp d r u S) (r.take k)).testBit i=true->(cR d (r.take k)).testBit i=true\/(S.testBit i=true/\r.idxOf u<k):=fun i hi=>by
  obtain⟨w,hw,hb⟩:=jd.1 hi;obtain⟨j,hj⟩:=U1.1 hw;have hjk:j<k:=by have:=aO hj;rw[Vd]at this;omega
  rw[Vg hjk]at hj;have hwl:=(bM.1 (hr.mem w (an hj))).1;rw[Vc,zb hok hwl hSl]at hb;cases hl:fA r u w with
  |false =>
   rw[hl,UW Zj,<- Vc]at hb;exact .inl (jd.2 ⟨w,hw,hb⟩)
  |true =>
   rw[hl,UX rfl]at hb;have hju:r.idxOf u<=j:=(by have:=(of_decide_eq_true hl).2;rw[hnd j w hj]at this;exact this);rw[Vc]at hb;cases hs:S.testBit i with
   |true=>exact .inr ⟨rfl,V⟩
   |false =>
    rw[hs,YZ,<- Vc]at hb;exact .inl (jd.2 ⟨w,hw,hb⟩)
 have needG:Sub (cR d (r.take k)) (cR (bp d r u S) (r.take k)):=fun i hi=>by
  obtain⟨w,hw,hb⟩:=jd.1 hi;have hwl:=(bM.1 (hr.mem w (Vk hw))).1;refine jd.2 ⟨w,hw,?_⟩;rw[Vc,zb hok hwl hSl];rw[Vc]at hb;split
  ·rw[Vc];cases h:(bA d w).testBit i<;>simp_all
  ·exact hb
 have hpv:=zb (r:=r) (u:=u) hok hvl hSl;refine⟨by rw[hdl];exact hm,?_,?_,?_⟩
 ·cases hb:(cR (bp d r u S) (r.take k)).testBit v with
  |false=>rfl
  |true =>
   rcases need v hb with h|⟨h,_⟩
   ·rw[h1]at h;cases h
   ·have:=hSd v h;rw[(bM.1 hm).2]at this;cases this
 ·refine Vq fun i=>?_;rw[VB];cases hb:(cR (bp d r u S) (r.take k)).testBit i with
  |false=>simp
  |true =>
   have:(bA (bp d r u S) v).testBit i=true:=by
    rw[hpv];rcases need i hb with h|⟨h,hk⟩
    ·have:=sV h2 i h;split
     ·rw[Vc,this];rfl
     ·exact this
    ·rw[UX (hlv.2 V),Vc,h];simp
   rw[this];rfl
 ·refine Vq fun i=>?_;have h3i:=congrArg (fun n=>n.testBit i) h3;simp only[VB]at h3i;show (bA (bp d r u S) v &&& d.X).testBit i=(cR (bp d r u S) (r.take k) &&& d.X).testBit i;rw[VB,VB];cases hd:d.X.testBit i with
  |false=>simp
  |true =>
   rw[hd,Bool.and_true,Bool.and_true]at h3i;have hSi:S.testBit i=false:=by
    cases hs:S.testBit i with
    |false=>rfl
    |true=>have:=hSd i hs;rw[hd]at this;cases this
   have e1:(bA (bp d r u S) v).testBit i=(bA d v).testBit i:=by
    rw[hpv];split
    ·rw[Vc,hSi,YZ]
    ·rfl
   have e2:(cR (bp d r u S) (r.take k)).testBit i=(cR d (r.take k)).testBit i:=by
    rw[Wk];refine⟨fun h=>?_,needG i⟩;rcases need i h with h|⟨h,_⟩
    ·exact h
    ·rw[hSi]at h;cases h
   rw[e1,e2,h3i]
def O5 (hr:ZB d r)(h:fA r u v=true):v∈aE d:=hr.mem v (of_decide_eq_true h).1
def O6 (hok:Zv d)(hr:ZB d r){u':Nat}(hS:S<2 ^ d.C.length)(hS':S'<2 ^ d.C.length)(hl:∀v,fA r u v=true->fA r u' v=true)(hs:Sub S S'):
  ZQ (bp d r u S) (bp d r u' S'):=by
 refine⟨by rw[iA,iA],rfl,rfl,rfl,fun v y y' hy hy'=>?_⟩;obtain⟨x,hx⟩:=aw (l:=d.C) (i:=v) (by have:=aO hy;rw[iA]at this;exact this);rw[qM hx]at hy hy';cases hy;cases hy';have hpl:=ma hok hx;refine⟨by rw[(qN ..).1,(qN ..).1],fun p hp=>?_,fun hb=>?_⟩
 ·have inb:∀T:Nat,(bt x.F |||T).testBit p.toNat=true->0<=p->p<d.C.length->p∈dL (bt x.F |||T) d.C.length:=fun T h h0 h1=>kB.2 ⟨p.toNat,V,V,h⟩;have par:p∈x.F->(bt x.F).testBit p.toNat=true/\0<=p/\p<d.C.length:=fun h=>by
   have h0:=hpl.2 p h;refine⟨?_,h0.1,h0.2⟩;rw[gK fun q hq=>(hpl.2 q hq).1];exact Vl (by rw[WR h0.1];exact h)
  unfold fT at hp ⊢;by_cases h1:fA r u v=true
  ·rw[UX h1]at hp;rw[UX (hl v h1)];obtain⟨i,rfl,h2,h3⟩:=kB.1 hp;refine inb S' ?_ V V;rw[Vc,Vu]at h3 ⊢;rw[Int.toNat_natCast];exact h3.imp (fun h2=>h2) fun h=>hs i h
  ·rw[UW h1]at hp;obtain⟨a,b,c⟩:=par hp;split
   ·exact inb S' (by rw[Vc,a];rfl) b c
   ·exact hp
 ·have h1:∀u,fA r u v=false:=fun u=>by
   cases h:fA r u v with
   |false=>rfl
   |true =>
    have:=(bM.1 (O5 hr h)).2;have hb':d.X.testBit v=false:=hb;rw[hb']at this;cases this
  unfold fT;rw[h1,h1];rfl
def C3 (hok:Zv d)(hr:ZB d r)(hu:u∈r){T:Nat}(hT:Sub T (bA d u)):bp d r u (S |||T)=bp d r u S:=by
 unfold bp;congr 1;refine Vn fun p hp=>?_;obtain⟨x,v⟩:=p;have hx:d.C[v]?=some x:=by
  obtain⟨i,hi⟩:=U1.1 hp;rw[WC,UT]at hi;obtain⟨y,hy,e⟩:=hi;cases e;simpa using hy
 show fT _ _ _ _ v x=fT _ _ _ _ v x;unfold fT;by_cases h:fA r u v=true
 ·rw[UX h,UX h];have hpv:Sub T (bt x.F):=by
   obtain⟨hv,hi⟩:=of_decide_eq_true h;have gu:r[r.idxOf u]?=some u:=(by rw[UV (Vy hu),VZ]);have gv:r[r.idxOf v]?=some v:=(by rw[UV (Vy hv),VZ]);have hp:bA d v=bt x.F:=(by unfold bA;rw[hx]);rw[<- hp];rcases WY hi with hlt|he
   ·obtain⟨_,_,hn,_⟩:=hr.ro _ v gv;refine hT.trans fun i hi=>sV hn i (jd.2 ⟨u,U1.2 ⟨r.idxOf u,by rw[Vg hlt];exact gu⟩,by rw[Vc,hi];rfl⟩)
   ·rw[<- he,gu]at gv;cases gv;exact hT
  have e:bt x.F |||(S |||T)=bt x.F |||S:=Vq fun i=>by
   simp only[Vc];cases ht:T.testBit i with
   |false=>simp
   |true=>rw[hpv i ht];simp
  rw[e]
 ·rw[UW h,UW h]
def O7 (hok:Zv d)(r:List Nat)(u:Nat):bp d r u 0=d:=by
 have:(d.C.zipIdx.map fun p=>fT d.C.length r u 0 p.2 p.1)=d.C:=by
  apply VG;intro v;rcases Vj v d.C.length with hv|hv
  ·obtain⟨x,hx⟩:=aw hv;rw[List.getElem?_map,WC,hx];simp only[Option.map_some,Nat.zero_add];unfold fT;rw[Nat.or_zero,O1 (ma hok hx)];split<;>rfl
  ·rw[U3 hv,U3 (by simpa using hv)]
 unfold bp;rw[this]
def O8 (hok:Zv d)(hu:u<d.C.length)(h:(bA d u).testBit i=true)(hd:d.X.testBit i=false):(bD d u).testBit i=true:=by
 obtain⟨x,hx⟩:=aw hu;have hp:(az d.C).getD u 0=bA d u:=by rw[oe hx];unfold bA;rw[hx]
 rw[<- hp]at h;have hil:=za hok hu h;refine qO.2 ⟨hil,hd,?_⟩;cases hb:(dJ (az d.C) ((az d.C).getD i 0)).testBit u with
 |false=>rfl
 |true =>
  have h1:=vh hok hu hil (qP h) u hb;rw[C2 hok u (by rw[jP];exact hu)]at h1;cases h1
def da (d:Zq)(r:List Nat)(u S:Nat):Int:=eG (bp d r u S) r-eG d r
def C4 (hok:Zv d)(hr:ZB d r)(hu:u∈r)(hS':Sub S' (bD d u))(h:Sub S S'):da d r u S<=da d r u S':=by
 have hS:=h.trans hS';have:=O0 (O6 hok hr (od hS) (od hS') (fun v h=>h) h) (qQ hok hr hu hS) (qQ hok hr hu hS') (qR hok hr hu hS) (qR hok hr hu hS');unfold da;omega
def C5 (hok:Zv d)(r:List Nat)(u:Nat):da d r u 0=0:=by
 unfold da;rw[O7 hok];omega
def O9 (hok:Zv d)(hr:ZB d r)(hu:u∈r)(hS:Sub S (bD d u)):0<=da d r u S:=by
 have:=C4 hok hr hu (S:=0) hS fun i h=>by rw[VF]at h;cases h
 rw[C5 hok]at this;exact this
abbrev qS (d:Zq)(i:Nat):Nat:=dJ (az d.C) ((az d.C).getD i 0)
abbrev oh (d:Zq)(i:Nat):Nat:=(az d.C).getD i 0
structure DfsR (d:Zq)(v M M':Nat):Prop where
 sub:Sub M M'
 lt:M'<2 ^ d.C.length
 new:∀i,M'.testBit i=true->M.testBit i=false->(qS d i).testBit v=true
 nQ:∀c,c<d.C.length->(oh d c).testBit v=true->M'.testBit c=true
 cls:∀i c,M'.testBit i=true->M.testBit i=false->c<d.C.length->(oh d c).testBit i=true->M'.testBit c=true
structure ZZ (d:Zq)(v M w M':Nat):Prop where
 sub:Sub M M'
 lt:M'<2 ^ d.C.length
 new:∀i,M'.testBit i=true->M.testBit i=false->(qS d i).testBit v=true
 nQ:∀c,c<w->(oh d c).testBit v=true->M'.testBit c=true
 cls:∀i c,M'.testBit i=true->M.testBit i=false->c<d.C.length->(oh d c).testBit i=true->M'.testBit c=true
def ZZ.start (h:M<2 ^ d.C.length):ZZ d v M 0 M :=
 ⟨.refl _,h,fun i h1 h2=>(by rw[h1]at h2;cases h2),fun c h=>absurd h (Va _),fun i c h1 h2=>(by rw[h1]at h2;cases h2)⟩
def ZZ.done (h:ZZ d v M d.C.length M'):DfsR d v M M':=⟨h.sub,h.lt,h.new,h.nQ,h.cls⟩
def ZZ.met (h:ZZ d v M w M')(hm:M'.testBit w=true):ZZ d v M (w+1) M' :=
 ⟨h.sub,h.lt,h.new,fun c hc hp=>by
  by_cases e:c=w
  ·rw[e];exact hm
  ·exact h.nQ c V hp,h.cls⟩
def ZZ.no (h:ZZ d v M w M')(hp0:(oh d w).testBit v=false):ZZ d v M (w+1) M' :=
 ⟨h.sub,h.lt,h.new,fun c hc hp=>by
  by_cases e:c=w
  ·rw[e,hp0]at hp;cases hp
  ·exact h.nQ c V hp,h.cls⟩
def tf :(a |||2 ^ w).testBit i=true↔a.testBit i=true\/i=w:=by
 rw[Vc,Vu,Xd];exact or_congr_right ⟨fun h=>(of_decide_eq_true h).symm,fun h=>Vl h.symm⟩
def ZZ.step (hok:Zv d){M1 M2:Nat}(h:ZZ d v M w M1)(hw:w<d.C.length)(hv:v<d.C.length)(hp:(oh d w).testBit v=true)(hr:DfsR d w (M1 |||2 ^ w) M2):ZZ d v M (w+1) M2:=by
 have s1:Sub M1 M2:=fun i hi=>hr.sub i (tf.2 (.inl hi));have hw2:M2.testBit w=true:=hr.sub w (tf.2 (.inr rfl));have cases3:∀i,M2.testBit i=true->M1.testBit i=true\/i=w\/(M1 |||2 ^ w).testBit i=false:=fun i _=>by
  cases hb:(M1 |||2 ^ w).testBit i with
  |false=>exact .inr (.inr rfl)
  |true=>exact(tf.1 hb).imp (fun h2=>h2) .inl
 refine⟨h.sub.trans s1,hr.lt,fun i h1 h2=>?_,fun c hc hpc=>?_,fun i c h1 h2 hc hpc=>?_⟩
 ·rcases cases3 i h1 with h3|rfl|h3
  ·exact h.new i h3 h2
  ·exact qP hp
  ·have h4:=hr.new i h1 h3;have hil:i<d.C.length:=V7 fun hn=>by
    rw[Wc (U4 hr.lt (U7 Zk hn))]at h1;cases h1
   exact vh hok hil hw h4 v (qP hp)
 ·by_cases e:c=w
  ·rw[e];exact hw2
  ·exact s1 c (h.nQ c V hpc)
 ·rcases cases3 i h1 with h3|rfl|h3
  ·exact s1 c (h.cls i c h3 h2 hc hpc)
  ·exact hr.nQ c hc hpc
  ·exact hr.cls i c h1 h3 hc hpc
def Pa (hok:Zv d)(hu:u<d.C.length)(h:DfsR d u 0 M)(hi:i<d.C.length):M.testBit i=(qS d i).testBit u:=by
 rw[Wk];constructor
 ·exact fun h1=>h.new i h1 (VF i)
 ·intro ha;refine VI fun hno=>?_;have hno:M.testBit i=false:=by simpa using hno
  obtain⟨t,ht⟩:∃t:Nat,∀q,t.testBit q=true↔q<d.C.length/\q≠u/\M.testBit q=false :=
   ⟨dI ((List.range d.C.length).filter fun q=>decide (q≠u) && !M.testBit q),fun q=>by rw[lF,WQ,U9];simp⟩
  have cl:∀a,a<d.C.length->M.testBit a=false->Sub (oh d a) t:=fun a hal hM q hq=>by
   refine(ht q).2 ⟨za hok hal hq,fun e=>?_,?_⟩
   ·rw[e]at hq;rw[h.nQ a hal hq]at hM;cases hM
   ·cases hb:M.testBit q with
    |false=>rfl
    |true =>
     rw[h.cls q a hb (VF q) hal hq]at hM;cases hM
  have hc:me (az d.C) t:=fun a hal hb=>by
   obtain⟨h1,_,h3⟩:=(ht a).1 hb;exact cl a h1 h3
  have:=pC hc (az d.C).length (cl i hi hno) u ha;exact((ht u).1 this).2.1 rfl
def tg (d:Zq)(M:Nat):Nat:=((List.range d.C.length).filter fun i=>!M.testBit i).length
def Pb (hs:Sub M M')(hw:w<d.C.length)(h0:M.testBit w=false)(h1:M'.testBit w=true):tg d M'<tg d M:=by
 unfold tg;have key:∀n,((List.range n).filter fun i=>!M'.testBit i).length<=((List.range n).filter fun i=>!M.testBit i).length/\(w<n->((List.range n).filter fun i=>!M'.testBit i).length<((List.range n).filter fun i=>!M.testBit i).length):=by
  intro n
  induction n with
  |zero=>exact⟨Zm,fun h=>absurd h (Va _)⟩
  |succ n ih =>
   rw[VH,WB,WB,List.length_append,List.length_append];have e:∀N:Nat,((List.filter (fun i=>!N.testBit i) [n]).length=if N.testBit n=true then 0 else 1):=fun N=>by
    cases hb:N.testBit n<;>simp[hb]
   rw[e,e];have hsn:M.testBit n=true->M'.testBit n=true:=hs n;by_cases hwn:w=n
   ·subst hwn;rw[h0,h1];simp only[if_true,Bool.false_eq_true,if_false];omega
   ·refine⟨?_,fun h=>?_⟩
    ·by_cases hb:M.testBit n=true
     ·rw[UX hb,UX (hsn hb)];omega
     ·rw[UW hb];split<;>omega
    ·have:=ih.2 V;by_cases hb:M.testBit n=true
     ·rw[UX hb,UX (hsn hb)];omega
     ·rw[UW hb];split<;>omega
 exact(key _).2 hw
def T1 (h:l≠[])(b:Int):iD (l++[b])=max (iD l) b:=by
 cases l with
 |nil=>exact absurd rfl h
 |cons a l =>
  show (l++[b]).foldl max a=_;rw[V5];rfl
def T3 (l:List Int)(h0:l≠[])(hl:(l.length:Int)<2 ^ 62)(H:Zn)(K:Zt->Zn->Prop)(hK:K (.ret (aa (iD l))) H):ae prog G0 150 [af l] H K:=by
 have hpos:0<l.length:=List.length_pos_iff.2 h0;obtain⟨a,ha⟩:=aw hpos;have h1:¬((l.length:Int)<1):=V
 have hp1:(0:Int)<l.length:=V
 refine ae.st (n:=25) (rs:=[.tmp 2]) func150 ?_;simp only[go_sem,h1,ha,h0,hp1];refine W.aS 16773144 (by rfl) (fun ρ H'=>H'=H/\∃k:Nat,ρ 4=aa (k:Int)/\1<=k/\k<=l.length/\ρ 3=aa (iD (l.take k))) (fun ρ H=>l.length-(iv (ρ 4)).toNat) ?_ ?_
 ·simp only[go_sem];refine⟨1,rfl,Zm,V,?_⟩;rw[bd ha,List.take_zero];rfl
 rintro ρ H' ⟨rfl,k,h4,hk1,hk,h3⟩;refine W.vs ?_;by_cases hb:(k:Int)<l.length
 ·obtain⟨b,hkb⟩:=aw (l:=l) (i:=k) V;have hne:=bf hkb;have w1:=UU ((k:Int)+1) V;simp only[go_sem,h4,h3,hb,hkb,hne,w1,builtin_max];refine⟨⟨k+1,Zj,V,V,?_⟩,V⟩;rw[bd hkb,T1 (fun e=>by have:=congrArg List.length e;rw[Vd,Xq V]at this;rw[List.length_nil]at this;omega)];congr 2;split<;>omega
 ·simp only[go_sem,h4,h3,hb];rw[UY V];exact aj.mk Zm hK
def T4 {v:Int}(h:∀j,j<k->∀b,l[j]?=some b->b≠v)(hk:l[k]?=some v):l.idxOf v=k:=by
 induction l generalizing k with
 |nil=>simp at hk
 |cons a l ih =>
  cases k with
  |zero=>simp only[List.getElem?_cons_zero,Option.some.injEq]at hk;subst hk;simp
  |succ k =>
   have ha:=h 0 V a rfl;have hr:=ih (k:=k) (fun j hj b hb=>h (j+1) V b (by simpa using hb)) (by simpa using hk);have hbe:(a == v)=false:=beq_false_of_ne ha;simp[YJ,hbe,hr]
def T5 (l:List Int)(v:Int)(hv:v∈l)(hl:(l.length:Int)<2 ^ 62)(H:Zn)(K:Zt->Zn->Prop)(hK:K (.ret (aa ((l.idxOf v:Nat):Int))) H):ae prog G0 87 [af l,aa v] H K:=by
 refine ae.st (n:=19) (rs:=[.tmp 4]) func87 ?_;simp only[go_sem];refine W.aS 524080 (by rfl) (fun ρ H'=>H'=H/\∃k:Nat,ρ 8=aa k/\k<=l.length/\∀j,j<k->∀b,l[j]?=some b->b≠v) (fun ρ H=>l.length-(iv (ρ 8)).toNat) ?_ ?_
 ·simp only[go_sem];exact⟨0,rfl,V,fun j h=>absurd h (Va _)⟩
 rintro ρ H' ⟨rfl,k,h8,hk,hno⟩;refine W.vs ?_;by_cases hb:(k:Int)<l.length
 ·obtain⟨b,hkb⟩:=aw (l:=l) (i:=k) V;have hne:=bf hkb;have w1:=UU ((k:Int)+1) V;by_cases he:v=b
  ·subst he;simp only[go_sem,h8,hb,hkb,hne];rw[T4 hno hkb]at hK;exact aj.mk Zm hK
  ·simp only[go_sem,h8,hb,hkb,hne,he,w1];exact⟨⟨k+1,Zj,V,fun j hj b' hb'=>by
    by_cases hjk:j=k
    ·subst hjk;rw[hkb]at hb';cases hb';exact fun h=>he h.symm
    ·exact hno j V b' hb'⟩,V⟩
 ·exfalso;obtain⟨j,hj⟩:=U1.1 hv;exact hno j (by have:=aO hj;omega) v hj rfl
def fL (l:List Int)(v:Int):Int:=if v∈l then (l.idxOf v:Nat) else -1
def zc (l:List Int)(v:Int)(hl:(l.length:Int)<2 ^ 62)(H:Zn)(K:Zt->Zn->Prop)(hK:K (.ret (aa (fL l v))) H):ae prog G0 87 [af l,aa v] H K:=by
 by_cases hv:v∈l
 ·refine T5 l v hv hl H K ?_;unfold fL at hK;rw[UX hv]at hK;exact hK
 unfold fL at hK;rw[UW hv]at hK;refine ae.st (n:=19) (rs:=[.tmp 4]) func87 ?_;simp only[go_sem];refine W.aS 524080 (by rfl) (fun ρ H'=>H'=H/\∃k:Nat,ρ 8=aa k/\k<=l.length) (fun ρ H=>l.length-(iv (ρ 8)).toNat) ?_ ?_
 ·simp only[go_sem];exact⟨0,rfl,V⟩
 rintro ρ Hx ⟨rfl,k,h8,hk⟩;refine W.vs ?_;by_cases hb:(k:Int)<l.length;rotate_left
 ·simp only[go_sem,h8,hb];exact aj.mk Zm hK
 obtain⟨x,hx⟩:=aw (l:=l) (i:=k) V;have hx':(ints l)[k]?=some (aa x):=by rw[gX,hx];rfl
 have hne:=bf hx;have hxv:¬v=x:=fun h=>hv (h ▸ an hx);have w1:=UU ((k:Int)+1) V;simp only[go_sem,h8,hb,hx',hne,hxv,w1];exact⟨⟨k+1,rfl,V⟩,V⟩
def C6 (l:List Int)(v:Int)(hl:(l.length:Int)<2 ^ 62)(H:Zn)(K:Zt->Zn->Prop)(hK:K (.ret (.lit (.bool (decide (v∈l))))) H):ae prog G0 79 [af l,aa v] H K:=by
 refine ae.st (n:=9) (rs:=[.tmp 4]) func79 ?_;simp only[go_sem];refine ao.Z (zc l v hl H _ ⟨trivial,?_⟩);by_cases hv:v∈l
 ·rw[Vl hv]at hK;have h0:fL l v >= 0:=by unfold fL;rw[UX hv];omega
  simp only[go_sem,h0];exact aj.mk Zm hK
 ·rw[VP hv]at hK;have h0:¬fL l v >= 0:=by unfold fL;rw[UW hv];omega
  simp only[go_sem,h0];exact aj.mk Zm hK
def gY (d:Zq)(r:List Nat)(u:Nat):List Zo:=[aa d.nl,.Q d.C.length (aH d.C),aK d.X,.Q d.Y.length (bB d.Y),af (aG r),aa u]
structure Beh (d:Zq)(r:List Nat)(u s B:Nat)(H:Zn)(M:Nat):Prop where
 sl:s<B
 nx:B+2<H.A
 gs:H.get s=some (.J 0 157 (gY d r u))
 gb:H.get B=some (.J 0 101 [.O s 0 0])
 gm:H.get (B+1)=some (.J 0 34 [aK M])
 gw:H.get (B+2)=some (.J 0 197 [.Z 123 [] [.O B 0 0,.O (B+1) 0 0,.O (B+2) 0 0]])
def Beh.ng {s B:Nat}{H H':Zn}(h:Beh d r u s B H M)(hn:H.A<=H'.A)(hk:∀i,i<H.A->H'.get i=H.get i):Beh d r u s B H' M:=by
 have h1:=h.nx;have h2:=h.sl;exact⟨h2,V,(hk _ V).trans h.gs,(hk _ V).trans h.gb,(hk _ V).trans h.gm,(hk _ V).trans h.gw⟩
def Pe (hok:Zv d){s B:Nat}(hpl:∀x∈d.C,(x.F.length:Int)<2 ^ 62):∀(m M v:Nat) (H:Zn) (K:Zt->Zn->Prop),tg d M<m->v<d.C.length->M<2 ^ d.C.length->Beh d r u s B H M ->
  (∀H' M',DfsR d v M M'->Beh d r u s B H' M'->(∀i,i<H.A->i≠B+1->H'.get i=H.get i)->H.A<=H'.A->K (.ret (.nf [])) H') ->
  ae prog G0 123 [aa v,.O B 0 0,.O (B+1) 0 0,.O (B+2) 0 0] H K:=by
 have n8:=hok.n.n1;have p64:∀a:Nat,a<2 ^ d.C.length->a<2 ^ 64:=fun a h=>U4 h (U7 Zk V);intro m
 induction m with
 |zero=>exact fun M v H K hm=>absurd hm (Va _)
 |succ m ih =>
  intro M v H K hm hv hM hB hK;have ls:=ag hB.gs;have lb:=ag hB.gb;unfold gY at ls;refine ae.sw (n:=37) (rs:=[]) func123 ?_;refine W.sq ?_;simp only[go_sem,lb,ls];refine W.en (fun E=>E 0=aa v /\ E 2=.O (B+1) 0 0 /\ E 3=.O (B+2) 0 0 /\ E 11=.Q d.C.length (aH d.C) /\ E 12=aa d.C.length /\ E 13=aa 0) (by simp only[go_sem]) fun E ⟨e0,e2,e3,e11,e12,e13⟩=>?_
  refine W.block ?_;refine W.aS 137438945376 (by rfl) (fun ρ Hx=>∃k M1:Nat,ρ 13=aa k/\k<=d.C.length/\ZZ d v M k M1/\Beh d r u s B Hx M1/\(∀i,i<H.A->i≠B+1->Hx.get i=H.get i)/\H.A<=Hx.A) (fun ρ _=>d.C.length-(iv (ρ 13)).toNat) ?_ ?_
  ·exact⟨0,M,e13,V,.start hM,hB,fun _ _ _=>rfl,Zm⟩
  rintro ρ Hx ⟨k,M1,h13,hk,hD,hB1,hold,hn⟩;refine W.en (fun E1=>E1 0=aa v /\ E1 2=.O (B+1) 0 0 /\ E1 3=.O (B+2) 0 0 /\ E1 11=.Q d.C.length (aH d.C) /\ E1 12=aa d.C.length /\ E1 13=aa k) (by simp only[go_sem,e0,e2,e3,e11,e12,h13]) fun E1 ⟨f0,f2,f3,f11,f12,f13⟩=>?_
  by_cases hb:(k:Int)<d.C.length;rotate_left
  ·refine W.vs ?_;simp only[go_sem,f12,f13,hb];obtain rfl:k=d.C.length:=V;exact aj.mk hn (hK Hx M1 hD.done hB1 hold hn)
  obtain⟨x,hx⟩:=aw (l:=d.C) (i:=k) V;have c0:=ot hx;have cne:=fM hx;have w1:=UU ((k:Int)+1) V;have c3:k*3+3<=(aH d.C).length:=by rw[kq];omega
  refine W.sq ?_;simp only[go_sem,f12,f13,hb];refine W.sq ?_;simp only[go_sem];refine W.seq (W.block ?_);refine W.sq ?_;simp only[go_sem,f11,f13,hb,c0,cne,c3];obtain⟨H1,hH1⟩:∃H1,H1=ext Hx [.J 0 76 [.lit (.int .i64 x.L),.Q x.F.length (ints x.F),aZ x.nb]]:=⟨_,rfl⟩
  have o1:Zs Hx H1:=hH1▸.ext _ _
  have n1:H1.A=Hx.A+1:=hH1▸rfl
  have g6:=dp hH1
  have hB2:Beh d r u s B H1 M1:=hB1.ng V fun i h=>o1.nc i h;have bnx:=hB1.nx;have l6:=ag g6;have lm:=ag hB2.gm;have lw:=ag hB2.gw;have hold1:∀i,i<H.A->i≠B+1->H1.get i=H.get i:=fun i h h2=>(o1.nc i V).trans (hold i h h2);rw[<- hH1];clear hH1;have M64:=p64 M1 hD.lt;have s1:=fun t x y=>iY (P:=prog) (t:=t) (x:=x) (y:=y) (k':=.i64) (s:=k) M64;have s2:=fun t x y=>oO (P:=prog) (t:=t) (x:=x) (y:=y) (s:=k) M64;refine W.en (fun E2=>E2 0=aa v /\ E2 2=.O (B+1) 0 0 /\ E2 3=.O (B+2) 0 0 /\ E2 5=aa k /\ E2 6=.O Hx.A 0 0 /\ E2 13=aa k) (by simp only[go_sem,f0,f2,f3,f13]) fun E2 ⟨m0,m2,m3,m5,m6,m13⟩=>?_
  have hpx:=ma hok hx;have par:(oh d k).testBit v=decide ((v:Int)∈x.F):=by
   show ((az d.C).getD k 0).testBit v=_;rw[oe hx,gK fun p hp=>(hpx.2 p hp).1]
  cases hbit:M1.testBit k with
  |true =>
   refine W.sq ?_;simp only[go_sem,m2,m5,lm,s1,s2,hbit];refine W.cond (t:=false) (by simp only[go_sem]) ?_;refine W.vs ?_;simp only[go_sem];refine W.vs ?_;simp only[go_sem,m13,w1];exact⟨V,⟨k+1,M1,rfl,V,hD.met hbit,hB2,hold1,V⟩,by rw[h13];simp only[aa,bh];omega⟩
  |false =>
   refine W.sq ?_;simp only[go_sem,m0,m2,m5,m6,lm,l6,s1,s2,hbit];refine ao.Z (C6 x.F v (hpl x (an hx)) _ _ ⟨trivial,?_⟩);by_cases hv':(v:Int)∈x.F;rotate_left
   ·rw[VP hv']at par ⊢;simp only[go_sem];refine W.cond (t:=false) (by simp only[go_sem]) ?_;refine W.vs ?_;simp only[go_sem];refine W.vs ?_;simp only[go_sem,m13,w1];exact⟨V,⟨k+1,M1,rfl,V,hD.no par,hB2,hold1,V⟩,by rw[h13];simp only[aa,bh];omega⟩
   rw[Vl hv']at par ⊢;simp only[go_sem];refine W.cond (t:=true) (by simp only[go_sem]) ?_;have s3:=fun t x y=>kM (P:=prog) (t:=t) (x:=x) (y:=y) (k':=.i64) (s:=k) V;have hk2:2 ^ k<2 ^ d.C.length:=V3 Zk V;have s4:=fun t x y=>iX (P:=prog) (t:=t) (x:=x) (y:=y) M64 (p64 _ hk2);refine W.seq ?_;refine W.dr 3 [0,0,2] mixed ?_;simp only[go_sem,m2,m5,lm,s3,s4];obtain⟨H2,hH2⟩:∃H2,H2=H1.upd (B+1) (.J 0 34 [.lit (.int .u64 ((M1 |||2 ^ k:Nat):Int))]):=⟨_,rfl⟩
   have u1:∀i,i≠B+1->H2.get i=H1.get i:=fun i h=>by rw[hH2,ah,UW h]
   have n2:H2.A=H1.A:=(by rw[hH2];rfl);have bsl:=hB2.sl;have hB3:Beh d r u s B H2 (M1 |||2 ^ k):=⟨bsl,V,(u1 _ V).trans hB2.gs,(u1 _ V).trans hB2.gb,by rw[hH2,ah,UX rfl];rfl,(u1 _ V).trans hB2.gw⟩
   have lw3:=ag hB3.gw;rw[<- hH2];clear hH2;have hM0:M.testBit k=false:=by
    cases hb0:M.testBit k with
    |false=>rfl
    |true=>rw[hD.sub k hb0]at hbit;cases hbit
   have hlt:=Pb (d:=d) (M:=M) (M':=M1 |||2 ^ k) (w:=k) (fun i hi=>tf.2 (.inl (hD.sub i hi))) V hM0 (tf.2 (.inr rfl));refine W.vs ?_;simp only[go_sem,m3,m5,lw3];refine ao.Z (ih (M1 |||2 ^ k) k H2 _ V V (V8 hD.lt hk2) hB3 fun H3 M3 hR hB4 kp n3=>⟨trivial,?_⟩);simp only[go_sem];refine W.vs ?_;simp only[go_sem,m13,w1];exact⟨V,⟨k+1,M3,rfl,V,hD.step hok V hv par hR,hB4,fun i h1 h2=>(kp i V h2).trans ((u1 i h2).trans (hold1 i h1 h2)),V⟩,by rw[h13];simp only[aa,bh];omega⟩
def oo (d:Zq)(u:Nat):Nat:=dI ((List.range d.C.length).filter fun i=>(qS d i).testBit u)
def C9 :(oo d u).testBit i=true↔i<d.C.length/\(qS d i).testBit u=true:=by
 unfold oo;rw[lF,WQ,U9]
def Po (hok:Zv d)(hu:u<d.C.length)(h:DfsR d u 0 M):M=oo d u:=Vq fun i=>by
 rw[Wk,C9];rcases Vj i d.C.length with hi|hi
 ·rw[Pa hok hu h hi];exact⟨fun h=>⟨hi,h⟩,fun h=>h.2⟩
 ·rw[Wc (U4 h.lt (U7 Zk hi))];exact⟨fun h=>Bool.noConfusion h,fun h=>absurd h.1 V⟩
def Pp (hok:Zv d){s:Nat}(hpl:∀x∈d.C,(x.F.length:Int)<2 ^ 62)(hu:u<d.C.length)(H:Zn)(hs:H.get s=some (.J 0 157 (gY d r u)))(hsl:s<H.A)(K:Zt->Zn->Prop)(hK:K (.ret (aK (oo d u))) H):
  ae prog G0 80 [.O s 0 0] H K:=by
 refine ae.Z ⟨_,func80,rfl,rfl⟩ fun hcl=>?_;refine ae.sw (n:=13) (rs:=[.tmp 2]) func80 ?_;refine W.sq ?_;simp only[go_sem];refine W.sq ?_;simp only[go_sem];refine W.sq ?_;simp only[go_sem];refine W.sq ?_;simp only[go_sem];refine⟨⟨rfl,rfl,Zm⟩,?_⟩;obtain⟨H1,hH1⟩:∃H1,H1=ext H [.J 0 101 [.O s 0 0],.J 0 34 [.lit (.int .u64 0)],.J 0 197 [.Z 123 [] [.O H.A 0 0,.O (H.A+1) 0 0,.O (H.A+2) 0 0]]]:=⟨_,rfl⟩
 have o1:Zs H H1:=hH1▸.ext _ _
 have n1:H1.A=H.A+3:=hH1▸rfl
 have g0:=dp hH1
 have g1:=gE hH1 1 rfl
 have g2:=gE hH1 2 rfl
 have hB:Beh d r u s H.A H1 0:=⟨hsl,V,(o1.nc s hsl).trans hs,g0,g1,g2⟩
 have l0:=ag g0;have l2:=ag g2;have ls:=ag hB.gs;unfold gY at ls;have cc:(Zo.Z 123 [] [.O H.A 0 0,.O (H.A+1) 0 0,.O (H.A+2) 0 0]).cells=[.Z 123 [] [.O H.A 0 0,.O (H.A+1) 0 0,.O (H.A+2) 0 0]]:=rfl;simp only[cc,VX,List.drop_one,List.tail_cons,List.append_nil];rw[<- hH1];clear hH1;refine W.seq ?_;refine W.dr 5 [0,0,2,6,14] mixed ?_;simp only[go_sem,l0,l2,ls];refine ao.Z (Pe hok hpl (tg d 0+1) 0 u H1 _ (VY _) hu (W6 _) hB fun H2 M hD hB2 kp n2=>⟨trivial,?_⟩);have lm:=ag hB2.gm;have e:=Po hok hu hD;subst e;simp only[go_sem];refine W.vs ?_;simp only[go_sem,lm];refine aj.bH aF hcl ⟨V,fun i h=>(kp i V V).trans (o1.nc i h)⟩ (.lit _) hK
def Pq (hok:Zv d)(u:Nat):dE (dE (2 ^ d.C.length-1) d.X) (oo d u)=bD d u:=Vq fun i=>by
 have n8:=hok.n.n1;have h1:2 ^ d.C.length-1<2 ^ 64:=by
  have:=U7 (n:=2) Zk (show d.C.length<=64 by omega);have:=W6 d.C.length;omega
 rw[kL (xb _ _),kL h1,Wk,qO,Wz];have hb:=C9 (d:=d) (u:=u) (i:=i);rcases Vj i d.C.length with hi|hi
 ·rw[Vl hi];cases h2:d.X.testBit i<;>cases h3:(oo d u).testBit i<;>cases h4:(qS d i).testBit u<;>simp_all
 ·rw[VP V];simp;omega
def vk (hok:Zv d){s:Nat}(hpl:∀x∈d.C,(x.F.length:Int)<2 ^ 62)(hu:u<d.C.length)(H:Zn)(hs:H.get s=some (.J 0 157 (gY d r u)))(hsl:s<H.A)(K:Zt->Zn->Prop)(hK:K (.ret (aK (bD d u))) H):
  ae prog G0 41 [.O s 0 0] H K:=by
 have n8:=hok.n.n1;have ls:=ag hs;unfold gY at ls;have p1:=W6 d.C.length;have p2:=U7 (n:=2) Zk (show d.C.length<=8 by omega);have s1:=fun t x y=>kM (P:=prog) (t:=t) (x:=x) (y:=y) (k':=.i64) (s:=d.C.length) V;have w1:IntKind.u64.wrap ((2 ^ d.C.length:Nat)-1:Int)=((2 ^ d.C.length-1:Nat):Int):=by
  rw[show ((2 ^ d.C.length:Nat):Int)-1=((2 ^ d.C.length-1:Nat):Int) by omega];exact qc (V)
 have s2:=fun t x y=>mu (P:=prog) (t:=t) (x:=x) (y:=y) (a:=2 ^ d.C.length-1) (b:=d.X);have s3:=fun t x y=>mu (P:=prog) (t:=t) (x:=x) (y:=y) (a:=dE (2 ^ d.C.length-1) d.X) (b:=oo d u);refine ae.sw (n:=22) (rs:=[.tmp 2]) func41 ?_;refine W.sq ?_;simp only[go_sem];refine W.sq ?_;simp only[go_sem,ls,s1,w1];refine W.seq ?_;refine W.dr 9 [0,0,2,6,14,30,63,0,128] mixed ?_;simp only[go_sem,ls,s2];refine⟨aK (oo d u),[s],bF.mk (fun i hi=>by obtain rfl:=List.mem_singleton.1 hi;exact hsl) fun H2 h2 hn2=>Pp hok hpl hu H2 ((h2 s Zj).trans hs) V _ ⟨rfl,rfl⟩,?_⟩;unfold aK;simp only[go_sem,s3,Pq hok u];refine W.vs ?_;simp only[go_sem];exact aj.mk Zm hK
end Go.Proofs
namespace Go.Hx
variable {P:Program}
variable {l m:List Zo}{lo:Nat}{e:TypeId}{H:Zn}{u v:Zo}
structure ZT (lo:Nat)(H:Zn)(e:TypeId)(v:Zo)(l:List Zo)(u:Zo)(m:List Zo):Prop where
 a:aJ lo H e v l
 b:aJ lo H e u m
 ne:∀i g n g' n',v=.U i g 0 n 1->u≠.U i g' 0 n' 1
def ZT.symm (h:ZT lo H e v l u m):ZT lo H e u m v l:=⟨h.b,h.a,fun i g n g' n' h1 h2=>h.ne i g' n' g n h2 h1⟩
theorem ZT.nil :ZT lo H e (.lit (.slice none 0 0)) [] (.lit (.slice none 0 0)) []:=⟨.nil,.nil,fun _ _ _ _ _ h=>(by cases h)⟩
theorem ZT.ng {H':Zn}(h:ZT lo H e v l u m)(hn:H.A<=H'.A)(hk:∀id,lo<=id->id<H.A->H'.get id=H.get id):ZT lo H' e v l u m :=
 ⟨h.a.ng Zm hn fun id _ h1 h2 _ _=>hk id h1 h2,h.b.ng Zm hn fun id _ h1 h2 _ _=>hk id h1 h2,h.ne⟩
def ZT.app {n:Nat}{t:TypeId}{x:Zo}{z:List Zo}(ht:P.underlying t=some (.slice e))(hz:P.cellsOf e=1)(hzero:bS P e=some z)(hx:x.one=true)
  (hb:(l.length+1)*P.bytesOf e<=2 ^ 46/\l.length+1<=2 ^ 46) (h:ZT lo H e v l u m) (hlo:lo<=H.A) (hn:n=H.A+1):
  ∃v' H',bU P (ext H [.J 0 e [x]]) n t t v (.U H.A 0 0 1 1)=some (v',H')/\ZT lo H' e v' (l++[x]) u m/\H.A<=H'.A/\(∀k,k<lo->H'.get k=H.get k):=by
 have hsrc:dc (ext H [.J 0 e [x]]) 1 (.U H.A 0 0 1 1)=some (1,[x]):=by
  unfold dc;have:=ag (H:=ext H [.J 0 e [x]]) (g:=0) (dZ (b:=.J 0 e [x]));simp[this]
 have hne:(ext H [Zu.J 0 e [x]]).A=H.A+1:=rfl;obtain⟨ha,hbb,hnn⟩:=h;rcases ha with ⟨rfl,rfl⟩|⟨i,g,h1,h2,rfl,h4⟩
 ·have n2:(ext (ext H [.J 0 e [x]]) [.J 0 e [x]]).A=H.A+2:=rfl;have nc:∀k,k<H.A->(ext (ext H [.J 0 e [x]]) [.J 0 e [x]]).get k=H.get k:=fun k hk=>by rw[dz (by rw[hne];omega),dz hk]
  refine⟨.U (H.A+1) 0 0 1 1,ext (ext H [.J 0 e [x]]) [.J 0 e [x]],?_,⟨.inr ⟨H.A+1,0,V,by rw[n2];omega,Zj,?_⟩,hbb.ng Zm (by rw[n2];omega) fun id _ _ hid _ _=>nc id hid,fun i g n g' n' he hu=>?_⟩,by rw[n2];omega,fun k hk=>nc k V⟩
  ·unfold bU;rw[ht];simp only[hzero,hz,Option.bind_some,hsrc];rw[UW Zk,UX (by simpa using hb),uR (by rw[hn,hne]),hn];rfl
  ·rw[<- hne];exact dZ
  ·have:=(Zo.U.inj he).1;rcases hbb with ⟨rfl,_⟩|⟨j,g2,_,a2,rfl,_⟩
   ·cases hu
   ·have:=(Zo.U.inj hu).1;omega
 ·have h4':(ext H [.J 0 e [x]]).get i=some (.J g e l):=by rw[dz h2];exact h4
  refine⟨.U i (g+1) 0 (l.length+1) 1,(ext H [.J 0 e [x]]).upd i (.J (g+1) e (l++[x])),?_,⟨.inr ⟨i,g+1,h1,by rw[aP,hne];omega,Zj,by rw[ah,UX rfl]⟩,hbb.ng Zm (by rw[aP,hne];omega) fun id g3 _ hid _ hu=>?_,fun i' g' n' g'' n'' he hu=>hnn i g l.length g'' n'' rfl (by rw[hu,(Zo.U.inj he).1])⟩,by rw[aP,hne];omega,fun k hk=>?_⟩
  ·unfold bU;rw[ht];have hl:=ag h4';simp only[hzero,hz,Option.bind_some,hsrc,hl];rw[UX ⟨trivial,trivial,V,hb.1,hb.2,by simp[hx]⟩];simp
  ·rw[ah,UW,dz hid];rintro rfl;exact hnn id g l.length g3 _ rfl hu
  ·rw[ah,UW V,dz V]
end Go.Hx

namespace Go.Proofs
open Go.Hx Tryz
variable {tot:Int}{vals:List Int}{r:List Nat}{j0 k k0 lo n v:Nat}{I:Nat->Nat->Nat}{α:Type}{H H':Zn}{lvh:Zo}{d:Zq}{D:Zx}
def iV (d:Zq)(vals:List Int):List Int:=(List.range d.C.length).map (jA d vals)
def wU (d:Zq)(vals:List Int):(iV d vals).length=d.C.length:=by simp[iV]
def Aw (h:v<d.C.length):(iV d vals)[v]?=some (jA d vals v):=by
 unfold iV;rw[List.getElem?_map,Vz h];rfl
structure RowNo (d:Zq)(x:Zp)(vals:List Int)(v i:Nat)(r:List Int)(a w:Int):Prop where
 idx:bN (aT d.C x) (aL vals x.F)=i
 row:x.nb[i]?=some r
 val:vals[v]?=some a
 a0:0<=a
 hw:r[a.toNat]?=some w
 wb:0<=w/\w<=60
 eq:jA d vals v=w
 al:a<r.length
def F2 (hok:Zv d){x:Zp}(hx:d.C[v]?=some x)(hb:¬d.X.testBit v=true)(hf:cK (au d.C) vals):∃i r a w,RowNo d x vals v i r a w:=by
 have hx2:=jF (c:=fun _ _=>0) hx;rw[oG hb]at hx2;obtain⟨i,r,a,w,hR⟩:=Fs hok.nC hx2 (vals:=vals) (by rw[jX];exact hf);have hi:=hR.idx;rw[rI]at hi;have hg:=hok.nC.g1;have h60:=hR.wb;refine⟨i,r,a,w,hi,hR.row,hR.val,hR.a0,hR.hw,V,?_,hR.al⟩;unfold jA;rw[UW hb];unfold fX;rw[hx];simp only;unfold jz;rw[hi,Int.toNat_natCast,bK hR.row,bK hR.val,bK hR.hw]
def F3 (hok:Zv d)(hf:cK (au d.C) vals)(hv:v<d.C.length):0<=jA d vals v/\jA d vals v<=60:=by
 obtain⟨x,hx⟩:=aw hv;by_cases hb:d.X.testBit v=true
 ·unfold jA;rw[UX hb];have:=hok.nC.g1;omega
 ·obtain⟨i,r,a,w,hR⟩:=F2 hok hx hb hf;rw[hR.eq];exact hR.wb
def F4 (hok:Zv d)(hf:cK (au d.C) vals)(k:Nat):0<=aB ((iV d vals).take k)/\aB ((iV d vals).take k)<=167961600000000:=by
 have hb:∀w∈iV d vals,0<=w/\w<=60:=fun w hw=>by
  obtain⟨v,hv,rfl⟩:=Vb.1 hw;exact F3 hok hf (U9.1 hv)
 have h1:=pB (b:=60) V (l:=(iV d vals).take k) fun x hx=>hb x (Vk hx);have h2:=Ai ((iV d vals).take k).length (by have:=hok.n.n1;rw[Vd,wU];omega);omega
def eh (d:Zq):List Int:=(List.range (cI d.C)).map fun (i:Nat)=>cL d (wv d i)
def dN (d:Zq):List Int:=(List.range (cI d.C)).map fun (i:Nat)=>di d (wv d i)
def Ue (h:k<cI d.C):(eh d)[k]?=some (cL d (wv d k)):=by unfold eh;rw[List.getElem?_map,Vz h];rfl
def Ax (h:k<cI d.C):(dN d)[k]?=some (di d (wv d k)):=by unfold dN;rw[List.getElem?_map,Vz h];rfl
def F5 (d:Zq):(eh d).length=cI d.C:=by simp[eh]
def F6 (d:Zq):(dN d).length=cI d.C:=by simp[dN]
def Ay {ns:List Zp}{us:List ZC}(hu:∀u∈us,ZO ns u)(h4:us.length<=4)(vals:List Int):-400<=cX ns us vals/\cX ns us vals<=400:=by
 have b:=wE hu h4 vals us.length;rw[UY Zm]at b;exact b
def Uf (d:Zq)(hok:Zv d)(hD:d.X<2 ^ 64)(H:Zn)(K:Zt->Zn->Prop)(hK:K (.ret (.nf [af (eh d),af (dN d)])) H):ae prog G0 110 [dk d] H K:=by
 refine ae.Z ⟨_,func110,rfl,rfl⟩ fun hcl=>?_;obtain⟨ns,hns⟩:∃ns,ns=d.C:=⟨_,rfl⟩
 have n8:=hok.n.n1;have hcd:=hok.n.L;have hcards:∀c∈au d.C,1<=c/\c<=4:=fun c hc=>by
  obtain⟨x,hx,rfl⟩:=Vb.1 hc;exact hcd x hx
 have sm:eW (au d.C):=rL (by rw[eO];omega) hcards;have hp:=fV fun c hc=>(hcards c hc).1;have hsz:=sm.prod;have hw:((cI d.C:Nat):Int)=aB (au d.C):=by unfold cI;omega
 have hu4:=hok.Y.1;have hus:=hok.Y.2;refine ae.st (n:=105) (rs:=[.cell 2 72,.cell 3 72]) func110 ?_;simp only[go_sem,ie,cZ];refine ao.Z (Fv d.C V _ _ ⟨trivial,?_⟩);simp only[go_sem];refine ao.Z (Fq (au d.C) _ _ ⟨trivial,?_⟩);simp only[go_sem];obtain⟨H2,hH2⟩:∃H2,H2=ext (ext H [.J 0 38 (cZ d),.J 0 72 [.lit (.slice none 0 0)],.J 0 72 [.lit (.slice none 0 0)],.J 0 72 [af (au d.C)]]) [.J 0 72 [af (au d.C)]]:=⟨_,rfl⟩
 have n2:H2.A=H.A+5:=by rw[hH2];rfl
 have o2:Zs H H2:=by rw[hH2];exact(Zs.ext _ _).trans (.ext _ _)
 have g0:H2.get H.A=some (.J 0 38 (cZ d)):=by rw[hH2,dY];exact bO H _ 0 (Zj)
 have g1:H2.get (H.A+1)=some (.J 0 72 [.lit (.slice none 0 0)]):=by rw[hH2,dY];exact bO H _ 1 (Zj)
 have g2:H2.get (H.A+2)=some (.J 0 72 [.lit (.slice none 0 0)]):=by rw[hH2,dY];exact bO H _ 2 (Zj)
 have g3:H2.get (H.A+3)=some (.J 0 72 [af (au d.C)]):=by rw[hH2,dY];exact bO H _ 3 (Zj)
 have g4:H2.get (H.A+4)=some (.J 0 72 [af (au d.C)]):=by rw[hH2,dY];exact bO H _ 4 (Zj)
 refine W.env fun E hE=>?_;have e1:E 1=.O H.A 0 0:=by rw[hE];simp only[go_sem]
 have e2:E 2=.O (H.A+1) 0 0:=by rw[hE];simp only[go_sem]
 have e3:E 3=.O (H.A+2) 0 0:=by rw[hE];simp only[go_sem]
 have e4:E 4=.O (H.A+3) 0 0:=by rw[hE];simp only[go_sem]
 have e20:E 20=.Z 176 [] [.O (H.A+4) 0 0]:=by rw[hE];rfl
 clear hE;unfold cZ at hH2;show W _ _ _ _ _ _ ⟨E,ext (ext H [.J 0 38 [.lit (.int .i64 d.nl),.Q d.C.length (aH d.C),.lit (.int .u64 (d.X:Int)),.Q d.Y.length (bB d.Y)],.J 0 72 [.lit (.slice none 0 0)],.J 0 72 [.lit (.slice none 0 0)],.J 0 72 [af (au d.C)]]) [.J 0 72 [af (au d.C)]]⟩;rw[<- hH2];have hit:=Fp (au d.C) (fun c hc=>(hcards c hc).1) sm (H.A+4) (H2.A+1) V;refine W.Gd (f:=176) (first:=[]) (cap:=[.O (H.A+4) 0 0]) (by show E 20=_;exact e20) hit
  (fun k Hx=>H2.A<Hx.A/\(∀id,id<H2.A->id≠H.A+1->id≠H.A+2->Hx.get id=H2.get id)/\∃v u,Hx.get (H.A+1)=some (.J 0 72 [v])/\Hx.get (H.A+2)=some (.J 0 72 [u])/\ZT (H2.A+2) Hx 3 v (ints ((eh d).take k)) u (ints ((dN d).take k)))
  (fun _ _=>False)
  (fun k Hx h=>(h.2.1 _ V V V).trans g4)
  (fun k H1 H3 h hw=>⟨by have:=hw.1;omega,fun id h1 h2 h3=>(hw.2 _ V (by have:=h.1;omega)).trans (h.2.1 id h1 h2 h3),by
   obtain⟨v,u,a1,a2,a3⟩:=h.2.2;exact⟨v,u,(hw.2 _ V (by have:=h.1;omega)).trans a1,(hw.2 _ V (by have:=h.1;omega)).trans a2,a3.ng hw.1 fun id h1 h2=>hw.2 id V h2⟩⟩)
  (fun k Hx h=>h.1)
  (fun k H1 b h=>⟨h.1,fun id h1 h2 h3=>by rw[ah,UW V];exact h.2.1 id h1 h2 h3,by
   obtain⟨v,u,a1,a2,a3⟩:=h.2.2;exact⟨v,u,by rw[ah,UW V];exact a1,by rw[ah,UW V];exact a2,a3.ng Zm fun id h1 h2=>by rw[ah,UW V]⟩⟩)
  (fun _ _ _ h=>h) (fun k H1 b h=>by unfold rK at h ⊢;rw[ah,UW V];exact h)
  (fun b=>⟨by rw[aV];simp,fun id h1 h2 h3=>dz h1,_,_,by rw[dz V];exact g1,by rw[dz V];exact g2,.nil⟩) (Zk)
  (fun x hx=>by
   obtain⟨k,hk⟩:=U1.1 hx;obtain⟨_,rfl⟩:=wD hk;rfl) (fun _ _ _=>trivial) (fun _ _ _=>trivial) (fun k y Hx B Bb hy hj hcs hn hB hBb=>?_) (fun Hx hj hn=>?_) (fun _ hs _=>hs.elim) (fun _ _ hs _=>hs.elim)
 ·obtain⟨hk,rfl⟩:=wD hy;refine W.vs ?_;simp only[go_sem,jK,dq,mw,V1,Xj,WA,WJ,hB];obtain⟨H3,hH3⟩:∃H3,H3=Hx.upd H2.A Bb:=⟨_,rfl⟩
  rw[<- hH3];obtain⟨st,pd,n',en,ps',as',bo,hBe⟩:=hBb;have n3:H3.A=Hx.A:=by rw[hH3];rfl
  have o3:∀id,id≠H2.A->H3.get id=Hx.get id:=fun id h=>by rw[hH3,ah,UW h]
  have jB:H3.get H2.A=some Bb:=by rw[hH3,ah,UX rfl]
  obtain⟨pv,pu,a1,a2,a3⟩:=hj.2.2;have k0:=(o3 _ V).trans ((hj.2.1 H.A V V V).trans g0);have k3:=(o3 _ V).trans ((hj.2.1 (H.A+3) V V V).trans g3);have k1:=(o3 _ V).trans a1;have k2:=(o3 _ V).trans a2;have a4:ZT (H2.A+2) H3 3 pv (ints ((eh d).take k)) pu (ints ((dN d).take k)):=a3.ng V fun id h1 h2=>o3 id V;have kN:H3.get (H2.A+1)=some (.J 0 3 (ints (bW (au d.C) k))):=(o3 _ V).trans hcs;obtain⟨vals,hvals⟩:∃vals,vals=wv d k:=⟨_,rfl⟩
  have hfit:cK (au d.C) vals:=by rw[hvals];exact tu (fun c hc=>(hcards c hc).1) _
  have kN2:H3.get (H2.A+1)=some (.J 0 3 (ints vals)):=by rw[hvals];exact kN
  have hvl:vals.length=d.C.length:=by rw[hfit.1,eO]
  unfold cZ at k0;refine W.en (fun E1=>E1 1=.O H.A 0 0 /\ E1 2=.O (H.A+1) 0 0 /\ E1 3=.O (H.A+2) 0 0 /\ E1 4=.O (H.A+3) 0 0 /\ E1 6=.U (H2.A+1) 0 0 d.C.length 1) (by simp only[go_sem,dq,e1,e2,e3,e4,eO]) fun E1 ⟨m1,m2,m3,m4,m6⟩=>?_
  have l0:=ag k0;refine W.vs ?_;simp only[go_sem,m1,l0];refine W.aS 576460752236315520 (by rfl) (fun ρ2 H4=>∃v:Nat,ρ2 26=aa v/\v<=d.C.length/\Zs H3 H4/\ρ2 7=aa (aB ((iV d vals).take v))) (fun ρ2 H=>d.C.length-(iv (ρ2 26)).toNat) ?_ ?_
  ·simp only[go_sem];exact⟨0,rfl,V,.refl _,by simp[iK]⟩
  rintro ρ2 H4 ⟨v,h26,hv,o4,h7⟩;refine W.en (fun E2=>E2 1=.O H.A 0 0 /\ E2 2=.O (H.A+1) 0 0 /\ E2 3=.O (H.A+2) 0 0 /\ E2 4=.O (H.A+3) 0 0 /\ E2 6=.U (H2.A+1) 0 0 d.C.length 1 /\ E2 7=aa (aB ((iV d vals).take v)) /\ E2 24=.Q d.C.length (aH d.C) /\ E2 25=aa d.C.length /\ E2 26=aa v) (by simp only[go_sem,m1,m2,m3,m4,m6,h7,h26]) fun E2 ⟨p1,p2,p3,p4,p6,p7,p24,p25,p26⟩=>?_
  have o4n:=o4.A;have q0:=ag ((o4.nc _ V).trans k0);have gN4:=(o4.nc _ V).trans kN2;refine W.vs ?_;by_cases hb:(v:Int)<d.C.length
  ·obtain⟨x,hx⟩:=aw (l:=d.C) (i:=v) V;have hne:=fM hx;have c0:=ot hx;have c1:v*3+3<=(aH d.C).length:=(by rw[kq];omega);have wt:=F4 hok hfit (v+1);rw[bd (Aw (d:=d) (vals:=vals) (v:=v) V),ji]at wt;have w1:=UU ((v:Int)+1) V;obtain⟨H5,hH5⟩:∃H5,H5=ext H4 [.J 0 76 [.lit (.int .i64 x.L),.Q x.F.length (ints x.F),aZ x.nb]]:=⟨_,rfl⟩
   have n5:H5.A=H4.A+1:=(by rw[hH5];rfl);have f0:=ag (show H5.get H.A=some (.J 0 38 [.lit (.int .i64 d.nl),.Q d.C.length (aH d.C),.lit (.int .u64 (d.X:Int)),.Q d.Y.length (bB d.Y)]) by rw[hH5,c9 _ _ _ V];exact(o4.nc _ V).trans k0);have f4:=ag (show H5.get H4.A=some (.J 0 76 [.lit (.int .i64 x.L),.Q x.F.length (ints x.F),aZ x.nb]) by rw[hH5];exact dZ);have gN5:H5.get (H2.A+1)=some (.J 0 3 (ints vals)):=(by rw[hH5,c9 _ _ _ V];exact gN4);have fN:=ag gN5;have s1:=fun t x y=>iY (P:=prog) (t:=t) (x:=x) (y:=y) (k':=.i64) (s:=v) hD;have s2:=fun t x y=>oO (P:=prog) (t:=t) (x:=x) (y:=y) (s:=v) hD;cases hbit:d.X.testBit v
   ·obtain⟨i,r,a,w,hR⟩:=F2 hok hx (by rw[hbit];simp) hfit;obtain⟨a',rfl⟩:=U2 hR.a0;rw[hR.eq]at wt;have hxp:bV x.F d.C.length:=by
     have:=(hok.nC.node _ (an (jF (c:=fun _ _=>0) hx))).2;rw[(iN ..).2,ig]at this;exact this
    have hin:iG x.F d.C.length:=fun q hq=>by have:=hxp.2 q hq;omega
    have hpc:bF prog G0 (.Z 147 [] []) [.Q d.C.length (aH d.C),.lit (.int .i64 v),.U (H2.A+1) 0 0 d.C.length 1] H5 (.lit (.int .i64 i)) [H2.A+1]:=by
     have:=Ft d.C v x vals hx hin (oJ n8.2 hxp hcd) hfit H5 (H2.A+1) d.C.length V gN5 hvl.symm;rw[hR.idx]at this;exact this
    have hri:=hR.row;have hrne:=bf hri;have hrl:(i:Int)<x.nb.length:=(by have:=aO hri;omega);have hva:=hR.val;have hra:r[a']?=some w:=(by have:=hR.hw;rw[Int.toNat_natCast]at this;exact this);have hrane:=bf hra;have hal:=hR.al;have w2:=UU (aB ((iV d vals).take v)*w) V;simp only[go_sem,p1,p24,p25,p26,hb,hne,c0,c1];rw[<- hH5];simp only[go_sem,f0,s1,s2,hbit];refine W.dr 16 [0,0,2,0,8,0,0,120,254,510,0,0,3072,7168,16382,32766] mixed ?_;simp only[go_sem,p1,p6,p7,f0,f4,aZ];refine⟨.lit (.int .i64 i),[H2.A+1],hpc,?_⟩;have hvn:(v:Int)<d.C.length:=hb;simp only[go_sem,p1,p6,p7,p26,fN,hri,hrne,hrl,hra,hrane,hva,hal,hvn,w1,w2];exact⟨V,⟨_,_,_,_,_,_,_,by rw[hH5,c9 _ _ _ V,o4.nc _ V,jB,hBe]⟩,⟨v+1,Zj,V,by rw[hH5];exact o4.trans (.ext _ _),by rw[bd (Aw (d:=d) (vals:=vals) (v:=v) V),ji,hR.eq]⟩,by rw[h26];simp only[aa,bh];omega⟩
   ·have hg:jA d vals v=d.nl:=UX hbit;rw[hg]at wt;have w2:=UU (aB ((iV d vals).take v)*d.nl) V;simp only[go_sem,p1,p24,p25,p26,hb,hne,c0,c1];rw[<- hH5];simp only[go_sem,p1,p7,p26,f0,s1,s2,hbit,w1,w2];exact⟨V,⟨_,_,_,_,_,_,_,by rw[hH5,c9 _ _ _ V,o4.nc _ V,jB,hBe]⟩,⟨v+1,Zj,V,by rw[hH5];exact o4.trans (.ext _ _),by rw[bd (Aw (d:=d) (vals:=vals) (v:=v) V),ji,hg]⟩,by rw[h26];simp only[aa,bh];omega⟩
  ·rw[UY (by rw[wU];omega)]at p7;have hgp:aB (iV d vals)=cL d vals:=rfl;rw[hgp]at p7;simp only[go_sem,p25,p26,hb,p1,q0];refine W.aS 9903520309671356180765651968 (by rfl) (fun ρ3 H6=>∃j:Nat,ρ3 62=aa j/\j<=d.Y.length/\Zs H4 H6/\ρ3 10=aa (cX d.C (d.Y.take j) vals)) (fun ρ3 H=>d.Y.length-(iv (ρ3 62)).toNat) ?_ ?_
   ·simp only[go_sem];exact⟨0,rfl,V,.refl _,by simp[cX]⟩
   rintro ρ3 H6 ⟨j,h62,hjl,o6,h10⟩;refine W.env fun E3 hE3=>?_;have r2:E3 2=.O (H.A+1) 0 0:=(by rw[hE3];simp only[go_sem,p2]);have r3:E3 3=.O (H.A+2) 0 0:=(by rw[hE3];simp only[go_sem,p3]);have r4:E3 4=.O (H.A+3) 0 0:=(by rw[hE3];simp only[go_sem,p4]);have r6:E3 6=.U (H2.A+1) 0 0 d.C.length 1:=(by rw[hE3];simp only[go_sem,p6]);have r7:E3 7=aa (cL d vals):=(by rw[hE3];simp only[go_sem,p7]);have r10:E3 10=aa (cX d.C (d.Y.take j) vals):=(by rw[hE3];simp only[go_sem,h10]);have r60:E3 60=.Q d.Y.length (bB d.Y):=(by rw[hE3];simp only[go_sem]);have r61:E3 61=aa d.Y.length:=(by rw[hE3];simp only[go_sem]);have r62:E3 62=aa j:=(by rw[hE3];simp only[go_sem,h62]);clear hE3;have o36:=o4.trans o6;have o6n:=o6.A;have gN6:=(o36.nc _ V).trans kN2;have q3:=(o36.nc _ V).trans k3;refine W.vs ?_;by_cases hb2:(j:Int)<d.Y.length
   ·obtain⟨u,hku⟩:=aw (l:=d.Y) (i:=j) V;have huo:=hus u (an hku);have hne:=zm hku;have c0:=zk hku;have c1:j*2+2<=(bB d.Y).length:=(by rw[zj];omega);have v8:=huo.vars.len;obtain⟨H7,hH7⟩:∃H7,H7=ext H6 [.J 0 87 [.Q u.vars.length (ints u.vars),.Q u.w.length (ints u.w)]]:=⟨_,rfl⟩
    have n7:H7.A=H6.A+1:=(by rw[hH7];rfl);have l7:=ag (show H7.get H6.A=some (.J 0 87 [.Q u.vars.length (ints u.vars),.Q u.w.length (ints u.w)]) by rw[hH7];exact dZ);have l7N:=ag (show H7.get (H2.A+1)=some (.J 0 3 (ints vals)) by rw[hH7,dz V];exact gN6);have l73:=ag (show H7.get (H.A+3)=some (.J 0 72 [af (au d.C)]) by rw[hH7,dz V];exact q3);have smu:=wC n8.2 huo.vars hcd;have hin:iG u.vars d.C.length:=fun q hq=>by have:=huo.vars.2 q hq;omega
    have fp:cK (aL (au d.C) u.vars) (aL vals u.vars):=pT (x:=⟨0,u.vars,[]⟩) hin hfit;have pl:(aL (au d.C) u.vars).length=u.vars.length:=jk _ _;have vl:(aL vals u.vars).length=u.vars.length:=jk _ _;have ft:∀j,cK ((aL (au d.C) u.vars).take j) ((aL vals u.vars).take j):=fun j=>⟨by simp[pl,vl],fun i c b h1 h2=>by
     rw[Yy]at h1 h2;split at h1
     ·rename_i hik;rw[UX hik]at h2;exact fp.2 i c b h1 h2
     ·cases h1⟩
    have hr:∀j,0<=iB ((aL (au d.C) u.vars).take j) ((aL vals u.vars).take j)/\iB ((aL (au d.C) u.vars).take j) ((aL vals u.vars).take j)<68719476737:=fun j=>by
     rw[vB (ft j).1];have a:=ou (ft j);have b:=(smu.take j).prod;omega
    simp only[go_sem,r60,r61,r62,hb2,hne,c0,c1];rw[<- hH7];refine W.aS 38685035931857774884986880 (by rfl) (fun ρ4 H8=>H8=H7/\∃i:Nat,ρ4 69=aa i/\i<=u.vars.length/\ρ4 13=aa (iB ((aL (au d.C) u.vars).take i) ((aL vals u.vars).take i))) (fun ρ4 H=>u.vars.length-(iv (ρ4 69)).toNat) ?_ ?_
    ·simp only[go_sem];exact⟨0,rfl,V,rfl⟩
    rintro ρ4 H8 ⟨rfl,i,h69,hi,h13⟩;refine W.vs ?_;by_cases hb3:(i:Int)<u.vars.length
    ·obtain⟨q,hq⟩:=aw (l:=u.vars) (i:=i) V;obtain⟨t,rfl,y,hy⟩:=mQ (l:=d.C) (hin q (an hq)).1 (hin q (an hq)).2;obtain⟨b,hbv⟩:=aw (l:=vals) (i:=t) (by rw[hvl];exact aO hy);have hyb:=hfit.2 t y.L b (cS hy) hbv;have a1:(aL (au d.C) u.vars)[i]?=some y.L:=(by rw[jY hq,Int.toNat_natCast,bK (cS hy)]);have a2:(aL vals u.vars)[i]?=some b:=(by rw[jY hq,Int.toNat_natCast,bK hbv]);have hne2:=bf hq;have hne3:=bf hbv;have hyc:=cS hy;have hne4:=bf hyc;have ht:(t:Int)<d.C.length:=(by have:=aO hy;omega);have htc:(t:Int)<(au d.C).length:=(by rw[eO];omega);have ht2:(t:Int)<vals.length:=V;have w1:=UU ((i:Int)+1) V;have r1:=hr (i+1);rw[vC a1 a2]at r1;have r0:=hr i;have m0:0<=iB ((aL (au d.C) u.vars).take i) ((aL vals u.vars).take i)*y.L:=WG r0.1 (by have:=hcd y (an hy);omega);have w2:=UU (iB ((aL (au d.C) u.vars).take i) ((aL vals u.vars).take i)*y.L) V;have w3:=UU (iB ((aL (au d.C) u.vars).take i) ((aL vals u.vars).take i)*y.L+b) V;simp only[go_sem,h69,hb3,hq,hne2];refine W.dr 10 [0,0,0,6,14,31,0,0,192,448] mixed ?_;simp only[go_sem,h69,h13,r4,r6,l73,l7N,hne4,ht,htc,hbv,hyc,w1,w2,w3];exact⟨⟨_,_,_,_,_,_,_,by rw[hH7,dz V,o36.nc _ V,jB,hBe]⟩,⟨i+1,Zj,V,by rw[vC a1 a2]⟩,V⟩
    ·rw[UY V,UY V,vB (by rw[pl,vl])]at h13;have hx:=ou fp;obtain⟨ix,hix⟩:=U2 hx.1;have hsz2:=huo.size;obtain⟨w,hw'⟩:=aw (l:=u.w) (i:=ix) V;have hwne:=bf hw';have hwl:(ix:Int)<u.w.length:=(by have:=aO hw';omega);have eu:ox d.C vals u=w:=(by unfold ox;rw[hix,Int.toNat_natCast,bK hw']);have us1:cX d.C (d.Y.take (j+1)) vals=cX d.C (d.Y.take j) vals+w:=(by rw[bd hku];unfold cX;simp[eu]);have b1:=wE hus hu4 vals j;have b2:=wE hus hu4 vals (j+1);rw[us1]at b2;have w1:=UU ((j:Int)+1) V;have w2:=UU (cX d.C (d.Y.take j) vals+w) V;rw[hix]at h13;simp only[go_sem,h69,h13,r10,r62,l7,hb3,hw',hwne,hwl,w1,w2];exact⟨V,⟨_,_,_,_,_,_,_,by rw[hH7,dz V,o36.nc _ V,jB,hBe]⟩,⟨j+1,Zj,V,by rw[hH7];exact o6.trans (.ext _ _),by rw[us1]⟩,by rw[h62];simp only[aa,bh];omega⟩
   ·rw[UY V]at r10;have hkw:k<cI d.C:=hk;have bu:=Ay hus hu4 vals;have bg:=F4 hok hfit d.C.length;rw[UY (by rw[wU];omega),hgp]at bg;have m1:-67184640000000000<=cL d vals*cX d.C d.Y vals/\cL d vals*cX d.C d.Y vals<=67184640000000000:=by
     constructor
     ·have h1:cL d vals*(-400)<=cL d vals*cX d.C d.Y vals:=VE bu.1 bg.1;omega
     ·have h1:cL d vals*cX d.C d.Y vals<=cL d vals*400:=VE bu.2 bg.1;omega
    have w2:=UU (cL d vals*cX d.C d.Y vals) V;have hl1:((eh d).take k).length=k:=(by rw[Vd,F5];omega);have hl2:((dN d).take k).length=k:=(by rw[Vd,F6];omega);have hw40:cI d.C<=2 ^ 40:=V;have a6:ZT (H2.A+2) H6 3 pv (ints ((eh d).take k)) pu (ints ((dN d).take k)):=a4.ng o36.A fun id h1 h2=>o36.nc id h2;obtain⟨pv',H7,hA1,hO1,hn7,hp7⟩:=a6.app (P:=prog) (t:=72) (x:=aa (cL d vals)) (n:=H6.A+1) Tryz.underlying72 Tryz.fK Tryz.fy rfl (by rw[Tryz.gI,bG,hl1];omega) V rfl;simp only[aa]at hA1;have l61:=ag ((o36.nc _ V).trans k1);have l61e:∀L,(ext H6 L).na (H.A+1) 0=some (72,[pv]):=fun L=>(eo V).trans l61;have l71:=ag ((hp7 (H.A+1) V).trans ((o36.nc _ V).trans k1));obtain⟨H8,hH8⟩:∃H8,H8=H7.upd (H.A+1) (.J 0 72 [pv']):=⟨_,rfl⟩
    have n8':H8.A=H7.A:=(by rw[hH8];rfl);have o8:∀id,id≠H.A+1->H8.get id=H7.get id:=fun id h=>by rw[hH8,ah,UW h]
    have a8:ZT (H2.A+2) H8 3 pv' (ints ((eh d).take k)++[aa (cL d vals)]) pu (ints ((dN d).take k)):=hO1.ng V fun id h1 h2=>o8 id V;obtain⟨pu',H9,hA2,hO2,hn9,hp9⟩:=a8.symm.app (P:=prog) (t:=72) (x:=aa (cL d vals*cX d.C d.Y vals)) (n:=H8.A+1) Tryz.underlying72 Tryz.fK Tryz.fy rfl (by rw[Tryz.gI,bG,hl2];omega) V rfl;simp only[aa]at hA2;have l82:=ag ((o8 (H.A+2) V).trans ((hp7 (H.A+2) V).trans ((o36.nc _ V).trans k2)));have l82e:∀L,(ext H8 L).na (H.A+2) 0=some (72,[pu]):=fun L=>(eo V).trans l82;have l92:=ag ((hp9 (H.A+2) V).trans ((o8 (H.A+2) V).trans ((hp7 (H.A+2) V).trans ((o36.nc _ V).trans k2))));have one1:=hO1.a.one;have cel1:=hO1.a.cells;have one2:=hO2.a.one;have cel2:=hO2.a.cells;have pc1:=a6.a.cells;have pc2:=a6.b.cells;simp only[go_sem,r2,r3,r7,r61,r62,hb2,l61,l71,hA1,one1,cel1];rw[<- hH8];simp only[go_sem,r3,r7,r10,l82,l92,hA2,one2,cel2,w2,ij];have hget:∀id,id<H2.A+2->id≠H.A+1->id≠H.A+2->(H9.upd (H.A+2) (.J 0 72 [pu'])).get id=H3.get id:=fun id h1 h2 h3=>by
     rw[ah,UW h3,hp9 id h1,o8 id h2,hp7 id h1,o36.nc id V]
    have ew:ints ((eh d).take (k+1))=ints ((eh d).take k)++[aa (cL d vals)]:=(by rw[bd (Ue hkw),hvals];simp[ints,aa]);have eg:ints ((dN d).take (k+1))=ints ((dN d).take k)++[aa (cL d vals*cX d.C d.Y vals)]:=(by rw[bd (Ax hkw),hvals];simp[ints,aa,di]);refine⟨by rw[hget _ V V V];exact jB,by rw[aP];omega,⟨by rw[aP];omega,fun id h1 h2 h3=>by rw[hget id V h2 h3,o3 _ V];exact hj.2.1 id h1 h2 h3,pv',pu',?_,by rw[ah,UX rfl],?_⟩,?_⟩
    ·rw[ah,UW V,hp9 _ V,hH8,ah,UX rfl]
    ·rw[ew,eg];exact hO2.symm.ng (by rw[aP];exact Nat.le_refl _) fun id h1 h2=>by rw[ah,UW V]
    ·unfold rK;rw[hget _ V V V];exact kN
 ·obtain⟨v,u,a1,a2,a3⟩:=hj.2.2;rw[Ah]at a3;rw[UY (by rw[F5];exact Nat.le_refl _),UY (by rw[F6];exact Nat.le_refl _)]at a3;have l1:=ag a1;have l2:=ag a2;have c1:=a3.a.cells;have c2:=a3.b.cells;have ovx:Zs H Hx:=⟨V,fun id hi=>(hj.2.1 id V V V).trans (o2.nc id hi)⟩
  simp only[go_sem];refine W.dr 3 [0,0,1] mixed ?_;have on1:=a3.a.one;have on2:=a3.b.one;have l2u:∀b,(Hx.upd (H.A+1) b).na (H.A+2) 0=some (72,[u]):=fun b=>(lM V).trans l2;have l1u:∀b,((Hx.upd (H.A+1) (.J 0 72 [v])).upd (H.A+2) b).na (H.A+1) 0=some (72,[v]):=fun b=>(lM V).trans F9;have hne12:∀x:Nat,x=H.A+1->¬x=H.A+2:=fun x h=>V
  simp only[go_sem,e2,e3,l1,l2,c1,c2,on1,on2,l2u,l1u];refine⟨hne12,?_⟩;have a5:ZT (H2.A+2) ((Hx.upd (H.A+1) (.J 0 72 [v])).upd (H.A+2) (.J 0 72 [u])) 3 v (ints (eh d)) u (ints (dN d)):=a3.ng (by rw[aP,aP];exact Nat.le_refl _) fun id h1 _=>by rw[ah,UW V,ah,UW V]
  refine aj.bH aF hcl ((ovx.upd V _).upd V _) ?_ hK;exact .nf rfl fun i hi _=>match i,hi with
   |0,_=>a5.a.iz fun i hi=>by show H.A<=i;omega
   |1,_=>a5.b.iz fun i hi=>by show H.A<=i;omega
def gi (l:List Bool):List Zo:=l.map fun b=>.lit (.bool b)
def FG (l:List Bool):(gi l).length=l.length:=by simp[gi]
def Th (l:List Bool)(i:Nat):(gi l)[i]?=(l[i]?).map fun b=>.lit (.bool b):=by simp[gi]
def Ti {l:List Bool}{i:Nat}{b:Bool}(h:i<l.length):setAt (gi l) i [.lit (.bool b)]=gi (l.set i b):=by
 rw[iW (by rw[FG];omega)];simp[gi,XM]
structure Zz where
 ab:Nat->List Int
 oc:Nat->List Bool
 ex:Nat->List Int
 be:Nat->List Int
 ch:Nat->List Int
def dM (T:Zz)(k:Nat):Nat->Zu
 |1=>.J 0 3 (ints (T.ab k))
 |2=>.J 0 4 (gi (T.oc k))
 |3=>.J 0 3 (ints (T.ex k))
 |4=>.J 0 3 (ints (T.be k))
 |_=>.J 0 3 (ints (T.ch k))
def mo (D:Zx)(r:List Nat)(I:Nat->Nat->Nat)(k:Nat):List Zo :=
 [.lit (.int .i64 (r.getD k 0:Nat)),.lit (.int .i64 (D.cd k:Nat)),.U (I k 1) 0 0 (D.cs k) 1,.U (I k 2) 0 0 (D.cs k) 1,.U (I k 3) 0 0 (D.cs k*D.cd k) 1,.U (I k 4) 0 0 (D.cs k) 1,.U (I k 5) 0 0 (D.cs k) 1]
def lH (I:Nat->Nat->Nat)(n:Nat):List Zo:=(List.range n).map fun k=>.O (I k 0) 0 0
def pW (I:Nat->Nat->Nat)(n:Nat):(lH I n).length=n:=by simp[lH]
def Ao (h:k<n):(lH I n)[k]?=some (.O (I k 0) 0 0):=by unfold lH;rw[List.getElem?_map,Vz h];rfl
structure Zz.Len (D:Zx)(n:Nat)(T:Zz):Prop where
 ab:∀k,k<n->(T.ab k).length=D.cs k
 oc:∀k,k<n->(T.oc k).length=D.cs k
 ex:∀k,k<n->(T.ex k).length=D.cs k*D.cd k
 be:∀k,k<n->(T.be k).length=D.cs k
 ch:∀k,k<n->(T.ch k).length=D.cs k
structure Z5 (D:Zx)(r:List Nat)(lo n:Nat)(I:Nat->Nat->Nat)(T:Zz)(H:Zn):Prop where
 inj:∀k j k' j',k<n->k'<n->j<6->j'<6->I k j=I k' j'->k=k'/\j=j'
 nq:∀k j,k<n->j<6->lo<=I k j/\I k j<H.A
 nJ:∀k,k<n->H.get (I k 0)=some (.J 0 191 (mo D r I k))
 nH:∀k j,k<n->1<=j->j<6->H.get (I k j)=some (dM T k j)
 len:T.Len D n
variable {T:Zz}
def Z5.ng (h:Z5 D r lo n I T H)(hn:H.A<=H'.A)(hk:∀k j,k<n->j<6->H'.get (I k j)=H.get (I k j)):Z5 D r lo n I T H' :=
 ⟨h.inj,fun k j h1 h2=>by have:=h.nq k j h1 h2;omega,fun k h1=>by rw[hk k 0 h1 V];exact h.nJ k h1,fun k j h1 h2 h3=>by rw[hk k j h1 h3];exact h.nH k j h1 h2 h3,h.len⟩
variable {T':Zz}
def Z5.upd (h:Z5 D r lo n I T H)(hk:k0<n)(hj1:1<=j0)(hj:j0<6)(hn:H'.A=H.A)(ho:∀i,i≠I k0 j0->H'.get i=H.get i)(hb:H'.get (I k0 j0)=some (dM T' k0 j0))
  (hT:∀k j,k<n->1<=j->j<6->¬(k=k0/\j=j0)->dM T' k j=dM T k j) (hl:T'.Len D n):Z5 D r lo n I T' H':=by
 have key:∀k j,k<n->j<6->¬(k=k0/\j=j0)->H'.get (I k j)=H.get (I k j):=fun k j h1 h2 h3=>ho _ fun e=>h3 (h.inj k j k0 j0 h1 hk h2 hj e);refine⟨h.inj,fun k j h1 h2=>by rw[hn];exact h.nq k j h1 h2,fun k h1=>by rw[key k 0 h1 V V];exact h.nJ k h1,fun k j h1 h2 h3=>?_,hl⟩;by_cases e:k=k0/\j=j0
 ·obtain⟨rfl,rfl⟩:=e;exact hb
 ·rw[key k j h1 h3 e,hT k j h1 h2 h3 e];exact h.nH k j h1 h2 h3
def fC (f:Nat->α)(k0:Nat)(a:α):Nat->α:=fun k=>if k=k0 then a else f k
def lI (f:Nat->α)(k0:Nat)(a:α):fC f k0 a k0=a:=UX rfl
def lJ {f:Nat->α}{a:α}(h:k≠k0):fC f k0 a k=f k:=UW h
def Z5.Tj (h:Z5 D r lo n I T H)(hk:k0<n)(hj1:1<=j0)(hj:j0<6)
  (hT:∀k j,k<n->1<=j->j<6->¬(k=k0/\j=j0)->dM T' k j=dM T k j) (hl:T'.Len D n):Z5 D r lo n I T' (H.upd (I k0 j0) (dM T' k0 j0)) :=
 h.upd hk hj1 hj (aP ..) (fun i hi=>by rw[ah,UW hi]) (by rw[ah,UX rfl]) hT hl
structure ZA (d:Zq)(r:List Nat)(lo s:Nat)(lvh:Zo)(I:Nat->Nat->Nat)(T:Zz)(tot:Int)(H:Zn):Prop where
 top:H.get s=some (.J 0 184 [.lit (.int .i64 d.nl),.Q d.C.length (aH d.C),.lit (.int .u64 (d.X:Int)),.Q d.Y.length (bB d.Y),lvh,af (eh d),af (dN d),.lit (.int .i64 tot)])
 nI:lo<=s/\s<H.A
 lv:aJ lo H 187 lvh (lH I r.length)
 sep:∀k j,k<r.length->j<6->s≠I k j
 nK:∀id g n,lvh=.U id g 0 n 1->id≠s/\∀k j,k<r.length->j<6->id≠I k j
 nk:Z5 (ay d r) r lo r.length I T H
theorem ZA.ng {s:Nat}(h:ZA d r lo s lvh I T tot H)(hn:H.A<=H'.A)(hk:∀i,lo<=i->i<H.A->H'.get i=H.get i):ZA d r lo s lvh I T tot H' :=
 ⟨by rw[hk s h.nI.1 h.nI.2];exact h.top,by have:=h.nI;omega,h.lv.ng Zm hn fun i g h1 h2 _ _=>hk i h1 h2,h.sep,h.nK,h.nk.ng hn fun k j h1 h2=>by have:=h.nk.nq k j h1 h2;exact hk _ this.1 this.2⟩
theorem ZA.upd {s:Nat}(h:ZA d r lo s lvh I T tot H)(hk:k0<r.length)(hj1:1<=j0)(hj:j0<6)
  (hT:∀k j,k<r.length->1<=j->j<6->¬(k=k0/\j=j0)->dM T' k j=dM T k j) (hl:T'.Len (ay d r) r.length):ZA d r lo s lvh I T' tot (H.upd (I k0 j0) (dM T' k0 j0)) :=
 ⟨by rw[ah,UW (h.sep k0 j0 hk hj)];exact h.top,by rw[aP];exact h.nI,h.lv.ng Zm (by rw[aP];exact Nat.le_refl _) fun i g h1 h2 _ hv=>by rw[ah,UW ((h.nK _ _ _ hv).2 k0 j0 hk hj)],h.sep,h.nK,h.nk.Tj hk hj1 hj hT hl⟩
def ZA.FH {s:Nat}{tot':Int}(h:ZA d r lo s lvh I T tot H):ZA d r lo s lvh I T tot' (H.upd s (.J 0 184 [.lit (.int .i64 d.nl),.Q d.C.length (aH d.C),.lit (.int .u64 (d.X:Int)),.Q d.Y.length (bB d.Y),lvh,af (eh d),af (dN d),.lit (.int .i64 tot')])) :=
 ⟨by rw[ah,UX rfl],by rw[aP];exact h.nI,h.lv.ng Zm (by rw[aP];exact Nat.le_refl _) fun i g h1 h2 _ hv=>by rw[ah,UW (h.nK _ _ _ hv).1],h.sep,h.nK,h.nk.ng (by rw[aP];exact Nat.le_refl _) fun k j h1 h2=>by rw[ah,UW fun e=>h.sep k j h1 h2 e.symm]⟩
def ZA.Ap {s:Nat}(h:ZA d r lo s lvh I T tot H)(hk:k<r.length):∃id g,lvh=.U id g 0 r.length 1/\H.get id=some (.J g 187 (lH I r.length))/\lo<=id/\id<H.A:=by
 rcases h.lv with ⟨_,h2⟩|⟨id,g,h1,h2,h3,h4⟩
 ·have:=congrArg List.length h2;rw[pW,List.length_nil]at this;omega
 ·exact⟨id,g,by rw[h3,pW],h4,h1,h2⟩
def rO (cd c:Nat)(ex be ch:List Int)(bad:List Bool):Bool:=(List.range cd).any fun x=>decide (ex.getD (c*cd+x) 0=be.getD c 0) && !bad.getD (c*cd+x) false && (decide (ch.getD c 0=-1) ||decide (ch.getD c 0=(x:Int)))
end Go.Proofs
namespace Go.Hx
variable {P:Program} {G:Nat->Option (List Zo)}
variable {n ob:Nat}{e:TypeId}{b:Zu}
def Zn.jN (H:Zn)(n ob:Nat)(b:Zu):Zn:=⟨fun id=>if id=ob then some b else if n<=id then none else H.get id,H.A⟩
variable {H:Zn}
def B3 :(H.jN n ob b).get ob=some b:=by simp[Zn.jN]
def Mo {id:Nat}(h:id<n)(h2:id≠ob):(H.jN n ob b).get id=H.get id:=by simp[Zn.jN,Nat.not_le.2 h,h2]
def Mp (hc:Z6 H){g:Nat}{cells cells':List Zo}(hob:H.get ob=some (.J g e cells))(hl:cells'.length=cells.length)
  (hcell:∀i (h:i<cells.length) (h':i<cells'.length),Fz (fun id=>n<=id/\id≠ob) H H.A cells[i] cells'[i]):Z7 (fun id=>n<=id/\id≠ob) H (H.jN n ob (.J g e cells')) where
 gone id hs:=by simp[Zn.jN,hs.1,hs.2]
 kept id b hs hb:=by
  have hbb:=hc.below id b hb;refine⟨hc.lt id b hb,?_⟩;by_cases h:id=ob
  ·subst h;rw[hob]at hb;cases hb;exact⟨.J g e cells',B3,rfl,rfl,hl,hcell⟩
  ·have hn:¬n<=id:=fun hn=>hs ⟨hn,h⟩;refine⟨b,by simp[Zn.jN,h,hn,hb],?_⟩;cases b with
   |nr=>trivial
   |mp=>rfl
   |J g e cells=>exact⟨rfl,rfl,rfl,fun i h _=>.dead (hbb i h)⟩
   |loop st pend n env ps asg body=>exact⟨rfl,rfl,rfl,rfl,rfl,rfl,rfl,fun t ht=>.dead (hbb t ht)⟩
 none id hs hb:=by
  by_cases h:id=ob
  ·subst h;rw[hob]at hb;cases hb
  ·have hn:¬n<=id:=fun hn=>hs ⟨hn,h⟩;simp[Zn.jN,h,hn,hb]
theorem eP.jN (hG:fu G){s:St}{g:Nat}{cells cells':List Zo}(hob:s.H.get ob=some (.J g e cells))(hl:cells'.length=cells.length)
  (hcell:(∀c∈cells,Below s.H.A c)->∀i (h:i<cells.length) (h':i<cells'.length),Fz (fun id=>n<=id/\id≠ob) s.H s.H.A cells[i] cells'[i]):eP P G s ⟨s.ρ,s.H.jN n ob (.J g e cells')⟩:=by
 intro n' wb Γ a w hs;exact eP.freeze (s:=s) (s':=⟨s.ρ,s.H.jN n ob (.J g e cells')⟩) hG (Mp hs.heap.Z hob hl (hcell fun c hc=>by
  obtain⟨i,hi,rfl⟩:=Y6.1 hc;exact hs.heap.Z.below ob _ hob i hi)) (fun t=>.dead (hs.env t).sJ) n' wb Γ a w hs
def ZN.ne {lo:Nat}{e1 e0:TypeId}{v:Zo}{ids:List Nat}{nb:List (List Zo)}(h:ZN lo H e1 e0 v ids nb){k g':Nat}{c:List Zo}(hk:H.get k=some (.J g' e c))(he:e≠e1):∀g n,v≠.U k g 0 n 1:=fun g n hv=>by
 rcases h.top with ⟨h1,_⟩|⟨i,g2,_,_,h1,h2⟩
 ·rw[h1]at hv;cases hv
 ·rw[h1]at hv;obtain rfl:=(Zo.U.inj hv).1;rw[hk]at h2;cases h2;exact he rfl
def W.sS {rd:Option Nat}{Q:AX->St->Prop}{s:St}{x y:Code}(Φ:St->Prop)(h:W P G n rd x (fun ax s'=>ax=.normal/\Φ s') s)(h2:∀s',Φ s'->W P G n rd y Q s'):W P G n rd (.seq x y) Q s :=
 W.seq (h.mono fun ax s' ⟨e,hp⟩=>by subst e;exact h2 s' hp)
def eP.same {s:St}:eP P G s s:=by
 intro n wb Γ a w hs;exact⟨Γ,hs,.refl _ _ _,fun _ _ h _=>h⟩
end Go.Hx
namespace Go.Proofs
open Go.Hx Tryz
variable {ids:List Nat}{lo:Nat}{H H':Zn}{pv rv:Zo}{x:Zp}
structure nnn (lo:Nat)(H:Zn)(pv rv:Zo)(ids:List Nat)(x:Zp):Prop where
 par:aJ lo H 3 pv (ints x.F)
 nb:ZN lo H 72 3 rv ids (x.nb.map ints)
 dj:∀id g n,pv=.U id g 0 n 1->id ∉ ids
 nil:x.nb=[]->rv=.lit (.slice none 0 0)
theorem nnn.ng (h:nnn lo H pv rv ids x)(hn:H.A<=H'.A)(hk:∀id,lo<=id->id<H.A->H'.get id=H.get id):nnn lo H' pv rv ids x :=
 ⟨h.par.ng Zm hn fun id _ h1 h2 _ _=>hk id h1 h2,h.nb.ng hn hk,h.dj,h.nil⟩
def nnn.over (h:nnn lo H pv rv ids x)(o:Zs H H'):nnn lo H' pv rv ids x:=h.ng o.A fun id _ h2=>o.nc id h2
def nnn.low {lo':Nat}(h:nnn lo H pv rv ids x)(hl:lo'<=lo):nnn lo' H pv rv ids x :=
 ⟨h.par.ng hl Zm fun _ _ _ _ _ _=>rfl,⟨h.nb.len,h.nb.nd,fun i hi=>⟨by have:=(h.nb.nq i hi).1;omega,(h.nb.nq i hi).2⟩,h.nb.top.ng hl Zm fun _ _ _ _ _ _=>rfl,h.nb.row⟩,h.dj,h.nil⟩
def kJ {α:Type}{l:List α}{i:Nat}{a z:α}(h:l[i]?=some a):l.getD i z=a:=by rw[UZ,h];rfl
end Go.Proofs
