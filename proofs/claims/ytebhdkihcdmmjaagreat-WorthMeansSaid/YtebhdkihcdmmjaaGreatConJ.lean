/-
  The weights of all worlds of a valid network add up to the grain to the power of the number of nodes; what follows for the values of policies. Plain: no program stands in this text. No conditions.
-/
import Derived.Test.YtebhdkihcdmmjaaGreatConB
import Derived.Test.YtebhdkihcdmmjaaGreatConA
import Derived.Test.YtebhdkihcdmmjaaGreatConF
import Derived.Test.YtebhdkihcdmmjaaGreatConH
import Derived.Test.YtebhdkihcdmmjaaGreatConI
import Derived.Test.YtebhdkihcdmmjaaGreatConE
import Derived.Test.YtebhdkihcdmmjaaGreatConG
import Derived.Test.YtebhdkihcdmmjaaGreatConD
import Derived.Test.YtebhdkihcdmmjaaGreatConC
set_option linter.all false
set_option maxHeartbeats 8000000
set_option maxRecDepth 100000
namespace Go.Proofs.WS
open Go.Hx Tryz
variable {g:Int}{cs w:List Int}{ns:List ZM}{n v:Nat}{D D':Nat->Bool}{α:Type}
def dE:List Int->List (List Int)
 | []=>[[]]
 |c :: cs=>(List.range c.toNat).flatMap fun (a:Nat)=>(dE cs).map fun w=>(a:Int) :: w
def UP (h:∀c∈cs,1<=c)(a i:Int):bU cs (a*aC cs+i)=bU cs i:=by
 induction cs generalizing a with
 |nil=>rfl
 |cons c cs ih =>
  have h1:=fX (l:=cs) fun x hx=>h x (by simp[hx]);have hc:=h c ZG;have e:a*aC (c :: cs)+i=i+a*c*aC cs:=by rw[iN];simp only[Xh,Yq]
  show _ :: _=_ :: _;rw[e,XZ _ _ V,Int.add_mul_emod_self_right];congr 1;rw[Yq];exact ih (fun x hx=>h x (by simp[hx])) _
def UQ (m:Nat):∀c:Nat,List.range (c*m)=(List.range c).flatMap fun a=>(List.range m).map fun j=>a*m+j:=by
 intro c
 induction c with
 |zero=>simp
 |succ c ih=>rw[VT,Xv,List.range_add,ih,VX,YN];simp
def A4 (h:∀c∈cs,1<=c):dE cs=(List.range (aC cs).toNat).map fun (i:Nat)=>bU cs i:=by
 induction cs with
 |nil=>rfl
 |cons c cs ih =>
  have hr:∀x∈cs,1<=x:=fun x hx=>h x (by simp[hx]);have hm:=fX hr;have hc:=h c ZG;obtain⟨m,e⟩:∃m:Nat,aC cs=m:=⟨(aC cs).toNat,V⟩
  obtain⟨k,ek⟩:∃k:Nat,c=k:=⟨c.toNat,V⟩
  have e2:(aC (c :: cs)).toNat=k*m:=by rw[iN,e,ek];exact Int.toNat_natCast (k*m)
  rw[e2,UQ,List.map_flatMap];unfold dE;rw[ek,Int.toNat_natCast,ih hr,e,Int.toNat_natCast];rw[List.flatMap_def,List.flatMap_def];congr 1;refine VI fun a ha=>?_;rw[XW,XW];refine VI fun j hj=>?_;have ha':=Vs.1 ha;have hj':=Vs.1 hj;have hv:=UP hr (a:Int) (j:Int);rw[e]at hv;show _=_ :: _;rw[e];have e3:((a*m+j:Nat):Int)=a*m+j:=ZG
  rw[e3,hv];have e4:((a:Int)*m+j) / (m:Int) % (k:Int)=a:=by rw[Yq,XZ _ _ V,XE V V,YJ,X2 V V]
  rw[e4];rfl
def UR (h:∀c∈cs,1<=c)(hw:w∈dE cs):cJ cs w:=by
 rw[A4 h]at hw;obtain⟨i,_,rfl⟩:=Vu.1 hw;exact tL h _
def US (l l':List Int):(l++l').sum=l.sum+l'.sum:=YF
def UT (f:List Int->Int)(l:List α)(g:α->List (List Int)):((l.flatMap g).map f).sum=(l.map fun a=>((g a).map f).sum).sum:=by
 induction l with
 |nil=>rfl
 |cons a l ih=>rw[List.flatMap_cons,V8,US,ih];rfl
def A5 (c:Int)(f:α->Int)(l:List α):(l.map fun a=>c*f a).sum=c*(l.map f).sum:=by
 induction l with
 |nil=>simp
 |cons a l ih=>simp only[List.map_cons,WI,ih,X1]
def UU (f g:α->Int)(l:List α):(l.map fun a=>f a+g a).sum=(l.map f).sum+(l.map g).sum:=by
 induction l with
 |nil=>simp
 |cons a l ih=>simp only[List.map_cons,WI,ih];omega
def UV {β:Type}(f:α->β->Int)(l:List α)(m:List β):(l.map fun a=>(m.map fun b=>f a b).sum).sum=(m.map fun b=>(l.map fun a=>f a b).sum).sum:=by
 induction l with
 |nil=>simp only[List.map_nil,List.sum_nil];induction m with
  |nil=>rfl
  |cons b m ih=>rw[List.map_cons,WI,<- ih];rfl
 |cons a l ih=>simp only[List.map_cons,WI,ih,UU]
def GG (c:Int)(l:List α):(l.map fun _=>c).sum=l.length*c:=by
 induction l with
 |nil=>simp
 |cons a l ih=>simp only[List.map_cons,WI,ih,List.length_cons];rw[show ((l.length+1:Nat):Int)=l.length+1 from rfl,YP];omega
def qv {f g:α->Int}{l:List α}(h:∀a∈l,f a=g a):(l.map f).sum=(l.map g).sum:=by rw[VI h]
def all_cons (c:Int)(cs:List Int)(f:List Int->Int):((dE (c :: cs)).map f).sum=((List.range c.toNat).map fun (a:Nat)=>((dE cs).map fun w=>f ((a:Int) :: w)).sum).sum:=by
 show (((List.range c.toNat).flatMap _).map f).sum=_;rw[UT];refine qv fun a _=>?_;rw[XW];rfl
def UW:∀ {cs:List Int} {v:Nat} {c:Int},(∀c∈cs,1<=c)->cs[v]?=some c->∀f:List Int->Int,
  ((dE cs).map fun w=>((List.range c.toNat).map fun (a:Nat)=>f (w.set v (a:Int))).sum).sum=c*((dE cs).map f).sum:=by
 intro cs
 induction cs with
 |nil=>intro v c _ h;simp at h
 |cons d cs ih =>
  intro v c h1 h f;rw[all_cons,all_cons];cases v with
  |zero =>
   simp only[List.getElem?_cons_zero,Option.some.injEq]at h;subst h;simp only[List.set_cons_zero];rw[GG,WT,Xx (by have:=h1 d ZG;omega)];congr 1;exact UV _ _ _
  |succ v =>
   simp only[List.set_cons_succ];rw[<- A5];refine qv fun a _=>?_;exact ih (fun x hx=>h1 x (by simp[hx])) (by simpa using h) fun w=>f ((a:Int) :: w)
def fA (n:Nat)(D:Nat->Bool)(f:Nat->Int):Int:=aC ((List.range n).map fun v=>if D v then f v else 1)
def A6 (n:Nat)(D:Nat->Bool)(f:Nat->Int):fA (n+1) D f=fA n D f*(if D n then f n else 1):=by
 unfold fA;rw[VX,V8,vU];simp[iN,iM]
def A7 (f:Nat->Int)(h0:D v=false)(h1:D' v=true)(he:∀i,i≠v->D' i=D i):∀n,fA n D' f=if v<n then fA n D f*f v else fA n D f:=by
 intro n
 induction n with
 |zero=>rfl
 |succ n ih =>
  rw[A6,A6,ih];rcases WH v n with h|h|h
  ·rw[Vh h,Vh (show v<n+1 by omega),he n V];simp only[Xh,Wx (f v)]
  ·subst h;rw[Vg (show ¬v<v by omega),Vh (show v<v+1 by omega),h1,h0];simp
  ·rw[Vg (show ¬v<n by omega),Vg (show ¬v<n+1 by omega),he n V]
def UX {f g:Nat->Int}(h:∀v,v<n->D v=true->f v=g v):fA n D f=fA n D g:=by
 unfold fA;congr 1;refine VI fun v hv=>?_;split
 ·rename_i hd;exact h v (Vs.1 hv) hd
 ·rfl
def UY (n:Nat)(f:Nat->Int):fA n (fun _=>false) f=1:=by
 induction n with
 |zero=>rfl
 |succ n ih=>rw[A6,ih];simp
def A8 (h:∀v,v<n->D v=true)(f:Nat->Int):fA n D f=aC ((List.range n).map f):=by
 unfold fA;congr 1;exact VI fun v hv=>by rw[h v (Vs.1 hv)];rfl
def UZ (l:List Int):((List.range l.length).map fun i=>l.getD i 0).sum=l.sum:=by
 induction l with
 |nil=>rfl
 |cons a l ih=>rw[List.length_cons,Zl,List.map_cons,XW,WI,WI,<- ih];rfl
def U0 (n:Nat)(g:Int):aC ((List.range n).map fun _=>g)=g ^ n:=by
 induction n with
 |zero=>simp[iM]
 |succ n ih=>rw[VX,V8,vU,ih,Xt];simp[iN,iM]
def GH {ps:List Int}{a:Int}(h:∀p∈ps,p.toNat≠v):aK (w.set v a) ps=aK w ps:=by
 unfold aK;refine VI fun p hp=>?_;rw[Vj,Vj,VP (Ne.symm (h p hp))]
def U1 (h:Z4 g ns){x:ZM}(hx:x∈ns)(hw:cJ (au ns) w):∃r,x.nb[(bL (aT ns x) (aK w x.F)).toNat]?=some r:=by
 have hp:=(h.node x hx).2.2;have hf:cJ (aT ns x) (aK w x.F):=⟨by simp[aT,aK],fun k c b h1 h2=>by
  unfold aT aK at h1;unfold aK at h2;rw[List.getElem?_map]at h1 h2;cases hq:x.F[k]? with
  |none=>rw[hq]at h1;cases h1
  |some q =>
   rw[hq]at h1 h2;have hr:=hp q (an hq);obtain⟨j,rfl,y,hy⟩:=mX (l:=ns) hr.1 hr.2;obtain⟨b',hb⟩:=ay (l:=w) (i:=j) (by rw[hw.1];have:=aO hy;simpa[au] using this);simp only[Option.map_some,Option.some.injEq,Int.toNat_natCast]at h1 h2;rw[bI (cS hy)]at h1;rw[bI hb]at h2;rw[<- h1,<- h2];exact hw.2 j y.L b' (cS hy) hb⟩
 have hr:=oD hf;have hl:=(h.nb x hx).1;exact ay (V)
def ph (g:Int)(ns:List ZM)(D:Nat->Bool):Prop :=
 fA ns.length D (fun v=>(au ns).getD v 0)*((dE (au ns)).map fun w=>fA ns.length D (gf ns w)).sum=fA ns.length D (fun _=>g)*aC (au ns)
def U2 (cs:List Int)(h:∀c∈cs,1<=c):((dE cs).map fun _=>(1:Int)).sum=aC cs:=by
 rw[GG,A4 h];have:=fX h;simp;omega
def GI (h:Z4 g ns):∀c∈au ns,1<=c:=fun c hc=>by
 unfold au at hc;obtain⟨x,hx,rfl⟩:=Vu.1 hc;exact(h.node x hx).1.1
def U3 (h:Z4 g ns)(hv:v<ns.length)(h0:D v=false)(h1:D' v=true)(he:∀i,i≠v->D' i=D i)
  (hcl:∀(u:Nat) (x:ZM),D u=true->ns[u]?=some x->∀p∈x.F,D p.toNat=true) (hpa:∀x,ns[v]?=some x->∀p∈x.F,D p.toNat=true) (hs:ph g ns D):ph g ns D':=by
 obtain⟨x,hx⟩:=ay hv;have hxm:=an hx;have hc:=cS hx;have hc1:=GI h;unfold ph at hs ⊢;have key:x.L*((dE (au ns)).map fun w=>fA ns.length D' (gf ns w)).sum=g*((dE (au ns)).map fun w=>fA ns.length D (gf ns w)).sum:=by
  rw[<- UW hc1 hc,<- A5];refine qv fun w hw=>?_;have hf:=UR hc1 hw;have hl:w.length=ns.length:=by rw[hf.1];simp[au]
  have e1:∀a:Nat,fA ns.length D' (gf ns (w.set v (a:Int)))=fA ns.length D (gf ns w)*(jA ns x w).getD a 0:=fun a=>by
   rw[A7 _ h0 h1 he,Vh hv];congr 1
   ·refine UX fun u hu hd=>?_;obtain⟨y,hy⟩:=ay hu;have huv:v≠u:=fun e=>by rw[e,hd]at h0;cases h0
    unfold gf jA;rw[hy];dsimp only;rw[GH fun p hp e=>by have:=hcl u y hd hy p hp;rw[e,h0]at this;cases this];simp only[Vj,VP huv]
   ·unfold gf jA;rw[hx];dsimp only;rw[GH fun p hp e=>by have:=hpa x hx p hp;rw[e,h0]at this;cases this];congr 1;simp only[Vj,VB (show v<w.length by omega)];rfl
  rw[qv fun a _=>e1 a,A5,Wx g];congr 1;obtain⟨r,hr⟩:=U1 h hxm hf;have hrow:jA ns x w=r:=by unfold jA;rw[bI hr]
  have ho:=(h.nb x hxm).2 r (an hr);rw[hrow,show x.L.toNat=r.length by have:=ho.1;omega,UZ];exact ho.2.2
 rw[A7 _ h0 h1 he,A7 (fun _=>g) h0 h1 he,Vh hv,Vh hv,bI hc,Xh,key,<- Xh,Int.mul_right_comm,hs];simp only[Xh,Wx g]
def xI (ns:List ZM):(aB ns).length=ns.length:=by simp[aB]
def uW {s:Nat}(h:n<=dK n s):∀v,v<n->s.testBit v=true:=by
 have hl:=zT n s;have e:(List.range n).countP (fun i=>s.testBit i)=(List.range n).length:=by rw[WT];exact Nat.le_antisymm hl h
 exact fun v hv=>Zm.1 e v (Vs.2 hv)
def U4 (h:Z4 g ns):∀(k:Nat) (out:List Nat) (done:Nat) (r:List Nat),ic (aB ns) k out done=some r->ns.length<=k+dK ns.length done ->
  (∀(u:Nat) (x:ZM),done.testBit u=true->ns[u]?=some x->∀p∈x.F,done.testBit p.toNat=true)->ph g ns (fun v=>done.testBit v)->ph g ns fun _=>true:=by
 have hp64:∀p∈aB ns,p<2 ^ 64:=fun p hp=>sh (n:=64) (fun x hx q hq=>by have:=(h.node x hx).2.2 q hq;have:=h.n1;omega) p hp;intro k
 induction k with
 |zero =>
  intro out done r _ hc _ hs;have hf:=uW (n:=ns.length) (s:=done) V;unfold ph at hs ⊢;have e:∀f,fA ns.length (fun v=>done.testBit v) f=fA ns.length (fun _=>true) f:=fun f=>by
   rw[A8 hf,A8 fun _ _=>rfl]
  rw[e,e,qv fun w _=>e (gf ns w)]at hs;exact hs
 |succ k ih =>
  intro out done r hr hc hcl hs;unfold ic at hr;cases hn:kr (aB ns) done with
  |none=>rw[hn]at hr;cases hr
  |some v =>
   rw[hn]at hr;obtain⟨h1,h2,h3⟩:=v9 hp64 hn;rw[xI]at h1;obtain⟨y,hy⟩:=ay h1;have hpa:∀x,ns[v]?=some x->∀p∈x.F,done.testBit p.toNat=true:=fun x hx p hp=>by
    rw[bI (kI hx)]at h3;refine h3 _ ?_;have hpos:=fun q hq=>((h.node x (an hx)).2.2 q hq).1;rw[iD hpos];exact VD (by rw[Xx (hpos p hp)];exact hp)
   refine ih _ _ r hr ?_ ?_ (U3 h h1 h2 (D':=fun i=>(done |||2 ^ v).testBit i) ?_ (fun i hi=>?_) hcl hpa hs)
   ·have:=rD (n:=ns.length) (.left done (2 ^ v)) h1 h2 (by rw[gM];simp);omega
   ·intro u x hu hx p hp;rw[gM]at hu ⊢;rw[VN]at hu ⊢;left;rcases hu with hu|hu
    ·exact hcl u x hu hx p hp
    ·have:v=u:=of_decide_eq_true hu;subst this;exact hpa x hx p hp
   ·show (done |||2 ^ v).testBit v=true;rw[gM];simp
   ·show (done |||2 ^ v).testBit i=done.testBit i;rw[gM,V7 (fun e=>hi e.symm),Zk]
def U5 (ns:List ZM):aC ((List.range ns.length).map fun v=>(au ns).getD v 0)=aC (au ns):=by
 congr 1;refine V3 fun i=>?_;rw[List.getElem?_map];rcases VC i ns.length with h|h
 ·obtain⟨x,hx⟩:=ay h;rw[VR h,cS hx];show some ((au ns).getD i 0)=_;rw[bI (cS hx)]
 ·rw[Vo (by simpa using h),Vo (by simpa[au] using h)];rfl
def U6 (h:Z4 g ns):((dE (au ns)).map (weight ns)).sum=g ^ ns.length:=by
 have hc:=GI h;have hp:=fX hc;have h8:=h.n1;have hps:∀p∈aB ns,p<2 ^ (aB ns).length:=fun p hp=>by
  rw[xI];exact sh (n:=ns.length) (fun x hx q hq=>(h.node x hx).2.2 q hq) p hp
 have ht:=(we hps (by rw[xI];omega)).2 h.nL;obtain⟨r,hr⟩:=VQ.1 ht;unfold fD at hr;rw[xI]at hr;have hs:=U4 h _ _ _ r hr V (fun u x hu=>by rw[V4]at hu;cases hu) (by
  unfold ph;have e:∀f,fA ns.length (fun v=>(0:Nat).testBit v) f=1:=fun f=>by
   rw[show (fun v=>(0:Nat).testBit v)=fun _=>false from funext fun v=>V4 v,UY]
  rw[e,e,qv fun w _=>e (gf ns w),U2 _ hc])
 unfold ph at hs;have e:∀f,fA ns.length (fun _=>true) f=aC ((List.range ns.length).map f):=fun f=>A8 (fun _ _=>rfl) f;rw[e,e,U5,U0,qv fun w _=>e (gf ns w)]at hs;rw[Wx]at hs;exact Zb V hs
end Go.Proofs.WS
namespace Go.Proofs
open Go.Hx Tryz
variable {r:List Nat}{u:Nat}{c:Nat->Nat->Int}{d:ZN}
def A9 (d:ZN)(c:Nat->Nat->Int):Int:=SS (cH d.C) fun w=>if gh d c (wv d w)=true then cK d (wv d w) else 0
def U7 (hok:ZS d)(hc:r8 d c):A9 d c=d.Z ^ d.C.length:=by
 have h:=WS.U6 (FO hok hc);rw[ik]at h;rw[<- h,jX,WS.A4 fun x hx=>by
  obtain⟨y,hy,rfl⟩:=Vu.1 hx;exact(hok.n.L y hy).1]
 rw[XW];unfold A9 SS;exact congrArg List.sum (VI fun w _=>(En hok hc (iE hok w)).symm)
def GJ (n:Nat)(k:Int)(f:Nat->Int):SS n (fun i=>k*f i)=k*SS n f:=by
 induction n with
 |zero=>simp[pU]
 |succ n ih=>rw[ig,ig,ih,X1]
def U9 (hok:ZS d)(hc:r8 d c):-(400*d.Z ^ d.C.length)<=fa d c/\fa d c<=400*d.Z ^ d.C.length:=by
 rw[<- U7 hok hc];have key:∀w,-(400*cK d (wv d w))<=dk d (wv d w)/\dk d (wv d w)<=400*cK d (wv d w):=fun w=>by
  have h1:=Fw hok (iE hok w);have h2:=AV hok.Y.2 hok.Y.1 (wv d w);unfold dk;have h3:=VU h2.2 h1;have h4:=VU h2.1 h1;generalize cK d (wv d w)*cX d.C d.Y (wv d w)=t at *
  omega
 unfold fa A9;rw[<- GJ];constructor
 ·have:-(SS (cH d.C) fun i=>400*if gh d c (wv d i)=true then cK d (wv d i) else 0)=SS (cH d.C) fun i=>-1*(400*if gh d c (wv d i)=true then cK d (wv d i) else 0):=by rw[GJ _ (-1)];omega
  rw[this];refine tO fun w _=>?_;have:=(key w).1;split<;>omega
 ·refine tO fun w _=>?_;have:=(key w).2;split<;>omega
def pP (hok:ZS d)(hro:Z0 d r):dA d=0/\gK d=r:=by
 have h:=ou hok hro;have e:dA d=0:=by unfold dA;rw[mv hok,h];rfl
 exact⟨e,by unfold gK;rw[Vh e,h];rfl⟩
def vO (hf:Z9 d):∀x∈d.C,(x.F.length:Int)<2 ^ 62:=fun x hx=>by
 have:=(hf.C.2 x hx).1;omega
def zD {S:Nat->Prop}{H:ZK}{nx:Nat}(a b e:Int):Fz S H nx (.nc [.agg [.lit (.int .i64 a),.lit (.int .i64 b)],.lit (.int .i64 e)]) (.nc [.agg [.lit (.int .i64 a),.lit (.int .i64 b)],.lit (.int .i64 e)]) :=
 .nc rfl fun i hi _=>match i,hi with
  |0,_=>.agg rfl fun i hi _=>match i,hi with
   |0,_=>.lit _
   |1,_=>.lit _
  |1,_=>.lit _
def oA (hok:ZS d)(hro:Z0 d r):-(400*d.Z ^ d.C.length)<=dC d r/\dC d r<=400*d.Z ^ d.C.length:=by
 obtain⟨h1,h2,_⟩:=wO hok hro;rw[<- h2];exact U9 hok (wW h1)
def tH (hok:ZS d)(h5:d.C.length<=5):1<=d.Z ^ d.C.length/\d.Z ^ d.C.length<=777600000:=by
 have hg:=hok.nB.g1;have h1:=Y6 (n:=d.Z) (m:=d.C.length) V;have key:∀k:Nat,d.Z ^ k<=60 ^ k:=fun k=>by
  induction k with
  |zero=>simp
  |succ k ih =>
   rw[Xt,Xt];exact WV ih hg.2 V (by have:=Y6 (n:=60) (m:=k) ZH;omega)
 have h2:=key d.C.length;have h3:(60:Int) ^ d.C.length<=777600000:=by
  rcases(show d.C.length=0\/d.C.length=1\/d.C.length=2\/d.C.length=3\/d.C.length=4\/d.C.length=5 by omega) with e|e|e|e|e|e<;>rw[e]<;>decide
 omega
def DJ (hok:ZS d)(h5:d.C.length<=5)(hro:Z0 d r){s S:Nat}(hu:u∈r)(hS:Sub S (bz d u))(H:ZK)(hs:H.get s=some (.J 0 157 (hZ d r u)))(hsl:s<H.A)(K:ZQ->ZK->Prop)
  (hK:K (.ret (.nc [eA (dO d r u S) (d.Z ^ d.C.length),aa 0])) H):
  ae prog G0 51 [.O s 0 0,aL S,eA (dC d r) (d.Z ^ d.C.length)] H K:=by
 refine ae.X ⟨_,func51,rfl,rfl⟩ fun hcl=>?_;have hf:=oK hok;have hok':=pL hok hro hu hS;have hro':=pM hok hro hu hS;have hlen:=hJ d r u S;obtain⟨he,hv⟩:=pP hok' hro';have hrl:=ou hok' hro';have gd:(bw d r u S).Z ^ (bw d r u S).C.length=d.Z ^ d.C.length:=by rw[hlen];rfl
 have g5:=tH hok h5;have t1:=oA hok hro;have t2:=oA hok' hro';rw[gd]at t2;obtain⟨D,hD⟩:∃D,D=d.Z ^ d.C.length:=⟨_,rfl⟩
 have hw:dO d r u S=dC (bw d r u S) r-dC d r:=rfl;rw[hw]at hK;rw[<- hD]at g5 gd t1 t2 hK ⊢;obtain⟨a,b,ga,ha,hA⟩:=kM (S:=dC (bw d r u S) r) (D:=D) g5.1;obtain⟨c,e,gc,hc,hC⟩:=kM (S:=dC d r) (D:=D) g5.1;obtain⟨x,y,gx,hx,hX⟩:=kM (S:=dC (bw d r u S) r-dC d r) (D:=D) g5.1;obtain⟨s1,s2⟩:=F01.DI hA hC ⟨g5.1,V⟩ ⟨V,V⟩ ⟨V,V⟩;obtain⟨p1,p2⟩:=hA.bound;obtain⟨p3,p4⟩:=hC.bound;have b1:=hA.b1;have e1:=hC.b1;rw[hx]at s1 hK;rw[hc];refine ae.sw (n:=26) (rs:=[.cell 6 58,.tmp 7]) func51 ?_;refine W.sq ?_;simp only[go_sem];obtain⟨H1,hH1⟩:∃H1,H1=ext H [.J 0 58 [.lit (.int .i64 c),.lit (.int .i64 e)],.J 0 58 [.lit (.int .i64 0),.lit (.int .i64 0)]]:=⟨_,rfl⟩
 have o1:ZP H H1:=hH1▸.ext _ _
 have n1:H1.A=H.A+2:=hH1▸rfl
 have g1:=dh hH1
 have g2:=gE hH1 1 rfl
 rw[<- hH1];clear hH1;refine W.sq ?_;simp only[go_sem];refine ak.X (DF hok hf V hro hu (pJ hS) H1 ((o1.nf s hsl).trans hs) V _ ⟨trivial,?_⟩);simp only[go_sem];refine ak.X (tu (bw d r u S) (oK hok') V H1 _ (fun h=>absurd (he.symm.trans h) ZH) (fun _ h=>absurd he h) fun r' hr' _ _=>⟨trivial,?_⟩);obtain rfl:r=r':=Option.some.inj (hrl.symm.trans hr');rw[gd,ha];simp only[go_sem];obtain⟨H2,hH2⟩:∃H2,H2=ext H1 [.J 0 58 [.lit (.int .i64 a),.lit (.int .i64 b)]]:=⟨_,rfl⟩
 have o2:ZP H1 H2:=hH2▸.ext _ _
 have n2:H2.A=H1.A+1:=hH2▸rfl
 have l3:=ag (show H2.get H1.A=some (.J 0 58 [.lit (.int .i64 a),.lit (.int .i64 b)]) by rw[hH2];exact cL ..);have l1:=ag ((o2.nf H.A V).trans g1);have l2:=ag ((o2.nf (H.A+1) V).trans g2);rw[<- hH2];clear hH2;refine W.sq ?_;simp only[go_sem];refine W.vs ?_;simp only[go_sem,l1,l3];refine ak.X (F01.Ny a b c e V V s2 H2 _ ⟨trivial,?_⟩);rw[s1];simp only[go_sem,l2];refine aj.bB (v':=.nc [.agg [.lit (.int .i64 x),.lit (.int .i64 y)],aa 0]) aF hcl (ZP.upd (id:=H.A+1) (o1.trans o2) (Xw _) _) (zD x y 0) hK
def zE (hok:ZS d)(hro:Z0 d r)(hu:u∈r)(H:ZK)(K:ZQ->ZK->Prop)(hK:K (.ret (.nc [aL (bz d u),aa 0])) H):
  ae prog G0 13 [da d,aa u] H K:=by
 refine ae.X ⟨_,func13,rfl,rfl⟩ fun hcl=>?_;have hf:=oK hok;obtain⟨he,hv⟩:=pP hok hro;have hul:u<d.C.length:=(bN.1 (hro.mem u hu)).1;refine ae.sw (n:=19) (rs:=[.tmp 4,.tmp 5]) func13 ?_;refine W.sq ?_;simp only[go_sem,gR,cR];obtain⟨H1,hH1⟩:∃H1,H1=ext H [.J 0 38 [.lit (.int .i64 d.Z),.Q d.C.length (aG d.C),.lit (.int .u64 (d.nl:Int)),.Q d.Y.length (bA d.Y)]]:=⟨_,rfl⟩
 have g1:=dh hH1
 have o1:ZP H H1:=hH1▸.ext _ _
 rw[<- hH1];clear hH1;have l1:=ag g1;refine W.sq ?_;simp only[go_sem,l1];refine ak.X (vK d hf u H1 _ (fun h=>absurd (he.symm.trans h) ZH) (fun _ h=>absurd he h) (fun _ h=>absurd (mT.2 (hv ▸ hu)) h) fun r' u' H2 _ hr' hu' hm hH2=>⟨trivial,?_⟩);obtain rfl:r=r':=hv.symm.trans hr';obtain rfl:u=u':=V
 have o2:ZP H1 H2:=hH2▸.ext _ _
 have gs:H2.get (H1.A+1)=some (.J 0 157 (hZ d r u)):=by rw[hH2];exact bM H1 _ 1 (ZG)
 have n2:H2.A=H1.A+2:=hH2▸rfl
 simp only[go_sem];refine W.sq ?_;simp only[go_sem];refine W.vs ?_;simp only[go_sem];refine ak.X (vJ hok (vO hf) hul H2 gs V _ ⟨trivial,?_⟩);simp only[go_sem];refine aj.bB (v':=.nc [aL (bz d u),aa 0]) aF hcl (o1.trans o2) (.nc rfl fun i hi _=>match i,hi with|0,_=>.lit _|1,_=>.lit _) hK
def DK (hok:ZS d)(h6:d.C.length<=6)(hro:Z0 d r){S:Nat}(hu:u∈r)(hS:Sub S (bz d u))(H:ZK)(K:ZQ->ZK->Prop)(hK:K (.ret (.nc [da (bw d r u S),aa 0])) H):
  ae prog G0 16 [da d,aa u,aL S] H K:=by
 refine ae.X ⟨_,func16,rfl,rfl⟩ fun hcl=>?_;have hf:=oK hok;obtain⟨he,hv⟩:=pP hok hro;have hul:u<d.C.length:=(bN.1 (hro.mem u hu)).1;have n8:=hok.n.n1;have hSl:=pJ hS;have S64:S<2 ^ 64:=Vn hSl (Vr ZH V);have hz:eE S (bz d u)=0:=VW fun i=>by
  rw[mA S64,V4];cases hb:S.testBit i with
  |false=>rfl
  |true=>rw[hS i hb];rfl
 have s2:=fun t x y=>pe (P:=prog) (t:=t) (x:=x) (y:=y) (a:=S) (b:=bz d u);rw[hz]at s2;refine ae.sw (n:=29) (rs:=[.cell 6 38,.tmp 7]) func16 ?_;refine W.sq ?_;simp only[go_sem,gR,cR];obtain⟨H1,hH1⟩:∃H1,H1=ext H [.J 0 38 [.lit (.int .i64 d.Z),.Q d.C.length (aG d.C),.lit (.int .u64 (d.nl:Int)),.Q d.Y.length (bA d.Y)],.J 0 38 [.lit (.int .i64 0),.lit (.slice none 0 0),.lit (.int .u64 0),.lit (.slice none 0 0)]]:=⟨_,rfl⟩
 have g1:=dh hH1
 have g2:=gE hH1 1 rfl
 have n1:H1.A=H.A+2:=hH1▸rfl
 have o1:ZP H H1:=hH1▸.ext _ _
 rw[<- hH1];clear hH1;have l1:=ag g1;refine W.sq ?_;simp only[go_sem,l1];refine ak.X (vK d hf u H1 _ (fun h=>absurd (he.symm.trans h) ZH) (fun _ h=>absurd he h) (fun _ h=>absurd (mT.2 (hv ▸ hu)) h) fun r' u' H2 _ hr' hu' hm hH2=>⟨trivial,?_⟩);obtain rfl:r=r':=hv.symm.trans hr';obtain rfl:u=u':=V
 have o2:ZP H1 H2:=hH2▸.ext _ _
 have gs:H2.get (H1.A+1)=some (.J 0 157 (hZ d r u)):=by rw[hH2];exact bM H1 _ 1 (ZG)
 have n2:H2.A=H1.A+2:=hH2▸rfl
 have l2:=ag ((o2.nf (H.A+1) V).trans g2);clear hH2;simp only[go_sem];refine W.sq ?_;simp only[go_sem];refine W.sq ?_;simp only[go_sem];refine ak.X (vJ hok (vO hf) hul H2 gs V _ ⟨trivial,?_⟩);unfold aL;simp only[go_sem,s2];refine W.vs ?_;simp only[go_sem];refine ak.X (DF hok hf h6 hro hu hSl H2 gs V _ ⟨trivial,?_⟩);simp only[go_sem,gR,cR,l2];refine aj.bB (v':=.nc [da (bw d r u S),aa 0]) aF hcl (ZP.upd (id:=H.A+1) (o1.trans o2) (Xw _) _) (.nc rfl fun i hi _=>match i,hi with|0,_=>UA _|1,_=>.lit _) hK
end Go.Proofs
namespace Go.Proofs.F01
open Go.Hx Tryz
variable {f:FuncId}{a b c d:Int}
def NB {P:Program}{t e:TypeId}{x y:Operand}{k:IntKind}{a b:Nat}(ht:P.underlying t=some (.array 2 e))(he:P.underlying e=some (.int k))(hs:P.cellsOf e=1)(hg:P.eqGuardType P.depth t=false):
  aU P .eql t x y (.agg [.lit (.int .u64 (a / 18446744073709551616:Nat)),.lit (.int .u64 (a % 18446744073709551616:Nat))]) (.agg [.lit (.int .u64 (b / 18446744073709551616:Nat)),.lit (.int .u64 (b % 18446744073709551616:Nat))])=some (.lit (.bool (decide (a=b)))):=by
 rw[Cx ht he hs hg];congr 3;have d1:=Xo a 18446744073709551616;have d2:=Xo b 18446744073709551616;by_cases h:a=b
 ·subst h;simp
 ·rw[V7 h];by_cases h1:a / 18446744073709551616=b / 18446744073709551616
  ·have h2:¬a % 18446744073709551616=b % 18446744073709551616:=fun h2=>h (by rw[<- d1,<- d2,h1,h2]);have h3:¬((a % 18446744073709551616:Nat):Int)=((b % 18446744073709551616:Nat):Int):=V;rw[beq_eq_false_iff_ne.mpr h3,Bool.and_false]
  ·have h3:¬((a / 18446744073709551616:Nat):Int)=((b / 18446744073709551616:Nat):Int):=V;rw[beq_eq_false_iff_ne.mpr h3,Bool.false_and]
def je (a b c d:Int):Int:=if (a<0/\¬c<0) then -1 else if (¬a<0/\c<0) then 1 else if a.natAbs*d.natAbs=c.natAbs*b.natAbs then 0 else if (a.natAbs*d.natAbs<c.natAbs*b.natAbs↔0<=a) then -1 else 1
def NC (a b c d:Int)(ha:-4611686018427387903<=a/\a<=4611686018427387903)(hb:1<=b/\b<=4611686018427387903)(hc:-4611686018427387903<=c/\c<=4611686018427387903)(hd:1<=d/\d<=4611686018427387903)(H:ZK)(K:ZQ->ZK->Prop)
  (hK:K (.ret (.lit (.int .i64 (je a b c d)))) H):ae prog G0 98 [qV a b,qV c d] H K:=by
 refine ae.X ⟨_,func98,rfl,rfl⟩ fun hcl=>?_;have wb:=VK b V;have wd:=VK d V;have tm:∀(x y:Nat) (hx:x<=4611686018427387903) (hy:y<=4611686018427387903) (z:Int) (hz:z=(y:Int)) (H2:ZK) (K:ZQ->ZK->Prop),K (.ret (di (x*y))) H2->ae prog G0 99 [.lit (.int .u64 (x:Int)),.lit (.int .u64 z)] H2 K:=fun x y hx hy z hz H2 K h=>by rw[hz];exact vB x y hx hy H2 K h
 refine ae.st (n:=44) (rs:=[.tmp 4]) func98 ?_;simp only[go_sem,qV];refine W.dr 16 [0,1,3,0,8,24,63,0,128,511,0,1024,3072,8191,0,0] mixed ?_;simp only[go_sem];refine⟨_,[],aY.pure fun H2=>vA a V H2 _ ⟨rfl,rfl⟩,?_⟩;simp only[go_sem,wb,wd];refine⟨_,[],aY.pure fun H2=>tm a.natAbs d.natAbs V V d V H2 _ ⟨rfl,rfl⟩,?_⟩;simp only[go_sem];refine⟨_,[],aY.pure fun H2=>vA c V H2 _ ⟨rfl,rfl⟩,?_⟩;simp only[go_sem];refine⟨_,[],aY.pure fun H2=>tm c.natAbs b.natAbs V V b V H2 _ ⟨rfl,rfl⟩,?_⟩;have eqw:∀(o1 o2:Operand) (a b:Nat),aU prog .eql 173 o1 o2 (.agg [.lit (.int .u64 (a / 18446744073709551616:Nat)),.lit (.int .u64 (a % 18446744073709551616:Nat))]) (.agg [.lit (.int .u64 (b / 18446744073709551616:Nat)),.lit (.int .u64 (b % 18446744073709551616:Nat))])=some (.lit (.bool (decide (a=b)))):=fun o1 o2 a b=>NB (a:=a) (b:=b) Tryz.underlying173 Tryz.underlying142 ZI ZI;obtain⟨p,hp⟩:∃p,p=a.natAbs*d.natAbs:=⟨_,rfl⟩
 obtain⟨q,hq⟩:∃q,q=c.natAbs*b.natAbs:=⟨_,rfl⟩
 unfold je at hK;rw[<- hp,<- hq]at hK ⊢;have n3:H.A+2+1=H.A+3:=rfl;simp only[go_sem,di];refine⟨by refine⟨?_,?_,?_,?_,?_,?_,?_,?_⟩<;>(intro x hx;omega),by refine⟨?_,?_,?_,?_,?_,?_,?_,?_⟩<;>(intro x hx;omega),?_⟩;rw[ee,ee];simp only[List.cons_append,List.nil_append];by_cases h1:a<0
 ·have z3:¬ 0<=a:=V
  by_cases h2:c<0
  ·rw[Vg V,Vg V]at hK;by_cases hxy:p=q
   ·rw[Vh hxy]at hK;simp only[go_sem,n3,h1,h2,mS Tryz.underlying4,eqw,hxy];exact aj.drop aF hcl (.lit _) hK
   rw[Vg hxy]at hK;simp only[go_sem,n3,h1,h2,mS Tryz.underlying4,eqw,hxy];refine W.dr 6 [0,0,3,0,8,24] mixed ?_;simp only[go_sem,mS Tryz.underlying4];refine⟨_,[],aY.pure fun H2=>zg p q H2 _ ⟨rfl,rfl⟩,?_⟩;by_cases hl:p<q
   ·simp only[go_sem,z3,mR Tryz.underlying4,hl];rw[Vg V]at hK;exact aj.drop aF hcl (.lit _) hK
   ·simp only[go_sem,z3,mR Tryz.underlying4,hl];rw[Vh V]at hK;exact aj.drop aF hcl (.lit _) hK
  ·rw[Vh ⟨h1,h2⟩]at hK;simp only[go_sem,n3,h1,h2,mS Tryz.underlying4];exact aj.drop aF hcl (.lit _) hK
 ·have z3:0<=a:=V
  by_cases h2:c<0
  ·rw[Vg V,Vh ⟨h1,h2⟩]at hK;simp only[go_sem,n3,h1,h2,mS Tryz.underlying4];exact aj.drop aF hcl (.lit _) hK
  ·rw[Vg V,Vg V]at hK;by_cases hxy:p=q
   ·rw[Vh hxy]at hK;simp only[go_sem,n3,h1,h2,mS Tryz.underlying4,eqw,hxy];exact aj.drop aF hcl (.lit _) hK
   rw[Vg hxy]at hK;simp only[go_sem,n3,h1,h2,mS Tryz.underlying4,eqw,hxy];refine W.dr 6 [0,0,3,0,8,24] mixed ?_;simp only[go_sem,mS Tryz.underlying4];refine⟨_,[],aY.pure fun H2=>zg p q H2 _ ⟨rfl,rfl⟩,?_⟩;by_cases hl:p<q
   ·simp only[go_sem,z3,mR Tryz.underlying4,hl];rw[Vh V]at hK;exact aj.drop aF hcl (.lit _) hK
   ·simp only[go_sem,z3,mR Tryz.underlying4,hl];rw[Vg V]at hK;exact aj.drop aF hcl (.lit _) hK
def ND {r:Int}(hf:ae prog G0 f [qV a b,qV c d] cW (mK (some (.lit (.int .i64 r))))):
  ae prog G0 140 [.ni [.X f [] []] 0,.ni [.lit (.int .i64 a),.lit (.int .i64 b)] 0,.ni [.lit (.int .i64 c),.lit (.int .i64 d)] 0] cW (mK (some (.lit (.int .i64 r)))):=by
 refine ae.X ⟨_,func140,rfl,rfl⟩ fun hcl=>?_;refine ae.st (n:=8) (rs:=[.tmp 3]) func140 ?_;simp only[go_sem];refine ak.X ((ae.sN (args:=[qV a b,qV c d]) aF rfl (fun i hi _=>.plain (match i,hi with|0,_=>vE a b|1,_=>vE c d)) hf).mono ?_);rintro r H' ⟨rfl,rfl⟩;refine⟨trivial,?_⟩;show opsV _ _ _ _ _ _ _;simp only[go_sem];exact aj.mk (WK _) ⟨_,rfl,.lit _⟩
def tC {S:Nat->Prop}{H:ZK}{nx:Nat}(x e:Int):Fz S H nx (.nc [.lit (.int .i64 x),.lit (.int .i64 e)]) (.nc [.lit (.int .i64 x),.lit (.int .i64 e)]) :=
 .nc rfl fun i hi _=>match i,hi with
  |0,_=>.lit _
  |1,_=>.lit _
def NF {r:Int}(ra:(-9223372036854775808<=a/\a<=9223372036854775807)/\(-9223372036854775808<=b/\b<=9223372036854775807))(rc:(-9223372036854775808<=c/\c<=9223372036854775807)/\(-9223372036854775808<=d/\d<=9223372036854775807))
  (hf:bt a b=0->bt c d=0->ae prog G0 f [qV a b,qV c d] cW (mK (some (.lit (.int .i64 r))))) (H:ZK) (K:ZQ->ZK->Prop) (hK:K (.ret (if bt a b=0/\bt c d=0 then .nc [.lit (.int .i64 r),.lit (.int .i64 0)] else .nc [.lit (.int .i64 0),.lit (.int .i64 5)])) H):
  ae prog G0 97 [qV a b,qV c d,.X f [] []] H K:=by
 refine ae.X ⟨_,func97,rfl,rfl⟩ fun hcl=>?_;refine ae.st (n:=22) (rs:=[.tmp 6,.tmp 7]) func97 ?_;simp only[go_sem,qV];refine ak.X (tB a b ra.1 ra.2 _ _ ⟨trivial,?_⟩);by_cases h1:bt a b=0;rotate_left
 ·rw[Vg fun h=>h1 h.1]at hK;simp only[go_sem,h1];exact aj.drop aF hcl (tC 0 5) hK
 rw[h1];simp only[go_sem];refine ak.X (tB c d rc.1 rc.2 _ _ ⟨trivial,?_⟩);by_cases h2:bt c d=0;rotate_left
 ·rw[Vg fun h=>h2 h.2]at hK;simp only[go_sem,h2];exact aj.drop aF hcl (tC 0 5) hK
 rw[h2];rw[Vh ⟨h1,h2⟩]at hK;simp only[go_sem];obtain⟨H1,hH1⟩:∃H1,H1=ext H [.J 0 58 [.lit (.int .i64 a),.lit (.int .i64 b)],.J 0 58 [.lit (.int .i64 c),.lit (.int .i64 d)],.J 0 68 (ZL.X f [] []).cells]:=⟨_,rfl⟩
 have n1:H1.A=H.A+3:=hH1▸rfl
 have k0:=dh hH1
 have k1:=gE hH1 1 rfl
 have k2:H1.get (H.A+2)=some (.J 0 68 [.X f [] []]):=by rw[hH1];exact bM H _ 2 (ZG)
 rw[<- hH1];refine ak.X ((Qv aF 140 [.O (H.A+2) 0 0,.O H.A 0 0,.O (H.A+1) 0 0] [.ni [.X f [] []] 0,.ni [.lit (.int .i64 a),.lit (.int .i64 b)] 0,.ni [.lit (.int .i64 c),.lit (.int .i64 d)] 0] H1 (some (.lit (.int .i64 r))) rfl (fun H2 hag i h h'=>?_) (fun u hu=>?_) (ND (hf h1 h2))).mono ?_)
 ·match i,h with
  |0,_=>exact .nN trivial ((hag _ V).trans k2) ZG rfl fun i hi _=>match i,hi with|0,_=>.X rfl rfl (fun i h _=>absurd h (Vt _)) (fun i h _=>absurd h (Vt _))
  |1,_=>exact .nN trivial ((hag _ V).trans k0) ZG rfl fun i hi _=>match i,hi with|0,_=>.lit _|1,_=>.lit _
  |2,_=>exact .nN trivial ((hag _ V).trans k1) ZG rfl fun i hi _=>match i,hi with|0,_=>.lit _|1,_=>.lit _
 ·cases hu;rfl
 ·rintro r H' ⟨rfl,rfl⟩;refine⟨trivial,?_⟩;rw[hH1];simp only[go_sem,tq];exact aj.drop aF hcl (tC _ _) hK
def bK (p q:Int):Int:=if p<q then -1 else if p=q then 0 else 1
def zo (hb:1<=b)(hd:1<=d):je a b c d=bK (a*d) (c*b):=by
 unfold je bK;obtain⟨B,rfl⟩:=Vm (show 0<=b by omega);obtain⟨D,rfl⟩:=Vm (show 0<=d by omega);simp only[WA];have pos:∀x:Nat,∀E:Nat,((x:Int)*(E:Int))=((x*E:Nat):Int):=fun x E=>(WE x E).symm;have neg:∀x:Nat,∀E:Nat,(-(x:Int)*(E:Int))=-((x*E:Nat):Int):=fun x E=>by rw[ZC,WE]
 have pp:∀x E:Nat,0<x->1<=(E:Int)->0<x*E:=fun x E h1 h2=>Y2 h1 V;by_cases h1:a<0
 ·obtain⟨A,hA,hA0⟩:∃A:Nat,a=-(A:Int)/\0<A:=⟨a.natAbs,V,V⟩
  subst hA;have p1:=pp A D hA0 hd;by_cases h2:c<0
  ·obtain⟨C,hC,hC0⟩:∃C:Nat,c=-(C:Int)/\0<C:=⟨c.natAbs,V,V⟩
   subst hC;simp only[XD,WA,neg];generalize A*D=P at *
   generalize C*B=Q at *
   repeat' split
   all_goals omega
  ·obtain⟨C,hC⟩:=Vm (show 0<=c by omega);subst hC;simp only[XD,WA,neg,pos];generalize A*D=P at *
   generalize C*B=Q at *
   repeat' split
   all_goals omega
 ·obtain⟨A,hA⟩:=Vm (show 0<=a by omega);subst hA;by_cases h2:c<0
  ·obtain⟨C,hC,hC0⟩:∃C:Nat,c=-(C:Int)/\0<C:=⟨c.natAbs,V,V⟩
   subst hC;have p2:=pp C B hC0 hb;simp only[XD,WA,neg,pos];generalize A*D=P at *
   generalize C*B=Q at *
   repeat' split
   all_goals omega
  ·obtain⟨C,hC⟩:=Vm (show 0<=c by omega);subst hC;simp only[WA,pos]
   repeat' split
   all_goals omega
def zp (a b c d:Int):ZL:=if bt a b=0/\bt c d=0 then .nc [.lit (.int .i64 (bK (a*d) (c*b))),.lit (.int .i64 0)] else .nc [.lit (.int .i64 0),.lit (.int .i64 5)]
def NG (a b c d:Int)(ra:(-9223372036854775808<=a/\a<=9223372036854775807)/\(-9223372036854775808<=b/\b<=9223372036854775807))(rc:(-9223372036854775808<=c/\c<=9223372036854775807)/\(-9223372036854775808<=d/\d<=9223372036854775807))
  (H:ZK) (K:ZQ->ZK->Prop) (hK:K (.ret (zp a b c d)) H):ae prog G0 57 [qV a b,qV c d] H K:=by
 refine ae.X ⟨_,func57,rfl,rfl⟩ fun hcl=>?_;refine ae.st (n:=11) (rs:=[.tmp 4,.tmp 5]) func57 ?_;simp only[go_sem,qV];refine ak.X (NF (a:=a) (b:=b) (c:=c) (d:=d) (r:=bK (a*d) (c*b)) ra rc (fun h1 h2=>?_) _ _ ⟨trivial,?_⟩)
 ·obtain⟨p1,p2,_⟩:=pG h1;obtain⟨p3,p4,_⟩:=pG h2;rw[<- zo p2.1 p4.1];exact(NC a b c d p1 p2 p3 p4 cW _ rfl).mono fun r H' h=>⟨_,h,.lit _⟩
 ·unfold zp at hK;by_cases h:bt a b=0/\bt c d=0
  ·rw[Vh h]at hK ⊢;simp only[go_sem];exact aj.drop aF hcl (tC _ _) hK
  ·rw[Vg h]at hK ⊢;simp only[go_sem];exact aj.drop aF hcl (tC _ _) hK
end Go.Proofs.F01
namespace Go.Proofs
open Go.Hx Tryz
variable {m n:Int}{r:List Nat}{u:Nat}{d:ZN}
def fW (d:ZN)(r:List Nat)(u:Nat)(n m:Int)(S:Nat):Bool:=decide (n*d.Z ^ d.C.length<=dO d r u S*m)
structure EnH (d:ZN)(r:List Nat)(u:Nat)(n m:Int)(s b8 b11 b9 b5:Nat)(H:ZK):Prop where
 sl:s<H.A
 hs:H.get s=some (.J 0 157 (hZ d r u))
 h8:H.get b8=some (.J 0 101 [.O s 0 0])
 h11:∃c e,eA (dC d r) (d.Z ^ d.C.length)=.agg [aa c,aa e]/\H.get b11=some (.J 0 58 [aa c,aa e])
 h9:H.get b9=some (.J 0 44 [aa 0])
 h5:H.get b5=some (.J 0 58 [aa n,aa m])
def EnH.ng {s b8 b11 b9 b5:Nat}{H H':ZK}(h:EnH d r u n m s b8 b11 b9 b5 H)(hn:H.A<=H'.A)(hk:∀i,i=s\/i=b8\/i=b11\/i=b9\/i=b5->H'.get i=H.get i):EnH d r u n m s b8 b11 b9 b5 H':=by
 obtain⟨c,e,h1,h2⟩:=h.h11;exact⟨by have:=h.sl;omega,(hk _ ZG).trans h.hs,(hk _ ZG).trans h.h8,⟨c,e,h1,(hk _ ZG).trans h2⟩,(hk _ ZG).trans h.h9,(hk _ ZG).trans h.h5⟩
def Qa {x y g W D:Int}(h:nna W D x y g):(0<=F01.bK (x*m) (n*y))↔n*D<=W*m:=by
 have g1:=h.g1;have e1:W*m=(x*m)*g:=by rw[<- h.n];grind
 have e2:n*D=(n*y)*g:=by rw[<- h.d];grind
 rw[e1,e2];generalize x*m=p;generalize n*y=q;have h1:q*g<=p*g↔q<=p:=⟨fun h=>Int.le_of_mul_le_mul_right h V,fun h=>W3 h V⟩
 rw[h1];unfold F01.bK;split
 ·omega
 ·split<;>omega
def DR (hok:ZS d)(h5:d.C.length<=5)(hro:Z0 d r){S:Nat}(hu:u∈r)(hS:Sub S (bz d u))(hck:F01.bt n m=0){s b8 b11 b9 b5:Nat}(H:ZK)(hE:EnH d r u n m s b8 b11 b9 b5 H)(K:ZQ->ZK->Prop)
  (hK:K (.ret (.lit (.bool (fW d r u n m S)))) H):
  ae prog G0 56 [aL S,.O b8 0 0,.O b11 0 0,.O b9 0 0,.O b5 0 0] H K:=by
 refine ae.X ⟨_,func56,rfl,rfl⟩ fun hcl=>?_;obtain⟨c,e,hce,h11⟩:=hE.h11;have l8:=ag hE.h8;have l11:=ag h11;have l5:=ag hE.h5;have g5:=tH hok h5;have t1:=oA hok hro;have t2:=oA (pL hok hro hu hS) (pM hok hro hu hS);have gd:(bw d r u S).Z ^ (bw d r u S).C.length=d.Z ^ d.C.length:=by rw[hJ];rfl
 rw[gd]at t2;obtain⟨x,y,gx,hx,hX⟩:=kM (S:=dO d r u S) (D:=d.Z ^ d.C.length) g5.1;have wb:=DJ hok h5 hro hu hS H hE.hs hE.sl;rw[hx,hce]at wb;have hw:dO d r u S=dC (bw d r u S) r-dC d r:=rfl;obtain⟨p1,p2⟩:=hX.bound;have y1:=hX.b1;have ckx:F01.bt x y=0:=F01.pO V V hX.cop;obtain⟨rn,rm,_⟩:=F01.pG hck;have hge:=Qa (n:=n) (m:=m) hX;refine ae.sw (n:=35) (rs:=[.tmp 6]) func56 ?_;refine W.sq ?_;simp only[go_sem];refine W.sq ?_;simp only[go_sem,l8,l11];refine ak.X (wb _ ⟨trivial,?_⟩);simp only[go_sem];obtain⟨H2,hH2⟩:∃H2,H2=ext H [.J 0 58 [.lit (.int .i64 x),.lit (.int .i64 y)]]:=⟨_,rfl⟩
 have o2:ZP H H2:=hH2▸.ext _ _
 have l7:=ag (show H2.get H.A=some (.J 0 58 [.lit (.int .i64 x),.lit (.int .i64 y)]) by rw[hH2];exact cL ..);have b5n:=hE.h5;have m5:H2.na b5 0=some (58,[.lit (.int .i64 n),.lit (.int .i64 m)]):=(o2.na (hcl.lt _ _ b5n)).trans l5;rw[<- hH2];clear hH2;refine W.sq ?_;simp only[go_sem];refine W.sq ?_;simp only[go_sem,l7,m5];refine ak.X (F01.NG x y n m ⟨V,V⟩ ⟨V,V⟩ H2 _ ⟨trivial,?_⟩);unfold F01.zp;rw[Vh ⟨ckx,hck⟩];simp only[go_sem];refine W.sq ?_;simp only[go_sem];refine W.vs ?_;by_cases hb:(0:Int)<=F01.bK (x*m) (n*y)
 ·rw[show fW d r u n m S=true from VD (hge.1 hb)]at hK;simp only[go_sem,hb];exact aj.bB aF hcl o2 (.lit _) hK
 ·rw[show fW d r u n m S=false from V7 fun h=>hb (hge.2 h)]at hK;simp only[go_sem,hb];exact aj.bB aF hcl o2 (.lit _) hK
end Go.Proofs
namespace Go.Hx
variable {P:Program} {t:TypeId} {x y:Operand}
def PV {a b:Nat}(ha:a<2 ^ 63)(hb:b<2 ^ 63):aU P .and t x y (.lit (.int .i64 (a:Int))) (.lit (.int .i64 (b:Int)))=some (.lit (.int .i64 ((a &&& b:Nat):Int))):=by
 rw[qt];have h1:(BitVec.ofInt 64 (a:Int) &&& BitVec.ofInt 64 (b:Int)).toNat=a &&& b:=by
  rw[BitVec.toNat_and,sv V,sv V]
 have h2:a &&& b<=a:=YE;show some (ZL.lit (.int .i64 (IntKind.i64.wrap ((BitVec.ofInt 64 (a:Int) &&& BitVec.ofInt 64 (b:Int)).toNat:Nat))))=_;rw[h1,Vd _ V]
end Go.Hx
namespace Go.Proofs
open Go.Hx Tryz
variable {M k n p:Nat}{d:ZN}
def fq (s:Nat):Nat:=((List.range 8).filter fun i=>s.testBit i).length
def jg (x:Nat):Nat:=((x >>> 1) &&& 6148914691236517205)+(x &&& 6148914691236517205)
def jQ (x:Nat):Nat:=((x >>> 2) &&& 3689348814741910323)+(x &&& 3689348814741910323)
def kY (x:Nat):Nat:=((x >>> 4)+x) &&& 1085102592571150095
def mU (x:Nat):Nat:=x+(x >>> 8)
def pQ (x:Nat):Nat:=x+(x >>> 16)
def tI (x:Nat):Nat:=x+(x >>> 32)
def PW:((List.range 256).all fun n=>Nat.ble (jg n) 65535 && Nat.ble (jQ (jg n)) 65535 && Nat.ble (kY (jQ (jg n))) 65535 && Nat.ble (mU (kY (jQ (jg n)))) 65535 && Nat.ble (pQ (mU (kY (jQ (jg n))))) 65535 && Nat.ble (tI (pQ (mU (kY (jQ (jg n)))))) 65535 && Nat.beq (tI (pQ (mU (kY (jQ (jg n))))) &&& 127) (fq n) && Nat.ble (fq n) 8)=true:=ZI
def DL (h:n<256):jg n<=65535/\jQ (jg n)<=65535/\kY (jQ (jg n))<=65535/\mU (kY (jQ (jg n)))<=65535/\pQ (mU (kY (jQ (jg n))))<=65535/\tI (pQ (mU (kY (jQ (jg n)))))<=65535/\tI (pQ (mU (kY (jQ (jg n))))) &&& 127=fq n/\fq n<=8:=by
 have:=VG.1 PW n (Vs.2 h);simp only[VL,Nat.ble_eq,Nat.beq_eq]at this;obtain⟨⟨⟨⟨⟨⟨⟨a,b⟩,c⟩,d⟩,e⟩,f⟩,g⟩,i⟩:=this;exact⟨a,b,c,d,e,f,g,i⟩
def rz {a b:Nat}(h:a+b<2 ^ 64):IntKind.u64.wrap ((a:Int)+(b:Int))=((a+b:Nat):Int):=by
 rw[<- Int.natCast_add];exact qu h
def PX (s:Nat)(hs:s<256)(H:ZK)(K:ZQ->ZK->Prop)(hK:K (.ret (aa (fq s))) H):ae prog G0 73 [aL s] H K:=by
 obtain⟨b1,b2,b3,b4,b5,b6,e7,_⟩:=DL hs;have step:∀(a k m:Nat),a<65536->m<2 ^ 64->∀t x y,aU prog .and t x y (.lit (.int .u64 ((a >>> k:Nat):Int))) (.lit (.int .u64 (m:Int)))=some (.lit (.int .u64 ((a >>> k &&& m:Nat):Int))):=fun a k m ha hm t x y=>mB (W4 (Ys a k) V) hm;have le1:∀a k m:Nat,a<65536->a >>> k &&& m<65536:=fun a k m h=>W4 (VM YE (Ys a k)) h;have le2:∀a m:Nat,a<65536->a &&& m<65536:=fun a m h=>W4 YE h;have le3:∀a k:Nat,a<65536->a >>> k<65536:=fun a k h=>W4 (Ys a k) h;unfold aL;refine ae.sw (n:=35) (rs:=[.tmp 2]) func73 ?_;refine W.sq ?_;simp only[go_sem];obtain⟨x1,h1⟩:∃z,z=jg s:=⟨_,rfl⟩
 have p1:∀t x y,aU prog .shr t x y (.lit (.int .u64 (s:Int))) (.lit (.int .u64 1))=some (.lit (.int .u64 ((s >>> 1:Nat):Int))):=fun t x y=>jm (s:=1) V;have p2:∀t x y,aU prog .and t x y (.lit (.int .u64 ((s >>> 1:Nat):Int))) (.lit (.int .u64 6148914691236517205))=_:=step s 1 6148914691236517205 V ZH;have p3:∀t x y,aU prog .and t x y (.lit (.int .u64 (s:Int))) (.lit (.int .u64 6148914691236517205))=some (.lit (.int .u64 ((s &&& 6148914691236517205:Nat):Int))):=fun t x y=>mB V ZH;have p4:=rz (a:=s >>> 1 &&& 6148914691236517205) (b:=s &&& 6148914691236517205) (by have:=le1 s 1 6148914691236517205 V;have:=le2 s 6148914691236517205 V;omega);rw[show (s >>> 1 &&& 6148914691236517205)+(s &&& 6148914691236517205)=x1 from h1.symm]at p4;refine W.sq ?_;simp only[go_sem,p1,p2,p3,p4];rw[<- h1]at b1 b2 b3 b4 b5 b6 e7;clear h1 p1 p2 p3 p4;refine W.en (fun E=>E 0=.lit (.int .u64 (x1:Int))) (by simp only[go_sem]) fun E q1=>?_
 obtain⟨x2,h2⟩:∃z,z=jQ x1:=⟨_,rfl⟩
 have p1:∀t x y,aU prog .shr t x y (.lit (.int .u64 (x1:Int))) (.lit (.int .u64 2))=some (.lit (.int .u64 ((x1 >>> 2:Nat):Int))):=fun t x y=>jm (s:=2) V;have p2:∀t x y,aU prog .and t x y (.lit (.int .u64 ((x1 >>> 2:Nat):Int))) (.lit (.int .u64 3689348814741910323))=_:=step x1 2 3689348814741910323 V ZH;have p3:∀t x y,aU prog .and t x y (.lit (.int .u64 (x1:Int))) (.lit (.int .u64 3689348814741910323))=some (.lit (.int .u64 ((x1 &&& 3689348814741910323:Nat):Int))):=fun t x y=>mB V ZH;have p4:=rz (a:=x1 >>> 2 &&& 3689348814741910323) (b:=x1 &&& 3689348814741910323) (by have:=le1 x1 2 3689348814741910323 V;have:=le2 x1 3689348814741910323 V;omega);rw[show (x1 >>> 2 &&& 3689348814741910323)+(x1 &&& 3689348814741910323)=x2 from h2.symm]at p4;refine W.sq ?_;simp only[go_sem,q1,p1,p2,p3,p4];rw[<- h2]at b2 b3 b4 b5 b6 e7;clear h2 p1 p2 p3 p4;refine W.en (fun E2=>E2 0=.lit (.int .u64 (x2:Int))) (by simp only[go_sem]) fun E2 q2=>?_
 clear q1 E;obtain⟨x3,h3⟩:∃z,z=kY x2:=⟨_,rfl⟩
 have p1:∀t x y,aU prog .shr t x y (.lit (.int .u64 (x2:Int))) (.lit (.int .u64 4))=some (.lit (.int .u64 ((x2 >>> 4:Nat):Int))):=fun t x y=>jm (s:=4) V;have l3:=le3 x2 4 V;have p4:=rz (a:=x2 >>> 4) (b:=x2) V;have p3:∀t x y,aU prog .and t x y (.lit (.int .u64 ((x2 >>> 4+x2:Nat):Int))) (.lit (.int .u64 1085102592571150095))=some (.lit (.int .u64 ((((x2 >>> 4)+x2) &&& 1085102592571150095:Nat):Int))):=fun t x y=>mB V ZH;rw[show ((x2 >>> 4)+x2) &&& 1085102592571150095=x3 from h3.symm]at p3;refine W.sq ?_;simp only[go_sem,q2,p1,p4,p3];rw[<- h3]at b3 b4 b5 b6 e7;clear h3 p1 p3 p4 l3;refine W.en (fun E3=>E3 0=.lit (.int .u64 (x3:Int))) (by simp only[go_sem]) fun E3 q3=>?_
 clear q2 E2;obtain⟨x4,h4⟩:∃z,z=mU x3:=⟨_,rfl⟩
 have p1:∀t x y,aU prog .shr t x y (.lit (.int .u64 (x3:Int))) (.lit (.int .u64 8))=some (.lit (.int .u64 ((x3 >>> 8:Nat):Int))):=fun t x y=>jm (s:=8) V;have p4:=rz (a:=x3) (b:=x3 >>> 8) (by have:=le3 x3 8 V;omega);rw[show x3+(x3 >>> 8)=x4 from h4.symm]at p4;refine W.sq ?_;simp only[go_sem,q3,p1,p4];rw[<- h4]at b4 b5 b6 e7;clear h4 p1 p4;refine W.en (fun E4=>E4 0=.lit (.int .u64 (x4:Int))) (by simp only[go_sem]) fun E4 q4=>?_
 clear q3 E3;obtain⟨x5,h5⟩:∃z,z=pQ x4:=⟨_,rfl⟩
 have p1:∀t x y,aU prog .shr t x y (.lit (.int .u64 (x4:Int))) (.lit (.int .u64 16))=some (.lit (.int .u64 ((x4 >>> 16:Nat):Int))):=fun t x y=>jm (s:=16) V;have p4:=rz (a:=x4) (b:=x4 >>> 16) (by have:=le3 x4 16 V;omega);rw[show x4+(x4 >>> 16)=x5 from h5.symm]at p4;refine W.sq ?_;simp only[go_sem,q4,p1,p4];rw[<- h5]at b5 b6 e7;clear h5 p1 p4;refine W.en (fun E5=>E5 0=.lit (.int .u64 (x5:Int))) (by simp only[go_sem]) fun E5 q5=>?_
 clear q4 E4;obtain⟨x6,h6⟩:∃z,z=tI x5:=⟨_,rfl⟩
 have p1:∀t x y,aU prog .shr t x y (.lit (.int .u64 (x5:Int))) (.lit (.int .u64 32))=some (.lit (.int .u64 ((x5 >>> 32:Nat):Int))):=fun t x y=>jm (s:=32) V;have p4:=rz (a:=x5) (b:=x5 >>> 32) (by have:=le3 x5 32 V;omega);rw[show x5+(x5 >>> 32)=x6 from h6.symm]at p4;refine W.sq ?_;simp only[go_sem,q5,p1,p4];rw[<- h6]at b6 e7;clear h6 p1 p4;refine W.en (fun E6=>E6 0=.lit (.int .u64 (x6:Int))) (by simp only[go_sem]) fun E6 q6=>?_
 clear q5 E5;have w6:=Vd (x6:Int) V;have p3:∀t x y,aU prog .and t x y (.lit (.int .i64 (x6:Int))) (.lit (.int .i64 127))=some (.lit (.int .i64 ((x6 &&& 127:Nat):Int))):=fun t x y=>PV (b:=127) V ZH;rw[e7]at p3;refine W.vs ?_;simp only[go_sem,q6,w6,p3];exact aj.mk ZJ hK
def DM (s:Nat)(hs:s<256)(H:ZK)(K:ZQ->ZK->Prop)(hK:K (.ret (aa (fq s))) H):ae prog G0 31 [aL s] H K:=by
 refine ae.st (n:=8) (rs:=[.tmp 2]) func31 ?_;simp only[go_sem];refine ak.X (PX s hs H _ ⟨trivial,?_⟩);simp only[go_sem];exact aj.mk ZJ hK
def jy (M k p:Nat):Bool:=decide (eE p M=0) && decide (fq p=k)
def eK (M k p:Nat):List Nat:=((List.range k).flatMap fun j=>(List.range (M+1)).filter (jy M j))++(List.range p).filter (jy M k)
def gL (M:Nat):List Nat:=eK M (fq M+1) 0
def DN (M k:Nat):eK M k (M+1)=eK M (k+1) 0:=by
 unfold eK;rw[VX (n:=k),YN];simp
def DO (h:jy M k p=true):eK M k (p+1)=eK M k p++[p]:=by
 unfold eK;rw[VX (n:=p),WY,<- List.append_assoc];congr 1;simp[h]
def DP (h:jy M k p=false):eK M k (p+1)=eK M k p:=by
 unfold eK;rw[VX (n:=p),WY];simp[h]
def DQ {m:Nat}(h:n<=m):∃t,List.range m=List.range n++t:=⟨(List.range (m-n)).map (n+·),by rw[<- List.range_add];congr 1;omega⟩
def PY (hk:k<=fq M)(hp:p<=M+1):∃t,gL M=eK M k p++t:=by
 have e1:∃t,eK M (k+1) 0=eK M k p++t:=by
  obtain⟨t,ht⟩:=DQ hp;refine⟨t.filter (jy M k),?_⟩;rw[<- DN];unfold eK;rw[ht,WY,<- List.append_assoc]
 have e2:∃t,gL M=eK M (k+1) 0++t:=by
  obtain⟨t,ht⟩:=DQ (show k+1<=fq M+1 by omega);refine⟨t.flatMap fun j=>(List.range (M+1)).filter (jy M j),?_⟩;unfold gL eK;rw[ht,YN];simp
 obtain⟨t1,h1⟩:=e1;obtain⟨t2,h2⟩:=e2;exact⟨t1++t2,by rw[h2,h1,List.append_assoc]⟩
def PZ (hk:k<=fq M)(hp:p<=M)(h:jy M k p=true):(gL M)[(eK M k p).length]?=some p:=by
 obtain⟨t,ht⟩:=PY hk (show p+1<=M+1 by omega);rw[ht,DO h,List.append_assoc,VS ZJ,X3];rfl
def P0 {i:Nat}(h:(gL M)[i]?=some p):((gL M).map fun (p:Nat)=>[aL p])[i]?=some [aL p]:=by rw[List.getElem?_map,h];rfl
def P8 (M bx:Nat)(hM:M<256):um prog G0 101 [] [.O bx 0 0] ((gL M).map fun (p:Nat)=>[aL p]) (fun H=>H.get bx=some (.J 0 34 [aL M])):=by
 intro idy J Stop H K hS hJ0 hY hK hSt;have hc8:=(DL hM).2.2.2.2.2.2.2;have l1:=ag (hS 0 H hJ0);have w0:=Vd ((fq M:Int)+1) V;unfold aL at l1;show ae _ _ _ ([.nk idy]++[.O bx 0 0]) _ _;refine ae.sw (n:=33) (rs:=[]) func101 ?_;refine W.sq ?_;simp only[go_sem,l1];refine ak.X (DM M hM H _ ⟨trivial,?_⟩);simp only[go_sem,w0];refine W.en (fun E=>E 0=.nk idy /\ E 1=.O bx 0 0 /\ E 7=aa ((fq M:Int)+1) /\ E 8=aa 0) (by simp only[go_sem]) fun E ⟨e0,e1,e7,e8⟩=>?_
 refine W.block ?_;refine W.aS 8589934360 (by rfl) (fun ρ H'=>∃k:Nat,ρ 8=aa k/\k<=fq M+1/\J (eK M k 0).length H'/\H.A<=H'.A) (fun ρ _=>fq M+1-(iv (ρ 8)).toNat) ?_ ?_
 ·exact⟨0,e8,V,hJ0,ZJ⟩
 rintro ρ Hx ⟨k,h8,hk,hj,hnx⟩;refine W.en (fun E2=>E2 0=.nk idy /\ E2 1=.O bx 0 0 /\ E2 7=aa ((fq M:Int)+1) /\ E2 8=aa k) (by simp only[go_sem,e0,e1,e7,h8]) fun E2 ⟨f0,f1,f7,f8⟩=>?_
 by_cases hb:(k:Int)<(fq M:Int)+1;rotate_left
 ·refine W.vs ?_;simp only[go_sem,f7,f8,hb];obtain rfl:k=fq M+1:=V
  exact aj.mk V (hK Hx (by rw[VA];exact hj) hnx)
 refine W.sq ?_;simp only[go_sem,f7,f8,hb];refine W.sq ?_;simp only[go_sem];refine W.seq (W.block ?_);refine W.sq ?_;simp only[go_sem,f8];refine W.sq ?_;simp only[go_sem];refine W.en (fun E3=>E3 0=.nk idy /\ E3 1=.O bx 0 0 /\ E3 3=aa k /\ E3 4=.lit (.int .u64 0) /\ E3 7=aa ((fq M:Int)+1) /\ E3 8=aa k) (by simp only[go_sem,f0,f1,f7,f8]) fun E3 ⟨g0,g1,g3,g4,g7,g8⟩=>?_
 refine W.block ?_;refine W.aS 4294965264 (by rfl) (fun ρ H'=>∃p:Nat,ρ 4=aL p/\p<=M+1/\J (eK M k p).length H'/\Hx.A<=H'.A) (fun ρ _=>M+1-(iv (ρ 4)).toNat) ?_ ?_
 ·exact⟨0,g4,V,hj,ZJ⟩
 rintro ρ2 Hy ⟨p,h4,hp,hjy,hny⟩;refine W.env fun E4 hE=>?_;have i0:E4 0=.nk idy:=by rw[hE];simp only[go_sem,g0]
 have i1:E4 1=.O bx 0 0:=by rw[hE];simp only[go_sem,g1]
 have i3:E4 3=aa k:=by rw[hE];simp only[go_sem,g3]
 have i4:E4 4=.lit (.int .u64 (p:Int)):=by rw[hE];simp only[go_sem];exact h4
 have i7:E4 7=aa ((fq M:Int)+1):=by rw[hE];simp only[go_sem,g7]
 have i8:E4 8=aa k:=by rw[hE];simp only[go_sem,g8]
 clear hE;have ly:=ag (hS _ _ hjy);unfold aL at ly;by_cases hpb:(p:Int)<=M;rotate_left
 ·obtain rfl:p=M+1:=V
  refine W.vs ?_;simp only[go_sem,i1,i4,ly,hpb];have wk:=Vd ((k:Int)+1) V;refine W.vs ?_;simp only[go_sem,i8,wk];exact⟨V,⟨k+1,rfl,V,by rw[<- DN];exact hjy,V⟩,by rw[h8];simp only[aa,bf];omega⟩
 have wp:IntKind.u64.wrap ((p:Int)+1)=((p+1:Nat):Int):=qu (m:=p+1) V;have s2:=fun t x y=>pe (P:=prog) (t:=t) (x:=x) (y:=y) (a:=p) (b:=M);have done:eK M k (p+1)=eK M k p->∀H',J (eK M k p).length H'->Hx.A<=H'.A->∃q:Nat,ZL.lit (.int .u64 ((p+1:Nat):Int))=aL q/\q<=M+1/\J (eK M k q).length H'/\Hx.A<=H'.A:=fun e H' h1 h2=>⟨p+1,rfl,V,by rw[e];exact h1,h2⟩
 have dec:M+1-(((p+1:Nat):Int)).toNat<M+1-(iv (ρ2 4)).toNat:=by rw[h4];simp only[aL,bf];omega
 refine W.sq ?_;simp only[go_sem,i1,i4,ly,hpb];refine W.seq (W.block ?_);by_cases hz:(eE p M:Int)=0;rotate_left
 ·have hno:jy M k p=false:=by unfold jy;rw[V7 V];rfl
  refine W.sq ?_;simp only[go_sem,i1,i4,ly,s2,hz];refine W.cond (t:=false) (by simp only[go_sem]) ?_;refine W.vs ?_;simp only[go_sem];refine W.vs ?_;simp only[go_sem,i4,wp];exact⟨V,done (DP hno) _ hjy hny,dec⟩
 refine W.sq ?_;simp only[go_sem,i1,i4,ly,s2,hz];refine ak.X (DM p V Hy _ ⟨trivial,?_⟩);by_cases hc:(fq p:Int)=k;rotate_left
 ·have hno:jy M k p=false:=by unfold jy;rw[V7 (show ¬fq p=k by omega),Bool.and_false]
  simp only[go_sem,i3,hc];refine W.cond (t:=false) (by simp only[go_sem]) ?_;refine W.vs ?_;simp only[go_sem];refine W.vs ?_;simp only[go_sem,i4,wp];exact⟨V,done (DP hno) _ hjy hny,dec⟩
 have hyes:jy M k p=true:=by unfold jy;rw[VD (show eE p M=0 by omega),VD (show fq p=k by omega)];rfl
 have hat:=P0 (PZ V V hyes);simp only[go_sem,i0,i3,i4,hc];refine hY _ _ Hy _ hat hjy V (fun H2 hj2 hn2=>⟨trivial,?_⟩) (fun H2 hs2 hn2=>⟨trivial,?_⟩)
 ·simp only[go_sem];refine W.cond (t:=false) (by simp only[go_sem]) ?_;refine W.vs ?_;simp only[go_sem];refine W.vs ?_;simp only[go_sem,i4,wp];have e:(eK M k (p+1)).length=(eK M k p).length+1:=by rw[DO hyes,List.length_append];rfl
  exact⟨V,⟨p+1,rfl,V,by rw[e];exact hj2,V⟩,dec⟩
 ·simp only[go_sem];refine W.cond (t:=true) (by simp only[go_sem]) ?_;refine W.vs ?_;simp only[go_sem];exact aj.mk V (hSt H2 hs2 V)
def P9 (M:Nat)(H:ZK)(K:ZQ->ZK->Prop)(hK:K (.ret (.X 101 [] [.O H.A 0 0])) (ext H [.J 0 34 [aL M]])):
  ae prog G0 58 [aL M] H K:=by
 unfold aL at hK ⊢;refine ae.st (n:=4) (rs:=[.tmp 2]) func58 ?_;simp only[go_sem];exact aj.mk (by simp[aW]) hK
def zF (hok:ZS d)(u:Nat):bz d u<256:=by
 have n8:=hok.n.n1;have h:=pJ (d:=d) (u:=u) (S:=bz d u) fun i h=>h;exact Vn h (by
  have:=Vr (n:=2) ZH (show d.C.length<=8 by omega);omega)
def Qb (h:p∈gL M)(hM:M<2 ^ 64):Sub p M:=by
 unfold gL eK at h;rcases VH.1 h with h|h
 ·obtain⟨k,_,h⟩:=List.mem_flatMap.1 h;have hp:=Vs.1 (Xa.1 h).1;have h2:=(Xa.1 h).2;unfold jy at h2;rw[VL,Ym]at h2;intro i hi;have h3:=congrArg (fun z=>Nat.testBit z i) h2.1;simp only[V4]at h3;rw[mA V,hi]at h3;cases hb:M.testBit i with
  |true=>rfl
  |false=>rw[hb]at h3;cases h3
 ·simp at h
def vQ {S:Nat->Prop}{H:ZK}{nx:Nat}(a:Nat)(e:Int):Fz S H nx (.nc [.lit (.int .u64 (a:Int)),.lit (.int .i64 e)]) (.nc [aL a,aa e]) :=
 .nc rfl fun i hi _=>match i,hi with
  |0,_=>.lit _
  |1,_=>.lit _
def Qc (hok:ZS d)(h5:d.C.length<=5){r:List Nat}(hro:Z0 d r){u:Nat}(hu:u∈r){n m:Int}(hn:-9223372036854775808<=n/\n<=9223372036854775807)(hm:-9223372036854775808<=m/\m<=9223372036854775807)(H:ZK)(K:ZQ->ZK->Prop)
  (hF:F01.bt n m≠0->K (.ret (.nc [aL 0,aa (F01.bt n m)])) H)
  (hA:F01.bt n m=0->n<0->K (.ret (.nc [aL 0,aa 2])) H)
  (hN:F01.bt n m=0->0<=n->fW d r u n m (bz d u)=false->K (.ret (.nc [aL 0,aa 4])) H)
  (hK:∀S,F01.bt n m=0->0<=n->fW d r u n m (bz d u)=true->S=((gL (bz d u)).find? (fW d r u n m)).getD 0->K (.ret (.nc [aL S,aa 0])) H):
  ae prog G0 23 [da d,aa u,.agg [aa n,aa m]] H K:=by
 refine ae.X ⟨_,func23,rfl,rfl⟩ fun hcl=>?_;have hf:=oK hok;obtain⟨he,hv⟩:=pP hok hro;have hul:u<d.C.length:=(bN.1 (hro.mem u hu)).1;have hM:=zF hok u;have g5:=tH hok h5;obtain⟨c,e,gc,hc,hC⟩:=kM (S:=dC d r) (D:=d.Z ^ d.C.length) g5.1;refine ae.sw (n:=62) (rs:=[.tmp 6,.tmp 7]) func23 ?_;refine W.sq ?_;simp only[go_sem,gR,cR];obtain⟨H1,hH1⟩:∃H1,H1=ext H [.J 0 38 [.lit (.int .i64 d.Z),.Q d.C.length (aG d.C),.lit (.int .u64 (d.nl:Int)),.Q d.Y.length (bA d.Y)],.J 0 58 [.lit (.int .i64 n),.lit (.int .i64 m)]]:=⟨_,rfl⟩
 have g3:=dh hH1
 have g5':H1.get (H.A+1)=some (.J 0 58 [.lit (.int .i64 n),.lit (.int .i64 m)]):=by rw[hH1];exact bM H _ 1 (ZG)
 have o1:ZP H H1:=hH1▸.ext _ _
 have n1:H1.A=H.A+2:=hH1▸rfl
 rw[<- hH1];clear hH1;have l3:=ag g3;refine W.scope ?_;refine W.sq ?_;simp only[go_sem,l3];refine ak.X (vK d hf u H1 _ (fun h=>absurd (he.symm.trans h) ZH) (fun _ h=>absurd he h) (fun _ h=>absurd (mT.2 (hv ▸ hu)) h) fun r' u' H2 _ hr' hu' hm' hH2=>⟨trivial,?_⟩);obtain rfl:r=r':=hv.symm.trans hr';obtain rfl:u=u':=V
 have o2:ZP H1 H2:=by rw[hH2];exact .ext _ _
 have gs:H2.get (H1.A+1)=some (.J 0 157 (hZ d r u)):=by rw[hH2];exact bM H1 _ 1 (ZG)
 have n2:H2.A=H1.A+2:=by rw[hH2];rfl
 clear hH2;simp only[go_sem];obtain⟨H3,hH3⟩:∃H3,H3=ext H2 [.J 0 101 [.O (H1.A+1) 0 0],.J 0 44 [.lit (.int .i64 0)]]:=⟨_,rfl⟩
 have g8:=dh hH3
 have g9:=gE hH3 1 rfl
 have o3:ZP H2 H3:=hH3▸.ext _ _
 have n3:H3.A=H2.A+2:=hH3▸rfl
 rw[<- hH3];clear hH3;have l9:=ag g9;have g33:=(o3.nf _ V).trans ((o2.nf H.A V).trans g3);have g53:=(o3.nf _ V).trans ((o2.nf (H.A+1) V).trans g5');have l33:=ag g33;have l53:=ag g53;have oH3:ZP H H3:=(o1.trans o2).trans o3;refine W.en (fun E=>E 1=aa u /\ E 3=.O H.A 0 0 /\ E 5=.O (H.A+1) 0 0 /\ E 8=.O H2.A 0 0 /\ E 9=.O (H2.A+1) 0 0) (by simp only[go_sem]) fun E ⟨e1,e3,e5,e8,e9⟩=>?_
 refine W.sq ?_;simp only[go_sem,e9,l9];refine W.sq ?_;simp only[go_sem,e5,l53];refine ak.X (F01.tB n m hn hm H3 _ ⟨trivial,?_⟩);by_cases hck:F01.bt n m=0;rotate_left
 ·simp only[go_sem,hck];exact aj.bB aF hcl oH3 (vQ 0 _) (hF hck)
 rw[hck];simp only[go_sem];by_cases hneg:n<0
 ·refine W.sq ?_;simp only[go_sem,e5,l53,hneg];exact aj.bB aF hcl oH3 (vQ 0 _) (hA hck hneg)
 refine W.sq ?_;simp only[go_sem,e5,l53,hneg];refine W.sq ?_;simp only[go_sem,e3,l33];refine ak.X (tu d hf V H3 _ (fun h=>absurd (he.symm.trans h) ZH) (fun _ h=>absurd he h) fun r' hr' _ _=>⟨trivial,?_⟩);obtain rfl:r=r':=Option.some.inj ((ou hok hro).symm.trans hr');rw[hc];have l9e:∀L,(ext H3 L).na (H2.A+1) 0=_:=fun L=>(eF V).trans l9;simp only[go_sem,e9,l9e];obtain⟨H4,hH4⟩:∃H4,H4=(ext H3 [.J 0 58 [.lit (.int .i64 c),.lit (.int .i64 e)]]).upd (H2.A+1) (.J 0 44 [.lit (.int .i64 0)]):=⟨_,rfl⟩
 have n4:H4.A=H3.A+1:=by rw[hH4];rfl
 have k4:∀i,i<H3.A->H4.get i=H3.get i:=fun i h=>by
  rw[hH4,ah];split
  ·rename_i hi;rw[hi];exact g9.symm
  ·exact c9 H3 _ i h
 have o4:ZP H3 H4:=⟨V,k4⟩
 have g11:H4.get H3.A=some (.J 0 58 [.lit (.int .i64 c),.lit (.int .i64 e)]):=by rw[hH4,ah,Vg V];exact cL ..
 rw[<- hH4];clear hH4;have l94:=ag ((k4 _ V).trans g9);refine W.sq ?_;simp only[go_sem,e9,l94];refine W.sq ?_;simp only[go_sem];refine W.sq ?_;simp only[go_sem,e5,e8,e9];refine⟨⟨rfl,rfl,ZJ⟩,?_⟩;obtain⟨H5,hH5⟩:∃H5,H5=ext H4 [.J 0 34 [.lit (.int .u64 0)],.J 0 122 [.X 56 [] [.O H2.A 0 0,.O H3.A 0 0,.O (H2.A+1) 0 0,.O (H.A+1) 0 0]]]:=⟨_,rfl⟩
 have o5:ZP H4 H5:=hH5▸.ext _ _
 have n5:H5.A=H4.A+2:=hH5▸rfl
 have g12:=dh hH5
 have g13:=gE hH5 1 rfl
 show W _ _ _ _ _ _ ⟨_,ext H4 [.J 0 34 [.lit (.int .u64 0)],.J 0 122 [.X 56 [] [.O H2.A 0 0,.O H3.A 0 0,.O (H2.A+1) 0 0,.O (H.A+1) 0 0]]]⟩;rw[<- hH5];clear hH5;have o345:ZP H3 H5:=o4.trans o5;have gs5:=(o345.nf _ V).trans ((o3.nf _ V).trans gs);have g85:=(o345.nf _ V).trans g8;have g95:=(o345.nf _ V).trans g9;have g55:=(o345.nf _ V).trans g53;have g115:=(o5.nf _ V).trans g11;have hE5:EnH d r u n m (H1.A+1) H2.A H3.A (H2.A+1) (H.A+1) H5:=⟨V,gs5,g85,⟨c,e,hc,g115⟩,g95,g55⟩
 have l85:=ag g85;have l95:=ag g95;have l12:=ag g12;have l13:=ag g13;have oH5:ZP H H5:=oH3.trans o345;refine W.en (fun E2=>E2 8=.O H2.A 0 0 /\ E2 9=.O (H2.A+1) 0 0 /\ E2 12=.O H4.A 0 0 /\ E2 13=.O (H4.A+1) 0 0) (by simp only[go_sem,e8,e9]) fun E2 ⟨f8,f9,f12,f13⟩=>?_
 refine W.sq ?_;simp only[go_sem,f8,l85];refine ak.X (vJ hok (vO hf) hul H5 gs5 V _ ⟨trivial,?_⟩);simp only[go_sem];refine W.sq ?_;simp only[go_sem,f13,l13];refine ak.X (DR hok h5 hro hu (fun i h=>h) hck H5 hE5 _ ⟨trivial,?_⟩);cases hb:fW d r u n m (bz d u) with
 |false =>
  simp only[go_sem,f9,l95];exact aj.bB aF hcl oH5 (vQ 0 _) (hN hck V hb)
 |true =>
 simp only[go_sem];refine W.seq (W.label ?_);refine W.seq ?_;refine W.sq ?_;simp only[go_sem];refine ak.X (P9 (bz d u) H5 _ ⟨trivial,?_⟩);simp only[go_sem];obtain⟨H6,hH6⟩:∃H6,H6=ext H5 [.J 0 34 [.lit (.int .u64 ((bz d u:Nat):Int))]]:=⟨_,rfl⟩
 have o6:ZP H5 H6:=hH6▸.ext _ _
 have n6:H6.A=H5.A+1:=hH6▸rfl
 have gbx:H6.get H5.A=some (.J 0 34 [aL (bz d u)]):=by rw[hH6];exact cL ..
 rw[<- hH6];clear hH6;refine W.en (fun E3=>E3 9=.O (H2.A+1) 0 0 /\ E3 12=.O H4.A 0 0 /\ E3 13=.O (H4.A+1) 0 0 /\ E3 52=.X 101 [] [.O H5.A 0 0]) (by simp only[go_sem,f9,f12,f13]) fun E3 ⟨i9,i12,i13,i52⟩=>?_
 have tail:∀(Hy:ZK) (S:Nat),H6.A<=Hy.A->(∀i,i<H6.A->i≠H4.A->Hy.get i=H6.get i)->S=((gL (bz d u)).find? (fW d r u n m)).getD 0->aj prog G0 H K (.nc [.lit (.int .u64 (S:Int)),.lit (.int .i64 0)]) Hy:=fun Hy S h1 h2 h3=>by
  have a1:=o345.A;have a2:=oH3.A;exact aj.bB aF hcl ⟨V,fun i hi=>(h2 i V V).trans ((o6.nf i V).trans (oH5.nf i hi))⟩ (vQ S 0) (hK S hck V hb h3)
 have g96:=(o6.nf _ V).trans g95;refine W.block ?_;refine W.sy (f:=101) (first:=[]) (cap:=[.O H5.A 0 0]) (by show E3 52=_;exact i52) (P8 (bz d u) H5.A hM)
  (fun k Hy=>H6.A<=Hy.A/\(∀id,id<H6.A->Hy.get id=H6.get id)/\∀j p,j<k->(gL (bz d u))[j]?=some p->fW d r u n m p=false)
  (fun c Hy=>c=.exit 0/\H6.A<=Hy.A/\(∀id,id<H6.A->id≠H4.A->Hy.get id=H6.get id)/\∃p:Nat,(gL (bz d u)).find? (fW d r u n m)=some p/\Hy.get H4.A=some (.J 0 34 [.lit (.int .u64 (p:Int))]))
  (fun k Hy h=>by rw[h.2.1 _ V];exact gbx)
  (fun k Hy b h=>⟨h.1,fun id h1=>by rw[ah,Vg V];exact h.2.1 id h1,h.2.2⟩)
  (fun c Hy b h=>⟨h.1,h.2.1,fun id h1 h2=>by rw[ah,Vg V];exact h.2.2.1 id h1 h2,by
   obtain⟨v,hv,hg⟩:=h.2.2.2;exact⟨v,hv,by rw[ah,Vg V];exact hg⟩⟩)
  (fun b=>⟨by rw[aW];omega,fun id h1=>dz h1,fun j v h=>absurd h (Vt _)⟩)
  ZH (fun x hx=>by obtain⟨p,_,rfl⟩:=Vu.1 hx;rfl) (fun _ _ _=>trivial) (fun _ _ _=>trivial) (fun k y Hy B Bb hy hj hn hB hBb=>?_) (fun Hy hj hn=>?_) (fun Hy hs hn=>by cases hs.1) (fun i Hy hs hn=>?_)
 ·obtain⟨p,hp,rfl⟩:∃p,(gL (bz d u))[k]?=some p/\[aL p]=y:=by
   rw[List.getElem?_map]at hy;cases hq:(gL (bz d u))[k]? with
   |none=>rw[hq]at hy;cases hy
   |some p=>rw[hq]at hy;exact⟨p,rfl,Option.some.inj hy⟩
  obtain⟨hyn,hyo,hyno⟩:=hj;have hpS:=Qb (an hp) V;refine W.vs ?_;simp only[go_sem,jL,dq,mE,Wk,XB,WX,W5,hB];obtain⟨H7,hH7⟩:∃H7,H7=Hy.upd H6.A Bb:=⟨_,rfl⟩
  rw[<- hH7];obtain⟨st,pd,n',en,ps',as',bo,hBe⟩:=hBb;have n7:H7.A=Hy.A:=by rw[hH7];rfl
  have o7:∀id,id<H6.A->H7.get id=H6.get id:=fun id h=>by rw[hH7,ah,Vg V];exact hyo id h
  have jB:H7.get H6.A=some Bb:=by rw[hH7,ah,Vh rfl]
  have hE7:EnH d r u n m (H1.A+1) H2.A H3.A (H2.A+1) (H.A+1) H7:=hE5.ng V fun i hi=>by
   have:i<H5.A:=by rcases hi with h|h|h|h|h<;>omega
   exact(o7 i V).trans (o6.nf i this)
  have y13:=ag ((o7 _ V).trans ((o6.nf _ V).trans g13));have y12:=ag ((o7 _ V).trans ((o6.nf _ V).trans g12));refine W.en (fun E4=>E4 12=.O H4.A 0 0 /\ E4 13=.O (H4.A+1) 0 0 /\ E4 15=aL p) (by simp only[go_sem,dq,i12,i13]) fun E4 ⟨m12,m13,m15⟩=>?_
  refine W.vs ?_;simp only[go_sem,m13,m15,y13];refine ak.X (DR hok h5 hro hu hpS hck H7 hE7 _ ⟨⟨st,pd,n',en,ps',as',bo,by rw[jB,hBe]⟩,?_⟩);cases hep:fW d r u n m p with
  |false =>
   simp only[go_sem,im];exact⟨jB,V,V,o7,fun j w hj hw=>by
    rcases VC j k with h'|h'
    ·exact hyno j w h' hw
    ·obtain rfl:j=k:=V;rw[hp]at hw;cases hw;exact hep⟩
  |true =>
   unfold aL at m15;simp only[go_sem,m12,m15,y12,im];exact⟨by rw[ah,Vg V];exact jB,by rw[aQ];omega,by rw[aQ];omega,fun id h1 h2=>by rw[ah,Vg h2];exact o7 id h1,p,CA hp hep hyno,by rw[ah,Vh rfl]⟩
 ·obtain⟨hyn,hyo,hyno⟩:=hj;rw[VA]at hyno;have hnone:(gL (bz d u)).find? (fW d r u n m)=none:=by
   rw[XH];intro v hv;obtain⟨j,hj⟩:=Vl.1 hv;have:=hyno j v (aO hj) hj;rw[this];decide
  have y9:=ag ((hyo _ V).trans g96);have y12:=ag ((hyo _ V).trans ((o6.nf _ V).trans g12));simp only[go_sem];refine W.sq ?_;simp only[go_sem,i9,y9];refine W.vs ?_;simp only[go_sem,i12,y12];exact tail Hy 0 hyn (fun i h _=>hyo i h) (by rw[hnone];rfl)
 ·obtain⟨hc0,hyn,hyo,p,hp,hg12⟩:=hs;cases hc0;have y9:=ag ((hyo _ V V).trans g96);have y12:=ag hg12;simp only[go_sem];refine W.sq ?_;simp only[go_sem,i9,y9];refine W.vs ?_;simp only[go_sem,i12,y12];exact tail Hy p hyn hyo (by rw[hp];rfl)
end Go.Proofs
namespace Go.Hx
variable {P:Program} {G:Nat->Option (List ZL)}
variable {f:FuncId}{args args' l l':List ZL}{nx:Nat}{S:Nat->Prop}{H:ZK}{K:ZQ->ZK->Prop}
inductive FzL (S:Nat->Prop)(H:ZK)(nx:Nat):List ZL->List ZL->Prop
 |nil:FzL S H nx [] []
 |cons {a a':ZL} {l l':List ZL} (h:Fz S H nx a a') (t:FzL S H nx l l'):FzL S H nx (a :: l) (a' :: l')
def FzL.len (h:FzL S H nx l l'):l'.length=l.length:=by
 induction h with
 |nil=>rfl
 |cons _ _ ih=>rw[List.length_cons,List.length_cons,ih]
def FzL.at (h:FzL S H nx l l'):∀i (h:i<l.length) (h':i<l'.length),Fz S H nx l[i] l'[i]:=by
 induction h with
 |nil=>intro i h;exact absurd h (Vt _)
 |cons h _ ih =>
  intro i h1 h2;cases i with
  |zero=>exact h
  |succ i=>exact ih i (by simpa using h1) (by simpa using h2)
theorem FzL.agg {S:Nat->Prop}{H:ZK}{nx:Nat}{l l':List ZL}(h:FzL S H nx l l'):Fz S H nx (.agg l) (.agg l'):=.agg h.len h.at
theorem FzL.nc {S:Nat->Prop}{H:ZK}{nx:Nat}{l l':List ZL}(h:FzL S H nx l l'):Fz S H nx (.nc l) (.nc l'):=.nc h.len h.at
theorem FzL.U {S:Nat->Prop}{H:ZK}{nx id g l z:Nat}{e:TypeId}{cells c':List ZL}(hS:S id)(hg:H.get id=some (.J g e cells))(hl:cells.length=l*z)(h:FzL S H nx cells c'):Fz S H nx (.U id g 0 l z) (.Q l c'):=by
 refine .ny hS hg (by rw[h.len,hl]) fun i hi h2 h'=>?_;have e0:0+i=i:=Nat.zero_add i;simpa only[e0] using h.at i V h'
def ak.Va (n:Nat)(hG:fB G)(hv:FzL (fun id=>n<=id) H H.A args args')(h:ae P G f args' (H.cut n) K):ak P G (.X f [] []) args H K :=
 ak.X (by simpa using ae.mb n hG hv.len (fun i h1 h2=>hv.at i h1 h2) h)
def ak.xD {B:ZK}(hG:fB G)(ho:ZP B H)(hv:FzL (fun id=>B.A<=id) H H.A args args')(h:∀H',ZP B H'->ae P G f args' H' K):ak P G (.X f [] []) args H K :=
 ak.Va B.A hG hv (h _ ho.cut)
end Go.Hx
namespace Go.Proofs
open Go.Hx Tryz
variable {f:FuncId}{m n:Int}{r:List Nat}{M S:Nat}{H:ZK}{d x:ZN}{K:ZQ->ZK->Prop}
instance (a:List Int)(n:Int):Decidable (bW a n):=by unfold bW;infer_instance
instance (g c:Int)(r:List Int):Decidable (kJ g c r):=by unfold kJ;infer_instance
instance (g:Int)(ns:List ZM)(x:ZM):Decidable (gF g ns x):=by unfold gF;infer_instance
instance (ps:List Nat):Decidable (jR ps):=by unfold jR;infer_instance
def Qd (d:ZN)(h1:1<=d.C.length/\d.C.length<=8)(h2:d.nl >>> d.C.length=0)(h3:∀x∈d.C,1<=x.L/\x.L<=4)(h4:∀v,v<d.C.length->d.nl.testBit v=true->(d.C.getD v ⟨0,[],[]⟩).nb=[]/\bW (d.C.getD v ⟨0,[],[]⟩).F d.C.length)
  (h5:(1<=d.Z/\d.Z<=60)/\∀x∈df d (fun _ _=>0),(1<=x.L/\x.L<=4)/\bW x.F (df d (fun _ _=>0)).length) (h6:aC (au (df d fun _ _=>0))<=1024) (h7:jR (aB (df d fun _ _=>0))) (h8:∀x∈df d (fun _ _=>0),gF d.Z (df d fun _ _=>0) x)
  (h9:d.Y.length<=4/\∀u∈d.Y,bW u.vars d.C.length/\(u.w.length:Int)=aC (aK (au d.C) u.vars)/\∀x∈u.w,-100<=x/\x<=100):ZS d :=
 ⟨⟨h1,h2,h3,fun v x hx hb=>by
  have:=h4 v (aO hx) hb;rw[Vj,hx]at this;exact this⟩,⟨h5.1,by rw[ik];exact h1,h5.2,h6,h7,h8⟩,⟨h9.1,fun u hu=>⟨(h9.2 u hu).1,(h9.2 u hu).2.1,(h9.2 u hu).2.2⟩⟩⟩
def dU:ZN:=⟨10,[⟨2,[],[[7,3]]⟩,⟨2,[0],[[8,2],[2,8]]⟩,⟨2,[],[]⟩],4,[⟨[0,2],[100,20,0,70]⟩]⟩
def kZ:ZS dU:=Qd dU ZH ZH ZH ZH ZH ZH ZH ZH (ZH)
def Qe:iL dU=some [2]:=ZI
def lf:Z0 dU [2]:=tU Qe
def zG:bz dU 2=3:=ZI
def Qf:eA (dO dU [2] 2 0) (dU.Z ^ dU.C.length)=.agg [aa 0,aa 1]:=ZI
def Qg:eA (dO dU [2] 2 1) (dU.Z ^ dU.C.length)=.agg [aa 21,aa 1]:=ZI
def Qh:eA (dO dU [2] 2 2) (dU.Z ^ dU.C.length)=.agg [aa 28,aa 5]:=ZI
def Qi:eA (dO dU [2] 2 3) (dU.Z ^ dU.C.length)=.agg [aa 21,aa 1]:=ZI
def DS (h:S |||M=M):Sub S M:=fun i hi=>by rw[<- h,Vy,hi];rfl
def pR (S:Nat)(h:S |||3=3):Sub S (bz dU 2):=by rw[zG];exact DS h
def m2:(2:Nat)∈[2]:=List.mem_singleton.2 rfl
def dX:ZN:=bw dU [2] 2 2
def DT:ZS dX:=pL kZ lf m2 (pR 2 ZH)
def DU:Z0 dX [2]:=pM kZ lf m2 (pR 2 ZH)
def Qj:bz dX 2=3:=ZI
def DV (S:Nat)(h:S |||3=3):Sub S (bz dX 2):=by rw[Qj];exact DS h
def Qk:eA (dO dX [2] 2 2) (dX.Z ^ dX.C.length)=.agg [aa 0,aa 1]:=ZI
def Ql:eA (dO dX [2] 2 1) (dX.Z ^ dX.C.length)=.agg [aa 77,aa 5]:=ZI
def DW:dX.C.length<=5:=ZH
def DX (H:ZK)(K:ZQ->ZK->Prop)(hK:K (.ret (da dU)) H):ae prog G0 32 [] H K:=by
 refine ae.X ⟨_,func32,rfl,rfl⟩ fun hcl=>?_;have e:da dU=.agg [aa 10,.Q 3 [aa 2,.Q 0 [],.Q 1 [.Q 2 [aa 7,aa 3]],aa 2,.Q 1 [aa 0],.Q 2 [.Q 2 [aa 8,aa 2],.Q 2 [aa 2,aa 8]],aa 2,.Q 0 [],.Q 0 []],.lit (.int .u64 4),.Q 1 [.Q 2 [aa 0,aa 2],.Q 4 [aa 100,aa 20,aa 0,aa 70]]]:=by rfl
 rw[e]at hK;refine ae.sw (n:=16) (rs:=[.cell 0 38]) func32 ?_;refine W.sq ?_;simp only[go_sem];refine W.sq ?_;simp only[go_sem]
 repeat (refine⟨ZH,?_⟩)
 refine W.vs ?_;simp only[go_sem];refine aj.bB aF hcl (.ext _ _) (FzL.agg ?_) hK
 repeat (first|exact FzL.nil|refine FzL.cons ?_ ?_|exact Fz.lit _|exact Fz.nil|refine FzL.U V (bM H _ _ ZG) rfl ?_)
def vR (hok:ZS d)(h5:d.C.length<=5)(hro:Z0 d r)(dec:Int)(S64:S<2 ^ 64)(H:ZK)(K:ZQ->ZK->Prop)
  (hN:dec ∉ aE r->K (.ret (.nc [.agg [aa 0,aa 0],aa 2])) H)
  (hA:∀u:Nat,dec=u->u∈r->eE S (bz d u)≠0->K (.ret (.nc [.agg [aa 0,aa 0],aa 2])) H)
  (hK:∀u:Nat,dec=u->u∈r->Sub S (bz d u)->K (.ret (.nc [eA (dO d r u S) (d.Z ^ d.C.length),aa 0])) H):
  ae prog G0 20 [da d,aa dec,aL S] H K:=by
 refine ae.X ⟨_,func20,rfl,rfl⟩ fun hcl=>?_;have hf:=oK hok;obtain⟨he,hv⟩:=pP hok hro;have g5:=tH hok h5;obtain⟨c,e,gc,hc,hC⟩:=kM (S:=dC d r) (D:=d.Z ^ d.C.length) g5.1;refine ae.sw (n:=42) (rs:=[.cell 6 58,.tmp 7]) func20 ?_;refine W.sq ?_;simp only[go_sem,gR,cR];obtain⟨H1,hH1⟩:∃H1,H1=ext H [.J 0 38 [.lit (.int .i64 d.Z),.Q d.C.length (aG d.C),.lit (.int .u64 (d.nl:Int)),.Q d.Y.length (bA d.Y)],.J 0 58 [.lit (.int .i64 0),.lit (.int .i64 0)]]:=⟨_,rfl⟩
 have g1:=dh hH1
 have g2:=gE hH1 1 rfl
 have n1:H1.A=H.A+2:=hH1▸rfl
 have o1:ZP H H1:=hH1▸.ext _ _
 rw[<- hH1];clear hH1;have l1:=ag g1;have l2:=ag g2;have zero:∀(H2:ZK),ZP H1 H2->K (.ret (.nc [.agg [aa 0,aa 0],aa 2])) H->aj prog G0 H K (.nc [.agg [aa 0,aa 0],aa 2]) (H2.upd (H.A+1) (.J 0 58 [aa 0,aa 0])):=fun H2 ho hk =>
  aj.bB aF hcl (ZP.upd (id:=H.A+1) (o1.trans ho) (Xw _) _) (zD 0 0 2) hk
 refine W.sq ?_;simp only[go_sem,l1];refine ak.X (vK d hf dec H1 _ (fun h=>absurd (he.symm.trans h) ZH) (fun _ h=>absurd he h) (fun _ h=>⟨trivial,?_⟩) fun r' u H2 _ hr' hu' hm hH2=>⟨trivial,?_⟩)
 ·simp only[go_sem];refine W.sq ?_;simp only[go_sem,l2];exact zero H1 (.refl _) (hN (hv ▸ h))
 obtain rfl:r=r':=hv.symm.trans hr';have hul:u<d.C.length:=(bN.1 (hro.mem u hm)).1;have o2:ZP H1 H2:=by rw[hH2];exact .ext _ _
 have gs:H2.get (H1.A+1)=some (.J 0 157 (hZ d r u)):=by rw[hH2];exact bM H1 _ 1 (ZG)
 have n2:H2.A=H1.A+2:=by rw[hH2];rfl
 have l12:=ag ((o2.nf _ V).trans g1);have l22:=ag ((o2.nf _ V).trans g2);clear hH2;have s2:=fun t x y=>pe (P:=prog) (t:=t) (x:=x) (y:=y) (a:=S) (b:=bz d u);simp only[go_sem];refine W.sq ?_;simp only[go_sem];refine W.sq ?_;simp only[go_sem];refine ak.X (vJ hok (vO hf) hul H2 gs V _ ⟨trivial,?_⟩);unfold aL;by_cases hz:eE S (bz d u)=0;rotate_left
 ·have hzi:¬((eE S (bz d u):Nat):Int)=0:=V
  simp only[go_sem,s2,hzi,l22];exact zero H2 o2 (hA u hu' hm hz)
 have hS:Sub S (bz d u):=fun i hi=>by
  have h3:=congrArg (fun z=>Nat.testBit z i) hz;simp only[V4]at h3;rw[mA S64,hi]at h3;cases hb:(bz d u).testBit i with
  |true=>rfl
  |false=>rw[hb]at h3;cases h3
 rw[hz]at s2;have hK:=hK u hu' hm hS;obtain⟨x,y,gx,hx,hX⟩:=kM (S:=dO d r u S) (D:=d.Z ^ d.C.length) g5.1;simp only[go_sem,s2];refine W.sq ?_;simp only[go_sem,l12];refine ak.X (tu d hf V H2 _ (fun h=>absurd (he.symm.trans h) ZH) (fun _ h=>absurd he h) fun r' hr' _ _=>⟨trivial,?_⟩);obtain rfl:r=r':=Option.some.inj ((ou hok hro).symm.trans hr');have w1:=fun (H3:ZK) (ho:ZP H2 H3)=>DJ hok h5 hro hm hS H3 ((ho.nf _ V).trans gs) (by have:=ho.A;omega);rw[hc]at w1 ⊢;rw[hx]at w1 hK;simp only[go_sem];obtain⟨H3,hH3⟩:∃H3,H3=ext H2 [.J 0 58 [.lit (.int .i64 c),.lit (.int .i64 e)]]:=⟨_,rfl⟩
 have o3:ZP H2 H3:=hH3▸.ext _ _
 have l3:=ag (show H3.get H2.A=some (.J 0 58 [.lit (.int .i64 c),.lit (.int .i64 e)]) by rw[hH3];exact cL ..);have l23:=ag ((o3.nf _ V).trans ((o2.nf _ V).trans g2));rw[<- hH3];clear hH3;refine W.sq ?_;simp only[go_sem];refine W.vs ?_;simp only[go_sem,l3];refine ak.X (w1 H3 o3 _ ⟨trivial,?_⟩);simp only[go_sem,l23];exact aj.bB aF hcl (ZP.upd (id:=H.A+1) (o1.trans (o2.trans o3)) (Xw _) _) (zD x y 0) hK
def rA (hok:ZS d)(h5:d.C.length<=5)(hro:Z0 d [2])(S64:S<2 ^ 64)(hS:Sub S (bz d 2))(hw:eA (dO d [2] 2 S) (d.Z ^ d.C.length)=.agg [aa n,aa m])(H:ZK)(K:ZQ->ZK->Prop)(hK:K (.ret (.lit (.bool true))) H):
  ae prog G0 50 [da d,aL S,aa n,aa m] H K:=by
 refine ae.X ⟨_,func50,rfl,rfl⟩ fun hcl=>?_;have zS:eE S (bz d 2)=0:=VW fun i=>by
  rw[mA S64,V4];cases hb:S.testBit i with
  |false=>rfl
  |true=>rw[hS i hb];rfl
 have eq:∀o1 o2,aU prog .eql 58 o1 o2 (.agg [.lit (.int .i64 n),.lit (.int .i64 m)]) (.agg [.lit (.int .i64 n),.lit (.int .i64 m)])=some (.lit (.bool true)):=fun o1 o2=>by rw[MX];simp
 refine ae.sw (n:=26) (rs:=[.tmp 8]) func50 ?_;refine W.sq ?_;simp only[go_sem,gR,cR];have l1:(ext H [.J 0 38 [.lit (.int .i64 d.Z),.Q d.C.length (aG d.C),.lit (.int .u64 (d.nl:Int)),.Q d.Y.length (bA d.Y)]]).na H.A 0=some (38,_):=ag (cL ..);refine W.sq ?_;simp only[go_sem,l1];refine ak.X (vR hok h5 hro 2 S64 _ _ (fun h=>absurd (by simp[aE]) h) (fun u hu _ h=>?_) fun u hu _ _=>⟨trivial,?_⟩)
 ·obtain rfl:u=2:=V
  exact absurd zS h
 obtain rfl:u=2:=V
 rw[hw];simp only[go_sem];refine W.vs ?_;simp only[go_sem,eq];exact aj.bB aF hcl (.ext _ _) (.lit _) hK
def tJ {want:Nat}{no:Int}(hn:-9223372036854775808<=n/\n<=9223372036854775807)(hm:-9223372036854775808<=m/\m<=9223372036854775807)
  (hF:F01.bt n m≠0->want=0/\no=F01.bt n m) (hA:F01.bt n m=0->n<0->want=0/\no=2) (hN:F01.bt n m=0->0<=n->fW dU [2] 2 n m (bz dU 2)=false->want=0/\no=4)
  (hG:F01.bt n m=0->0<=n->fW dU [2] 2 n m (bz dU 2)=true->want=((gL (bz dU 2)).find? (fW dU [2] 2 n m)).getD 0/\no=0) (H:ZK) (K:ZQ->ZK->Prop) (hK:K (.ret (.lit (.bool true))) H):
  ae prog G0 33 [aa n,aa m,aL want,aa no] H K:=by
 refine ae.X ⟨_,func33,rfl,rfl⟩ fun hcl=>?_;have fin:∀(a:Nat) (e:Int),want=a/\no=e->ae prog G0 23 [da dU,aa 2,.agg [aa n,aa m]] H (fun r H'=>r=.ret (.nc [aL a,aa e])/\H'=H)->ae prog G0 23 [da dU,aa 2,.agg [aa n,aa m]] H (fun r H'=>r=.ret (.nc [aL want,aa no])/\H'=H):=fun a e h hc=>by rw[h.1,h.2];exact hc
 have main:ae prog G0 23 [da dU,aa 2,.agg [aa n,aa m]] H (fun r H'=>r=.ret (.nc [aL want,aa no])/\H'=H) :=
  Qc kZ ZH lf m2 hn hm H _ (fun h=>by rw[(hF h).1,(hF h).2];exact⟨rfl,rfl⟩) (fun h h2=>by rw[(hA h h2).1,(hA h h2).2];exact⟨rfl,rfl⟩) (fun h h2 h3=>by rw[(hN h h2 h3).1,(hN h h2 h3).2];exact⟨rfl,rfl⟩) fun S h h2 h3 h4=>by rw[(hG h h2 h3).1,(hG h h2 h3).2,h4];exact⟨rfl,rfl⟩
 refine ae.sw (n:=27) (rs:=[.tmp 8]) func33 ?_;refine W.sq ?_;simp only[go_sem];refine W.sq ?_;simp only[go_sem];refine ak.X (DX H _ ⟨trivial,?_⟩);simp only[go_sem];refine ak.X (main.mono ?_);rintro rr H' ⟨rfl,rfl⟩;refine⟨trivial,?_⟩;unfold aL;simp only[go_sem];refine W.vs ?_;simp only[go_sem];exact aj.bB aF hcl (.refl _) (.lit _) hK
def rB:dU.C.length<=5:=ZH
def Qm:((gL (bz dU 2)).find? (fW dU [2] 2 1 1)).getD 0=1:=ZI
def Qn:((gL (bz dU 2)).find? (fW dU [2] 2 10 1)).getD 0=1:=ZI
def Qo:fW dU [2] 2 1 1 (bz dU 2)=true:=ZI
def Qp:fW dU [2] 2 10 1 (bz dU 2)=true:=ZI
def Qq:fW dU [2] 2 22 1 (bz dU 2)=false:=ZI
def Qr (H:ZK)(K:ZQ->ZK->Prop)(hK:K (.ret (.lit (.bool true))) H):ae prog G0 19 [] H K:=by
 refine ae.X ⟨_,func19,rfl,rfl⟩ fun hcl=>?_;refine ae.sw (n:=90) (rs:=[.tmp 0]) func19 ?_;refine W.sq ?_;simp only[go_sem];refine W.sq ?_;simp only[go_sem];refine ak.X (DX H _ ⟨trivial,?_⟩);simp only[go_sem,gR,cR];obtain⟨H1,hH1⟩:∃H1,H1=ext H [.J 0 38 [.lit (.int .i64 dU.Z),.Q dU.C.length (aG dU.C),.lit (.int .u64 (dU.nl:Int)),.Q dU.Y.length (bA dU.Y)]]:=⟨_,rfl⟩
 have g1:=dh hH1
 have n1:H1.A=H.A+1:=hH1▸rfl
 have o1:ZP H H1:=hH1▸.ext _ _
 rw[<- hH1];clear hH1;have l1:=ag g1;refine W.sq ?_;simp only[go_sem,l1];refine ak.X (zE kZ lf m2 H1 _ ⟨trivial,?_⟩);rw[zG];simp only[go_sem];refine W.sq ?_;simp only[go_sem,l1];have hs:=fun (K:ZQ->ZK->Prop) (h:K (.ret (.nc [da dX,aa 0])) H1)=>DK kZ ZH lf m2 (pR 2 ZH) H1 K h;refine ak.X (hs _ ⟨trivial,?_⟩);clear hs;simp only[go_sem,gR,cR];obtain⟨H2,hH2⟩:∃H2,H2=ext H1 [.J 0 38 [.lit (.int .i64 dX.Z),.Q dX.C.length (aG dX.C),.lit (.int .u64 (dX.nl:Int)),.Q dX.Y.length (bA dX.Y)]]:=⟨_,rfl⟩
 have g4:=dh hH2
 have n2:H2.A=H1.A+1:=hH2▸rfl
 have o2:ZP H1 H2:=hH2▸.ext _ _
 rw[<- hH2];clear hH2;have l12:=ag ((o2.nf _ V).trans g1);refine W.sq ?_;simp only[go_sem,l12];refine ak.X (vR kZ rB lf 0 (S:=0) ZH H2 _ (fun _=>⟨trivial,?_⟩) (fun u h1 h2 _=>absurd h2 (by simp;omega)) fun u h1 h2 _=>absurd h2 (by simp;omega));simp only[go_sem];obtain⟨H3,hH3⟩:∃H3,H3=ext H2 [.J 0 58 [.lit (.int .i64 0),.lit (.int .i64 0)]]:=⟨_,rfl⟩
 have o3:ZP H2 H3:=hH3▸.ext _ _
 have n3:H3.A=H2.A+1:=hH3▸rfl
 rw[<- hH3];clear hH3;have l13:=ag ((o3.nf _ V).trans ((o2.nf _ V).trans g1));refine W.sq ?_;simp only[go_sem,l13];refine ak.X (vR kZ rB lf 2 (S:=4) ZH H3 _ (fun h=>absurd (by simp[aE]) h) (fun u h1 h2 _=>⟨trivial,?_⟩) fun u h1 h2 h=>by
  obtain rfl:u=2:=V
  have:=h 2 ZH;rw[zG]at this;exact absurd this ZH)
 simp only[go_sem];obtain⟨H4,hH4⟩:∃H4,H4=ext H3 [.J 0 58 [.lit (.int .i64 0),.lit (.int .i64 0)]]:=⟨_,rfl⟩
 have o4:ZP H2 H4:=by rw[hH4];exact o3.trans (.ext _ _)
 rw[<- hH4];clear hH4;have l14:=ag ((o4.nf _ V).trans ((o2.nf _ V).trans g1));have l44:=ag ((o4.nf _ V).trans g4);have oH:ZP H H4:=(o1.trans o2).trans o4;refine W.en (fun E=>E 1=.O H.A 0 0 /\ E 2=.lit (.int .u64 3) /\ E 3=aa 0 /\ E 4=.O H1.A 0 0 /\ E 5=aa 0 /\ E 7=aa 2 /\ E 9=aa 2) (by simp only[go_sem]) fun E ⟨e1,e2,e3,e4,e5,e7,e9⟩=>?_
 refine W.sq ?_;simp only[go_sem,e1,e2,e3,e5,e7,e9,l14];refine ak.X (rA kZ rB lf ZH (pR 0 ZH) Qf H4 _ ⟨trivial,?_⟩);simp only[go_sem,e1,l14];refine ak.X (rA kZ rB lf ZH (pR 2 ZH) Qh H4 _ ⟨trivial,?_⟩);simp only[go_sem,e1,l14];refine ak.X (rA kZ rB lf ZH (pR 1 ZH) Qg H4 _ ⟨trivial,?_⟩);simp only[go_sem,e1,l14];refine ak.X (rA kZ rB lf ZH (pR 3 ZH) Qi H4 _ ⟨trivial,?_⟩);simp only[go_sem,e4,l44];refine ak.X (rA DT DW DU ZH (DV 2 ZH) Qk H4 _ ⟨trivial,?_⟩);simp only[go_sem,e4,l44];refine ak.X (rA DT DW DU ZH (DV 1 ZH) Ql H4 _ ⟨trivial,?_⟩);simp only[go_sem];refine W.env fun E2 hE=>?_;have f10:E2 10=.lit (.bool true):=by rw[hE];simp only[go_sem]
 clear hE e1 e2 e3 e4 e5 e7 e9;have c11:F01.bt 1 1=0:=ZH
 have c101:F01.bt 10 1=0:=ZH
 refine W.vs ?_;simp only[go_sem,f10];refine ak.X (tJ (n:=1) (m:=1) (want:=1) (no:=0) ZH ZH (fun h=>absurd ZH h) (fun _ h=>absurd h ZH) (fun _ _ h=>absurd (Qo.symm.trans h) ZH) (fun _ _ _=>⟨Qm.symm,rfl⟩) H4 _ ⟨trivial,?_⟩);simp only[go_sem];refine ak.X (tJ (n:=10) (m:=1) (want:=1) (no:=0) ZH ZH (fun h=>absurd ZH h) (fun _ h=>absurd h ZH) (fun _ _ h=>absurd (Qp.symm.trans h) ZH) (fun _ _ _=>⟨Qn.symm,rfl⟩) H4 _ ⟨trivial,?_⟩);simp only[go_sem];refine ak.X (tJ (n:=22) (m:=1) (want:=0) (no:=4) ZH ZH (fun h=>absurd ZH h) (fun _ h=>absurd h ZH) (fun _ _ _=>⟨rfl,rfl⟩) (fun _ _ h=>absurd (Qq.symm.trans h) ZH) H4 _ ⟨trivial,?_⟩);simp only[go_sem];refine ak.X (tJ (n:=-1) (m:=1) (want:=0) (no:=2) ZH ZH (fun h=>absurd ZH h) (fun _ _=>⟨rfl,rfl⟩) (fun _ h=>absurd h ZH) (fun _ h=>absurd h ZH) H4 _ ⟨trivial,?_⟩);simp only[go_sem];refine ak.X (tJ (n:=2) (m:=4) (want:=0) (no:=5) ZH ZH (fun _=>⟨rfl,ZH⟩) (fun h=>absurd h ZH) (fun h=>absurd h ZH) (fun h=>absurd h ZH) H4 _ ⟨trivial,?_⟩);simp only[go_sem];exact aj.bB aF hcl oH (.lit _) hK
def DY (d:ZN)(h:ae prog G0 f [da d] H K):ae prog G0 f [nr d] H K :=
 ae.A3 (args':=[da d]) aF rfl (fun i hi _=>match i,hi with|0,_=>Aa d) h
def DZ (d:ZN)(a:Int)(h:ae prog G0 f [da d,aa a] H K):ae prog G0 f [nr d,aa a] H K :=
 ae.A3 (args':=[da d,aa a]) aF rfl (fun i hi _=>match i,hi with|0,_=>Aa d|1,_=>.lit _) h
def D0 (d:ZN)(a:Int)(S:Nat)(h:ae prog G0 f [da d,aa a,aL S] H K):ae prog G0 f [nr d,aa a,aL S] H K :=
 ae.A3 (args':=[da d,aa a,aL S]) aF rfl (fun i hi _=>match i,hi with|0,_=>Aa d|1,_=>.lit _|2,_=>.lit _) h
def Qs (h:DrI true x):∃r,Z0 x r:=by
 obtain⟨r,hr⟩:=VQ.1 (M5 h);exact⟨r,tU hr⟩
def D1 (S M:Nat):Sub (S &&& M) M:=fun i hi=>by
 rw[Wc,VL]at hi;exact hi.2
def D2 (hM:M<2 ^ 64):S &&& M<2 ^ 64:=W4 Nat.and_le_right hM
def nna.nn {S D a b g:Int}(h:nna S D a b g)(hS:0<=S):0<=a:=by
 rcases Zo a 0 with h1|h1
 ·have:=Int.mul_neg_of_neg_of_pos h1 (show 0<g by have:=h.g1;omega);rw[h.n]at this;omega
 ·exact h1
def zH (hok:ZS x)(h5:x.C.length<=5)(hro:Z0 x r){u:Nat}(hu:u∈r)(S64:S<2 ^ 64)(hS:Sub S (bz x u))(H:ZK)(K:ZQ->ZK->Prop)(hK:K (.ret (.nc [eA (dO x r u S) (x.Z ^ x.C.length),aa 0])) H):
  ae prog G0 20 [nr x,aa u,aL S] H K:=by
 have zS:eE S (bz x u)=0:=VW fun i=>by
  rw[mA S64,V4];cases hb:S.testBit i with
  |false=>rfl
  |true=>rw[hS i hb];rfl
 refine D0 x u S (vR hok h5 hro u S64 H K (fun h=>absurd (mT.2 hu) h) (fun u' h1 _ h=>?_) fun u' h1 _ _=>?_)
 ·obtain rfl:u=u':=V
  exact absurd zS h
 ·obtain rfl:u=u':=V
  exact hK
end Go.Proofs
namespace Go.Proofs.R01
open Go.Hx Tryz
def Se (x y:Nat)(hx:(aw x).length <= 200)(hy:(aw y).length <= 200)(H:ZK)(K:ZQ -> ZK -> Prop)(hK:K (.ret (af (aw (x + y)))) H):ae prog G0 70 [af (aw x),af (aw y)] H K := by
  refine ae.X ⟨_,func70,rfl,rfl⟩ fun hcl => ?_
  have hS:(aw (x + y)).length <= 201 := nu (by
    have h1 := qa hx
    have h2 := qa hy
    rw[Wv]
    generalize 10000 ^ 200=P at *
    omega)
  obtain⟨p,hp⟩:∃p,p=aw x := ⟨_,rfl⟩
  obtain⟨q,hq⟩:∃q,q=aw y := ⟨_,rfl⟩
  rw[<- hp]at hx ⊢
  rw[<- hq]at hy ⊢
  refine ae.st (n := 52) (rs := [.tmp 4]) func70 ?_
  simp only[go_sem,az]
  refine W.aS 2251799813685216 (by rfl) (fun ρ H' => ∃(i c X Y:Nat) (done:List Int),ρ 7=aa i /\ ρ 6=aa c /\ c <= 1 /\ ZP H H' /\ aI H.A H' 3 (ρ 5) (ints done) /\ done.length=i /\ p.drop i=aw X /\ q.drop i=aw Y /\ aw (x + y)=done ++ aw (c + X + Y)) (fun ρ H => 201-(iv (ρ 7)).toNat) ?_ ?_
  · simp only[go_sem,az]
    exact⟨0,0,x,y,[],rfl,rfl,V,.refl _,.nil,rfl,by simpa using hp,by simpa using hq,ZG⟩
  rintro ρ H' ⟨i,c,X,Y,done,h7,h6,hc,ov,h5,hl,hX,hY,hd⟩
  refine W.vs ?_
  obtain⟨a1,a2,a3⟩ := oM hX
  obtain⟨b1,b2,b3⟩ := oM hY
  by_cases hR:c + X + Y=0
  · have n1:¬(i:Int) < p.length := by have := fun h => a1.1 h;omega
    have n2:¬(i:Int) < q.length := by have := fun h => b1.1 h;omega
    have n3:¬(0:Int) < (c:Int) := by omega
    simp only[go_sem,h7,h6,n1,n2,n3,az]
    rw[hR,iG,List.append_nil]at hd
    rw[hd]at hK
    exact aj.bB aF hcl ov (h5.iB fun i hi => hi) hK
  · have hdR := nt hR
    have hlen:done.length <= 200 := by rw[hd,hdR,List.length_append,List.length_cons]at hS;omega
    obtain⟨t,ht⟩:∃t,t=c + X % 10000 + Y % 10000 := ⟨_,rfl⟩
    have e1:(c + X + Y) % 10000=t % 10000 := by omega
    have e2:(c + X + Y) / 10000=t / 10000 + X / 10000 + Y / 10000 := by omega
    have tm:((t:Int)).tmod 10000=((t % 10000:Nat):Int) := by rw[VV V];rfl
    have td:((t:Int)).tdiv 10000=((t / 10000:Nat):Int) := by rw[V1 V];rfl
    have w1 := Vd ((t % 10000:Nat):Int) (V)
    have w2 := Vd ((t / 10000:Nat):Int) (V)
    have w3 := Vd ((i:Int) + 1) (V)
    obtain⟨v',H2,hA,hO,hn2,hpr⟩ := jv (P := prog) (H := H') (t := 72) (x := aa (t % 10000:Nat)) (n := H'.A + 1) Tryz.underlying72 Tryz.fC Tryz.fm rfl (by rw[Tryz.fV,bD];omega) h5 ov.A rfl
    simp only[aa]at hA
    have ov2:ZP H H2 := mo ov h5 hn2 hpr
    have fin:∃(i' c' X' Y':Nat) (done':List Int),ZL.lit (.int .i64 ((i:Int) + 1))=aa i' /\ ZL.lit (.int .i64 ((t / 10000:Nat):Int))=aa c' /\ c' <= 1 /\ ZP H H2 /\ aI H.A H2 3 v' (ints done') /\ done'.length=i' /\ p.drop i'=aw X' /\ q.drop i'=aw Y' /\ aw (x + y)=done' ++ aw (c' + X' + Y') := by
      refine⟨i + 1,t / 10000,X / 10000,Y / 10000,done ++ [((t % 10000:Nat):Int)],by simp[aa],rfl,V,ov2,by simpa[ints,aa] using hO,by simp[hl],a3,b3,?_⟩
      rw[hd,hdR,e1,e2];simp
    by_cases hx0:X=0
    · have n1:¬(i:Int) < p.length := by have := fun h => a1.1 h;omega
      by_cases hy0:Y=0
      · have n2:¬(i:Int) < q.length := by have := fun h => b1.1 h;omega
        have n3:(0:Int) < (c:Int) := by omega
        have tc:(c:Int)=(t:Int) := by omega
        rw[tc]at h6 n3
        simp only[go_sem,h7,h6,n1,n2,n3,tm,td,w1,w2,w3,hA]
        exact⟨ov2.A,fin,V⟩
      · have n2:(i:Int) < q.length := by have := b1.2 hy0;omega
        have g2 := b2 hy0
        have qn:¬q = [] := by rintro rfl;simp at n2;omega
        have tc:(c:Int) + ((Y % 10000:Nat):Int)=(t:Int) := by omega
        have w4 := Vd (t:Int) (V)
        simp only[go_sem,h7,h6,n1,n2,g2,qn,tc,tm,td,w1,w2,w3,w4,hA]
        exact⟨ov2.A,fin,V⟩
    · have n1:(i:Int) < p.length := by have := a1.2 hx0;omega
      have g1 := a2 hx0
      have pn:¬p = [] := by rintro rfl;simp at n1;omega
      have w5 := Vd ((c:Int) + ((X % 10000:Nat):Int)) (V)
      have w4 := Vd (t:Int) (V)
      by_cases hy0:Y=0
      · have n2:¬(i:Int) < q.length := by have := fun h => b1.1 h;omega
        have tc:(c:Int) + ((X % 10000:Nat):Int)=(t:Int) := by omega
        simp only[go_sem,h7,h6,n1,n2,g1,pn,tc,tm,td,w1,w2,w3,w4,hA]
        exact⟨ov2.A,fin,V⟩
      · have n2:(i:Int) < q.length := by have := b1.2 hy0;omega
        have g2 := b2 hy0
        have qn:¬q = [] := by rintro rfl;simp at n2;omega
        have tc:(c:Int) + ((X % 10000:Nat):Int) + ((Y % 10000:Nat):Int)=(t:Int) := by omega
        simp only[go_sem,h7,h6,n1,n2,g1,g2,pn,qn,w5,tc,tm,td,w1,w2,w3,w4,hA]
        exact⟨ov2.A,fin,V⟩
def Fo {n:Int}(h:n ≠ 0):n.natAbs ≠ 0 := by omega
def eW (a c:Int)(X Y:Nat):Nat := if (a < 0 ↔ c < 0) then X + Y else if X < Y then Y-X else X-Y
def dJ (a c:Int)(X Y:Nat):Bool := if (a < 0 ↔ c < 0) then decide (a < 0) else if X < Y then !decide (a < 0) else decide (a < 0)
def Sf {X:Nat}(h:X < 10000 ^ 10 + 10000 ^ 10):(aw X).length <= 11 := nu (by
  have e:(10000:Nat) ^ 11=10000 * 10000 ^ 10 := by decide
  rw[e]
  omega)
def Sg (a b c d:Int)(ha:dR a)(hb:dR b)(hc:dR c)(hd:dR d)(hb0:b ≠ 0)(hd0:d ≠ 0)(H:ZK)(K:ZQ -> ZK -> Prop)
    (hK:K (.ret (qc (dJ a c (a.natAbs * d.natAbs) (c.natAbs * b.natAbs)) (eW a c (a.natAbs * d.natAbs) (c.natAbs * b.natAbs)) (b.natAbs * d.natAbs))) H):
    ae prog G0 30 [qV a b,qV c d] H K := by
  refine ae.X ⟨_,func30,rfl,rfl⟩ fun hcl => ?_
  have la := kD ha
  have lb := kD hb
  have lc := kD hc
  have ld := kD hd
  have l1 := tS ha hd
  have l2 := tS hc hb
  have l3 := tS hb hd
  have nz:b.natAbs * d.natAbs ≠ 0 := Nat.mul_ne_zero (Fo hb0) (Fo hd0)
  have t1 := fun H2 K h => rQ a.natAbs d.natAbs V V H2 K h
  have t2 := fun H2 K h => rQ c.natAbs b.natAbs V V H2 K h
  have t3 := fun H2 K h => rQ b.natAbs d.natAbs V V H2 K h
  generalize a.natAbs * d.natAbs=X at *
  generalize c.natAbs * b.natAbs=Y at *
  generalize b.natAbs * d.natAbs=D at *
  have lx := qa l1
  have ly := qa l2
  obtain⟨x,y,f,e⟩ := Sd (dJ a c X Y) (eW a c X Y) D
  have fin:∀L,aj prog G0 H K (.nc [.agg [.lit (.int .i64 x),.lit (.int .i64 y)],.lit (.bool f)]) (ext H L) := fun L => aj.drop aF hcl rS (by rw[e]at hK;exact hK)
  have mk:∀(S:Bool) (T:Nat),S=dJ a c X Y -> T=eW a c X Y -> ∀H2 K,K (.ret (.nc [.agg [.lit (.int .i64 x),.lit (.int .i64 y)],.lit (.bool f)])) H2 -> ae prog G0 69 [.lit (.bool S),af (aw T),af (aw D)] H2 K := fun S T hS hT H2 K h => by
    subst hS hT
    have lT : (aw (eW a c X Y)).length ≤ 11 := Sf (by unfold eW; split; · omega
                                                      · split <;> omega)
    exact Sc _ _ D nz V V H2 K (by rw[e];exact h)
  clear hK e
  refine ae.st (n := 71) (rs := [.cell 4 58,.tmp 5]) func30 ?_
  simp only[go_sem,qV,az]
  refine W.dr 12 [0,1,3,0,8,31,63,0,128,511,0,1024] mixed ?_
  simp only[go_sem,az]
  refine⟨_,[],aY.pure fun H2 => jV a ha H2 _ ⟨rfl,rfl⟩,?_⟩
  simp only[go_sem,az]
  refine⟨_,[],aY.pure fun H2 => jV d hd H2 _ ⟨rfl,rfl⟩,?_⟩
  simp only[go_sem,az]
  refine⟨_,[],aY.pure fun H2 => t1 H2 _ ⟨rfl,rfl⟩,?_⟩
  simp only[go_sem,az]
  refine⟨_,[],aY.pure fun H2 => jV c hc H2 _ ⟨rfl,rfl⟩,?_⟩
  simp only[go_sem,az]
  refine ak.X (jV b hb _ _ ⟨trivial,?_⟩)
  simp only[go_sem,az]
  refine ak.X (t2 _ _ ⟨trivial,?_⟩)
  simp only[go_sem,az]
  refine W.dr 5 [0,1,3,0,8] mixed ?_
  simp only[go_sem,az]
  refine⟨_,[],aY.pure fun H2 => jV b hb H2 _ ⟨rfl,rfl⟩,?_⟩
  simp only[go_sem,az]
  refine ak.X (jV d hd _ _ ⟨trivial,?_⟩)
  simp only[go_sem,az]
  refine ak.X (t3 _ _ ⟨trivial,?_⟩)
  by_cases hs:a < 0 ↔ c < 0
  · have e1:(decide (a < 0) == decide (c < 0))=true := by simp[hs]
    simp only[go_sem,mR Tryz.underlying4,e1,az]
    refine W.dr 10 [0,1,3,0,0,24,0,127,255,255] mixed ?_
    simp only[go_sem,az]
    refine⟨_,[],aY.pure fun H2 => Se X Y V V H2 _ ⟨rfl,rfl⟩,?_⟩
    simp only[go_sem,az]
    refine⟨_,[],aY.pure fun H2 => mk (decide (a < 0)) (X + Y) (by unfold dJ;rw[Vh hs]) (by unfold eW;rw[Vh hs]) H2 _ ⟨rfl,rfl⟩,?_⟩
    simp only[go_sem,az]
    exact fin _
  · have e1 : (decide (a < 0) == decide (c < 0)) = false := by
      by_cases q1:a < 0 <;> by_cases q2:c < 0 <;> simp[q1,q2]at hs ⊢
    simp only[go_sem,mR Tryz.underlying4,e1,az]
    refine ak.X (rP X Y V _ _ ⟨trivial,?_⟩)
    by_cases hl:X < Y
    · have c1:bK (X:Int) (Y:Int) = -1 := by unfold bK;rw[Vh V]
      rw[c1]
      simp only[go_sem,az]
      refine W.dr 10 [0,1,3,0,0,24,0,127,255,255] mixed ?_
      simp only[go_sem,az]
      refine⟨_,[],aY.pure fun H2 => Ak Y X V V H2 _ ⟨rfl,rfl⟩,?_⟩
      simp only[go_sem,az]
      refine⟨_,[],aY.pure fun H2 => mk (decide (c < 0)) (Y-X) (by unfold dJ;rw[Vg hs,Vh hl];by_cases q1:a < 0 <;> by_cases q2:c < 0 <;> simp[q1,q2]at hs ⊢) (by unfold eW;rw[Vg hs,Vh hl]) H2 _ ⟨rfl,rfl⟩,?_⟩
      simp only[go_sem,az]
      exact fin _
    · have c1 : 0 ≤ bK (X : Int) (Y : Int) := by
        unfold bK
        rw[Vg V]
        split <;> omega
      obtain⟨z,hz⟩:∃z,z=bK (X:Int) (Y:Int) := ⟨_,rfl⟩
      rw[<- hz]at c1 ⊢
      simp only[go_sem,c1,az]
      refine W.dr 10 [0,1,3,0,0,24,0,127,255,255] mixed ?_
      simp only[go_sem,az]
      refine⟨_,[],aY.pure fun H2 => Ak X Y V V H2 _ ⟨rfl,rfl⟩,?_⟩
      simp only[go_sem,az]
      refine⟨_,[],aY.pure fun H2 => mk (decide (a < 0)) (X-Y) (by unfold dJ;rw[Vg hs,Vg hl]) (by unfold eW;rw[Vg hs,Vg hl]) H2 _ ⟨rfl,rfl⟩,?_⟩
      simp only[go_sem,az]
      exact fin _
end Go.Proofs.R01
namespace Go.Proofs.R01
open Go.Hx Tryz
end Go.Proofs.R01
namespace Go.Proofs
open Go.Hx Tryz
def nna.neg {S D a b g:Int}(h:nna S D a b g):nna (-S) D (-a) b g:=⟨h.g1,by rw[ZC,h.n],h.d,h.b1,by rw[ZD];exact h.cop⟩
def Qw {S1 S2 D a b g c e g2:Int}(h1:nna S1 D a b g)(h2:nna S2 D c e g2)(hD:1<=D/\D<=1099511627776)(hS1:-1099511627776<=S1/\S1<=1099511627776)(hS2:-1099511627776<=S2/\S2<=1099511627776):
  R01.qc (R01.dJ a c (a.natAbs*e.natAbs) (c.natAbs*b.natAbs)) (R01.eW a c (a.natAbs*e.natAbs) (c.natAbs*b.natAbs)) (b.natAbs*e.natAbs)=.nc [eA (S1+S2) D,.lit (.bool true)]:=by
 obtain⟨p1,p2⟩:=h1.bound;obtain⟨p3,p4⟩:=h2.bound;have b1:=h1.b1;have e1:=h2.b1;have ck1:F01.bt a b=0:=F01.pO V V h1.cop;have ck2:F01.bt c e=0:=F01.pO V V h2.cop;have ck3:F01.bt (-c) e=0:=F01.pO V V (by rw[ZD];exact h2.cop);obtain⟨h,_⟩:=F01.DI h1 h2.neg hD hS1 V;rw[Int.neg_neg,Int.sub_neg]at h;unfold F01.mc at h;rw[Vh ⟨ck1,ck3⟩]at h;have hs:F01.mf a b c e=some (eA (S1+S2) D):=by
  cases hv:F01.mf a b c e with
  |none =>
   rw[hv]at h;have:=congrArg (fun v=>match v with|ZL.nc [_,.lit (.int _ n)]=>n|_=>0) h;exact absurd (show (6:Int)=0 from this) (ZH)
  |some v =>
   rw[hv]at h;have:ZL.nc [v,.lit (.int .i64 0)]=ZL.nc [eA (S1+S2) D,aa 0]:=h;exact congrArg some (List.cons.inj (ZL.nc.inj this)).1
 rw[F01.C4 ck1 ck2]at hs;unfold F01.jP at hs;unfold R01.qc;split at hs
 ·rename_i hc;have hv:=Option.some.inj hs;rw[<- hv];exact Vh hc
 ·cases hs
def Qx {d:ZN}{r:List Nat}(hr:Z0 d r):r.Nodup:=by
 rw[Za,Ws];intro i j hi hj hij e;have h1:r[i]?=some r[i]:=Vf hi;have h2:r[j]?=some r[i]:=by rw[Vf hj,e]
 have:=hr.ro.new h2;have h3:(dE (r.take j)).testBit r[i]=true:=lG.2 (Vl.2 ⟨i,by rw[Vz hij];exact h1⟩);rw[this]at h3;cases h3
theorem zI:∀ {r:List Nat} {i u:Nat},r.Nodup->r[i]?=some u->r.idxOf u=i
 | [],_,_,_,h=>by simp at h
 |a :: r,0,u,_,h=>by
  obtain rfl:a=u:=by simpa using h
  simp[Yh]
 |a :: r,i+1,u,hn,h=>by
  have h':r[i]?=some u:=by simpa using h
  have hne:a≠u:=fun e=>(W9.1 hn).1 (e ▸ an h');rw[Yh,zI (W9.1 hn).2 h'];have:(a == u)=false:=by simpa using hne
  rw[this];rfl
end Go.Proofs
