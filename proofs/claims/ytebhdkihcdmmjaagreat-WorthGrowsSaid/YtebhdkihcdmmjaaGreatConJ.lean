/-
  The weights of all worlds of a valid network add up to the grain to the power of the number of nodes; what follows for the values of policies. Plain: no program stands in this text. No conditions.
-/
import Derived.Test.YtebhdkihcdmmjaaGreatConB
import Derived.Test.YtebhdkihcdmmjaaGreatConA
import Derived.Test.YtebhdkihcdmmjaaGreatConF
import Derived.Test.YtebhdkihcdmmjaaGreatConH
import Derived.Test.YtebhdkihcdmmjaaGreatConI
import Derived.Test.YtebhdkihcdmmjaaGreatConE
import Derived.Test.YtebhdkihcdmmjaaGreatConG
import Derived.Test.YtebhdkihcdmmjaaGreatConD
set_option linter.all false
set_option maxHeartbeats 8000000
set_option maxRecDepth 100000
namespace Go.Proofs.WS
open Go.Hx Tryz
variable {g:Int}{cs w:List Int}{ns:List Zp}{n v:Nat}{D D':Nat->Bool}{α:Type}
def dI:List Int->List (List Int)
 | []=>[[]]
 |c :: cs=>(List.range c.toNat).flatMap fun (a:Nat)=>(dI cs).map fun w=>(a:Int) :: w
def Uw (h:∀c∈cs,1<=c)(a i:Int):bW cs (a*aB cs+i)=bW cs i:=by
 induction cs generalizing a with
 |nil=>rfl
 |cons c cs ih =>
  have h1:=fV (l:=cs) fun x hx=>h x (by simp[hx]);have hc:=h c Zj;have e:a*aB (c :: cs)+i=i+a*c*aB cs:=by rw[iL];simp only[W0,X5]
  show _ :: _=_ :: _;rw[e,XF _ _ V,Int.add_mul_emod_self_right];congr 1;rw[X5];exact ih (fun x hx=>h x (by simp[hx])) _
def Ux (m:Nat):∀c:Nat,List.range (c*m)=(List.range c).flatMap fun a=>(List.range m).map fun j=>a*m+j:=by
 intro c
 induction c with
 |zero=>simp
 |succ c ih=>rw[VD,Xe,List.range_add,ih,VH,Ys];simp
def AE (h:∀c∈cs,1<=c):dI cs=(List.range (aB cs).toNat).map fun (i:Nat)=>bW cs i:=by
 induction cs with
 |nil=>rfl
 |cons c cs ih =>
  have hr:∀x∈cs,1<=x:=fun x hx=>h x (by simp[hx]);have hm:=fV hr;have hc:=h c Zj;obtain⟨m,e⟩:∃m:Nat,aB cs=m:=⟨(aB cs).toNat,V⟩
  obtain⟨k,ek⟩:∃k:Nat,c=k:=⟨c.toNat,V⟩
  have e2:(aB (c :: cs)).toNat=k*m:=by rw[iL,e,ek];exact Int.toNat_natCast (k*m)
  rw[e2,Ux,List.map_flatMap];unfold dI;rw[ek,Int.toNat_natCast,ih hr,e,Int.toNat_natCast];rw[List.flatMap_def,List.flatMap_def];congr 1;refine Vn fun a ha=>?_;rw[XD,XD];refine Vn fun j hj=>?_;have ha':=U9.1 ha;have hj':=U9.1 hj;have hv:=Uw hr (a:Int) (j:Int);rw[e]at hv;show _=_ :: _;rw[e];have e3:((a*m+j:Nat):Int)=a*m+j:=Zj
  rw[e3,hv];have e4:((a:Int)*m+j) / (m:Int) % (k:Int)=a:=by rw[X5,XF _ _ V,Xm V V,Yo,XI V V]
  rw[e4];rfl
def Uy (h:∀c∈cs,1<=c)(hw:w∈dI cs):cK cs w:=by
 rw[AE h]at hw;obtain⟨i,_,rfl⟩:=Vb.1 hw;exact tu h _
def Uz (l l':List Int):(l++l').sum=l.sum+l'.sum:=Yk
def UA (f:List Int->Int)(l:List α)(g:α->List (List Int)):((l.flatMap g).map f).sum=(l.map fun a=>((g a).map f).sum).sum:=by
 induction l with
 |nil=>rfl
 |cons a l ih=>rw[List.flatMap_cons,VQ,Uz,ih];rfl
def AF (c:Int)(f:α->Int)(l:List α):(l.map fun a=>c*f a).sum=c*(l.map f).sum:=by
 induction l with
 |nil=>simp
 |cons a l ih=>simp only[List.map_cons,Wm,ih,XH]
def UB (f g:α->Int)(l:List α):(l.map fun a=>f a+g a).sum=(l.map f).sum+(l.map g).sum:=by
 induction l with
 |nil=>simp
 |cons a l ih=>simp only[List.map_cons,Wm,ih];omega
def UC {β:Type}(f:α->β->Int)(l:List α)(m:List β):(l.map fun a=>(m.map fun b=>f a b).sum).sum=(m.map fun b=>(l.map fun a=>f a b).sum).sum:=by
 induction l with
 |nil=>simp only[List.map_nil,List.sum_nil];induction m with
  |nil=>rfl
  |cons b m ih=>rw[List.map_cons,Wm,<- ih];rfl
 |cons a l ih=>simp only[List.map_cons,Wm,ih,UB]
def Gf (c:Int)(l:List α):(l.map fun _=>c).sum=l.length*c:=by
 induction l with
 |nil=>simp
 |cons a l ih=>simp only[List.map_cons,Wm,ih,List.length_cons];rw[show ((l.length+1:Nat):Int)=l.length+1 from rfl,Yu];omega
def qd {f g:α->Int}{l:List α}(h:∀a∈l,f a=g a):(l.map f).sum=(l.map g).sum:=by rw[Vn h]
def all_cons (c:Int)(cs:List Int)(f:List Int->Int):((dI (c :: cs)).map f).sum=((List.range c.toNat).map fun (a:Nat)=>((dI cs).map fun w=>f ((a:Int) :: w)).sum).sum:=by
 show (((List.range c.toNat).flatMap _).map f).sum=_;rw[UA];refine qd fun a _=>?_;rw[XD];rfl
def UD:∀ {cs:List Int} {v:Nat} {c:Int},(∀c∈cs,1<=c)->cs[v]?=some c->∀f:List Int->Int,
  ((dI cs).map fun w=>((List.range c.toNat).map fun (a:Nat)=>f (w.set v (a:Int))).sum).sum=c*((dI cs).map f).sum:=by
 intro cs
 induction cs with
 |nil=>intro v c _ h;simp at h
 |cons d cs ih =>
  intro v c h1 h f;rw[all_cons,all_cons];cases v with
  |zero =>
   simp only[List.getElem?_cons_zero,Option.some.injEq]at h;subst h;simp only[List.set_cons_zero];rw[Gf,Ww,WR (by have:=h1 d Zj;omega)];congr 1;exact UC _ _ _
  |succ v =>
   simp only[List.set_cons_succ];rw[<- AF];refine qd fun a _=>?_;exact ih (fun x hx=>h1 x (by simp[hx])) (by simpa using h) fun w=>f ((a:Int) :: w)
def fq (n:Nat)(D:Nat->Bool)(f:Nat->Int):Int:=aB ((List.range n).map fun v=>if D v then f v else 1)
def AG (n:Nat)(D:Nat->Bool)(f:Nat->Int):fq (n+1) D f=fq n D f*(if D n then f n else 1):=by
 unfold fq;rw[VH,VQ,vz];simp[iL,iK]
def AH (f:Nat->Int)(h0:D v=false)(h1:D' v=true)(he:∀i,i≠v->D' i=D i):∀n,fq n D' f=if v<n then fq n D f*f v else fq n D f:=by
 intro n
 induction n with
 |zero=>rfl
 |succ n ih =>
  rw[AG,AG,ih];rcases Wl v n with h|h|h
  ·rw[UX h,UX (show v<n+1 by omega),he n V];simp only[W0,Wb (f v)]
  ·subst h;rw[UW (show ¬v<v by omega),UX (show v<v+1 by omega),h1,h0];simp
  ·rw[UW (show ¬v<n by omega),UW (show ¬v<n+1 by omega),he n V]
def UE {f g:Nat->Int}(h:∀v,v<n->D v=true->f v=g v):fq n D f=fq n D g:=by
 unfold fq;congr 1;refine Vn fun v hv=>?_;split
 ·rename_i hd;exact h v (U9.1 hv) hd
 ·rfl
def UF (n:Nat)(f:Nat->Int):fq n (fun _=>false) f=1:=by
 induction n with
 |zero=>rfl
 |succ n ih=>rw[AG,ih];simp
def AI (h:∀v,v<n->D v=true)(f:Nat->Int):fq n D f=aB ((List.range n).map f):=by
 unfold fq;congr 1;exact Vn fun v hv=>by rw[h v (U9.1 hv)];rfl
def UG (l:List Int):((List.range l.length).map fun i=>l.getD i 0).sum=l.sum:=by
 induction l with
 |nil=>rfl
 |cons a l ih=>rw[List.length_cons,Y0,List.map_cons,XD,Wm,Wm,<- ih];rfl
def UH (n:Nat)(g:Int):aB ((List.range n).map fun _=>g)=g ^ n:=by
 induction n with
 |zero=>simp[iK]
 |succ n ih=>rw[VH,VQ,vz,ih,Xc];simp[iL,iK]
def Gg {ps:List Int}{a:Int}(h:∀p∈ps,p.toNat≠v):aL (w.set v a) ps=aL w ps:=by
 unfold aL;refine Vn fun p hp=>?_;rw[UZ,UZ,Vw (Ne.symm (h p hp))]
def UI (h:ZH g ns){x:Zp}(hx:x∈ns)(hw:cK (au ns) w):∃r,x.nb[(bN (aT ns x) (aL w x.F)).toNat]?=some r:=by
 have hp:=(h.node x hx).2.2;have hf:cK (aT ns x) (aL w x.F):=⟨by simp[aT,aL],fun k c b h1 h2=>by
  unfold aT aL at h1;unfold aL at h2;rw[List.getElem?_map]at h1 h2;cases hq:x.F[k]? with
  |none=>rw[hq]at h1;cases h1
  |some q =>
   rw[hq]at h1 h2;have hr:=hp q (an hq);obtain⟨j,rfl,y,hy⟩:=mQ (l:=ns) hr.1 hr.2;obtain⟨b',hb⟩:=aw (l:=w) (i:=j) (by rw[hw.1];have:=aO hy;simpa[au] using this);simp only[Option.map_some,Option.some.injEq,Int.toNat_natCast]at h1 h2;rw[bK (cS hy)]at h1;rw[bK hb]at h2;rw[<- h1,<- h2];exact hw.2 j y.L b' (cS hy) hb⟩
 have hr:=ou hf;have hl:=(h.nb x hx).1;exact aw (V)
def oS (g:Int)(ns:List Zp)(D:Nat->Bool):Prop :=
 fq ns.length D (fun v=>(au ns).getD v 0)*((dI (au ns)).map fun w=>fq ns.length D (fX ns w)).sum=fq ns.length D (fun _=>g)*aB (au ns)
def UJ (cs:List Int)(h:∀c∈cs,1<=c):((dI cs).map fun _=>(1:Int)).sum=aB cs:=by
 rw[Gf,AE h];have:=fV h;simp;omega
def Gh (h:ZH g ns):∀c∈au ns,1<=c:=fun c hc=>by
 unfold au at hc;obtain⟨x,hx,rfl⟩:=Vb.1 hc;exact(h.node x hx).1.1
def UK (h:ZH g ns)(hv:v<ns.length)(h0:D v=false)(h1:D' v=true)(he:∀i,i≠v->D' i=D i)
  (hcl:∀(u:Nat) (x:Zp),D u=true->ns[u]?=some x->∀p∈x.F,D p.toNat=true) (hpa:∀x,ns[v]?=some x->∀p∈x.F,D p.toNat=true) (hs:oS g ns D):oS g ns D':=by
 obtain⟨x,hx⟩:=aw hv;have hxm:=an hx;have hc:=cS hx;have hc1:=Gh h;unfold oS at hs ⊢;have key:x.L*((dI (au ns)).map fun w=>fq ns.length D' (fX ns w)).sum=g*((dI (au ns)).map fun w=>fq ns.length D (fX ns w)).sum:=by
  rw[<- UD hc1 hc,<- AF];refine qd fun w hw=>?_;have hf:=Uy hc1 hw;have hl:w.length=ns.length:=by rw[hf.1];simp[au]
  have e1:∀a:Nat,fq ns.length D' (fX ns (w.set v (a:Int)))=fq ns.length D (fX ns w)*(jz ns x w).getD a 0:=fun a=>by
   rw[AH _ h0 h1 he,UX hv];congr 1
   ·refine UE fun u hu hd=>?_;obtain⟨y,hy⟩:=aw hu;have huv:v≠u:=fun e=>by rw[e,hd]at h0;cases h0
    unfold fX jz;rw[hy];dsimp only;rw[Gg fun p hp e=>by have:=hcl u y hd hy p hp;rw[e,h0]at this;cases this];simp only[UZ,Vw huv]
   ·unfold fX jz;rw[hx];dsimp only;rw[Gg fun p hp e=>by have:=hpa x hx p hp;rw[e,h0]at this;cases this];congr 1;simp only[UZ,Vi (show v<w.length by omega)];rfl
  rw[qd fun a _=>e1 a,AF,Wb g];congr 1;obtain⟨r,hr⟩:=UI h hxm hf;have hrow:jz ns x w=r:=by unfold jz;rw[bK hr]
  have ho:=(h.nb x hxm).2 r (an hr);rw[hrow,show x.L.toNat=r.length by have:=ho.1;omega,UG];exact ho.2.2
 rw[AH _ h0 h1 he,AH (fun _=>g) h0 h1 he,UX hv,UX hv,bK hc,W0,key,<- W0,Int.mul_right_comm,hs];simp only[W0,Wb g]
def xf (ns:List Zp):(az ns).length=ns.length:=by simp[az]
def uH {s:Nat}(h:n<=dK n s):∀v,v<n->s.testBit v=true:=by
 have hl:=zq n s;have e:(List.range n).countP (fun i=>s.testBit i)=(List.range n).length:=by rw[Ww];exact Nat.le_antisymm hl h
 exact fun v hv=>Y2.1 e v (U9.2 hv)
def UL (h:ZH g ns):∀(k:Nat) (out:List Nat) (done:Nat) (r:List Nat),hJ (az ns) k out done=some r->ns.length<=k+dK ns.length done ->
  (∀(u:Nat) (x:Zp),done.testBit u=true->ns[u]?=some x->∀p∈x.F,done.testBit p.toNat=true)->oS g ns (fun v=>done.testBit v)->oS g ns fun _=>true:=by
 have hp64:∀p∈az ns,p<2 ^ 64:=fun p hp=>rN (n:=64) (fun x hx q hq=>by have:=(h.node x hx).2.2 q hq;have:=h.n1;omega) p hp;intro k
 induction k with
 |zero =>
  intro out done r _ hc _ hs;have hf:=uH (n:=ns.length) (s:=done) V;unfold oS at hs ⊢;have e:∀f,fq ns.length (fun v=>done.testBit v) f=fq ns.length (fun _=>true) f:=fun f=>by
   rw[AI hf,AI fun _ _=>rfl]
  rw[e,e,qd fun w _=>e (fX ns w)]at hs;exact hs
 |succ k ih =>
  intro out done r hr hc hcl hs;unfold hJ at hr;cases hn:kr (az ns) done with
  |none=>rw[hn]at hr;cases hr
  |some v =>
   rw[hn]at hr;obtain⟨h1,h2,h3⟩:=vE hp64 hn;rw[xf]at h1;obtain⟨y,hy⟩:=aw h1;have hpa:∀x,ns[v]?=some x->∀p∈x.F,done.testBit p.toNat=true:=fun x hx p hp=>by
    rw[bK (kH hx)]at h3;refine h3 _ ?_;have hpos:=fun q hq=>((h.node x (an hx)).2.2 q hq).1;rw[gK hpos];exact Vl (by rw[WR (hpos p hp)];exact hp)
   refine ih _ _ r hr ?_ ?_ (UK h h1 h2 (D':=fun i=>(done |||2 ^ v).testBit i) ?_ (fun i hi=>?_) hcl hpa hs)
   ·have:=q7 (n:=ns.length) (.left done (2 ^ v)) h1 h2 (by rw[gL];simp);omega
   ·intro u x hu hx p hp;rw[gL]at hu ⊢;rw[Vu]at hu ⊢;left;rcases hu with hu|hu
    ·exact hcl u x hu hx p hp
    ·have:v=u:=of_decide_eq_true hu;subst this;exact hpa x hx p hp
   ·show (done |||2 ^ v).testBit v=true;rw[gL];simp
   ·show (done |||2 ^ v).testBit i=done.testBit i;rw[gL,VP (fun e=>hi e.symm),YZ]
def UM (ns:List Zp):aB ((List.range ns.length).map fun v=>(au ns).getD v 0)=aB (au ns):=by
 congr 1;refine VG fun i=>?_;rw[List.getElem?_map];rcases Vj i ns.length with h|h
 ·obtain⟨x,hx⟩:=aw h;rw[Vz h,cS hx];show some ((au ns).getD i 0)=_;rw[bK (cS hx)]
 ·rw[U3 (by simpa using h),U3 (by simpa[au] using h)];rfl
def UN (h:ZH g ns):((dI (au ns)).map (weight ns)).sum=g ^ ns.length:=by
 have hc:=Gh h;have hp:=fV hc;have h8:=h.n1;have hps:∀p∈az ns,p<2 ^ (az ns).length:=fun p hp=>by
  rw[xf];exact rN (n:=ns.length) (fun x hx q hq=>(h.node x hx).2.2 q hq) p hp
 have ht:=(vF hps (by rw[xf];omega)).2 h.nL;obtain⟨r,hr⟩:=Vx.1 ht;unfold fB at hr;rw[xf]at hr;have hs:=UL h _ _ _ r hr V (fun u x hu=>by rw[VF]at hu;cases hu) (by
  unfold oS;have e:∀f,fq ns.length (fun v=>(0:Nat).testBit v) f=1:=fun f=>by
   rw[show (fun v=>(0:Nat).testBit v)=fun _=>false from funext fun v=>VF v,UF]
  rw[e,e,qd fun w _=>e (fX ns w),UJ _ hc])
 unfold oS at hs;have e:∀f,fq ns.length (fun _=>true) f=aB ((List.range ns.length).map f):=fun f=>AI (fun _ _=>rfl) f;rw[e,e,UM,UH,qd fun w _=>e (fX ns w)]at hs;rw[Wb]at hs;exact YR V hs
end Go.Proofs.WS
namespace Go.Proofs
open Go.Hx Tryz
variable {r:List Nat}{u:Nat}{c:Nat->Nat->Int}{d:Zq}
def AJ (d:Zq)(c:Nat->Nat->Int):Int:=SS (cI d.C) fun w=>if fY d c (wv d w)=true then cL d (wv d w) else 0
def UO (hok:Zv d)(hc:rJ d c):AJ d c=d.nl ^ d.C.length:=by
 have h:=WS.UN (Fj hok hc);rw[ig]at h;rw[<- h,jX,WS.AE fun x hx=>by
  obtain⟨y,hy,rfl⟩:=Vb.1 hx;exact(hok.n.L y hy).1]
 rw[XD];unfold AJ SS;exact congrArg List.sum (Vn fun w _=>(DW hok hc (iC hok w)).symm)
def Gi (n:Nat)(k:Int)(f:Nat->Int):SS n (fun i=>k*f i)=k*SS n f:=by
 induction n with
 |zero=>simp[pF]
 |succ n ih=>rw[ia,ia,ih,XH]
def UP (hok:Zv d)(hc:rJ d c):-(400*d.nl ^ d.C.length)<=eV d c/\eV d c<=400*d.nl ^ d.C.length:=by
 rw[<- UO hok hc];have key:∀w,-(400*cL d (wv d w))<=di d (wv d w)/\di d (wv d w)<=400*cL d (wv d w):=fun w=>by
  have h1:=ER hok (iC hok w);have h2:=Ay hok.Y.2 hok.Y.1 (wv d w);unfold di;have h3:=VE h2.2 h1;have h4:=VE h2.1 h1;generalize cL d (wv d w)*cX d.C d.Y (wv d w)=t at *
  omega
 unfold eV AJ;rw[<- Gi];constructor
 ·have:-(SS (cI d.C) fun i=>400*if fY d c (wv d i)=true then cL d (wv d i) else 0)=SS (cI d.C) fun i=>-1*(400*if fY d c (wv d i)=true then cL d (wv d i) else 0):=by rw[Gi _ (-1)];omega
  rw[this];refine tz fun w _=>?_;have:=(key w).1;split<;>omega
 ·refine tz fun w _=>?_;have:=(key w).2;split<;>omega
def ti (hok:Zv d)(hro:ZB d r):dA d=0/\gH d=r:=by
 have h:=te hok hro;have e:dA d=0:=by unfold dA;rw[mm hok,h];rfl
 exact⟨e,by unfold gH;rw[UX e,h];rfl⟩
def vr (hf:ZM d):∀x∈d.C,(x.F.length:Int)<2 ^ 62:=fun x hx=>by
 have:=(hf.C.2 x hx).1;omega
def zf {S:Nat->Prop}{H:Zn}{nx:Nat}(a b e:Int):Fz S H nx (.nf [.agg [.lit (.int .i64 a),.lit (.int .i64 b)],.lit (.int .i64 e)]) (.nf [.agg [.lit (.int .i64 a),.lit (.int .i64 b)],.lit (.int .i64 e)]) :=
 .nf rfl fun i hi _=>match i,hi with
  |0,_=>.agg rfl fun i hi _=>match i,hi with
   |0,_=>.lit _
   |1,_=>.lit _
  |1,_=>.lit _
def qU (hok:Zv d)(hro:ZB d r):-(400*d.nl ^ d.C.length)<=eG d r/\eG d r<=400*d.nl ^ d.C.length:=by
 obtain⟨h1,h2,_⟩:=wq hok hro;rw[<- h2];exact UP hok (wA h1)
def tj (hok:Zv d)(h5:d.C.length<=5):1<=d.nl ^ d.C.length/\d.nl ^ d.C.length<=777600000:=by
 have hg:=hok.nC.g1;have h1:=YM (n:=d.nl) (m:=d.C.length) V;have key:∀k:Nat,d.nl ^ k<=60 ^ k:=fun k=>by
  induction k with
  |zero=>simp
  |succ k ih =>
   rw[Xc,Xc];exact Wy ih hg.2 V (by have:=YM (n:=60) (m:=k) Zk;omega)
 have h2:=key d.C.length;have h3:(60:Int) ^ d.C.length<=777600000:=by
  rcases(show d.C.length=0\/d.C.length=1\/d.C.length=2\/d.C.length=3\/d.C.length=4\/d.C.length=5 by omega) with e|e|e|e|e|e<;>rw[e]<;>decide
 omega
def Di (hok:Zv d)(h5:d.C.length<=5)(hro:ZB d r){s S:Nat}(hu:u∈r)(hS:Sub S (bD d u))(H:Zn)(hs:H.get s=some (.J 0 157 (gY d r u)))(hsl:s<H.A)(K:Zt->Zn->Prop)
  (hK:K (.ret (.nf [eN (da d r u S) (d.nl ^ d.C.length),aa 0])) H):
  ae prog G0 51 [.O s 0 0,aK S,eN (eG d r) (d.nl ^ d.C.length)] H K:=by
 refine ae.Z ⟨_,func51,rfl,rfl⟩ fun hcl=>?_;have hf:=pJ hok;have hok':=qQ hok hro hu hS;have hro':=qR hok hro hu hS;have hlen:=iA d r u S;obtain⟨he,hv⟩:=ti hok' hro';have hrl:=te hok' hro';have gd:(bp d r u S).nl ^ (bp d r u S).C.length=d.nl ^ d.C.length:=by rw[hlen];rfl
 have g5:=tj hok h5;have t1:=qU hok hro;have t2:=qU hok' hro';rw[gd]at t2;obtain⟨D,hD⟩:∃D,D=d.nl ^ d.C.length:=⟨_,rfl⟩
 have hw:da d r u S=eG (bp d r u S) r-eG d r:=rfl;rw[hw]at hK;rw[<- hD]at g5 gd t1 t2 hK ⊢;obtain⟨a,b,ga,ha,hA⟩:=mr (S:=eG (bp d r u S) r) (D:=D) g5.1;obtain⟨c,e,gc,hc,hC⟩:=mr (S:=eG d r) (D:=D) g5.1;obtain⟨x,y,gx,hx,hX⟩:=mr (S:=eG (bp d r u S) r-eG d r) (D:=D) g5.1;obtain⟨s1,s2⟩:=F01.Px hA hC ⟨g5.1,V⟩ ⟨V,V⟩ ⟨V,V⟩;obtain⟨p1,p2⟩:=hA.bound;obtain⟨p3,p4⟩:=hC.bound;have b1:=hA.b1;have e1:=hC.b1;rw[hx]at s1 hK;rw[hc];refine ae.sw (n:=26) (rs:=[.cell 6 58,.tmp 7]) func51 ?_;refine W.sq ?_;simp only[go_sem];obtain⟨H1,hH1⟩:∃H1,H1=ext H [.J 0 58 [.lit (.int .i64 c),.lit (.int .i64 e)],.J 0 58 [.lit (.int .i64 0),.lit (.int .i64 0)]]:=⟨_,rfl⟩
 have o1:Zs H H1:=hH1▸.ext _ _
 have n1:H1.A=H.A+2:=hH1▸rfl
 have g1:=dp hH1
 have g2:=gE hH1 1 rfl
 rw[<- hH1];clear hH1;refine W.sq ?_;simp only[go_sem];refine ao.Z (De hok hf V hro hu (od hS) H1 ((o1.nc s hsl).trans hs) V _ ⟨trivial,?_⟩);simp only[go_sem];refine ao.Z (yB (bp d r u S) (pJ hok') V H1 _ (fun h=>absurd (he.symm.trans h) Zk) (fun _ h=>absurd he h) fun r' hr' _ _=>⟨trivial,?_⟩);obtain rfl:r=r':=Option.some.inj (hrl.symm.trans hr');rw[gd,ha];simp only[go_sem];obtain⟨H2,hH2⟩:∃H2,H2=ext H1 [.J 0 58 [.lit (.int .i64 a),.lit (.int .i64 b)]]:=⟨_,rfl⟩
 have o2:Zs H1 H2:=hH2▸.ext _ _
 have n2:H2.A=H1.A+1:=hH2▸rfl
 have l3:=ag (show H2.get H1.A=some (.J 0 58 [.lit (.int .i64 a),.lit (.int .i64 b)]) by rw[hH2];exact cM ..);have l1:=ag ((o2.nc H.A V).trans g1);have l2:=ag ((o2.nc (H.A+1) V).trans g2);rw[<- hH2];clear hH2;refine W.sq ?_;simp only[go_sem];refine W.vs ?_;simp only[go_sem,l1,l3];refine ao.Z (F01.M5 a b c e V V s2 H2 _ ⟨trivial,?_⟩);rw[s1];simp only[go_sem,l2];refine aj.bH (v':=.nf [.agg [.lit (.int .i64 x),.lit (.int .i64 y)],aa 0]) aF hcl (Zs.upd (id:=H.A+1) (o1.trans o2) (Xf _) _) (zf x y 0) hK
def Dj (hok:Zv d)(hro:ZB d r)(hu:u∈r)(H:Zn)(K:Zt->Zn->Prop)(hK:K (.ret (.nf [aK (bD d u),aa 0])) H):
  ae prog G0 13 [dk d,aa u] H K:=by
 refine ae.Z ⟨_,func13,rfl,rfl⟩ fun hcl=>?_;have hf:=pJ hok;obtain⟨he,hv⟩:=ti hok hro;have hul:u<d.C.length:=(bM.1 (hro.mem u hu)).1;refine ae.sw (n:=19) (rs:=[.tmp 4,.tmp 5]) func13 ?_;refine W.sq ?_;simp only[go_sem,ie,cZ];obtain⟨H1,hH1⟩:∃H1,H1=ext H [.J 0 38 [.lit (.int .i64 d.nl),.Q d.C.length (aH d.C),.lit (.int .u64 (d.X:Int)),.Q d.Y.length (bB d.Y)]]:=⟨_,rfl⟩
 have g1:=dp hH1
 have o1:Zs H H1:=hH1▸.ext _ _
 rw[<- hH1];clear hH1;have l1:=ag g1;refine W.sq ?_;simp only[go_sem,l1];refine ao.Z (vm d hf u H1 _ (fun h=>absurd (he.symm.trans h) Zk) (fun _ h=>absurd he h) (fun _ h=>absurd (mL.2 (hv ▸ hu)) h) fun r' u' H2 _ hr' hu' hm hH2=>⟨trivial,?_⟩);obtain rfl:r=r':=hv.symm.trans hr';obtain rfl:u=u':=V
 have o2:Zs H1 H2:=hH2▸.ext _ _
 have gs:H2.get (H1.A+1)=some (.J 0 157 (gY d r u)):=by rw[hH2];exact bO H1 _ 1 (Zj)
 have n2:H2.A=H1.A+2:=hH2▸rfl
 simp only[go_sem];refine W.sq ?_;simp only[go_sem];refine W.vs ?_;simp only[go_sem];refine ao.Z (vk hok (vr hf) hul H2 gs V _ ⟨trivial,?_⟩);simp only[go_sem];refine aj.bH (v':=.nf [aK (bD d u),aa 0]) aF hcl (o1.trans o2) (.nf rfl fun i hi _=>match i,hi with|0,_=>.lit _|1,_=>.lit _) hK
def Py (hok:Zv d)(h6:d.C.length<=6)(hro:ZB d r){S:Nat}(hu:u∈r)(hS:Sub S (bD d u))(H:Zn)(K:Zt->Zn->Prop)(hK:K (.ret (.nf [dk (bp d r u S),aa 0])) H):
  ae prog G0 16 [dk d,aa u,aK S] H K:=by
 refine ae.Z ⟨_,func16,rfl,rfl⟩ fun hcl=>?_;have hf:=pJ hok;obtain⟨he,hv⟩:=ti hok hro;have hul:u<d.C.length:=(bM.1 (hro.mem u hu)).1;have n8:=hok.n.n1;have hSl:=od hS;have S64:S<2 ^ 64:=U4 hSl (U7 Zk V);have hz:dE S (bD d u)=0:=Vq fun i=>by
  rw[kL S64,VF];cases hb:S.testBit i with
  |false=>rfl
  |true=>rw[hS i hb];rfl
 have s2:=fun t x y=>mu (P:=prog) (t:=t) (x:=x) (y:=y) (a:=S) (b:=bD d u);rw[hz]at s2;refine ae.sw (n:=29) (rs:=[.cell 6 38,.tmp 7]) func16 ?_;refine W.sq ?_;simp only[go_sem,ie,cZ];obtain⟨H1,hH1⟩:∃H1,H1=ext H [.J 0 38 [.lit (.int .i64 d.nl),.Q d.C.length (aH d.C),.lit (.int .u64 (d.X:Int)),.Q d.Y.length (bB d.Y)],.J 0 38 [.lit (.int .i64 0),.lit (.slice none 0 0),.lit (.int .u64 0),.lit (.slice none 0 0)]]:=⟨_,rfl⟩
 have g1:=dp hH1
 have g2:=gE hH1 1 rfl
 have n1:H1.A=H.A+2:=hH1▸rfl
 have o1:Zs H H1:=hH1▸.ext _ _
 rw[<- hH1];clear hH1;have l1:=ag g1;refine W.sq ?_;simp only[go_sem,l1];refine ao.Z (vm d hf u H1 _ (fun h=>absurd (he.symm.trans h) Zk) (fun _ h=>absurd he h) (fun _ h=>absurd (mL.2 (hv ▸ hu)) h) fun r' u' H2 _ hr' hu' hm hH2=>⟨trivial,?_⟩);obtain rfl:r=r':=hv.symm.trans hr';obtain rfl:u=u':=V
 have o2:Zs H1 H2:=hH2▸.ext _ _
 have gs:H2.get (H1.A+1)=some (.J 0 157 (gY d r u)):=by rw[hH2];exact bO H1 _ 1 (Zj)
 have n2:H2.A=H1.A+2:=hH2▸rfl
 have l2:=ag ((o2.nc (H.A+1) V).trans g2);clear hH2;simp only[go_sem];refine W.sq ?_;simp only[go_sem];refine W.sq ?_;simp only[go_sem];refine ao.Z (vk hok (vr hf) hul H2 gs V _ ⟨trivial,?_⟩);unfold aK;simp only[go_sem,s2];refine W.vs ?_;simp only[go_sem];refine ao.Z (De hok hf h6 hro hu hSl H2 gs V _ ⟨trivial,?_⟩);simp only[go_sem,ie,cZ,l2];refine aj.bH (v':=.nf [dk (bp d r u S),aa 0]) aF hcl (Zs.upd (id:=H.A+1) (o1.trans o2) (Xf _) _) (.nf rfl fun i hi _=>match i,hi with|0,_=>Uh _|1,_=>.lit _) hK
end Go.Proofs
namespace Go.Proofs.F01
open Go.Hx Tryz
variable {f:FuncId}{a b c d:Int}
def M9 {P:Program}{t e:TypeId}{x y:Operand}{k:IntKind}{a b:Nat}(ht:P.underlying t=some (.array 2 e))(he:P.underlying e=some (.int k))(hs:P.cellsOf e=1)(hg:P.eqGuardType P.depth t=false):
  aU P .eql t x y (.agg [.lit (.int .u64 (a / 18446744073709551616:Nat)),.lit (.int .u64 (a % 18446744073709551616:Nat))]) (.agg [.lit (.int .u64 (b / 18446744073709551616:Nat)),.lit (.int .u64 (b % 18446744073709551616:Nat))])=some (.lit (.bool (decide (a=b)))):=by
 rw[B6 ht he hs hg];congr 3;have d1:=W7 a 18446744073709551616;have d2:=W7 b 18446744073709551616;by_cases h:a=b
 ·subst h;simp
 ·rw[VP h];by_cases h1:a / 18446744073709551616=b / 18446744073709551616
  ·have h2:¬a % 18446744073709551616=b % 18446744073709551616:=fun h2=>h (by rw[<- d1,<- d2,h1,h2]);have h3:¬((a % 18446744073709551616:Nat):Int)=((b % 18446744073709551616:Nat):Int):=V;rw[beq_eq_false_iff_ne.mpr h3,Bool.and_false]
  ·have h3:¬((a / 18446744073709551616:Nat):Int)=((b / 18446744073709551616:Nat):Int):=V;rw[beq_eq_false_iff_ne.mpr h3,Bool.false_and]
def jg (a b c d:Int):Int:=if (a<0/\¬c<0) then -1 else if (¬a<0/\c<0) then 1 else if a.natAbs*d.natAbs=c.natAbs*b.natAbs then 0 else if (a.natAbs*d.natAbs<c.natAbs*b.natAbs↔0<=a) then -1 else 1
def Na (a b c d:Int)(ha:-4611686018427387903<=a/\a<=4611686018427387903)(hb:1<=b/\b<=4611686018427387903)(hc:-4611686018427387903<=c/\c<=4611686018427387903)(hd:1<=d/\d<=4611686018427387903)(H:Zn)(K:Zt->Zn->Prop)
  (hK:K (.ret (.lit (.int .i64 (jg a b c d)))) H):ae prog G0 98 [qV a b,qV c d] H K:=by
 refine ae.Z ⟨_,func98,rfl,rfl⟩ fun hcl=>?_;have wb:=Vt b V;have wd:=Vt d V;have tm:∀(x y:Nat) (hx:x<=4611686018427387903) (hy:y<=4611686018427387903) (z:Int) (hz:z=(y:Int)) (H2:Zn) (K:Zt->Zn->Prop),K (.ret (dh (x*y))) H2->ae prog G0 99 [.lit (.int .u64 (x:Int)),.lit (.int .u64 z)] H2 K:=fun x y hx hy z hz H2 K h=>by rw[hz];exact u9 x y hx hy H2 K h
 refine ae.st (n:=44) (rs:=[.tmp 4]) func98 ?_;simp only[go_sem,qV];refine W.dr 16 [0,1,3,0,8,24,63,0,128,511,0,1024,3072,8191,0,0] mixed ?_;simp only[go_sem];refine⟨_,[],bF.pure fun H2=>u5 a V H2 _ ⟨rfl,rfl⟩,?_⟩;simp only[go_sem,wb,wd];refine⟨_,[],bF.pure fun H2=>tm a.natAbs d.natAbs V V d V H2 _ ⟨rfl,rfl⟩,?_⟩;simp only[go_sem];refine⟨_,[],bF.pure fun H2=>u5 c V H2 _ ⟨rfl,rfl⟩,?_⟩;simp only[go_sem];refine⟨_,[],bF.pure fun H2=>tm c.natAbs b.natAbs V V b V H2 _ ⟨rfl,rfl⟩,?_⟩;have eqw:∀(o1 o2:Operand) (a b:Nat),aU prog .eql 173 o1 o2 (.agg [.lit (.int .u64 (a / 18446744073709551616:Nat)),.lit (.int .u64 (a % 18446744073709551616:Nat))]) (.agg [.lit (.int .u64 (b / 18446744073709551616:Nat)),.lit (.int .u64 (b % 18446744073709551616:Nat))])=some (.lit (.bool (decide (a=b)))):=fun o1 o2 a b=>M9 (a:=a) (b:=b) Tryz.underlying173 Tryz.underlying142 Zl Zl;obtain⟨p,hp⟩:∃p,p=a.natAbs*d.natAbs:=⟨_,rfl⟩
 obtain⟨q,hq⟩:∃q,q=c.natAbs*b.natAbs:=⟨_,rfl⟩
 unfold jg at hK;rw[<- hp,<- hq]at hK ⊢;have n3:H.A+2+1=H.A+3:=rfl;simp only[go_sem,dh];refine⟨by refine⟨?_,?_,?_,?_,?_,?_,?_,?_⟩<;>(intro x hx;omega),by refine⟨?_,?_,?_,?_,?_,?_,?_,?_⟩<;>(intro x hx;omega),?_⟩;rw[dY,dY];simp only[List.cons_append,List.nil_append];by_cases h1:a<0
 ·have z3:¬ 0<=a:=V
  by_cases h2:c<0
  ·rw[UW V,UW V]at hK;by_cases hxy:p=q
   ·rw[UX hxy]at hK;simp only[go_sem,n3,h1,h2,mJ Tryz.underlying4,eqw,hxy];exact aj.drop aF hcl (.lit _) hK
   rw[UW hxy]at hK;simp only[go_sem,n3,h1,h2,mJ Tryz.underlying4,eqw,hxy];refine W.dr 6 [0,0,3,0,8,24] mixed ?_;simp only[go_sem,mJ Tryz.underlying4];refine⟨_,[],bF.pure fun H2=>yL p q H2 _ ⟨rfl,rfl⟩,?_⟩;by_cases hl:p<q
   ·simp only[go_sem,z3,pq Tryz.underlying4,hl];rw[UW V]at hK;exact aj.drop aF hcl (.lit _) hK
   ·simp only[go_sem,z3,pq Tryz.underlying4,hl];rw[UX V]at hK;exact aj.drop aF hcl (.lit _) hK
  ·rw[UX ⟨h1,h2⟩]at hK;simp only[go_sem,n3,h1,h2,mJ Tryz.underlying4];exact aj.drop aF hcl (.lit _) hK
 ·have z3:0<=a:=V
  by_cases h2:c<0
  ·rw[UW V,UX ⟨h1,h2⟩]at hK;simp only[go_sem,n3,h1,h2,mJ Tryz.underlying4];exact aj.drop aF hcl (.lit _) hK
  ·rw[UW V,UW V]at hK;by_cases hxy:p=q
   ·rw[UX hxy]at hK;simp only[go_sem,n3,h1,h2,mJ Tryz.underlying4,eqw,hxy];exact aj.drop aF hcl (.lit _) hK
   rw[UW hxy]at hK;simp only[go_sem,n3,h1,h2,mJ Tryz.underlying4,eqw,hxy];refine W.dr 6 [0,0,3,0,8,24] mixed ?_;simp only[go_sem,mJ Tryz.underlying4];refine⟨_,[],bF.pure fun H2=>yL p q H2 _ ⟨rfl,rfl⟩,?_⟩;by_cases hl:p<q
   ·simp only[go_sem,z3,pq Tryz.underlying4,hl];rw[UX V]at hK;exact aj.drop aF hcl (.lit _) hK
   ·simp only[go_sem,z3,pq Tryz.underlying4,hl];rw[UW V]at hK;exact aj.drop aF hcl (.lit _) hK
def Nb {r:Int}(hf:ae prog G0 f [qV a b,qV c d] cW (mD (some (.lit (.int .i64 r))))):
  ae prog G0 140 [.ni [.Z f [] []] 0,.ni [.lit (.int .i64 a),.lit (.int .i64 b)] 0,.ni [.lit (.int .i64 c),.lit (.int .i64 d)] 0] cW (mD (some (.lit (.int .i64 r)))):=by
 refine ae.Z ⟨_,func140,rfl,rfl⟩ fun hcl=>?_;refine ae.st (n:=8) (rs:=[.tmp 3]) func140 ?_;simp only[go_sem];refine ao.Z ((ae.ss (args:=[qV a b,qV c d]) aF rfl (fun i hi _=>.plain (match i,hi with|0,_=>vf a b|1,_=>vf c d)) hf).mono ?_);rintro r H' ⟨rfl,rfl⟩;refine⟨trivial,?_⟩;show opsV _ _ _ _ _ _ _;simp only[go_sem];exact aj.mk (Wo _) ⟨_,rfl,.lit _⟩
def ta {S:Nat->Prop}{H:Zn}{nx:Nat}(x e:Int):Fz S H nx (.nf [.lit (.int .i64 x),.lit (.int .i64 e)]) (.nf [.lit (.int .i64 x),.lit (.int .i64 e)]) :=
 .nf rfl fun i hi _=>match i,hi with
  |0,_=>.lit _
  |1,_=>.lit _
def Nc {r:Int}(ra:(-9223372036854775808<=a/\a<=9223372036854775807)/\(-9223372036854775808<=b/\b<=9223372036854775807))(rc:(-9223372036854775808<=c/\c<=9223372036854775807)/\(-9223372036854775808<=d/\d<=9223372036854775807))
  (hf:bC a b=0->bC c d=0->ae prog G0 f [qV a b,qV c d] cW (mD (some (.lit (.int .i64 r))))) (H:Zn) (K:Zt->Zn->Prop) (hK:K (.ret (if bC a b=0/\bC c d=0 then .nf [.lit (.int .i64 r),.lit (.int .i64 0)] else .nf [.lit (.int .i64 0),.lit (.int .i64 5)])) H):
  ae prog G0 97 [qV a b,qV c d,.Z f [] []] H K:=by
 refine ae.Z ⟨_,func97,rfl,rfl⟩ fun hcl=>?_;refine ae.st (n:=22) (rs:=[.tmp 6,.tmp 7]) func97 ?_;simp only[go_sem,qV];refine ao.Z (sZ a b ra.1 ra.2 _ _ ⟨trivial,?_⟩);by_cases h1:bC a b=0;rotate_left
 ·rw[UW fun h=>h1 h.1]at hK;simp only[go_sem,h1];exact aj.drop aF hcl (ta 0 5) hK
 rw[h1];simp only[go_sem];refine ao.Z (sZ c d rc.1 rc.2 _ _ ⟨trivial,?_⟩);by_cases h2:bC c d=0;rotate_left
 ·rw[UW fun h=>h2 h.2]at hK;simp only[go_sem,h2];exact aj.drop aF hcl (ta 0 5) hK
 rw[h2];rw[UX ⟨h1,h2⟩]at hK;simp only[go_sem];obtain⟨H1,hH1⟩:∃H1,H1=ext H [.J 0 58 [.lit (.int .i64 a),.lit (.int .i64 b)],.J 0 58 [.lit (.int .i64 c),.lit (.int .i64 d)],.J 0 68 (Zo.Z f [] []).cells]:=⟨_,rfl⟩
 have n1:H1.A=H.A+3:=hH1▸rfl
 have k0:=dp hH1
 have k1:=gE hH1 1 rfl
 have k2:H1.get (H.A+2)=some (.J 0 68 [.Z f [] []]):=by rw[hH1];exact bO H _ 2 (Zj)
 rw[<- hH1];refine ao.Z ((Qe aF 140 [.O (H.A+2) 0 0,.O H.A 0 0,.O (H.A+1) 0 0] [.ni [.Z f [] []] 0,.ni [.lit (.int .i64 a),.lit (.int .i64 b)] 0,.ni [.lit (.int .i64 c),.lit (.int .i64 d)] 0] H1 (some (.lit (.int .i64 r))) rfl (fun H2 hag i h h'=>?_) (fun u hu=>?_) (Nb (hf h1 h2))).mono ?_)
 ·match i,h with
  |0,_=>exact .nN trivial ((hag _ V).trans k2) Zj rfl fun i hi _=>match i,hi with|0,_=>.Z rfl rfl (fun i h _=>absurd h (Va _)) (fun i h _=>absurd h (Va _))
  |1,_=>exact .nN trivial ((hag _ V).trans k0) Zj rfl fun i hi _=>match i,hi with|0,_=>.lit _|1,_=>.lit _
  |2,_=>exact .nN trivial ((hag _ V).trans k1) Zj rfl fun i hi _=>match i,hi with|0,_=>.lit _|1,_=>.lit _
 ·cases hu;rfl
 ·rintro r H' ⟨rfl,rfl⟩;refine⟨trivial,?_⟩;rw[hH1];simp only[go_sem,sR];exact aj.drop aF hcl (ta _ _) hK
def cu (p q:Int):Int:=if p<q then -1 else if p=q then 0 else 1
def yS (hb:1<=b)(hd:1<=d):jg a b c d=cu (a*d) (c*b):=by
 unfold jg cu;obtain⟨B,rfl⟩:=U2 (show 0<=b by omega);obtain⟨D,rfl⟩:=U2 (show 0<=d by omega);simp only[Wf];have pos:∀x:Nat,∀E:Nat,((x:Int)*(E:Int))=((x*E:Nat):Int):=fun x E=>(Wj x E).symm;have neg:∀x:Nat,∀E:Nat,(-(x:Int)*(E:Int))=-((x*E:Nat):Int):=fun x E=>by rw[Int.neg_mul,Wj]
 have pp:∀x E:Nat,0<x->1<=(E:Int)->0<x*E:=fun x E h1 h2=>YH h1 V;by_cases h1:a<0
 ·obtain⟨A,hA,hA0⟩:∃A:Nat,a=-(A:Int)/\0<A:=⟨a.natAbs,V,V⟩
  subst hA;have p1:=pp A D hA0 hd;by_cases h2:c<0
  ·obtain⟨C,hC,hC0⟩:∃C:Nat,c=-(C:Int)/\0<C:=⟨c.natAbs,V,V⟩
   subst hC;simp only[Xl,Wf,neg];generalize A*D=P at *
   generalize C*B=Q at *
   repeat' split
   all_goals omega
  ·obtain⟨C,hC⟩:=U2 (show 0<=c by omega);subst hC;simp only[Xl,Wf,neg,pos];generalize A*D=P at *
   generalize C*B=Q at *
   repeat' split
   all_goals omega
 ·obtain⟨A,hA⟩:=U2 (show 0<=a by omega);subst hA;by_cases h2:c<0
  ·obtain⟨C,hC,hC0⟩:∃C:Nat,c=-(C:Int)/\0<C:=⟨c.natAbs,V,V⟩
   subst hC;have p2:=pp C B hC0 hb;simp only[Xl,Wf,neg,pos];generalize A*D=P at *
   generalize C*B=Q at *
   repeat' split
   all_goals omega
  ·obtain⟨C,hC⟩:=U2 (show 0<=c by omega);subst hC;simp only[Wf,pos]
   repeat' split
   all_goals omega
def yT (a b c d:Int):Zo:=if bC a b=0/\bC c d=0 then .nf [.lit (.int .i64 (cu (a*d) (c*b))),.lit (.int .i64 0)] else .nf [.lit (.int .i64 0),.lit (.int .i64 5)]
def Nd (a b c d:Int)(ra:(-9223372036854775808<=a/\a<=9223372036854775807)/\(-9223372036854775808<=b/\b<=9223372036854775807))(rc:(-9223372036854775808<=c/\c<=9223372036854775807)/\(-9223372036854775808<=d/\d<=9223372036854775807))
  (H:Zn) (K:Zt->Zn->Prop) (hK:K (.ret (yT a b c d)) H):ae prog G0 57 [qV a b,qV c d] H K:=by
 refine ae.Z ⟨_,func57,rfl,rfl⟩ fun hcl=>?_;refine ae.st (n:=11) (rs:=[.tmp 4,.tmp 5]) func57 ?_;simp only[go_sem,qV];refine ao.Z (Nc (a:=a) (b:=b) (c:=c) (d:=d) (r:=cu (a*d) (c*b)) ra rc (fun h1 h2=>?_) _ _ ⟨trivial,?_⟩)
 ·obtain⟨p1,p2,_⟩:=pr h1;obtain⟨p3,p4,_⟩:=pr h2;rw[<- yS p2.1 p4.1];exact(Na a b c d p1 p2 p3 p4 cW _ rfl).mono fun r H' h=>⟨_,h,.lit _⟩
 ·unfold yT at hK;by_cases h:bC a b=0/\bC c d=0
  ·rw[UX h]at hK ⊢;simp only[go_sem];exact aj.drop aF hcl (ta _ _) hK
  ·rw[UW h]at hK ⊢;simp only[go_sem];exact aj.drop aF hcl (ta _ _) hK
end Go.Proofs.F01
namespace Go.Proofs
open Go.Hx Tryz
variable {m n:Int}{r:List Nat}{u:Nat}{d:Zq}
def fU (d:Zq)(r:List Nat)(u:Nat)(n m:Int)(S:Nat):Bool:=decide (n*d.nl ^ d.C.length<=da d r u S*m)
structure EnH (d:Zq)(r:List Nat)(u:Nat)(n m:Int)(s b8 b11 b9 b5:Nat)(H:Zn):Prop where
 sl:s<H.A
 hs:H.get s=some (.J 0 157 (gY d r u))
 h8:H.get b8=some (.J 0 101 [.O s 0 0])
 h11:∃c e,eN (eG d r) (d.nl ^ d.C.length)=.agg [aa c,aa e]/\H.get b11=some (.J 0 58 [aa c,aa e])
 h9:H.get b9=some (.J 0 44 [aa 0])
 h5:H.get b5=some (.J 0 58 [aa n,aa m])
def EnH.ng {s b8 b11 b9 b5:Nat}{H H':Zn}(h:EnH d r u n m s b8 b11 b9 b5 H)(hn:H.A<=H'.A)(hk:∀i,i=s\/i=b8\/i=b11\/i=b9\/i=b5->H'.get i=H.get i):EnH d r u n m s b8 b11 b9 b5 H':=by
 obtain⟨c,e,h1,h2⟩:=h.h11;exact⟨by have:=h.sl;omega,(hk _ Zj).trans h.hs,(hk _ Zj).trans h.h8,⟨c,e,h1,(hk _ Zj).trans h2⟩,(hk _ Zj).trans h.h9,(hk _ Zj).trans h.h5⟩
def PH {x y g W D:Int}(h:Z1 W D x y g):(0<=F01.cu (x*m) (n*y))↔n*D<=W*m:=by
 have g1:=h.g1;have e1:W*m=(x*m)*g:=by rw[<- h.n];grind
 have e2:n*D=(n*y)*g:=by rw[<- h.d];grind
 rw[e1,e2];generalize x*m=p;generalize n*y=q;have h1:q*g<=p*g↔q<=p:=⟨fun h=>Int.le_of_mul_le_mul_right h V,fun h=>WH h V⟩
 rw[h1];unfold F01.cu;split
 ·omega
 ·split<;>omega
def Dq (hok:Zv d)(h5:d.C.length<=5)(hro:ZB d r){S:Nat}(hu:u∈r)(hS:Sub S (bD d u))(hck:F01.bC n m=0){s b8 b11 b9 b5:Nat}(H:Zn)(hE:EnH d r u n m s b8 b11 b9 b5 H)(K:Zt->Zn->Prop)
  (hK:K (.ret (.lit (.bool (fU d r u n m S)))) H):
  ae prog G0 56 [aK S,.O b8 0 0,.O b11 0 0,.O b9 0 0,.O b5 0 0] H K:=by
 refine ae.Z ⟨_,func56,rfl,rfl⟩ fun hcl=>?_;obtain⟨c,e,hce,h11⟩:=hE.h11;have l8:=ag hE.h8;have l11:=ag h11;have l5:=ag hE.h5;have g5:=tj hok h5;have t1:=qU hok hro;have t2:=qU (qQ hok hro hu hS) (qR hok hro hu hS);have gd:(bp d r u S).nl ^ (bp d r u S).C.length=d.nl ^ d.C.length:=by rw[iA];rfl
 rw[gd]at t2;obtain⟨x,y,gx,hx,hX⟩:=mr (S:=da d r u S) (D:=d.nl ^ d.C.length) g5.1;have wb:=Di hok h5 hro hu hS H hE.hs hE.sl;rw[hx,hce]at wb;have hw:da d r u S=eG (bp d r u S) r-eG d r:=rfl;obtain⟨p1,p2⟩:=hX.bound;have y1:=hX.b1;have ckx:F01.bC x y=0:=F01.vo V V hX.cop;obtain⟨rn,rm,_⟩:=F01.pr hck;have hge:=PH (n:=n) (m:=m) hX;refine ae.sw (n:=35) (rs:=[.tmp 6]) func56 ?_;refine W.sq ?_;simp only[go_sem];refine W.sq ?_;simp only[go_sem,l8,l11];refine ao.Z (wb _ ⟨trivial,?_⟩);simp only[go_sem];obtain⟨H2,hH2⟩:∃H2,H2=ext H [.J 0 58 [.lit (.int .i64 x),.lit (.int .i64 y)]]:=⟨_,rfl⟩
 have o2:Zs H H2:=hH2▸.ext _ _
 have l7:=ag (show H2.get H.A=some (.J 0 58 [.lit (.int .i64 x),.lit (.int .i64 y)]) by rw[hH2];exact cM ..);have b5n:=hE.h5;have m5:H2.na b5 0=some (58,[.lit (.int .i64 n),.lit (.int .i64 m)]):=(o2.na (hcl.lt _ _ b5n)).trans l5;rw[<- hH2];clear hH2;refine W.sq ?_;simp only[go_sem];refine W.sq ?_;simp only[go_sem,l7,m5];refine ao.Z (F01.Nd x y n m ⟨V,V⟩ ⟨V,V⟩ H2 _ ⟨trivial,?_⟩);unfold F01.yT;rw[UX ⟨ckx,hck⟩];simp only[go_sem];refine W.sq ?_;simp only[go_sem];refine W.vs ?_;by_cases hb:(0:Int)<=F01.cu (x*m) (n*y)
 ·rw[show fU d r u n m S=true from Vl (hge.1 hb)]at hK;simp only[go_sem,hb];exact aj.bH aF hcl o2 (.lit _) hK
 ·rw[show fU d r u n m S=false from VP fun h=>hb (hge.2 h)]at hK;simp only[go_sem,hb];exact aj.bH aF hcl o2 (.lit _) hK
end Go.Proofs
namespace Go.Hx
variable {P:Program} {t:TypeId} {x y:Operand}
def Pz {a b:Nat}(ha:a<2 ^ 63)(hb:b<2 ^ 63):aU P .and t x y (.lit (.int .i64 (a:Int))) (.lit (.int .i64 (b:Int)))=some (.lit (.int .i64 ((a &&& b:Nat):Int))):=by
 rw[pZ];have h1:(BitVec.ofInt 64 (a:Int) &&& BitVec.ofInt 64 (b:Int)).toNat=a &&& b:=by
  rw[BitVec.toNat_and,rT V,rT V]
 have h2:a &&& b<=a:=Yj;show some (Zo.lit (.int .i64 (IntKind.i64.wrap ((BitVec.ofInt 64 (a:Int) &&& BitVec.ofInt 64 (b:Int)).toNat:Nat))))=_;rw[h1,UU _ V]
end Go.Hx
namespace Go.Proofs
open Go.Hx Tryz
variable {M k n p:Nat}{d:Zq}
def fh (s:Nat):Nat:=((List.range 8).filter fun i=>s.testBit i).length
def jh (x:Nat):Nat:=((x >>> 1) &&& 6148914691236517205)+(x &&& 6148914691236517205)
def jQ (x:Nat):Nat:=((x >>> 2) &&& 3689348814741910323)+(x &&& 3689348814741910323)
def kY (x:Nat):Nat:=((x >>> 4)+x) &&& 1085102592571150095
def mM (x:Nat):Nat:=x+(x >>> 8)
def pz (x:Nat):Nat:=x+(x >>> 16)
def tn (x:Nat):Nat:=x+(x >>> 32)
def PA:((List.range 256).all fun n=>Nat.ble (jh n) 65535 && Nat.ble (jQ (jh n)) 65535 && Nat.ble (kY (jQ (jh n))) 65535 && Nat.ble (mM (kY (jQ (jh n)))) 65535 && Nat.ble (pz (mM (kY (jQ (jh n))))) 65535 && Nat.ble (tn (pz (mM (kY (jQ (jh n)))))) 65535 && Nat.beq (tn (pz (mM (kY (jQ (jh n))))) &&& 127) (fh n) && Nat.ble (fh n) 8)=true:=Zl
def Dk (h:n<256):jh n<=65535/\jQ (jh n)<=65535/\kY (jQ (jh n))<=65535/\mM (kY (jQ (jh n)))<=65535/\pz (mM (kY (jQ (jh n))))<=65535/\tn (pz (mM (kY (jQ (jh n)))))<=65535/\tn (pz (mM (kY (jQ (jh n))))) &&& 127=fh n/\fh n<=8:=by
 have:=Vo.1 PA n (U9.2 h);simp only[Vr,Nat.ble_eq,Nat.beq_eq]at this;obtain⟨⟨⟨⟨⟨⟨⟨a,b⟩,c⟩,d⟩,e⟩,f⟩,g⟩,i⟩:=this;exact⟨a,b,c,d,e,f,g,i⟩
def qW {a b:Nat}(h:a+b<2 ^ 64):IntKind.u64.wrap ((a:Int)+(b:Int))=((a+b:Nat):Int):=by
 rw[<- Int.natCast_add];exact qc h
def PB (s:Nat)(hs:s<256)(H:Zn)(K:Zt->Zn->Prop)(hK:K (.ret (aa (fh s))) H):ae prog G0 73 [aK s] H K:=by
 obtain⟨b1,b2,b3,b4,b5,b6,e7,_⟩:=Dk hs;have step:∀(a k m:Nat),a<65536->m<2 ^ 64->∀t x y,aU prog .and t x y (.lit (.int .u64 ((a >>> k:Nat):Int))) (.lit (.int .u64 (m:Int)))=some (.lit (.int .u64 ((a >>> k &&& m:Nat):Int))):=fun a k m ha hm t x y=>j5 (WI (X7 a k) V) hm;have le1:∀a k m:Nat,a<65536->a >>> k &&& m<65536:=fun a k m h=>WI (VC Yj (X7 a k)) h;have le2:∀a m:Nat,a<65536->a &&& m<65536:=fun a m h=>WI Yj h;have le3:∀a k:Nat,a<65536->a >>> k<65536:=fun a k h=>WI (X7 a k) h;unfold aK;refine ae.sw (n:=35) (rs:=[.tmp 2]) func73 ?_;refine W.sq ?_;simp only[go_sem];obtain⟨x1,h1⟩:∃z,z=jh s:=⟨_,rfl⟩
 have p1:∀t x y,aU prog .shr t x y (.lit (.int .u64 (s:Int))) (.lit (.int .u64 1))=some (.lit (.int .u64 ((s >>> 1:Nat):Int))):=fun t x y=>iY (s:=1) V;have p2:∀t x y,aU prog .and t x y (.lit (.int .u64 ((s >>> 1:Nat):Int))) (.lit (.int .u64 6148914691236517205))=_:=step s 1 6148914691236517205 V Zk;have p3:∀t x y,aU prog .and t x y (.lit (.int .u64 (s:Int))) (.lit (.int .u64 6148914691236517205))=some (.lit (.int .u64 ((s &&& 6148914691236517205:Nat):Int))):=fun t x y=>j5 V Zk;have p4:=qW (a:=s >>> 1 &&& 6148914691236517205) (b:=s &&& 6148914691236517205) (by have:=le1 s 1 6148914691236517205 V;have:=le2 s 6148914691236517205 V;omega);rw[show (s >>> 1 &&& 6148914691236517205)+(s &&& 6148914691236517205)=x1 from h1.symm]at p4;refine W.sq ?_;simp only[go_sem,p1,p2,p3,p4];rw[<- h1]at b1 b2 b3 b4 b5 b6 e7;clear h1 p1 p2 p3 p4;refine W.en (fun E=>E 0=.lit (.int .u64 (x1:Int))) (by simp only[go_sem]) fun E q1=>?_
 obtain⟨x2,h2⟩:∃z,z=jQ x1:=⟨_,rfl⟩
 have p1:∀t x y,aU prog .shr t x y (.lit (.int .u64 (x1:Int))) (.lit (.int .u64 2))=some (.lit (.int .u64 ((x1 >>> 2:Nat):Int))):=fun t x y=>iY (s:=2) V;have p2:∀t x y,aU prog .and t x y (.lit (.int .u64 ((x1 >>> 2:Nat):Int))) (.lit (.int .u64 3689348814741910323))=_:=step x1 2 3689348814741910323 V Zk;have p3:∀t x y,aU prog .and t x y (.lit (.int .u64 (x1:Int))) (.lit (.int .u64 3689348814741910323))=some (.lit (.int .u64 ((x1 &&& 3689348814741910323:Nat):Int))):=fun t x y=>j5 V Zk;have p4:=qW (a:=x1 >>> 2 &&& 3689348814741910323) (b:=x1 &&& 3689348814741910323) (by have:=le1 x1 2 3689348814741910323 V;have:=le2 x1 3689348814741910323 V;omega);rw[show (x1 >>> 2 &&& 3689348814741910323)+(x1 &&& 3689348814741910323)=x2 from h2.symm]at p4;refine W.sq ?_;simp only[go_sem,q1,p1,p2,p3,p4];rw[<- h2]at b2 b3 b4 b5 b6 e7;clear h2 p1 p2 p3 p4;refine W.en (fun E2=>E2 0=.lit (.int .u64 (x2:Int))) (by simp only[go_sem]) fun E2 q2=>?_
 clear q1 E;obtain⟨x3,h3⟩:∃z,z=kY x2:=⟨_,rfl⟩
 have p1:∀t x y,aU prog .shr t x y (.lit (.int .u64 (x2:Int))) (.lit (.int .u64 4))=some (.lit (.int .u64 ((x2 >>> 4:Nat):Int))):=fun t x y=>iY (s:=4) V;have l3:=le3 x2 4 V;have p4:=qW (a:=x2 >>> 4) (b:=x2) V;have p3:∀t x y,aU prog .and t x y (.lit (.int .u64 ((x2 >>> 4+x2:Nat):Int))) (.lit (.int .u64 1085102592571150095))=some (.lit (.int .u64 ((((x2 >>> 4)+x2) &&& 1085102592571150095:Nat):Int))):=fun t x y=>j5 V Zk;rw[show ((x2 >>> 4)+x2) &&& 1085102592571150095=x3 from h3.symm]at p3;refine W.sq ?_;simp only[go_sem,q2,p1,p4,p3];rw[<- h3]at b3 b4 b5 b6 e7;clear h3 p1 p3 p4 l3;refine W.en (fun E3=>E3 0=.lit (.int .u64 (x3:Int))) (by simp only[go_sem]) fun E3 q3=>?_
 clear q2 E2;obtain⟨x4,h4⟩:∃z,z=mM x3:=⟨_,rfl⟩
 have p1:∀t x y,aU prog .shr t x y (.lit (.int .u64 (x3:Int))) (.lit (.int .u64 8))=some (.lit (.int .u64 ((x3 >>> 8:Nat):Int))):=fun t x y=>iY (s:=8) V;have p4:=qW (a:=x3) (b:=x3 >>> 8) (by have:=le3 x3 8 V;omega);rw[show x3+(x3 >>> 8)=x4 from h4.symm]at p4;refine W.sq ?_;simp only[go_sem,q3,p1,p4];rw[<- h4]at b4 b5 b6 e7;clear h4 p1 p4;refine W.en (fun E4=>E4 0=.lit (.int .u64 (x4:Int))) (by simp only[go_sem]) fun E4 q4=>?_
 clear q3 E3;obtain⟨x5,h5⟩:∃z,z=pz x4:=⟨_,rfl⟩
 have p1:∀t x y,aU prog .shr t x y (.lit (.int .u64 (x4:Int))) (.lit (.int .u64 16))=some (.lit (.int .u64 ((x4 >>> 16:Nat):Int))):=fun t x y=>iY (s:=16) V;have p4:=qW (a:=x4) (b:=x4 >>> 16) (by have:=le3 x4 16 V;omega);rw[show x4+(x4 >>> 16)=x5 from h5.symm]at p4;refine W.sq ?_;simp only[go_sem,q4,p1,p4];rw[<- h5]at b5 b6 e7;clear h5 p1 p4;refine W.en (fun E5=>E5 0=.lit (.int .u64 (x5:Int))) (by simp only[go_sem]) fun E5 q5=>?_
 clear q4 E4;obtain⟨x6,h6⟩:∃z,z=tn x5:=⟨_,rfl⟩
 have p1:∀t x y,aU prog .shr t x y (.lit (.int .u64 (x5:Int))) (.lit (.int .u64 32))=some (.lit (.int .u64 ((x5 >>> 32:Nat):Int))):=fun t x y=>iY (s:=32) V;have p4:=qW (a:=x5) (b:=x5 >>> 32) (by have:=le3 x5 32 V;omega);rw[show x5+(x5 >>> 32)=x6 from h6.symm]at p4;refine W.sq ?_;simp only[go_sem,q5,p1,p4];rw[<- h6]at b6 e7;clear h6 p1 p4;refine W.en (fun E6=>E6 0=.lit (.int .u64 (x6:Int))) (by simp only[go_sem]) fun E6 q6=>?_
 clear q5 E5;have w6:=UU (x6:Int) V;have p3:∀t x y,aU prog .and t x y (.lit (.int .i64 (x6:Int))) (.lit (.int .i64 127))=some (.lit (.int .i64 ((x6 &&& 127:Nat):Int))):=fun t x y=>Pz (b:=127) V Zk;rw[e7]at p3;refine W.vs ?_;simp only[go_sem,q6,w6,p3];exact aj.mk Zm hK
def Dl (s:Nat)(hs:s<256)(H:Zn)(K:Zt->Zn->Prop)(hK:K (.ret (aa (fh s))) H):ae prog G0 31 [aK s] H K:=by
 refine ae.st (n:=8) (rs:=[.tmp 2]) func31 ?_;simp only[go_sem];refine ao.Z (PB s hs H _ ⟨trivial,?_⟩);simp only[go_sem];exact aj.mk Zm hK
def jx (M k p:Nat):Bool:=decide (dE p M=0) && decide (fh p=k)
def eE (M k p:Nat):List Nat:=((List.range k).flatMap fun j=>(List.range (M+1)).filter (jx M j))++(List.range p).filter (jx M k)
def gJ (M:Nat):List Nat:=eE M (fh M+1) 0
def Dm (M k:Nat):eE M k (M+1)=eE M (k+1) 0:=by
 unfold eE;rw[VH (n:=k),Ys];simp
def Dn (h:jx M k p=true):eE M k (p+1)=eE M k p++[p]:=by
 unfold eE;rw[VH (n:=p),WB,<- List.append_assoc];congr 1;simp[h]
def Do (h:jx M k p=false):eE M k (p+1)=eE M k p:=by
 unfold eE;rw[VH (n:=p),WB];simp[h]
def Dp {m:Nat}(h:n<=m):∃t,List.range m=List.range n++t:=⟨(List.range (m-n)).map (n+·),by rw[<- List.range_add];congr 1;omega⟩
def PC (hk:k<=fh M)(hp:p<=M+1):∃t,gJ M=eE M k p++t:=by
 have e1:∃t,eE M (k+1) 0=eE M k p++t:=by
  obtain⟨t,ht⟩:=Dp hp;refine⟨t.filter (jx M k),?_⟩;rw[<- Dm];unfold eE;rw[ht,WB,<- List.append_assoc]
 have e2:∃t,gJ M=eE M (k+1) 0++t:=by
  obtain⟨t,ht⟩:=Dp (show k+1<=fh M+1 by omega);refine⟨t.flatMap fun j=>(List.range (M+1)).filter (jx M j),?_⟩;unfold gJ eE;rw[ht,Ys];simp
 obtain⟨t1,h1⟩:=e1;obtain⟨t2,h2⟩:=e2;exact⟨t1++t2,by rw[h2,h1,List.append_assoc]⟩
def PD (hk:k<=fh M)(hp:p<=M)(h:jx M k p=true):(gJ M)[(eE M k p).length]?=some p:=by
 obtain⟨t,ht⟩:=PC hk (show p+1<=M+1 by omega);rw[ht,Dn h,List.append_assoc,VA Zm,XJ];rfl
def PE {i:Nat}(h:(gJ M)[i]?=some p):((gJ M).map fun (p:Nat)=>[aK p])[i]?=some [aK p]:=by rw[List.getElem?_map,h];rfl
def PF (M bx:Nat)(hM:M<256):tV prog G0 101 [] [.O bx 0 0] ((gJ M).map fun (p:Nat)=>[aK p]) (fun H=>H.get bx=some (.J 0 34 [aK M])):=by
 intro idy J Stop H K hS hJ0 hY hK hSt;have hc8:=(Dk hM).2.2.2.2.2.2.2;have l1:=ag (hS 0 H hJ0);have w0:=UU ((fh M:Int)+1) V;unfold aK at l1;show ae _ _ _ ([.np idy]++[.O bx 0 0]) _ _;refine ae.sw (n:=33) (rs:=[]) func101 ?_;refine W.sq ?_;simp only[go_sem,l1];refine ao.Z (Dl M hM H _ ⟨trivial,?_⟩);simp only[go_sem,w0];refine W.en (fun E=>E 0=.np idy /\ E 1=.O bx 0 0 /\ E 7=aa ((fh M:Int)+1) /\ E 8=aa 0) (by simp only[go_sem]) fun E ⟨e0,e1,e7,e8⟩=>?_
 refine W.block ?_;refine W.aS 8589934360 (by rfl) (fun ρ H'=>∃k:Nat,ρ 8=aa k/\k<=fh M+1/\J (eE M k 0).length H'/\H.A<=H'.A) (fun ρ _=>fh M+1-(iv (ρ 8)).toNat) ?_ ?_
 ·exact⟨0,e8,V,hJ0,Zm⟩
 rintro ρ Hx ⟨k,h8,hk,hj,hnx⟩;refine W.en (fun E2=>E2 0=.np idy /\ E2 1=.O bx 0 0 /\ E2 7=aa ((fh M:Int)+1) /\ E2 8=aa k) (by simp only[go_sem,e0,e1,e7,h8]) fun E2 ⟨f0,f1,f7,f8⟩=>?_
 by_cases hb:(k:Int)<(fh M:Int)+1;rotate_left
 ·refine W.vs ?_;simp only[go_sem,f7,f8,hb];obtain rfl:k=fh M+1:=V
  exact aj.mk V (hK Hx (by rw[Vh];exact hj) hnx)
 refine W.sq ?_;simp only[go_sem,f7,f8,hb];refine W.sq ?_;simp only[go_sem];refine W.seq (W.block ?_);refine W.sq ?_;simp only[go_sem,f8];refine W.sq ?_;simp only[go_sem];refine W.en (fun E3=>E3 0=.np idy /\ E3 1=.O bx 0 0 /\ E3 3=aa k /\ E3 4=.lit (.int .u64 0) /\ E3 7=aa ((fh M:Int)+1) /\ E3 8=aa k) (by simp only[go_sem,f0,f1,f7,f8]) fun E3 ⟨g0,g1,g3,g4,g7,g8⟩=>?_
 refine W.block ?_;refine W.aS 4294965264 (by rfl) (fun ρ H'=>∃p:Nat,ρ 4=aK p/\p<=M+1/\J (eE M k p).length H'/\Hx.A<=H'.A) (fun ρ _=>M+1-(iv (ρ 4)).toNat) ?_ ?_
 ·exact⟨0,g4,V,hj,Zm⟩
 rintro ρ2 Hy ⟨p,h4,hp,hjy,hny⟩;refine W.env fun E4 hE=>?_;have i0:E4 0=.np idy:=by rw[hE];simp only[go_sem,g0]
 have i1:E4 1=.O bx 0 0:=by rw[hE];simp only[go_sem,g1]
 have i3:E4 3=aa k:=by rw[hE];simp only[go_sem,g3]
 have i4:E4 4=.lit (.int .u64 (p:Int)):=by rw[hE];simp only[go_sem];exact h4
 have i7:E4 7=aa ((fh M:Int)+1):=by rw[hE];simp only[go_sem,g7]
 have i8:E4 8=aa k:=by rw[hE];simp only[go_sem,g8]
 clear hE;have ly:=ag (hS _ _ hjy);unfold aK at ly;by_cases hpb:(p:Int)<=M;rotate_left
 ·obtain rfl:p=M+1:=V
  refine W.vs ?_;simp only[go_sem,i1,i4,ly,hpb];have wk:=UU ((k:Int)+1) V;refine W.vs ?_;simp only[go_sem,i8,wk];exact⟨V,⟨k+1,rfl,V,by rw[<- Dm];exact hjy,V⟩,by rw[h8];simp only[aa,bh];omega⟩
 have wp:IntKind.u64.wrap ((p:Int)+1)=((p+1:Nat):Int):=qc (m:=p+1) V;have s2:=fun t x y=>mu (P:=prog) (t:=t) (x:=x) (y:=y) (a:=p) (b:=M);have done:eE M k (p+1)=eE M k p->∀H',J (eE M k p).length H'->Hx.A<=H'.A->∃q:Nat,Zo.lit (.int .u64 ((p+1:Nat):Int))=aK q/\q<=M+1/\J (eE M k q).length H'/\Hx.A<=H'.A:=fun e H' h1 h2=>⟨p+1,rfl,V,by rw[e];exact h1,h2⟩
 have dec:M+1-(((p+1:Nat):Int)).toNat<M+1-(iv (ρ2 4)).toNat:=by rw[h4];simp only[aK,bh];omega
 refine W.sq ?_;simp only[go_sem,i1,i4,ly,hpb];refine W.seq (W.block ?_);by_cases hz:(dE p M:Int)=0;rotate_left
 ·have hno:jx M k p=false:=by unfold jx;rw[VP V];rfl
  refine W.sq ?_;simp only[go_sem,i1,i4,ly,s2,hz];refine W.cond (t:=false) (by simp only[go_sem]) ?_;refine W.vs ?_;simp only[go_sem];refine W.vs ?_;simp only[go_sem,i4,wp];exact⟨V,done (Do hno) _ hjy hny,dec⟩
 refine W.sq ?_;simp only[go_sem,i1,i4,ly,s2,hz];refine ao.Z (Dl p V Hy _ ⟨trivial,?_⟩);by_cases hc:(fh p:Int)=k;rotate_left
 ·have hno:jx M k p=false:=by unfold jx;rw[VP (show ¬fh p=k by omega),Bool.and_false]
  simp only[go_sem,i3,hc];refine W.cond (t:=false) (by simp only[go_sem]) ?_;refine W.vs ?_;simp only[go_sem];refine W.vs ?_;simp only[go_sem,i4,wp];exact⟨V,done (Do hno) _ hjy hny,dec⟩
 have hyes:jx M k p=true:=by unfold jx;rw[Vl (show dE p M=0 by omega),Vl (show fh p=k by omega)];rfl
 have hat:=PE (PD V V hyes);simp only[go_sem,i0,i3,i4,hc];refine hY _ _ Hy _ hat hjy V (fun H2 hj2 hn2=>⟨trivial,?_⟩) (fun H2 hs2 hn2=>⟨trivial,?_⟩)
 ·simp only[go_sem];refine W.cond (t:=false) (by simp only[go_sem]) ?_;refine W.vs ?_;simp only[go_sem];refine W.vs ?_;simp only[go_sem,i4,wp];have e:(eE M k (p+1)).length=(eE M k p).length+1:=by rw[Dn hyes,List.length_append];rfl
  exact⟨V,⟨p+1,rfl,V,by rw[e];exact hj2,V⟩,dec⟩
 ·simp only[go_sem];refine W.cond (t:=true) (by simp only[go_sem]) ?_;refine W.vs ?_;simp only[go_sem];exact aj.mk V (hSt H2 hs2 V)
def PG (M:Nat)(H:Zn)(K:Zt->Zn->Prop)(hK:K (.ret (.Z 101 [] [.O H.A 0 0])) (ext H [.J 0 34 [aK M]])):
  ae prog G0 58 [aK M] H K:=by
 unfold aK at hK ⊢;refine ae.st (n:=4) (rs:=[.tmp 2]) func58 ?_;simp only[go_sem];exact aj.mk (by simp[aV]) hK
def Dr (hok:Zv d)(u:Nat):bD d u<256:=by
 have n8:=hok.n.n1;have h:=od (d:=d) (u:=u) (S:=bD d u) fun i h=>h;exact U4 h (by
  have:=U7 (n:=2) Zk (show d.C.length<=8 by omega);omega)
def PI (h:p∈gJ M)(hM:M<2 ^ 64):Sub p M:=by
 unfold gJ eE at h;rcases Vp.1 h with h|h
 ·obtain⟨k,_,h⟩:=List.mem_flatMap.1 h;have hp:=U9.1 (WQ.1 h).1;have h2:=(WQ.1 h).2;unfold jx at h2;rw[Vr,X1]at h2;intro i hi;have h3:=congrArg (fun z=>Nat.testBit z i) h2.1;simp only[VF]at h3;rw[kL V,hi]at h3;cases hb:M.testBit i with
  |true=>rfl
  |false=>rw[hb]at h3;cases h3
 ·simp at h
def vu {S:Nat->Prop}{H:Zn}{nx:Nat}(a:Nat)(e:Int):Fz S H nx (.nf [.lit (.int .u64 (a:Int)),.lit (.int .i64 e)]) (.nf [aK a,aa e]) :=
 .nf rfl fun i hi _=>match i,hi with
  |0,_=>.lit _
  |1,_=>.lit _
def PJ (hok:Zv d)(h5:d.C.length<=5){r:List Nat}(hro:ZB d r){u:Nat}(hu:u∈r){n m:Int}(hn:-9223372036854775808<=n/\n<=9223372036854775807)(hm:-9223372036854775808<=m/\m<=9223372036854775807)(H:Zn)(K:Zt->Zn->Prop)
  (hF:F01.bC n m≠0->K (.ret (.nf [aK 0,aa (F01.bC n m)])) H)
  (hA:F01.bC n m=0->n<0->K (.ret (.nf [aK 0,aa 2])) H)
  (hN:F01.bC n m=0->0<=n->fU d r u n m (bD d u)=false->K (.ret (.nf [aK 0,aa 4])) H)
  (hK:∀S,F01.bC n m=0->0<=n->fU d r u n m (bD d u)=true->S=((gJ (bD d u)).find? (fU d r u n m)).getD 0->K (.ret (.nf [aK S,aa 0])) H):
  ae prog G0 23 [dk d,aa u,.agg [aa n,aa m]] H K:=by
 refine ae.Z ⟨_,func23,rfl,rfl⟩ fun hcl=>?_;have hf:=pJ hok;obtain⟨he,hv⟩:=ti hok hro;have hul:u<d.C.length:=(bM.1 (hro.mem u hu)).1;have hM:=Dr hok u;have g5:=tj hok h5;obtain⟨c,e,gc,hc,hC⟩:=mr (S:=eG d r) (D:=d.nl ^ d.C.length) g5.1;refine ae.sw (n:=62) (rs:=[.tmp 6,.tmp 7]) func23 ?_;refine W.sq ?_;simp only[go_sem,ie,cZ];obtain⟨H1,hH1⟩:∃H1,H1=ext H [.J 0 38 [.lit (.int .i64 d.nl),.Q d.C.length (aH d.C),.lit (.int .u64 (d.X:Int)),.Q d.Y.length (bB d.Y)],.J 0 58 [.lit (.int .i64 n),.lit (.int .i64 m)]]:=⟨_,rfl⟩
 have g3:=dp hH1
 have g5':H1.get (H.A+1)=some (.J 0 58 [.lit (.int .i64 n),.lit (.int .i64 m)]):=by rw[hH1];exact bO H _ 1 (Zj)
 have o1:Zs H H1:=hH1▸.ext _ _
 have n1:H1.A=H.A+2:=hH1▸rfl
 rw[<- hH1];clear hH1;have l3:=ag g3;refine W.scope ?_;refine W.sq ?_;simp only[go_sem,l3];refine ao.Z (vm d hf u H1 _ (fun h=>absurd (he.symm.trans h) Zk) (fun _ h=>absurd he h) (fun _ h=>absurd (mL.2 (hv ▸ hu)) h) fun r' u' H2 _ hr' hu' hm' hH2=>⟨trivial,?_⟩);obtain rfl:r=r':=hv.symm.trans hr';obtain rfl:u=u':=V
 have o2:Zs H1 H2:=by rw[hH2];exact .ext _ _
 have gs:H2.get (H1.A+1)=some (.J 0 157 (gY d r u)):=by rw[hH2];exact bO H1 _ 1 (Zj)
 have n2:H2.A=H1.A+2:=by rw[hH2];rfl
 clear hH2;simp only[go_sem];obtain⟨H3,hH3⟩:∃H3,H3=ext H2 [.J 0 101 [.O (H1.A+1) 0 0],.J 0 44 [.lit (.int .i64 0)]]:=⟨_,rfl⟩
 have g8:=dp hH3
 have g9:=gE hH3 1 rfl
 have o3:Zs H2 H3:=hH3▸.ext _ _
 have n3:H3.A=H2.A+2:=hH3▸rfl
 rw[<- hH3];clear hH3;have l9:=ag g9;have g33:=(o3.nc _ V).trans ((o2.nc H.A V).trans g3);have g53:=(o3.nc _ V).trans ((o2.nc (H.A+1) V).trans g5');have l33:=ag g33;have l53:=ag g53;have oH3:Zs H H3:=(o1.trans o2).trans o3;refine W.en (fun E=>E 1=aa u /\ E 3=.O H.A 0 0 /\ E 5=.O (H.A+1) 0 0 /\ E 8=.O H2.A 0 0 /\ E 9=.O (H2.A+1) 0 0) (by simp only[go_sem]) fun E ⟨e1,e3,e5,e8,e9⟩=>?_
 refine W.sq ?_;simp only[go_sem,e9,l9];refine W.sq ?_;simp only[go_sem,e5,l53];refine ao.Z (F01.sZ n m hn hm H3 _ ⟨trivial,?_⟩);by_cases hck:F01.bC n m=0;rotate_left
 ·simp only[go_sem,hck];exact aj.bH aF hcl oH3 (vu 0 _) (hF hck)
 rw[hck];simp only[go_sem];by_cases hneg:n<0
 ·refine W.sq ?_;simp only[go_sem,e5,l53,hneg];exact aj.bH aF hcl oH3 (vu 0 _) (hA hck hneg)
 refine W.sq ?_;simp only[go_sem,e5,l53,hneg];refine W.sq ?_;simp only[go_sem,e3,l33];refine ao.Z (yB d hf V H3 _ (fun h=>absurd (he.symm.trans h) Zk) (fun _ h=>absurd he h) fun r' hr' _ _=>⟨trivial,?_⟩);obtain rfl:r=r':=Option.some.inj ((te hok hro).symm.trans hr');rw[hc];have l9e:∀L,(ext H3 L).na (H2.A+1) 0=_:=fun L=>(eo V).trans l9;simp only[go_sem,e9,l9e];obtain⟨H4,hH4⟩:∃H4,H4=(ext H3 [.J 0 58 [.lit (.int .i64 c),.lit (.int .i64 e)]]).upd (H2.A+1) (.J 0 44 [.lit (.int .i64 0)]):=⟨_,rfl⟩
 have n4:H4.A=H3.A+1:=by rw[hH4];rfl
 have k4:∀i,i<H3.A->H4.get i=H3.get i:=fun i h=>by
  rw[hH4,ah];split
  ·rename_i hi;rw[hi];exact g9.symm
  ·exact c9 H3 _ i h
 have o4:Zs H3 H4:=⟨V,k4⟩
 have g11:H4.get H3.A=some (.J 0 58 [.lit (.int .i64 c),.lit (.int .i64 e)]):=by rw[hH4,ah,UW V];exact cM ..
 rw[<- hH4];clear hH4;have l94:=ag ((k4 _ V).trans g9);refine W.sq ?_;simp only[go_sem,e9,l94];refine W.sq ?_;simp only[go_sem];refine W.sq ?_;simp only[go_sem,e5,e8,e9];refine⟨⟨rfl,rfl,Zm⟩,?_⟩;obtain⟨H5,hH5⟩:∃H5,H5=ext H4 [.J 0 34 [.lit (.int .u64 0)],.J 0 122 [.Z 56 [] [.O H2.A 0 0,.O H3.A 0 0,.O (H2.A+1) 0 0,.O (H.A+1) 0 0]]]:=⟨_,rfl⟩
 have o5:Zs H4 H5:=hH5▸.ext _ _
 have n5:H5.A=H4.A+2:=hH5▸rfl
 have g12:=dp hH5
 have g13:=gE hH5 1 rfl
 show W _ _ _ _ _ _ ⟨_,ext H4 [.J 0 34 [.lit (.int .u64 0)],.J 0 122 [.Z 56 [] [.O H2.A 0 0,.O H3.A 0 0,.O (H2.A+1) 0 0,.O (H.A+1) 0 0]]]⟩;rw[<- hH5];clear hH5;have o345:Zs H3 H5:=o4.trans o5;have gs5:=(o345.nc _ V).trans ((o3.nc _ V).trans gs);have g85:=(o345.nc _ V).trans g8;have g95:=(o345.nc _ V).trans g9;have g55:=(o345.nc _ V).trans g53;have g115:=(o5.nc _ V).trans g11;have hE5:EnH d r u n m (H1.A+1) H2.A H3.A (H2.A+1) (H.A+1) H5:=⟨V,gs5,g85,⟨c,e,hc,g115⟩,g95,g55⟩
 have l85:=ag g85;have l95:=ag g95;have l12:=ag g12;have l13:=ag g13;have oH5:Zs H H5:=oH3.trans o345;refine W.en (fun E2=>E2 8=.O H2.A 0 0 /\ E2 9=.O (H2.A+1) 0 0 /\ E2 12=.O H4.A 0 0 /\ E2 13=.O (H4.A+1) 0 0) (by simp only[go_sem,e8,e9]) fun E2 ⟨f8,f9,f12,f13⟩=>?_
 refine W.sq ?_;simp only[go_sem,f8,l85];refine ao.Z (vk hok (vr hf) hul H5 gs5 V _ ⟨trivial,?_⟩);simp only[go_sem];refine W.sq ?_;simp only[go_sem,f13,l13];refine ao.Z (Dq hok h5 hro hu (fun i h=>h) hck H5 hE5 _ ⟨trivial,?_⟩);cases hb:fU d r u n m (bD d u) with
 |false =>
  simp only[go_sem,f9,l95];exact aj.bH aF hcl oH5 (vu 0 _) (hN hck V hb)
 |true =>
 simp only[go_sem];refine W.seq (W.label ?_);refine W.seq ?_;refine W.sq ?_;simp only[go_sem];refine ao.Z (PG (bD d u) H5 _ ⟨trivial,?_⟩);simp only[go_sem];obtain⟨H6,hH6⟩:∃H6,H6=ext H5 [.J 0 34 [.lit (.int .u64 ((bD d u:Nat):Int))]]:=⟨_,rfl⟩
 have o6:Zs H5 H6:=hH6▸.ext _ _
 have n6:H6.A=H5.A+1:=hH6▸rfl
 have gbx:H6.get H5.A=some (.J 0 34 [aK (bD d u)]):=by rw[hH6];exact cM ..
 rw[<- hH6];clear hH6;refine W.en (fun E3=>E3 9=.O (H2.A+1) 0 0 /\ E3 12=.O H4.A 0 0 /\ E3 13=.O (H4.A+1) 0 0 /\ E3 52=.Z 101 [] [.O H5.A 0 0]) (by simp only[go_sem,f9,f12,f13]) fun E3 ⟨i9,i12,i13,i52⟩=>?_
 have tail:∀(Hy:Zn) (S:Nat),H6.A<=Hy.A->(∀i,i<H6.A->i≠H4.A->Hy.get i=H6.get i)->S=((gJ (bD d u)).find? (fU d r u n m)).getD 0->aj prog G0 H K (.nf [.lit (.int .u64 (S:Int)),.lit (.int .i64 0)]) Hy:=fun Hy S h1 h2 h3=>by
  have a1:=o345.A;have a2:=oH3.A;exact aj.bH aF hcl ⟨V,fun i hi=>(h2 i V V).trans ((o6.nc i V).trans (oH5.nc i hi))⟩ (vu S 0) (hK S hck V hb h3)
 have g96:=(o6.nc _ V).trans g95;refine W.block ?_;refine W.rU (f:=101) (first:=[]) (cap:=[.O H5.A 0 0]) (by show E3 52=_;exact i52) (PF (bD d u) H5.A hM)
  (fun k Hy=>H6.A<=Hy.A/\(∀id,id<H6.A->Hy.get id=H6.get id)/\∀j p,j<k->(gJ (bD d u))[j]?=some p->fU d r u n m p=false)
  (fun c Hy=>c=.exit 0/\H6.A<=Hy.A/\(∀id,id<H6.A->id≠H4.A->Hy.get id=H6.get id)/\∃p:Nat,(gJ (bD d u)).find? (fU d r u n m)=some p/\Hy.get H4.A=some (.J 0 34 [.lit (.int .u64 (p:Int))]))
  (fun k Hy h=>by rw[h.2.1 _ V];exact gbx)
  (fun k Hy b h=>⟨h.1,fun id h1=>by rw[ah,UW V];exact h.2.1 id h1,h.2.2⟩)
  (fun c Hy b h=>⟨h.1,h.2.1,fun id h1 h2=>by rw[ah,UW V];exact h.2.2.1 id h1 h2,by
   obtain⟨v,hv,hg⟩:=h.2.2.2;exact⟨v,hv,by rw[ah,UW V];exact hg⟩⟩)
  (fun b=>⟨by rw[aV];omega,fun id h1=>dz h1,fun j v h=>absurd h (Va _)⟩)
  Zk (fun x hx=>by obtain⟨p,_,rfl⟩:=Vb.1 hx;rfl) (fun _ _ _=>trivial) (fun _ _ _=>trivial) (fun k y Hy B Bb hy hj hn hB hBb=>?_) (fun Hy hj hn=>?_) (fun Hy hs hn=>by cases hs.1) (fun i Hy hs hn=>?_)
 ·obtain⟨p,hp,rfl⟩:∃p,(gJ (bD d u))[k]?=some p/\[aK p]=y:=by
   rw[List.getElem?_map]at hy;cases hq:(gJ (bD d u))[k]? with
   |none=>rw[hq]at hy;cases hy
   |some p=>rw[hq]at hy;exact⟨p,rfl,Option.some.inj hy⟩
  obtain⟨hyn,hyo,hyno⟩:=hj;have hpS:=PI (an hp) V;refine W.vs ?_;simp only[go_sem,jK,dq,mw,V1,Xj,WA,WJ,hB];obtain⟨H7,hH7⟩:∃H7,H7=Hy.upd H6.A Bb:=⟨_,rfl⟩
  rw[<- hH7];obtain⟨st,pd,n',en,ps',as',bo,hBe⟩:=hBb;have n7:H7.A=Hy.A:=by rw[hH7];rfl
  have o7:∀id,id<H6.A->H7.get id=H6.get id:=fun id h=>by rw[hH7,ah,UW V];exact hyo id h
  have jB:H7.get H6.A=some Bb:=by rw[hH7,ah,UX rfl]
  have hE7:EnH d r u n m (H1.A+1) H2.A H3.A (H2.A+1) (H.A+1) H7:=hE5.ng V fun i hi=>by
   have:i<H5.A:=by rcases hi with h|h|h|h|h<;>omega
   exact(o7 i V).trans (o6.nc i this)
  have y13:=ag ((o7 _ V).trans ((o6.nc _ V).trans g13));have y12:=ag ((o7 _ V).trans ((o6.nc _ V).trans g12));refine W.en (fun E4=>E4 12=.O H4.A 0 0 /\ E4 13=.O (H4.A+1) 0 0 /\ E4 15=aK p) (by simp only[go_sem,dq,i12,i13]) fun E4 ⟨m12,m13,m15⟩=>?_
  refine W.vs ?_;simp only[go_sem,m13,m15,y13];refine ao.Z (Dq hok h5 hro hu hpS hck H7 hE7 _ ⟨⟨st,pd,n',en,ps',as',bo,by rw[jB,hBe]⟩,?_⟩);cases hep:fU d r u n m p with
  |false =>
   simp only[go_sem,ij];exact⟨jB,V,V,o7,fun j w hj hw=>by
    rcases Vj j k with h'|h'
    ·exact hyno j w h' hw
    ·obtain rfl:j=k:=V;rw[hp]at hw;cases hw;exact hep⟩
  |true =>
   unfold aK at m15;simp only[go_sem,m12,m15,y12,ij];exact⟨by rw[ah,UW V];exact jB,by rw[aP];omega,by rw[aP];omega,fun id h1 h2=>by rw[ah,UW h2];exact o7 id h1,p,B8 hp hep hyno,by rw[ah,UX rfl]⟩
 ·obtain⟨hyn,hyo,hyno⟩:=hj;rw[Vh]at hyno;have hnone:(gJ (bD d u)).find? (fU d r u n m)=none:=by
   rw[Xo];intro v hv;obtain⟨j,hj⟩:=U1.1 hv;have:=hyno j v (aO hj) hj;rw[this];decide
  have y9:=ag ((hyo _ V).trans g96);have y12:=ag ((hyo _ V).trans ((o6.nc _ V).trans g12));simp only[go_sem];refine W.sq ?_;simp only[go_sem,i9,y9];refine W.vs ?_;simp only[go_sem,i12,y12];exact tail Hy 0 hyn (fun i h _=>hyo i h) (by rw[hnone];rfl)
 ·obtain⟨hc0,hyn,hyo,p,hp,hg12⟩:=hs;cases hc0;have y9:=ag ((hyo _ V V).trans g96);have y12:=ag hg12;simp only[go_sem];refine W.sq ?_;simp only[go_sem,i9,y9];refine W.vs ?_;simp only[go_sem,i12,y12];exact tail Hy p hyn hyo (by rw[hp];rfl)
end Go.Proofs
namespace Go.Hx
variable {P:Program} {G:Nat->Option (List Zo)}
variable {f:FuncId}{args args' l l':List Zo}{nx:Nat}{S:Nat->Prop}{H:Zn}{K:Zt->Zn->Prop}
inductive Z3 (S:Nat->Prop)(H:Zn)(nx:Nat):List Zo->List Zo->Prop
 |nil:Z3 S H nx [] []
 |cons {a a':Zo} {l l':List Zo} (h:Fz S H nx a a') (t:Z3 S H nx l l'):Z3 S H nx (a :: l) (a' :: l')
def Z3.len (h:Z3 S H nx l l'):l'.length=l.length:=by
 induction h with
 |nil=>rfl
 |cons _ _ ih=>rw[List.length_cons,List.length_cons,ih]
def Z3.at (h:Z3 S H nx l l'):∀i (h:i<l.length) (h':i<l'.length),Fz S H nx l[i] l'[i]:=by
 induction h with
 |nil=>intro i h;exact absurd h (Va _)
 |cons h _ ih =>
  intro i h1 h2;cases i with
  |zero=>exact h
  |succ i=>exact ih i (by simpa using h1) (by simpa using h2)
theorem Z3.agg {S:Nat->Prop}{H:Zn}{nx:Nat}{l l':List Zo}(h:Z3 S H nx l l'):Fz S H nx (.agg l) (.agg l'):=.agg h.len h.at
theorem Z3.nf {S:Nat->Prop}{H:Zn}{nx:Nat}{l l':List Zo}(h:Z3 S H nx l l'):Fz S H nx (.nf l) (.nf l'):=.nf h.len h.at
theorem Z3.U {S:Nat->Prop}{H:Zn}{nx id g l z:Nat}{e:TypeId}{cells c':List Zo}(hS:S id)(hg:H.get id=some (.J g e cells))(hl:cells.length=l*z)(h:Z3 S H nx cells c'):Fz S H nx (.U id g 0 l z) (.Q l c'):=by
 refine .nA hS hg (by rw[h.len,hl]) fun i hi h2 h'=>?_;have e0:0+i=i:=Nat.zero_add i;simpa only[e0] using h.at i V h'
def ao.UQ (n:Nat)(hG:fu G)(hv:Z3 (fun id=>n<=id) H H.A args args')(h:ae P G f args' (H.cut n) K):ao P G (.Z f [] []) args H K :=
 ao.Z (by simpa using ae.lY n hG hv.len (fun i h1 h2=>hv.at i h1 h2) h)
def ao.wW {B:Zn}(hG:fu G)(ho:Zs B H)(hv:Z3 (fun id=>B.A<=id) H H.A args args')(h:∀H',Zs B H'->ae P G f args' H' K):ao P G (.Z f [] []) args H K :=
 ao.UQ B.A hG hv (h _ ho.cut)
end Go.Hx
namespace Go.Proofs
open Go.Hx Tryz
variable {f:FuncId}{D m n:Int}{r:List Nat}{M S u:Nat}{H:Zn}{d x:Zq}{K:Zt->Zn->Prop}
instance (a:List Int)(n:Int):Decidable (bV a n):=by unfold bV;infer_instance
instance (g c:Int)(r:List Int):Decidable (kI g c r):=by unfold kI;infer_instance
instance (g:Int)(ns:List Zp)(x:Zp):Decidable (gh g ns x):=by unfold gh;infer_instance
instance (ps:List Nat):Decidable (jS ps):=by unfold jS;infer_instance
def PK (d:Zq)(h1:1<=d.C.length/\d.C.length<=8)(h2:d.X >>> d.C.length=0)(h3:∀x∈d.C,1<=x.L/\x.L<=4)(h4:∀v,v<d.C.length->d.X.testBit v=true->(d.C.getD v ⟨0,[],[]⟩).nb=[]/\bV (d.C.getD v ⟨0,[],[]⟩).F d.C.length)
  (h5:(1<=d.nl/\d.nl<=60)/\∀x∈df d (fun _ _=>0),(1<=x.L/\x.L<=4)/\bV x.F (df d (fun _ _=>0)).length) (h6:aB (au (df d fun _ _=>0))<=1024) (h7:jS (az (df d fun _ _=>0))) (h8:∀x∈df d (fun _ _=>0),gh d.nl (df d fun _ _=>0) x)
  (h9:d.Y.length<=4/\∀u∈d.Y,bV u.vars d.C.length/\(u.w.length:Int)=aB (aL (au d.C) u.vars)/\∀x∈u.w,-100<=x/\x<=100):Zv d :=
 ⟨⟨h1,h2,h3,fun v x hx hb=>by
  have:=h4 v (aO hx) hb;rw[UZ,hx]at this;exact this⟩,⟨h5.1,by rw[ig];exact h1,h5.2,h6,h7,h8⟩,⟨h9.1,fun u hu=>⟨(h9.2 u hu).1,(h9.2 u hu).2.1,(h9.2 u hu).2.2⟩⟩⟩
def dU:Zq:=⟨10,[⟨2,[],[[7,3]]⟩,⟨2,[0],[[8,2],[2,8]]⟩,⟨2,[],[]⟩],4,[⟨[0,2],[100,20,0,70]⟩]⟩
def kZ:Zv dU:=PK dU Zk Zk Zk Zk Zk Zk Zk Zk (Zk)
def PL:iJ dU=some [2]:=Zl
def lf:ZB dU [2]:=tE PL
def zg:bD dU 2=3:=Zl
def PM:eN (da dU [2] 2 0) (dU.nl ^ dU.C.length)=.agg [aa 0,aa 1]:=Zl
def PN:eN (da dU [2] 2 1) (dU.nl ^ dU.C.length)=.agg [aa 21,aa 1]:=Zl
def PO:eN (da dU [2] 2 2) (dU.nl ^ dU.C.length)=.agg [aa 28,aa 5]:=Zl
def PP:eN (da dU [2] 2 3) (dU.nl ^ dU.C.length)=.agg [aa 21,aa 1]:=Zl
def Ds (h:S |||M=M):Sub S M:=fun i hi=>by rw[<- h,Vc,hi];rfl
def pA (S:Nat)(h:S |||3=3):Sub S (bD dU 2):=by rw[zg];exact Ds h
def m2:(2:Nat)∈[2]:=List.mem_singleton.2 rfl
def dX:Zq:=bp dU [2] 2 2
def Du:Zv dX:=qQ kZ lf m2 (pA 2 Zk)
def Dv:ZB dX [2]:=qR kZ lf m2 (pA 2 Zk)
def PQ:bD dX 2=3:=Zl
def Dw (S:Nat)(h:S |||3=3):Sub S (bD dX 2):=by rw[PQ];exact Ds h
def PR:eN (da dX [2] 2 2) (dX.nl ^ dX.C.length)=.agg [aa 0,aa 1]:=Zl
def PS:eN (da dX [2] 2 1) (dX.nl ^ dX.C.length)=.agg [aa 77,aa 5]:=Zl
def Dx:dX.C.length<=5:=Zk
def Dy (H:Zn)(K:Zt->Zn->Prop)(hK:K (.ret (dk dU)) H):ae prog G0 32 [] H K:=by
 refine ae.Z ⟨_,func32,rfl,rfl⟩ fun hcl=>?_;have e:dk dU=.agg [aa 10,.Q 3 [aa 2,.Q 0 [],.Q 1 [.Q 2 [aa 7,aa 3]],aa 2,.Q 1 [aa 0],.Q 2 [.Q 2 [aa 8,aa 2],.Q 2 [aa 2,aa 8]],aa 2,.Q 0 [],.Q 0 []],.lit (.int .u64 4),.Q 1 [.Q 2 [aa 0,aa 2],.Q 4 [aa 100,aa 20,aa 0,aa 70]]]:=by rfl
 rw[e]at hK;refine ae.sw (n:=16) (rs:=[.cell 0 38]) func32 ?_;refine W.sq ?_;simp only[go_sem];refine W.sq ?_;simp only[go_sem]
 repeat (refine⟨Zk,?_⟩)
 refine W.vs ?_;simp only[go_sem];refine aj.bH aF hcl (.ext _ _) (Z3.agg ?_) hK
 repeat (first|exact Z3.nil|refine Z3.cons ?_ ?_|exact Fz.lit _|exact Fz.nil|refine Z3.U V (bO H _ _ Zj) rfl ?_)
def tp (hok:Zv d)(h5:d.C.length<=5)(hro:ZB d r)(dec:Int)(S64:S<2 ^ 64)(H:Zn)(K:Zt->Zn->Prop)
  (hN:dec ∉ aG r->K (.ret (.nf [.agg [aa 0,aa 0],aa 2])) H)
  (hA:∀u:Nat,dec=u->u∈r->dE S (bD d u)≠0->K (.ret (.nf [.agg [aa 0,aa 0],aa 2])) H)
  (hK:∀u:Nat,dec=u->u∈r->Sub S (bD d u)->K (.ret (.nf [eN (da d r u S) (d.nl ^ d.C.length),aa 0])) H):
  ae prog G0 20 [dk d,aa dec,aK S] H K:=by
 refine ae.Z ⟨_,func20,rfl,rfl⟩ fun hcl=>?_;have hf:=pJ hok;obtain⟨he,hv⟩:=ti hok hro;have g5:=tj hok h5;obtain⟨c,e,gc,hc,hC⟩:=mr (S:=eG d r) (D:=d.nl ^ d.C.length) g5.1;refine ae.sw (n:=42) (rs:=[.cell 6 58,.tmp 7]) func20 ?_;refine W.sq ?_;simp only[go_sem,ie,cZ];obtain⟨H1,hH1⟩:∃H1,H1=ext H [.J 0 38 [.lit (.int .i64 d.nl),.Q d.C.length (aH d.C),.lit (.int .u64 (d.X:Int)),.Q d.Y.length (bB d.Y)],.J 0 58 [.lit (.int .i64 0),.lit (.int .i64 0)]]:=⟨_,rfl⟩
 have g1:=dp hH1
 have g2:=gE hH1 1 rfl
 have n1:H1.A=H.A+2:=hH1▸rfl
 have o1:Zs H H1:=hH1▸.ext _ _
 rw[<- hH1];clear hH1;have l1:=ag g1;have l2:=ag g2;have zero:∀(H2:Zn),Zs H1 H2->K (.ret (.nf [.agg [aa 0,aa 0],aa 2])) H->aj prog G0 H K (.nf [.agg [aa 0,aa 0],aa 2]) (H2.upd (H.A+1) (.J 0 58 [aa 0,aa 0])):=fun H2 ho hk =>
  aj.bH aF hcl (Zs.upd (id:=H.A+1) (o1.trans ho) (Xf _) _) (zf 0 0 2) hk
 refine W.sq ?_;simp only[go_sem,l1];refine ao.Z (vm d hf dec H1 _ (fun h=>absurd (he.symm.trans h) Zk) (fun _ h=>absurd he h) (fun _ h=>⟨trivial,?_⟩) fun r' u H2 _ hr' hu' hm hH2=>⟨trivial,?_⟩)
 ·simp only[go_sem];refine W.sq ?_;simp only[go_sem,l2];exact zero H1 (.refl _) (hN (hv ▸ h))
 obtain rfl:r=r':=hv.symm.trans hr';have hul:u<d.C.length:=(bM.1 (hro.mem u hm)).1;have o2:Zs H1 H2:=by rw[hH2];exact .ext _ _
 have gs:H2.get (H1.A+1)=some (.J 0 157 (gY d r u)):=by rw[hH2];exact bO H1 _ 1 (Zj)
 have n2:H2.A=H1.A+2:=by rw[hH2];rfl
 have l12:=ag ((o2.nc _ V).trans g1);have l22:=ag ((o2.nc _ V).trans g2);clear hH2;have s2:=fun t x y=>mu (P:=prog) (t:=t) (x:=x) (y:=y) (a:=S) (b:=bD d u);simp only[go_sem];refine W.sq ?_;simp only[go_sem];refine W.sq ?_;simp only[go_sem];refine ao.Z (vk hok (vr hf) hul H2 gs V _ ⟨trivial,?_⟩);unfold aK;by_cases hz:dE S (bD d u)=0;rotate_left
 ·have hzi:¬((dE S (bD d u):Nat):Int)=0:=V
  simp only[go_sem,s2,hzi,l22];exact zero H2 o2 (hA u hu' hm hz)
 have hS:Sub S (bD d u):=fun i hi=>by
  have h3:=congrArg (fun z=>Nat.testBit z i) hz;simp only[VF]at h3;rw[kL S64,hi]at h3;cases hb:(bD d u).testBit i with
  |true=>rfl
  |false=>rw[hb]at h3;cases h3
 rw[hz]at s2;have hK:=hK u hu' hm hS;obtain⟨x,y,gx,hx,hX⟩:=mr (S:=da d r u S) (D:=d.nl ^ d.C.length) g5.1;simp only[go_sem,s2];refine W.sq ?_;simp only[go_sem,l12];refine ao.Z (yB d hf V H2 _ (fun h=>absurd (he.symm.trans h) Zk) (fun _ h=>absurd he h) fun r' hr' _ _=>⟨trivial,?_⟩);obtain rfl:r=r':=Option.some.inj ((te hok hro).symm.trans hr');have w1:=fun (H3:Zn) (ho:Zs H2 H3)=>Di hok h5 hro hm hS H3 ((ho.nc _ V).trans gs) (by have:=ho.A;omega);rw[hc]at w1 ⊢;rw[hx]at w1 hK;simp only[go_sem];obtain⟨H3,hH3⟩:∃H3,H3=ext H2 [.J 0 58 [.lit (.int .i64 c),.lit (.int .i64 e)]]:=⟨_,rfl⟩
 have o3:Zs H2 H3:=hH3▸.ext _ _
 have l3:=ag (show H3.get H2.A=some (.J 0 58 [.lit (.int .i64 c),.lit (.int .i64 e)]) by rw[hH3];exact cM ..);have l23:=ag ((o3.nc _ V).trans ((o2.nc _ V).trans g2));rw[<- hH3];clear hH3;refine W.sq ?_;simp only[go_sem];refine W.vs ?_;simp only[go_sem,l3];refine ao.Z (w1 H3 o3 _ ⟨trivial,?_⟩);simp only[go_sem,l23];exact aj.bH aF hcl (Zs.upd (id:=H.A+1) (o1.trans (o2.trans o3)) (Xf _) _) (zf x y 0) hK
def qX (hok:Zv d)(h5:d.C.length<=5)(hro:ZB d [2])(S64:S<2 ^ 64)(hS:Sub S (bD d 2))(hw:eN (da d [2] 2 S) (d.nl ^ d.C.length)=.agg [aa n,aa m])(H:Zn)(K:Zt->Zn->Prop)(hK:K (.ret (.lit (.bool true))) H):
  ae prog G0 50 [dk d,aK S,aa n,aa m] H K:=by
 refine ae.Z ⟨_,func50,rfl,rfl⟩ fun hcl=>?_;have zS:dE S (bD d 2)=0:=Vq fun i=>by
  rw[kL S64,VF];cases hb:S.testBit i with
  |false=>rfl
  |true=>rw[hS i hb];rfl
 have eq:∀o1 o2,aU prog .eql 58 o1 o2 (.agg [.lit (.int .i64 n),.lit (.int .i64 m)]) (.agg [.lit (.int .i64 n),.lit (.int .i64 m)])=some (.lit (.bool true)):=fun o1 o2=>by rw[yD];simp
 refine ae.sw (n:=26) (rs:=[.tmp 8]) func50 ?_;refine W.sq ?_;simp only[go_sem,ie,cZ];have l1:(ext H [.J 0 38 [.lit (.int .i64 d.nl),.Q d.C.length (aH d.C),.lit (.int .u64 (d.X:Int)),.Q d.Y.length (bB d.Y)]]).na H.A 0=some (38,_):=ag (cM ..);refine W.sq ?_;simp only[go_sem,l1];refine ao.Z (tp hok h5 hro 2 S64 _ _ (fun h=>absurd (by simp[aG]) h) (fun u hu _ h=>?_) fun u hu _ _=>⟨trivial,?_⟩)
 ·obtain rfl:u=2:=V
  exact absurd zS h
 obtain rfl:u=2:=V
 rw[hw];simp only[go_sem];refine W.vs ?_;simp only[go_sem,eq];exact aj.bH aF hcl (.ext _ _) (.lit _) hK
def tq {want:Nat}{no:Int}(hn:-9223372036854775808<=n/\n<=9223372036854775807)(hm:-9223372036854775808<=m/\m<=9223372036854775807)
  (hF:F01.bC n m≠0->want=0/\no=F01.bC n m) (hA:F01.bC n m=0->n<0->want=0/\no=2) (hN:F01.bC n m=0->0<=n->fU dU [2] 2 n m (bD dU 2)=false->want=0/\no=4)
  (hG:F01.bC n m=0->0<=n->fU dU [2] 2 n m (bD dU 2)=true->want=((gJ (bD dU 2)).find? (fU dU [2] 2 n m)).getD 0/\no=0) (H:Zn) (K:Zt->Zn->Prop) (hK:K (.ret (.lit (.bool true))) H):
  ae prog G0 33 [aa n,aa m,aK want,aa no] H K:=by
 refine ae.Z ⟨_,func33,rfl,rfl⟩ fun hcl=>?_;have fin:∀(a:Nat) (e:Int),want=a/\no=e->ae prog G0 23 [dk dU,aa 2,.agg [aa n,aa m]] H (fun r H'=>r=.ret (.nf [aK a,aa e])/\H'=H)->ae prog G0 23 [dk dU,aa 2,.agg [aa n,aa m]] H (fun r H'=>r=.ret (.nf [aK want,aa no])/\H'=H):=fun a e h hc=>by rw[h.1,h.2];exact hc
 have main:ae prog G0 23 [dk dU,aa 2,.agg [aa n,aa m]] H (fun r H'=>r=.ret (.nf [aK want,aa no])/\H'=H) :=
  PJ kZ Zk lf m2 hn hm H _ (fun h=>by rw[(hF h).1,(hF h).2];exact⟨rfl,rfl⟩) (fun h h2=>by rw[(hA h h2).1,(hA h h2).2];exact⟨rfl,rfl⟩) (fun h h2 h3=>by rw[(hN h h2 h3).1,(hN h h2 h3).2];exact⟨rfl,rfl⟩) fun S h h2 h3 h4=>by rw[(hG h h2 h3).1,(hG h h2 h3).2,h4];exact⟨rfl,rfl⟩
 refine ae.sw (n:=27) (rs:=[.tmp 8]) func33 ?_;refine W.sq ?_;simp only[go_sem];refine W.sq ?_;simp only[go_sem];refine ao.Z (Dy H _ ⟨trivial,?_⟩);simp only[go_sem];refine ao.Z (main.mono ?_);rintro rr H' ⟨rfl,rfl⟩;refine⟨trivial,?_⟩;unfold aK;simp only[go_sem];refine W.vs ?_;simp only[go_sem];exact aj.bH aF hcl (.refl _) (.lit _) hK
def qY:dU.C.length<=5:=Zk
def PT:((gJ (bD dU 2)).find? (fU dU [2] 2 1 1)).getD 0=1:=Zl
def PU:((gJ (bD dU 2)).find? (fU dU [2] 2 10 1)).getD 0=1:=Zl
def PV:fU dU [2] 2 1 1 (bD dU 2)=true:=Zl
def PW:fU dU [2] 2 10 1 (bD dU 2)=true:=Zl
def PX:fU dU [2] 2 22 1 (bD dU 2)=false:=Zl
def PY (H:Zn)(K:Zt->Zn->Prop)(hK:K (.ret (.lit (.bool true))) H):ae prog G0 19 [] H K:=by
 refine ae.Z ⟨_,func19,rfl,rfl⟩ fun hcl=>?_;refine ae.sw (n:=90) (rs:=[.tmp 0]) func19 ?_;refine W.sq ?_;simp only[go_sem];refine W.sq ?_;simp only[go_sem];refine ao.Z (Dy H _ ⟨trivial,?_⟩);simp only[go_sem,ie,cZ];obtain⟨H1,hH1⟩:∃H1,H1=ext H [.J 0 38 [.lit (.int .i64 dU.nl),.Q dU.C.length (aH dU.C),.lit (.int .u64 (dU.X:Int)),.Q dU.Y.length (bB dU.Y)]]:=⟨_,rfl⟩
 have g1:=dp hH1
 have n1:H1.A=H.A+1:=hH1▸rfl
 have o1:Zs H H1:=hH1▸.ext _ _
 rw[<- hH1];clear hH1;have l1:=ag g1;refine W.sq ?_;simp only[go_sem,l1];refine ao.Z (Dj kZ lf m2 H1 _ ⟨trivial,?_⟩);rw[zg];simp only[go_sem];refine W.sq ?_;simp only[go_sem,l1];have hs:=fun (K:Zt->Zn->Prop) (h:K (.ret (.nf [dk dX,aa 0])) H1)=>Py kZ Zk lf m2 (pA 2 Zk) H1 K h;refine ao.Z (hs _ ⟨trivial,?_⟩);clear hs;simp only[go_sem,ie,cZ];obtain⟨H2,hH2⟩:∃H2,H2=ext H1 [.J 0 38 [.lit (.int .i64 dX.nl),.Q dX.C.length (aH dX.C),.lit (.int .u64 (dX.X:Int)),.Q dX.Y.length (bB dX.Y)]]:=⟨_,rfl⟩
 have g4:=dp hH2
 have n2:H2.A=H1.A+1:=hH2▸rfl
 have o2:Zs H1 H2:=hH2▸.ext _ _
 rw[<- hH2];clear hH2;have l12:=ag ((o2.nc _ V).trans g1);refine W.sq ?_;simp only[go_sem,l12];refine ao.Z (tp kZ qY lf 0 (S:=0) Zk H2 _ (fun _=>⟨trivial,?_⟩) (fun u h1 h2 _=>absurd h2 (by simp;omega)) fun u h1 h2 _=>absurd h2 (by simp;omega));simp only[go_sem];obtain⟨H3,hH3⟩:∃H3,H3=ext H2 [.J 0 58 [.lit (.int .i64 0),.lit (.int .i64 0)]]:=⟨_,rfl⟩
 have o3:Zs H2 H3:=hH3▸.ext _ _
 have n3:H3.A=H2.A+1:=hH3▸rfl
 rw[<- hH3];clear hH3;have l13:=ag ((o3.nc _ V).trans ((o2.nc _ V).trans g1));refine W.sq ?_;simp only[go_sem,l13];refine ao.Z (tp kZ qY lf 2 (S:=4) Zk H3 _ (fun h=>absurd (by simp[aG]) h) (fun u h1 h2 _=>⟨trivial,?_⟩) fun u h1 h2 h=>by
  obtain rfl:u=2:=V
  have:=h 2 Zk;rw[zg]at this;exact absurd this Zk)
 simp only[go_sem];obtain⟨H4,hH4⟩:∃H4,H4=ext H3 [.J 0 58 [.lit (.int .i64 0),.lit (.int .i64 0)]]:=⟨_,rfl⟩
 have o4:Zs H2 H4:=by rw[hH4];exact o3.trans (.ext _ _)
 rw[<- hH4];clear hH4;have l14:=ag ((o4.nc _ V).trans ((o2.nc _ V).trans g1));have l44:=ag ((o4.nc _ V).trans g4);have oH:Zs H H4:=(o1.trans o2).trans o4;refine W.en (fun E=>E 1=.O H.A 0 0 /\ E 2=.lit (.int .u64 3) /\ E 3=aa 0 /\ E 4=.O H1.A 0 0 /\ E 5=aa 0 /\ E 7=aa 2 /\ E 9=aa 2) (by simp only[go_sem]) fun E ⟨e1,e2,e3,e4,e5,e7,e9⟩=>?_
 refine W.sq ?_;simp only[go_sem,e1,e2,e3,e5,e7,e9,l14];refine ao.Z (qX kZ qY lf Zk (pA 0 Zk) PM H4 _ ⟨trivial,?_⟩);simp only[go_sem,e1,l14];refine ao.Z (qX kZ qY lf Zk (pA 2 Zk) PO H4 _ ⟨trivial,?_⟩);simp only[go_sem,e1,l14];refine ao.Z (qX kZ qY lf Zk (pA 1 Zk) PN H4 _ ⟨trivial,?_⟩);simp only[go_sem,e1,l14];refine ao.Z (qX kZ qY lf Zk (pA 3 Zk) PP H4 _ ⟨trivial,?_⟩);simp only[go_sem,e4,l44];refine ao.Z (qX Du Dx Dv Zk (Dw 2 Zk) PR H4 _ ⟨trivial,?_⟩);simp only[go_sem,e4,l44];refine ao.Z (qX Du Dx Dv Zk (Dw 1 Zk) PS H4 _ ⟨trivial,?_⟩);simp only[go_sem];refine W.env fun E2 hE=>?_;have f10:E2 10=.lit (.bool true):=by rw[hE];simp only[go_sem]
 clear hE e1 e2 e3 e4 e5 e7 e9;have c11:F01.bC 1 1=0:=Zk
 have c101:F01.bC 10 1=0:=Zk
 refine W.vs ?_;simp only[go_sem,f10];refine ao.Z (tq (n:=1) (m:=1) (want:=1) (no:=0) Zk Zk (fun h=>absurd Zk h) (fun _ h=>absurd h Zk) (fun _ _ h=>absurd (PV.symm.trans h) Zk) (fun _ _ _=>⟨PT.symm,rfl⟩) H4 _ ⟨trivial,?_⟩);simp only[go_sem];refine ao.Z (tq (n:=10) (m:=1) (want:=1) (no:=0) Zk Zk (fun h=>absurd Zk h) (fun _ h=>absurd h Zk) (fun _ _ h=>absurd (PW.symm.trans h) Zk) (fun _ _ _=>⟨PU.symm,rfl⟩) H4 _ ⟨trivial,?_⟩);simp only[go_sem];refine ao.Z (tq (n:=22) (m:=1) (want:=0) (no:=4) Zk Zk (fun h=>absurd Zk h) (fun _ h=>absurd h Zk) (fun _ _ _=>⟨rfl,rfl⟩) (fun _ _ h=>absurd (PX.symm.trans h) Zk) H4 _ ⟨trivial,?_⟩);simp only[go_sem];refine ao.Z (tq (n:=-1) (m:=1) (want:=0) (no:=2) Zk Zk (fun h=>absurd Zk h) (fun _ _=>⟨rfl,rfl⟩) (fun _ h=>absurd h Zk) (fun _ h=>absurd h Zk) H4 _ ⟨trivial,?_⟩);simp only[go_sem];refine ao.Z (tq (n:=2) (m:=4) (want:=0) (no:=5) Zk Zk (fun _=>⟨rfl,Zk⟩) (fun h=>absurd h Zk) (fun h=>absurd h Zk) (fun h=>absurd h Zk) H4 _ ⟨trivial,?_⟩);simp only[go_sem];exact aj.bH aF hcl oH (.lit _) hK
def PZ (d:Zq)(a:Int)(h:ae prog G0 f [dk d,aa a] H K):ae prog G0 f [mY d,aa a] H K :=
 ae.Ge (args':=[dk d,aa a]) aF rfl (fun i hi _=>match i,hi with|0,_=>Eg d|1,_=>.lit _) h
def Dz (d:Zq)(a:Int)(S:Nat)(h:ae prog G0 f [dk d,aa a,aK S] H K):ae prog G0 f [mY d,aa a,aK S] H K :=
 ae.Ge (args':=[dk d,aa a,aK S]) aF rfl (fun i hi _=>match i,hi with|0,_=>Eg d|1,_=>.lit _|2,_=>.lit _) h
def P0 (h:DrI true x):∃r,ZB x r:=by
 obtain⟨r,hr⟩:=Vx.1 (MC h);exact⟨r,tE hr⟩
def P8 (h:ZB d r)(hu:u∈aE d):u∈r:=by
 have h2:=(bM.1 hu).2;rw[<- h.all]at h2;exact lF.1 h2
def P9 (S M:Nat):Sub (S &&& M) M:=fun i hi=>by
 rw[VB,Vr]at hi;exact hi.2
def Qa (hM:M<2 ^ 64):S &&& M<2 ^ 64:=WI Nat.and_le_right hM
def Qb (hD:1<=D):eN 0 D=.agg [aa 0,aa 1]:=by
 obtain⟨a,b,g,h,hF⟩:=mr (S:=0) hD;have g1:=hF.g1;have b1:=hF.b1;have a0:a=0:=by
  rcases YP.1 hF.n with h|h
  ·exact h
  ·omega
 have hc:=hF.cop;rw[a0,Int.gcd_zero_left]at hc;rw[h,a0,show b=1 by omega];rfl
def Z1.nn {S a b g:Int}(h:Z1 S D a b g)(hS:0<=S):0<=a:=by
 rcases Y4 a 0 with h1|h1
 ·have:=Int.mul_neg_of_neg_of_pos h1 (show 0<g by have:=h.g1;omega);rw[h.n]at this;omega
 ·exact h1
def vv (hok:Zv x)(h5:x.C.length<=5)(hro:ZB x r)(hu:u∈r)(S64:S<2 ^ 64)(hS:Sub S (bD x u))(H:Zn)(K:Zt->Zn->Prop)(hK:K (.ret (.nf [eN (da x r u S) (x.nl ^ x.C.length),aa 0])) H):
  ae prog G0 20 [mY x,aa u,aK S] H K:=by
 have zS:dE S (bD x u)=0:=Vq fun i=>by
  rw[kL S64,VF];cases hb:S.testBit i with
  |false=>rfl
  |true=>rw[hS i hb];rfl
 refine Dz x u S (tp hok h5 hro u S64 H K (fun h=>absurd (mL.2 hu) h) (fun u' h1 _ h=>?_) fun u' h1 _ _=>?_)
 ·obtain rfl:u=u':=V
  exact absurd zS h
 ·obtain rfl:u=u':=V
  exact hK
def Qc (d:D20)(hd:d.Ok)(kk:Int)(hkk:U8 kk)(n m:Int)(hn:0<=n/\n<18446744073709551616)(hm:0<=m/\m<18446744073709551616)(H:Zn)(K:Zt->Zn->Prop)(hK:∀H',H.A<=H'.A->K (.ret (.lit (.bool true))) H'):
  ae prog G0 6 [.agg d.cells,.lit (.int .u8 kk),.lit (.int .u64 n),.lit (.int .u64 m)] H K:=by
 have hd':D20.Ok ⟨d.g,d.ps,d.ord,d.X,true,d.us⟩:=⟨hd.g,hd.ps,hd.pl,hd.ol,hd.o8,hd.X,hd.us,hd.ul⟩
 obtain⟨N,rfl⟩:=U2 hn.1;obtain⟨M,rfl⟩:=U2 hm.1;have N64:N<2 ^ 64:=V
 have M64:M<2 ^ 64:=V
 refine ae.sw (n:=183) (rs:=[.tmp 8]) func6 ?_;refine W.sq ?_;simp only[go_sem,D20.cells];refine W.sq ?_;simp only[go_sem];refine ao.Z (PY _ _ ⟨trivial,?_⟩);simp only[go_sem];refine W.sq ?_;simp only[go_sem];obtain⟨H1,hH1⟩:∃H1,H1=ext H [.J 0 28 [.lit (.int .u8 d.g),.Q d.ps.length (fZ d.ps),.Q d.ord.length (cH d.ord),.lit (.int .u8 d.X),.lit (.bool true),.Q d.us.length (mV d.us)]]:=⟨_,rfl⟩
 have g4:=dp hH1
 have n1:H1.A=H.A+1:=hH1▸rfl
 rw[<- hH1];clear hH1;have l4:=ag g4;refine W.sq ?_;simp only[go_sem,l4];refine ao.Z (Q7 ⟨d.g,d.ps,d.ord,d.X,true,d.us⟩ hd' _ _ fun x hx=>⟨trivial,?_⟩);have hok:=hx.ok;have hf:=pJ hok;have n8:=hok.n.n1;have h5:=hx.n5;have gp:=tj hok h5;obtain⟨r,hro⟩:=P0 hx;simp only[go_sem,Rv,zJ];obtain⟨H2,hH2⟩:∃H2,H2=ext H1 [.J 0 38 [.lit (.int .i64 x.nl),.Q x.C.length (bj x.C),.lit (.int .u64 (x.X:Int)),.Q x.Y.length (bB x.Y)]]:=⟨_,rfl⟩
 have g9:=dp hH2
 have n2:H2.A=H1.A+1:=hH2▸rfl
 rw[<- hH2];clear hH2;have l9:=ag g9;refine W.sq ?_;simp only[go_sem,l9];refine ao.Z (Rx x hf.X V _ _ ⟨trivial,?_⟩);have dl:(aG (aE x)).length=(aE x).length:=by simp[aG]
 have dll:(aE x).length<=x.C.length:=pD;simp only[go_sem,dl];by_cases h0:((aE x).length:Int)=0
 ·have hnil:aE x=[]:=U5 V;have hrn:∀u,u ∉ r:=fun u hu=>by
   have:=hro.mem u hu;rw[hnil]at this;cases this
  refine W.sq ?_;simp only[go_sem,h0,l9];refine ao.Z (Dz x 0 0 (tp hok h5 hro 0 (S:=0) Zk H2 _ (fun _=>⟨trivial,?_⟩) (fun u h1 h2 _=>absurd h2 (hrn u)) fun u h1 h2 _=>absurd h2 (hrn u)));simp only[go_sem];exact aj.mk (by rw[aV];omega) (hK _ (by rw[aV];omega))
 obtain⟨kn,rfl⟩:=U2 hkk.1;obtain⟨i,hi⟩:∃i,i=kn % (aE x).length:=⟨_,rfl⟩
 have hil:i<(aE x).length:=by rw[hi];exact XB _ (V)
 obtain⟨u,hu⟩:=aw hil;have hum:=P8 hro (an hu);have hul:u<x.C.length:=(bM.1 (an hu)).1;have hui:(aG (aE x))[i]?=some (u:Int):=by unfold aG;rw[List.getElem?_map,hu];rfl
 have hune:=bf hui;have hk8:=hkk.2;have wk:=UU (kn:Int) V;have tm:((kn:Int)).tmod ((aE x).length:Int)=(i:Int):=by rw[VK V,hi];rfl
 have wi:=UU (i:Int) V;have hli:(i:Int)<(aE x).length:=V
 refine W.sq ?_;simp only[go_sem,h0];refine W.sq ?_;simp only[go_sem,h0,wk,tm,hli,hui,hune];refine W.sq ?_;simp only[go_sem,l9];refine ao.Z (PZ x u (Dj hok hro hum H2 _ ⟨trivial,?_⟩));simp only[go_sem];obtain⟨O,hO⟩:∃O,O=bD x u:=⟨_,rfl⟩
 have O256:=Dr hok u;have odec:O &&& x.X=0:=Vq fun j=>by
  rw[VB,VF];cases hb:O.testBit j with
  |false=>rfl
  |true=>rw[hO]at hb;rw[(qO.1 hb).2.1];rfl
 have oshr:O >>> x.C.length=0:=by
  rw[W1];exact WK (by rw[hO];exact od fun i h=>h)
 rw[<- hO]at O256 ⊢;have hD:=hf.X;have O64:O<2 ^ 64:=V
 have s1:=fun t x y=>j5 (P:=prog) (t:=t) (x:=x) (y:=y) O64 hD;have s2:=fun t p y=>iY (P:=prog) (t:=t) (x:=p) (y:=y) (k':=.i64) (s:=x.C.length) O64;rw[odec]at s1;rw[oshr]at s2;refine W.en (fun E=>E 2=.lit (.int .u64 (N:Int)) /\ E 3=.lit (.int .u64 (M:Int)) /\ E 9=.O H1.A 0 0 /\ E 13=aa u /\ E 14=.lit (.int .u64 (O:Int)) /\ E 15=aa 0) (by simp only[go_sem]) fun E ⟨e2,e3,e9,e13,e14,e15⟩=>?_
 refine W.sq ?_;simp only[go_sem,e9,e14,e15,l9,s1,s2];obtain⟨y,hy⟩:=aw hul;have y1:=pE hy;have yne:=DP hy;have hyp:=ma hok hy;have hpl:y.F.length<=8:=by have:=hyp.len;omega
 have hpu:bA x u=bt y.F:=by unfold bA;rw[hy]
 refine W.sq ?_;simp only[go_sem];have u0l:(u:Int)<x.C.length:=V
 refine W.sq ?_;simp only[go_sem,e9,e13,l9,y1,yne,u0l];refine W.en (fun E2=>E2 2=.lit (.int .u64 (N:Int)) /\ E2 3=.lit (.int .u64 (M:Int)) /\ E2 9=.O H1.A 0 0 /\ E2 13=aa u /\ E2 14=.lit (.int .u64 (O:Int)) /\ E2 16=.lit (.int .u64 0) /\ E2 80=af y.F /\ E2 81=aa y.F.length /\ E2 82=aa 0) (by simp only[go_sem,e2,e3,e9,e13,e14]) fun E2 ⟨f2,f3,f9,f13,f14,f16,f80,f81,f82⟩=>?_
 refine W.aS 2471044375292302033099751424 (by rfl) (fun ρ Hx=>Hx=H2/\∃j:Nat,ρ 82=aa j/\j<=y.F.length/\ρ 16=aK (bt (y.F.take j))) (fun ρ _=>y.F.length-(iv (ρ 82)).toNat) ?_ ?_
 ·exact⟨rfl,0,f82,V,f16⟩
 rintro ρ Hx ⟨hHx,j,h82,hj,h16⟩;rw[hHx];refine W.en (fun E3=>E3 2=.lit (.int .u64 (N:Int)) /\ E3 3=.lit (.int .u64 (M:Int)) /\ E3 9=.O H1.A 0 0 /\ E3 13=aa u /\ E3 14=.lit (.int .u64 (O:Int)) /\ E3 16=aK (bt (y.F.take j)) /\ E3 80=af y.F /\ E3 81=aa y.F.length /\ E3 82=aa j) (by simp only[go_sem,f2,f3,f9,f13,f14,h16,f80,f81,h82]) fun E3 ⟨k2,k3,k9,k13,k14,k16,k80,k81,k82⟩=>?_
 by_cases hb:(j:Int)<y.F.length
 ·obtain⟨q,hq⟩:=aw (l:=y.F) (i:=j) V;obtain⟨q0,q1⟩:=hyp.2 q (an hq);obtain⟨v,rfl⟩:=U2 q0;have hne:=bf hq;have w1:=UU ((j:Int)+1) V;have b1:bt (y.F.take j)<2 ^ 64:=jR fun p h=>by have:=hyp.2 p (Vk h);omega
  have s3:=fun t x y=>kM (P:=prog) (t:=t) (x:=x) (y:=y) (k':=.i64) (s:=v) V;have s4:=fun t x y'=>iX (P:=prog) (t:=t) (x:=x) (y:=y') (b:=2 ^ v) b1 (V3 Zk V);unfold aK at k16;refine W.vs ?_;simp only[go_sem,k16,k80,k81,k82,hb,hq,hne,w1,s3,s4];exact⟨⟨j+1,rfl,V,by rw[bd hq,tw];rfl⟩,by rw[h82];simp only[aa,bh];omega⟩
 rw[UY V]at k16;obtain⟨Kn,hKn⟩:∃Kn,Kn=bt y.F:=⟨_,rfl⟩
 rw[<- hKn]at k16 hpu;have K64:Kn<2 ^ 64:=by rw[hKn];exact jR fun p h=>by have:=hyp.2 p h;omega
 unfold aK at k16;refine W.vs ?_;simp only[go_sem,k81,k82,hb];have sub:∀S,Sub (S &&& O) (bD x u):=fun S=>by rw[hO];exact P9 S _
 have a64:∀S,S &&& O<2 ^ 64:=fun S=>Qa O64;have dist:(N |||Kn) &&& O=(N &&& O) |||(Kn &&& O):=Vq fun i=>by
  rw[VB,Vc,Vc,VB,VB,Bool.and_or_distrib_right]
 have knp:Sub (Kn &&& O) (bA x u):=fun i hi=>by
  rw[VB,Vr]at hi;rw[hpu];exact hi.1
 have wc:da x r u ((N |||Kn) &&& O)=da x r u (N &&& O):=by
  rw[dist];unfold da;rw[C3 hok hro hum knp]
 have wn:da x r u (Kn &&& O)=0:=by
  have:=C3 hok hro hum (S:=0) knp;rw[Nat.zero_or]at this;unfold da;rw[this];exact C5 hok r u
 have wm:da x r u (N &&& O)<=da x r u ((N |||M) &&& O):=C4 hok hro hum (sub _) fun i hi=>by
  rw[VB,Vr]at hi;rw[VB,Vc,hi.1,hi.2];rfl
 have wnn:=O9 hok hro hum (sub N);have bnd:∀S,Sub S (bD x u)->(da x r u S).natAbs<=4611686018427387903:=fun S hS=>by
  have t1:=qU hok hro;have t2:=qU (qQ hok hro hum hS) (qR hok hro hum hS);have gd:(bp x r u S).nl ^ (bp x r u S).C.length=x.nl ^ x.C.length:=by rw[iA];rfl
  rw[gd]at t2;have hw:da x r u S=eG (bp x r u S) r-eG x r:=rfl;omega
 have ba:=bnd _ (sub N);have bb:=bnd _ (sub (N |||M));have va:=fun H K h=>vv hok h5 hro hum (a64 N) (sub N) H K h;have vb:=fun H K h=>vv hok h5 hro hum (a64 (N |||M)) (sub (N |||M)) H K h;have vc:=fun H K h=>vv hok h5 hro hum (a64 (N |||Kn)) (sub (N |||Kn)) H K h;have vn:=fun H K h=>vv hok h5 hro hum (a64 Kn) (sub Kn) H K h;rw[wc]at vc;rw[wn,Qb gp.1]at vn;obtain⟨pa,qa,ga,ha,hA⟩:=mr (S:=da x r u (N &&& O)) (D:=x.nl ^ x.C.length) gp.1;obtain⟨pb,qb,gb,hb',hB⟩:=mr (S:=da x r u ((N |||M) &&& O)) (D:=x.nl ^ x.C.length) gp.1;rw[ha]at va vc;rw[hb']at vb;have z1:=fun t p q=>j5 (P:=prog) (t:=t) (x:=p) (y:=q) N64 O64;have z2:=fun t p q=>iX (P:=prog) (t:=t) (x:=p) (y:=q) N64 M64;have z3:=fun t p q=>j5 (P:=prog) (t:=t) (x:=p) (y:=q) (V8 N64 M64) O64;have z4:=fun t p q=>iX (P:=prog) (t:=t) (x:=p) (y:=q) N64 K64;have z5:=fun t p q=>j5 (P:=prog) (t:=t) (x:=p) (y:=q) (V8 N64 K64) O64;have z6:=fun t p q=>j5 (P:=prog) (t:=t) (x:=p) (y:=q) K64 O64;refine W.sq ?_;simp only[go_sem,k2,k9,k13,k14,l9,z1];refine ao.Z (va H2 _ ⟨trivial,?_⟩);simp only[go_sem];obtain⟨H3,hH3⟩:∃H3,H3=ext H2 [.J 0 58 [.lit (.int .i64 pa),.lit (.int .i64 qa)]]:=⟨_,rfl⟩
 have o3:Zs H2 H3:=hH3▸.ext _ _
 have n3:H3.A=H2.A+1:=hH3▸rfl
 have g19:=dp hH3
 rw[<- hH3];clear hH3;have l93:=ag ((o3.nc _ V).trans g9);refine W.sq ?_;simp only[go_sem,k2,k3,k9,k13,k14,l93,z2,z3];refine ao.Z (vb H3 _ ⟨trivial,?_⟩);simp only[go_sem];obtain⟨H4,hH4⟩:∃H4,H4=ext H3 [.J 0 58 [.lit (.int .i64 pb),.lit (.int .i64 qb)]]:=⟨_,rfl⟩
 have o4:Zs H3 H4:=hH4▸.ext _ _
 have n4:H4.A=H3.A+1:=hH4▸rfl
 have g21:=dp hH4
 rw[<- hH4];clear hH4;have l94:=ag ((o4.nc _ V).trans ((o3.nc _ V).trans g9));refine W.sq ?_;simp only[go_sem,k2,k9,k13,k14,k16,l94,z4,z5];refine ao.Z (vc H4 _ ⟨trivial,?_⟩);simp only[go_sem];obtain⟨H5,hH5⟩:∃H5,H5=ext H4 [.J 0 58 [.lit (.int .i64 pa),.lit (.int .i64 qa)]]:=⟨_,rfl⟩
 have o5:Zs H4 H5:=hH5▸.ext _ _
 have n5:H5.A=H4.A+1:=hH5▸rfl
 have g23:=dp hH5
 rw[<- hH5];clear hH5;have l95:=ag ((o5.nc _ V).trans ((o4.nc _ V).trans ((o3.nc _ V).trans g9)));refine W.sq ?_;simp only[go_sem,k9,k13,k14,k16,l95,z6];refine ao.Z (vn H5 _ ⟨trivial,?_⟩);simp only[go_sem];obtain⟨H6,hH6⟩:∃H6,H6=ext H5 [.J 0 58 [.lit (.int .i64 0),.lit (.int .i64 1)]]:=⟨_,rfl⟩
 have o6:Zs H5 H6:=hH6▸.ext _ _
 have n6:H6.A=H5.A+1:=hH6▸rfl
 have l25:=ag (show H6.get H5.A=some (.J 0 58 [.lit (.int .i64 0),.lit (.int .i64 1)]) by rw[hH6];exact cM ..);rw[<- hH6];clear hH6;have l19:=ag ((o6.nc _ V).trans ((o5.nc _ V).trans ((o4.nc _ V).trans g19)));have l21:=ag ((o6.nc _ V).trans ((o5.nc _ V).trans g21));have l23:=ag ((o6.nc _ V).trans g23);have l96:=ag ((o6.nc _ V).trans ((o5.nc _ V).trans ((o4.nc _ V).trans ((o3.nc _ V).trans g9))));refine W.en (fun E4=>E4 9=.O H1.A 0 0 /\ E4 14=.lit (.int .u64 (O:Int)) /\ E4 16=.lit (.int .u64 (Kn:Int)) /\ E4 19=.O H2.A 0 0 /\ E4 20=aa 0 /\ E4 21=.O H3.A 0 0 /\ E4 22=aa 0 /\ E4 23=.O H4.A 0 0 /\ E4 24=aa 0 /\ E4 25=.O H5.A 0 0 /\ E4 26=aa 0) (by simp only[go_sem,k9,k14,k16]) fun E4 ⟨m9,m14,m16,m19,m20,m21,m22,m23,m24,m25,m26⟩=>?_
 clear va vb vc vn z1 z2 z3 z4 z5 z6;have pos:=hA.nn wnn;have ca:=hA.check ba V;have cb:=hB.check bb V;obtain⟨bd1,bd2⟩:=hA.bound;obtain⟨bd3,bd4⟩:=hB.bound;have qa1:=hA.b1;have qb1:=hB.b1;have cmp:=hA.cmp gp.1 hB;have cle:R01.cu (da x r u (N &&& O)) (da x r u ((N |||M) &&& O))<=0:=by unfold R01.cu;split;omega;split<;>omega
 have eqA:∀o1 o2,aU prog .eql 58 o1 o2 (.agg [.lit (.int .i64 pa),.lit (.int .i64 qa)]) (.agg [.lit (.int .i64 pa),.lit (.int .i64 qa)])=some (.lit (.bool true)):=fun o1 o2=>by rw[yD];simp
 have eqN:∀o1 o2,aU prog .eql 58 o1 o2 (.agg [.lit (.int .i64 0),.lit (.int .i64 1)]) (.agg [.lit (.int .i64 0),.lit (.int .i64 1)])=some (.lit (.bool true)):=fun o1 o2=>by rw[yD];simp
 have y5:=fun t p q=>mu (P:=prog) (t:=t) (x:=p) (y:=q) (a:=Kn) (b:=O);have y6:=fun t p q=>mu (P:=prog) (t:=t) (x:=p) (y:=q) (a:=dE Kn O) (b:=x.X);have zz:dE (dE Kn O) x.X=0:=Vq fun i=>by
  rw[kL (xb _ _),kL K64,VF];cases h1:Kn.testBit i with
  |false=>rfl
  |true =>
   cases h2:x.X.testBit i with
   |true=>simp
   |false =>
    have:=O8 hok hul (by rw[hpu];exact h1) h2;rw[hO,this];rfl
 rw[zz]at y6;refine W.sq ?_;simp only[go_sem,m19,m20,m22,m24,m26,l19];refine ao.Z (R01.FZ pa qa (by unfold R01.iE;omega) (by unfold R01.iE;omega) H6 _ ⟨trivial,?_⟩);rw[Vl ca];simp only[go_sem,m21,l21];refine ao.Z (R01.FZ pb qb (by unfold R01.iE;omega) (by unfold R01.iE;omega) H6 _ ⟨trivial,?_⟩);rw[Vl cb];simp only[go_sem];refine W.vs ?_;simp only[go_sem,m19,m21,l19,l21,pos];refine ao.Z (R01.Uc pa qa pb qb (by unfold R01.iE;omega) (by unfold R01.iE;omega) (by unfold R01.iE;omega) (by unfold R01.iE;omega) qa1 qb1 H6 _ ⟨trivial,?_⟩);rw[cmp];generalize R01.cu (da x r u (N &&& O)) (da x r u ((N |||M) &&& O))=cc at cle;simp only[go_sem,m9,m14,m16,m19,m23,m25,l19,l23,l25,l96,cle,eqA,eqN,y5,y6];exact aj.mk V (hK _ V)
end Go.Proofs
namespace Go.Proofs.YtebhdkihcdmmjaaGreat
open Go.ChangeShapes Go.WideShapes Go.ChangeAt Go.RowKit Go.Hx
def DA {n:Int}(h:(Lit.int .u64 n).wf=true):0<=n/\n<18446744073709551616:=by
 have:0<=n/\n<=18446744073709551615:=by simpa[Lit.wf,IntKind.min,IntKind.max,IntKind.signed,IntKind.bits] using h
 omega
end Go.Proofs.YtebhdkihcdmmjaaGreat
