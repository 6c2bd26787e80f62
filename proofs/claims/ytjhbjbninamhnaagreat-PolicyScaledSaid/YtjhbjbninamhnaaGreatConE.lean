/- Own work: contracts. -/
import Derived.Test.YtjhbjbninamhnaaGreatConD
import Derived.Test.YtjhbjbninamhnaaGreatRows
import Derived.Test.YtjhbjbninamhnaaGreatLibC
import Derived.ProofKit
import Derived.Test.YtjhbjbninamhnaaGreatConB
import Derived.Test.YtjhbjbninamhnaaGreatConA
import Derived.Test.YtjhbjbninamhnaaGreatConC
import Derived.WalkKit
import Derived.OwnWalk
import Derived.Lib.Walk
import Derived.Lib.SliceRun
import Derived.Lib.AppendZerosOnto
set_option linter.all false
set_option maxHeartbeats 8000000
set_option maxRecDepth 100000
namespace Go.Proofs
open Go.Hx
variable {rem:Bool}{g:Int}{os ps r:List Nat}{l:List XC}{ms ns:List Xl}{U i known nx v:Nat}{x:XC}{H:Xn}
structure TopoR (ps:List Nat)(r:List Nat):Prop where
 len:r.length=ps.length
 nd:r.Nodup
 ng:∀v∈r,v<ps.length
 rk:∀(i v:Nat),r[i]?=some v->∀u,(ps.getD v 0).testBit u=true->∃j,j<i/\r[j]?=some u
def N2 (hp:∀p∈ps,p<2 ^ 64):∀(k:Nat) (out:List Nat) (done:Nat) (r:List Nat),gR ps k out done=some r->(∀i,done.testBit i=true↔i∈out)->out.Nodup->(∀v∈out,v<ps.length)->(∀(i v:Nat),out[i]?=some v->∀u,(ps.getD v 0).testBit u=true->∃j,j<i/\out[j]?=some u) ->
  r.length=out.length+k/\r.Nodup/\(∀v∈r,v<ps.length)/\(∀(i v:Nat),r[i]?=some v->∀u,(ps.getD v 0).testBit u=true->∃j,j<i/\r[j]?=some u):=by
 intro k
 induction k with
 |zero =>
  intro out done r h h1 h2 h3 h4;unfold gR at h;cases h;exact⟨rfl,h2,h3,h4⟩
 |succ k ih =>
  intro out done r h h1 h2 h3 h4;unfold gR at h;cases hn:jW ps done with
  |none=>rw[hn]at h;cases h
  |some v =>
   rw[hn]at h;obtain⟨a,b,c⟩:=uP hp hn;have hvo:v ∉ out:=fun hm=>by rw[(h1 v).2 hm]at b;cases b
   obtain⟨e1,e2,e3,e4⟩:=ih (out++[v]) (done |||2 ^ v) r h (fun i=>by
    rw[gi,Tk,List.mem_singleton,Tx,h1,decide_eq_true_eq];exact or_congr Iff.rfl eq_comm) (UP.2 ⟨h2,W5,fun x hx y hy=>by obtain rfl:=List.mem_singleton.1 hy;rintro rfl;exact hvo hx⟩) (fun x hx=>by
    rcases Tk.1 hx with hx|hx
    ·exact h3 x hx
    ·obtain rfl:=List.mem_singleton.1 hx;exact a) (fun i x hx u hu=>by
    have hl:=aI hx;rw[List.length_append,TR]at hl;rcases Tg i out.length with hi|hi
    ·rw[Ta hi]at hx;obtain⟨j,j1,j2⟩:=h4 i x hx u hu;exact⟨j,j1,by rw[Ta O];exact j2⟩
    ·obtain rfl:i=out.length:=O;simp only[Wn,Option.some.injEq]at hx;subst hx;obtain⟨j,hj⟩:=SY.1 ((h1 u).1 (c u hu));exact⟨j,aI hj,by rw[Ta (aI hj)];exact hj⟩)
   exact⟨by rw[e1,List.length_append,TR];omega,e2,e3,e4⟩
def Cd (hp:∀p∈ps,p<2 ^ 64)(h:fw ps=some r):TopoR ps r:=by
 obtain⟨e1,e2,e3,e4⟩:=N2 hp ps.length [] 0 r h (fun i=>W5) W5 W5 W5;exact⟨by simpa using e1,e2,e3,e4⟩
def Ce:∀(n:Nat) (l:List Nat),l.Nodup->(∀v∈l,v<n)->l.length<=n:=by
 intro n
 induction n with
 |zero=>intro l _ h;cases l with
  |nil=>simp
  |cons a l=>exact absurd (h a W5) (Tb _)
 |succ n ih =>
  intro l hd h;have h1:=ih (l.erase n) (hd.erase n) fun v hv=>by
   have h2:=(hd.mem_erase_iff).1 hv;have:=h v h2.2;omega
  have h3:=List.length_erase (a:=n) (l:=l);split at h3<;>omega
def lV (r:List Nat)(i v:Nat):Prop:=∃j,j<i/\r[j]?=some v
def lV.up {k:Nat}(h:lV r i v)(hk:i<=k):lV r k v:=h.imp fun j hj=>⟨O,hj.2⟩
structure XP (ns:List Xl)(r:List Nat)(rem:Bool)(i known U:Nat)(os:List Nat)(ms:List Xl):Prop where
 L:aj ms=aj ns
 nl:∀v,U.testBit v=false->ms[v]?=ns[v]?
 dec:∀v x,ms[v]?=some x->U.testBit v=true->x.nn=[]/\∃s j,x.F=eH s 8/\j<i/\r[j]?=some v/\∀u,s.testBit u=true->lV r j u
 decsb:∀v,U.testBit v=true->lV r i v
 knownb:∀v,known.testBit v=true->lV r i v
 os3:os.length<=3
 osm:∀v,v∈os↔U.testBit v=true
 osp:rem=true->os.Pairwise fun u v=>∀x y,ms[u]?=some x->ms[v]?=some y->Sub (bV x.F |||2 ^ u) (bV y.F)
 osk:rem=true->∀u∈os,∀x,ms[u]?=some x->Sub (bV x.F |||2 ^ u) known
def XP.len (h:XP ns r rem i known U os ms):ms.length=ns.length:=by
 have:=congrArg List.length h.L;simpa[aj] using this
def XP.start (ns:List Xl)(r:List Nat)(rem:Bool):XP ns r rem 0 0 0 [] ns :=
 ⟨rfl,fun _ _=>rfl,fun v x _ h=>by simp at h,fun v h=>by simp at h,fun v h=>by simp at h,W5,fun v=>W5,fun _=>.nil,fun _ u hu=>by cases hu⟩
def XP.skip (h:XP ns r rem i known U os ms):XP ns r rem (i+1) known U os ms :=
 ⟨h.L,h.nl,fun v x hx hb=>by
  obtain⟨a,s,j,b,c,d⟩:=h.dec v x hx hb;exact⟨a,s,j,b,O,d⟩,fun v hb=>(h.decsb v hb).up O,fun v hb=>(h.knownb v hb).up O,h.os3,h.osm,h.osp,h.osk⟩
def Cf {s:Nat}(h:s<2 ^ 8):bV (eH s 8)=s:=by
 have h0:∀p∈eH s 8,0<=p:=fun p hp=>by obtain⟨v,rfl,_⟩:=qG.1 hp;omega
 refine Uj fun i=>?_;rw[kP h0];cases hb:s.testBit i with
 |true=>exact Ty (qG.2 ⟨i,rfl,mC h hb,hb⟩)
 |false =>
  refine T4 fun hm=>?_;obtain⟨v,e,_,hv⟩:=qG.1 hm;obtain rfl:i=v:=O
  rw[hb]at hv;cases hv
def Cg {n:Nat}(hr:∀v∈r,v<n)(h:lV r i v):v<n:=h.elim fun _ hj=>hr v (an hj.2)
def uW {n s:Nat}(hr:∀v∈r,v<n)(h:∀v,s.testBit v=true->lV r i v):s<2 ^ n:=yj fun v hv=>Cg hr (h v hv)
def XP.step (h:XP ns r rem i known U os ms)(hr:TopoR (aR ns) r)(h8:ns.length<=8)(ho:os.length<3)(hv:r[i]?=some v){x:Xl}(hx:ns[v]?=some x){s:Nat}(hs:Sub s (bV x.F)):
  U.testBit v=false/\v<ns.length/\(if rem then s |||known else s)<2 ^ ns.length /\
  XP ns r rem (i+1) (known |||(if rem then s |||known else s) |||2 ^ v) (U |||2 ^ v) (os++[v]) (ms.set v ⟨x.L,eH (if rem then s |||known else s) 8,[]⟩):=by
 obtain⟨s',hs'⟩:∃s',s'=(if rem then s |||known else s):=⟨_,rfl⟩
 rw[<- hs'];have hsl:(aR ns).length=ns.length:=by simp[aR]
 have hrng:=hr.ng;rw[hsl]at hrng;have hvn:=hrng v (an hv);have hml:=h.len;have inj:∀j,r[j]?=some v->j=i:=fun j hj=>(TY (aI hj) hr.nd).1 (by rw[hj,hv]);have hdv:U.testBit v=false:=by
  cases hb:U.testBit v with
  |false=>rfl
  |true =>
   obtain⟨j,j1,j2⟩:=h.decsb v hb;have:=inj j j2;omega
 have sb:∀u,s.testBit u=true->lV r i u:=fun u hu=>hr.rk i v hv u (by rw[bq (lu hx)];exact hs u hu);have sb':∀u,s'.testBit u=true->lV r i u:=fun u hu=>by
  rw[hs']at hu;cases rem with
  |false=>exact sb u hu
  |true =>
   rw[SU rfl,Tz,Tx]at hu;exact hu.elim (sb u) (h.knownb u)
 have hlt:=uW hrng sb';have hlt8:s'<2 ^ 8:=SZ hlt (Ti W6 h8);have selfv:(ms.set v ⟨x.L,eH s' 8,[]⟩)[v]?=some ⟨x.L,eH s' 8,[]⟩:=Te O;have othv:∀u,u≠v->(ms.set v ⟨x.L,eH s' 8,[]⟩)[u]?=ms[u]?:=fun u hu=>To (fun e=>hu e.symm);have osv:v ∉ os:=fun hm=>by rw[(h.osm v).1 hm]at hdv;cases hdv
 refine⟨hdv,hvn,hlt,⟨?_,fun u hu=>?_,fun u y hy hu=>?_,fun u hu=>?_,fun u hu=>?_,by simp;omega,fun u=>?_,fun hrem=>?_,fun hrem u hu y hy=>?_⟩⟩
 ·rw[<- h.L];unfold aj;rw[Vo];apply Ts;intro k;rw[Ug];split
  ·rename_i e;subst e;have:=h.L;have h1:(aj ms)[v]?=(aj ns)[v]?:=(by rw[this]);rw[SU (by rw[S8];omega)];rw[cC hx]at h1;exact h1.symm
  ·rfl
 ·rw[gi,Bool.or_eq_false_iff,VQ]at hu;rw[othv u (fun e=>hu.2 e.symm)];exact h.nl u hu.1
 ·by_cases e:u=v
  ·subst e;rw[selfv]at hy;cases hy;exact⟨rfl,s',i,rfl,O,hv,sb'⟩
  ·rw[othv u e]at hy;rw[gi,Tx,decide_eq_true_eq]at hu;obtain⟨a,s2,j,b,c,d⟩:=h.dec u y hy (hu.resolve_right fun e'=>e e'.symm);exact⟨a,s2,j,b,O,d⟩
 ·rw[gi,Tx,decide_eq_true_eq]at hu;rcases hu with hu|rfl
  ·exact(h.decsb u hu).up (O)
  ·exact⟨i,O,hv⟩
 ·rw[gi,Tz,Tx,Tx,decide_eq_true_eq]at hu;rcases hu with (hu|hu)|rfl
  ·exact(h.knownb u hu).up (O)
  ·exact(sb' u hu).up (O)
  ·exact⟨i,O,hv⟩
 ·rw[gi,Tk,List.mem_singleton,h.osm,Tx,decide_eq_true_eq];exact or_congr Iff.rfl eq_comm
 ·refine UL.2 ⟨(h.osp hrem).imp_of_mem fun {a b} ha hb hab p q hp hq=>?_,W5,fun a ha b hb p q hp hq=>?_⟩
  ·rw[othv a (fun e=>osv (e ▸ ha))]at hp;rw[othv b (fun e=>osv (e ▸ hb))]at hq;exact hab p q hp hq
  ·obtain rfl:=List.mem_singleton.1 hb;rw[othv a (fun e=>osv (e ▸ ha))]at hp;rw[selfv]at hq;cases hq;rw[show bV (⟨x.L,eH s' 8,[]⟩:Xl).F=s' from Cf hlt8,hs',SU hrem];exact(h.osk hrem a ha p hp).trans (Sub.right _ _)
 ·rcases Tk.1 hu with hu|hu
  ·rw[othv u (fun e=>osv (e ▸ hu))]at hy;exact((h.osk hrem u hu y hy).trans (Sub.left _ _)).trans (Sub.left _ _)
  ·obtain rfl:=List.mem_singleton.1 hu;rw[selfv]at hy;cases hy;rw[show bV (⟨x.L,eH s' 8,[]⟩:Xl).F=s' from Cf hlt8];exact Sub.or ((Sub.right known s').trans (Sub.left _ _)) (Sub.right _ _)
structure DrI (rem:Bool)(d:Xa):Prop where
 ok:Xf d
 n5:d.C.length<=5
 nn:∀v x,d.C[v]?=some x->d.U.testBit v=false->x.nn≠[]
 os:∃os:List Nat,os.length<=3/\(∀v,v∈os↔d.U.testBit v=true)/\(rem=true->os.Pairwise fun u v=>∀x y,d.C[u]?=some x->d.C[v]?=some y->Sub (bV x.F |||2 ^ u) (bV y.F))
def Ci (h:Xq g ns):∀x∈ns,x.nn≠[]:=fun x hx he=>by
 have h1:=(h.nn x hx).1;have h2:=fu (l:=aV ns x) fun c hc=>(qX (fun q hq=>by have:=(h.node x hx).2.2 q hq;omega) (fun y hy=>(h.node y hy).1) c hc).1;rw[he]at h1;simp at h1;omega
def XP.fin (h:XP ns r rem i known U os ms)(hn:Xq g ns)(hr:TopoR (aR ns) r)(h5:ns.length<=5){us:List Xm}(hul:us.length<=4)(hus:∀u∈us,Xy ns u):
  DrI rem ⟨g,ms,U,us⟩:=by
 have hsl:(aR ns).length=ns.length:=by simp[aR]
 have hrng:=hr.ng;rw[hsl]at hrng;have hml:=h.len;have hdl:U<2 ^ ns.length:=uW hrng h.decsb;have getN:∀(v:Nat) (x:Xl),ms[v]?=some x->∃y,ns[v]?=some y/\y.L=x.L:=fun v x hx=>by
  obtain⟨y,hy⟩:=aq (l:=ns) (i:=v) (by have:=aI hx;omega);refine⟨y,hy,?_⟩;have h1:(aj ms)[v]?=(aj ns)[v]?:=by rw[h.L]
  rw[cC hx,cC hy]at h1;exact(Option.some.inj h1).symm
 have hcard:∀x∈ms,1<=x.L/\x.L<=4:=fun x hx=>by
  obtain⟨v,hv⟩:=SY.1 hx;obtain⟨y,hy,e⟩:=getN v x hv;rw[<- e];exact(hn.node y (an hy)).1
 have hpl:∀(v:Nat) (x:Xl),ms[v]?=some x->cw x.F ms.length:=fun v x hx=>by
  cases hb:U.testBit v with
  |false =>
   rw[h.nl v hb]at hx;have:=(hn.node x (an hx)).2;rw[hml];exact this
  |true =>
   obtain⟨_,s,j,e,_,_,hs⟩:=h.dec v x hx hb;rw[e];refine⟨OB _ _,fun q hq=>?_⟩;obtain⟨u,rfl,_,hu⟩:=qG.1 hq;have:=Cg hrng (hs u hu);rw[hml];omega
 have hR:XA ⟨g,ms,U,us⟩:=⟨by show 1<=ms.length/\ms.length<=8;rw[hml];exact hn.n1,by show U >>> ms.length=0;rw[hml,VN];exact Ux hdl,hcard,fun v x hx hb=>⟨(h.dec v x hx hb).1,hpl v x hx⟩⟩
 have hperm:XK ns.length (bf r):=⟨by rw[show (bf r).length=r.length by simp[bf],hr.len,hsl],by
  unfold bf;exact List.Pairwise.map _ (R:=(·≠·)) (fun a b h e=>h O) hr.nd,fun q hq=>by
  obtain⟨v,hv,rfl⟩:=S4.1 hq;have:=hrng v hv;omega⟩
 have natg:∀(j v:Nat),(bf r)[j]?=some (v:Int)↔r[j]?=some v:=fun j v=>by
  unfold bf;rw[List.getElem?_map,SO];exact⟨fun ⟨a,h1,h2⟩=>by rw[h1];congr 1;omega,fun h1=>⟨v,h1,rfl⟩⟩
 have hacy:kR (aR ms):=by
  refine Cq (P:=bf r) (by rw[hml];exact hperm) (fun v hv=>?_) fun j v x hj hx q hq=>?_
  ·refine TS fun hno=>?_;rw[hml]at hv;have hsub:(v :: r).length<=ns.length:=by
    have hnd:(v :: r).Nodup:=U3.2 ⟨fun hm=>hno (S4.2 ⟨v,hm,rfl⟩),hr.nd⟩;exact Ce ns.length _ hnd fun u hu=>by
     rcases List.mem_cons.1 hu with rfl|hu
     ·exact hv
     ·exact hrng u hu
   rw[List.length_cons,hr.len,hsl]at hsub;omega
  ·have q0:=((hpl v x hx).2 q hq).1;refine⟨q0,?_⟩;have hj':=(natg j v).1 hj;obtain⟨u,rfl⟩:=S5 q0;cases hb:U.testBit v with
   |false =>
    rw[h.nl v hb]at hx;obtain⟨k,k1,k2⟩:=hr.rk j v hj' u (by
     rw[bq (lu hx),kP fun p hp=>((hn.node x (an hx)).2.2 p hp).1];exact Ty hq)
    exact⟨k,k1,(natg k u).2 k2⟩
   |true =>
    obtain⟨_,s,j',e,_,hj2,hs⟩:=h.dec v x hx hb;rw[e]at hq;obtain⟨u',eu,_,hu⟩:=qG.1 hq;obtain rfl:u=u':=O;obtain rfl:j'=j:=(TY (aI hj2) hr.nd).1 (by rw[hj2,hj']);obtain⟨k,k1,k2⟩:=hs u hu;exact⟨k,k1,(natg k u).2 k2⟩
 have hpc:∀x,aV ms x=aV ns x:=fun x=>by unfold aV;rw[h.L]
 refine⟨⟨hR,⟨hn.g1,by rw[iJ];exact hR.n1,fun y hy=>?_,?_,by rw[za];exact hacy,fun y hy=>?_⟩,hul,fun u hu=>?_⟩,by show ms.length<=5;omega,fun v x hx hb=>?_,os,h.os3,h.osm,h.osp⟩
 ·obtain⟨v,x,hx,rfl⟩:=sN hy;rw[(jx ..).1,(jx ..).2,iJ];exact⟨hcard x (an hx),hpl v x hx⟩
 ·rw[kh];show aA (aj ms)<=1024;rw[h.L];exact hn.size
 ·obtain⟨v,x,hx,rfl⟩:=sN hy;have hcx:=hcard x (an hx);have hx':ms[v]?=some x:=hx;unfold gI;rw[sK];by_cases hb:U.testBit v=true
  ·rw[zb hx hb];have x1:=(hR.dec v x hx hb).1;have hsm:=(mf (x:=x) (ns:=ms) hR.n1.2 (hpl v x hx) hcard).prod;refine⟨?_,fun q hq=>?_⟩
   ·show ((x.nn++ee g ms (fun _ _=>0) _ x).length:Int)=aA (aV ms x);rw[x1];simp only[ee,List.nil_append,S8,TU,bM];omega
   ·rw[show ({ x with nn:=x.nn++ee g ms (fun _ _=>0) (bd U v) x }:Xl).nn=x.nn++ee g ms (fun _ _=>0) (bd U v) x from rfl,x1,List.nil_append]at hq;unfold ee at hq;obtain⟨i,hi,rfl⟩:=S4.1 hq;have:=hn.g1;exact Df (by show 0<=g;omega) ⟨Int.le_refl 0,by show (0:Int)<x.L;omega⟩
  ·rw[qU hb];have hb':U.testBit v=false:=(by simpa using hb);rw[h.nl v hb']at hx';have:=hn.nn x (an hx');unfold gI at this;show (x.nn.length:Int)=aA (aV ms x)/\_;rw[hpc];exact this
 ·have:=hus u hu;exact⟨by show cw u.vars ms.length;rw[hml];exact this.vars,by show _=aA (aB (aj ms) u.vars);rw[h.L];exact this.size,this.w⟩
 ·have hx':ms[v]?=some x:=hx;rw[h.nl v hb]at hx';exact Ci hn x (an hx')
structure XS where
 g:Int
 ps:List XD
 ord:List Int
 U:Int
 rem:Bool
 us:List XC
structure XS.Ok (d:XS):Prop where
 g:U8 d.g
 ps:∀x∈d.ps,x.Ok
 pl:(d.ps.length:Int)<2 ^ 63
 ol:(d.ord.length:Int)<2 ^ 63
 o8:∀x∈d.ord,U8 x
 U:U8 d.U
 us:∀u∈d.us,u.Ok
 ul:(d.us.length:Int)<2 ^ 63
def jC (us:List XC):List W9:=(us.map XC.cells).flatten
def XS.cells (d:XS):List W9:=[.lit (.int .u8 d.g),.M d.ps.length (dB d.ps),.M d.ord.length (bP d.ord),.lit (.int .u8 d.U),.lit (.bool d.rem),.M d.us.length (jC d.us)]
def N3 (h:l[i]?=some x):((jC l).drop (i*2)).take 2=[.lit (.int .u8 x.vars),.M x.w.length (dV x.w)]:=nS (f:=XC.cells) (z:=2) (fun _=>rfl) l i x h
def N4 (h:l[i]?=some x):(jC l)[i*2]?=some (.lit (.int .u8 x.vars)):=jU (f:=XC.cells) (z:=2) (fun _=>rfl) l i 0 x h (O)
def N5 (h:l[i]?=some x):¬jC l=[]:=fun e=>by
 have:=N4 h;rw[e]at this;simp at this
def N6 {l:List Xl}{x:Xl}(p:List Int)(h:l[i]?=some x):((aW l).set (i*3+1) (ah p)).set (i*3+2) (.lit (.slice none 0 0))=aW (l.set i ⟨x.L,p,[]⟩):=by
 have hl:=aI h;have h1:=uY (f:=Xl.fX) (z:=3) (fun _=>rfl) l i ⟨x.L,p,[]⟩ hl;have h2:=nS (f:=Xl.fX) (z:=3) (fun _=>rfl) l i x h;unfold aW;rw[h1];have h3:(l.map Xl.fX).flatten=((l.map Xl.fX).flatten).take (i*3)++(x.fX++((l.map Xl.fX).flatten).drop (i*3+3)):=by
  rw[<- h2,<- UX,TA,TA]
 have hlen:(((l.map Xl.fX).flatten).take (i*3)).length=i*3:=by
  rw[Td,kK (f:=Xl.fX) (z:=3) (fun _=>rfl)];omega
 conv=>lhs;rw[h3]
 rw[Ue _ _ O,Ue _ _ O,hlen,show i*3+1-i*3=1 by omega,show i*3+2-i*3=2 by omega];simp[Xl.fX,gT]
def N7 {l:List Xl}(h:∀x∈l,x.nn≠[]):aW l=aE l:=by
 unfold aW aE;congr 1;exact Tf fun x hx=>by unfold Xl.fX Xl.cells;rw[yo (h x hx)]
def yx {N:Nat}{e:TypeId}(h:H.get N=some (.J 0 e (aW ms))):Fz (fun _=>True) H nx (.agg [aa g,.Q N 0 0 ms.length 3]) (dk g ms):=by
 refine .agg rfl fun i hi _=>?_
 match i,hi with
 |0,_=>exact .lit _
 |1,_ =>
  refine .ny trivial h (kL ms) fun j hj h2 h'=>?_;have e0:(0:Nat)+j=j:=Nat.zero_add j;have h3:j<(aW ms).length:=O
  have:=yp (S:=fun _=>True) (H:=H) (nx:=nx) ms j h3 h';simpa only[e0] using this
def yy {S:Nat->Prop}(l:List Xm):∀c∈aZ l,Fz S H nx c c:=by
 intro c hc;unfold aZ at hc;obtain⟨r,hr,hc⟩:=UW.1 hc;obtain⟨x,_,rfl⟩:=S4.1 hr;unfold Xm.cells at hc;simp only[List.mem_cons,List.not_mem_nil,or_false]at hc;rcases hc with rfl|rfl<;>exact .dC _
def N8 (d:XS)(hd:d.Ok)(H:Xn)(K:Xd->Xn->Prop)(hK:∀x,DrI d.rem x->x.V=(d.us.map fun u=>eh u x.C).take 4->K (.ret (qH x)) H):ae Tryz.prog G0 10 [.agg d.cells] H K:=by
 refine ae.Z ⟨_,Tryz.func10,rfl,rfl⟩ fun hcl=>?_;refine ae.st (n:=128) (rs:=[.cell 2 38]) Tryz.func10 ?_;simp only[go_sem,XS.cells];obtain⟨H0,hH0⟩:∃H0,H0=ext H [.J 0 28 [.lit (.int .u8 d.g),.M d.ps.length (dB d.ps),.M d.ord.length (bP d.ord),.lit (.int .u8 d.U),.lit (.bool d.rem),.M d.us.length (jC d.us)],.J 0 38 [.lit (.int .i64 0),.lit (.slice none 0 0),.lit (.int .u64 0),.lit (.slice none 0 0)]]:=⟨_,rfl⟩
 have g00:=dv hH0
 have g01:=gE hH0 1 rfl
 have n0:H0.A=H.A+2:=hH0▸rfl
 have o0:Xb H H0:=hH0▸.ext _ _
 rw[<- hH0];clear hH0;refine az.Z (Oy d.g d.ps d.ord hd.g hd.ps hd.pl hd.ol hd.o8 _ _ fun g ns N H' ov hN1 hN2 hget hnet h5 hp3=>⟨trivial,?_⟩);simp only[go_sem];obtain⟨B,hB⟩:∃B,B=H'.A:=⟨_,rfl⟩
 rw[<- hB];obtain⟨H1,hH1⟩:∃H1,H1=ext H' [.J 0 103 [.lit (.int .i64 g),.Q N 0 0 ns.length 3],.J 0 38 [.lit (.int .i64 g),.Q N 0 0 ns.length 3,.lit (.int .u64 0),.lit (.slice none 0 0)]]:=⟨_,rfl⟩
 have n1:H1.A=B+2:=by rw[hH1,hB];rfl
 have ovn:=ov.A;have g10:H1.get H.A=some (.J 0 28 [.lit (.int .u8 d.g),.M d.ps.length (dB d.ps),.M d.ord.length (bP d.ord),.lit (.int .u8 d.U),.lit (.bool d.rem),.M d.us.length (jC d.us)]):=by rw[hH1,cP _ _ _ O,ov.nl _ O];exact g00
 have g11:H1.get (H.A+1)=some (.J 0 38 [.lit (.int .i64 0),.lit (.slice none 0 0),.lit (.int .u64 0),.lit (.slice none 0 0)]):=by rw[hH1,cP _ _ _ O,ov.nl _ O];exact g01
 have gN:H1.get N=some (.J 0 73 (aW ns)):=by rw[hH1,cP _ _ _ O,N7 (Ci hnet)];exact hget
 have gB:H1.get B=some (.J 0 103 [.lit (.int .i64 g),.Q N 0 0 ns.length 3]):=by rw[hH1,hB];exact cV ..
 have gB1:H1.get (B+1)=some (.J 0 38 [.lit (.int .i64 g),.Q N 0 0 ns.length 3,.lit (.int .u64 ((0:Nat):Int)),.lit (.slice none 0 0)]):=by rw[hH1,hB];exact bL H' _ 1 (W5)
 have o1:Xb H H1:=by rw[hH1];exact(o0.trans ov).trans (.ext _ _)
 rw[<- hH1];clear hH1 hget;have hsl:(aR ns).length=ns.length:=by simp[aR]
 have hpr:∀x∈ns,(x.F.length:Int)<2 ^ 39/\∀q∈x.F,0<=q/\q<(ns.length:Int):=fun x hx=>⟨by have:=hp3 x hx;omega,(hnet.node x hx).2.2⟩
 have hs8:∀p∈aR ns,p<2 ^ (aR ns).length:=by rw[hsl];exact qY fun x hx=>(hpr x hx).2
 obtain⟨r,hr⟩:=Tp.1 ((uQ hs8 O).2 hnet.nH);have hTR:=Cd (fun p h=>SZ (hs8 p h) (Ti W6 O)) hr;have hrl:=hTR.len;rw[hsl]at hrl;refine az.Z ((ae.frame (H:=H1) (args:=[.agg [aa g,.Q N 0 0 ns.length 3]]) (args':=[dk g ns]) (v':=ah (bf r)) aH rfl (fun i hi _=>?_) (OG g ns O hpr r hr dp _ fun v H' _ ho=>⟨_,rfl,ho.pG⟩)).mono fun rr H2 hrr=>?_)
 ·match i,hi with
  |0,_=>exact yx gN
 obtain⟨rfl,rfl⟩:=hrr;refine⟨trivial,?_⟩;simp only[go_sem];refine W.tx (Q':=fun e s2=>e=.exit 0/\∃(i known U:Nat) (os:List Nat) (ms:List Xl),s2.ρ 1=.R H.A 0 0/\s2.ρ 2=.R (H.A+1) 0 0/\s2.ρ 3=.R B 0 0/\s2.ρ 4=.R (B+1) 0 0/\XP ns r d.rem i known U os ms/\H2.A<=s2.H.A/\(∀id,id<H2.A->id≠N->id≠B+1->s2.H.get id=H2.get id)/\s2.H.get N=some (.J 0 73 (aW ms)) /\
  s2.H.get (B+1)=some (.J 0 38 [.lit (.int .i64 g),.Q N 0 0 ns.length 3,.lit (.int .u64 (U:Int)),.lit (.slice none 0 0)])) ?_ ?_
 rotate_left
 ·rintro e s2 ⟨rfl,i,known,U,os,ms,e1,e2,e3,e4,L,hnx,hold,hN,hB1⟩;refine⟨s2,.refl _,W8,trivial,?_⟩;obtain⟨ρ2,Hy⟩:=s2;dsimp only at e1 e2 e3 e4 hnx hold hN hB1;simp only[go_sem];have hml:=L.len;have hcd:∀x∈ms,1<=x.L/\x.L<=4:=fun x hx=>by
   obtain⟨v,hv⟩:=SY.1 hx;obtain⟨y,hy⟩:=aq (l:=ns) (i:=v) (by have:=aI hv;omega);have h1:(aj ms)[v]?=(aj ns)[v]?:=(by rw[L.L]);rw[cC hv,cC hy]at h1;rw[Option.some.inj h1];exact(hnet.node y (an hy)).1
  have hn1:=hnet.n1;obtain⟨ut,hut⟩:∃ut:List Xm,ut=d.us.map fun u=>eh u ms:=⟨_,rfl⟩
  refine W.aP 170141163178059628080016879768632823808 (by rfl) (fun ρ Hu=>∃(i:Nat) (uv:W9),ρ 12=aa i/\i<=d.us.length/\i<=4/\Hy.A<=Hu.A/\(∀id,id<Hy.A->id≠B+1->Hu.get id=Hy.get id)/\Hu.get (B+1)=some (.J 0 38 [.lit (.int .i64 g),.Q N 0 0 ns.length 3,.lit (.int .u64 (U:Int)),uv])/\fT Hy.A Hu 82 2 uv i (aZ (ut.take i))) (fun ρ H=>d.us.length-(iv (ρ 12)).toNat) ?_ ?_
  ·simp only[go_sem];exact⟨0,_,rfl,O,O,hB1,.nil⟩
  rintro ρ Hu ⟨i,uv,h12,hi,hi4,hnu,holdu,hBu,hO⟩;refine W.en (fun E=>E 1=.R H.A 0 0 /\ E 2=.R (H.A+1) 0 0 /\ E 3=.R B 0 0 /\ E 4=.R (B+1) 0 0 /\ E 12=aa i) (by simp only[go_sem,e1,e2,e3,e4,h12]) fun E ⟨f1,f2,f3,f4,f12⟩=>?_
  refine W.vs ?_;have uh:Hu.get H.A=_:=((holdu H.A O O).trans (hold H.A O O O)).trans g10;have l0:=af uh;have lB:=af (((holdu B O O).trans (hold B O O O)).trans gB);have lB1:=af hBu;have hNu:Hu.get N=some (.J 0 73 (aW ms)):=(holdu N O O).trans hN;by_cases hb:(i:Int)<d.us.length/\(i:Int)<4
  ·obtain⟨u,hu⟩:=aq (l:=d.us) (i:=i) O;have huo:=hd.us u (an hu);have cne:=N5 hu;have c0:=N3 hu;have cl:i*2+2<=(jC d.us).length:=(by rw[show (jC d.us).length=d.us.length*2 from kK (f:=XC.cells) (fun _=>rfl) _];omega);have w1:=SN ((i:Int)+1) O;have hpc:∀Hq,Hq.get N=some (.J 0 73 (aW ms))->N<Hq.A->bp Tryz.prog G0 (.Z 45 [] []) [.agg [.lit (.int .u8 u.vars),.M u.w.length (dV u.w)],.agg [.lit (.int .i64 g),.Q N 0 0 ns.length 3]] Hq (.agg [ah (eh u ms).vars,ah (eh u ms).w]) [N]:=fun Hq hq hqn=>by
    refine bp.mk (fun i hi=>by obtain rfl:=List.mem_singleton.1 hi;exact hqn) fun H2 h1 h2=>?_;refine ae.frame (H:=H2) (args:=[.agg u.cells,.agg [aa g,.Q N 0 0 ns.length 3]]) (args':=[.agg u.cells,dk g ms]) (v':=.agg [ah (eh u ms).vars,ah (eh u ms).w]) aH rfl (fun i hi _=>?_) (OH u huo g ms O hcd dp _ fun v1 v2 H' _ o1 o2=>⟨_,rfl,.agg rfl fun i hi _=>?_⟩)
    ·match i,hi with
     |0,_ =>
      refine .agg rfl fun i hi _=>?_
      match i,hi with
      |0,_=>exact .lit _
      |1,_ =>
       refine .M rfl fun j hj _=>?_;simp only[dV,S9];exact .lit _
     |1,_=>rw[<- hml];exact yx ((h1 N W5).trans hq)
    ·match i,hi with
     |0,_=>exact o1.pG
     |1,_=>exact o2.pG
   obtain⟨uv',Hj,hA,hO',hnj,hpj⟩:=Ej (P:=Tryz.prog) (xs:=[ah (eh u ms).vars,ah (eh u ms).w]) Tryz.underlying36 Tryz.Bz Tryz.BB rfl rfl (by rw[Tryz.BA];omega) hO hnu rfl;simp only[ah]at hA;have nb:∀id,id<Hy.A->Hj.get id=Hu.get id:=fun id h=>hpj id O (hO.ne h);have lB1j:=af ((nb _ O).trans hBu);have hvc:=hO'.cells;have hvo:=hO'.one;simp only[go_sem,f1,f12,l0,hb.1,hb.2];refine W.dr 10 [0,1,0,4,0,28,60,0,252,508] Tryz.mixed ?_;simp only[go_sem,f1,f3,f4,f12,l0,lB,lB1,cne,c0,cl,hb.1];refine⟨_,[N],hpc _ hNu O,?_⟩;simp only[go_sem,f4,f12,hA,lB1j,hvc,hvo,w1];have hug:ut[i]?=some (eh u ms):=(by rw[hut,List.getElem?_map,hu];rfl);have e2':aZ (ut.take (i+1))=aZ (ut.take i)++[ah (eh u ms).vars,ah (eh u ms).w]:=by
    rw[aU hug];unfold aZ;rw[TT,List.flatten_append];simp[Xm.cells]
   refine⟨⟨fun _ h=>O,fun _ h=>O⟩,by rw[aF];omega,⟨i+1,uv',rfl,O,O,by rw[aF];omega,fun id h1 h2=>by rw[ag,SQ h2,nb _ h1];exact holdu id h1 h2,by rw[ag,SU rfl],?_⟩,by rw[h12];simp only[aa,bj];omega⟩;rw[e2'];exact hO'.nb (by rw[aF];omega) fun id gg h1 _ _=>by rw[ag,SQ O]
  ·have fin:∀b,ar Tryz.prog G0 H K (.agg [.lit (.int .i64 g),.Q N 0 0 ns.length 3,.lit (.int .u64 (U:Int)),uv]) (Hu.upd (H.A+1) b):=fun b=>by
    have o1n:=o1.A;have ov2:Xb H (Hu.upd (H.A+1) b):=⟨by rw[aF];omega,fun id h=>by
     rw[ag,SQ O,holdu id O O,hold id O O O];exact o1.nl id h⟩
    have htl:(ut.take i).length=i:=(by rw[Td,hut,S8];omega);refine ar.bE (v':=qH ⟨g,ms,U,ut.take i⟩) aH hcl ov2 (.agg rfl fun j hj _=>?_) (hK _ (L.fin hnet hTR h5 O fun u hu=>?_) (by
     show ut.take i=_;rw[<- hut];rcases Tg i 4 with h4|h4
     ·have hul:ut.length=d.us.length:=(by rw[hut,S8]);have hid:d.us.length<=i:=O;rw[SR O,SR O]
     ·rw[show i=4 by omega]))
    ·match j,hj with
     |0,_=>exact .lit _
     |1,_ =>
      show Fz _ _ _ (.Q N 0 0 ns.length 3) (.M ms.length (aW ms));rw[<- hml];refine .ny O (show (Hu.upd (H.A+1) b).get N=some (.J 0 73 (aW ms)) by rw[ag,SQ O];exact hNu) (mD ms) fun j hj h2 h'=>?_;have e0:(0:Nat)+j=j:=Nat.zero_add j;have h3:j<(aW ms).length:=O;have:=yq (S:=fun id=>H.A<=id) (H:=Hu.upd (H.A+1) b) (nx:=H.A) ms _ (TC h3);simpa only[e0] using this
     |2,_=>exact .lit _
     |3,_ =>
      show Fz _ _ _ uv (.M (ut.take i).length (aZ (ut.take i)));rcases hO with ⟨h,hz,hc⟩|⟨id,gg,k1,k2,h,k4,k5⟩
      ·rw[h,hc,htl,hz];exact .nil
      ·rw[h,htl];refine .ny O (show (Hu.upd (H.A+1) b).get id=some (.J gg 82 (aZ (ut.take i))) by rw[ag,SQ O];exact k5) k4 fun j hj h2 h'=>?_;have e0:(0:Nat)+j=j:=Nat.zero_add j;have h3:j<(aZ (ut.take i)).length:=O;have:=yy (S:=fun id=>H.A<=id) (H:=Hu.upd (H.A+1) b) (nx:=H.A) (ut.take i) _ (TC h3);simpa only[e0] using this
    ·have hu2:=Tj hu;rw[hut]at hu2;obtain⟨p,hp,rfl⟩:=S4.1 hu2;have:=OC p ms fun x hx=>(hcd x hx).1;exact⟨by have:=this.vars;rw[hml]at this;exact this,by have:=this.size;rw[L.L]at this;exact this,this.w⟩
   have lR:Hu.X (H.A+1) 0=_:=af (((holdu (H.A+1) O O).trans (hold (H.A+1) O O O)).trans g11);have uvc:=hO.cells;have uvo:=hO.one;by_cases hb1:(i:Int)<d.us.length
   ·have hb4:¬(i:Int)<4:=fun h=>hb ⟨hb1,h⟩;simp only[go_sem,f1,f2,f4,f12,l0,lB1,lR,hb1,hb4,uvo];exact fin _
   ·simp only[go_sem,f1,f2,f4,f12,l0,lB1,lR,hb1,uvo];exact fin _
 refine W.aP 20282409603651670423947242901440 (by rfl) (fun ρ Hx=>∃(i known U:Nat) (os:List Nat) (ms:List Xl),ρ 8=aa i/\i<=r.length/\ρ 6=bJ known/\ρ 7=aa os.length/\XP ns r d.rem i known U os ms/\H2.A<=Hx.A/\(∀id,id<H2.A->id≠N->id≠B+1->Hx.get id=H2.get id)/\Hx.get N=some (.J 0 73 (aW ms)) /\
  Hx.get (B+1)=some (.J 0 38 [.lit (.int .i64 g),.Q N 0 0 ns.length 3,.lit (.int .u64 (U:Int)),.lit (.slice none 0 0)])) (fun ρ H=>r.length-(iv (ρ 8)).toNat) ?_ ?_
 ·simp only[go_sem];exact⟨0,0,0,[],ns,rfl,O,rfl,rfl,.start ns r d.rem,gN,gB1⟩
 rintro ρ Hx ⟨i,known,U,os,ms,h8,hi,h6,h7,L,hnx,hold,hN,hB1⟩;refine W.en (fun E=>E 1=.R H.A 0 0 /\ E 2=.R (H.A+1) 0 0 /\ E 3=.R B 0 0 /\ E 4=.R (B+1) 0 0 /\ E 5=ah (bf r) /\ E 6=bJ known /\ E 7=aa os.length /\ E 8=aa i) (by simp only[go_sem,h6,h7,h8]) fun E ⟨e1,e2,e3,e4,e5,e6,e7,e8⟩=>?_
 refine W.vs ?_;have l0:=af ((hold H.A O O O).trans g10);have lB:=af ((hold B O O O).trans gB);have lB1:=af hB1;have lN:=af hN;have hrng:=hTR.ng;rw[hsl]at hrng;have hml:=L.len;have natl:(bf r).length=r.length:=by simp[bf]
 have nat5:∀ {s:Nat},s<2 ^ ns.length->s<2 ^ 64:=fun h=>SZ h (Ti W6 O);have hk64:known<2 ^ 64:=nat5 (uW hrng L.knownb);have hd64:U<2 ^ 64:=nat5 (uW hrng L.decsb);by_cases hb:(i:Int)<r.length;rotate_left
 ·simp only[go_sem,e1,e2,e3,e4,e5,e8,natl,hb];exact⟨i,known,U,os,ms,L,hnx,hold,hN,hB1⟩
 by_cases h3:os.length<3;rotate_left
 ·have h3':¬(os.length:Int)<3:=O
  simp only[go_sem,e1,e2,e3,e4,e5,e7,e8,natl,hb,h3'];exact⟨i,known,U,os,ms,L,hnx,hold,hN,hB1⟩
 have h3':(os.length:Int)<3:=O
 obtain⟨v,hv⟩:=aq (l:=r) (i:=i) O;have hvi:(bf r)[i]?=some (v:Int):=by unfold bf;rw[List.getElem?_map,hv];rfl
 have hvne:=aM hvi;have hvn:=hrng v (an hv);have w1:=SN ((i:Int)+1) O;obtain⟨r1,hr1⟩:∃r1,d.U.fdiv (2 ^ (min ((i:Int)).toNat IntKind.u8.bits))=r1:=⟨_,rfl⟩
 obtain⟨r2,hr2⟩:∃r2,IntKind.u8.wrap (((BitVec.ofInt IntKind.u8.bits r1 &&& BitVec.ofInt IntKind.u8.bits 1).toNat:Nat):Int)=r2:=⟨_,rfl⟩
 have s1:∀t o1 o2,bn Tryz.prog .shr t o1 o2 (.lit (.int .u8 d.U)) (.lit (.int .i64 (i:Int)))=some (.lit (.int .u8 r1)):=fun t o1 o2=>by rw[tv O,hr1]
 have s2:∀t o1 o2,bn Tryz.prog .and t o1 o2 (.lit (.int .u8 r1)) (.lit (.int .u8 1))=some (.lit (.int .u8 r2)):=fun t o1 o2=>by rw[tw,hr2]
 by_cases hrz:r2=0
 ·simp only[go_sem,e1,e2,e3,e4,e5,e6,e7,e8,natl,hb,h3',l0,hvi,hvne,s1,s2,hrz,w1];exact⟨hnx,⟨i+1,known,U,os,ms,rfl,O,rfl,rfl,L.skip,hnx,hold,hN,hB1⟩,by rw[h8];simp only[aa,bj];omega⟩
 obtain⟨x,hx⟩:=aq (l:=ns) (i:=v) hvn;have hdv:=(L.step hTR O h3 hv hx (s:=0) (fun i hi=>by simp at hi)).1;have hmx:ms[v]?=some x:=by rw[L.nl v hdv];exact hx
 have hxp:=hpr x (an hx);have hmp:∀y∈ms,(y.F.length:Int)<2 ^ 39/\∀q∈y.F,0<=q/\q<64:=fun y hy=>by
  obtain⟨u,hu⟩:=SY.1 hy;cases hbu:U.testBit u with
  |false =>
   rw[L.nl u hbu]at hu;obtain⟨q1,q2⟩:=hpr y (an hu);exact⟨q1,fun q hq=>by have:=q2 q hq;omega⟩
  |true =>
   obtain⟨_,s,j,e,_⟩:=L.dec u y hu hbu;rw[e];refine⟨by have:=Cs s 8;omega,fun q hq=>?_⟩;obtain⟨z,rfl,hz,_⟩:=qG.1 hq;omega
 have hset:((aR ms).map bJ)[v]?=some (bJ (bV x.F)):=by rw[List.getElem?_map,lu hmx];rfl
 have hsne:=aM hset;have hmn:(aR ms).length=ns.length:=by rw[<- hml];simp[aR]
 simp only[go_sem,e1,e3,e5,e7,e8,natl,hb,h3',l0,lB,hvi,hvne,s1,s2,hrz];refine az.Z ((ae.frame (H:=Hx) (args:=[.agg [aa g,.Q N 0 0 ns.length 3]]) (args':=[dk g ms]) (v':=iW (aR ms)) aH rfl (fun i hi _=>?_) (OD g ms O hmp dp _ fun v H' _ ho=>⟨_,rfl,OF ho⟩)).mono fun rr Hz hrr=>?_)
 ·match i,hi with
  |0,_=>rw[<- hml];exact yx hN
 obtain⟨rfl,rfl⟩:=hrr;refine⟨trivial,?_⟩;have hvI:(v:Int)<ns.length:=O
 simp only[go_sem,hset,hsne,hmn,hvI];have xs64:bV x.F<2 ^ 64:=nat5 (nV hxp.2);refine W.aP 9444732684264313719808 (by rfl) (fun ρ2 Hq=>Hq=Hz/\∃k s:Nat,ρ2 11=aa k/\k<=x.F.length/\ρ2 10=bJ s/\Sub s (bV x.F)/\s<2 ^ 64) (fun ρ2 H=>x.F.length-(iv (ρ2 11)).toNat) ?_ ?_
 ·simp only[go_sem];exact⟨0,_,rfl,O,rfl,.refl _,xs64⟩
 rintro ρ2 Hq ⟨rfl,k,s,h11,hk,h10,hs,hs64⟩;refine W.en (fun E2=>E2 1=.R H.A 0 0 /\ E2 2=.R (H.A+1) 0 0 /\ E2 3=.R B 0 0 /\ E2 4=.R (B+1) 0 0 /\ E2 5=ah (bf r) /\ E2 6=bJ known /\ E2 7=aa os.length /\ E2 8=aa i /\ E2 9=aa v /\ E2 10=bJ s /\ E2 11=aa k) (by simp only[go_sem,e1,e2,e3,e4,e5,e6,e7,e8,h10,h11]) fun E2 ⟨f1,f2,f3,f4,f5,f6,f7,f8,f9,f10,f11⟩=>?_
 refine W.vs ?_;have nne:=NF hmx;have nlen:=mD ms;have n1v:=qA hmx;by_cases hb2:(k:Int)<x.F.length
 ·obtain⟨q,hq⟩:=aq (l:=x.F) (i:=k) O;have hqr:=hxp.2 q (an hq);obtain⟨u,rfl⟩:=S5 hqr.1;have hqne:=aM hq;have w2:=SN ((k:Int)+1) O;by_cases hk2:(k:Int) >= 2
  ·have s3:=fun t x y=>ni (P:=Tryz.prog) (t:=t) (x:=x) (y:=y) (k':=.i64) (s:=u) O;have s4:=fun t x y=>zD (P:=Tryz.prog) (t:=t) (x:=x) (y:=y) (a:=s) (b:=2 ^ u);simp only[go_sem,f4,f9,f10,f11,lB1,lN,n1v,hvI,hb2,hk2,hq,hqne,w2,s3,s4];exact⟨⟨k+1,iP s (2 ^ u),rfl,O,rfl,fun i hi=>by rw[zC hs64,Tv]at hi;exact hs i hi.1,Eg _ _⟩,by rw[h11];simp only[aa,bj];omega⟩
  ·simp only[go_sem,f4,f9,f10,f11,lB1,lN,n1v,hvI,hb2,hk2,w2];exact⟨⟨k+1,s,rfl,O,rfl,hs,hs64⟩,by rw[h11];simp only[aa,bj];omega⟩
 ·obtain⟨s',hs'⟩:∃s',s'=(if d.rem then s |||known else s):=⟨_,rfl⟩
  have hsv:=L.step hTR O h3 hv hx hs;rw[<- hs']at hsv;obtain⟨_,_,hslt,L2⟩:=hsv;have s64:=nat5 hslt;have b2v:(2:Nat) ^ v<2 ^ 64:=Ui W6 O;have o1':=fun t x y=>kv (P:=Tryz.prog) (t:=t) (x:=x) (y:=y) hd64 b2v;have o2':=fun t x y=>kv (P:=Tryz.prog) (t:=t) (x:=x) (y:=y) hk64 s64;have o3':=fun t x y=>kv (P:=Tryz.prog) (t:=t) (x:=x) (y:=y) (UO hk64 s64) b2v;have o4':=fun t x y=>kv (P:=Tryz.prog) (t:=t) (x:=x) (y:=y) hs64 hk64;have s6:=fun t x y=>ni (P:=Tryz.prog) (t:=t) (x:=x) (y:=y) (k':=.i64) (s:=v) O;have w3:=SN ((os.length:Int)+1) O;have nse:=N6 (eH s' 8) hmx;have gone:∀b,(Hq.upd N b).X (B+1) 0=some (38,[.lit (.int .i64 g),.Q N 0 0 ns.length 3,.lit (.int .u64 (U:Int)),.lit (.slice none 0 0)]):=fun b=>(kx O).trans lB1;have st1:∀a,setAt (aW ms) (v*3+1) [a]=(aW ms).set (v*3+1) a:=fun a=>iw O;have st2:∀a b,setAt ((aW ms).set (v*3+1) a) (v*3+2) [b]=((aW ms).set (v*3+1) a).set (v*3+2) b:=fun a b=>iw (by rw[Tl];omega);have gone2:∀b b',((Hq.upd N b).upd N b').X (B+1) 0=some (38,[.lit (.int .i64 g),.Q N 0 0 ns.length 3,.lit (.int .u64 (U:Int)),.lit (.slice none 0 0)]):=fun b b'=>(kx O).trans (gone b);simp only[ah]at nse;cases hrem:d.rem
  ·have es:s'=s:=(by rw[hs',hrem];rfl);subst es;simp only[go_sem,f1,f3,f4,f6,f7,f8,f9,f11,lB1,lN,n1v,hvI,hb2,l0,hrem];refine W.dr 5 [0,1,0,0,8] Tryz.mixed ?_;simp only[go_sem,f4,f9,f10,lB1,lN,hvI,hml,nlen,gone];refine⟨ah (eH s' 8),[],bp.pure fun H2=>Ct s' s64 H2 _ ⟨rfl,rfl⟩,?_⟩;simp only[go_sem,hml,nlen,st1,st2,nse,Tl];refine⟨O,O,?_⟩;refine W.dr 4 [0,1,0,4] Tryz.mixed ?_;simp only[go_sem,f4,f6,f7,f8,f9,f10,gone2,s6,o1',o2',o3',w1,w3];refine⟨by simp only[aF];omega,⟨i+1,known |||s' |||2 ^ v,U |||2 ^ v,os++[v],_,rfl,O,rfl,W5,hrem ▸ L2,by simp only[aF];omega,fun id h1 h2 h3=>by simp only[ag];rw[SQ h3,SQ h2,SQ h2];exact hold id h1 h2 h3,by rw[ag,SQ O,ag,SU rfl],by rw[ag,SU rfl]⟩,by rw[h8];simp only[aa,bj];omega⟩
  ·have es:s |||known=s':=by rw[hs',hrem];rfl
   rw[es]at o4';simp only[go_sem,f1,f3,f4,f6,f7,f8,f9,f10,f11,lB1,lN,n1v,hvI,hb2,l0,hrem,o4'];refine W.dr 5 [0,1,0,0,8] Tryz.mixed ?_;simp only[go_sem,f4,f9,f10,lB1,lN,hvI,hml,nlen,gone];refine⟨ah (eH s' 8),[],bp.pure fun H2=>Ct s' s64 H2 _ ⟨rfl,rfl⟩,?_⟩;simp only[go_sem,hml,nlen,st1,st2,nse,Tl];refine⟨O,O,?_⟩;refine W.dr 4 [0,1,0,4] Tryz.mixed ?_;simp only[go_sem,f4,f6,f7,f8,f9,f10,gone2,s6,o1',o2',o3',w1,w3];refine⟨by simp only[aF];omega,⟨i+1,known |||s' |||2 ^ v,U |||2 ^ v,os++[v],_,rfl,O,rfl,W5,hrem ▸ L2,by simp only[aF];omega,fun id h1 h2 h3=>by simp only[ag];rw[SQ h3,SQ h2,SQ h2];exact hold id h1 h2 h3,by rw[ag,SQ O,ag,SU rfl],by rw[ag,SU rfl]⟩,by rw[h8];simp only[aa,bj];omega⟩
end Go.Proofs
namespace Go.Proofs.YtjhbjbninamhnaaGreat
open Go.ChangeShapes Go.WideShapes Go.ChangeAt Go.RowKit Go.Hx
def Tryz.Q:ownKnob Tryz.prog.godebug=none:=W7
def Tryz.laidOut:laidOutB Tryz.prog=true:=W7
def Tryz.Lb:Tryz.prog.underlying 4=some .bool:=W7
section
variable {W:World} {H:Type} {enc:TypeId × Value->H} {spare:Nat->Bool} {held:Bool}
def sh {n:Nat}(h:n<=maxLen):(n:Int)<2 ^ 63:=by
 have:maxLen=9223372036854775807:=W6
 omega
def nO {n:Int}(h:(Lit.int .u8 n).wf=true):U8 n:=by
 have:=wf_u8 h;unfold U8;omega
def Lc:fJ enc Tryz.prog W spare held 165 fun _ zs=>∃x:XD,zs=x.cells/\x.Ok:=by
 have hu:=Tryz.underlying165;have c1:=Tryz.sr;have c2:=Tryz.yb;refine(tV (φ:=fun i _ xs=>if i=2 then ∃l:List Int,xs=[.M l.length (rS .u8 l)]/\l.length<=maxLen/\∀c,c∈l->(Lit.int .u8 c).wf=true else ∃n,xs=[.lit (.int .u8 n)]/\(Lit.int .u8 n).wf=true) hu
  (fun cs hcs=>by
   have hc:Tryz.prog.cellsOf 165=3:=W7;rw[hc]at hcs
   match cs,hcs with
   | [a,b,c],_=>simp[c1,c2])
  (fun i hi=>match i,hi with
   |0,_=>(nJ Tryz.underlying5).mono fun _ _ ⟨n,_,h,w⟩=>⟨n,h,w⟩
   |1,_=>(nJ Tryz.underlying5).mono fun _ _ ⟨n,_,h,w⟩=>⟨n,h,w⟩
   |2,_=>(AR Tryz.underlying23 Tryz.underlying5 c1).mono fun _ _ h=>h)).mono fun d zs ⟨ds,nn,_,e,hl1,hl2,hall⟩=>?_
 match nn,ds,hl2,hl1,hall with
 | [x,y,z],[d0,d1,d2],_,_,hall =>
  obtain⟨n0,e0,w0⟩:=hall 0 W5 W5;obtain⟨n1,e1,w1⟩:=hall 1 W5 W5;obtain⟨l,e2,w2,w3⟩:=hall 2 W5 W5;simp only[TE,UF]at e0 e1 e2;subst e0;subst e1;subst e2;refine⟨⟨n0,n1,l⟩,by rw[e];rfl,?_⟩;exact⟨nO w0,nO w1,sh w2,fun c hc=>nO (w3 c hc)⟩
def wf_i8 {n:Int}(h:(Lit.int .i8 n).wf=true):I8 n:=by
 have:-128<=n/\n<=127:=by simpa[Lit.wf,IntKind.min,IntKind.max,IntKind.signed,IntKind.bits] using h
 unfold I8;omega
def Ld {α:Type}{t e:TypeId}{f:α->List W9}{q:α->Prop}(ht:Tryz.prog.underlying t=some (.slice e))(hz:0<Tryz.prog.cellsOf e)(he:fJ enc Tryz.prog W spare held e fun _ zs=>∃x:α,zs=f x/\q x):
  fJ enc Tryz.prog W spare held t fun _ zs=>∃l:List α,zs=[.M l.length (l.map f).flatten]/\l.length<=maxLen/\∀x∈l,q x :=
 (tU ht hz he).mono fun d zs h=>by
  rcases h with ⟨_,rfl⟩|⟨ds,rest,nn,_,rfl,hr,_,hl⟩
  ·exact⟨[],rfl,Uh _,fun c h=>by cases h⟩
  ·obtain⟨l,rfl,hq⟩:=tW (f:=f) (q:=q) (fun d zs h=>h) hr;exact⟨l,by rw[S8],by simpa using hl,hq⟩
def Le:fJ enc Tryz.prog W spare held 25 fun _ zs=>∃(g:Int) (ps:List XD) (ord:List Int),zs=[.lit (.int .u8 g),.M ps.length (dB ps),.M ord.length (bP ord)]/\U8 g/\(∀x∈ps,x.Ok)/\(ps.length:Int)<2 ^ 63/\(ord.length:Int)<2 ^ 63/\∀x∈ord,U8 x:=by
 have hu:=Tryz.underlying25;have c1:=Tryz.sr;have c2:=Tryz.yb;have c3:=Tryz.Bo;have c4:=Tryz.BC;refine(tV (φ:=fun i _ xs=>if i=2 then ∃l:List Int,xs=[.M l.length (rS .u8 l)]/\l.length<=maxLen/\∀c,c∈l->(Lit.int .u8 c).wf=true else if i=1 then ∃l:List XD,xs=[.M l.length (l.map XD.cells).flatten]/\l.length<=maxLen/\∀x∈l,x.Ok else ∃n,xs=[.lit (.int .u8 n)]/\(Lit.int .u8 n).wf=true) hu
  (fun cs hcs=>by
   have hc:Tryz.prog.cellsOf 25=3:=W7;rw[hc]at hcs
   match cs,hcs with
   | [a,b,c],_=>simp[c1,c2,c3])
  (fun i hi=>match i,hi with
   |0,_=>(nJ Tryz.underlying5).mono fun _ _ ⟨n,_,h,w⟩=>⟨n,h,w⟩
   |1,_=>(Ld Tryz.underlying22 (by rw[c4];decide) Lc).mono fun _ _ h=>h
   |2,_=>(AR Tryz.underlying23 Tryz.underlying5 c1).mono fun _ _ h=>h)).mono fun d zs ⟨ds,nn,_,e,hl1,hl2,hall⟩=>?_
 match nn,ds,hl2,hl1,hall with
 | [x,y,z],[d0,d1,d2],_,_,hall =>
  obtain⟨n0,e0,w0⟩:=hall 0 W5 W5;obtain⟨ps,e1,w1,w1'⟩:=hall 1 W5 W5;obtain⟨l,e2,w2,w3⟩:=hall 2 W5 W5;simp only[TE,UF]at e0 e1 e2;subst e0;subst e1;subst e2;exact⟨n0,ps,l,by rw[e];rfl,nO w0,w1',sh w1,sh w2,fun c hc=>nO (w3 c hc)⟩
end
end Go.Proofs.YtjhbjbninamhnaaGreat
namespace Go.Hx
variable {P:Program} {G:Nat->Option (List W9)}
theorem jt.upd {lo:Nat}{H:Xn}{e1 e0:TypeId}{v:W9}{nn:List (List W9)}(h:jt lo H e1 e0 v nn){k:Nat}{b:Xe}(hk:k<lo):jt lo (H.upd k b) e1 e0 v nn:=by
 obtain⟨cs,c1,c2,c3⟩:=h;refine⟨cs,c1.nb W8 (by rw[aF];exact Nat.le_refl _) fun id _ h1 _ _ _=>by rw[ag,SQ O],c2,fun j r c hr hc=>(c3 j r c hr hc).nb W8 (by rw[aF];exact Nat.le_refl _) fun id _ h1 _ _ _=>by rw[ag,SQ O]⟩
end Go.Hx
namespace Go.Proofs
open Go.Hx
variable {d:Xa}
def N9 {cs:List Int}(hc:∀c∈cs,1<=c):∀(k:Nat) (ps:List Int),k<=cs.length->ps.Pairwise (·<·)->(∀p∈ps,0<=p/\p<k)->aA (aB cs ps)<=aA (cs.take k):=by
 intro k
 induction k with
 |zero =>
  intro ps _ _ h;cases ps with
  |nil=>exact Int.le_refl _
  |cons p ps=>have:=h p W5;omega
 |succ k ih =>
  intro ps hk hw h;obtain⟨c,hck⟩:=aq (l:=cs) (i:=k) O;have c1:=hc c (an hck);rw[aU hck,fZ];have hp:=fu (l:=cs.take k) fun c h=>hc c (Tj h);rcases U4 ps with rfl|⟨qs,q,rfl⟩
  ·show 1<=_;have:=Uu hp c1 O O;omega
  ·rw[U5]at hw h ⊢;have hq:=h q W5;obtain⟨w1,_,w3⟩:=UL.1 hw;have hqs:∀p∈qs,0<=p/\p<q:=fun p hp=>⟨(h p (by simp[hp])).1,w3 p hp q W5⟩
   by_cases hqk:q=k
   ·have h1:=ih qs O w1 fun p hp=>by have:=hqs p hp;omega
    unfold aB at h1 ⊢;rw[TT,uL];have e:aA (List.map (fun p=>cs.getD p.toNat 0) [q])=c:=by
     rw[hqk];simp only[List.map_cons,List.map_nil,Int.toNat_natCast,bq hck,iD,gQ,W3]
    rw[e];exact UT h1 (O)
   ·have h1:=ih (qs++[q]) O hw fun p hp=>by
     rcases Tk.1 hp with h'|h'
     ·have:=hqs p h';omega
     ·obtain rfl:=List.mem_singleton.1 h';omega
    have h2:aA (cs.take k)*1<=aA (cs.take k)*c:=Tm c1 O;omega
def yz {ns:List Xl}{x:Xl}(hp:cw x.F ns.length)(hc:∀y∈ns,1<=y.L/\y.L<=4):aA (aV ns x)<=aA (aj ns):=by
 have h:=N9 (cs:=aj ns) (fun c h=>by
  obtain⟨y,hy,rfl⟩:=S4.1 h;exact(hc y hy).1) ns.length x.F (by rw[cZ];exact Nat.le_refl _) hp.1 hp.2
 rw[SR (by rw[cZ];exact Nat.le_refl _)]at h;exact h
def kT (d:Xa)(v:Nat):Int × Int:=match d.C[v]? with
 |some x=>(bM d.C x,x.L)
 |none=>(0,0)
def mI (d:Xa):List (Int × Int):=(aK d).map (kT d)
def yA (h:Xf d){v:Nat}(hv:v<d.C.length)(hb:d.U.testBit v=true):1<=(kT d v).1/\(kT d v).1<=1024/\1<=(kT d v).2/\(kT d v).2<=4:=by
 obtain⟨x,hx⟩:=aq hv;obtain⟨x1,x2⟩:=h.n.dec v x hx hb;have hc:=h.n.L x (an hx);have hsz:=h.nu.size;rw[kh]at hsz;have hle:=yz x2 h.n.L;have hps:=fu (l:=aV d.C x) fun c hc=>(qX (fun q hq=>by have:=x2.2 q hq;omega) h.n.L c hc).1;unfold kT;rw[hx];show 1<=((bM d.C x:Nat):Int)/\((bM d.C x:Nat):Int)<=1024/\1<=x.L/\x.L<=4;unfold bM;omega
def Oa (l:List (Int × Int))(ps:List (List Int)):Prop:=ps.length=l.length/\∀(k:Nat) (p:Int × Int) (r:List Int),l[k]?=some p->ps[k]?=some r->(r.length:Int)=p.1/\∀a∈r,0<=a/\a<p.2
def Ob {p:List (List Int)}:Xo d p↔Oa (mI d) p:=by
 have hg:∀(k v:Nat) (x:Xl),(aK d)[k]?=some v->d.C[v]?=some x->(mI d)[k]?=some ((bM d.C x:Int),x.L):=fun k v x hv hx=>by
  unfold mI;rw[List.getElem?_map,hv,Option.map_some];unfold kT;rw[hx]
 constructor
 ·intro h;refine⟨by rw[h.len];simp[mI],fun k q r hq hr=>?_⟩;obtain⟨v,hv⟩:=aq (l:=aK d) (i:=k) (by have:=aI hr;rw[h.len]at this;exact this);obtain⟨v1,_⟩:=nY hv;obtain⟨x,hx⟩:=aq v1;rw[hg k v x hv hx]at hq;cases hq;obtain⟨a,b⟩:=h.row k v x r hv hx hr;exact⟨by rw[a],b⟩
 ·intro h;refine⟨by rw[h.1];simp[mI],fun k v x l hv hx hl=>?_⟩;obtain⟨a,b⟩:=h.2 k _ l (hg k v x hv hx) hl;exact⟨by simp only at a;omega,b⟩
end Go.Proofs
namespace Go.Hx
open Go.Proofs.R01 (pureRun_bind)
variable {P:Program} {t e:TypeId} {x y:Operand} {k k':IntKind} {a b c d:Int}
variable {f g:Field}
def Lf (n:Nat)(he:P.underlying e=some (.int k)):bC P (Op.equalIn (n+1) e (.int k' a) (.int k' b))=some (a == b):=by
 unfold Op.equalIn;simp[underlying,program,he,bC,bind,Sem.bind,pure]
def Lg (n : Nat)  (ht : P.underlying t = some (.struct #[f, g])) (hsi : P.stoodInHeld t = false) (hf : f.type = e) (hg : g.type = e) (fn : f.name ≠ "_") (gn : g.name ≠ "_") (fo : f.offset = 0) (go : g.offset = 1) (he : P.underlying e = some (.int k)) :
  bC P (Op.equalIn (n+2) t (.agg #[.int k' a,.int k' b]) (.agg #[.int k' c,.int k' d]))=some (a == c && b == d):=by
 unfold Op.equalIn;have e1:∀ {α:Type} (f':TypeDesc->Sem α),bC P (underlying t >>= f')=bC P (f' (.struct #[f,g])):=fun f'=>pureRun_bind (by simp[underlying,program,ht,bC,bind,Sem.bind,pure]);have e0:∀ {α:Type} (f':Program->Sem α),bC P (program >>= f')=bC P (f' P):=fun f'=>pureRun_bind (by simp[program,bC]);have e3:∀ {α:Type} (cs:Array Value) (o:Nat) (v:Value) (f':Value->Sem α),cs[o]?=some v->bC P (part e cs o >>= f')=bC P (f' v):=fun cs o v f' h=>pureRun_bind (by simp[part,isAgg,underlying,program,he,h,bC,bind,Sem.bind,pure]);have e4:∀ {α:Type} (p q:Int) (f':Bool->Sem α),bC P (Op.equalIn (n+1) e (.int k' p) (.int k' q) >>= f')=bC P (f' (p == q)):=fun p q f'=>pureRun_bind (Lf n he);rw[e1];dsimp only;rw[e0,hsi];simp only[Bool.false_eq_true,if_false,<- Array.forIn_toList,List.forIn_cons,List.forIn_nil,fn,gn,hf,hg,fo,go,ne_eq,not_false_eq_true,if_true,bind_assoc,pure_bind];rw[e3 _ _ (.int k' a) _ rfl,e3 _ _ (.int k' c) _ rfl,e4];by_cases h:(a == c)=true
 ·rw[h];simp only[Bool.not_true,Bool.false_eq_true,if_false,pure_bind,bind_assoc];rw[e3 _ _ (.int k' b) _ rfl,e3 _ _ (.int k' d) _ rfl,e4];by_cases h2:(b == d)=true
  ·rw[h2];rfl
  ·rw[VA]at h2;rw[h2];rfl
 ·rw[VA]at h;rw[h];rfl
def Lh {P : Program} {t e : TypeId} {x y : Operand} {k k' : IntKind} {a b c d : Int}  (ht : P.underlying t = some (.struct #[f, g])) (hsi : P.stoodInHeld t = false) (hf : f.type = e) (hg : g.type = e) (fn : f.name ≠ "_") (gn : g.name ≠ "_") (fo : f.offset = 0) (go : g.offset = 1) (he : P.underlying e = some (.int k)) (hq : P.eqGuardType P.depth t = false) :
  bn P .eql t x y (.agg [.lit (.int k' a),.lit (.int k' b)]) (.agg [.lit (.int k' c),.lit (.int k' d)])=some (.lit (.bool (a == c && b == d))):=by
 show (bC P (do eqGuard .eql t x y (.agg #[.int k' a,.int k' b]) (.agg #[.int k' c,.int k' d]);binOp .eql t (.agg #[.int k' a,.int k' b]) (.agg #[.int k' c,.int k' d]))).map _=_;have h0:bC P (eqGuard .eql t x y (.agg #[.int k' a,.int k' b]) (.agg #[.int k' c,.int k' d]))=some ():=by
  simp[eqGuard,program,hq,bC,bind,Sem.bind,pure]
 have h1:binOp .eql t (.agg #[.int k' a,.int k' b]) (.agg #[.int k' c,.int k' d])=(Op.equalIn (9998+2) t (.agg #[.int k' a,.int k' b]) (.agg #[.int k' c,.int k' d]) >>= fun r=>pure (Value.bool r)):=rfl;rw[pureRun_bind h0,h1,pureRun_bind (Lg 9998 ht hsi hf hg fn gn fo go he)];rfl
attribute [go_sem] Ef
end Go.Hx
namespace Go.Proofs
open Go.Hx
def xZ {o1 o2:Operand}(a b c d:Int):bn Tryz.prog .eql 41 o1 o2 (.agg [.lit (.int .i64 a),.lit (.int .i64 b)]) (.agg [.lit (.int .i64 c),.lit (.int .i64 d)])=some (.lit (.bool (a == c && b == d))) :=
 Lh Tryz.underlying41 W7 rfl rfl W6 W6 rfl rfl Tryz.underlying3 (W7)
end Go.Proofs
namespace Go.Hx
variable {P:Program} {G:Nat->Option (List W9)}
variable {H:Xn}
def RM (hc:XN H):XM (fun _=>False) H H where
 gone id hs:=hs.elim
 kept id b _ hb:=by
  have hbb:=hc.below id b hb;refine⟨hc.lt id b hb,b,hb,?_⟩;cases b with
  |nm=>trivial
  |mp=>rfl
  |J g e cells=>exact⟨rfl,rfl,rfl,fun i h _=>.dead (hbb i h)⟩
  |loop st pend n env ps asg body=>exact⟨rfl,rfl,rfl,rfl,rfl,rfl,rfl,fun t ht=>.dead (hbb t ht)⟩
 none id _ hb:=hb
def ae.RN {f:FuncId}{args args':List W9}{K:Xd->Xn->Prop}(hG:fK G)(hl:args'.length=args.length)(hv:∀i (h:i<args.length) (h':i<args'.length),Fz (fun _=>False) H H.A args[i] args'[i])
  (h:ae P G f args' H K):ae P G f args H K:=by
 refine⟨h.1,fun Γ w cargs R hr=>?_⟩;have F:=RM R.Z;have R0:=F.rel hG R;have E0:Xk Γ H w (fW (fun _=>False) Γ) H w:=F.bb;refine(h.2 _ w cargs R0 ⟨by have:=hr.1;omega,fun i h1 h2=>(hv i O h1).sound R F (hr.2 i O h2)⟩).mono ?_;rintro e w' ⟨r,H',Γ',h1,h2,h3,h4,h5⟩;exact⟨r,H',Γ',h1,h2,h3,E0.trans W8 h4,h5⟩
end Go.Hx
namespace Go.Proofs
open Go.Hx
variable {a:Int}{p:List (List Int)}{l vals:List Int}{ns:List Xl}{us:List Xm}{k n r v v0 w:Nat}{f g:Nat->Int}{c:Nat->Nat->Int}{d:Xa}
def Oc {S:Nat->Prop}{H:Xn}{nx:Nat}(d:Xa):Fz S H nx (qH d) (eC d):=by
 refine .agg rfl fun i hi _=>?_
 match i,hi with
 |0,_=>exact .lit _
 |1,_=>exact .M (by rw[mD,kL]) fun j h h'=>yp d.C j h h'
 |2,_=>exact .lit _
 |3,_=>exact .M rfl fun j h h'=>yy d.V _ (TC h)
def yB (h:XA d):d.U<2 ^ d.C.length:=by
 have h1:=h.U;rw[VN]at h1;exact(Nat.div_eq_zero_iff_lt (Wj _)).1 h1
def yC {vars:List Int}(h8:ns.length<=8)(hp:cw vars ns.length)(hc:∀y∈ns,1<=y.L/\y.L<=4):vars.length<=12:=by
 have:=(sM h8 hp hc).1
 rwa [iq]at this
def sv (h:Xf d):Xv d:=by
 have n8:=h.n.n1;refine⟨⟨O,fun x hx=>?_⟩,?_,by have:=h.V.1;omega,fun u hu=>?_⟩
 ·obtain⟨v,hv⟩:=SY.1 hx;have hn:=h.nu.node _ (an (ki (c:=fun _ _=>0) hv));have hr:=h.nu.nn _ (an (ki (c:=fun _ _=>0) hv));rw[(jx ..).1,(jx ..).2,iJ]at hn;unfold gI at hr;rw[sK]at hr;have hpl:=yC n8.2 hn.2 h.n.L;refine⟨O,?_⟩;by_cases hb:d.U.testBit v=true
  ·rw[(h.n.dec v x hv hb).1];exact⟨W5,fun r hr=>by cases hr⟩
  ·rw[qU hb]at hr;have:=(mf n8.2 hn.2 h.n.L).prod;refine⟨O,fun r hr'=>?_⟩;have:=(hr.2 r hr').1;omega
 ·exact SZ (yB h.n) (Ti W6 O)
 ·have hu':=h.V.2 u hu;have:=yC n8.2 hu'.vars h.n.L;have:=(sM n8.2 hu'.vars h.n.L).prod;have:=hu'.size;omega
def ph (h:Xf d)(hp:Xo d p):pC p:=by
 have n8:=h.n.n1;have:=nZ (D:=d.U) (n:=d.C.length);have hl:=hp.len;refine⟨by unfold aK at hl;omega,fun r hr=>?_⟩;obtain⟨k,hk⟩:=SY.1 hr;obtain⟨v,hv⟩:=aq (l:=aK d) (i:=k) (by have:=aI hk;omega);obtain⟨v1,v2,_⟩:=nY hv;obtain⟨x,hx⟩:=aq v1;have h1:=(hp.row k v x r hv hx hk).1;have h2:=yA h v1 v2;unfold kT at h2;rw[hx]at h2;dsimp only at h2;omega
def qD (h:Xf d)(hp:Xo d p):eJ d p=0:=by
 unfold eJ;rw[eI h,eI hp];rfl
def Cj (k:Nat)(h:k<=6):(60:Int) ^ k<=46656000000:=by
 have h1:(60:Nat) ^ k<=60 ^ 6:=Ti W6 h;have h2:(60:Nat) ^ 6=46656000000:=W6
 rw[h2]at h1;have h3:=Int.ofNat_le.2 h1;rw[Int.natCast_pow]at h3;exact h3
def Od {g:Int}(h:Xq g ns)(h6:ns.length<=6)(hf:bI (aj ns) vals):0<=weight ns vals/\weight ns vals<=46656000000:=by
 have hb:∀w∈gD ns vals,0<=w/\w<=60:=fun w hw=>by
  obtain⟨v,hv,rfl⟩:=S4.1 hw;obtain⟨x,hx⟩:=aq (S7.1 hv);obtain⟨i,r,a,w,hR⟩:=vF h hx hf;rw[hR.eq];have:=hR.wb;have:=h.g1;omega
 have h1:=nU (b:=60) O hb;have h2:=Cj (gD ns vals).length (by rw[uS];omega);exact⟨h1.1,VL h1.2 h2⟩
def yD {g:Int}(h:Xq g ns):bD ns<=1024/\(bD ns:Int)=aA (aj ns):=by
 have h1:=h.size;have h2:=fu (l:=aj ns) fun c hc=>by
  obtain⟨x,hx,rfl⟩:=S4.1 hc;exact(h.node x hx).1.1
 unfold bD;omega
def Oe {g:Int}(h:Xq g ns)(h6:ns.length<=6)(hu:∀u∈us,Xy ns u)(h4:us.length<=4)(hf:bI (aj ns) vals)(j:Nat):
  -18662400000000<=weight ns vals*bB ns (us.take j) vals/\weight ns vals*bB ns (us.take j) vals<=18662400000000:=by
 obtain⟨a,b⟩:=Od h h6 hf;obtain⟨c,d⟩:=pE hu h4 vals j;generalize weight ns vals=w at *
 generalize bB ns (us.take j) vals=u at *
 constructor
 ·have h1:w*(-400)<=w*u:=Tm c a;omega
 ·have h1:w*u<=w*400:=Tm d a;omega
def Of {g:Int}(h:Xq g ns)(h6:ns.length<=6)(hu:∀u∈us,Xy ns u)(h4:us.length<=4):∀k:Nat,-(18662400000000*k:Int)<=ig ns us k/\ig ns us k<=18662400000000*k:=by
 intro k
 induction k with
 |zero=>simp[ig]
 |succ k ih =>
  rw[BQ];have h1:∀c∈aj ns,1<=c:=fun c hc=>by
   obtain⟨x,hx,rfl⟩:=S4.1 hc;exact(h.node x hx).1.1
  have:=Oe h h6 hu h4 (oZ h1 k) us.length;rw[SR W8]at this
  push_cast
  omega
def yE (h6:d.C.length<=6)(p:List (List Int)):Di d p:=by
 intro hok hp k hk;have hn:=zc hok (pB hp);have:=Of hn (by rw[iJ];exact h6) (us:=d.V) (fun u hu=>Dh (hok.V.2 u hu)) hok.V.1 k;have hw:=(yD hn).1;rw[vD]at hw;omega
def Og {q:List (List Int)}(hok:Xf d)(hq:Xo d q):j5 d q=eo (kj d q) (d.Y ^ d.C.length):=by
 unfold j5;rw[SU (qD hok hq)]
def SS (n:Nat)(f:Nat->Int):Int:=((List.range n).map f).sum
def mE (f:Nat->Int):SS 0 f=0:=rfl
def eZ (n:Nat)(f:Nat->Int):SS (n+1) f=SS n f+f n:=by unfold SS;rw[TP];simp
def gF (h:∀i,i<n->f i=g i):SS n f=SS n g:=by
 unfold SS;congr 1;exact Tf fun i hi=>h i (S7.1 hi)
def BS (n:Nat)(f g:Nat->Int):SS n (fun i=>f i+g i)=SS n f+SS n g:=by
 induction n with
 |zero=>rfl
 |succ n ih=>rw[eZ,eZ,eZ,ih];omega
def qB (n:Nat):SS n (fun _=>0)=0:=by
 induction n with
 |zero=>rfl
 |succ n ih=>rw[eZ,ih];rfl
def BU (n m:Nat)(f:Nat->Nat->Int):SS n (fun i=>SS m (f i))=SS m (fun j=>SS n fun i=>f i j):=by
 induction n with
 |zero=>simp only[mE];rw[qB]
 |succ n ih=>simp only[eZ];rw[ih,BS]
def BV {m a:Nat}(h:a<m)(t:Int):SS m (fun j=>if j=a then t else 0)=t:=by
 induction m with
 |zero=>omega
 |succ m ih =>
  rw[eZ];by_cases e:a=m
  ·subst e;rw[SU rfl,gF (g:=fun _=>0) fun i hi=>SQ O,qB];omega
  ·rw[ih O,SQ (fun h=>e h.symm)];omega
def su (h:∀i,i<n->f i<=g i):SS n f<=SS n g:=by
 induction n with
 |zero=>exact Int.le_refl _
 |succ n ih =>
  rw[eZ,eZ];have:=ih fun i hi=>h i O;have:=h n O;omega
def BW (h:∀i,i<n->f i<=g i){a:Nat}(ha:a<n)(hl:f a<g a):SS n f<SS n g:=by
 induction n with
 |zero=>omega
 |succ n ih =>
  rw[eZ,eZ];by_cases e:a=n
  ·subst e;have:=su (n:=a) fun i hi=>h i O;omega
  ·have:=ih (fun i hi=>h i O) O;have:=h n O;omega
def NJ (ns:List Xl)(us:List Xm)(k:Nat):ig ns us k=SS k fun i=>weight ns (bH (aj ns) i)*bB ns us (bH (aj ns) i):=rfl
def jz (d:Xa)(vals:List Int)(v:Nat):Int:=if d.U.testBit v=true then d.Y else fP d.C vals v
def cr (d:Xa)(vals:List Int):Int:=aA ((List.range d.C.length).map (jz d vals))
def cB (d:Xa)(vals:List Int):Int:=cr d vals*bB d.C d.V vals
def cQ (ns:List Xl)(v:Nat)(vals:List Int):Nat:=match ns[v]? with
 |some x=>(bG (aV ns x) (aB vals x.F)).toNat
 |none=>0
def jX (d:Xa)(c:Nat->Nat->Int)(vals:List Int)(v:Nat):Bool:=decide (c (bd d.U v) (cQ d.C v vals)=vals.getD v 0)
def gG (d:Xa)(c:Nat->Nat->Int)(vals:List Int):Bool:=(aK d).all (jX d c vals)
def iU (d:Xa)(c:Nat->Nat->Int)(v0:Nat)(vals:List Int):Bool:=(aK d).all fun v=>decide (v=v0) ||jX d c vals v
def NK (h:(0:Int)∈l):aA l=0:=by
 induction l with
 |nil=>cases h
 |cons x l ih =>
  rw[iD];rcases List.mem_cons.1 h with rfl|h
  ·rw[We]
  ·rw[ih h,WK]
def NL {g L b:Int}(ha:0<=a/\a<L)(hb:0<=b/\b<L):(dM g L a).getD b.toNat 0=if a=b then g else 0:=by
 unfold dM;rw[SV,Ug];by_cases h:a=b
 ·subst h;rw[SU rfl,SU (by rw[Uq];omega),SU rfl];rfl
 ·rw[SQ O,SQ h,TH,SU O];rfl
def NM (d:Xa)(c:Nat->Nat->Int)(us:List Xm)(vals:List Int):bB (cz d c) us vals=bB d.C us vals:=by
 unfold bB lS;rw[kh]
def mF (hok:Xf d){x:Xl}(hx:d.C[v]?=some x)(hf:bI (aj d.C) vals):(cQ d.C v vals:Int)=bG (aV d.C x) (aB vals x.F)/\cQ d.C v vals<bM d.C x:=by
 have hpl:cw x.F d.C.length:=by
  have:=(hok.nu.node _ (an (ki (c:=fun _ _=>0) hx))).2;rw[(jx ..).2,iJ]at this;exact this
 have hin:fR x.F d.C.length:=fun q hq=>by have:=hpl.2 q hq;omega
 have hr:=kM (pD hin hf);unfold cQ bM;rw[hx];simp only;omega
def BX (hok:Xf d)(hc:pA d c)(hf:bI (aj d.C) vals)(hv:v<d.C.length):
  fP (cz d c) vals v=if d.U.testBit v=true/\jX d c vals v=false then 0 else jz d vals v:=by
 obtain⟨x,hx⟩:=aq hv;unfold fP;rw[ki hx];simp only;unfold jy;rw[sK,(jx ..).2];show ((gC d c (aK d).length v x).nn.getD (bG (aV d.C (gC d c (aK d).length v x)) (aB vals x.F)).toNat []).getD (vals.getD v 0).toNat 0=_;have hpc:aV d.C (gC d c (aK d).length v x)=aV d.C x:=by unfold aV;rw[(jx ..).2]
 rw[hpc];obtain⟨r1,r2⟩:=mF hok hx hf;have hri:cQ d.C v vals=(bG (aV d.C x) (aB vals x.F)).toNat:=by unfold cQ;rw[hx]
 rw[<- hri];obtain⟨a,ha⟩:=aq (l:=vals) (i:=v) (by rw[hf.1,cZ];exact hv);have hab:=hf.2 v x.L a (cC hx) ha;by_cases hb:d.U.testBit v=true
 ·have hcc:=hc _ v (cQ d.C v vals) x (qT hx hb) hx r2;have hrows:(gC d c (aK d).length v x).nn=ee d.Y d.C c (bd d.U v) x:=by
   rw[zb hx hb];show x.nn++_=_;rw[(hok.n.dec v x hx hb).1,List.nil_append]
  have hrow:(ee d.Y d.C c (bd d.U v) x).getD (cQ d.C v vals) []=dM d.Y x.L (c (bd d.U v) (cQ d.C v vals)):=by
   unfold ee;rw[SV,List.getElem?_map,Th r2];rfl
  rw[hrows,hrow,bq ha,NL hcc hab];unfold jX jz;rw[bq ha,SU hb];by_cases he:c (bd d.U v) (cQ d.C v vals)=a
  ·rw[SU he,SQ (by simp[he])]
  ·rw[SQ he,SU ⟨hb,by simp[he]⟩]
 ·rw[qU hb,SQ fun h=>hb h.1];unfold jz fP;rw[SQ hb,hx];simp only;unfold jy;rw[<- hri]
def BY (hok:Xf d)(hc:pA d c)(hf:bI (aj d.C) vals):
  weight (cz d c) vals=if gG d c vals=true then cr d vals else 0:=by
 unfold weight gD;rw[iJ];by_cases h:gG d c vals=true
 ·rw[SU h];unfold cr;congr 1;refine Tf fun v hv=>?_;have hv':=S7.1 hv;rw[BX hok hc hf hv',SQ];rintro⟨hb,ha⟩;unfold gG at h;have:=Tn.1 h v (gS.2 ⟨hv',hb⟩);rw[ha]at this;cases this
 ·rw[SQ h];refine NK ?_;unfold gG at h;rw[Tn]at h;obtain⟨v,hv⟩:=WR.1 h;obtain⟨hvm,hva⟩:=Classical.not_imp.1 hv;obtain⟨v1,v2⟩:=gS.1 hvm;refine S4.2 ⟨v,S7.2 v1,?_⟩;rw[BX hok hc hf v1,SU ⟨v2,by simpa using hva⟩]
def wv (d:Xa)(w:Nat):List Int:=bH (aj d.C) w
def iF (hok:Xf d)(w:Nat):bI (aj d.C) (wv d w):=oZ (fun c hc=>by
 obtain⟨x,hx,rfl⟩:=S4.1 hc;exact(hok.n.L x hx).1) _
def dU (d:Xa)(c:Nat->Nat->Int):Int:=SS (bD d.C) fun w=>if gG d c (wv d w)=true then cB d (wv d w) else 0
def BZ (hok:Xf d)(hp:Xo d p):kj d p=dU d (fixC p):=by
 unfold kj dU;rw[NJ];refine gF fun w _=>?_;rw[kh,NM];show weight (cz d (fixC p)) (wv d w)*bB d.C d.V (wv d w)=_;rw[BY hok (pB hp) (iF hok w)];show (if gG d (fixC p) (wv d w)=true then cr d (wv d w) else 0)*bB d.C d.V (wv d w)=_;by_cases h:gG d (fixC p) (wv d w)=true
 ·rw[SU h,SU h];rfl
 ·rw[SQ h,SQ h,We]
def jh (d:Xa)(c:Nat->Nat->Int)(v0 r:Nat)(x:Int):Int :=
 SS (bD d.C) fun w=>if iU d c v0 (wv d w)=true/\cQ d.C v0 (wv d w)=r/\(wv d w).getD v0 0=x then cB d (wv d w) else 0
def B0 (hv:v0∈aK d)(vals:List Int):gG d c vals=true↔iU d c v0 vals=true/\c (bd d.U v0) (cQ d.C v0 vals)=vals.getD v0 0:=by
 unfold gG iU;rw[Tn,Tn];constructor
 ·intro h;exact⟨fun v hv=>by rw[h v hv];simp,of_decide_eq_true (h v0 hv)⟩
 ·rintro⟨h1,h2⟩ v hvm;have:=h1 v hvm;rw[Tx,decide_eq_true_eq]at this;rcases this with rfl|h
  ·exact Ty h2
  ·exact h
def B1 (hok:Xf d){x0:Xl}(hx:d.C[v0]?=some x0)(hb:d.U.testBit v0=true):
  dU d c=SS (bM d.C x0) fun r=>jh d c v0 r (c (bd d.U v0) r):=by
 unfold dU jh;rw[BU];refine gF fun w _=>?_;obtain⟨_,r2⟩:=mF hok hx (iF hok w);have hv:v0∈aK d:=gS.2 ⟨aI hx,hb⟩;have e:∀r,r<bM d.C x0->(if iU d c v0 (wv d w)=true/\cQ d.C v0 (wv d w)=r/\(wv d w).getD v0 0=c (bd d.U v0) r then cB d (wv d w) else 0)=if r=cQ d.C v0 (wv d w) then (if gG d c (wv d w)=true then cB d (wv d w) else 0) else 0:=fun r _=>by
  by_cases h:r=cQ d.C v0 (wv d w)
  ·subst h;rw[SU rfl];by_cases ha:gG d c (wv d w)=true
   ·obtain⟨a1,a2⟩:=(B0 hv _).1 ha;rw[SU ha,SU ⟨a1,rfl,a2.symm⟩]
   ·rw[SQ ha,SQ fun h=>ha ((B0 hv _).2 ⟨h.1,h.2.2.symm⟩)]
  ·rw[SQ h,SQ fun h'=>h h'.2.1.symm]
 rw[gF e,BV r2]
def NN {c':Nat->Nat->Int}(h:∀v∈aK d,v≠v0->∀r,c (bd d.U v) r=c' (bd d.U v) r)(r:Nat)(x:Int):jh d c v0 r x=jh d c' v0 r x:=by
 have e:∀vals,iU d c v0 vals=iU d c' v0 vals:=fun vals=>by
  unfold iU;rw[U9,Tn,Tn];have hk:∀v∈aK d,(decide (v=v0) ||jX d c vals v)=(decide (v=v0) ||jX d c' vals v):=fun v hv=>by
   by_cases hvv:v=v0
   ·simp[hvv]
   ·unfold jX;rw[h v hv hvv]
  exact⟨fun h1 v hv=>by rw[<- hk v hv];exact h1 v hv,fun h1 v hv=>by rw[hk v hv];exact h1 v hv⟩
 unfold jh;exact gF fun w _=>by rw[e]
def ij:List Int->Int
 | []=>0
 |a :: l=>l.foldl max a
def foldl_max (l:List Int):∀a,a<=l.foldl max a/\(∀x∈l,x<=l.foldl max a)/\(l.foldl max a=a\/l.foldl max a∈l):=by
 induction l with
 |nil=>exact fun a=>⟨Int.le_refl _,fun x h=>(by cases h),.inl rfl⟩
 |cons b l ih =>
  intro a;obtain⟨h1,h2,h3⟩:=ih (max a b);simp only[TF];refine⟨O,fun x hx=>?_,?_⟩
  ·rcases List.mem_cons.1 hx with rfl|hx
   ·omega
   ·exact h2 x hx
  ·rcases h3 with h3|h3
   ·rw[h3];rcases Int.le_total a b with h|h
    ·rw[Int.max_eq_right h];exact .inr (W5)
    ·rw[Int.max_eq_left h];exact .inl rfl
   ·exact .inr (by simp[h3])
def B2 {x:Int}(h:x∈l):x<=ij l:=by
 cases l with
 |nil=>cases h
 |cons a l =>
  obtain⟨h1,h2,_⟩:=foldl_max l a;rcases List.mem_cons.1 h with rfl|h
  ·exact h1
  ·exact h2 x h
def yr (h:l≠[]):ij l∈l:=by
 cases l with
 |nil=>exact absurd rfl h
 |cons a l =>
  rcases(foldl_max l a).2.2 with h|h
  ·show l.foldl max a∈_;rw[h];simp
  ·exact UN _ h
def lU (d:Xa)(c:Nat->Nat->Int)(v0 r:Nat)(n:Nat):List Int:=(List.range n).map fun (x:Nat)=>jh d c v0 r (x:Int)
def B3 {x:Nat}(h:x<n):(lU d c v0 r n)[x]?=some (jh d c v0 r (x:Int)):=by unfold lU;rw[List.getElem?_map,Th h];rfl
def B4 (d:Xa)(c:Nat->Nat->Int)(v0 r n:Nat):(lU d c v0 r n).length=n:=by simp[lU]
def b9 (d:Xa)(v:Nat):Nat:=(kT d v).1.toNat
def cO (d:Xa)(v:Nat):Nat:=(kT d v).2.toNat
def uT (d:Xa)(c:Nat->Nat->Int)(v r:Nat):Int:=ij (lU d c v r (cO d v))
def mG (d:Xa)(c:Nat->Nat->Int)(v:Nat):List Int:=(List.range (b9 d v)).map fun r=>(((lU d c v r (cO d v)).idxOf (uT d c v r):Nat):Int)
def od (d:Xa)(p:List (List Int))(v:Nat):Prop:=∀r,r<b9 d v->jh d (fixC p) v r (fixC p (bd d.U v) r)=uT d (fixC p) v r
instance (d:Xa)(p:List (List Int))(v:Nat):Decidable (od d p v):=by unfold od;infer_instance
def ji {x:Xl}(hx:d.C[v]?=some x)(hc:0<=x.L):b9 d v=bM d.C x/\(cO d v:Int)=x.L:=by
 unfold b9 cO kT;rw[hx];simp only[Int.toNat_natCast];exact⟨trivial,O⟩
def yt (hok:Xf d)(c:Nat->Nat->Int)(hv:v∈aK d)(hr:r<b9 d v):
  ∃b:Nat,(mG d c v)[r]?=some (b:Int)/\b<cO d v/\jh d c v r (b:Int)=uT d c v r:=by
 obtain⟨v1,v2⟩:=gS.1 hv;have hrc:=yA hok v1 v2;have hn:1<=cO d v:=by unfold cO;omega
 have hne:lU d c v r (cO d v)≠[]:=fun h=>by
  have:=B4 d c v r (cO d v);rw[h]at this;simp at this;omega
 have hm:=yr hne;have hlt:=Tt hm;have hget:=T3 hlt;have hlt2:(lU d c v r (cO d v)).idxOf (ij (lU d c v r (cO d v)))<cO d v:=by have:=B4 d c v r (cO d v);omega
 refine⟨_,by unfold mG;rw[List.getElem?_map,Th hr];rfl,hlt2,?_⟩;have h2:=B3 (d:=d) (c:=c) (v0:=v) (r:=r) hlt2;rw[SP hlt,hget]at h2;exact(Option.some.inj h2).symm
def B5 (d:Xa)(c:Nat->Nat->Int)(v:Nat):(mG d c v).length=b9 d v:=by simp[mG]
def B6 (hk:k<p.length)(l:List Int)(k' r:Nat):fixC (p.set k l) k' r=if k'=k then l.getD r 0 else fixC p k' r:=by
 unfold fixC;rw[SV (l:=p.set k l),Ug];by_cases h:k=k'
 ·subst h;rw[SU rfl,SU hk,SU rfl];rfl
 ·rw[SQ h,SQ fun e=>h e.symm,SV (l:=p)]
def NO (hv:v∈aK d)(hw:w∈aK d)(h:bd d.U v=bd d.U w):v=w:=by
 obtain⟨v1,v2⟩:=gS.1 hv;obtain⟨w1,w2⟩:=gS.1 hw;have a:=nX v1 v2;have b:=nX w1 w2;rw[h,b]at a;exact(Option.some.inj a).symm
def yu (hp:Xo d p)(hv:v∈aK d):bd d.U v<p.length:=by
 obtain⟨v1,v2⟩:=gS.1 hv;rw[hp.len];exact aI (nX v1 v2)
def NP (hp:Xo d p){x:Xl}(hx:d.C[v]?=some x)(hb:d.U.testBit v=true)(hl:l.length=bM d.C x)(ha:∀a∈l,0<=a/\a<x.L):Xo d (p.set (bd d.U v) l):=by
 have hd:=qT hx hb;refine⟨by rw[Tl];exact hp.len,fun k w y l' hw hy hl'=>?_⟩;by_cases h:bd d.U v=k
 ·subst h;rw[hd]at hw;cases hw;rw[hx]at hy;cases hy;rw[Te (by rw[hp.len];exact aI hd)]at hl';cases hl';exact⟨hl,ha⟩
 ·rw[To h]at hl';exact hp.row k w y l' hw hy hl'
def NQ (hok:Xf d)(hp:Xo d p)(hv:v∈aK d):Xo d (p.set (bd d.U v) (mG d (fixC p) v)):=by
 obtain⟨v1,v2⟩:=gS.1 hv;obtain⟨x,hx⟩:=aq v1;have hc:=hok.n.L x (an hx);obtain⟨n1,n2⟩:=ji hx O;refine NP hp hx v2 (by rw[B5,n1]) fun a ha=>?_;obtain⟨r,hr⟩:=SY.1 ha;obtain⟨b,h1,h2,_⟩:=yt hok (fixC p) hv (r:=r) (by have:=aI hr;rwa [B5]at this);rw[h1]at hr;cases hr;omega
def NR (hok:Xf d)(hp:Xo d p)(hv:v∈aK d)(l:List Int):dU d (fixC (p.set (bd d.U v) l))=SS (b9 d v) fun r=>jh d (fixC p) v r (l.getD r 0):=by
 obtain⟨v1,v2⟩:=gS.1 hv;obtain⟨x,hx⟩:=aq v1;have hc:=hok.n.L x (an hx);obtain⟨n1,_⟩:=ji hx O;rw[B1 hok hx v2,n1];refine gF fun r _=>?_;rw[B6 (yu hp hv),SU rfl];exact NN (fun w hw hne r=>by
  rw[B6 (yu hp hv),SQ fun e=>hne (NO hw hv e)]) _ _
def NS (hok:Xf d)(p:List (List Int))(hv:v∈aK d):dU d (fixC p)=SS (b9 d v) fun r=>jh d (fixC p) v r (fixC p (bd d.U v) r):=by
 obtain⟨v1,v2⟩:=gS.1 hv;obtain⟨x,hx⟩:=aq v1;have hc:=hok.n.L x (an hx);obtain⟨n1,_⟩:=ji hx O;rw[B1 hok hx v2,n1]
def B7 (c:Nat->Nat->Int)(v r:Nat)(ha:0<=a/\a<cO d v):jh d c v r a<=uT d c v r:=by
 obtain⟨b,rfl⟩:=S5 ha.1;exact B2 (an (B3 (d:=d) (c:=c) (v0:=v) (r:=r) (n:=cO d v) O))
def uU (hok:Xf d)(hp:Xo d p)(hv:v∈aK d)(hr:r<b9 d v):0<=fixC p (bd d.U v) r/\fixC p (bd d.U v) r<cO d v:=by
 obtain⟨v1,v2⟩:=gS.1 hv;obtain⟨x,hx⟩:=aq v1;have hc:=hok.n.L x (an hx);obtain⟨n1,n2⟩:=ji hx O;rw[n2];exact pB hp _ v r x (qT hx v2) hx (O)
def NT (hok:Xf d)(hp:Xo d p)(hv:v∈aK d)(h:¬od d p v):dU d (fixC p)<dU d (fixC (p.set (bd d.U v) (mG d (fixC p) v))):=by
 rw[NR hok hp hv,NS hok p hv];have hle:∀r,r<b9 d v->jh d (fixC p) v r (fixC p (bd d.U v) r)<=jh d (fixC p) v r ((mG d (fixC p) v).getD r 0):=fun r hr=>by
  obtain⟨b,h1,_,h3⟩:=yt hok (fixC p) hv hr;rw[bq h1,h3];exact B7 _ _ _ (uU hok hp hv hr)
 obtain⟨r,hr⟩:=WR.1 h;obtain⟨hr1,hr2⟩:=Classical.not_imp.1 hr;refine BW hle hr1 ?_;obtain⟨b,h1,_,h3⟩:=yt hok (fixC p) hv hr1;have:=B7 (d:=d) (fixC p) v r (uU hok hp hv hr1);rw[bq h1,h3];omega
def isLocal (d:Xa)(p:List (List Int)):Prop:=∀v∈aK d,od d p v
instance (d:Xa)(p:List (List Int)):Decidable (isLocal d p):=by unfold isLocal;infer_instance
def pf (d:Xa)(p:List (List Int))(v:Nat):List (List Int):=if od d p v then p else p.set (bd d.U v) (mG d (fixC p) v)
structure Xg where
 N:Nat
 K:Nat
 cs:Nat->Nat
 cd:Nat->Nat
 nj:Nat->Nat->Nat
 nB:Nat->Nat->Nat
 nk:Nat->Int
 wt:Nat->Int
def Xg.br (D:Xg)(k w:Nat):Nat:=D.nj k w*D.cd k+D.nB k w
structure Xg.Ok (D:Xg):Prop where
 nj:∀k w,k<D.K->w<D.N->D.nj k w<D.cs k
 nB:∀k w,k<D.K->w<D.N->D.nB k w<D.cd k
 cd:∀k,k<D.K->1<=D.cd k
 wt:∀w,w<D.N->0<=D.wt w/\(D.wt w=0->D.nk w=0)
structure Xs where
 np:Nat->Nat->Nat
 nF:Nat->Nat->Bool
 E:Nat->Nat->Int
 B:Nat->Nat->Int
 T:Int
structure Xs.Ok (D:Xg)(t:Xs):Prop where
 np:∀k w,k+1<D.K->w<D.N->t.np (k+1) (D.nj (k+1) w)=D.br k w
 nF:∀k c,k<D.K->c<D.cs k->t.nF k c=false->∀w,w<D.N->D.nj k w=c->D.wt w=0
 last:∀k b,k+1=D.K->t.E k b=SS D.N fun w=>if D.br k w=b then D.nk w else 0
 step:∀k b,k+1<D.K->t.E k b=SS (D.cs (k+1)) fun c=>if t.np (k+1) c=b then t.B (k+1) c else 0
 ge:∀k c x,k<D.K->c<D.cs k->x<D.cd k->t.E k (c*D.cd k+x)<=t.B k c
 at':∀k c,k<D.K->c<D.cs k->∃x,x<D.cd k/\t.E k (c*D.cd k+x)=t.B k c
 tot:t.T=if D.K=0 then SS D.N D.nk else SS (D.cs 0) (t.B 0)
abbrev dc:=Nat->Nat->Nat
def dc.Ok (D:Xg)(p:dc):Prop:=∀k c,k<D.K->c<D.cs k->p k c<D.cd k
def Xg.im (D:Xg)(p:dc)(k w:Nat):Bool:=(List.range D.K).all fun j=>decide (j<k) ||decide (p j (D.nj j w)=D.nB j w)
variable {D:Xg}
def pt {p:dc}:D.im p k w=true↔∀j,k<=j->j<D.K->p j (D.nj j w)=D.nB j w:=by
 unfold Xg.im;rw[Tn];constructor
 ·intro h j h1 h2;have:=h j (S7.2 h2);simp only[Tx,decide_eq_true_eq]at this;rcases this with h3|h3
  ·omega
  ·exact h3
 ·intro h j hj;have hj:=S7.1 hj;simp only[Tx,decide_eq_true_eq];by_cases h1:j<k
  ·exact .inl h1
  ·exact .inr (h j O hj)
def O0 {p:dc}(hk:k<D.K):D.im p k w=true↔p k (D.nj k w)=D.nB k w/\D.im p (k+1) w=true:=by
 rw[pt,pt];constructor
 ·exact fun h=>⟨h k W8 hk,fun j h1 h2=>h j O h2⟩
 ·rintro⟨h1,h2⟩ j h3 h4;by_cases h:j=k
  ·subst h;exact h1
  ·exact h2 j O h4
def Xg.s (D:Xg)(p:dc)(k b:Nat):Int:=SS D.N fun w=>if D.br k w=b/\D.im p (k+1) w=true then D.nk w else 0
def Xg.total (D:Xg)(p:dc):Int:=SS D.N fun w=>if D.im p 0 w=true then D.nk w else 0
def vr (hD:D.Ok){c x:Nat}(hk:k<D.K)(hw:w<D.N)(hx:x<D.cd k):D.br k w=c*D.cd k+x↔D.nj k w=c/\D.nB k w=x:=by
 unfold Xg.br;have h1:=hD.nB k w hk hw;generalize D.nj k w=a at *
 generalize D.nB k w=y at *
 generalize D.cd k=m at *
 constructor
 ·intro h;have e1:(a*m+y) / m=a:=by rw[UB,Nat.mul_add_div O,Ux h1,Nat.add_zero]
  have e2:(c*m+x) / m=c:=by rw[UB,Nat.mul_add_div O,Ux hx,Nat.add_zero]
  have hac:a=c:=by rw[<- e1,<- e2,h]
  subst hac;exact⟨rfl,O⟩
 ·rintro⟨rfl,rfl⟩;rfl
def CP (hD:D.Ok){p:dc}(hp:p.Ok D)(hk:k<D.K)(Q:Nat->Bool)(R:Nat->Bool)(hQ:∀w,w<D.N->R (D.nj k w)=Q w):
  (SS (D.cs k) fun c=>if R c=true then D.s p k (c*D.cd k+p k c) else 0)=SS D.N fun w=>if Q w=true/\D.im p k w=true then D.nk w else 0:=by
 have e:(SS (D.cs k) fun c=>if R c=true then D.s p k (c*D.cd k+p k c) else 0)=SS (D.cs k) fun c=>SS D.N fun w=>if c=D.nj k w then (if Q w=true/\D.im p k w=true then D.nk w else 0) else 0:=by
  refine gF fun c hc=>?_;unfold Xg.s;by_cases hR:R c=true
  ·rw[SU hR];refine gF fun w hw=>?_;have hb:=vr hD (c:=c) hk hw (hp k c hk hc);by_cases h1:c=D.nj k w
   ·subst h1;rw[SU rfl];have h2:=hQ w hw;rw[hR]at h2;have:(D.br k w=D.nj k w*D.cd k+p k (D.nj k w)/\D.im p (k+1) w=true)↔(Q w=true/\D.im p k w=true):=by
     rw[hb,O0 hk,<- h2];constructor
     ·rintro⟨⟨_,h⟩,h'⟩;exact⟨rfl,h.symm,h'⟩
     ·rintro⟨_,h,h'⟩;exact⟨⟨rfl,h.symm⟩,h'⟩
    by_cases h3:Q w=true/\D.im p k w=true
    ·rw[SU h3,SU (this.2 h3)]
    ·rw[SQ h3,SQ fun h=>h3 (this.1 h)]
   ·rw[SQ h1,SQ fun h=>h1 (hb.1 h.1).1.symm]
  ·rw[SQ hR];refine((gF (g:=fun _=>(0:Int)) fun w hw=>?_).trans (qB _)).symm;by_cases h1:c=D.nj k w
   ·subst h1;rw[SU rfl,SQ fun h=>hR ((hQ w hw).trans h.1)]
   ·rw[SQ h1]
 rw[e,BU];exact gF fun w hw=>BV (hD.nj k w hk hw) _
variable {t:Xs}
def CQ (hD:D.Ok)(ht:t.Ok D){p:dc}(hp:p.Ok D)(hk:k+1<D.K)(b:Nat):
  D.s p k b=SS (D.cs (k+1)) fun c=>if t.np (k+1) c=b then D.s p (k+1) (c*D.cd (k+1)+p (k+1) c) else 0:=by
 have:=CP hD hp hk (fun w=>decide (D.br k w=b)) (fun c=>decide (t.np (k+1) c=b)) fun w hw=>by rw[ht.np k w hk hw]
 simp only[decide_eq_true_eq]at this;rw[this];rfl
def CR (ht:t.Ok D)(p:dc)(hk:k+1=D.K)(b:Nat):D.s p k b=t.E k b:=by
 rw[ht.last k b hk];unfold Xg.s;refine gF fun w _=>?_;have:D.im p (k+1) w=true:=pt.2 fun j h1 h2=>O
 simp only[this,and_true]
def O1 (hD:D.Ok){p:dc}(hp:p.Ok D)(hK:0<D.K):D.total p=SS (D.cs 0) fun c=>D.s p 0 (c*D.cd 0+p 0 c):=by
 have:=CP hD hp hK (fun _=>true) (fun _=>true) fun _ _=>rfl;simp only[if_true,true_and]at this;exact this.symm
def yO (hD:D.Ok)(ht:t.Ok D){p:dc}(hp:p.Ok D):∀(n k:Nat),k+n+1=D.K->∀b,D.s p k b<=t.E k b:=by
 intro n
 induction n with
 |zero=>exact fun k hk b=>Int.le_of_eq (CR ht p O b)
 |succ n ih =>
  intro k hk b;rw[CQ hD ht hp O,ht.step k b O];refine su fun c hc=>?_;by_cases h:t.np (k+1) c=b
  ·rw[SU h,SU h];exact VL (ih (k+1) O _) (ht.ge (k+1) c _ O hc (hp _ _ O hc))
  ·rw[SQ h,SQ h];omega
def CS (h:∀i,i<n->f i<=g i):SS n f=SS n g↔∀i,i<n->f i=g i:=by
 constructor
 ·intro e i hi;rcases Int.lt_or_eq_of_le (h i hi) with h1|h1
  ·have:=BW h hi h1;omega
  ·exact h1
 ·exact gF
def mO (D:Xg)(t:Xs)(p:dc)(k c:Nat):Prop:=D.s p k (c*D.cd k+p k c)=t.B k c
def yQ (hD:D.Ok)(ht:t.Ok D){p:dc}(hp:p.Ok D){c:Nat}(hk:k<D.K)(hc:c<D.cs k):
  mO D t p k c↔t.E k (c*D.cd k+p k c)=t.B k c/\(k+1<D.K->∀c',c'<D.cs (k+1)->t.np (k+1) c'=c*D.cd k+p k c->mO D t p (k+1) c'):=by
 have h1:=yO hD ht hp (D.K-k-1) k O (c*D.cd k+p k c);have h2:=ht.ge k c _ hk hc (hp k c hk hc);have key:k+1<D.K->(D.s p k (c*D.cd k+p k c)=t.E k (c*D.cd k+p k c)↔∀c',c'<D.cs (k+1)->t.np (k+1) c'=c*D.cd k+p k c->mO D t p (k+1) c'):=fun hk1=>by
  rw[CQ hD ht hp hk1,ht.step k _ hk1,CS fun c' hc'=>?_]
  ·constructor
   ·intro h c' hc' ha;have:=h c' hc';rw[SU ha,SU ha]at this;exact this
   ·intro h c' hc';by_cases ha:t.np (k+1) c'=c*D.cd k+p k c
    ·rw[SU ha,SU ha];exact h c' hc' ha
    ·rw[SQ ha,SQ ha]
  ·by_cases ha:t.np (k+1) c'=c*D.cd k+p k c
   ·rw[SU ha,SU ha];exact VL (yO hD ht hp (D.K-k-2) (k+1) O _) (ht.ge _ _ _ hk1 hc' (hp _ _ hk1 hc'))
   ·rw[SQ ha,SQ ha];omega
 unfold mO;constructor
 ·intro h;exact⟨O,fun hk1=>(key hk1).1 O⟩
 ·rintro⟨h3,h4⟩;by_cases hk1:k+1<D.K
  ·have:=(key hk1).2 (h4 hk1);omega
  ·rw[CR ht p O];exact h3
def yR (hD:D.Ok)(ht:t.Ok D){p:dc}(hp:p.Ok D):D.total p<=t.T/\(D.total p=t.T↔(0<D.K->∀c,c<D.cs 0->mO D t p 0 c)):=by
 rw[ht.tot];by_cases hK:D.K=0
 ·rw[SU hK];have:D.total p=SS D.N D.nk:=gF fun w _=>by rw[SU (pt.2 fun j _ h=>O)]
  rw[this];exact⟨Int.le_refl _,fun _ h=>O,fun _=>rfl⟩
 ·rw[SQ hK,O1 hD hp O];have hle:∀c,c<D.cs 0->D.s p 0 (c*D.cd 0+p 0 c)<=t.B 0 c:=fun c hc=>VL (yO hD ht hp (D.K-1) 0 O _) (ht.ge _ _ _ O hc (hp _ _ O hc));refine⟨su hle,?_⟩;rw[CS hle];exact⟨fun h _=>h,fun h=>h O⟩
def O2 (hD:D.Ok)(ht:t.Ok D):∀(n k:Nat),k+n+1=D.K->∀b,(∀w,w<D.N->D.br k w=b->D.nk w=0)->t.E k b=0:=by
 intro n
 induction n with
 |zero =>
  intro k hk b h;rw[ht.last k b O];refine(gF (g:=fun _=>(0:Int)) fun w hw=>?_).trans (qB _);by_cases hb:D.br k w=b
  ·rw[SU hb,h w hw hb]
  ·rw[SQ hb]
 |succ n ih =>
  intro k hk b h;rw[ht.step k b O];refine(gF (g:=fun _=>(0:Int)) fun c hc=>?_).trans (qB _);by_cases ha:t.np (k+1) c=b
  ·rw[SU ha];obtain⟨x,hx,e⟩:=ht.at' (k+1) c O hc;rw[<- e];refine ih (k+1) O _ fun w hw hb=>h w hw ?_;rw[<- ht.np k w O hw,((vr hD O hw hx).1 hb).1];exact ha
  ·rw[SQ ha]
abbrev Ch:=Nat->Nat->Option Nat
def j9 (D:Xg)(t:Xs)(ch:Ch):Nat->Nat->Nat->Bool
 |0,_,_=>true
 |n+1,k,c=>(List.range (D.cd k)).any fun x=>decide (t.E k (c*D.cd k+x)=t.B k c) &&
   !((List.range (D.cs (k+1))).any fun c'=>decide (t.np (k+1) c'=c*D.cd k+x) && t.nF (k+1) c' && !j9 D t ch n (k+1) c') &&
   (match ch k c with|none=>true|some y=>decide (y=x))
def gV (D:Xg)(t:Xs)(ch:Ch)(n k c x:Nat):Prop:=t.E k (c*D.cd k+x)=t.B k c/\(∀c',c'<D.cs (k+1)->t.np (k+1) c'=c*D.cd k+x->t.nF (k+1) c'=true->j9 D t ch n (k+1) c'=true)/\(∀y,ch k c=some y->y=x)
variable {ch:Ch}
def qL {c:Nat}:j9 D t ch (n+1) k c=true↔∃x,x<D.cd k/\gV D t ch n k c x:=by
 unfold j9 gV;rw[Vj];constructor
 ·rintro⟨x,hx,h⟩;simp only[Tv,decide_eq_true_eq,UQ,Vv,not_and,Bool.not_eq_false,S7]at h;obtain⟨⟨h1,h2⟩,h3⟩:=h;refine⟨x,S7.1 hx,h1,fun c' hc' ha ho=>?_,fun y hy=>?_⟩
  ·exact h2 c' hc' ⟨ha,ho⟩
  ·rw[hy]at h3;simpa using h3
 ·rintro⟨x,hx,h1,h2,h3⟩;refine⟨x,S7.2 hx,?_⟩;simp only[Tv,decide_eq_true_eq,UQ,Vv];refine⟨⟨h1,fun c' hc'=>?_⟩,?_⟩
  ·rintro⟨⟨ha,ho⟩,hq⟩;rw[h2 c' (S7.1 hc') ha ho]at hq;cases hq
  ·cases hch:ch k c with
   |none=>rfl
   |some y=>simpa using h3 y hch
def mP (D:Xg)(ch:Ch)(p:dc):Prop:=∀k c y,k<D.K->c<D.cs k->ch k c=some y->y=p k c
def O3 (hD:D.Ok)(ht:t.Ok D){p:dc}(hp:p.Ok D)(ha:mP D ch p):∀(n k:Nat),k+n=D.K->∀c,k<D.K->c<D.cs k->mO D t p k c->j9 D t ch n k c=true:=by
 intro n
 induction n with
 |zero=>intro k hk c hk2;omega
 |succ n ih =>
  intro k hk c hk2 hc hP;obtain⟨h1,h2⟩:=(yQ hD ht hp hk2 hc).1 hP;refine qL.2 ⟨p k c,hp k c hk2 hc,h1,fun c' hc' hab _=>?_,fun y hy=>ha k c y hk2 hc hy⟩;by_cases hk1:k+1<D.K
  ·exact ih (k+1) O c' hk1 hc' (h2 hk1 c' hc' hab)
  ·obtain rfl:n=0:=O;rfl
def jG (D:Xg)(t:Xs)(ch:Ch):Prop:=0<D.K->∀c,c<D.cs 0->t.nF 0 c=true->j9 D t ch D.K 0 c=true
noncomputable def kY (D:Xg)(t:Xs)(ch:Ch):dc:=fun k c=>by
 classical exact if h:∃x,x<D.cd k/\gV D t ch (D.K-k-1) k c x then Classical.choose h else (ch k c).getD 0
def vu {c:Nat}(h:∃x,x<D.cd k/\gV D t ch (D.K-k-1) k c x):kY D t ch k c<D.cd k/\gV D t ch (D.K-k-1) k c (kY D t ch k c):=by
 unfold kY;rw[dif_pos h];exact Classical.choose_spec h
def CT (hD:D.Ok)(hch:∀k c y,k<D.K->c<D.cs k->ch k c=some y->y<D.cd k):(kY D t ch).Ok D/\mP D ch (kY D t ch):=by
 constructor
 ·intro k c hk hc;by_cases h:∃x,x<D.cd k/\gV D t ch (D.K-k-1) k c x
  ·exact(vu h).1
  ·unfold kY;rw[dif_neg h];cases hq:ch k c with
   |none=>exact hD.cd k hk
   |some y=>exact hch k c y hk hc hq
 ·intro k c y hk hc hy;by_cases h:∃x,x<D.cd k/\gV D t ch (D.K-k-1) k c x
  ·exact(vu h).2.2.2 y hy
  ·unfold kY;rw[dif_neg h,hy];rfl
def O4 (hD:D.Ok)(ht:t.Ok D)(hch:∀k c y,k<D.K->c<D.cs k->ch k c=some y->y<D.cd k):∀(n k:Nat),k+n+1=D.K->∀c,c<D.cs k->(t.nF k c=true->j9 D t ch (n+1) k c=true)->mO D t (kY D t ch) k c:=by
 obtain⟨hp,_⟩:=CT (t:=t) hD hch;have zero:∀(n k:Nat),k+n+1=D.K->∀c,c<D.cs k->(∀w,w<D.N->D.nj k w=c->D.nk w=0)->mO D t (kY D t ch) k c:=by
  intro n k hk c hc h;obtain⟨x,hx,e⟩:=ht.at' k c O hc;have e0:t.B k c=0:=by
   rw[<- e];exact O2 hD ht n k hk _ fun w hw hb=>h w hw ((vr hD O hw hx).1 hb).1
  unfold mO;rw[e0];unfold Xg.s;refine(gF (g:=fun _=>(0:Int)) fun w hw=>?_).trans (qB _);by_cases hb:D.br k w=c*D.cd k+kY D t ch k c/\D.im (kY D t ch) (k+1) w=true
  ·rw[SU hb,h w hw ((vr hD O hw (hp k c O hc)).1 hb.1).1]
  ·rw[SQ hb]
 intro n
 induction n with
 |zero =>
  intro k hk c hc h;cases ho:t.nF k c
  ·exact zero 0 k hk c hc fun w hw hcw=>(hD.wt w hw).2 (ht.nF k c O hc ho w hw hcw)
  ·have hg:=qL.1 (h ho);rw[show (0:Nat)=D.K-k-1 by omega]at hg;obtain⟨h1,h2,h3⟩:=vu hg;exact(yQ hD ht hp O hc).2 ⟨h2,fun h=>O⟩
 |succ n ih =>
  intro k hk c hc h;cases ho:t.nF k c
  ·exact zero (n+1) k hk c hc fun w hw hcw=>(hD.wt w hw).2 (ht.nF k c O hc ho w hw hcw)
  ·have hg:=qL.1 (h ho);rw[show n+1=D.K-k-1 by omega]at hg;obtain⟨h1,h2,h3,h4⟩:=vu hg;rw[show D.K-k-1=n+1 by omega]at h3;exact(yQ hD ht hp O hc).2 ⟨h2,fun hk1 c' hc' hab=>ih (k+1) O c' hc' fun ho'=>h3 c' hc' hab ho'⟩
def sD (hD:D.Ok)(ht:t.Ok D)(hch:∀k c y,k<D.K->c<D.cs k->ch k c=some y->y<D.cd k):jG D t ch↔∃p:dc,p.Ok D/\mP D ch p/\D.total p=t.T:=by
 constructor
 ·intro h;obtain⟨hp,hag⟩:=CT (t:=t) hD hch;refine⟨_,hp,hag,(yR hD ht hp).2.2 fun hK c hc=>?_⟩;refine O4 hD ht hch (D.K-1) 0 O c hc fun ho=>?_;have:=h hK c hc ho;rw[show D.K=D.K-1+1 by omega]at this;exact this
 ·rintro⟨p,hp,hag,ht'⟩ hK c hc ho;exact O3 hD ht hp hag D.K 0 O c hK hc ((yR hD ht hp).2.1 ht' hK c hc)
def O5 (hD:D.Ok)(ht:t.Ok D):jG D t fun _ _=>none:=by
 have key:∀(n k c:Nat),k+n=D.K->k<D.K->c<D.cs k->j9 D t (fun _ _=>none) n k c=true:=by
  intro n
  induction n with
  |zero=>intro k c h1 h2;omega
  |succ n ih =>
   intro k c h1 h2 hc;obtain⟨x,hx,e⟩:=ht.at' k c h2 hc;refine qL.2 ⟨x,hx,e,fun c' hc' _ _=>?_,fun y hy=>by cases hy⟩;by_cases hk1:k+1<D.K
   ·exact ih (k+1) c' O hk1 hc'
   ·obtain rfl:n=0:=O;rfl
 exact fun hK c hc _=>key D.K 0 c O hK hc
end Go.Proofs
namespace Go.Hx
variable {P:Program}
variable {nn:List (List W9)}{ids:List Nat}{r:List W9}{lo:Nat}{e0 e1:TypeId}{v:W9}{H:Xn}
structure Xr (lo:Nat)(H:Xn)(e1 e0:TypeId)(v:W9)(ids:List Nat)(nn:List (List W9)):Prop where
 len:ids.length=nn.length
 nd:ids.Nodup
 ng:∀i∈ids,lo<=i/\i<H.A
 top:aD lo H e1 v (List.zipWith (fun i n=>W9.Q i 0 0 n 1) ids (nn.map List.length))
 row:∀(k id:Nat) (r:List W9),ids[k]?=some id->nn[k]?=some r->H.get id=some (.J 0 e0 r)
theorem Xr.nil :Xr lo H e1 e0 (.lit (.slice none 0 0)) [] [] :=
 ⟨rfl,.nil,fun i h=>(by cases h),.nil,fun k id r h=>(by simp at h)⟩
theorem Xr.nb {H':Xn}(h:Xr lo H e1 e0 v ids nn)(hn:H.A<=H'.A)(hk:∀id,lo<=id->id<H.A->H'.get id=H.get id):Xr lo H' e1 e0 v ids nn :=
 ⟨h.len,h.nd,fun i hi=>⟨(h.ng i hi).1,by have:=(h.ng i hi).2;omega⟩,h.top.nb W8 hn fun id _ h1 h2 _ _=>hk id h1 h2,fun k id r h1 h2=>by
  have:=h.ng id (an h1);rw[hk id this.1 this.2];exact h.row k id r h1 h2⟩
def Xr.app {n:Nat}{t:TypeId}{z:List W9}(ht:P.underlying t=some (.slice e1))(hz:P.cellsOf e1=1)(hzero:bU P e1=some z)(hby:P.bytesOf e1=24)(hne:e1≠e0)
  (hb:nn.length<2 ^ 40) (h:Xr lo H e1 e0 v ids nn) (hlo:lo<=H.A) (hn:n=H.A+2):
  ∃v' H',bT P (ext (ext H [.J 0 e0 r]) [.J 0 e1 [.Q H.A 0 0 r.length 1]]) n t t v (.Q (H.A+1) 0 0 1 1)=some (v',H')/\Xr lo H' e1 e0 v' (ids++[H.A]) (nn++[r])/\H.A<=H'.A/\(∀k,k<H.A->k<lo->H'.get k=H.get k):=by
 obtain⟨Hb,hHb⟩:∃Hb,Hb=ext H [.J 0 e0 r]:=⟨_,rfl⟩
 have nb:Hb.A=H.A+1:=hHb▸rfl
 have ob:Xb H Hb:=hHb▸.ext _ _
 have gb:=dv hHb
 have htop:=h.top.over ob;obtain⟨v',H',hA,hO,hL,hp⟩:=iT (P:=P) (H:=Hb) (t:=t) (x:=.Q H.A 0 0 r.length 1) (n:=n) ht hz hzero rfl (by rw[hby];simp[h.len];omega) htop O O;rw[nb,hHb]at hA;have nl:∀id g,lo<=id->id<Hb.A->Hb.get id=some (.J g e0 r)->H'.get id=Hb.get id:=fun id g h1 h2 h3=>hp id h2 fun g' m he=>by
  rcases htop with ⟨hv,_⟩|⟨i,g2,_,_,hv,h4⟩
  ·rw[hv]at he;cases he
  ·rw[hv]at he;obtain rfl:i=id:=(W9.Q.inj he).1;rw[h4]at h3;cases h3;exact hne rfl
 have oldr:∀id g q,lo<=id->id<Hb.A->Hb.get id=some (.J g e0 q)->H'.get id=Hb.get id:=fun id g q h1 h2 h3=>hp id h2 fun g' m he=>by
  rcases htop with ⟨hv,_⟩|⟨i,g2,_,_,hv,h4⟩
  ·rw[hv]at he;cases he
  ·rw[hv]at he;obtain rfl:i=id:=(W9.Q.inj he).1;rw[h4]at h3;cases h3;exact hne rfl
 refine⟨v',H',hA,⟨by simp[h.len],UP.2 ⟨h.nd,W5,fun a ha b hb=>by
  obtain rfl:=List.mem_singleton.1 hb;have:=(h.ng a ha).2;omega⟩,fun i hi=>?_,?_,fun k id q h1 h2=>?_⟩,O,fun k hk hkl=>?_⟩
 ·rcases Tk.1 hi with h1|h1
  ·have:=h.ng i h1;omega
  ·obtain rfl:=List.mem_singleton.1 h1;omega
 ·rw[TT,List.zipWith_append (by rw[S8];exact h.len)];exact hO
 ·have hk:=Tq.1 h1;obtain⟨hk,_⟩:=hk;rw[List.length_append,TR]at hk;rcases Tg k ids.length with hlt|hge
  ·rw[Ta hlt]at h1;rw[Ta (by rw[<- h.len];exact hlt)]at h2;have hr:=h.ng id (an h1);have hg:=h.row k id q h1 h2;rw[oldr id 0 q hr.1 O ((ob.nl id hr.2).trans hg),ob.nl id hr.2];exact hg
  ·obtain rfl:k=ids.length:=O;rw[Tu W8,Vx]at h1;rw[h.len,Tu W8,Vx]at h2;cases h1;cases h2;rw[oldr H.A 0 r hlo O gb];exact gb
 ·rw[hp k O fun g m he=>?_,ob.nl k hk];rcases htop with ⟨hv,_⟩|⟨i,g2,a1,_,hv,h4⟩
  ·rw[hv]at he;cases he
  ·rw[hv]at he;have:=(W9.Q.inj he).1;omega
def Xr.El (h:Xr lo H e1 e0 v ids nn)(h0:nn≠[]):∃id g,lo<=id/\id<H.A/\v=.Q id g 0 nn.length 1/\H.get id=some (.J g e1 (List.zipWith (fun i n=>W9.Q i 0 0 n 1) ids (nn.map List.length)))/\(e1≠e0->id ∉ ids):=by
 have hzl:(List.zipWith (fun i n=>W9.Q i 0 0 n 1) ids (nn.map List.length)).length=nn.length:=by simp[h.len]
 rcases h.top with ⟨hv,h4⟩|⟨i,g,a,b,hv,h4⟩
 ·rw[h4]at hzl;exact absurd (S3 hzl.symm) h0
 ·refine⟨i,g,a,b,by rw[hv,hzl],h4,fun hne hm=>?_⟩;obtain⟨k,hk⟩:=SY.1 hm;have hkl:k<nn.length:=by rw[<- h.len];exact(Tq.1 hk).1
  have:=h.row k i _ hk (SP hkl);rw[h4]at this;exact hne (Xe.J.inj (Option.some.inj this)).2.1
def Xr.store (h:Xr lo H e1 e0 v ids nn)(hne:e1≠e0){k id:Nat}{r':List W9}(hk:ids[k]?=some id)(hr:nn[k]?=some r)(hl:r'.length=r.length):Xr lo (H.upd id (.J 0 e0 r')) e1 e0 v ids (nn.set k r'):=by
 have hid:=h.ng id (an hk);have h0:nn≠[]:=fun e=>by rw[e]at hr;simp at hr
 refine⟨by rw[Tl];exact h.len,h.nd,fun i hi=>by rw[aF];exact h.ng i hi,?_,fun j id' q h1 h2=>?_⟩
 ·have e:(nn.set k r').map List.length=nn.map List.length:=by
   rw[Vo,hl];apply Ts;intro i;rw[Ug];split
   ·rename_i hi;subst hi;have hkl:=(Tq.1 hr).1;rw[SU (by rw[S8];exact hkl),List.getElem?_map,hr];rfl
   ·rfl
  rw[e];obtain⟨i,g,a,b,_,h4,h5⟩:=h.El h0;refine h.top.nb W8 (by rw[aF];exact Nat.le_refl _) fun i2 g2 _ _ h3 _=>?_;rw[ag,SQ];rintro rfl;rw[h.row k i2 r hk hr]at h3;cases h3;exact hne rfl
 ·rw[ag];by_cases hj:j=k
  ·subst hj;rw[hk]at h1;cases h1;rw[Te (Tq.1 hr).1]at h2;cases h2;rw[SU rfl]
  ·rw[To (fun e=>hj e.symm)]at h2;rw[SQ,h.row j id' q h1 h2];rintro rfl;exact hj ((TY (Tq.1 h1).1 h.nd).1 (by rw[h1,hk]))
theorem Xr.fz {S:Nat->Prop}{nx:Nat}(h:Xr lo H e1 e0 v ids nn)(hS:∀i,lo<=i->S i)(hr:∀r∈nn,∀c∈r,Fz S H nx c c):
  Fz S H nx v (.M nn.length (nn.map fun r=>.M r.length r)):=by
 have hz:(List.zipWith (fun i n=>W9.Q i 0 0 n 1) ids (nn.map List.length)).length=nn.length:=by simp[h.len]
 have:=h.top.fz (S:=S) (nx:=nx) (cs':=nn.map fun r=>.M r.length r) hS (by simp[h.len]) fun i hi hi'=>by
  simp only[S9,List.getElem_zipWith];have hil:i<nn.length:=O
  have hii:i<ids.length:=by rw[h.len];exact hil
  refine .ny (hS _ (h.ng _ (TC hii)).1) (h.row i _ _ (SP hii) (SP hil)) W5 fun j hj h2 h'=>?_;have e0:(0:Nat)+j=j:=Nat.zero_add j;have h3:=hr nn[i] (TC hil) _ (TC h');simpa only[e0] using h3
 rw[S8]at this;exact this
end Go.Hx
namespace Go.Proofs
open Go.Hx
end Go.Proofs
set_option linter.unusedVariables false
namespace Go.Proofs
open Go.Hx Go.RowKit Go.Lib
end Go.Proofs
namespace Go.Proofs
open Go.Hx
variable {need v:Nat}{d:Xa}
def sj:List Int->List Int->Prop
 |a :: l,b :: m=>a<b\/(a=b/\sj l m)
 |_,_=>False
def cH (d:Xa)(v:Nat):Nat:=match d.C[v]? with
 |some x=>bV x.F
 |none=>0
def ju (d:Xa)(need v:Nat):Prop:=need.testBit v=false/\cH d v &&& need=need/\cH d v &&& d.U=need &&& d.U
instance (d:Xa)(need v:Nat):Decidable (ju d need v):=by unfold ju;infer_instance
def jv (d:Xa)(need:Nat):Option Nat:=(aK d).find? fun v=>decide (ju d need v)
def fY (d:Xa):Nat->Nat->List Nat->Option (List Nat)
 |0,need,out=>if need &&& d.U=d.U then some out else none
 |f+1,need,out=>if need &&& d.U=d.U then some out else match jv d need with
  |none=>none
  |some v=>fY d f (need |||(cH d v |||2 ^ v)) (out++[v])
def fL (d:Xa):Option (List Nat):=fY d (aK d).length 0 []
def Bj (l:List Int)(hl:(l.length:Int)<2 ^ 39)(hp:∀q∈l,0<=q/\q<64)(H:Xn)(K:Xd->Xn->Prop)(hK:K (.ret (bJ (bV l))) H):ae Tryz.prog G0 135 [ah l] H K:=by
 refine ae.st (n:=18) (rs:=[.tmp 2]) Tryz.func135 ?_;simp only[go_sem];refine W.aP 130856 (by rfl) (fun ρ Hx=>Hx=H/\∃j:Nat,ρ 8=aa j/\j<=l.length/\ρ 3=bJ (bV (l.take j))) (fun ρ H=>l.length-(iv (ρ 8)).toNat) ?_ ?_
 ·simp only[go_sem];exact⟨0,rfl,O,rfl⟩
 rintro ρ Hx ⟨rfl,j,h8,hj,h3⟩;refine W.vs ?_;by_cases hb:(j:Int)<l.length
 ·obtain⟨q,hq⟩:=aq (l:=l) (i:=j) O;obtain⟨q0,q1⟩:=hp q (an hq);obtain⟨u,rfl⟩:=S5 q0;have hne:=aM hq;have w1:=SN ((j:Int)+1) O;have b1:bV (l.take j)<2 ^ 64:=nV fun p h=>by have:=hp p (Tj h);omega
  have s1:=fun t x y=>ni (P:=Tryz.prog) (t:=t) (x:=x) (y:=y) (k':=.i64) (s:=u) O;have s2:=fun t x y=>kv (P:=Tryz.prog) (t:=t) (x:=x) (y:=y) (b:=2 ^ u) b1 (Ui W6 O);simp only[go_sem,h8,h3,hb,hq,hne,w1,s1,s2];exact⟨⟨j+1,rfl,O,by rw[aU hq,uN];rfl⟩,O⟩
 ·simp only[go_sem,h8,h3,hb];rw[SR O];exact ar.mk W8 hK
noncomputable def cJ (d:Xa):Int:=if lh (Xf d) then (if (fL d).isSome then 0 else 4) else 200
noncomputable def nP (d:Xa):List Nat:=if cJ d=0 then (fL d).getD [] else []
def nat_ne {a b:Nat}(h:¬a=b):¬(a:Int)=(b:Int):=O
def x8 (h:jv d need=some v):v∈aK d/\ju d need v:=by
 unfold jv at h;exact⟨Wt h,of_decide_eq_true (List.find?_some (p:=fun v=>decide (ju d need v)) h)⟩
def x9 {l:List Nat}:∀ {m:List Nat},l.Nodup->(∀x∈l,x∈m)->l.length<=m.length:=by
 induction l with
 |nil=>intro m _ _;simp
 |cons a l ih =>
  intro m hd hs;obtain⟨h1,h2⟩:=U3.1 hd;have ha:=hs a W5;have:=ih (m:=m.erase a) h2 fun x hx=>(List.mem_erase_of_ne (by rintro rfl;exact h1 hx)).2 (hs x (by simp[hx]));rw[List.length_erase_of_mem ha]at this;have hm:0<m.length:=List.length_pos_of_mem ha;simp only[List.length_cons];omega
def Li {p:Nat->Bool}:∀ {l:List Nat} {k v:Nat},l[k]?=some v->p v=true->(∀j w,j<k->l[j]?=some w->p w=false)->l.find? p=some v:=by
 intro l
 induction l with
 |nil=>intro k v h;simp at h
 |cons a l ih =>
  intro k v h hp hno;cases k with
  |zero =>
   simp only[List.getElem?_cons_zero,Option.some.injEq]at h;subst h;rw[List.find?_cons_of_pos hp]
  |succ k =>
   have h0:=hno 0 a O rfl;rw[List.find?_cons_of_neg (by rw[h0];simp)];exact ih (by simpa using h) hp fun j w hj hw=>hno (j+1) w O (by simpa using hw)
def dS :v∈aK d↔v<d.C.length/\d.U.testBit v=true:=gS
def Bk (hR:XA d):need &&& d.U=d.U↔∀v∈aK d,need.testBit v=true:=by
 constructor
 ·intro h v hv;have hb:=(dS.1 hv).2;rw[<- h,Uv]at hb;simp only[Tv]at hb;exact hb.1
 ·intro h;refine Uj fun i=>?_;rw[Uv];cases hb:d.U.testBit i with
  |false=>simp
  |true=>rw[h i (dS.2 ⟨mC (yB hR) hb,hb⟩)];rfl
def Lj (d:Xa)(hf:Xv d)(H:Xn)(K:Xd->Xn->Prop)(hK:K (.ret (.na [ah (bf (nP d)),aa (cJ d)])) H):ae Tryz.prog G0 103 [eC d] H K:=by
 refine ae.Z ⟨_,Tryz.func103,rfl,rfl⟩ fun hcl=>?_;refine ae.st (n:=77) (rs:=[.tmp 2,.tmp 3]) Tryz.func103 ?_;simp only[go_sem,iI,cu];obtain⟨H1,hH1⟩:∃H1,H1=ext H [.J 0 38 (cu d)]:=⟨_,rfl⟩
 have g1:=dv hH1
 have n1:H1.A=H.A+1:=hH1▸rfl
 have o1:Xb H H1:=hH1▸.ext _ _
 unfold cu at hH1;rw[<- hH1];refine az.Z (Dm d hf _ _ ⟨trivial,?_⟩);have nilF:∀ {Hx:Xn} (e:Int),cJ d=e->e≠0->Xb H Hx->ar Tryz.prog G0 H K (.na [.lit (.slice none 0 0),.lit (.int .i64 e)]) Hx:=fun {Hx} e he h0 ov=>by
  have ev:nP d=[]:=by unfold nP;rw[he,SQ h0]
  rw[ev,he]at hK;refine ar.bE aH hcl ov ?_ hK;exact .na rfl fun i hi _=>match i,hi with
   |0,_=>.nil
   |1,_=>.lit _
 by_cases hok:Xf d;rotate_left
 ·rw[jI hok];simp only[go_sem];exact nilF 200 (by unfold cJ;rw[jI hok];rfl) W6 o1
 rw[eI hok];have hRn:=hok.n;have hn8:=hRn.n1.2;have hD:=hf.U;simp only[go_sem];obtain⟨R,hR⟩:∃R,R=ext H1 [.J 0 35 [.lit (.int .u64 0)]]:=⟨_,rfl⟩
 have nR:R.A=H.A+2:=by rw[hR,aX,n1];rfl
 have oR:Xb H1 R:=hR▸.ext _ _
 have g6:R.get (H.A+1)=some (.J 0 35 [.lit (.int .u64 ((0:Nat):Int))]):=by rw[hR,<- n1];exact da
 rw[<- hR];have hdl:eY d.U d.C.length=aK d:=rfl;have dl8:(aK d).length<=d.C.length:=nZ;have parb:∀v x,d.C[v]?=some x->d.U.testBit v=true->(∀q∈x.F,0<=q/\q<64)/\(x.F.length:Int)<2 ^ 39:=fun v x hx hb=>by
  obtain⟨x1,x2⟩:=hRn.dec v x hx hb;have:=yC hn8 x2 hRn.L;exact⟨fun q hq=>by have:=x2.2 q hq;omega,O⟩
 refine W.aP 75557575495538205196460 (by rfl) (fun ρ Hx=>∃(f need:Nat) (out:List Nat),need<2 ^ 64/\R.A<=Hx.A/\(∀id,id<R.A->id≠H.A+1->Hx.get id=R.get id)/\Hx.get (H.A+1)=some (.J 0 35 [.lit (.int .u64 (need:Int))])/\aD R.A Hx 3 (ρ 5) (ints (bf out))/\out.length+f=(aK d).length/\fY d f need out=fL d/\out.Nodup/\∀v∈out,v∈aK d/\need.testBit v=true) (fun ρ H=>(aK d).length-yH (ρ 5)) ?_ ?_
 ·simp only[go_sem];exact⟨(aK d).length,0,[],W6,g6,.nil,W5,rfl,W5,fun v h=>by cases h⟩
 rintro ρ Hx ⟨f,need,out,hnd,hnx,hold,hg6,hO,hfl,hgo,hond,hom⟩;obtain⟨ov,hov⟩:∃ov,ov=ρ 5:=⟨_,rfl⟩
 rw[<- hov]at hO;refine W.env fun E hE=>?_;have e1:E 1=.R H.A 0 0:=by rw[hE];simp only[go_sem]
 have e5:E 5=ov:=by rw[hE];simp only[go_sem,hov]
 have e6:E 6=.R (H.A+1) 0 0:=by rw[hE,<- n1];simp only[go_sem]
 clear hE;refine W.vs ?_;have x1:=af ((hold H.A O O).trans ((oR.nl _ O).trans g1));have x6:=af hg6;unfold cu at x1;have a1:=fun t x y=>wz (P:=Tryz.prog) (t:=t) (x:=x) (y:=y) hnd hD;by_cases hdone:need &&& d.U=d.U
 ·have hdi:((need &&& d.U:Nat):Int)=(d.U:Int):=by rw[hdone]
  have hrl:fL d=some out:=by
   rw[<- hgo];cases f with
   |zero=>unfold fY;rw[SU hdone]
   |succ f=>unfold fY;rw[SU hdone]
  simp only[go_sem,e1,e5,e6,x1,x6,a1,hdi];have re:cJ d=0:=by unfold cJ;rw[eI hok,hrl];rfl
  have rv:nP d=out:=by unfold nP;rw[SU re,hrl];rfl
  rw[re,rv]at hK;refine ar.bE (v':=.na [ah (bf out),aa 0]) aH hcl ⟨O,fun id h=>by rw[hold id O O,oR.nl _ O];exact o1.nl id h⟩ (.na rfl fun i hi _=>?_) hK
  match i,hi with
  |0,_=>exact hO.ie fun i h=>O
  |1,_=>exact .lit _
 have hdi:¬((need &&& d.U:Nat):Int)=(d.U:Int):=nat_ne hdone;obtain⟨f,rfl⟩:∃g,f=g+1:=by
  cases f with
  |succ g=>exact⟨g,rfl⟩
  |zero =>
   exfalso;refine hdone ((Bk hRn).2 fun v hv=>?_);refine TS fun hno=>?_;have hvo:v ∉ out:=fun hm=>hno (hom v hm).2;have:=x9 (l:=v :: out) (m:=aK d) (U3.2 ⟨hvo,hond⟩) fun x hx=>by
    rcases List.mem_cons.1 hx with rfl|hx
    ·exact hv
    ·exact(hom x hx).1
   simp at this;omega
 have x1e:∀L,(ext Hx L).X H.A 0=_:=fun L=>(c9 O).trans x1;simp only[go_sem,e1,e6,x1,x6,a1,hdi,x1e];refine az.Z (vC d _ _ ⟨trivial,?_⟩);simp only[go_sem];obtain⟨Q0,hQ0⟩:∃Q0,Q0=ext (ext Hx [.J 0 3 [.lit (.int .i64 (-1))]]) [kg d]:=⟨_,rfl⟩
 rw[<- hQ0];have nQ:Q0.A=Hx.A+2:=by rw[hQ0,aX,aX];rfl
 have oQ:Xb Hx Q0:=by rw[hQ0];exact(Xb.ext _ _).trans (.ext _ _)
 have e1n:(ext Hx [.J 0 3 [.lit (.int .i64 (-1))]]).A=Hx.A+1:=rfl;have gbx:Q0.get (Hx.A+1)=some (kg d):=by rw[hQ0,<- e1n];exact da
 have g7:Q0.get Hx.A=some (.J 0 3 [.lit (.int .i64 (-1))]):=by rw[hQ0,cP _ _ _ O];exact da
 refine W.env fun E2 hE2=>?_;have f1:E2 1=.R H.A 0 0:=by rw[hE2];simp only[go_sem,e1]
 have f5:E2 5=ov:=by rw[hE2];simp only[go_sem,e5]
 have f6:E2 6=.R (H.A+1) 0 0:=by rw[hE2];simp only[go_sem,e6]
 have f7:E2 7=.R Hx.A 0 0:=by rw[hE2];simp only[go_sem]
 have f24:E2 24=.Z 131 [] [.R (Hx.A+1) 0 0]:=by rw[hE2,<- e1n];rfl
 clear hE2;have x6':∀ {Hy:Xn},(∀id,id<Q0.A->id≠Hx.A->Hy.get id=Q0.get id)->Hy.X H.A 0=some (38,cu d)/\Hy.X (H.A+1) 0=some (35,[.lit (.int .u64 (need:Int))]):=fun h=>by
  refine⟨af ?_,af ?_⟩
  ·rw[h _ O O,oQ.nl _ O,hold _ O O,oR.nl _ O];exact g1
  ·rw[h _ O O,oQ.nl _ O];exact hg6
 refine W.pK (f:=131) (first:=[]) (cap:=[.R (Hx.A+1) 0 0]) (by show E2 24=_;exact f24) (vB d (by have:=hf.C.1;omega) hD (Hx.A+1))
  (fun k Hy=>Q0.A<=Hy.A/\(∀id,id<Q0.A->Hy.get id=Q0.get id)/\∀j v,j<k->(aK d)[j]?=some v->¬ju d need v)
  (fun c Hy=>c=.exit 2/\Q0.A<=Hy.A/\(∀id,id<Q0.A->id≠Hx.A->Hy.get id=Q0.get id)/\∃v:Nat,jv d need=some v/\Hy.get Hx.A=some (.J 0 3 [.lit (.int .i64 (v:Int))]))
  (fun k Hy h=>by rw[h.2.1 _ O];exact gbx)
  (fun k Hy b h=>⟨h.1,fun id h1=>by rw[ag,SQ O];exact h.2.1 id h1,h.2.2⟩)
  (fun c Hy b h=>⟨h.1,h.2.1,fun id h1 h2=>by rw[ag,SQ O];exact h.2.2.1 id h1 h2,by
   obtain⟨v,hv,hg⟩:=h.2.2.2;exact⟨v,hv,by rw[ag,SQ O];exact hg⟩⟩)
  (fun b=>⟨by rw[aX];omega,fun id h1=>bQ h1,fun j v h=>absurd h (Tb _)⟩)
  W6 vA (fun _ _ _=>trivial) (fun _ _ _=>trivial) (fun k y Hy B Bb hy hj hn hB hBb=>?_) (fun Hy hj hn=>?_) (fun Hy hs hn=>by cases hs.1) (fun i Hy hs hn=>?_)
 ·obtain⟨v,hv,rfl⟩:=sH hy;obtain⟨v1,v2,v3⟩:=nY hv;obtain⟨x,hx⟩:=aq (l:=d.C) (i:=v) v1;have hpb:=parb v x hx v2;have hpv:bV x.F=cH d v:=by unfold cH;rw[hx]
  have hp64:cH d v<2 ^ 64:=by rw[<- hpv];exact nV hpb.1
  have hne:=eV hx;have ec:=mB hx;have hvn:(v:Int)<d.C.length:=O
  obtain⟨hyn,hyo,hyno⟩:=hj;refine W.vs ?_;simp only[go_sem,ic,cG,jn,TF,Ur,TV,T1,hB];obtain⟨H3,hH3⟩:∃H3,H3=Hy.upd Q0.A Bb:=⟨_,rfl⟩
  rw[<- hH3];obtain⟨st,pd,n',en,ps',as',bo,hBe⟩:=hBb;have n3:H3.A=Hy.A:=by rw[hH3];rfl
  have o3:∀id,id<Q0.A->H3.get id=Q0.get id:=fun id h=>by rw[hH3,ag,SQ O];exact hyo id h
  have jB:H3.get Q0.A=some Bb:=by rw[hH3,ag,SU rfl]
  obtain⟨y1,y6⟩:=x6' (Hy:=H3) fun id h1 _=>o3 id h1;have y7:=af ((o3 Hx.A O).trans g7);unfold cu at y1;refine W.en (fun E1=>E1 1=.R H.A 0 0 /\ E1 6=.R (H.A+1) 0 0 /\ E1 7=.R Hx.A 0 0 /\ E1 9=aa v) (by simp only[go_sem,cG,f1,f6,f7]) fun E1 ⟨m1,m6,m7,m9⟩=>?_
  have go:ju d need v\/¬ju d need v:=Classical.em _;have s1:=fun t x y=>mi (P:=Tryz.prog) (t:=t) (x:=x) (y:=y) (k':=.i64) (s:=v) hnd;have s2:=fun t x y=>nj (P:=Tryz.prog) (t:=t) (x:=x) (y:=y) (s:=v) hnd;have s3:=fun t x y=>wz (P:=Tryz.prog) (t:=t) (x:=x) (y:=y) hp64 hnd;have s4:=fun t x y=>wz (P:=Tryz.prog) (t:=t) (x:=x) (y:=y) hp64 hD;have fin:¬ju d need v->H3.get Q0.A=some Bb/\Hy.A<=H3.A/\Q0.A<=H3.A/\(∀id,id<Q0.A->H3.get id=Q0.get id)/\∀j w,j<k+1->(aK d)[j]?=some w->¬ju d need w:=fun h =>
   ⟨jB,O,O,o3,fun j w hj hw=>by
    rcases Tg j k with h'|h'
    ·exact hyno j w h' hw
    ·obtain rfl:j=k:=O;rw[hv]at hw;cases hw;exact h⟩
  refine W.vs ?_;simp only[go_sem,m1,m9,y1,hvn,hne,ec];refine az.Z (Bj x.F hpb.2 hpb.1 _ _ ⟨⟨st,pd,n',en,ps',as',bo,by rw[jB,hBe]⟩,?_⟩);rw[hpv];cases c1:need.testBit v;rotate_left
  ·simp only[go_sem,m6,m9,y6,s1,s2,c1,eM];exact fin fun h=>by have:=h.1;rw[c1]at this;cases this
  by_cases c2:cH d v &&& need=need;rotate_left
  ·have c2i:=nat_ne c2;simp only[go_sem,m6,m9,y6,s1,s2,s3,c1,c2i,eM];exact fin fun h=>c2 h.2.1
  have c2i:((cH d v &&& need:Nat):Int)=(need:Int):=by rw[c2]
  by_cases c3:cH d v &&& d.U=need &&& d.U;rotate_left
  ·have c3i:=nat_ne c3;simp only[go_sem,m1,m6,m9,y1,y6,s1,s2,s3,s4,a1,c1,c2i,c3i,eM];exact fin fun h=>c3 h.2.2
  have c3i:((cH d v &&& d.U:Nat):Int)=((need &&& d.U:Nat):Int):=by rw[c3]
  simp only[go_sem,m1,m6,m7,m9,y1,y6,y7,s1,s2,s3,s4,a1,c1,c2i,c3i,eM];have hnx:jv d need=some v:=Li hv (Ty ⟨c1,c2,c3⟩) fun j w hj hw=>T4 (hyno j w hj hw);exact⟨by rw[ag,SQ O];exact jB,by rw[aF];omega,by rw[aF];omega,fun id h1 h2=>by rw[ag,SQ h2];exact o3 id h1,v,hnx,by rw[ag,SU rfl]⟩
 ·obtain⟨hyn,hyo,hyno⟩:=hj;rw[sI]at hyno;have hnone:jv d need=none:=by
   unfold jv;rw[VK];intro v hv;obtain⟨j,hj⟩:=SY.1 hv;have:=hyno j v (aI hj) hj;simpa using this
  have hrl:fL d=none:=by rw[<- hgo];unfold fY;rw[SQ hdone,hnone]
  have y7:=af ((hyo Hx.A O).trans g7);simp only[go_sem,f7,y7];exact nilF 4 (by unfold cJ;rw[eI hok,hrl];rfl) W6 ⟨O,fun id h=>by rw[hyo id O,oQ.nl _ O,hold _ O O,oR.nl _ O];exact o1.nl id h⟩
 ·obtain⟨hc,hyn,hyo,v,hv,hg7⟩:=hs;cases hc;obtain⟨hvm,hrk⟩:=x8 hv;obtain⟨v1,v2⟩:=dS.1 hvm;obtain⟨x,hx⟩:=aq v1;have hpb:=parb v x hx v2;have hpv:bV x.F=cH d v:=by unfold cH;rw[hx]
  have hp64:cH d v<2 ^ 64:=by rw[<- hpv];exact nV hpb.1
  have hne:=eV hx;have ec:=mB hx;have hvn:(v:Int)<d.C.length:=O
  have v0:¬(v:Int)<0:=O
  obtain⟨y1,y6⟩:=x6' hyo;have y7:=af hg7;unfold cu at y1;have oxy:∀id,id<Hx.A->Hy.get id=Hx.get id:=fun id h=>by rw[hyo id O O];exact oQ.nl id h
  have hOy:aD R.A Hy 3 ov (ints (bf out)):=hO.nb W8 O fun id g a b _ _=>oxy id b;have hol:=ve hOy;have nl:(bf out).length=out.length:=by simp[bf]
  rw[aS,nl]at hol;obtain⟨ov',Hj,hA,hO',hnj,hpj⟩:=iT (P:=Tryz.prog) (H:=Hy) (t:=46) (x:=aa v) (n:=Hy.A+1) Tryz.underlying46 Tryz.fm Tryz.fq rfl (by rw[Tryz.fM,aS,nl];omega) hOy O rfl;simp only[aa]at hA;have nb:∀id,id<R.A->Hj.get id=Hy.get id:=fun id h=>hpj id O (hOy.ne h);have keep7:Hj.get Hx.A=Hy.get Hx.A:=hpj _ O fun g n he=>by
   rcases hO with ⟨h,_⟩|⟨i,g2,a1,a2,h,_⟩
   ·rw[h]at he;cases he
   ·rw[h]at he;have:=(W9.Q.inj he).1;omega
  have j1:Hj.X H.A 0=some (38,cu d):=af (by rw[nb _ O,oxy _ O,hold _ O O,oR.nl _ O];exact g1);unfold cu at j1;have j6:Hj.X (H.A+1) 0=_:=af (by rw[nb _ O,oxy _ O];exact hg6);have j7:Hj.X Hx.A 0=_:=af (keep7.trans hg7);have b2v:(2:Nat) ^ v<2 ^ 64:=Ui W6 O;have s1:=fun t x y=>ni (P:=Tryz.prog) (t:=t) (x:=x) (y:=y) (k':=.i64) (s:=v) O;have s2:=fun t x y=>kv (P:=Tryz.prog) (t:=t) (x:=x) (y:=y) hp64 b2v;have s3:=fun t x y=>kv (P:=Tryz.prog) (t:=t) (x:=x) (y:=y) hnd (UO hp64 b2v);simp only[go_sem,f5,f7,y7,v0,hA];refine W.dr 11 [0,0,2,0,14,30,62,126,0,256,1022] Tryz.mixed ?_;simp only[go_sem,f1,f6,f7,j1,j6,j7,hvn,hne,ec];refine⟨bJ (cH d v),[],bp.pure fun H2=>by
   have:=Bj x.F hpb.2 hpb.1 H2 (fun r H3=>r=.ret (bJ (cH d v))/\H3=H2) ⟨by rw[hpv],rfl⟩;exact this,?_⟩
  simp only[go_sem,f1,f5,f6,f7,j6,s1,s2,s3];have hO2:aD R.A Hj 3 ov' (ints (bf (out++[v]))):=by
   have e:bf (out++[v])=bf out++[(v:Int)]:=(by simp[bf]);rw[e];simpa[ints,aa] using hO'
  have hol':=ve hO2;have nl':(bf (out++[v])).length=out.length+1:=by simp[bf]
  rw[aS,nl']at hol';have hvo:v ∉ out:=fun hm=>by have:=(hom v hm).2;rw[hrk.1]at this;cases this
  refine⟨by rw[aF];omega,⟨f,need |||(cH d v |||2 ^ v),out++[v],UO hnd (UO hp64 b2v),by rw[aF];omega,fun id h1 h2=>by rw[ag,SQ h2,nb _ h1,oxy _ O];exact hold id h1 h2,by rw[ag,SU rfl],hO2.nb W8 (by rw[aF];exact Nat.le_refl _) fun id g a _ _ _=>by rw[ag,SQ O],by rw[List.length_append,TR];omega,?_,UP.2 ⟨hond,W5,fun a ha b hb=>by obtain rfl:=List.mem_singleton.1 hb;rintro rfl;exact hvo ha⟩,fun w hw=>?_⟩,by rw[<- hov,hol,hol'];omega⟩
  ·rw[<- hgo]
   conv=>rhs;unfold fY
   rw[SQ hdone,hv]
  ·rcases Tk.1 hw with h|h
   ·exact⟨(hom w h).1,by rw[Tz,(hom w h).2];rfl⟩
   ·obtain rfl:=List.mem_singleton.1 h;exact⟨hvm,by rw[Tz,Tz,Ua];simp⟩
end Go.Proofs
