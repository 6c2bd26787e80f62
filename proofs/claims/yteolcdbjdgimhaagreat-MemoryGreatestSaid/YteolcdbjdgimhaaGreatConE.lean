/- Own work: contracts. -/
import Derived.Test.YteolcdbjdgimhaaGreatConD
import Derived.Test.YteolcdbjdgimhaaGreatRows
import Derived.Test.YteolcdbjdgimhaaGreatLibC
import Derived.ProofKit
import Derived.Test.YteolcdbjdgimhaaGreatConB
import Derived.Test.YteolcdbjdgimhaaGreatConA
import Derived.Test.YteolcdbjdgimhaaGreatConC
set_option linter.all false
set_option maxHeartbeats 8000000
set_option maxRecDepth 100000
namespace Go.Proofs
open Go.Hx
variable {rem:Bool}{g:Int}{os ps r:List Nat}{l:List UtD}{ms ns:List ZL}{Y i known nx v:Nat}{x:UtD}{H:ZJ}
structure TopoR (ps:List Nat)(r:List Nat):Prop where
 len:r.length=ps.length
 nd:r.Nodup
 nk:∀v∈r,v<ps.length
 rk:∀(i v:Nat),r[i]?=some v->∀u,(ps.getD v 0).testBit u=true->∃j,j<i/\r[j]?=some u
def QO (hp:∀p∈ps,p<2 ^ 64):∀(k:Nat) (out:List Nat) (done:Nat) (r:List Nat),jg ps k out done=some r->(∀i,done.testBit i=true↔i∈out)->out.Nodup->(∀v∈out,v<ps.length)->(∀(i v:Nat),out[i]?=some v->∀u,(ps.getD v 0).testBit u=true->∃j,j<i/\out[j]?=some u) ->
  r.length=out.length+k/\r.Nodup/\(∀v∈r,v<ps.length)/\(∀(i v:Nat),r[i]?=some v->∀u,(ps.getD v 0).testBit u=true->∃j,j<i/\r[j]?=some u):=by
 intro k
 induction k with
 |zero =>
  intro out done r h h1 h2 h3 h4;unfold jg at h;cases h;exact⟨rfl,h2,h3,h4⟩
 |succ k ih =>
  intro out done r h h1 h2 h3 h4;unfold jg at h;cases hn:mn ps done with
  |none=>rw[hn]at h;cases h
  |some v =>
   rw[hn]at h;obtain⟨a,b,c⟩:=zJ hp hn;have hvo:v ∉ out:=fun hm=>by rw[(h1 v).2 hm]at b;cases b
   obtain⟨e1,e2,e3,e4⟩:=ih (out++[v]) (done |||2 ^ v) r h (fun i=>by
    rw[jC,V3,List.mem_singleton,Wr,h1,decide_eq_true_eq];exact or_congr Iff.rfl eq_comm) (Xy.2 ⟨h2,ZF,fun x hx y hy=>by obtain rfl:=List.mem_singleton.1 hy;rintro rfl;exact hvo hx⟩) (fun x hx=>by
    rcases V3.1 hx with hx|hx
    ·exact h3 x hx
    ·obtain rfl:=List.mem_singleton.1 hx;exact a) (fun i x hx u hu=>by
    have hl:=aI hx;rw[List.length_append,Wl]at hl;rcases VV i out.length with hi|hi
    ·rw[VH hi]at hx;obtain⟨j,j1,j2⟩:=h4 i x hx u hu;exact⟨j,j1,by rw[VH O];exact j2⟩
    ·obtain rfl:i=out.length:=O;simp only[Y0,Option.some.injEq]at hx;subst hx;obtain⟨j,hj⟩:=VG.1 ((h1 u).1 (c u hu));exact⟨j,aI hj,by rw[VH (aI hj)];exact hj⟩)
   exact⟨by rw[e1,List.length_append,Wl];omega,e2,e3,e4⟩
def QP (hp:∀p∈ps,p<2 ^ 64)(h:gI ps=some r):TopoR ps r:=by
 obtain⟨e1,e2,e3,e4⟩:=QO hp ps.length [] 0 r h (fun i=>ZF) ZF ZF ZF;exact⟨by simpa using e1,e2,e3,e4⟩
def QQ:∀(n:Nat) (l:List Nat),l.Nodup->(∀v∈l,v<n)->l.length<=n:=by
 intro n
 induction n with
 |zero=>intro l _ h;cases l with
  |nil=>simp
  |cons a l=>exact absurd (h a ZF) (VN _)
 |succ n ih =>
  intro l hd h;have h1:=ih (l.erase n) (hd.erase n) fun v hv=>by
   have h2:=(hd.mem_erase_iff).1 hv;have:=h v h2.2;omega
  have h3:=List.length_erase (a:=n) (l:=l);split at h3<;>omega
def mY (r:List Nat)(i v:Nat):Prop:=∃j,j<i/\r[j]?=some v
def mY.up {k:Nat}(h:mY r i v)(hk:i<=k):mY r k v:=h.imp fun j hj=>⟨O,hj.2⟩
structure DrD (ns:List ZL)(r:List Nat)(rem:Bool)(i known Y:Nat)(os:List Nat)(ms:List ZL):Prop where
 L:ak ms=ak ns
 nb:∀v,Y.testBit v=false->ms[v]?=ns[v]?
 dec:∀v x,ms[v]?=some x->Y.testBit v=true->x.na=[]/\∃s j,x.F=fy s 8/\j<i/\r[j]?=some v/\∀u,s.testBit u=true->mY r j u
 decsb:∀v,Y.testBit v=true->mY r i v
 knownb:∀v,known.testBit v=true->mY r i v
 os3:os.length<=3
 osm:∀v,v∈os↔Y.testBit v=true
 osp:rem=true->os.Pairwise fun u v=>∀x y,ms[u]?=some x->ms[v]?=some y->Sub (cJ x.F |||2 ^ u) (cJ y.F)
 osk:rem=true->∀u∈os,∀x,ms[u]?=some x->Sub (cJ x.F |||2 ^ u) known
def DrD.len (h:DrD ns r rem i known Y os ms):ms.length=ns.length:=by
 have:=congrArg List.length h.L;simpa[ak] using this
def DrD.start (ns:List ZL)(r:List Nat)(rem:Bool):DrD ns r rem 0 0 0 [] ns :=
 ⟨rfl,fun _ _=>rfl,fun v x _ h=>by simp at h,fun v h=>by simp at h,fun v h=>by simp at h,ZF,fun v=>ZF,fun _=>.nil,fun _ u hu=>by cases hu⟩
def DrD.skip (h:DrD ns r rem i known Y os ms):DrD ns r rem (i+1) known Y os ms :=
 ⟨h.L,h.nb,fun v x hx hb=>by
  obtain⟨a,s,j,b,c,d⟩:=h.dec v x hx hb;exact⟨a,s,j,b,O,d⟩,fun v hb=>(h.decsb v hb).up O,fun v hb=>(h.knownb v hb).up O,h.os3,h.osm,h.osp,h.osk⟩
def DT {s:Nat}(h:s<2 ^ 8):cJ (fy s 8)=s:=by
 have h0:∀p∈fy s 8,0<=p:=fun p hp=>by obtain⟨v,rfl,_⟩:=sC.1 hp;omega
 refine Xd fun i=>?_;rw[mT h0];cases hb:s.testBit i with
 |true=>exact V8 (sC.2 ⟨i,rfl,pH h hb,hb⟩)
 |false =>
  refine W2 fun hm=>?_;obtain⟨v,e,_,hv⟩:=sC.1 hm;obtain rfl:i=v:=O
  rw[hb]at hv;cases hv
def DU {n:Nat}(hr:∀v∈r,v<n)(h:mY r i v):v<n:=h.elim fun _ hj=>hr v (an hj.2)
def wV {n s:Nat}(hr:∀v∈r,v<n)(h:∀v,s.testBit v=true->mY r i v):s<2 ^ n:=zG fun v hv=>DU hr (h v hv)
def DrD.step (h:DrD ns r rem i known Y os ms)(hr:TopoR (bF ns) r)(h8:ns.length<=8)(ho:os.length<3)(hv:r[i]?=some v){x:ZL}(hx:ns[v]?=some x){s:Nat}(hs:Sub s (cJ x.F)):
  Y.testBit v=false/\v<ns.length/\(if rem then s |||known else s)<2 ^ ns.length /\
  DrD ns r rem (i+1) (known |||(if rem then s |||known else s) |||2 ^ v) (Y |||2 ^ v) (os++[v]) (ms.set v ⟨x.L,fy (if rem then s |||known else s) 8,[]⟩):=by
 obtain⟨s',hs'⟩:∃s',s'=(if rem then s |||known else s):=⟨_,rfl⟩
 rw[<- hs'];have hsl:(bF ns).length=ns.length:=by simp[bF]
 have hrng:=hr.nk;rw[hsl]at hrng;have hvn:=hrng v (an hv);have hml:=h.len;have inj:∀j,r[j]?=some v->j=i:=fun j hj=>(WV (aI hj) hr.nd).1 (by rw[hj,hv]);have hdv:Y.testBit v=false:=by
  cases hb:Y.testBit v with
  |false=>rfl
  |true =>
   obtain⟨j,j1,j2⟩:=h.decsb v hb;have:=inj j j2;omega
 have sb:∀u,s.testBit u=true->mY r i u:=fun u hu=>hr.rk i v hv u (by rw[bM (oJ hx)];exact hs u hu);have sb':∀u,s'.testBit u=true->mY r i u:=fun u hu=>by
  rw[hs']at hu;cases rem with
  |false=>exact sb u hu
  |true =>
   rw[VA rfl,WK,Wr]at hu;exact hu.elim (sb u) (h.knownb u)
 have hlt:=wV hrng sb';have hlt8:s'<2 ^ 8:=VM hlt (V0 ZG h8);have selfv:(ms.set v ⟨x.L,fy s' 8,[]⟩)[v]?=some ⟨x.L,fy s' 8,[]⟩:=VQ O;have othv:∀u,u≠v->(ms.set v ⟨x.L,fy s' 8,[]⟩)[u]?=ms[u]?:=fun u hu=>Wa (fun e=>hu e.symm);have osv:v ∉ os:=fun hm=>by rw[(h.osm v).1 hm]at hdv;cases hdv
 refine⟨hdv,hvn,hlt,⟨?_,fun u hu=>?_,fun u y hy hu=>?_,fun u hu=>?_,fun u hu=>?_,by simp;omega,fun u=>?_,fun hrem=>?_,fun hrem u hu y hy=>?_⟩⟩
 ·rw[<- h.L];unfold ak;rw[XD];apply V9;intro k;rw[WU];split
  ·rename_i e;subst e;have:=h.L;have h1:(ak ms)[v]?=(ak ns)[v]?:=(by rw[this]);rw[VA (by rw[VJ];omega)];rw[dw hx]at h1;exact h1.symm
  ·rfl
 ·rw[jC,Bool.or_eq_false_iff,Yr]at hu;rw[othv u (fun e=>hu.2 e.symm)];exact h.nb u hu.1
 ·by_cases e:u=v
  ·subst e;rw[selfv]at hy;cases hy;exact⟨rfl,s',i,rfl,O,hv,sb'⟩
  ·rw[othv u e]at hy;rw[jC,Wr,decide_eq_true_eq]at hu;obtain⟨a,s2,j,b,c,d⟩:=h.dec u y hy (hu.resolve_right fun e'=>e e'.symm);exact⟨a,s2,j,b,O,d⟩
 ·rw[jC,Wr,decide_eq_true_eq]at hu;rcases hu with hu|rfl
  ·exact(h.decsb u hu).up (O)
  ·exact⟨i,O,hv⟩
 ·rw[jC,WK,Wr,Wr,decide_eq_true_eq]at hu;rcases hu with (hu|hu)|rfl
  ·exact(h.knownb u hu).up (O)
  ·exact(sb' u hu).up (O)
  ·exact⟨i,O,hv⟩
 ·rw[jC,V3,List.mem_singleton,h.osm,Wr,decide_eq_true_eq];exact or_congr Iff.rfl eq_comm
 ·refine Xu.2 ⟨(h.osp hrem).imp_of_mem fun {a b} ha hb hab p q hp hq=>?_,ZF,fun a ha b hb p q hp hq=>?_⟩
  ·rw[othv a (fun e=>osv (e ▸ ha))]at hp;rw[othv b (fun e=>osv (e ▸ hb))]at hq;exact hab p q hp hq
  ·obtain rfl:=List.mem_singleton.1 hb;rw[othv a (fun e=>osv (e ▸ ha))]at hp;rw[selfv]at hq;cases hq;rw[show cJ (⟨x.L,fy s' 8,[]⟩:ZL).F=s' from DT hlt8,hs',VA hrem];exact(h.osk hrem a ha p hp).trans (Sub.right _ _)
 ·rcases V3.1 hu with hu|hu
  ·rw[othv u (fun e=>osv (e ▸ hu))]at hy;exact((h.osk hrem u hu y hy).trans (Sub.left _ _)).trans (Sub.left _ _)
  ·obtain rfl:=List.mem_singleton.1 hu;rw[selfv]at hy;cases hy;rw[show cJ (⟨x.L,fy s' 8,[]⟩:ZL).F=s' from DT hlt8];exact Sub.or ((Sub.right known s').trans (Sub.left _ _)) (Sub.right _ _)
structure DrI (rem:Bool)(d:ZM):Prop where
 ok:ZR d
 n5:d.C.length<=5
 na:∀v x,d.C[v]?=some x->d.Y.testBit v=false->x.na≠[]
 os:∃os:List Nat,os.length<=3/\(∀v,v∈os↔d.Y.testBit v=true)/\(rem=true->os.Pairwise fun u v=>∀x y,d.C[u]?=some x->d.C[v]?=some y->Sub (cJ x.F |||2 ^ u) (cJ y.F))
def DV (h:Z5 g ns):∀x∈ns,x.na≠[]:=fun x hx he=>by
 have h1:=(h.na x hx).1;have h2:=dY (l:=aV ns x) fun c hc=>(oL (fun q hq=>by have:=(h.node x hx).2.2 q hq;omega) (fun y hy=>(h.node y hy).1) c hc).1;rw[he]at h1;simp at h1;omega
def DrD.fin (h:DrD ns r rem i known Y os ms)(hn:Z5 g ns)(hr:TopoR (bF ns) r)(h5:ns.length<=5){us:List ZY}(hul:us.length<=4)(hus:∀u∈us,Z8 ns u):
  DrI rem ⟨g,ms,Y,us⟩:=by
 have hsl:(bF ns).length=ns.length:=by simp[bF]
 have hrng:=hr.nk;rw[hsl]at hrng;have hml:=h.len;have hdl:Y<2 ^ ns.length:=wV hrng h.decsb;have getN:∀(v:Nat) (x:ZL),ms[v]?=some x->∃y,ns[v]?=some y/\y.L=x.L:=fun v x hx=>by
  obtain⟨y,hy⟩:=ao (l:=ns) (i:=v) (by have:=aI hx;omega);refine⟨y,hy,?_⟩;have h1:(ak ms)[v]?=(ak ns)[v]?:=by rw[h.L]
  rw[dw hx,dw hy]at h1;exact(Option.some.inj h1).symm
 have hcard:∀x∈ms,1<=x.L/\x.L<=4:=fun x hx=>by
  obtain⟨v,hv⟩:=VG.1 hx;obtain⟨y,hy,e⟩:=getN v x hv;rw[<- e];exact(hn.node y (an hy)).1
 have hpl:∀(v:Nat) (x:ZL),ms[v]?=some x->cQ x.F ms.length:=fun v x hx=>by
  cases hb:Y.testBit v with
  |false =>
   rw[h.nb v hb]at hx;have:=(hn.node x (an hx)).2;rw[hml];exact this
  |true =>
   obtain⟨_,s,j,e,_,_,hs⟩:=h.dec v x hx hb;rw[e];refine⟨Rv _ _,fun q hq=>?_⟩;obtain⟨u,rfl,_,hu⟩:=sC.1 hq;have:=DU hrng (hs u hu);rw[hml];omega
 have hR:Z9 ⟨g,ms,Y,us⟩:=⟨by show 1<=ms.length/\ms.length<=8;rw[hml];exact hn.n1,by show Y >>> ms.length=0;rw[hml,Yo];exact Xb hdl,hcard,fun v x hx hb=>⟨(h.dec v x hx hb).1,hpl v x hx⟩⟩
 have hperm:nnh ns.length (bp r):=⟨by rw[show (bp r).length=r.length by simp[bp],hr.len,hsl],by
  unfold bp;exact List.Pairwise.map _ (R:=(·≠·)) (fun a b h e=>h O) hr.nd,fun q hq=>by
  obtain⟨v,hv,rfl⟩:=VI.1 hq;have:=hrng v hv;omega⟩
 have natg:∀(j v:Nat),(bp r)[j]?=some (v:Int)↔r[j]?=some v:=fun j v=>by
  unfold bp;rw[List.getElem?_map,Vw];exact⟨fun ⟨a,h1,h2⟩=>by rw[h1];congr 1;omega,fun h1=>⟨v,h1,rfl⟩⟩
 have hacy:mV (bF ms):=by
  refine Ee (P:=bp r) (by rw[hml];exact hperm) (fun v hv=>?_) fun j v x hj hx q hq=>?_
  ·refine V2 fun hno=>?_;rw[hml]at hv;have hsub:(v :: r).length<=ns.length:=by
    have hnd:(v :: r).Nodup:=XZ.2 ⟨fun hm=>hno (VI.2 ⟨v,hm,rfl⟩),hr.nd⟩;exact QQ ns.length _ hnd fun u hu=>by
     rcases List.mem_cons.1 hu with rfl|hu
     ·exact hv
     ·exact hrng u hu
   rw[List.length_cons,hr.len,hsl]at hsub;omega
  ·have q0:=((hpl v x hx).2 q hq).1;refine⟨q0,?_⟩;have hj':=(natg j v).1 hj;obtain⟨u,rfl⟩:=VE q0;cases hb:Y.testBit v with
   |false =>
    rw[h.nb v hb]at hx;obtain⟨k,k1,k2⟩:=hr.rk j v hj' u (by
     rw[bM (oJ hx),mT fun p hp=>((hn.node x (an hx)).2.2 p hp).1];exact V8 hq)
    exact⟨k,k1,(natg k u).2 k2⟩
   |true =>
    obtain⟨_,s,j',e,_,hj2,hs⟩:=h.dec v x hx hb;rw[e]at hq;obtain⟨u',eu,_,hu⟩:=sC.1 hq;obtain rfl:u=u':=O;obtain rfl:j'=j:=(WV (aI hj2) hr.nd).1 (by rw[hj2,hj']);obtain⟨k,k1,k2⟩:=hs u hu;exact⟨k,k1,(natg k u).2 k2⟩
 have hpc:∀x,aV ms x=aV ns x:=fun x=>by unfold aV;rw[h.L]
 refine⟨⟨hR,⟨hn.g1,by rw[ik];exact hR.n1,fun y hy=>?_,?_,by rw[Fb];exact hacy,fun y hy=>?_⟩,hul,fun u hu=>?_⟩,by show ms.length<=5;omega,fun v x hx hb=>?_,os,h.os3,h.osm,h.osp⟩
 ·obtain⟨v,x,hx,rfl⟩:=uM hy;rw[(jD ..).1,(jD ..).2,ik];exact⟨hcard x (an hx),hpl v x hx⟩
 ·rw[lF];show aj (ak ms)<=1024;rw[h.L];exact hn.size
 ·obtain⟨v,x,hx,rfl⟩:=uM hy;have hcx:=hcard x (an hx);have hx':ms[v]?=some x:=hx;unfold im;rw[uI];by_cases hb:Y.testBit v=true
  ·rw[uJ hx hb];have x1:=(hR.dec v x hx hb).1;have hsm:=(jK (x:=x) (ns:=ms) hR.n1.2 (hpl v x hx) hcard).prod;refine⟨?_,fun q hq=>?_⟩
   ·show ((x.na++eI g ms (fun _ _=>0) _ x).length:Int)=aj (aV ms x);rw[x1];simp only[eI,List.nil_append,VJ,WG,bB];omega
   ·rw[show ({ x with na:=x.na++eI g ms (fun _ _=>0) (aY Y v) x }:ZL).na=x.na++eI g ms (fun _ _=>0) (aY Y v) x from rfl,x1,List.nil_append]at hq;unfold eI at hq;obtain⟨i,hi,rfl⟩:=VI.1 hq;have:=hn.g1;exact Fa (by show 0<=g;omega) ⟨Int.le_refl 0,by show (0:Int)<x.L;omega⟩
  ·rw[qW hb];have hb':Y.testBit v=false:=(by simpa using hb);rw[h.nb v hb']at hx';have:=hn.na x (an hx');unfold im at this;show (x.na.length:Int)=aj (aV ms x)/\_;rw[hpc];exact this
 ·have:=hus u hu;exact⟨by show cQ u.vars ms.length;rw[hml];exact this.vars,by show _=aj (aK (ak ms) u.vars);rw[h.L];exact this.size,this.w⟩
 ·have hx':ms[v]?=some x:=hx;rw[h.nb v hb]at hx';exact DV hn x (an hx')
structure D20 where
 g:Int
 ps:List DrP
 ord:List Int
 Y:Int
 rem:Bool
 us:List UtD
structure D20.Ok (d:D20):Prop where
 g:U8 d.g
 ps:∀x∈d.ps,x.Ok
 pl:(d.ps.length:Int)<2 ^ 63
 ol:(d.ord.length:Int)<2 ^ 63
 o8:∀x∈d.ord,U8 x
 Y:U8 d.Y
 us:∀u∈d.us,u.Ok
 ul:(d.us.length:Int)<2 ^ 63
def oq (us:List UtD):List ZK:=(us.map UtD.cells).flatten
def D20.cells (d:D20):List ZK:=[.lit (.int .u8 d.g),.Q d.ps.length (gS d.ps),.Q d.ord.length (cu d.ord),.lit (.int .u8 d.Y),.lit (.bool d.rem),.Q d.us.length (oq d.us)]
def QR (h:l[i]?=some x):((oq l).drop (i*2)).take 2=[.lit (.int .u8 x.vars),.Q x.w.length (qM x.w)]:=pD (f:=UtD.cells) (z:=2) (fun _=>rfl) l i x h
def QS (h:l[i]?=some x):(oq l)[i*2]?=some (.lit (.int .u8 x.vars)):=jW (f:=UtD.cells) (z:=2) (fun _=>rfl) l i 0 x h (O)
def QT (h:l[i]?=some x):¬oq l=[]:=fun e=>by
 have:=QS h;rw[e]at this;simp at this
def QU {l:List ZL}{x:ZL}(p:List Int)(h:l[i]?=some x):((bD l).set (i*3+1) (ah p)).set (i*3+2) (.lit (.slice none 0 0))=bD (l.set i ⟨x.L,p,[]⟩):=by
 have hl:=aI h;have h1:=xc (f:=ZL.gZ) (z:=3) (fun _=>rfl) l i ⟨x.L,p,[]⟩ hl;have h2:=pD (f:=ZL.gZ) (z:=3) (fun _=>rfl) l i x h;unfold bD;rw[h1];have h3:(l.map ZL.gZ).flatten=((l.map ZL.gZ).flatten).take (i*3)++(x.gZ++((l.map ZL.gZ).flatten).drop (i*3+3)):=by
  rw[<- h2,<- Xt,V5,V5]
 have hlen:(((l.map ZL.gZ).flatten).take (i*3)).length=i*3:=by
  rw[VK,mh (f:=ZL.gZ) (z:=3) (fun _=>rfl)];omega
 conv=>lhs;rw[h3]
 rw[WA _ _ O,WA _ _ O,hlen,show i*3+1-i*3=1 by omega,show i*3+2-i*3=2 by omega];simp[ZL.gZ,eU]
def QV {l:List ZL}(h:∀x∈l,x.na≠[]):bD l=aG l:=by
 unfold bD aG;congr 1;exact V1 fun x hx=>by unfold ZL.gZ ZL.cells;rw[zK (h x hx)]
def zV {N:Nat}{e:TypeId}(h:H.get N=some (.J 0 e (bD ms))):Fz (fun _=>True) H nx (.agg [aa g,.U N 0 0 ms.length 3]) (dJ g ms):=by
 refine .agg rfl fun i hi _=>?_
 match i,hi with
 |0,_=>exact .lit _
 |1,_ =>
  refine .nz trivial h (kV ms) fun j hj h2 h'=>?_;have e0:(0:Nat)+j=j:=Nat.zero_add j;have h3:j<(bD ms).length:=O
  have:=zL (S:=fun _=>True) (H:=H) (nx:=nx) ms j h3 h';simpa only[e0] using this
def zW {S:Nat->Prop}(l:List ZY):∀c∈bj l,Fz S H nx c c:=by
 intro c hc;unfold bj at hc;obtain⟨r,hr,hc⟩:=Xc.1 hc;obtain⟨x,_,rfl⟩:=VI.1 hr;unfold ZY.cells at hc;simp only[List.mem_cons,List.not_mem_nil,or_false]at hc;rcases hc with rfl|rfl<;>exact .dK _
def QW (d:D20)(hd:d.Ok)(H:ZJ)(K:ZP->ZJ->Prop)(hK:∀x,DrI d.rem x->K (.ret (pP x)) H):ag Tryz.prog G0 6 [.agg d.cells] H K:=by
 refine ag.Z ⟨_,Tryz.func6,rfl,rfl⟩ fun hcl=>?_;refine ag.st (n:=128) (rs:=[.cell 2 38]) Tryz.func6 ?_;simp only[go_sem,D20.cells];obtain⟨H0,hH0⟩:∃H0,H0=ext H [.J 0 28 [.lit (.int .u8 d.g),.Q d.ps.length (gS d.ps),.Q d.ord.length (cu d.ord),.lit (.int .u8 d.Y),.lit (.bool d.rem),.Q d.us.length (oq d.us)],.J 0 38 [.lit (.int .i64 0),.lit (.slice none 0 0),.lit (.int .u64 0),.lit (.slice none 0 0)]]:=⟨_,rfl⟩
 have g00:=de hH0
 have g01:=gE hH0 1 rfl
 have n0:H0.A=H.A+2:=hH0▸rfl
 have o0:ZN H H0:=hH0▸.ext _ _
 rw[<- hH0];clear hH0;refine au.Z (Rt d.g d.ps d.ord hd.g hd.ps hd.pl hd.ol hd.o8 _ _ fun g ns N H' ov hN1 hN2 hget hnet h5 hp3=>⟨trivial,?_⟩);simp only[go_sem];obtain⟨B,hB⟩:∃B,B=H'.A:=⟨_,rfl⟩
 rw[<- hB];obtain⟨H1,hH1⟩:∃H1,H1=ext H' [.J 0 81 [.lit (.int .i64 g),.U N 0 0 ns.length 3],.J 0 38 [.lit (.int .i64 g),.U N 0 0 ns.length 3,.lit (.int .u64 0),.lit (.slice none 0 0)]]:=⟨_,rfl⟩
 have n1:H1.A=B+2:=by rw[hH1,hB];rfl
 have ovn:=ov.A;have g10:H1.get H.A=some (.J 0 28 [.lit (.int .u8 d.g),.Q d.ps.length (gS d.ps),.Q d.ord.length (cu d.ord),.lit (.int .u8 d.Y),.lit (.bool d.rem),.Q d.us.length (oq d.us)]):=by rw[hH1,dM _ _ _ O,ov.nb _ O];exact g00
 have g11:H1.get (H.A+1)=some (.J 0 38 [.lit (.int .i64 0),.lit (.slice none 0 0),.lit (.int .u64 0),.lit (.slice none 0 0)]):=by rw[hH1,dM _ _ _ O,ov.nb _ O];exact g01
 have gN:H1.get N=some (.J 0 87 (bD ns)):=by rw[hH1,dM _ _ _ O,QV (DV hnet)];exact hget
 have gB:H1.get B=some (.J 0 81 [.lit (.int .i64 g),.U N 0 0 ns.length 3]):=by rw[hH1,hB];exact dA ..
 have gB1:H1.get (B+1)=some (.J 0 38 [.lit (.int .i64 g),.U N 0 0 ns.length 3,.lit (.int .u64 ((0:Nat):Int)),.lit (.slice none 0 0)]):=by rw[hH1,hB];exact bH H' _ 1 (ZF)
 have o1:ZN H H1:=by rw[hH1];exact(o0.trans ov).trans (.ext _ _)
 rw[<- hH1];clear hH1 hget;have hsl:(bF ns).length=ns.length:=by simp[bF]
 have hpr:∀x∈ns,(x.F.length:Int)<2 ^ 39/\∀q∈x.F,0<=q/\q<(ns.length:Int):=fun x hx=>⟨by have:=hp3 x hx;omega,(hnet.node x hx).2.2⟩
 have hs8:∀p∈bF ns,p<2 ^ (bF ns).length:=by rw[hsl];exact AD fun x hx=>(hpr x hx).2
 obtain⟨r,hr⟩:=Wj.1 ((Ds hs8 O).2 hnet.acyc);have hTR:=QP (fun p h=>VM (hs8 p h) (V0 ZG O)) hr;have hrl:=hTR.len;rw[hsl]at hrl;refine au.Z ((ag.frame (H:=H1) (args:=[.agg [aa g,.U N 0 0 ns.length 3]]) (args':=[dJ g ns]) (v':=ah (bp r)) aJ rfl (fun i hi _=>?_) (RD g ns O hpr r hr cZ _ fun v H' _ ho=>⟨_,rfl,ho.mB⟩)).mono fun rr H2 hrr=>?_)
 ·match i,hi with
  |0,_=>exact zV gN
 obtain⟨rfl,rfl⟩:=hrr;refine⟨trivial,?_⟩;simp only[go_sem];refine W.vp (Q':=fun e s2=>e=.exit 0/\∃(i known Y:Nat) (os:List Nat) (ms:List ZL),s2.ρ 1=.M H.A 0 0/\s2.ρ 2=.M (H.A+1) 0 0/\s2.ρ 3=.M B 0 0/\s2.ρ 4=.M (B+1) 0 0/\DrD ns r d.rem i known Y os ms/\H2.A<=s2.H.A/\(∀id,id<H2.A->id≠N->id≠B+1->s2.H.get id=H2.get id)/\s2.H.get N=some (.J 0 87 (bD ms)) /\
  s2.H.get (B+1)=some (.J 0 38 [.lit (.int .i64 g),.U N 0 0 ns.length 3,.lit (.int .u64 (Y:Int)),.lit (.slice none 0 0)])) ?_ ?_
 rotate_left
 ·rintro e s2 ⟨rfl,i,known,Y,os,ms,e1,e2,e3,e4,L,hnx,hold,hN,hB1⟩;refine⟨s2,.refl _,ZI,trivial,?_⟩;obtain⟨ρ2,Hy⟩:=s2;dsimp only at e1 e2 e3 e4 hnx hold hN hB1;simp only[go_sem];have hml:=L.len;have hcd:∀x∈ms,1<=x.L/\x.L<=4:=fun x hx=>by
   obtain⟨v,hv⟩:=VG.1 hx;obtain⟨y,hy⟩:=ao (l:=ns) (i:=v) (by have:=aI hv;omega);have h1:(ak ms)[v]?=(ak ns)[v]?:=(by rw[L.L]);rw[dw hv,dw hy]at h1;rw[Option.some.inj h1];exact(hnet.node y (an hy)).1
  have hn1:=hnet.n1;obtain⟨ut,hut⟩:∃ut:List ZY,ut=d.us.map fun u=>fV u ms:=⟨_,rfl⟩
  refine W.aP 170141163178059628080016879768632823808 (by rfl) (fun ρ Hu=>∃(i:Nat) (uv:ZK),ρ 12=aa i/\i<=d.us.length/\i<=4/\Hy.A<=Hu.A/\(∀id,id<Hy.A->id≠B+1->Hu.get id=Hy.get id)/\Hu.get (B+1)=some (.J 0 38 [.lit (.int .i64 g),.U N 0 0 ns.length 3,.lit (.int .u64 (Y:Int)),uv])/\eO Hy.A Hu 90 2 uv i (bj (ut.take i))) (fun ρ H=>d.us.length-(iv (ρ 12)).toNat) ?_ ?_
  ·simp only[go_sem];exact⟨0,_,rfl,O,O,hB1,.nil⟩
  rintro ρ Hu ⟨i,uv,h12,hi,hi4,hnu,holdu,hBu,hO⟩;refine W.en (fun E=>E 1=.M H.A 0 0 /\ E 2=.M (H.A+1) 0 0 /\ E 3=.M B 0 0 /\ E 4=.M (B+1) 0 0 /\ E 12=aa i) (by simp only[go_sem,e1,e2,e3,e4,h12]) fun E ⟨f1,f2,f3,f4,f12⟩=>?_
  refine W.vs ?_;have uh:Hu.get H.A=_:=((holdu H.A O O).trans (hold H.A O O O)).trans g10;have l0:=ae uh;have lB:=ae (((holdu B O O).trans (hold B O O O)).trans gB);have lB1:=ae hBu;have hNu:Hu.get N=some (.J 0 87 (bD ms)):=(holdu N O O).trans hN;by_cases hb:(i:Int)<d.us.length/\(i:Int)<4
  ·obtain⟨u,hu⟩:=ao (l:=d.us) (i:=i) O;have huo:=hd.us u (an hu);have cne:=QT hu;have c0:=QR hu;have cl:i*2+2<=(oq d.us).length:=(by rw[show (oq d.us).length=d.us.length*2 from mh (f:=UtD.cells) (fun _=>rfl) _];omega);have w1:=Vv ((i:Int)+1) O;have hpc:∀Hq,Hq.get N=some (.J 0 87 (bD ms))->N<Hq.A->bL Tryz.prog G0 (.Z 34 [] []) [.agg [.lit (.int .u8 u.vars),.Q u.w.length (qM u.w)],.agg [.lit (.int .i64 g),.U N 0 0 ns.length 3]] Hq (.agg [ah (fV u ms).vars,ah (fV u ms).w]) [N]:=fun Hq hq hqn=>by
    refine bL.mk (fun i hi=>by obtain rfl:=List.mem_singleton.1 hi;exact hqn) fun H2 h1 h2=>?_;refine ag.frame (H:=H2) (args:=[.agg u.cells,.agg [aa g,.U N 0 0 ns.length 3]]) (args':=[.agg u.cells,dJ g ms]) (v':=.agg [ah (fV u ms).vars,ah (fV u ms).w]) aJ rfl (fun i hi _=>?_) (RE u huo g ms O hcd cZ _ fun v1 v2 H' _ o1 o2=>⟨_,rfl,.agg rfl fun i hi _=>?_⟩)
    ·match i,hi with
     |0,_ =>
      refine .agg rfl fun i hi _=>?_
      match i,hi with
      |0,_=>exact .lit _
      |1,_ =>
       refine .Q rfl fun j hj _=>?_;simp only[qM,VO];exact .lit _
     |1,_=>rw[<- hml];exact zV ((h1 N ZF).trans hq)
    ·match i,hi with
     |0,_=>exact o1.mB
     |1,_=>exact o2.mB
   obtain⟨uv',Hj,hA,hO',hnj,hpj⟩:=vr (P:=Tryz.prog) (xs:=[ah (fV u ms).vars,ah (fV u ms).w]) Tryz.underlying36 Tryz.CU Tryz.CW rfl rfl (by rw[Tryz.CV];omega) hO hnu rfl;simp only[ah]at hA;have nc:∀id,id<Hy.A->Hj.get id=Hu.get id:=fun id h=>hpj id O (hO.ne h);have lB1j:=ae ((nc _ O).trans hBu);have hvc:=hO'.cells;have hvo:=hO'.one;simp only[go_sem,f1,f12,l0,hb.1,hb.2];refine W.dr 10 [0,1,0,4,0,28,60,0,252,508] Tryz.mixed ?_;simp only[go_sem,f1,f3,f4,f12,l0,lB,lB1,cne,c0,cl,hb.1];refine⟨_,[N],hpc _ hNu O,?_⟩;simp only[go_sem,f4,f12,hA,lB1j,hvc,hvo,w1];have hug:ut[i]?=some (fV u ms):=(by rw[hut,List.getElem?_map,hu];rfl);have e2':bj (ut.take (i+1))=bj (ut.take i)++[ah (fV u ms).vars,ah (fV u ms).w]:=by
    rw[aU hug];unfold bj;rw[Wk,List.flatten_append];simp[ZY.cells]
   refine⟨⟨fun _ h=>O,fun _ h=>O⟩,by rw[aA];omega,⟨i+1,uv',rfl,O,O,by rw[aA];omega,fun id h1 h2=>by rw[af,Vx h2,nc _ h1];exact holdu id h1 h2,by rw[af,VA rfl],?_⟩,by rw[h12];simp only[aa,aZ];omega⟩;rw[e2'];exact hO'.nc (by rw[aA];omega) fun id gg h1 _ _=>by rw[af,Vx O]
  ·have fin:∀b,aq Tryz.prog G0 H K (.agg [.lit (.int .i64 g),.U N 0 0 ns.length 3,.lit (.int .u64 (Y:Int)),uv]) (Hu.upd (H.A+1) b):=fun b=>by
    have o1n:=o1.A;have ov2:ZN H (Hu.upd (H.A+1) b):=⟨by rw[aA];omega,fun id h=>by
     rw[af,Vx O,holdu id O O,hold id O O O];exact o1.nb id h⟩
    have htl:(ut.take i).length=i:=(by rw[VK,hut,VJ];omega);refine aq.bC (v':=pP ⟨g,ms,Y,ut.take i⟩) aJ hcl ov2 (.agg rfl fun j hj _=>?_) (hK _ (L.fin hnet hTR h5 O fun u hu=>?_))
    ·match j,hj with
     |0,_=>exact .lit _
     |1,_ =>
      show Fz _ _ _ (.U N 0 0 ns.length 3) (.Q ms.length (bD ms));rw[<- hml];refine .nz O (show (Hu.upd (H.A+1) b).get N=some (.J 0 87 (bD ms)) by rw[af,Vx O];exact hNu) (mW ms) fun j hj h2 h'=>?_;have e0:(0:Nat)+j=j:=Nat.zero_add j;have h3:j<(bD ms).length:=O;have:=zM (S:=fun id=>H.A<=id) (H:=Hu.upd (H.A+1) b) (nx:=H.A) ms _ (Wo h3);simpa only[e0] using this
     |2,_=>exact .lit _
     |3,_ =>
      show Fz _ _ _ uv (.Q (ut.take i).length (bj (ut.take i)));rcases hO with ⟨h,hz,hc⟩|⟨id,gg,k1,k2,h,k4,k5⟩
      ·rw[h,hc,htl,hz];exact .nil
      ·rw[h,htl];refine .nz O (show (Hu.upd (H.A+1) b).get id=some (.J gg 90 (bj (ut.take i))) by rw[af,Vx O];exact k5) k4 fun j hj h2 h'=>?_;have e0:(0:Nat)+j=j:=Nat.zero_add j;have h3:j<(bj (ut.take i)).length:=O;have:=zW (S:=fun id=>H.A<=id) (H:=Hu.upd (H.A+1) b) (nx:=H.A) (ut.take i) _ (Wo h3);simpa only[e0] using this
    ·have hu2:=VU hu;rw[hut]at hu2;obtain⟨p,hp,rfl⟩:=VI.1 hu2;have:=Rz p ms fun x hx=>(hcd x hx).1;exact⟨by have:=this.vars;rw[hml]at this;exact this,by have:=this.size;rw[L.L]at this;exact this,this.w⟩
   have lR:Hu.V (H.A+1) 0=_:=ae (((holdu (H.A+1) O O).trans (hold (H.A+1) O O O)).trans g11);have uvc:=hO.cells;have uvo:=hO.one;by_cases hb1:(i:Int)<d.us.length
   ·have hb4:¬(i:Int)<4:=fun h=>hb ⟨hb1,h⟩;simp only[go_sem,f1,f2,f4,f12,l0,lB1,lR,hb1,hb4,uvo];exact fin _
   ·simp only[go_sem,f1,f2,f4,f12,l0,lB1,lR,hb1,uvo];exact fin _
 refine W.aP 20282409603651670423947242901440 (by rfl) (fun ρ Hx=>∃(i known Y:Nat) (os:List Nat) (ms:List ZL),ρ 8=aa i/\i<=r.length/\ρ 6=bY known/\ρ 7=aa os.length/\DrD ns r d.rem i known Y os ms/\H2.A<=Hx.A/\(∀id,id<H2.A->id≠N->id≠B+1->Hx.get id=H2.get id)/\Hx.get N=some (.J 0 87 (bD ms)) /\
  Hx.get (B+1)=some (.J 0 38 [.lit (.int .i64 g),.U N 0 0 ns.length 3,.lit (.int .u64 (Y:Int)),.lit (.slice none 0 0)])) (fun ρ H=>r.length-(iv (ρ 8)).toNat) ?_ ?_
 ·simp only[go_sem];exact⟨0,0,0,[],ns,rfl,O,rfl,rfl,.start ns r d.rem,gN,gB1⟩
 rintro ρ Hx ⟨i,known,Y,os,ms,h8,hi,h6,h7,L,hnx,hold,hN,hB1⟩;refine W.en (fun E=>E 1=.M H.A 0 0 /\ E 2=.M (H.A+1) 0 0 /\ E 3=.M B 0 0 /\ E 4=.M (B+1) 0 0 /\ E 5=ah (bp r) /\ E 6=bY known /\ E 7=aa os.length /\ E 8=aa i) (by simp only[go_sem,h6,h7,h8]) fun E ⟨e1,e2,e3,e4,e5,e6,e7,e8⟩=>?_
 refine W.vs ?_;have l0:=ae ((hold H.A O O O).trans g10);have lB:=ae ((hold B O O O).trans gB);have lB1:=ae hB1;have lN:=ae hN;have hrng:=hTR.nk;rw[hsl]at hrng;have hml:=L.len;have natl:(bp r).length=r.length:=by simp[bp]
 have nat5:∀ {s:Nat},s<2 ^ ns.length->s<2 ^ 64:=fun h=>VM h (V0 ZG O);have hk64:known<2 ^ 64:=nat5 (wV hrng L.knownb);have hd64:Y<2 ^ 64:=nat5 (wV hrng L.decsb);by_cases hb:(i:Int)<r.length;rotate_left
 ·simp only[go_sem,e1,e2,e3,e4,e5,e8,natl,hb];exact⟨i,known,Y,os,ms,L,hnx,hold,hN,hB1⟩
 by_cases h3:os.length<3;rotate_left
 ·have h3':¬(os.length:Int)<3:=O
  simp only[go_sem,e1,e2,e3,e4,e5,e7,e8,natl,hb,h3'];exact⟨i,known,Y,os,ms,L,hnx,hold,hN,hB1⟩
 have h3':(os.length:Int)<3:=O
 obtain⟨v,hv⟩:=ao (l:=r) (i:=i) O;have hvi:(bp r)[i]?=some (v:Int):=by unfold bp;rw[List.getElem?_map,hv];rfl
 have hvne:=aO hvi;have hvn:=hrng v (an hv);have w1:=Vv ((i:Int)+1) O;obtain⟨r1,hr1⟩:∃r1,d.Y.fdiv (2 ^ (min ((i:Int)).toNat IntKind.u8.bits))=r1:=⟨_,rfl⟩
 obtain⟨r2,hr2⟩:∃r2,IntKind.u8.wrap (((BitVec.ofInt IntKind.u8.bits r1 &&& BitVec.ofInt IntKind.u8.bits 1).toNat:Nat):Int)=r2:=⟨_,rfl⟩
 have s1:∀t o1 o2,bI Tryz.prog .shr t o1 o2 (.lit (.int .u8 d.Y)) (.lit (.int .i64 (i:Int)))=some (.lit (.int .u8 r1)):=fun t o1 o2=>by rw[vk O,hr1]
 have s2:∀t o1 o2,bI Tryz.prog .and t o1 o2 (.lit (.int .u8 r1)) (.lit (.int .u8 1))=some (.lit (.int .u8 r2)):=fun t o1 o2=>by rw[vm,hr2]
 by_cases hrz:r2=0
 ·simp only[go_sem,e1,e2,e3,e4,e5,e6,e7,e8,natl,hb,h3',l0,hvi,hvne,s1,s2,hrz,w1];exact⟨hnx,⟨i+1,known,Y,os,ms,rfl,O,rfl,rfl,L.skip,hnx,hold,hN,hB1⟩,by rw[h8];simp only[aa,aZ];omega⟩
 obtain⟨x,hx⟩:=ao (l:=ns) (i:=v) hvn;have hdv:=(L.step hTR O h3 hv hx (s:=0) (fun i hi=>by simp at hi)).1;have hmx:ms[v]?=some x:=by rw[L.nb v hdv];exact hx
 have hxp:=hpr x (an hx);have hmp:∀y∈ms,(y.F.length:Int)<2 ^ 39/\∀q∈y.F,0<=q/\q<64:=fun y hy=>by
  obtain⟨u,hu⟩:=VG.1 hy;cases hbu:Y.testBit u with
  |false =>
   rw[L.nb u hbu]at hu;obtain⟨q1,q2⟩:=hpr y (an hu);exact⟨q1,fun q hq=>by have:=q2 q hq;omega⟩
  |true =>
   obtain⟨_,s,j,e,_⟩:=L.dec u y hu hbu;rw[e];refine⟨by have:=Eg s 8;omega,fun q hq=>?_⟩;obtain⟨z,rfl,hz,_⟩:=sC.1 hq;omega
 have hset:((bF ms).map bY)[v]?=some (bY (cJ x.F)):=by rw[List.getElem?_map,oJ hmx];rfl
 have hsne:=aO hset;have hmn:(bF ms).length=ns.length:=by rw[<- hml];simp[bF]
 simp only[go_sem,e1,e3,e5,e7,e8,natl,hb,h3',l0,lB,hvi,hvne,s1,s2,hrz];refine au.Z ((ag.frame (H:=Hx) (args:=[.agg [aa g,.U N 0 0 ns.length 3]]) (args':=[dJ g ms]) (v':=jJ (bF ms)) aJ rfl (fun i hi _=>?_) (RA g ms O hmp cZ _ fun v H' _ ho=>⟨_,rfl,RC ho⟩)).mono fun rr Hz hrr=>?_)
 ·match i,hi with
  |0,_=>rw[<- hml];exact zV hN
 obtain⟨rfl,rfl⟩:=hrr;refine⟨trivial,?_⟩;have hvI:(v:Int)<ns.length:=O
 simp only[go_sem,hset,hsne,hmn,hvI];have xs64:cJ x.F<2 ^ 64:=nat5 (pG hxp.2);refine W.aP 9444732684264313719808 (by rfl) (fun ρ2 Hq=>Hq=Hz/\∃k s:Nat,ρ2 11=aa k/\k<=x.F.length/\ρ2 10=bY s/\Sub s (cJ x.F)/\s<2 ^ 64) (fun ρ2 H=>x.F.length-(iv (ρ2 11)).toNat) ?_ ?_
 ·simp only[go_sem];exact⟨0,_,rfl,O,rfl,.refl _,xs64⟩
 rintro ρ2 Hq ⟨rfl,k,s,h11,hk,h10,hs,hs64⟩;refine W.en (fun E2=>E2 1=.M H.A 0 0 /\ E2 2=.M (H.A+1) 0 0 /\ E2 3=.M B 0 0 /\ E2 4=.M (B+1) 0 0 /\ E2 5=ah (bp r) /\ E2 6=bY known /\ E2 7=aa os.length /\ E2 8=aa i /\ E2 9=aa v /\ E2 10=bY s /\ E2 11=aa k) (by simp only[go_sem,e1,e2,e3,e4,e5,e6,e7,e8,h10,h11]) fun E2 ⟨f1,f2,f3,f4,f5,f6,f7,f8,f9,f10,f11⟩=>?_
 refine W.vs ?_;have nne:=Qc hmx;have nlen:=mW ms;have n1v:=qG hmx;by_cases hb2:(k:Int)<x.F.length
 ·obtain⟨q,hq⟩:=ao (l:=x.F) (i:=k) O;have hqr:=hxp.2 q (an hq);obtain⟨u,rfl⟩:=VE hqr.1;have hqne:=aO hq;have w2:=Vv ((k:Int)+1) O;by_cases hk2:(k:Int) >= 2
  ·have s3:=fun t x y=>oU (P:=Tryz.prog) (t:=t) (x:=x) (y:=y) (k':=.i64) (s:=u) O;have s4:=fun t x y=>AY (P:=Tryz.prog) (t:=t) (x:=x) (y:=y) (a:=s) (b:=2 ^ u);simp only[go_sem,f4,f9,f10,f11,lB1,lN,n1v,hvI,hb2,hk2,hq,hqne,w2,s3,s4];exact⟨⟨k+1,ju s (2 ^ u),rfl,O,rfl,fun i hi=>by rw[AW hs64,Wh]at hi;exact hs i hi.1,Gp _ _⟩,by rw[h11];simp only[aa,aZ];omega⟩
  ·simp only[go_sem,f4,f9,f10,f11,lB1,lN,n1v,hvI,hb2,hk2,w2];exact⟨⟨k+1,s,rfl,O,rfl,hs,hs64⟩,by rw[h11];simp only[aa,aZ];omega⟩
 ·obtain⟨s',hs'⟩:∃s',s'=(if d.rem then s |||known else s):=⟨_,rfl⟩
  have hsv:=L.step hTR O h3 hv hx hs;rw[<- hs']at hsv;obtain⟨_,_,hslt,L2⟩:=hsv;have s64:=nat5 hslt;have b2v:(2:Nat) ^ v<2 ^ 64:=WY ZG O;have o1':=fun t x y=>lO (P:=Tryz.prog) (t:=t) (x:=x) (y:=y) hd64 b2v;have o2':=fun t x y=>lO (P:=Tryz.prog) (t:=t) (x:=x) (y:=y) hk64 s64;have o3':=fun t x y=>lO (P:=Tryz.prog) (t:=t) (x:=x) (y:=y) (Xx hk64 s64) b2v;have o4':=fun t x y=>lO (P:=Tryz.prog) (t:=t) (x:=x) (y:=y) hs64 hk64;have s6:=fun t x y=>oU (P:=Tryz.prog) (t:=t) (x:=x) (y:=y) (k':=.i64) (s:=v) O;have w3:=Vv ((os.length:Int)+1) O;have nse:=QU (fy s' 8) hmx;have gone:∀b,(Hq.upd N b).V (B+1) 0=some (38,[.lit (.int .i64 g),.U N 0 0 ns.length 3,.lit (.int .u64 (Y:Int)),.lit (.slice none 0 0)]):=fun b=>(cH O).trans lB1;have st1:∀a,setAt (bD ms) (v*3+1) [a]=(bD ms).set (v*3+1) a:=fun a=>iK O;have st2:∀a b,setAt ((bD ms).set (v*3+1) a) (v*3+2) [b]=((bD ms).set (v*3+1) a).set (v*3+2) b:=fun a b=>iK (by rw[VW];omega);have gone2:∀b b',((Hq.upd N b).upd N b').V (B+1) 0=some (38,[.lit (.int .i64 g),.U N 0 0 ns.length 3,.lit (.int .u64 (Y:Int)),.lit (.slice none 0 0)]):=fun b b'=>(cH O).trans (gone b);simp only[ah]at nse;cases hrem:d.rem
  ·have es:s'=s:=(by rw[hs',hrem];rfl);subst es;simp only[go_sem,f1,f3,f4,f6,f7,f8,f9,f11,lB1,lN,n1v,hvI,hb2,l0,hrem];refine W.dr 5 [0,1,0,0,8] Tryz.mixed ?_;simp only[go_sem,f4,f9,f10,lB1,lN,hvI,hml,nlen,gone];refine⟨ah (fy s' 8),[],bL.pure fun H2=>Eh s' s64 H2 _ ⟨rfl,rfl⟩,?_⟩;simp only[go_sem,hml,nlen,st1,st2,nse,VW];refine⟨O,O,?_⟩;refine W.dr 4 [0,1,0,4] Tryz.mixed ?_;simp only[go_sem,f4,f6,f7,f8,f9,f10,gone2,s6,o1',o2',o3',w1,w3];refine⟨by simp only[aA];omega,⟨i+1,known |||s' |||2 ^ v,Y |||2 ^ v,os++[v],_,rfl,O,rfl,ZF,hrem ▸ L2,by simp only[aA];omega,fun id h1 h2 h3=>by simp only[af];rw[Vx h3,Vx h2,Vx h2];exact hold id h1 h2 h3,by rw[af,Vx O,af,VA rfl],by rw[af,VA rfl]⟩,by rw[h8];simp only[aa,aZ];omega⟩
  ·have es:s |||known=s':=by rw[hs',hrem];rfl
   rw[es]at o4';simp only[go_sem,f1,f3,f4,f6,f7,f8,f9,f10,f11,lB1,lN,n1v,hvI,hb2,l0,hrem,o4'];refine W.dr 5 [0,1,0,0,8] Tryz.mixed ?_;simp only[go_sem,f4,f9,f10,lB1,lN,hvI,hml,nlen,gone];refine⟨ah (fy s' 8),[],bL.pure fun H2=>Eh s' s64 H2 _ ⟨rfl,rfl⟩,?_⟩;simp only[go_sem,hml,nlen,st1,st2,nse,VW];refine⟨O,O,?_⟩;refine W.dr 4 [0,1,0,4] Tryz.mixed ?_;simp only[go_sem,f4,f6,f7,f8,f9,f10,gone2,s6,o1',o2',o3',w1,w3];refine⟨by simp only[aA];omega,⟨i+1,known |||s' |||2 ^ v,Y |||2 ^ v,os++[v],_,rfl,O,rfl,ZF,hrem ▸ L2,by simp only[aA];omega,fun id h1 h2 h3=>by simp only[af];rw[Vx h3,Vx h2,Vx h2];exact hold id h1 h2 h3,by rw[af,Vx O,af,VA rfl],by rw[af,VA rfl]⟩,by rw[h8];simp only[aa,aZ];omega⟩
end Go.Proofs
namespace Go.Proofs.YteolcdbjdgimhaaGreat
open Go.ChangeShapes Go.WideShapes Go.ChangeAt Go.RowKit Go.Hx
def Tryz.U:ownKnob Tryz.prog.godebug=none:=ZH
def Tryz.laidOut:laidOutB Tryz.prog=true:=ZH
def Tryz.MS:Tryz.prog.underlying 4=some .bool:=ZH
section
variable {W:World} {H:Type} {enc:TypeId × Value->H} {spare:Nat->Bool} {held:Bool}
def se {n:Nat}(h:n<=maxLen):(n:Int)<2 ^ 63:=by
 have:maxLen=9223372036854775807:=ZG
 omega
def pz {n:Int}(h:(Lit.int .u8 n).wf=true):U8 n:=by
 have:=wf_u8 h;unfold U8;omega
def MT {n:Int}(h:(Lit.int .u16 n).wf=true):0<=n/\n<65536:=by
 have:0<=n/\n<=65535:=by simpa[Lit.wf,IntKind.min,IntKind.max,IntKind.signed,IntKind.bits] using h
 omega
def MU:iw enc Tryz.prog W spare held 143 fun _ zs=>∃x:DrP,zs=x.cells/\x.Ok:=by
 have hu:=Tryz.underlying143;have c1:=Tryz.sf;have c2:=Tryz.zm;refine(vM (φ:=fun i _ xs=>if i=2 then ∃l:List Int,xs=[.Q l.length (rS .u8 l)]/\l.length<=maxLen/\∀c,c∈l->(Lit.int .u8 c).wf=true else ∃n,xs=[.lit (.int .u8 n)]/\(Lit.int .u8 n).wf=true) hu
  (fun cs hcs=>by
   have hc:Tryz.prog.cellsOf 143=3:=ZH;rw[hc]at hcs
   match cs,hcs with
   | [a,b,c],_=>simp[c1,c2])
  (fun i hi=>match i,hi with
   |0,_=>(qy Tryz.underlying5).mono fun _ _ ⟨n,_,h,w⟩=>⟨n,h,w⟩
   |1,_=>(qy Tryz.underlying5).mono fun _ _ ⟨n,_,h,w⟩=>⟨n,h,w⟩
   |2,_=>(vO Tryz.underlying23 Tryz.underlying5 c1).mono fun _ _ h=>h)).mono fun d zs ⟨ds,na,_,e,hl1,hl2,hall⟩=>?_
 match na,ds,hl2,hl1,hall with
 | [x,y,z],[d0,d1,d2],_,_,hall =>
  obtain⟨n0,e0,w0⟩:=hall 0 ZF ZF;obtain⟨n1,e1,w1⟩:=hall 1 ZF ZF;obtain⟨l,e2,w2,w3⟩:=hall 2 ZF ZF;simp only[Wq,Xn]at e0 e1 e2;subst e0;subst e1;subst e2;refine⟨⟨n0,n1,l⟩,by rw[e];rfl,?_⟩;exact⟨pz w0,pz w1,se w2,fun c hc=>pz (w3 c hc)⟩
def wf_i8 {n:Int}(h:(Lit.int .i8 n).wf=true):I8 n:=by
 have:-128<=n/\n<=127:=by simpa[Lit.wf,IntKind.min,IntKind.max,IntKind.signed,IntKind.bits] using h
 unfold I8;omega
def MV:iw enc Tryz.prog W spare held 93 fun _ zs=>∃x:UtD,zs=x.cells/\x.Ok:=by
 have hu:=Tryz.underlying93;have c1:=Tryz.sf;have c2:=Tryz.CX;have c3:=Tryz.C4;refine(vM (φ:=fun i _ xs=>if i=1 then ∃l:List Int,xs=[.Q l.length (rS .i8 l)]/\l.length<=maxLen/\∀c,c∈l->(Lit.int .i8 c).wf=true else ∃n,xs=[.lit (.int .u8 n)]/\(Lit.int .u8 n).wf=true) hu
  (fun cs hcs=>by
   have hc:Tryz.prog.cellsOf 93=2:=ZH;rw[hc]at hcs
   match cs,hcs with
   | [a,b],_=>simp[c1,c2])
  (fun i hi=>match i,hi with
   |0,_=>(qy Tryz.underlying5).mono fun _ _ ⟨n,_,h,w⟩=>⟨n,h,w⟩
   |1,_=>(vO Tryz.underlying91 Tryz.underlying147 c3).mono fun _ _ h=>h)).mono fun d zs ⟨ds,na,_,e,hl1,hl2,hall⟩=>?_
 match na,ds,hl2,hl1,hall with
 | [x,y],[d0,d1],_,_,hall =>
  obtain⟨n0,e0,w0⟩:=hall 0 ZF ZF;obtain⟨l,e2,w2,w3⟩:=hall 1 ZF ZF;simp only[Wq,Xn]at e0 e2;subst e0;subst e2;refine⟨⟨n0,l⟩,by rw[e];rfl,?_⟩;exact⟨pz w0,se w2,fun c hc=>wf_i8 (w3 c hc)⟩
def Cx {α:Type}{t e:TypeId}{f:α->List ZK}{q:α->Prop}(ht:Tryz.prog.underlying t=some (.slice e))(hz:0<Tryz.prog.cellsOf e)(he:iw enc Tryz.prog W spare held e fun _ zs=>∃x:α,zs=f x/\q x):
  iw enc Tryz.prog W spare held t fun _ zs=>∃l:List α,zs=[.Q l.length (l.map f).flatten]/\l.length<=maxLen/\∀x∈l,q x :=
 (B1 ht hz he).mono fun d zs h=>by
  rcases h with ⟨_,rfl⟩|⟨ds,rest,na,_,rfl,hr,_,hl⟩
  ·exact⟨[],rfl,WO _,fun c h=>by cases h⟩
  ·obtain⟨l,rfl,hq⟩:=B3 (f:=f) (q:=q) (fun d zs h=>h) hr;exact⟨l,by rw[VJ],by simpa using hl,hq⟩
def MW:iw enc Tryz.prog W spare held 25 fun _ zs=>∃(g:Int) (ps:List DrP) (ord:List Int),zs=[.lit (.int .u8 g),.Q ps.length (gS ps),.Q ord.length (cu ord)]/\U8 g/\(∀x∈ps,x.Ok)/\(ps.length:Int)<2 ^ 63/\(ord.length:Int)<2 ^ 63/\∀x∈ord,U8 x:=by
 have hu:=Tryz.underlying25;have c1:=Tryz.sf;have c2:=Tryz.zm;have c3:=Tryz.CO;have c4:=Tryz.C3;refine(vM (φ:=fun i _ xs=>if i=2 then ∃l:List Int,xs=[.Q l.length (rS .u8 l)]/\l.length<=maxLen/\∀c,c∈l->(Lit.int .u8 c).wf=true else if i=1 then ∃l:List DrP,xs=[.Q l.length (l.map DrP.cells).flatten]/\l.length<=maxLen/\∀x∈l,x.Ok else ∃n,xs=[.lit (.int .u8 n)]/\(Lit.int .u8 n).wf=true) hu
  (fun cs hcs=>by
   have hc:Tryz.prog.cellsOf 25=3:=ZH;rw[hc]at hcs
   match cs,hcs with
   | [a,b,c],_=>simp[c1,c2,c3])
  (fun i hi=>match i,hi with
   |0,_=>(qy Tryz.underlying5).mono fun _ _ ⟨n,_,h,w⟩=>⟨n,h,w⟩
   |1,_=>(Cx Tryz.underlying22 (by rw[c4];decide) MU).mono fun _ _ h=>h
   |2,_=>(vO Tryz.underlying23 Tryz.underlying5 c1).mono fun _ _ h=>h)).mono fun d zs ⟨ds,na,_,e,hl1,hl2,hall⟩=>?_
 match na,ds,hl2,hl1,hall with
 | [x,y,z],[d0,d1,d2],_,_,hall =>
  obtain⟨n0,e0,w0⟩:=hall 0 ZF ZF;obtain⟨ps,e1,w1,w1'⟩:=hall 1 ZF ZF;obtain⟨l,e2,w2,w3⟩:=hall 2 ZF ZF;simp only[Wq,Xn]at e0 e1 e2;subst e0;subst e1;subst e2;exact⟨n0,ps,l,by rw[e];rfl,pz w0,w1',se w1,se w2,fun c hc=>pz (w3 c hc)⟩
def MX:iw enc Tryz.prog W spare held 28 fun _ zs=>∃d:D20,zs=d.cells/\d.Ok:=by
 have hu:=Tryz.underlying28;have c1:=Tryz.sf;have c2:=Tryz.CN;have c3:=Tryz.CP;have c4:=Tryz.CQ;have c5:=Tryz.CY;refine(vM (φ:=fun i _ xs=>if i=0 then ∃(g:Int) (ps:List DrP) (ord:List Int),xs=[.lit (.int .u8 g),.Q ps.length (gS ps),.Q ord.length (cu ord)]/\U8 g/\(∀x∈ps,x.Ok)/\(ps.length:Int)<2 ^ 63/\(ord.length:Int)<2 ^ 63/\∀x∈ord,U8 x
   else if i=1 then ∃n,xs=[.lit (.int .u8 n)]/\(Lit.int .u8 n).wf=true else if i=2 then ∃b,xs=[.lit (.bool b)] else ∃l:List UtD,xs=[.Q l.length (l.map UtD.cells).flatten]/\l.length<=maxLen/\∀x∈l,x.Ok) hu
  (fun cs hcs=>by
   have hc:Tryz.prog.cellsOf 28=6:=ZH;rw[hc]at hcs
   match cs,hcs with
   | [a,b,c,d,e,f],_=>simp[c1,c2,c3,c4])
  (fun i hi=>match i,hi with
   |0,_=>MW.mono fun _ _ h=>h
   |1,_=>(qy Tryz.underlying5).mono fun _ _ ⟨n,_,h,w⟩=>⟨n,h,w⟩
   |2,_=>(Ib Tryz.underlying4).mono fun _ _ ⟨n,_,h⟩=>⟨n,h⟩
   |3,_=>(Cx Tryz.underlying26 (by rw[c5];decide) MV).mono fun _ _ h=>h)).mono fun d zs ⟨ds,na,_,e,hl1,hl2,hall⟩=>?_
 match na,ds,hl2,hl1,hall with
 | [x,y,z,u],[d0,d1,d2,d3],_,_,hall =>
  obtain⟨g,ps,ord,e0,w0,w0',w0'',w0''',w04⟩:=hall 0 ZF ZF;obtain⟨n1,e1,w1⟩:=hall 1 ZF ZF;obtain⟨b,e2⟩:=hall 2 ZF ZF;obtain⟨us,e3,w3,w3'⟩:=hall 3 ZF ZF;simp only[Wq,Xn]at e0 e1 e2 e3;subst e0;subst e1;subst e2;subst e3;exact⟨⟨g,ps,ord,n1,b,us⟩,by rw[e];rfl,⟨w0,w0',w0'',w0''',w04,pz w1,w3',se w3⟩⟩
def MY {r:Reach}{b:Nat}{v:Value}{d:DataW H}{ps:List MemPlace}(hval:Value.okWide Tryz.prog W r b 28 v)(hd:DataW.Trod enc Tryz.prog W 0 spare held 28 v d ps):
  ∃x:D20,ZO Tryz.prog jQ cZ W (.agg x.cells) v/\x.Ok:=by
 obtain⟨xs,h1,x,rfl,h2⟩:=Ig MX (.inl ⟨_,Tryz.underlying28⟩) hval hd;exact⟨x,h1,h2⟩
def MZ {r:Reach}{b:Nat}{v:Value}{d:DataW H}{ps:List MemPlace}(hval:Value.okWide Tryz.prog W r b 23 v)(hd:DataW.Trod enc Tryz.prog W 0 spare held 23 v d ps):
  ∃l:List Int,ZO Tryz.prog jQ cZ W (.Q l.length (cu l)) v/\(l.length:Int)<2 ^ 63/\∀x∈l,U8 x:=by
 obtain⟨l,h1,h2,h3⟩:=Ik Tryz.underlying23 Tryz.underlying5 Tryz.sf hval hd;exact⟨l,h1,se h2,fun c hc=>pz (h3 c hc)⟩
end
end Go.Proofs.YteolcdbjdgimhaaGreat
namespace Go.Hx
variable {P:Program} {G:Nat->Option (List ZK)}
variable {n ob:Nat}{e:TypeId}{b:ZQ}
def ZJ.jG (H:ZJ)(n ob:Nat)(b:ZQ):ZJ:=⟨fun id=>if n<=id then none else if id=ob then some b else H.get id,H.A⟩
variable {H:ZJ}
def QC (h:ob<n):(H.jG n ob b).get ob=some b:=by simp[ZJ.jG,Nat.not_le.2 h]
def QD {id:Nat}(h:id<n)(h2:id≠ob):(H.jG n ob b).get id=H.get id:=by simp[ZJ.jG,Nat.not_le.2 h,h2]
def QE (hc:Clo H){g:Nat}{cells cells':List ZK}(hob:H.get ob=some (.J g e cells))(hlt:ob<n)(hl:cells'.length=cells.length)
  (hcell:∀i (h:i<cells.length) (h':i<cells'.length),Fz (fun id=>n<=id) H H.A cells[i] cells'[i]):FzH (fun id=>n<=id) H (H.jG n ob (.J g e cells')) where
 gone id hs:=by simp[ZJ.jG,hs]
 kept id b hs hb:=by
  have hbb:=hc.below id b hb;refine⟨hc.lt id b hb,?_⟩;by_cases h:id=ob
  ·subst h;rw[hob]at hb;cases hb;exact⟨.J g e cells',by simp[ZJ.jG,hs],rfl,rfl,hl,hcell⟩
  ·refine⟨b,by simp[ZJ.jG,hs,h,hb],?_⟩;cases b with
   |nt=>trivial
   |mp=>rfl
   |J g e cells=>exact⟨rfl,rfl,rfl,fun i h _=>.dead (hbb i h)⟩
   |loop st pend n env ps asg body=>exact⟨rfl,rfl,rfl,rfl,rfl,rfl,rfl,fun t ht=>.dead (hbb t ht)⟩
 none id hs hb:=by
  by_cases h:id=ob
  ·subst h;rw[hob]at hb;cases hb
  ·simp[ZJ.jG,hs,h,hb]
theorem eF.jG (hG:gD G){s:St}{g:Nat}{cells cells':List ZK}(hob:s.H.get ob=some (.J g e cells))(hlt:ob<n)(hl:cells'.length=cells.length)
  (hcell:∀i (h:i<cells.length) (h':i<cells'.length),Fz (fun id=>n<=id) s.H s.H.A cells[i] cells'[i]):eF P G s ⟨s.ρ,s.H.jG n ob (.J g e cells')⟩:=by
 intro n' wb Γ a w hs;exact eF.freeze (s:=s) (s':=⟨s.ρ,s.H.jG n ob (.J g e cells')⟩) hG (QE hs.heap.Z hob hlt hl hcell) (fun t=>.dead (hs.env t).r8) n' wb Γ a w hs
theorem iC.upd {lo:Nat}{e1 e0:TypeId}{v:ZK}{na:List (List ZK)}(h:iC lo H e1 e0 v na){k:Nat}(hk:k<lo):iC lo (H.upd k b) e1 e0 v na:=by
 obtain⟨cs,c1,c2,c3⟩:=h;refine⟨cs,c1.nc ZI (by rw[aA];exact Nat.le_refl _) fun id _ h1 _ _ _=>by rw[af,Vx O],c2,fun j r c hr hc=>(c3 j r c hr hc).nc ZI (by rw[aA];exact Nat.le_refl _) fun id _ h1 _ _ _=>by rw[af,Vx O]⟩
end Go.Hx
namespace Go.Proofs
open Go.Hx
variable {p:Int × Int}{l:List (Int × Int)}{ns:List ZL}{i v:Nat}{x:ZL}{d:ZM}
def ot (ns:List ZL)(acc q:Int):Int:=if 0<=q/\q<ns.length/\acc<=1024 then acc*max 1 (min ((ak ns).getD q.toNat 0) 4) else acc
def jH (ns:List ZL)(ps:List Int):Int:=ps.foldl (ot ns) 1
def sv (d:ZM)(v:Nat)(x:ZL):ZL:=if d.Y.testBit v=true/\x.na=[]/\1<=x.L/\x.L<=4 then { x with na:=List.replicate (jH d.C x.F).toNat (cz d.X x.L 0) } else x
def jX (d:ZM):List ZL:=d.C.zipIdx.map fun p=>sv d p.2 p.1
def ux (d:ZM):(jX d).length=d.C.length:=by simp[jX]
def DW (h:d.C[v]?=some x):(jX d)[v]?=some (sv d v x):=by
 unfold jX;rw[List.getElem?_map,Xw,h];simp
def QX {a q:Int}(h:1<=a/\a<=4096):1<=ot ns a q/\ot ns a q<=4096:=by
 unfold ot;split
 ·rename_i hc;generalize hm:max 1 (min ((ak ns).getD q.toNat 0) 4)=m;have h1:1<=m/\m<=4:=O
  have h2:a*1<=a*m:=VY h1.1 O;have h3:a*m<=1024*4:=Ww hc.2.2 h1.2 O O;omega
 ·exact h
def DX (ns:List ZL)(ps:List Int):1<=jH ns ps/\jH ns ps<=4096:=by
 have:∀(l:List Int) (a:Int),1<=a/\a<=4096->1<=l.foldl (ot ns) a/\l.foldl (ot ns) a<=4096:=by
  intro l
  induction l with
  |nil=>exact fun a h=>h
  |cons q l ih=>exact fun a h=>ih _ (QX h)
 exact this ps 1 (O)
def DY (ns:List ZL)(l:List Int)(q:Int):jH ns (l++[q])=ot ns (jH ns l) q:=by unfold jH;rw[WD];rfl
def QY (hin:fm x.F ns.length)(hc:∀y∈ns,1<=y.L/\y.L<=4)(hp:aj (aV ns x)<=1024):jH ns x.F=aj (aV ns x):=by
 have key:∀k,k<=x.F.length->jH ns (x.F.take k)=aj ((aV ns x).take k):=by
  intro k
  induction k with
  |zero=>intro _;rfl
  |succ k ih =>
   intro hk;obtain⟨q,hq⟩:=ao (l:=x.F) (i:=k) O;have hqr:=hin q (an hq);have hcq:(aV ns x)[k]?=some ((ak ns).getD q.toNat 0):=(by unfold aV aK;rw[List.getElem?_map,hq];rfl);rw[aU hq,aU hcq,DY,gQ,ih O];have hm:=oL hin hc _ (an hcq);have hle:aj ((aV ns x).take k)<=1024:=by
    have h1:aj ((aV ns x).take k)*aj ((aV ns x).drop k)=aj (aV ns x):=(by rw[<- sh,V5]);have h2:=dY (l:=(aV ns x).take k) fun c h=>(oL hin hc c (VU h)).1;have h3:=dY (l:=(aV ns x).drop k) fun c h=>(oL hin hc c (WZ h)).1;have h4:aj ((aV ns x).take k)*1<=aj ((aV ns x).take k)*aj ((aV ns x).drop k):=VY h3 O;omega
   unfold ot;rw[VA ⟨hqr.1,hqr.2,hle⟩];congr 1;omega
 have:=key x.F.length ZI;rw[Vy ZI,Vy (by rw[show (aV ns x).length=_ from iG _ _];exact Nat.le_refl _)]at this;exact this
def QZ (d:ZM)(cs:List ZK)(hnq:ZZ (fun v=>d.Y.testBit v=true) d.C cs)(hf:Z1 d)(H:ZJ)(K:ZP->ZJ->Prop)(hK:Clo H->∀(nh:ZK) (ks:List ZK) (H':ZJ),ZN H H'->eO H.A H' 87 3 nh d.C.length ks->ZZ (fun _=>False) (jX d) ks->aq Tryz.prog G0 H K (.agg [.lit (.int .i64 d.X),nh]) H'):ag Tryz.prog G0 42 [sE d cs] H K:=by
 refine ag.Z ⟨_,Tryz.func42,rfl,rfl⟩ fun hcl=>?_;have hl:=hf.C.1;refine ag.st (n:=106) (rs:=[.cell 2 81]) Tryz.func42 ?_;simp only[go_sem,xi,sD];obtain⟨Hb,hHb⟩:∃Hb,Hb=ext H [.J 0 38 [.lit (.int .i64 d.X),.Q d.C.length cs,.lit (.int .u64 (d.Y:Int)),.Q d.nn.length (bj d.nn)],.J 0 81 [.lit (.int .i64 0),.lit (.slice none 0 0)],.J 0 81 [.lit (.int .i64 d.X),.lit (.slice none 0 0)]]:=⟨_,rfl⟩
 rw[<- hHb];have g0:=de hHb
 have g1:=gE hHb 1 rfl
 have g2:=gE hHb 2 rfl
 have nb:Hb.A=H.A+3:=hHb▸rfl
 have ob:ZN H Hb:=hHb▸.ext _ _
 clear hHb;refine W.aP 40564819207303340847894502557680 (by rfl) (fun ρ Hx=>∃(k:Nat) (nh:ZK) (ks:List ZK),ρ 4=aa k/\k<=d.C.length/\Hb.A<=Hx.A/\(∀id,id<H.A+2->Hx.get id=Hb.get id)/\Hx.get (H.A+2)=some (.J 0 81 [.lit (.int .i64 d.X),nh])/\eO (H.A+3) Hx 87 3 nh k ks/\ZZ (fun _=>False) ((jX d).take k) ks) (fun ρ H=>d.C.length-(iv (ρ 4)).toNat) ?_ ?_
 ·simp only[go_sem];exact⟨0,_,[],rfl,O,g2,.nil,.nil⟩
 rintro ρ Hx ⟨k,nh,ks,h4,hk,hnx,hold,hbn,hO,hQ⟩;refine W.en (fun E=>E 1=.M H.A 0 0 /\ E 2=.M (H.A+1) 0 0 /\ E 3=.M (H.A+2) 0 0 /\ E 4=aa k) (by simp only[go_sem,h4]) fun E ⟨e1,e2,e3,e4⟩=>?_
 refine W.vs ?_;have l0:=ae ((hold H.A O).trans g0);by_cases hb:(k:Int)<d.C.length
 ·obtain⟨x,hx⟩:=ao (l:=d.C) (i:=k) O;obtain⟨f1,f2,f3⟩:=hf.C.2 x (an hx);have hne:=hnq.ne hx;obtain⟨rv,c0,_,hdis,hdE⟩:=hnq.part hx;have c1:k*3+3<=cs.length:=by rw[hnq.len];omega
  have w1:=Vv ((k:Int)+1) O;have rvo:rv.one=true:=by rcases hdis with h|h<;>rw[h]<;>first|rfl|(unfold eU;split<;>rfl)
  have rvc:rv.cells=[rv]:=by rcases hdis with h|h<;>rw[h]<;>first|rfl|(unfold eU;split<;>rfl)
  have rvl:∀H,gF H rv=some (.lit (.int .i64 x.na.length)):=fun H=>by
   rcases hdis with h|h<;>rw[h]
   ·rfl
   ·unfold eU;split
    ·rename_i h;rw[h];rfl
    ·rfl
  have step:∀(Hq:ZJ) (rq:ZK) (y:ZL),sv d k x=y->y.L=x.L->y.F=x.F->(rq=aE y.na\/rq=eU y)->Hx.A<Hq.A->(∀id,id<Hx.A->Hq.get id=Hx.get id) ->
    ∃nh2 H3,cr Tryz.prog (ext Hq [.J 0 87 [.lit (.int .i64 x.L),.Q x.F.length (ints x.F),rq]]) (Hq.A+1) 34 34 nh (.U Hq.A 0 0 1 3)=some (nh2,H3)/\nh2.cells=[nh2]/\nh2.one=true/\H3.V (H.A+2) 0=some (81,[.lit (.int .i64 d.X),nh]) /\
     ∀b,b=.J 0 81 [.lit (.int .i64 d.X),nh2]->Hb.A<=(H3.upd (H.A+2) b).A/\(∀id,id<H.A+2->(H3.upd (H.A+2) b).get id=Hb.get id)/\(H3.upd (H.A+2) b).get (H.A+2)=some (.J 0 81 [.lit (.int .i64 d.X),nh2])/\eO (H.A+3) (H3.upd (H.A+2) b) 87 3 nh2 (k+1) (ks++[.lit (.int .i64 x.L),.Q x.F.length (ints x.F),rq])/\ZZ (fun _=>False) ((jX d).take (k+1)) (ks++[.lit (.int .i64 x.L),.Q x.F.length (ints x.F),rq]):=by
   intro Hq rq y hy y1 y2 hrq hqn hqo;have hOq:eO (H.A+3) Hq 87 3 nh k ks:=hO.nc O fun id g _ h _=>hqo id h;have rqo:rq.one=true:=by rcases hrq with h|h<;>rw[h]<;>first|rfl|(unfold eU;split<;>rfl)
   obtain⟨nh2,H3,hA,hO3,hn3,hp3⟩:=vr (P:=Tryz.prog) (xs:=[.lit (.int .i64 x.L),.Q x.F.length (ints x.F),rq]) Tryz.underlying34 Tryz.zn Tryz.zp (by simp only[List.all_cons,List.all_nil,rqo];rfl) rfl (by rw[Tryz.zo];omega) hOq O rfl;have nc:∀id,id<H.A+3->H3.get id=Hx.get id:=fun id h=>(hp3 id O (hOq.ne h)).trans (hqo id O);refine⟨nh2,H3,hA,hO3.cells,hO3.one,ae ((nc _ O).trans hbn),fun b hb=>⟨by rw[aA];omega,fun id h=>by rw[af,Vx O,nc id O];exact hold id h,by rw[af,VA rfl,hb],?_⟩⟩;have e:ZZ (fun _=>False) ((jX d).take (k+1)) (ks++[.lit (.int .i64 x.L),.Q x.F.length (ints x.F),rq]):=by
    rw[aU (DW hx),hy];have:=hQ.snoc (x:=y) (rv:=rq) hrq fun h=>h.elim;rw[y1,y2]at this;exact this
   refine⟨?_,e⟩;exact hO3.nc (by rw[aA];omega) fun id g h1 _ _=>by rw[af,Vx O]
  obtain⟨Hp,hHp⟩:∃Hp,Hp=ext Hx [.J 0 87 [.lit (.int .i64 x.L),.Q x.F.length (ints x.F),rv]]:=⟨_,rfl⟩
  have np:Hp.A=Hx.A+1:=hHp▸rfl
  have gP:=de hHp
  have pold:∀id,id<Hx.A->Hp.get id=Hx.get id:=fun id h=>by rw[hHp];exact aX h
  have m0:=ae ((pold H.A O).trans ((hold H.A O).trans g0));have m2:=ae ((pold (H.A+2) O).trans hbn);have mP:=ae gP;simp only [go_sem,e1,e4,l0,hb,hne,c0,c1,rvo];rw [← hHp];simp only [go_sem,m0,e4];refine au.Z (Ae d.Y k hf.Y _ _ ⟨trivial,?_⟩);have no : ¬ (d.Y.testBit k=true∧x.na=[]∧1≤x.L∧x.L≤4)→∃ nh2 H3,cr Tryz.prog (ext Hp [.J 0 87 [.lit (.int .i64 x.L),.Q x.F.length (ints x.F),rv]]) (Hp.A+1) 34 34 nh (.U Hp.A 0 0 1 3)=some (nh2,H3)∧nh2.cells=[nh2]∧nh2.one=true∧H3.V (H.A+2) 0=some (81,[.lit (.int .i64 d.X),nh]) ∧
     ∀b,b=.J 0 81 [.lit (.int .i64 d.X),nh2]->Hb.A<=(H3.upd (H.A+2) b).A/\(∀id,id<H.A+2->(H3.upd (H.A+2) b).get id=Hb.get id)/\(H3.upd (H.A+2) b).get (H.A+2)=some (.J 0 81 [.lit (.int .i64 d.X),nh2])/\eO (H.A+3) (H3.upd (H.A+2) b) 87 3 nh2 (k+1) (ks++[.lit (.int .i64 x.L),.Q x.F.length (ints x.F),rv])/\ZZ (fun _=>False) ((jX d).take (k+1)) (ks++[.lit (.int .i64 x.L),.Q x.F.length (ints x.F),rv]):=fun h =>
   step Hp rv x (Vx h) rfl rfl hdis O pold
  cases hbit:d.Y.testBit k
  ·obtain⟨nh2,H3,hA,nc,no1,ln,st⟩:=no fun h=>by rw[hbit]at h;cases h.1
   simp only[go_sem,e3,e4,m2,mP,hA,nc,no1,ln,w1];exact⟨(st _ rfl).1,⟨k+1,nh2,_,rfl,O,(st _ rfl).1,(st _ rfl).2.1,(st _ rfl).2.2.1,(st _ rfl).2.2.2.1,(st _ rfl).2.2.2.2⟩,by rw[h4];simp only[aa,aZ];omega⟩
  by_cases hr0:x.na=[]
  rotate_left
  ·obtain⟨nh2,H3,hA,nc,no1,ln,st⟩:=no fun h=>hr0 h.2.1;have hr0':¬(x.na.length:Int)=0:=fun h=>hr0 (VF O);simp only[go_sem,e3,e4,m2,mP,rvl,hr0',hA,nc,no1,ln,w1];exact⟨(st _ rfl).1,⟨k+1,nh2,_,rfl,O,(st _ rfl).1,(st _ rfl).2.1,(st _ rfl).2.2.1,(st _ rfl).2.2.2.1,(st _ rfl).2.2.2.2⟩,by rw[h4];simp only[aa,aZ];omega⟩
  have hrn:rv=.lit (.slice none 0 0):=(hdE hbit).trans (VA hr0);by_cases hc1:x.L >= 1;rotate_left
  ·obtain⟨nh2,H3,hA,nc,no1,ln,st⟩:=no fun h=>hc1 h.2.2.1;rw[hrn]at mP hA;simp only[go_sem,e3,e4,m2,mP,hc1,hA,nc,no1,ln,w1];exact⟨(st _ rfl).1,⟨k+1,nh2,_,rfl,O,(st _ rfl).1,(st _ rfl).2.1,(st _ rfl).2.2.1,(st _ rfl).2.2.2.1,(st _ rfl).2.2.2.2⟩,by rw[h4];simp only[aa,aZ];omega⟩
  by_cases hc4:x.L<=4;rotate_left
  ·obtain⟨nh2,H3,hA,nc,no1,ln,st⟩:=no fun h=>hc4 h.2.2.2;rw[hrn]at mP hA;simp only[go_sem,e3,e4,m2,mP,hc1,hc4,hA,nc,no1,ln,w1];exact⟨(st _ rfl).1,⟨k+1,nh2,_,rfl,O,(st _ rfl).1,(st _ rfl).2.1,(st _ rfl).2.2.1,(st _ rfl).2.2.2.1,(st _ rfl).2.2.2.2⟩,by rw[h4];simp only[aa,aZ];omega⟩
  clear no;rw[hrn]at mP gP;simp only[go_sem,mP,hc1,hc4];refine W.aP 2417851639158889605235136 (by rfl) (fun ρ2 Hq=>Hq=Hp/\∃j:Nat,ρ2 7=aa j/\j<=x.F.length/\ρ2 6=aa (jH d.C (x.F.take j))) (fun ρ2 H=>x.F.length-(iv (ρ2 7)).toNat) ?_ ?_
  ·simp only[go_sem];exact⟨0,rfl,O,rfl⟩
  rintro ρ2 Hq ⟨hHq,j,h7,hj,h6⟩;subst hHq;refine W.en (fun E2=>E2 1=.M H.A 0 0 /\ E2 2=.M (H.A+1) 0 0 /\ E2 3=.M (H.A+2) 0 0 /\ E2 4=aa k /\ E2 5=.M Hx.A 0 0 /\ E2 6=aa (jH d.C (x.F.take j)) /\ E2 7=aa j) (by simp only[go_sem,e1,e2,e3,e4,h6,h7]) fun E2 ⟨f1,f2,f3,f4,f5,f6,f7⟩=>?_
  refine W.vs ?_;by_cases hb2:(j:Int)<x.F.length
  ·obtain⟨q,hq⟩:=ao (l:=x.F) (i:=j) O;have hqne:=aO hq;have hs:=DY d.C (x.F.take j) q;rw[<- aU hq]at hs;have hrr:=DX d.C (x.F.take j);have w2:=Vv ((j:Int)+1) O;unfold ot at hs;by_cases q0:q >= 0;rotate_left
   ·rw[Vx (fun h=>q0 h.1)]at hs;simp only[go_sem,f5,f6,f7,mP,hb2,hq,hqne,q0,w2];exact⟨⟨j+1,rfl,O,by rw[hs]⟩,by rw[h7];simp only[aa,aZ];omega⟩
   by_cases q1:q<d.C.length;rotate_left
   ·rw[Vx (fun h=>q1 h.2.1)]at hs;simp only[go_sem,f1,f5,f6,f7,mP,m0,hb2,hq,hqne,q0,q1,w2];exact⟨⟨j+1,rfl,O,by rw[hs]⟩,by rw[h7];simp only[aa,aZ];omega⟩
   by_cases q2:jH d.C (x.F.take j)<=1024;rotate_left
   ·rw[Vx (fun h=>q2 h.2.2)]at hs;simp only[go_sem,f1,f5,f6,f7,mP,m0,hb2,hq,hqne,q0,q1,q2,w2];exact⟨⟨j+1,rfl,O,by rw[hs]⟩,by rw[h7];simp only[aa,aZ];omega⟩
   rw[VA ⟨q0,q1,q2⟩]at hs;obtain⟨u,rfl⟩:=VE q0;obtain⟨z,hz⟩:=ao (l:=d.C) (i:=u) O;have z0:=hnq.c0 hz;have zne:=hnq.ne hz;rw[Int.toNat_natCast,bM (dw hz)]at hs;have hm4:1<=max 1 (min z.L 4)/\max 1 (min z.L 4)<=4:=O;have hmm:(if (if 4<z.L then 4 else z.L) > 1 then if 4<z.L then 4 else z.L else 1)=max 1 (min z.L 4):=(by split<;>split<;>omega);generalize max 1 (min z.L 4)=m at hs hm4 hmm;have hp1:jH d.C (x.F.take j)*m<=1024*4:=Ww q2 hm4.2 O O;have hp0:0<=jH d.C (x.F.take j)*m:=WT O O;have w3:=Vv (jH d.C (x.F.take j)*m) O;simp only[go_sem,f1,f5,f6,f7,mP,m0,hb2,hq,hqne,q0,q1,q2,w2,zne,z0,hmm,w3];exact⟨⟨j+1,rfl,O,by rw[hs]⟩,by rw[h7];simp only[aa,aZ];omega⟩
  ·have hje:j=x.F.length:=O;rw[hje,Vy ZI]at f6;have hRr:=DX d.C x.F;obtain⟨R,hR⟩:=VE (show 0<=jH d.C x.F by omega);rw[hR]at f6;obtain⟨cn,hcn⟩:=VE (show 0<=x.L by omega);have hcn0:(0:Int)<cn:=O;have hcn1:1<=cn:=O;have hcn2:(cn:Int) >= 0:=O;have ury:sv d k x={ x with na:=List.replicate R (cz d.X x.L 0) }:=by
    unfold sv;rw[VA ⟨hbit,hr0,hc1,hc4⟩,hR,Int.toNat_natCast]
   simp only[go_sem,f4,f5,f7,mP,hb2];refine W.vp (Q':=fun e s2=>e=.exit 4/\∃rq,s2.ρ 1=.M H.A 0 0/\s2.ρ 2=.M (H.A+1) 0 0/\s2.ρ 3=.M (H.A+2) 0 0/\s2.ρ 4=aa k/\s2.ρ 5=.M Hx.A 0 0/\Hq.A<=s2.H.A/\(∀id,id<Hx.A->s2.H.get id=Hx.get id)/\s2.H.get Hx.A=some (.J 0 87 [.lit (.int .i64 x.L),.Q x.F.length (ints x.F),rq])/\iC Hq.A s2.H 42 3 rq (List.replicate R (ints (cz d.X x.L 0)))) ?_ ?_;rotate_left
   ·rintro e s2 ⟨rfl,rq,a1,a2,a3,a4,a5,hn2,ho2,hP2,hO2⟩;have hv:=hO2.fz (S:=fun id=>Hq.A<=id) (nx:=s2.H.A) (rows':=List.replicate R (ints (cz d.X x.L 0))) (fun _ h=>h) rfl fun j r r' h1 h2=>by
     rw[h1]at h2;cases h2;refine⟨rfl,fun i hi _=>?_⟩;have hr:=Wv (an h1);subst hr;have e0:(ints (cz d.X x.L 0))[i]?=some (ints (cz d.X x.L 0))[i]:=Vz hi;generalize (ints (cz d.X x.L 0))[i]=a at e0 ⊢;rw[fa]at e0;obtain⟨b,_,rfl⟩:=Vw.1 e0;exact .lit _
    rw[VR,X0]at hv;have hvv:(ZK.Q R (List.replicate R (.Q (ints (cz d.X x.L 0)).length (ints (cz d.X x.L 0)))))=aE (List.replicate R (cz d.X x.L 0)):=by
     unfold aE ah;rw[VR,X0,aR]
    rw[hvv]at hv;refine⟨⟨s2.ρ,s2.H.jG Hq.A Hx.A (.J 0 87 [.lit (.int .i64 x.L),.Q x.F.length (ints x.F),aE (List.replicate R (cz d.X x.L 0))])⟩,eF.jG aJ hP2 O rfl (fun i hi _=>?_),ZI,trivial,?_⟩
    ·match i,hi with
     |0,_=>exact .lit _
     |1,_=>exact .dK _
     |2,_=>exact hv
    obtain⟨He,hHe⟩:∃He,He=s2.H.jG Hq.A Hx.A (.J 0 87 [.lit (.int .i64 x.L),.Q x.F.length (ints x.F),aE (List.replicate R (cz d.X x.L 0))]):=⟨_,rfl⟩
    rw[<- hHe];have gPe:He.get Hx.A=some (.J 0 87 [.lit (.int .i64 x.L),.Q x.F.length (ints x.F),aE (List.replicate R (cz d.X x.L 0))]):=(by rw[hHe];exact QC O);have hoe:∀id,id<Hx.A->He.get id=Hx.get id:=fun id h=>by rw[hHe,QD O O];exact ho2 id h
    have hne':He.A=s2.H.A:=(by rw[hHe];rfl);clear hHe hv hP2 hO2;have lPe:=ae gPe;have l2e:=ae ((hoe (H.A+2) O).trans hbn);obtain⟨nh2,H3,hA,nc,no1,ln,st⟩:=step He (aE (List.replicate R (cz d.X x.L 0))) _ ury rfl rfl (.inl rfl) O hoe;simp only[go_sem,a2,a3,a4,a5,lPe,l2e,hA,nc,no1,ln,w1];exact⟨(st _ rfl).1,⟨k+1,nh2,_,rfl,O,(st _ rfl).1,(st _ rfl).2.1,(st _ rfl).2.2.1,(st _ rfl).2.2.2.1,(st _ rfl).2.2.2.2⟩,by rw[h4];simp only[aa,aZ];omega⟩
   refine W.aP 633822882262475471490002191872 (by rfl) (fun ρ3 Hy=>∃(i:Nat) (rq:ZK),ρ3 9=aa i/\i<=R/\Hq.A<=Hy.A/\(∀id,id<Hx.A->Hy.get id=Hx.get id)/\Hy.get Hx.A=some (.J 0 87 [.lit (.int .i64 x.L),.Q x.F.length (ints x.F),rq])/\iC Hq.A Hy 42 3 rq (List.replicate i (ints (cz d.X x.L 0)))) (fun ρ3 H=>R-(iv (ρ3 9)).toNat) ?_ ?_
   ·simp only[go_sem];exact⟨0,_,rfl,O,pold,gP,.nil⟩
   rintro ρ3 Hy ⟨i,rq,h9,hi,hny,hyo,hyP,hOy⟩;refine W.env fun E3 hE3=>?_;have a1:E3 1=.M H.A 0 0:=(by rw[hE3];simp only[go_sem,f1]);have a2:E3 2=.M (H.A+1) 0 0:=(by rw[hE3];simp only[go_sem,f2]);have a3:E3 3=.M (H.A+2) 0 0:=(by rw[hE3];simp only[go_sem,f3]);have a4:E3 4=aa k:=(by rw[hE3];simp only[go_sem,f4]);have a5:E3 5=.M Hx.A 0 0:=(by rw[hE3];simp only[go_sem,f5]);have a6:E3 6=aa R:=(by rw[hE3];simp only[go_sem,f6]);have a9:E3 9=aa i:=(by rw[hE3];simp only[go_sem,h9]);clear hE3;refine W.vs ?_;by_cases hb3:(i:Int)<R
   ·have w3:=Vv ((i:Int)+1) O;have yP:=ae hyP;have y0:=ae ((hyo H.A O).trans ((hold H.A O).trans g0));rw[hcn]at yP;have y0e:∀L,(ext Hy L).V H.A 0=_:=fun L=>(ea O).trans y0;have yPe:∀L,(ext Hy L).V Hx.A 0=_:=fun L=>(ea O).trans yP;have hun:(ZK.lit (.int .i64 d.X) :: List.drop 1 (List.replicate cn (.lit (.int .i64 0))))=ints (cz d.X x.L 0):=by
     unfold cz;rw[hcn,Int.toNat_natCast];obtain⟨m,rfl⟩:∃m,cn=m+1:=⟨cn-1,O⟩
     simp[WC,ints,aa]
    have hul:(cz d.X x.L 0).length=cn:=(by rw[AB,hcn];rfl);obtain⟨Hw,hHw⟩:∃Hw,Hw=ext Hy [.J 0 3 (ints (cz d.X x.L 0))]:=⟨_,rfl⟩
    have hwn:Hw.A=Hy.A+1:=(by rw[hHw];rfl);have hwo:ZN Hy Hw:=(by rw[hHw];exact .ext _ _);have hwg:Hw.get Hy.A=some (.J 0 3 (ints (cz d.X x.L 0))):=(by rw[hHw];exact cI);have wP:Hw.V Hx.A 0=_:=(hwo.V O).trans yP;obtain⟨rq',Hj,hA,hO',hnj,hpj⟩:=iC.app (P:=Tryz.prog) (H:=Hw) (n:=Hw.A+1) (t:=33) (x:=.U Hy.A 0 0 cn 1) (r:=ints (cz d.X x.L 0)) Tryz.underlying33 Tryz.nW Tryz.nY Tryz.nX ZG (by rw[VR];omega) (hOy.over hwo) O (.inr ⟨Hy.A,0,O,O,by rw[aR,hul],hwg⟩) rfl;have nc:∀id,id<Hq.A->Hj.get id=Hy.get id:=fun id h=>(hpj id O h).trans (hwo.nb id O);have jP:Hj.V Hx.A 0=_:=ae ((nc _ O).trans hyP);obtain⟨cs',hcs'⟩:=id hO';have rc:=hcs'.1.cells;have ro:=hcs'.1.one;rw[hwn,hHw,cW]at hA;simp only[List.cons_append,List.nil_append,W6,Nat.reduceAdd]at hA;simp only[go_sem,a1,a5,a6,a9,hb3,yP,y0e,yPe,hcn0,hcn2,hun,hA,jP,rc,ro,w3];refine⟨O,by simp;omega,by rw[aA];omega,⟨i+1,rq',rfl,O,by rw[aA];omega,fun id h=>by rw[af,Vx O,nc id O];exact hyo id h,by rw[af,VA rfl],?_⟩,by rw[h9];simp only[aa,aZ];omega⟩;rw[Zp];exact hO'.upd (O)
   ·simp only[go_sem,a1,a2,a3,a4,a5,a6,a9,hb3];have:i=R:=O;subst this;exact⟨rq,hny,hyo,hyP,hOy⟩
 ·have hke:k=d.C.length:=O
  have l2:=ae hbn;have l1:=ae ((hold (H.A+1) O).trans g1);have nc:=hO.cells;have no:=hO.one;simp only[go_sem,e1,e2,e3,e4,l0,l1,l2,hb,no];rw[hke]at hO hQ;rw[Vy (by rw[ux];exact Nat.le_refl _)]at hQ;refine hK hcl nh ks _ ⟨by rw[aA];have:=ob.A;omega,fun id h=>by rw[af,Vx O,hold id O];exact ob.nb id h⟩ ?_ hQ;rcases hO with ⟨h,hz,hc⟩|⟨id,gg,k1,k2,h,k4,k5⟩
  ·exact .inl ⟨h,hz,hc⟩
  ·exact .inr ⟨id,gg,O,by rw[aA];exact k2,h,k4,by rw[af,Vx O];exact k5⟩
def Q1 (d:ZM)(cs:List ZK)(hq:ZZ (fun v=>d.Y.testBit v=true) d.C cs)(hf:Z1 d)(H:ZJ)(K:ZP->ZJ->Prop)(hK:K (.ret (dJ d.X (jX d))) H):ag Tryz.prog G0 42 [sE d cs] H K:=by
 refine QZ d cs hq hf H K fun hcl nh ks H' ho hO hQ=>?_;refine aq.bC (v':=dJ d.X (jX d)) aJ hcl ho (.agg rfl fun i hi _=>?_) hK
 match i,hi with
 |0,_=>exact .lit _
 |1,_ =>
  show Fz _ _ _ nh (dX (jX d));unfold dX;rw[ux];rcases hO with ⟨h,hz,hc⟩|⟨id,gg,k1,k2,h,k4,k5⟩
  ·have:jX d=[]:=VF (by rw[ux];exact hz);rw[h,hz,this];exact .nil
  ·rw[h];refine .nz k1 k5 (by rw[kV,ux]) fun j hj h2 h'=>?_;have e0:(0:Nat)+j=j:=Nat.zero_add j;have h3:j<ks.length:=O;have:=fun Hq=>hQ.Qg (S:=fun id=>H.A<=id) (H:=Hq) (nx:=H.A) j h3 h';simpa only[e0] using this _
def Q2 {cs:List Int}(hc:∀c∈cs,1<=c):∀(k:Nat) (ps:List Int),k<=cs.length->ps.Pairwise (·<·)->(∀p∈ps,0<=p/\p<k)->aj (aK cs ps)<=aj (cs.take k):=by
 intro k
 induction k with
 |zero =>
  intro ps _ _ h;cases ps with
  |nil=>exact Int.le_refl _
  |cons p ps=>have:=h p ZF;omega
 |succ k ih =>
  intro ps hk hw h;obtain⟨c,hck⟩:=ao (l:=cs) (i:=k) O;have c1:=hc c (an hck);rw[aU hck,gQ];have hp:=dY (l:=cs.take k) fun c h=>hc c (VU h);rcases XL ps with rfl|⟨qs,q,rfl⟩
  ·show 1<=_;have:=Ww hp c1 O O;omega
  ·rw[XM]at hw h ⊢;have hq:=h q ZF;obtain⟨w1,_,w3⟩:=Xu.1 hw;have hqs:∀p∈qs,0<=p/\p<q:=fun p hp=>⟨(h p (by simp[hp])).1,w3 p hp q ZF⟩
   by_cases hqk:q=k
   ·have h1:=ih qs O w1 fun p hp=>by have:=hqs p hp;omega
    unfold aK at h1 ⊢;rw[Wk,sh];have e:aj (List.map (fun p=>cs.getD p.toNat 0) [q])=c:=by
     rw[hqk];simp only[List.map_cons,List.map_nil,Int.toNat_natCast,bM hck,je,iT,Yi]
    rw[e];exact W9 h1 (O)
   ·have h1:=ih (qs++[q]) O hw fun p hp=>by
     rcases V3.1 hp with h'|h'
     ·have:=hqs p h';omega
     ·obtain rfl:=List.mem_singleton.1 h';omega
    have h2:aj (cs.take k)*1<=aj (cs.take k)*c:=VY c1 O;omega
def wW (hp:cQ x.F ns.length)(hc:∀y∈ns,1<=y.L/\y.L<=4):aj (aV ns x)<=aj (ak ns):=by
 have h:=Q2 (cs:=ak ns) (fun c h=>by
  obtain⟨y,hy,rfl⟩:=VI.1 h;exact(hc y hy).1) ns.length x.F (by rw[dk];exact Nat.le_refl _) hp.1 hp.2
 rw[Vy (by rw[dk];exact Nat.le_refl _)]at h;exact h
def Q3 (h:ZR d):jX d=cR d fun _ _=>0:=by
 apply V9;intro v;rcases VV v d.C.length with hv|hv
 ·obtain⟨x,hx⟩:=ao hv;rw[DW hx,jm hx];unfold sv;by_cases hb:d.Y.testBit v=true
  ·obtain⟨x1,x2⟩:=h.n.dec v x hx hb;have hc:=h.n.L x (an hx);rw[VA ⟨hb,x1,hc.1,hc.2⟩,uJ hx hb];have hsz:=h.nA.size;rw[lF]at hsz;have hle:=wW x2 h.n.L;rw[QY (fun q hq=>by have:=x2.2 q hq;omega) h.n.L O,x1,List.nil_append];congr 2;unfold eI bB;rw[Yf,WG]
  ·rw[Vx fun h=>hb h.1,qW hb]
 ·rw[VD (by rw[ux];exact hv),VD (by rw[ik];exact hv)]
def df (d:ZM)(v:Nat):Int × Int:=match d.C[v]? with
 |some x=>(bB d.C x,x.L)
 |none=>(0,0)
def aL (d:ZM):List (Int × Int):=(aB d).map (df d)
def fJ (l:List (Int × Int)):List ZK:=(l.map fun p=>[aa p.1,aa p.2]).flatten
def zX (h:l[i]?=some p):(fJ l)[i*2]?=some (aa p.1):=jW (f:=fun p:Int × Int=>[aa p.1,aa p.2]) (z:=2) (fun _=>rfl) l i 0 p h (O)
def DZ (h:l[i]?=some p):(fJ l)[i*2+1]?=some (aa p.2):=jW (f:=fun p:Int × Int=>[aa p.1,aa p.2]) (z:=2) (fun _=>rfl) l i 1 p h (O)
def Q4 (l:List (Int × Int)):(fJ l).length=l.length*2:=mh (f:=fun p:Int × Int=>[aa p.1,aa p.2]) (fun _=>rfl) l
def D0 (h:l[i]?=some p):¬fJ l=[]:=fun e=>by
 have:=zX h;rw[e]at this;simp at this
def D1 (l:List (Int × Int))(p:Int × Int):fJ (l++[p])=fJ l++[aa p.1,aa p.2]:=by unfold fJ;simp
def D2 {S:Nat->Prop}{H:ZJ}{nx:Nat}(l:List (Int × Int)):∀c∈fJ l,Fz S H nx c c:=by
 intro c hc;unfold fJ at hc;obtain⟨r,hr,hc⟩:=Xc.1 hc;obtain⟨x,_,rfl⟩:=VI.1 hr;simp only[List.mem_cons,List.not_mem_nil,or_false]at hc;rcases hc with rfl|rfl<;>exact .lit _
def mZ (h:ZR d)(hv:v<d.C.length)(hb:d.Y.testBit v=true):1<=(df d v).1/\(df d v).1<=1024/\1<=(df d v).2/\(df d v).2<=4:=by
 obtain⟨x,hx⟩:=ao hv;obtain⟨x1,x2⟩:=h.n.dec v x hx hb;have hc:=h.n.L x (an hx);have hsz:=h.nA.size;rw[lF]at hsz;have hle:=wW x2 h.n.L;have hps:=dY (l:=aV d.C x) fun c hc=>(oL (fun q hq=>by have:=x2.2 q hq;omega) h.n.L c hc).1;unfold df;rw[hx];show 1<=((bB d.C x:Nat):Int)/\((bB d.C x:Nat):Int)<=1024/\1<=x.L/\x.L<=4;unfold bB;omega
def Q5 (d:ZM)(cs:List ZK)(hq:ZZ (fun v=>d.Y.testBit v=true) d.C cs)(hf:Z1 d)(hok:ZR d)(H:ZJ)(K:ZP->ZJ->Prop)(hK:K (.ret (.Q (aL d).length (fJ (aL d)))) H):ag Tryz.prog G0 35 [sE d cs] H K:=by
 refine ag.Z ⟨_,Tryz.func35,rfl,rfl⟩ fun hcl=>?_;have hl:=hf.C.1;have hn8:=hok.n.n1.2;refine ag.st (n:=41) (rs:=[.tmp 2]) Tryz.func35 ?_;simp only[go_sem,xi,sD];obtain⟨H1,hH1⟩:∃H1,H1=ext H [.J 0 38 [.lit (.int .i64 d.X),.Q d.C.length cs,.lit (.int .u64 (d.Y:Int)),.Q d.nn.length (bj d.nn)]]:=⟨_,rfl⟩
 have g0:=de hH1
 have n1:H1.A=H.A+1:=hH1▸rfl
 have o1:ZN H H1:=hH1▸.ext _ _
 rw[<- hH1];clear hH1;have m0:=ae g0;refine au.Z (Q1 d cs hq hf _ _ ⟨trivial,?_⟩);rw[Q3 hok];simp only[go_sem,dJ,dX];obtain⟨H2,hH2⟩:∃H2,H2=ext H1 [.J 0 81 [.lit (.int .i64 d.X),.Q (cR d fun _ _=>0).length (aG (cR d fun _ _=>0))]]:=⟨_,rfl⟩
 have g1:=de hH2
 have o2:ZN H1 H2:=hH2▸.ext _ _
 have n2:H2.A=H1.A+1:=hH2▸rfl
 have k0:=(o2.V (g:=0) (by omega:H.A<H1.A)).trans m0;have k1:=ae g1;rw[<- hH2];clear hH2;simp only[go_sem,k0];refine au.Z (Rx d cs hf.Y O _ _ ⟨trivial,?_⟩);simp only[go_sem];have dl:(bp (aB d)).length=(aB d).length:=by simp[bp]
 have dl8:(aB d).length<=d.C.length:=ia;refine W.aP 1099511625800 (by rfl) (fun ρ Hx=>∃(k:Nat) (ov:ZK),ρ 6=aa k/\k<=(aB d).length/\ZN H2 Hx/\ρ 3=ov/\eO H2.A Hx 97 2 ov k (fJ ((aL d).take k))) (fun ρ H=>(aB d).length-(iv (ρ 6)).toNat) ?_ ?_
 ·simp only[go_sem];exact⟨0,_,rfl,O,.refl _,rfl,.nil⟩
 rintro ρ Hx ⟨k,ov,h6,hk,hov,h3,hO⟩;refine W.en (fun E=>E 3=ov /\ E 4=.M H1.A 0 0 /\ E 5=ah (bp (aB d)) /\ E 6=aa k) (by simp only[go_sem,h3,h6]) fun E ⟨e3,e4,e5,e6⟩=>?_
 refine W.vs ?_;have x1:=(hov.V (g:=0) (by omega:H1.A<H2.A)).trans k1;have onx:=hov.A;by_cases hb:(k:Int)<(aB d).length
 ·obtain⟨v,hv⟩:=ao (l:=aB d) (i:=k) O;obtain⟨v1,v2,_⟩:=fw hv;obtain⟨x,hx⟩:=ao v1;have hvi:(bp (aB d))[k]?=some (v:Int):=by unfold bp;rw[List.getElem?_map,hv];rfl
  have hvne:=aO hvi;have hfx:=jm (c:=fun _ _=>0) hx;have f0:=iS hfx;have f2:=wK hfx;have fne:=eT hfx;have hvl:(v:Int)<(cR d fun _ _=>0).length:=by rw[ik];omega
  have w1:=Vv ((k:Int)+1) O;have hrc:df d v=(((fT d (fun _ _=>0) (aB d).length v x).na.length:Int),(fT d (fun _ _=>0) (aB d).length v x).L):=by
   rw[uJ hx v2];unfold df;rw[hx];have:=(hok.n.dec v x hx v2).1;simp[this,eI]
  generalize fT d (fun _ _=>0) (aB d).length v x=y at f0 f2 hrc;obtain⟨ov',Hj,hA,hO',hnj,hpj⟩:=vr (P:=Tryz.prog) (t:=95) (xs:=[aa y.na.length,aa y.L]) Tryz.underlying95 Tryz.zq Tryz.zu rfl rfl (by rw[Tryz.zt];omega) hO onx rfl;simp only[aa]at hA;simp only[go_sem,e5,e6,dl,hb];refine W.dr 22 [0,0,2,0,0,24,56,126,254,510,1022,0,2048,0,0,24576,57344,129024,260096,522240,1048574,2097150] Tryz.mixed ?_;simp only[go_sem,e3,e4,e5,e6,dl,hb,hvi,hvne,x1,f0,f2,fne,hvl,w1,hA,aE];have hrg:(aL d)[k]?=some (df d v):=by unfold aL;rw[List.getElem?_map,hv];rfl
  refine⟨O,⟨k+1,ov',rfl,O,⟨O,fun id h=>(hpj id O (hO.ne h)).trans (hov.nb id h)⟩,rfl,?_⟩,by rw[h6];simp only[aa,aZ];omega⟩;rw[aU hrg,D1,hrc];exact hO'
 ·have hke:k=(aB d).length:=O
  simp only[go_sem,e3,e5,e6,dl,hb];have hrl:(aL d).length=(aB d).length:=by simp[aL]
  rw[hke,Vy O]at hO;refine aq.bC aJ hcl ((o1.trans o2).trans hov) ?_ hK;rw[hrl];have oh2:=(o1.trans o2).A;rcases hO with ⟨h,hz,hc⟩|⟨id,gg,k1,k2,h,k4,k5⟩
  ·rw[h,hz,hc];exact .nil
  ·rw[h];refine .nz O k5 k4 fun j hj h2 h'=>?_;have e0:(0:Nat)+j=j:=Nat.zero_add j;have h3:j<(fJ (aL d)).length:=O;have:=fun Hq=>D2 (S:=fun id=>H.A<=id) (H:=Hq) (nx:=H.A) (aL d) _ (Wo h3);simpa only[e0] using this _
def wX (l:List (Int × Int))(ps:List (List Int)):Prop:=ps.length=l.length/\∀(k:Nat) (p:Int × Int) (r:List Int),l[k]?=some p->ps[k]?=some r->(r.length:Int)=p.1/\∀a∈r,0<=a/\a<p.2
def pO {p:List (List Int)}:ZU d p↔wX (aL d) p:=by
 have hg:∀(k v:Nat) (x:ZL),(aB d)[k]?=some v->d.C[v]?=some x->(aL d)[k]?=some ((bB d.C x:Int),x.L):=fun k v x hv hx=>by
  unfold aL;rw[List.getElem?_map,hv,Option.map_some];unfold df;rw[hx]
 constructor
 ·intro h;refine⟨by rw[h.len];simp[aL],fun k q r hq hr=>?_⟩;obtain⟨v,hv⟩:=ao (l:=aB d) (i:=k) (by have:=aI hr;rw[h.len]at this;exact this);obtain⟨v1,_⟩:=fw hv;obtain⟨x,hx⟩:=ao v1;rw[hg k v x hv hx]at hq;cases hq;obtain⟨a,b⟩:=h.row k v x r hv hx hr;exact⟨by rw[a],b⟩
 ·intro h;refine⟨by rw[h.1];simp[aL],fun k v x l hv hx hl=>?_⟩;obtain⟨a,b⟩:=h.2 k _ l (hg k v x hv hx) hl;exact⟨by simp only at a;omega,b⟩
def qJ (bs:List Int)(m:Nat)(c:Int):Int:=if bs.length=0 then 0 else bs.getD (m % bs.length) 0 % c
def uy (bs:List Int)(m:Nat)(p:Int × Int):List Int:=(List.range p.1.toNat).map fun j=>qJ bs (m+j) p.2
def kY (bs:List Int):Nat->List (Int × Int)->List (List Int)
 |_,[]=>[]
 |m,p :: l=>uy bs m p :: kY bs (m+p.1.toNat) l
def ou:List (Int × Int)->Nat
 | []=>0
 |p :: l=>p.1.toNat+ou l
theorem D3 (p:Int × Int):∀l:List (Int × Int),ou (l++[p])=ou l+p.1.toNat
 | []=>by simp[ou]
 |a :: l=>by rw[List.cons_append];unfold ou;rw[D3 p l];omega
theorem D4 (bs:List Int)(p:Int × Int):∀(l:List (Int × Int)) (m:Nat),kY bs m (l++[p])=kY bs m l++[uy bs (m+ou l) p]
 | [],m=>by simp[kY,ou]
 |a :: l,m=>by rw[List.cons_append,kY,D4 bs p l,kY,List.cons_append,ou,W6]
theorem zY (bs:List Int):∀(l:List (Int × Int)) (m:Nat),(kY bs m l).length=l.length
 | [],_=>rfl
 |_ :: l,m=>by unfold kY;rw[List.length_cons,List.length_cons,zY bs l]
theorem D5 (bs:List Int):∀(l:List (Int × Int)) (m:Nat),(∀p∈l,1<=p.1/\1<=p.2)->wX l (kY bs m l)
 | [],m,_=>⟨rfl,fun k p r h=>by simp at h⟩
 |a :: l,m,h=>by
  have h1:=h a ZF;have ih:=D5 bs l (m+a.1.toNat) fun p hp=>h p (by simp[hp]);refine⟨by rw[zY],fun k p r hp hr=>?_⟩;unfold kY at hr;cases k with
  |zero =>
   cases hp;cases hr;refine⟨by unfold uy;simp;omega,fun b hb=>?_⟩;obtain⟨j,_,rfl⟩:=VI.1 hb;unfold qJ;split
   ·omega
   ·exact⟨WS _ O,WB _ O⟩
  |succ k=>exact ih.2 k p r hp hr
def wY (d:ZM)(bs:List Int):List (List Int):=kY bs 0 (aL d)
def Q6 (hok:ZR d)(bs:List Int):ZU d (wY d bs):=pO.2 (D5 bs _ 0 fun p hp=>by
 unfold aL at hp;obtain⟨v,hv,rfl⟩:=VI.1 hp;obtain⟨v1,v2⟩:=fR.1 hv;have:=mZ hok v1 v2;omega)
def Q7 (d:ZM)(cs:List ZK)(hq0:ZZ (fun v=>d.Y.testBit v=true) d.C cs)(hf:Z1 d)(hok:ZR d)(bs:List Int)(hbl:(bs.length:Int)<2 ^ 63)(hb8:∀x∈bs,U8 x)(H:ZJ)(K:ZP->ZJ->Prop)(hK:K (.ret (aE (wY d bs))) H):ag Tryz.prog G0 7 [sE d cs,.Q bs.length (cu bs)] H K:=by
 refine ag.Z ⟨_,Tryz.func7,rfl,rfl⟩ fun hcl=>?_;have hn8:=hok.n.n1.2;refine ag.st (n:=57) (rs:=[.tmp 4]) Tryz.func7 ?_;simp only[go_sem,xi,sD];obtain⟨H1,hH1⟩:∃H1,H1=ext H [.J 0 38 [.lit (.int .i64 d.X),.Q d.C.length cs,.lit (.int .u64 (d.Y:Int)),.Q d.nn.length (bj d.nn)]]:=⟨_,rfl⟩
 have n1:H1.A=H.A+1:=hH1▸rfl
 have o1:ZN H H1:=hH1▸.ext _ _
 rw[<- hH1];clear hH1;refine au.Z (Q5 d cs hq0 hf hok _ _ ⟨trivial,?_⟩);have rl:(aL d).length=(aB d).length:=by simp[aL]
 have dl8:(aB d).length<=d.C.length:=ia;have rr:∀p∈aL d,1<=p.1/\p.1<=1024/\1<=p.2/\p.2<=4:=fun p hp=>by
  unfold aL at hp;obtain⟨v,hv,rfl⟩:=VI.1 hp;obtain⟨v1,v2⟩:=fR.1 hv;exact mZ hok v1 v2
 generalize hL:aL d=L at rl rr;simp only[go_sem];refine W.aP 72057594037915552 (by rfl) (fun ρ Hx=>∃(k at':Nat) (ps:List (List Int)),ρ 8=aa k/\k<=L.length/\ρ 7=aa at'/\at'<=k*1024/\H1.A<=Hx.A/\(∀id,id<H1.A->Hx.get id=H1.get id)/\iC H1.A Hx 42 3 (ρ 5) (ps.map ints)/\ps=kY bs 0 (L.take k)/\at'=ou (L.take k)) (fun ρ H=>L.length-(iv (ρ 8)).toNat) ?_ ?_
 ·simp only[go_sem];exact⟨0,0,[],rfl,O,rfl,O,.nil,rfl,rfl⟩
 rintro ρ Hx ⟨k,at',ps,h8,hk,h7,hat,hnx,hold,h5,hps,hat2⟩;obtain⟨ov,hov⟩:∃ov,ov=ρ 5:=⟨_,rfl⟩
 rw[<- hov]at h5;refine W.en (fun E=>E 1=.Q bs.length (cu bs) /\ E 5=ov /\ E 6=.Q L.length (fJ L) /\ E 7=aa at' /\ E 8=aa k) (by simp only[go_sem,hov,h7,h8]) fun E ⟨e1,e5,e6,e7,e8⟩=>?_
 refine W.vs ?_;by_cases hb:(k:Int)<L.length
 ·obtain⟨⟨c1,c2⟩,hp⟩:=ao (l:=L) (i:=k) O;obtain⟨r1,r2,r3,r4⟩:=rr _ (an hp);dsimp only at r1 r2 r3 r4;have p0:=zX hp;have p1:=DZ hp;have pne:=D0 hp;have w1:=Vv ((k:Int)+1) O;simp only[go_sem,e6,e8,hb];refine W.aP 4503599626325632 (by rfl) (fun ρ2 Hy=>∃(j:Nat) (q:List Int),ρ2 10=aa j/\(j:Int)<=c1/\q=(List.range j).map (fun i=>qJ bs (at'+i) c2)/\ρ2 7=aa ((at'+j:Nat):Int)/\ZN Hx Hy/\aD Hx.A Hy 3 (ρ2 9) (ints q)) (fun ρ2 H=>c1.toNat-(iv (ρ2 10)).toNat) ?_ ?_
  ·simp only[go_sem,e7];exact⟨0,[],rfl,O,rfl,rfl,.refl _,.nil⟩
  rintro ρ2 Hy ⟨j,q,h10,hj,hq,h7',hxy,h9⟩;have hql:q.length=j:=by rw[hq];simp
  obtain⟨qv,hqv⟩:∃qv,qv=ρ2 9:=⟨_,rfl⟩
  rw[<- hqv]at h9;refine W.en (fun E2=>E2 1=.Q bs.length (cu bs) /\ E2 5=ov /\ E2 6=.Q L.length (fJ L) /\ E2 7=aa ((at'+j:Nat):Int) /\ E2 8=aa k /\ E2 9=qv /\ E2 10=aa j) (by simp only[go_sem,e1,e5,e6,h7',e8,hqv,h10]) fun E2 ⟨f1,f5,f6,f7,f8,f9,f10⟩=>?_
  refine W.vs ?_;by_cases hb2:(j:Int)<c1
  ·obtain⟨m,hm⟩:∃m:Nat,m=at'+j:=⟨_,rfl⟩
   rw[<- hm]at f7;have w2:=Vv ((j:Int)+1) O;have w3:=Vv ((m:Int)+1) O;have app:∀a:Int,∃v' H2,cr Tryz.prog (ext Hy [.J 0 3 [.lit (.int .i64 a)]]) (Hy.A+1) 42 42 qv (.U Hy.A 0 0 1 1)=some (v',H2)/\Hx.A<=H2.A/\∀a' ,a'=a->ZN Hx H2/\aD Hx.A H2 3 v' (ints (q++[a'])):=fun a=>by
    obtain⟨v',H2,hA,ho2,hO2,hn2,_⟩:=kL a hxy h9 O;refine⟨v',H2,hA,by have:=hxy.A;omega,fun a' ha'=>?_⟩;subst ha';exact⟨ho2,hO2⟩
   by_cases hz:(bs.length:Int) > 0
   ·have hzn:¬(bs.length:Int)=0:=O;have m1:(m:Int).tmod bs.length=((m % bs.length:Nat):Int):=(by rw[Wg O];rfl);have m2:=Yb m (show bs.length > 0 by omega);obtain⟨z,hzz⟩:∃z,z=m % bs.length:=⟨_,rfl⟩
    rw[<- hzz]at m1 m2;have hz0:(z:Int) >= 0:=O;have hzl:(z:Int)<bs.length:=O;obtain⟨b,hbg⟩:=ao (l:=bs) (i:=z) m2;have b8:=hb8 b (an hbg);have hbg':=ue hbg;have hbne:=aO hbg';unfold U8 at b8;have w4:IntKind.i64.wrap b=b:=Vv _ O;have c2n:¬c2=0:=O;have tb:b.tmod c2=b % c2:=Wg b8.1;have tb0:=WS b c2n;have tb1:=WB b (show 0<c2 by omega);have w5:IntKind.i64.wrap (b % c2)=b % c2:=Vv _ O;obtain⟨v',Hj,hA,hjn,fin⟩:=app (b % c2);obtain⟨fi2,fi3⟩:=fin _ rfl;have hz':qJ bs (at'+j) c2=b % c2:=by
     unfold qJ;rw[Vx O,<- hm,<- hzz,VB,hbg];rfl
    simp only[go_sem,f1,f6,f8,f10,p0,pne,hb,hb2,hz];refine W.dr 13 [0,0,0,4,14,31,63,127,0,0,768,1792,3840] Tryz.mixed ?_;simp only[go_sem,f1,f6,f7,f8,f9,f10,p1,pne,hb,hzn,m1,hz0,hzl,hbg',hbne,w4,c2n,tb,w2,w3,hA];exact⟨O,⟨j+1,q++[_],rfl,O,by rw[Wy,Wk,hq,YL,hz'],by rw[show ((at'+(j+1):Nat):Int)=(m:Int)+1 by omega],fi2,fi3⟩,by rw[h10];simp only[aa,aZ];omega⟩
   ·obtain⟨v',Hj,hA,hjn,fin⟩:=app 0;obtain⟨fi2,fi3⟩:=fin _ rfl;have hz':qJ bs (at'+j) c2=0:=by
     unfold qJ;rw[VA O]
    simp only[go_sem,f1,f6,f7,f8,f9,f10,p0,pne,hb,hb2,hz,w2,w3,hA];exact⟨O,⟨j+1,q++[_],rfl,O,by rw[Wy,Wk,hq,YL,hz'],by rw[show ((at'+(j+1):Nat):Int)=(m:Int)+1 by omega],fi2,fi3⟩,by rw[h10];simp only[aa,aZ];omega⟩
  ·have hjc:(j:Int)=c1:=O;have h9':aD H1.A Hy 3 qv (ints q):=h9.nc hnx ZI fun _ _ _ _ _ _=>rfl;have xyn:=hxy.A;obtain⟨ov',Hj,hA,hO',hnj,hpj⟩:=iC.app (P:=Tryz.prog) (n:=Hy.A+1) (t:=33) Tryz.underlying33 Tryz.nW Tryz.nY Tryz.nX ZG (by rw[VJ,hps,zY,VK];omega) (h5.over hxy) O h9' rfl;have qvc:=h9.cells;simp only[go_sem,f5,f6,f7,f8,f9,f10,p0,pne,hb,hb2,w1,qvc,Wl,List.drop_one,List.tail_cons,List.append_nil,hA];have hqr:q=uy bs at' (c1,c2):=(by rw[hq];unfold uy;rw[show c1.toNat=j by omega]);exact⟨O,⟨k+1,at'+j,ps++[q],rfl,O,rfl,O,O,fun id h=>by rw[hpj id O h,hxy.nb id O];exact hold id h,by rw[Wk];exact hO',by rw[aU hp,D4,hps,hqr,hat2,Nat.zero_add],by rw[aU hp,D3,<- hat2];simp only;omega⟩,by rw[h8];simp only[aa,aZ];omega⟩
 ·simp only[go_sem,e5,e6,e8,hb];have hke:k=L.length:=O
  rw[hke,Vy ZI]at hps;refine aq.bC (v':=aE ps) aJ hcl ⟨O,fun id h=>by rw[hold id O];exact o1.nb id h⟩ ?_ (by rw[hps,<- hL];exact hK);have:=h5.fz (S:=fun id=>H.A<=id) (nx:=H.A) (rows':=ps.map ints) (fun i h=>O) rfl fun j r r' h1 h2=>by
   rw[h1]at h2;cases h2;refine⟨rfl,fun i hi _=>?_⟩;rw[List.getElem?_map]at h1;obtain⟨z,_,rfl⟩:=Vw.1 h1;have e0:(ints z)[i]?=some (ints z)[i]:=Vz hi;generalize (ints z)[i]=a at e0 ⊢;rw[fa]at e0;obtain⟨b,_,rfl⟩:=Vw.1 e0;exact .lit _
  rw[VJ,Xg]at this;have e:(ps.map ((fun r:List ZK=>ZK.Q r.length r) ∘ ints))=ps.map ah:=V1 fun z _=>by simp[Function.comp,ah,aR]
  rw[e]at this;exact this
def Q8 (d:ZM)(hf:Z1 d)(hok:ZR d)(bs:List Int)(hbl:(bs.length:Int)<2 ^ 63)(hb8:∀x∈bs,U8 x)(H:ZJ)(K:ZP->ZJ->Prop)(hK:K (.ret (aE (wY d bs))) H):ag Tryz.prog G0 7 [pP d,.Q bs.length (cu bs)] H K :=
 Q7 d _ (Qf _ _) hf hok bs hbl hb8 H K hK
end Go.Proofs
namespace Go.Hx
open Go.Proofs.R01 (pureRun_bind)
variable {P:Program} {t e:TypeId} {x y:Operand} {k k':IntKind} {a b c d:Int}
variable {f g:Field}
def M1 (n:Nat)(he:P.underlying e=some (.int k)):bQ P (Op.equalIn (n+1) e (.int k' a) (.int k' b))=some (a == b):=by
 unfold Op.equalIn;simp[underlying,program,he,bQ,bind,Sem.bind,pure]
def Cy (n : Nat)  (ht : P.underlying t = some (.struct #[f, g])) (hsi : P.stoodInHeld t = false) (hf : f.type = e) (hg : g.type = e) (fn : f.name ≠ "_") (gn : g.name ≠ "_") (fo : f.offset = 0) (go : g.offset = 1) (he : P.underlying e = some (.int k)) :
  bQ P (Op.equalIn (n+2) t (.agg #[.int k' a,.int k' b]) (.agg #[.int k' c,.int k' d]))=some (a == c && b == d):=by
 unfold Op.equalIn;have e1:∀ {α:Type} (f':TypeDesc->Sem α),bQ P (underlying t >>= f')=bQ P (f' (.struct #[f,g])):=fun f'=>pureRun_bind (by simp[underlying,program,ht,bQ,bind,Sem.bind,pure]);have e0:∀ {α:Type} (f':Program->Sem α),bQ P (program >>= f')=bQ P (f' P):=fun f'=>pureRun_bind (by simp[program,bQ]);have e3:∀ {α:Type} (cs:Array Value) (o:Nat) (v:Value) (f':Value->Sem α),cs[o]?=some v->bQ P (part e cs o >>= f')=bQ P (f' v):=fun cs o v f' h=>pureRun_bind (by simp[part,isAgg,underlying,program,he,h,bQ,bind,Sem.bind,pure]);have e4:∀ {α:Type} (p q:Int) (f':Bool->Sem α),bQ P (Op.equalIn (n+1) e (.int k' p) (.int k' q) >>= f')=bQ P (f' (p == q)):=fun p q f'=>pureRun_bind (M1 n he);rw[e1];dsimp only;rw[e0,hsi];simp only[Bool.false_eq_true,if_false,<- Array.forIn_toList,List.forIn_cons,List.forIn_nil,fn,gn,hf,hg,fo,go,ne_eq,not_false_eq_true,if_true,bind_assoc,pure_bind];rw[e3 _ _ (.int k' a) _ rfl,e3 _ _ (.int k' c) _ rfl,e4];by_cases h:(a == c)=true
 ·rw[h];simp only[Bool.not_true,Bool.false_eq_true,if_false,pure_bind,bind_assoc];rw[e3 _ _ (.int k' b) _ rfl,e3 _ _ (.int k' d) _ rfl,e4];by_cases h2:(b == d)=true
  ·rw[h2];rfl
  ·rw[X8]at h2;rw[h2];rfl
 ·rw[X8]at h;rw[h];rfl
def M3  (ht : P.underlying t = some (.struct #[f, g])) (hsi : P.stoodInHeld t = false) (hf : f.type = e) (hg : g.type = e) (fn : f.name ≠ "_") (gn : g.name ≠ "_") (fo : f.offset = 0) (go : g.offset = 1) (he : P.underlying e = some (.int k)) (hq : P.eqGuardType P.depth t = false) :
  bI P .neq t x y (.agg [.lit (.int k' a),.lit (.int k' b)]) (.agg [.lit (.int k' c),.lit (.int k' d)])=some (.lit (.bool (!(a == c && b == d)))):=by
 show (bQ P (do eqGuard .neq t x y (.agg #[.int k' a,.int k' b]) (.agg #[.int k' c,.int k' d]);binOp .neq t (.agg #[.int k' a,.int k' b]) (.agg #[.int k' c,.int k' d]))).map _=_;have h0:bQ P (eqGuard .neq t x y (.agg #[.int k' a,.int k' b]) (.agg #[.int k' c,.int k' d]))=some ():=by
  simp[eqGuard,program,hq,bQ,bind,Sem.bind,pure]
 have h1:binOp .neq t (.agg #[.int k' a,.int k' b]) (.agg #[.int k' c,.int k' d])=(Op.equalIn (9998+2) t (.agg #[.int k' a,.int k' b]) (.agg #[.int k' c,.int k' d]) >>= fun r=>pure (Value.bool (!r))):=rfl;rw[pureRun_bind h0,h1,pureRun_bind (Cy 9998 ht hsi hf hg fn gn fo go he)];rfl
def M4 {P : Program} {t e : TypeId} {x y : Operand} {k k' : IntKind} {a b c d : Int}  (ht : P.underlying t = some (.struct #[f, g])) (hsi : P.stoodInHeld t = false) (hf : f.type = e) (hg : g.type = e) (fn : f.name ≠ "_") (gn : g.name ≠ "_") (fo : f.offset = 0) (go : g.offset = 1) (he : P.underlying e = some (.int k)) (hq : P.eqGuardType P.depth t = false) :
  bI P .eql t x y (.agg [.lit (.int k' a),.lit (.int k' b)]) (.agg [.lit (.int k' c),.lit (.int k' d)])=some (.lit (.bool (a == c && b == d))):=by
 show (bQ P (do eqGuard .eql t x y (.agg #[.int k' a,.int k' b]) (.agg #[.int k' c,.int k' d]);binOp .eql t (.agg #[.int k' a,.int k' b]) (.agg #[.int k' c,.int k' d]))).map _=_;have h0:bQ P (eqGuard .eql t x y (.agg #[.int k' a,.int k' b]) (.agg #[.int k' c,.int k' d]))=some ():=by
  simp[eqGuard,program,hq,bQ,bind,Sem.bind,pure]
 have h1:binOp .eql t (.agg #[.int k' a,.int k' b]) (.agg #[.int k' c,.int k' d])=(Op.equalIn (9998+2) t (.agg #[.int k' a,.int k' b]) (.agg #[.int k' c,.int k' d]) >>= fun r=>pure (Value.bool r)):=rfl;rw[pureRun_bind h0,h1,pureRun_bind (Cy 9998 ht hsi hf hg fn gn fo go he)];rfl
attribute [go_sem] Gn
end Go.Hx
namespace Go.Proofs
open Go.Hx
variable {o1 o2:Operand}
def M5 (a b c d:Int):bI Tryz.prog .neq 50 o1 o2 (.agg [.lit (.int .i64 a),.lit (.int .i64 b)]) (.agg [.lit (.int .i64 c),.lit (.int .i64 d)])=some (.lit (.bool (!(a == c && b == d)))) :=
 M3 Tryz.underlying50 ZH rfl rfl ZG ZG rfl rfl Tryz.underlying3 (ZH)
def wC (a b c d:Int):bI Tryz.prog .eql 50 o1 o2 (.agg [.lit (.int .i64 a),.lit (.int .i64 b)]) (.agg [.lit (.int .i64 c),.lit (.int .i64 d)])=some (.lit (.bool (a == c && b == d))) :=
 M4 Tryz.underlying50 ZH rfl rfl ZG ZG rfl rfl Tryz.underlying3 (ZH)
end Go.Proofs
namespace Go.Hx
variable {P:Program} {G:Nat->Option (List ZK)}
variable {H:ZJ}
def U6 (hc:Clo H):FzH (fun _=>False) H H where
 gone id hs:=hs.elim
 kept id b _ hb:=by
  have hbb:=hc.below id b hb;refine⟨hc.lt id b hb,b,hb,?_⟩;cases b with
  |nt=>trivial
  |mp=>rfl
  |J g e cells=>exact⟨rfl,rfl,rfl,fun i h _=>.dead (hbb i h)⟩
  |loop st pend n env ps asg body=>exact⟨rfl,rfl,rfl,rfl,rfl,rfl,rfl,fun t ht=>.dead (hbb t ht)⟩
 none id _ hb:=hb
def ag.A4 {f:FuncId}{args args':List ZK}{K:ZP->ZJ->Prop}(hG:gD G)(hl:args'.length=args.length)(hv:∀i (h:i<args.length) (h':i<args'.length),Fz (fun _=>False) H H.A args[i] args'[i])
  (h:ag P G f args' H K):ag P G f args H K:=by
 refine⟨h.1,fun Γ w cargs R hr=>?_⟩;have F:=U6 R.Z;have R0:=F.rel hG R;have E0:ZX Γ H w (gY (fun _=>False) Γ) H w:=F.bK;refine(h.2 _ w cargs R0 ⟨by have:=hr.1;omega,fun i h1 h2=>(hv i O h1).sound R F (hr.2 i O h2)⟩).mono ?_;rintro e w' ⟨r,H',Γ',h1,h2,h3,h4,h5⟩;exact⟨r,H',Γ',h1,h2,h3,E0.trans ZI h4,h5⟩
end Go.Hx
namespace Go.Proofs
open Go.Hx
variable {a:Int}{p:List (List Int)}{l vals:List Int}{ns:List ZL}{us:List ZY}{n r v v0:Nat}{f g:Nat->Int}{c:Nat->Nat->Int}{x:ZL}{d:ZM}
def zZ {S:Nat->Prop}{H:ZJ}{nx:Nat}(d:ZM):Fz S H nx (pP d) (cM d):=by
 refine .agg rfl fun i hi _=>?_
 match i,hi with
 |0,_=>exact .lit _
 |1,_=>exact .Q (by rw[mW,kV]) fun j h h'=>zL d.C j h h'
 |2,_=>exact .lit _
 |3,_=>exact .Q rfl fun j h h'=>zW d.nn _ (Wo h)
def D6 (h:Z9 d):d.Y<2 ^ d.C.length:=by
 have h1:=h.Y;rw[Yo]at h1;exact(Nat.div_eq_zero_iff_lt (YW _)).1 h1
def z9 {vars:List Int}(h8:ns.length<=8)(hp:cQ vars ns.length)(hc:∀y∈ns,1<=y.L/\y.L<=4):vars.length<=12:=by
 have:=(uL h8 hp hc).1
 rwa [iG]at this
def uz (h:ZR d):Z1 d:=by
 have n8:=h.n.n1;refine⟨⟨O,fun x hx=>?_⟩,?_,by have:=h.nn.1;omega,fun u hu=>?_⟩
 ·obtain⟨v,hv⟩:=VG.1 hx;have hn:=h.nA.node _ (an (jm (c:=fun _ _=>0) hv));have hr:=h.nA.na _ (an (jm (c:=fun _ _=>0) hv));rw[(jD ..).1,(jD ..).2,ik]at hn;unfold im at hr;rw[uI]at hr;have hpl:=z9 n8.2 hn.2 h.n.L;refine⟨O,?_⟩;by_cases hb:d.Y.testBit v=true
  ·rw[(h.n.dec v x hv hb).1];exact⟨ZF,fun r hr=>by cases hr⟩
  ·rw[qW hb]at hr;have:=(jK n8.2 hn.2 h.n.L).prod;refine⟨O,fun r hr'=>?_⟩;have:=(hr.2 r hr').1;omega
 ·exact VM (D6 h.n) (V0 ZG O)
 ·have hu':=h.nn.2 u hu;have:=z9 n8.2 hu'.vars h.n.L;have:=(uL n8.2 hu'.vars h.n.L).prod;have:=hu'.size;omega
def qK (h:ZR d)(hp:ZU d p):mA p:=by
 have n8:=h.n.n1;have:=ia (D:=d.Y) (n:=d.C.length);have hl:=hp.len;refine⟨by unfold aB at hl;omega,fun r hr=>?_⟩;obtain⟨k,hk⟩:=VG.1 hr;obtain⟨v,hv⟩:=ao (l:=aB d) (i:=k) (by have:=aI hk;omega);obtain⟨v1,v2,_⟩:=fw hv;obtain⟨x,hx⟩:=ao v1;have h1:=(hp.row k v x r hv hx hk).1;have h2:=mZ h v1 v2;unfold df at h2;rw[hx]at h2;dsimp only at h2;omega
def ow (h:ZR d)(hp:ZU d p):eA d p=0:=by
 unfold eA;rw[ep h,ep hp];rfl
def D7 (k:Nat)(h:k<=6):(60:Int) ^ k<=46656000000:=by
 have h1:(60:Nat) ^ k<=60 ^ 6:=V0 ZG h;have h2:(60:Nat) ^ 6=46656000000:=ZG
 rw[h2]at h1;have h3:=Int.ofNat_le.2 h1;rw[Int.natCast_pow]at h3;exact h3
def Rb {g:Int}(h:Z5 g ns)(h6:ns.length<=6)(hf:bZ (ak ns) vals):0<=weight ns vals/\weight ns vals<=46656000000:=by
 have hb:∀w∈ic ns vals,0<=w/\w<=60:=fun w hw=>by
  obtain⟨v,hv,rfl⟩:=VI.1 hw;obtain⟨x,hx⟩:=ao (VP.1 hv);obtain⟨i,r,a,w,hR⟩:=xE h hx hf;rw[hR.eq];have:=hR.wb;have:=h.g1;omega
 have h1:=oa (b:=60) O hb;have h2:=D7 (ic ns vals).length (by rw[wO];omega);exact⟨h1.1,X5 h1.2 h2⟩
def Aa {g:Int}(h:Z5 g ns):bO ns<=1024/\(bO ns:Int)=aj (ak ns):=by
 have h1:=h.size;have h2:=dY (l:=ak ns) fun c hc=>by
  obtain⟨x,hx,rfl⟩:=VI.1 hc;exact(h.node x hx).1.1
 unfold bO;omega
def Rc {g:Int}(h:Z5 g ns)(h6:ns.length<=6)(hu:∀u∈us,Z8 ns u)(h4:us.length<=4)(hf:bZ (ak ns) vals)(j:Nat):
  -18662400000000<=weight ns vals*cq ns (us.take j) vals/\weight ns vals*cq ns (us.take j) vals<=18662400000000:=by
 obtain⟨a,b⟩:=Rb h h6 hf;obtain⟨c,d⟩:=qY hu h4 vals j;generalize weight ns vals=w at *
 generalize cq ns (us.take j) vals=u at *
 constructor
 ·have h1:w*(-400)<=w*u:=VY c a;omega
 ·have h1:w*u<=w*400:=VY d a;omega
def Rd {g:Int}(h:Z5 g ns)(h6:ns.length<=6)(hu:∀u∈us,Z8 ns u)(h4:us.length<=4):∀k:Nat,-(18662400000000*k:Int)<=jh ns us k/\jh ns us k<=18662400000000*k:=by
 intro k
 induction k with
 |zero=>simp[jh]
 |succ k ih =>
  rw[Dx];have h1:∀c∈ak ns,1<=c:=fun c hc=>by
   obtain⟨x,hx,rfl⟩:=VI.1 hc;exact(h.node x hx).1.1
  have:=Rc h h6 hu h4 (pF h1 k) us.length;rw[Vy ZI]at this
  push_cast
  omega
def wZ (h6:d.C.length<=6)(p:List (List Int)):Ff d p:=by
 intro hok hp k hk;have hn:=Fc hok (xA hp);have:=Rd hn (by rw[ik];exact h6) (us:=d.nn) (fun u hu=>Fe (hok.nn.2 u hu)) hok.nn.1 k;have hw:=(Aa hn).1;rw[xB]at hw;omega
def Ab {q:List (List Int)}(hok:ZR d)(hq:ZU d q):pS d q=eM (bE d q) (d.X ^ d.C.length):=by
 unfold pS;rw[VA (ow hok hq)]
def SS (n:Nat)(f:Nat->Int):Int:=((List.range n).map f).sum
def oh (f:Nat->Int):SS 0 f=0:=rfl
def fH (n:Nat)(f:Nat->Int):SS (n+1) f=SS n f+f n:=by unfold SS;rw[Wy];simp
def ie (h:∀i,i<n->f i=g i):SS n f=SS n g:=by
 unfold SS;congr 1;exact V1 fun i hi=>h i (VP.1 hi)
def Qh (n:Nat)(f g:Nat->Int):SS n (fun i=>f i+g i)=SS n f+SS n g:=by
 induction n with
 |zero=>rfl
 |succ n ih=>rw[fH,fH,fH,ih];omega
def ss (n:Nat):SS n (fun _=>0)=0:=by
 induction n with
 |zero=>rfl
 |succ n ih=>rw[fH,ih];rfl
def Dz (n m:Nat)(f:Nat->Nat->Int):SS n (fun i=>SS m (f i))=SS m (fun j=>SS n fun i=>f i j):=by
 induction n with
 |zero=>simp only[oh];rw[ss]
 |succ n ih=>simp only[fH];rw[ih,Qh]
def DA {m a:Nat}(h:a<m)(t:Int):SS m (fun j=>if j=a then t else 0)=t:=by
 induction m with
 |zero=>omega
 |succ m ih =>
  rw[fH];by_cases e:a=m
  ·subst e;rw[VA rfl,ie (g:=fun _=>0) fun i hi=>Vx O,ss];omega
  ·rw[ih O,Vx (fun h=>e h.symm)];omega
def zQ (h:∀i,i<n->f i<=g i):SS n f<=SS n g:=by
 induction n with
 |zero=>exact Int.le_refl _
 |succ n ih =>
  rw[fH,fH];have:=ih fun i hi=>h i O;have:=h n O;omega
def DB (h:∀i,i<n->f i<=g i){a:Nat}(ha:a<n)(hl:f a<g a):SS n f<SS n g:=by
 induction n with
 |zero=>omega
 |succ n ih =>
  rw[fH,fH];by_cases e:a=n
  ·subst e;have:=zQ (n:=a) fun i hi=>h i O;omega
  ·have:=ih (fun i hi=>h i O) O;have:=h n O;omega
def Qi (ns:List ZL)(us:List ZY)(k:Nat):jh ns us k=SS k fun i=>weight ns (aS (ak ns) i)*cq ns us (aS (ak ns) i):=rfl
def kv (d:ZM)(vals:List Int)(v:Nat):Int:=if d.Y.testBit v=true then d.X else mX d.C vals v
def dR (d:ZM)(vals:List Int):Int:=aj ((List.range d.C.length).map (kv d vals))
def dC (d:ZM)(vals:List Int):Int:=dR d vals*cq d.C d.nn vals
def cY (ns:List ZL)(v:Nat)(vals:List Int):Nat:=match ns[v]? with
 |some x=>(bW (aV ns x) (aK vals x.F)).toNat
 |none=>0
def kW (d:ZM)(c:Nat->Nat->Int)(vals:List Int)(v:Nat):Bool:=decide (c (aY d.Y v) (cY d.C v vals)=vals.getD v 0)
def iU (d:ZM)(c:Nat->Nat->Int)(vals:List Int):Bool:=(aB d).all (kW d c vals)
def jE (d:ZM)(c:Nat->Nat->Int)(v0:Nat)(vals:List Int):Bool:=(aB d).all fun v=>decide (v=v0) ||kW d c vals v
def Qj (h:(0:Int)∈l):aj l=0:=by
 induction l with
 |nil=>cases h
 |cons x l ih =>
  rw[je];rcases List.mem_cons.1 h with rfl|h
  ·rw[YS]
  ·rw[ih h,Zm]
def Qk {g L b:Int}(ha:0<=a/\a<L)(hb:0<=b/\b<L):(cz g L a).getD b.toNat 0=if a=b then g else 0:=by
 unfold cz;rw[VB,WU];by_cases h:a=b
 ·subst h;rw[VA rfl,VA (by rw[VR];omega),VA rfl];rfl
 ·rw[Vx O,Vx h,Wc,VA O];rfl
def Ql (d:ZM)(c:Nat->Nat->Int)(us:List ZY)(vals:List Int):cq (cR d c) us vals=cq d.C us vals:=by
 unfold cq oe;rw[lF]
def kX (hok:ZR d)(hx:d.C[v]?=some x)(hf:bZ (ak d.C) vals):(cY d.C v vals:Int)=bW (aV d.C x) (aK vals x.F)/\cY d.C v vals<bB d.C x:=by
 have hpl:cQ x.F d.C.length:=by
  have:=(hok.nA.node _ (an (jm (c:=fun _ _=>0) hx))).2;rw[(jD ..).2,ik]at this;exact this
 have hin:fm x.F d.C.length:=fun q hq=>by have:=hpl.2 q hq;omega
 have hr:=mS (sV hin hf);unfold cY bB;rw[hx];simp only;omega
def DC (hok:ZR d)(hc:xz d c)(hf:bZ (ak d.C) vals)(hv:v<d.C.length):
  mX (cR d c) vals v=if d.Y.testBit v=true/\kW d c vals v=false then 0 else kv d vals v:=by
 obtain⟨x,hx⟩:=ao hv;unfold mX;rw[jm hx];simp only;unfold pK;rw[uI,(jD ..).2];show ((fT d c (aB d).length v x).na.getD (bW (aV d.C (fT d c (aB d).length v x)) (aK vals x.F)).toNat []).getD (vals.getD v 0).toNat 0=_;have hpc:aV d.C (fT d c (aB d).length v x)=aV d.C x:=by unfold aV;rw[(jD ..).2]
 rw[hpc];obtain⟨r1,r2⟩:=kX hok hx hf;have hri:cY d.C v vals=(bW (aV d.C x) (aK vals x.F)).toNat:=by unfold cY;rw[hx]
 rw[<- hri];obtain⟨a,ha⟩:=ao (l:=vals) (i:=v) (by rw[hf.1,dk];exact hv);have hab:=hf.2 v x.L a (dw hx) ha;by_cases hb:d.Y.testBit v=true
 ·have hcc:=hc _ v (cY d.C v vals) x (qU hx hb) hx r2;have hrows:(fT d c (aB d).length v x).na=eI d.X d.C c (aY d.Y v) x:=by
   rw[uJ hx hb];show x.na++_=_;rw[(hok.n.dec v x hx hb).1,List.nil_append]
  have hrow:(eI d.X d.C c (aY d.Y v) x).getD (cY d.C v vals) []=cz d.X x.L (c (aY d.Y v) (cY d.C v vals)):=by
   unfold eI;rw[VB,List.getElem?_map,VT r2];rfl
  rw[hrows,hrow,bM ha,Qk hcc hab];unfold kW kv;rw[bM ha,VA hb];by_cases he:c (aY d.Y v) (cY d.C v vals)=a
  ·rw[VA he,Vx (by simp[he])]
  ·rw[Vx he,VA ⟨hb,by simp[he]⟩]
 ·rw[qW hb,Vx fun h=>hb h.1];unfold kv mX;rw[Vx hb,hx];simp only;unfold pK;rw[<- hri]
def Qm (hok:ZR d)(hc:xz d c)(hf:bZ (ak d.C) vals):
  weight (cR d c) vals=if iU d c vals=true then dR d vals else 0:=by
 unfold weight ic;rw[ik];by_cases h:iU d c vals=true
 ·rw[VA h];unfold dR;congr 1;refine V1 fun v hv=>?_;have hv':=VP.1 hv;rw[DC hok hc hf hv',Vx];rintro⟨hb,ha⟩;unfold iU at h;have:=VZ.1 h v (fR.2 ⟨hv',hb⟩);rw[ha]at this;cases this
 ·rw[Vx h];refine Qj ?_;unfold iU at h;rw[VZ]at h;obtain⟨v,hv⟩:=YD.1 h;obtain⟨hvm,hva⟩:=YO.1 hv;obtain⟨v1,v2⟩:=fR.1 hvm;refine VI.2 ⟨v,VP.2 v1,?_⟩;rw[DC hok hc hf v1,VA ⟨v2,by simpa using hva⟩]
def wv (d:ZM)(w:Nat):List Int:=aS (ak d.C) w
def iV (hok:ZR d)(w:Nat):bZ (ak d.C) (wv d w):=pF (fun c hc=>by
 obtain⟨x,hx,rfl⟩:=VI.1 hc;exact(hok.n.L x hx).1) _
def fI (d:ZM)(c:Nat->Nat->Int):Int:=SS (bO d.C) fun w=>if iU d c (wv d w)=true then dC d (wv d w) else 0
def pL (hok:ZR d)(hp:ZU d p):bE d p=fI d (fixC p):=by
 unfold bE fI;rw[Qi];refine ie fun w _=>?_;rw[lF,Ql];show weight (cR d (fixC p)) (wv d w)*cq d.C d.nn (wv d w)=_;rw[Qm hok (xA hp) (iV hok w)];show (if iU d (fixC p) (wv d w)=true then dR d (wv d w) else 0)*cq d.C d.nn (wv d w)=_;by_cases h:iU d (fixC p) (wv d w)=true
 ·rw[VA h,VA h];rfl
 ·rw[Vx h,Vx h,YS]
def ig (d:ZM)(c:Nat->Nat->Int)(v0 r:Nat)(x:Int):Int :=
 SS (bO d.C) fun w=>if jE d c v0 (wv d w)=true/\cY d.C v0 (wv d w)=r/\(wv d w).getD v0 0=x then dC d (wv d w) else 0
def DD (hv:v0∈aB d)(vals:List Int):iU d c vals=true↔jE d c v0 vals=true/\c (aY d.Y v0) (cY d.C v0 vals)=vals.getD v0 0:=by
 unfold iU jE;rw[VZ,VZ];constructor
 ·intro h;exact⟨fun v hv=>by rw[h v hv];simp,of_decide_eq_true (h v0 hv)⟩
 ·rintro⟨h1,h2⟩ v hvm;have:=h1 v hvm;rw[Wr,decide_eq_true_eq]at this;rcases this with rfl|h
  ·exact V8 h2
  ·exact h
def DE (hok:ZR d){x0:ZL}(hx:d.C[v0]?=some x0)(hb:d.Y.testBit v0=true):
  fI d c=SS (bB d.C x0) fun r=>ig d c v0 r (c (aY d.Y v0) r):=by
 unfold fI ig;rw[Dz];refine ie fun w _=>?_;obtain⟨_,r2⟩:=kX hok hx (iV hok w);have hv:v0∈aB d:=fR.2 ⟨aI hx,hb⟩;have e:∀r,r<bB d.C x0->(if jE d c v0 (wv d w)=true/\cY d.C v0 (wv d w)=r/\(wv d w).getD v0 0=c (aY d.Y v0) r then dC d (wv d w) else 0)=if r=cY d.C v0 (wv d w) then (if iU d c (wv d w)=true then dC d (wv d w) else 0) else 0:=fun r _=>by
  by_cases h:r=cY d.C v0 (wv d w)
  ·subst h;rw[VA rfl];by_cases ha:iU d c (wv d w)=true
   ·obtain⟨a1,a2⟩:=(DD hv _).1 ha;rw[VA ha,VA ⟨a1,rfl,a2.symm⟩]
   ·rw[Vx ha,Vx fun h=>ha ((DD hv _).2 ⟨h.1,h.2.2.symm⟩)]
  ·rw[Vx h,Vx fun h'=>h h'.2.1.symm]
 rw[ie e,DA r2]
def Qn {c':Nat->Nat->Int}(h:∀v∈aB d,v≠v0->∀r,c (aY d.Y v) r=c' (aY d.Y v) r)(r:Nat)(x:Int):ig d c v0 r x=ig d c' v0 r x:=by
 have e:∀vals,jE d c v0 vals=jE d c' v0 vals:=fun vals=>by
  unfold jE;rw[Xl,VZ,VZ];have hk:∀v∈aB d,(decide (v=v0) ||kW d c vals v)=(decide (v=v0) ||kW d c' vals v):=fun v hv=>by
   by_cases hvv:v=v0
   ·simp[hvv]
   ·unfold kW;rw[h v hv hvv]
  exact⟨fun h1 v hv=>by rw[<- hk v hv];exact h1 v hv,fun h1 v hv=>by rw[hk v hv];exact h1 v hv⟩
 unfold ig;exact ie fun w _=>by rw[e]
def iE:List Int->Int
 | []=>0
 |a :: l=>l.foldl max a
def foldl_max (l:List Int):∀a,a<=l.foldl max a/\(∀x∈l,x<=l.foldl max a)/\(l.foldl max a=a\/l.foldl max a∈l):=by
 induction l with
 |nil=>exact fun a=>⟨Int.le_refl _,fun x h=>(by cases h),.inl rfl⟩
 |cons b l ih =>
  intro a;obtain⟨h1,h2,h3⟩:=ih (max a b);simp only[V6];refine⟨O,fun x hx=>?_,?_⟩
  ·rcases List.mem_cons.1 hx with rfl|hx
   ·omega
   ·exact h2 x hx
  ·rcases h3 with h3|h3
   ·rw[h3];rcases Int.le_total a b with h|h
    ·rw[Int.max_eq_right h];exact .inr (ZF)
    ·rw[Int.max_eq_left h];exact .inl rfl
   ·exact .inr (by simp[h3])
def DF {x:Int}(h:x∈l):x<=iE l:=by
 cases l with
 |nil=>cases h
 |cons a l =>
  obtain⟨h1,h2,_⟩:=foldl_max l a;rcases List.mem_cons.1 h with rfl|h
  ·exact h1
  ·exact h2 x h
def wQ (h:l≠[]):iE l∈l:=by
 cases l with
 |nil=>exact absurd rfl h
 |cons a l =>
  rcases(foldl_max l a).2.2 with h|h
  ·show l.foldl max a∈_;rw[h];simp
  ·exact Xv _ h
def kx (d:ZM)(c:Nat->Nat->Int)(v0 r:Nat)(n:Nat):List Int:=(List.range n).map fun (x:Nat)=>ig d c v0 r (x:Int)
def zR {x:Nat}(h:x<n):(kx d c v0 r n)[x]?=some (ig d c v0 r (x:Int)):=by unfold kx;rw[List.getElem?_map,VT h];rfl
def zS (d:ZM)(c:Nat->Nat->Int)(v0 r n:Nat):(kx d c v0 r n).length=n:=by simp[kx]
def bT (d:ZM)(v:Nat):Nat:=(df d v).1.toNat
def cO (d:ZM)(v:Nat):Nat:=(df d v).2.toNat
def pM (d:ZM)(c:Nat->Nat->Int)(v r:Nat):Int:=iE (kx d c v r (cO d v))
def fk (d:ZM)(c:Nat->Nat->Int)(v:Nat):List Int:=(List.range (bT d v)).map fun r=>(((kx d c v r (cO d v)).idxOf (pM d c v r):Nat):Int)
def iW (d:ZM)(p:List (List Int))(v:Nat):Prop:=∀r,r<bT d v->ig d (fixC p) v r (fixC p (aY d.Y v) r)=pM d (fixC p) v r
instance (d:ZM)(p:List (List Int))(v:Nat):Decidable (iW d p v):=by unfold iW;infer_instance
def jF (hx:d.C[v]?=some x)(hc:0<=x.L):bT d v=bB d.C x/\(cO d v:Int)=x.L:=by
 unfold bT cO df;rw[hx];simp only[Int.toNat_natCast];exact⟨trivial,O⟩
def zT (hok:ZR d)(c:Nat->Nat->Int)(hv:v∈aB d)(hr:r<bT d v):
  ∃b:Nat,(fk d c v)[r]?=some (b:Int)/\b<cO d v/\ig d c v r (b:Int)=pM d c v r:=by
 obtain⟨v1,v2⟩:=fR.1 hv;have hrc:=mZ hok v1 v2;have hn:1<=cO d v:=by unfold cO;omega
 have hne:kx d c v r (cO d v)≠[]:=fun h=>by
  have:=zS d c v r (cO d v);rw[h]at this;simp at this;omega
 have hm:=wQ hne;have hlt:=Wf hm;have hget:=WI hlt;have hlt2:(kx d c v r (cO d v)).idxOf (iE (kx d c v r (cO d v)))<cO d v:=by have:=zS d c v r (cO d v);omega
 refine⟨_,by unfold fk;rw[List.getElem?_map,VT hr];rfl,hlt2,?_⟩;have h2:=zR (d:=d) (c:=c) (v0:=v) (r:=r) hlt2;rw[Vz hlt,hget]at h2;exact(Option.some.inj h2).symm
def wR (d:ZM)(c:Nat->Nat->Int)(v:Nat):(fk d c v).length=bT d v:=by simp[fk]
def DG {k:Nat}(hk:k<p.length)(l:List Int)(k' r:Nat):fixC (p.set k l) k' r=if k'=k then l.getD r 0 else fixC p k' r:=by
 unfold fixC;rw[VB (l:=p.set k l),WU];by_cases h:k=k'
 ·subst h;rw[VA rfl,VA hk,VA rfl];rfl
 ·rw[Vx h,Vx fun e=>h e.symm,VB (l:=p)]
def Qo {w:Nat}(hv:v∈aB d)(hw:w∈aB d)(h:aY d.Y v=aY d.Y w):v=w:=by
 obtain⟨v1,v2⟩:=fR.1 hv;obtain⟨w1,w2⟩:=fR.1 hw;have a:=od v1 v2;have b:=od w1 w2;rw[h,b]at a;exact(Option.some.inj a).symm
def uu (hp:ZU d p)(hv:v∈aB d):aY d.Y v<p.length:=by
 obtain⟨v1,v2⟩:=fR.1 hv;rw[hp.len];exact aI (od v1 v2)
def Qp (hp:ZU d p)(hx:d.C[v]?=some x)(hb:d.Y.testBit v=true)(hl:l.length=bB d.C x)(ha:∀a∈l,0<=a/\a<x.L):ZU d (p.set (aY d.Y v) l):=by
 have hd:=qU hx hb;refine⟨by rw[VW];exact hp.len,fun k w y l' hw hy hl'=>?_⟩;by_cases h:aY d.Y v=k
 ·subst h;rw[hd]at hw;cases hw;rw[hx]at hy;cases hy;rw[VQ (by rw[hp.len];exact aI hd)]at hl';cases hl';exact⟨hl,ha⟩
 ·rw[Wa h]at hl';exact hp.row k w y l' hw hy hl'
def DH (hok:ZR d)(hp:ZU d p)(hv:v∈aB d):ZU d (p.set (aY d.Y v) (fk d (fixC p) v)):=by
 obtain⟨v1,v2⟩:=fR.1 hv;obtain⟨x,hx⟩:=ao v1;have hc:=hok.n.L x (an hx);obtain⟨n1,n2⟩:=jF hx O;refine Qp hp hx v2 (by rw[wR,n1]) fun a ha=>?_;obtain⟨r,hr⟩:=VG.1 ha;obtain⟨b,h1,h2,_⟩:=zT hok (fixC p) hv (r:=r) (by have:=aI hr;rwa [wR]at this);rw[h1]at hr;cases hr;omega
def Qq (hok:ZR d)(hp:ZU d p)(hv:v∈aB d)(l:List Int):fI d (fixC (p.set (aY d.Y v) l))=SS (bT d v) fun r=>ig d (fixC p) v r (l.getD r 0):=by
 obtain⟨v1,v2⟩:=fR.1 hv;obtain⟨x,hx⟩:=ao v1;have hc:=hok.n.L x (an hx);obtain⟨n1,_⟩:=jF hx O;rw[DE hok hx v2,n1];refine ie fun r _=>?_;rw[DG (uu hp hv),VA rfl];exact Qn (fun w hw hne r=>by
  rw[DG (uu hp hv),Vx fun e=>hne (Qo hw hv e)]) _ _
def Qr (hok:ZR d)(p:List (List Int))(hv:v∈aB d):fI d (fixC p)=SS (bT d v) fun r=>ig d (fixC p) v r (fixC p (aY d.Y v) r):=by
 obtain⟨v1,v2⟩:=fR.1 hv;obtain⟨x,hx⟩:=ao v1;have hc:=hok.n.L x (an hx);obtain⟨n1,_⟩:=jF hx O;rw[DE hok hx v2,n1]
def DI (c:Nat->Nat->Int)(v r:Nat)(ha:0<=a/\a<cO d v):ig d c v r a<=pM d c v r:=by
 obtain⟨b,rfl⟩:=VE ha.1;exact DF (an (zR (d:=d) (c:=c) (v0:=v) (r:=r) (n:=cO d v) O))
def wS (hok:ZR d)(hp:ZU d p)(hv:v∈aB d)(hr:r<bT d v):0<=fixC p (aY d.Y v) r/\fixC p (aY d.Y v) r<cO d v:=by
 obtain⟨v1,v2⟩:=fR.1 hv;obtain⟨x,hx⟩:=ao v1;have hc:=hok.n.L x (an hx);obtain⟨n1,n2⟩:=jF hx O;rw[n2];exact xA hp _ v r x (qU hx v2) hx (O)
def DJ (hok:ZR d)(hp:ZU d p)(hv:v∈aB d)(h:¬iW d p v):fI d (fixC p)<fI d (fixC (p.set (aY d.Y v) (fk d (fixC p) v))):=by
 rw[Qq hok hp hv,Qr hok p hv];have hle:∀r,r<bT d v->ig d (fixC p) v r (fixC p (aY d.Y v) r)<=ig d (fixC p) v r ((fk d (fixC p) v).getD r 0):=fun r hr=>by
  obtain⟨b,h1,_,h3⟩:=zT hok (fixC p) hv hr;rw[bM h1,h3];exact DI _ _ _ (wS hok hp hv hr)
 obtain⟨r,hr⟩:=YD.1 h;obtain⟨hr1,hr2⟩:=YO.1 hr;refine DB hle hr1 ?_;obtain⟨b,h1,_,h3⟩:=zT hok (fixC p) hv hr1;have:=DI (d:=d) (fixC p) v r (wS hok hp hv hr1);rw[bM h1,h3];omega
def isLocal (d:ZM)(p:List (List Int)):Prop:=∀v∈aB d,iW d p v
instance (d:ZM)(p:List (List Int)):Decidable (isLocal d p):=by unfold isLocal;infer_instance
def qH (d:ZM)(p:List (List Int))(v:Nat):List (List Int):=if iW d p v then p else p.set (aY d.Y v) (fk d (fixC p) v)
end Go.Proofs
