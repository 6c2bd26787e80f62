/- Own work: contracts. -/
import Derived.Test.YtcccmbeolcjacaaConB
import Derived.Test.YtcccmbeolcjacaaRows
import Derived.Test.YtcccmbeolcjacaaLibC
import Derived.ProofKit
import Derived.Test.YtcccmbeolcjacaaConA
set_option linter.all false
set_option maxRecDepth 100000
namespace Go.Proofs
open Go.Hx
structure TopoR (ps:List Nat)(r:List Nat):Prop where
 len:r.length=ps.length
 nd:r.Nodup
 rng:∀ v∈r,v<ps.length
 rk:∀ (i v:Nat),r[i]?=some v->∀ u,(ps.getD v 0).testBit u=true->∃ j,j<i/\r[j]?=some u
theorem PE {ps:List Nat}(hp:∀ p∈ps,p<2 ^ 64):∀ (k:Nat) (out:List Nat) (done:Nat) (r:List Nat),gC ps k out done=some r->(∀ i,done.testBit i=true↔i∈out)->out.Nodup->(∀ v∈out,v<ps.length)->(∀ (i v:Nat),out[i]?=some v->∀ u,(ps.getD v 0).testBit u=true->∃ j,j<i/\out[j]?=some u) ->
  r.length=out.length+k/\r.Nodup/\(∀ v∈r,v<ps.length)/\(∀ (i v:Nat),r[i]?=some v->∀ u,(ps.getD v 0).testBit u=true->∃ j,j<i/\r[j]?=some u):=by
 intro k
 induction k with
 | zero =>
  intro out done r h h1 h2 h3 h4;unfold gC at h;cases h;exact⟨rfl,h2,h3,h4⟩
 | succ k ih =>
  intro out done r h h1 h2 h3 h4;unfold gC at h;cases hn:jz ps done with
  | none=>rw[hn]at h;cases h
  | some v =>
   rw[hn]at h;obtain⟨a,b,c⟩:=ym hp hn;have hvo:v ∉ out:=fun hm=>by rw[(h1 v).2 hm]at b;cases b
   obtain⟨e1,e2,e3,e4⟩:=ih (out++[v]) (done ||| 2 ^ v) r h (fun i=>by
    rw[ij,List.mem_append,List.mem_singleton,Bool.or_eq_true,h1,decide_eq_true_eq];exact or_congr Iff.rfl eq_comm) (List.nodup_append.2 ⟨h2,by simp,fun x hx y hy=>by obtain rfl:=List.mem_singleton.1 hy;rintro rfl;exact hvo hx⟩) (fun x hx=>by
    rcases List.mem_append.1 hx with hx|hx
    ·exact h3 x hx
    ·obtain rfl:=List.mem_singleton.1 hx;exact a) (fun i x hx u hu=>by
    have hl:=aG hx;rw[List.length_append,List.length_singleton]at hl;rcases Nat.lt_or_ge i out.length with hi|hi
    ·rw[List.getElem?_append_left hi]at hx;obtain⟨j,j1,j2⟩:=h4 i x hx u hu;exact⟨j,j1,by rw[List.getElem?_append_left (by omega)];exact j2⟩
    ·obtain rfl:i=out.length:=(by omega);simp only[List.getElem?_concat_length,Option.some.injEq]at hx;subst hx;obtain⟨j,hj⟩:=List.mem_iff_getElem?.1 ((h1 u).1 (c u hu));exact⟨j,aG hj,by rw[List.getElem?_append_left (aG hj)];exact hj⟩)
   exact⟨by rw[e1,List.length_append,List.length_singleton];omega,e2,e3,e4⟩
theorem PF {ps:List Nat}(hp:∀ p∈ps,p<2 ^ 64){r:List Nat}(h:eD ps=some r):TopoR ps r:=by
 obtain⟨e1,e2,e3,e4⟩:=PE hp ps.length [] 0 r h (fun i=>by simp) (by simp) (by simp) (by simp);exact⟨by simpa using e1,e2,e3,e4⟩
theorem PG:∀ (n:Nat) (l:List Nat),l.Nodup->(∀ v∈l,v<n)->l.length<=n:=by
 intro n
 induction n with
 | zero=>intro l _ h;cases l with
  | nil=>simp
  | cons a l=>exact absurd (h a (by simp)) (Nat.not_lt_zero _)
 | succ n ih =>
  intro l hd h;have h1:=ih (l.erase n) (hd.erase n) fun v hv=>by
   have h2:=(hd.mem_erase_iff).1 hv;have:=h v h2.2;omega
  have h3:=List.length_erase (a:=n) (l:=l);split at h3<;>omega
def ka (r:List Nat)(i v:Nat):Prop:=∃ j,j<i/\r[j]?=some v
theorem ka.up {r:List Nat}{i k v:Nat}(h:ka r i v)(hk:i<=k):ka r k v:=h.imp fun j hj=>⟨by omega,hj.2⟩
structure DrD (ns:List NodeP)(r:List Nat)(rem:Bool)(i known decs:Nat)(os:List Nat)(ms:List NodeP):Prop where
 card:aq ms=aq ns
 old:∀ v,decs.testBit v=false->ms[v]?=ns[v]?
 dec:∀ v x,ms[v]?=some x->decs.testBit v=true->x.rows=[]/\∃ s j,x.parents=dO s 8/\j<i/\r[j]?=some v/\∀ u,s.testBit u=true->ka r j u
 decsb:∀ v,decs.testBit v=true->ka r i v
 knownb:∀ v,known.testBit v=true->ka r i v
 os3:os.length<=3
 osm:∀ v,v∈os↔decs.testBit v=true
 osp:rem=true->os.Pairwise fun u v=>∀ x y,ms[u]?=some x->ms[v]?=some y->Sub (cC x.parents ||| 2 ^ u) (cC y.parents)
 osk:rem=true->∀ u∈os,∀ x,ms[u]?=some x->Sub (cC x.parents ||| 2 ^ u) known
theorem DrD.len {ns ms:List NodeP}{r os:List Nat}{rem:Bool}{i known decs:Nat}(h:DrD ns r rem i known decs os ms):ms.length=ns.length:=by
 have:=congrArg List.length h.card;simpa [aq] using this
theorem DrD.start (ns:List NodeP)(r:List Nat)(rem:Bool):DrD ns r rem 0 0 0 [] ns :=
 ⟨rfl,fun _ _=>rfl,fun v x _ h=>by simp at h,fun v h=>by simp at h,fun v h=>by simp at h,by simp,fun v=>by simp,fun _=>.nil,fun _ u hu=>by cases hu⟩
theorem DrD.skip {ns ms:List NodeP}{r os:List Nat}{rem:Bool}{i known decs:Nat}(h:DrD ns r rem i known decs os ms):DrD ns r rem (i+1) known decs os ms :=
 ⟨h.card,h.old,fun v x hx hb=>by
  obtain⟨a,s,j,b,c,d⟩:=h.dec v x hx hb;exact⟨a,s,j,b,by omega,d⟩,fun v hb=>(h.decsb v hb).up (by omega),fun v hb=>(h.knownb v hb).up (by omega),h.os3,h.osm,h.osp,h.osk⟩
theorem CL {s:Nat}(h:s<2 ^ 8):cC (dO s 8)=s:=by
 have h0:∀ p∈dO s 8,0<=p:=fun p hp=>by obtain⟨v,rfl,_⟩:=po.1 hp;omega
 refine Nat.eq_of_testBit_eq fun i=>?_;rw[me h0];cases hb:s.testBit i with
 | true=>exact decide_eq_true (po.2 ⟨i,rfl,ni h hb,hb⟩)
 | false =>
  refine decide_eq_false fun hm=>?_;obtain⟨v,e,_,hv⟩:=po.1 hm;obtain rfl:i=v:=by omega
  rw[hb]at hv;cases hv
theorem CM {r:List Nat}{n i v:Nat}(hr:∀ v∈r,v<n)(h:ka r i v):v<n:=h.elim fun _ hj=>hr v (List.mem_of_getElem? hj.2)
theorem uF {r:List Nat}{n i s:Nat}(hr:∀ v∈r,v<n)(h:∀ v,s.testBit v=true->ka r i v):s<2 ^ n:=yi fun v hv=>CM hr (h v hv)
theorem DrD.step {ns ms:List NodeP}{r os:List Nat}{rem:Bool}{i known decs:Nat}(h:DrD ns r rem i known decs os ms)(hr:TopoR (aZ ns) r)(h8:ns.length<=8)(ho:os.length<3){v:Nat}(hv:r[i]?=some v){x:NodeP}(hx:ns[v]?=some x){s:Nat}(hs:Sub s (cC x.parents)):
  decs.testBit v=false/\v<ns.length/\(if rem then s ||| known else s)<2 ^ ns.length /\
  DrD ns r rem (i+1) (known ||| (if rem then s ||| known else s) ||| 2 ^ v) (decs ||| 2 ^ v) (os++[v]) (ms.set v ⟨x.card,dO (if rem then s ||| known else s) 8,[]⟩):=by
 obtain⟨s',hs'⟩:∃ s',s'=(if rem then s ||| known else s):=⟨_,rfl⟩
 rw[<- hs'];have hsl:(aZ ns).length=ns.length:=by simp [aZ]
 have hrng:=hr.rng;rw[hsl]at hrng;have hvn:=hrng v (List.mem_of_getElem? hv);have hml:=h.len;have inj:∀ j,r[j]?=some v->j=i:=fun j hj=>(List.getElem?_inj (aG hj) hr.nd).1 (by rw[hj,hv]);have hdv:decs.testBit v=false:=by
  cases hb:decs.testBit v with
  | false=>rfl
  | true =>
   obtain⟨j,j1,j2⟩:=h.decsb v hb;have:=inj j j2;omega
 have sb:∀ u,s.testBit u=true->ka r i u:=fun u hu=>hr.rk i v hv u (by rw[bU (lh hx)];exact hs u hu);have sb':∀ u,s'.testBit u=true->ka r i u:=fun u hu=>by
  rw[hs']at hu;cases rem with
  | false=>exact sb u hu
  | true =>
   rw[if_pos rfl,Nat.testBit_or,Bool.or_eq_true]at hu;exact hu.elim (sb u) (h.knownb u)
 have hlt:=uF hrng sb';have hlt8:s'<2 ^ 8:=Nat.lt_of_lt_of_le hlt (Nat.pow_le_pow_right (by decide) h8);have selfv:(ms.set v ⟨x.card,dO s' 8,[]⟩)[v]?=some ⟨x.card,dO s' 8,[]⟩:=List.getElem?_set_self (by omega);have othv:∀ u,u≠v->(ms.set v ⟨x.card,dO s' 8,[]⟩)[u]?=ms[u]?:=fun u hu=>List.getElem?_set_ne (fun e=>hu e.symm);have osv:v ∉ os:=fun hm=>by rw[(h.osm v).1 hm]at hdv;cases hdv
 refine⟨hdv,hvn,hlt,⟨?_,fun u hu=>?_,fun u y hy hu=>?_,fun u hu=>?_,fun u hu=>?_,by simp;omega,fun u=>?_,fun hrem=>?_,fun hrem u hu y hy=>?_⟩⟩
 ·rw[<- h.card];unfold aq;rw[List.map_set];apply List.ext_getElem?;intro k;rw[List.getElem?_set];split
  ·rename_i e;subst e;have:=h.card;have h1:(aq ms)[v]?=(aq ns)[v]?:=(by rw[this]);rw[if_pos (by rw[List.length_map];omega)];rw[cV hx]at h1;exact h1.symm
  ·rfl
 ·rw[ij,Bool.or_eq_false_iff,decide_eq_false_iff_not]at hu;rw[othv u (fun e=>hu.2 e.symm)];exact h.old u hu.1
 ·by_cases e:u=v
  ·subst e;rw[selfv]at hy;cases hy;exact⟨rfl,s',i,rfl,by omega,hv,sb'⟩
  ·rw[othv u e]at hy;rw[ij,Bool.or_eq_true,decide_eq_true_eq]at hu;obtain⟨a,s2,j,b,c,d⟩:=h.dec u y hy (hu.resolve_right fun e'=>e e'.symm);exact⟨a,s2,j,b,by omega,d⟩
 ·rw[ij,Bool.or_eq_true,decide_eq_true_eq]at hu;rcases hu with hu|rfl
  ·exact(h.decsb u hu).up (by omega)
  ·exact⟨i,by omega,hv⟩
 ·rw[ij,Nat.testBit_or,Bool.or_eq_true,Bool.or_eq_true,decide_eq_true_eq]at hu;rcases hu with (hu|hu)|rfl
  ·exact(h.knownb u hu).up (by omega)
  ·exact(sb' u hu).up (by omega)
  ·exact⟨i,by omega,hv⟩
 ·rw[ij,List.mem_append,List.mem_singleton,h.osm,Bool.or_eq_true,decide_eq_true_eq];exact or_congr Iff.rfl eq_comm
 ·refine List.pairwise_append.2 ⟨(h.osp hrem).imp_of_mem fun {a b} ha hb hab p q hp hq=>?_,by simp,fun a ha b hb p q hp hq=>?_⟩
  ·rw[othv a (fun e=>osv (e ▸ ha))]at hp;rw[othv b (fun e=>osv (e ▸ hb))]at hq;exact hab p q hp hq
  ·obtain rfl:=List.mem_singleton.1 hb;rw[othv a (fun e=>osv (e ▸ ha))]at hp;rw[selfv]at hq;cases hq;rw[show cC (⟨x.card,dO s' 8,[]⟩:NodeP).parents=s' from CL hlt8,hs',if_pos hrem];exact(h.osk hrem a ha p hp).trans (Sub.right _ _)
 ·rcases List.mem_append.1 hu with hu|hu
  ·rw[othv u (fun e=>osv (e ▸ hu))]at hy;exact((h.osk hrem u hu y hy).trans (Sub.left _ _)).trans (Sub.left _ _)
  ·obtain rfl:=List.mem_singleton.1 hu;rw[selfv]at hy;cases hy;rw[show cC (⟨x.card,dO s' 8,[]⟩:NodeP).parents=s' from CL hlt8];exact Sub.or ((Sub.right known s').trans (Sub.left _ _)) (Sub.right _ _)
structure DrI (rem:Bool)(d:InfP):Prop where
 ok:InfOk d
 n5:d.nodes.length<=5
 rows:∀ v x,d.nodes[v]?=some x->d.decs.testBit v=false->x.rows≠[]
 os:∃ os:List Nat,os.length<=3/\(∀ v,v∈os↔d.decs.testBit v=true)/\(rem=true->os.Pairwise fun u v=>∀ x y,d.nodes[u]?=some x->d.nodes[v]?=some y->Sub (cC x.parents ||| 2 ^ u) (cC y.parents))
theorem CN {g:Int}{ns:List NodeP}(h:NetOk g ns):∀ x∈ns,x.rows≠[]:=fun x hx he=>by
 have h1:=(h.rows x hx).1;have h2:=fg (l:=aQ ns x) fun c hc=>(mv (fun q hq=>by have:=(h.node x hx).2.2 q hq;omega) (fun y hy=>(h.node y hy).1) c hc).1;rw[he]at h1;simp at h1;omega
theorem DrD.fin {g:Int}{ns ms:List NodeP}{r os:List Nat}{rem:Bool}{i known decs:Nat}(h:DrD ns r rem i known decs os ms)(hn:NetOk g ns)(hr:TopoR (aZ ns) r)(h5:ns.length<=5){us:List UtilP}(hul:us.length<=4)(hus:∀ u∈us,UtilOk ns u):
  DrI rem ⟨g,ms,decs,us⟩:=by
 have hsl:(aZ ns).length=ns.length:=by simp [aZ]
 have hrng:=hr.rng;rw[hsl]at hrng;have hml:=h.len;have hdl:decs<2 ^ ns.length:=uF hrng h.decsb;have getN:∀ (v:Nat) (x:NodeP),ms[v]?=some x->∃ y,ns[v]?=some y/\y.card=x.card:=fun v x hx=>by
  obtain⟨y,hy⟩:=ay (l:=ns) (i:=v) (by have:=aG hx;omega);refine⟨y,hy,?_⟩;have h1:(aq ms)[v]?=(aq ns)[v]?:=by rw[h.card]
  rw[cV hx,cV hy]at h1;exact(Option.some.inj h1).symm
 have hcard:∀ x∈ms,1<=x.card/\x.card<=4:=fun x hx=>by
  obtain⟨v,hv⟩:=List.mem_iff_getElem?.1 hx;obtain⟨y,hy,e⟩:=getN v x hv;rw[<- e];exact(hn.node y (List.mem_of_getElem? hy)).1
 have hpl:∀ (v:Nat) (x:NodeP),ms[v]?=some x->bT x.parents ms.length:=fun v x hx=>by
  cases hb:decs.testBit v with
  | false =>
   rw[h.old v hb]at hx;have:=(hn.node x (List.mem_of_getElem? hx)).2;rw[hml];exact this
  | true =>
   obtain⟨_,s,j,e,_,_,hs⟩:=h.dec v x hx hb;rw[e];refine⟨Qh _ _,fun q hq=>?_⟩;obtain⟨u,rfl,_,hu⟩:=po.1 hq;have:=CM hrng (hs u hu);rw[hml];omega
 have hR:RightN ⟨g,ms,decs,us⟩:=⟨by show 1<=ms.length/\ms.length<=8;rw[hml];exact hn.n1,by show decs >>> ms.length=0;rw[hml,Nat.shiftRight_eq_div_pow];exact Nat.div_eq_of_lt hdl,hcard,fun v x hx hb=>⟨(h.dec v x hx hb).1,hpl v x hx⟩⟩
 have hperm:IsPerm ns.length (bf r):=⟨by rw[show (bf r).length=r.length by simp [bf],hr.len,hsl],by
  unfold bf;exact List.Pairwise.map _ (R:=(·≠·)) (fun a b h e=>h (by omega)) hr.nd,fun q hq=>by
  obtain⟨v,hv,rfl⟩:=List.mem_map.1 hq;have:=hrng v hv;omega⟩
 have natg:∀ (j v:Nat),(bf r)[j]?=some (v:Int)↔r[j]?=some v:=fun j v=>by
  unfold bf;rw[List.getElem?_map,Option.map_eq_some_iff];exact⟨fun ⟨a,h1,h2⟩=>by rw[h1];congr 1;omega,fun h1=>⟨v,h1,rfl⟩⟩
 have hacy:kU (aZ ms):=by
  refine De (P:=bf r) (by rw[hml];exact hperm) (fun v hv=>?_) fun j v x hj hx q hq=>?_
  ·refine Classical.byContradiction fun hno=>?_;rw[hml]at hv;have hsub:(v :: r).length<=ns.length:=by
    have hnd:(v :: r).Nodup:=List.nodup_cons.2 ⟨fun hm=>hno (List.mem_map.2 ⟨v,hm,rfl⟩),hr.nd⟩;exact PG ns.length _ hnd fun u hu=>by
     rcases List.mem_cons.1 hu with rfl|hu
     ·exact hv
     ·exact hrng u hu
   rw[List.length_cons,hr.len,hsl]at hsub;omega
  ·have q0:=((hpl v x hx).2 q hq).1;refine⟨q0,?_⟩;have hj':=(natg j v).1 hj;obtain⟨u,rfl⟩:=Int.eq_ofNat_of_zero_le q0;cases hb:decs.testBit v with
   | false =>
    rw[h.old v hb]at hx;obtain⟨k,k1,k2⟩:=hr.rk j v hj' u (by
     rw[bU (lh hx),me fun p hp=>((hn.node x (List.mem_of_getElem? hx)).2.2 p hp).1];exact decide_eq_true hq)
    exact⟨k,k1,(natg k u).2 k2⟩
   | true =>
    obtain⟨_,s,j',e,_,hj2,hs⟩:=h.dec v x hx hb;rw[e]at hq;obtain⟨u',eu,_,hu⟩:=po.1 hq;obtain rfl:u=u':=(by omega);obtain rfl:j'=j:=(List.getElem?_inj (aG hj2) hr.nd).1 (by rw[hj2,hj']);obtain⟨k,k1,k2⟩:=hs u hu;exact⟨k,k1,(natg k u).2 k2⟩
 have hpc:∀ x,aQ ms x=aQ ns x:=fun x=>by unfold aQ;rw[h.card]
 refine⟨⟨hR,⟨hn.g1,by rw[dV];exact hR.n1,fun y hy=>?_,?_,by rw[DC];exact hacy,fun y hy=>?_⟩,hul,fun u hu=>?_⟩,by show ms.length<=5;omega,fun v x hx hb=>?_,os,h.os3,h.osm,h.osp⟩
 ·obtain⟨v,x,hx,rfl⟩:=rG hy;rw[(j9 ..).1,(j9 ..).2,dV];exact⟨hcard x (List.mem_of_getElem? hx),hpl v x hx⟩
 ·rw[mo];show au (aq ms)<=1024;rw[h.card];exact hn.size
 ·obtain⟨v,x,hx,rfl⟩:=rG hy;have hcx:=hcard x (List.mem_of_getElem? hx);have hx':ms[v]?=some x:=hx;unfold fE;rw[uU];by_cases hb:decs.testBit v=true
  ·rw[ki hx hb];have x1:=(hR.dec v x hx hb).1;have hsm:=(km (x:=x) (ns:=ms) hR.n1.2 (hpl v x hx) hcard).prod;refine⟨?_,fun q hq=>?_⟩
   ·show ((x.rows++cM g ms (fun _ _=>0) _ x).length:Int)=au (aQ ms x);rw[x1];simp only[cM,List.nil_append,List.length_map,List.length_range,cw];omega
   ·rw[show ({ x with rows:=x.rows++cM g ms (fun _ _=>0) (cL decs v) x }:NodeP).rows=x.rows++cM g ms (fun _ _=>0) (cL decs v) x from rfl,x1,List.nil_append]at hq;unfold cM at hq;obtain⟨i,hi,rfl⟩:=List.mem_map.1 hq;have:=hn.g1;exact DB (by show 0<=g;omega) ⟨Int.le_refl 0,by show (0:Int)<x.card;omega⟩
  ·rw[kj hb];have hb':decs.testBit v=false:=(by simpa using hb);rw[h.old v hb']at hx';have:=hn.rows x (List.mem_of_getElem? hx');unfold fE at this;show (x.rows.length:Int)=au (aQ ms x)/\_;rw[hpc];exact this
 ·have:=hus u hu;exact⟨by show bT u.vars ms.length;rw[hml];exact this.vars,by show _=au (aL (aq ms) u.vars);rw[h.card];exact this.size,this.w⟩
 ·have hx':ms[v]?=some x:=hx;rw[h.old v hb]at hx';exact CN hn x (List.mem_of_getElem? hx')
end Go.Proofs
namespace Go.Proofs
open Go.Hx
structure D20 where
 g:Int
 ps:List DrP
 ord:List Int
 decs:Int
 rem:Bool
 us:List UtD
structure D20.Ok (d:D20):Prop where
 g:U8 d.g
 ps:∀ x∈d.ps,x.Ok
 pl:(d.ps.length:Int)<2 ^ 63
 ol:(d.ord.length:Int)<2 ^ 63
 o8:∀ x∈d.ord,U8 x
 decs:U8 d.decs
 us:∀ u∈d.us,u.Ok
 ul:(d.us.length:Int)<2 ^ 63
def jC (us:List UtD):List AVal:=(us.map UtD.cells).flatten
def D20.cells (d:D20):List AVal:=[.lit (.int .u8 d.g),.vec d.ps.length (d9 d.ps),.vec d.ord.length (bC d.ord),.lit (.int .u8 d.decs),.lit (.bool d.rem),.vec d.us.length (jC d.us)]
theorem PH {l:List UtD}{i:Nat}{x:UtD}(h:l[i]?=some x):((jC l).drop (i*2)).take 2=[.lit (.int .u8 x.vars),.vec x.w.length (mi x.w)]:=mc (f:=UtD.cells) (z:=2) (fun _=>rfl) l i x h
theorem PI {l:List UtD}{i:Nat}{x:UtD}(h:l[i]?=some x):(jC l)[i*2]?=some (.lit (.int .u8 x.vars)):=gO (f:=UtD.cells) (z:=2) (fun _=>rfl) l i 0 x h (by omega)
theorem PJ {l:List UtD}{i:Nat}{x:UtD}(h:l[i]?=some x):¬ jC l=[]:=fun e=>by
 have:=PI h;rw[e]at this;simp at this
theorem PK {l:List NodeP}{i:Nat}{x:NodeP}(p:List Int)(h:l[i]?=some x):((aV l).set (i*3+1) (ab p)).set (i*3+2) (.lit (.slice none 0 0))=aV (l.set i ⟨x.card,p,[]⟩):=by
 have hl:=aG h;have h1:=uI (f:=NodeP.eZ) (z:=3) (fun _=>rfl) l i ⟨x.card,p,[]⟩ hl;have h2:=mc (f:=NodeP.eZ) (z:=3) (fun _=>rfl) l i x h;unfold aV;rw[h1];have h3:(l.map NodeP.eZ).flatten=((l.map NodeP.eZ).flatten).take (i*3)++(x.eZ++((l.map NodeP.eZ).flatten).drop (i*3+3)):=by
  rw[<- h2,<- List.drop_drop,List.take_append_drop,List.take_append_drop]
 have hlen:(((l.map NodeP.eZ).flatten).take (i*3)).length=i*3:=by
  rw[List.length_take,jZ (f:=NodeP.eZ) (z:=3) (fun _=>rfl)];omega
 conv=>lhs;rw[h3]
 rw[List.set_append_right _ _ (by omega),List.set_append_right _ _ (by omega),hlen,show i*3+1 - i*3=1 by omega,show i*3+2 - i*3=2 by omega];simp [NodeP.eZ,bc]
theorem PL {l:List NodeP}(h:∀ x∈l,x.rows≠[]):aV l=aD l:=by
 unfold aV aD;congr 1;exact List.map_congr_left fun x hx=>by unfold NodeP.eZ NodeP.cells;rw[rf (h x hx)]
theorem yw {H:AHeap}{nx N:Nat}{e:TypeId}{g:Int}{ms:List NodeP}(h:H.get N=some (.arr 0 e (aV ms))):Fz (fun _=>True) H nx (.agg [aa g,.own N 0 0 ms.length 3]) (bj g ms):=by
 refine .agg rfl fun i hi _=>?_
 match i,hi with
 | 0,_=>exact .lit _
 | 1,_ =>
  refine .frz trivial h (gv ms) fun j hj h2 h'=>?_;have e0:(0:Nat)+j=j:=Nat.zero_add j;have h3:j<(aV ms).length:=by omega
  have:=CC (S:=fun _=>True) (H:=H) (nx:=nx) ms j h3 h';simpa only[e0] using this
theorem CO {S:Nat->Prop}{H:AHeap}{nx:Nat}(l:List UtilP):∀ c∈aO l,Fz S H nx c c:=by
 intro c hc;unfold aO at hc;obtain⟨r,hr,hc⟩:=List.mem_flatten.1 hc;obtain⟨x,_,rfl⟩:=List.mem_map.1 hr;unfold UtilP.cells at hc;simp only[List.mem_cons,List.not_mem_nil,or_false]at hc;rcases hc with rfl|rfl<;>exact .cB _
set_option maxHeartbeats 4000000 in
theorem PM (d:D20)(hd:d.Ok)(H:AHeap)(K:ARes->AHeap->Prop)(hK:∀ x,DrI d.rem x->K (.ret (rz x)) H):ae Try.prog G0 9 [.agg d.cells] H K:=by
 refine ae.clo ⟨_,Try.func9,rfl,rfl⟩ fun hcl=>?_;refine ae.aS (n:=128) (rs:=[.cell 2 39]) Try.func9 rfl rfl rfl (by decide) (by kernel_rfl) (by simp) ?_;simp only[go_sem,D20.cells];obtain⟨H0,hH0⟩:∃ H0,H0=ext H [.arr 0 28 [.lit (.int .u8 d.g),.vec d.ps.length (d9 d.ps),.vec d.ord.length (bC d.ord),.lit (.int .u8 d.decs),.lit (.bool d.rem),.vec d.us.length (jC d.us)],.arr 0 39 [.lit (.int .i64 0),.lit (.slice none 0 0),.lit (.int .u64 0),.lit (.slice none 0 0)]]:=⟨_,rfl⟩
 have g00:H0.get H.next=some (.arr 0 28 [.lit (.int .u8 d.g),.vec d.ps.length (d9 d.ps),.vec d.ord.length (bC d.ord),.lit (.int .u8 d.decs),.lit (.bool d.rem),.vec d.us.length (jC d.us)]):=by rw[hH0];exact br ..
 have g01:H0.get (H.next+1)=some (.arr 0 39 [.lit (.int .i64 0),.lit (.slice none 0 0),.lit (.int .u64 0),.lit (.slice none 0 0)]):=by rw[hH0];exact bu H _ 1 (by simp)
 have n0:H0.next=H.next+2:=by rw[hH0];rfl
 have o0:Over H H0:=by rw[hH0];exact .ext _ _
 rw[<- hH0];clear hH0;refine aA.clo (Qf d.g d.ps d.ord hd.g hd.ps hd.pl hd.ol hd.o8 _ _ fun g ns N H' ov hN1 hN2 hget hnet h5 hp3=>⟨trivial,?_⟩);simp only[go_sem];obtain⟨B,hB⟩:∃ B,B=H'.next:=⟨_,rfl⟩
 rw[<- hB];obtain⟨H1,hH1⟩:∃ H1,H1=ext H' [.arr 0 64 [.lit (.int .i64 g),.own N 0 0 ns.length 3],.arr 0 39 [.lit (.int .i64 g),.own N 0 0 ns.length 3,.lit (.int .u64 0),.lit (.slice none 0 0)]]:=⟨_,rfl⟩
 have n1:H1.next=B+2:=by rw[hH1,hB];rfl
 have ovn:=ov.next;have g10:H1.get H.next=some (.arr 0 28 [.lit (.int .u8 d.g),.vec d.ps.length (d9 d.ps),.vec d.ord.length (bC d.ord),.lit (.int .u8 d.decs),.lit (.bool d.rem),.vec d.us.length (jC d.us)]):=by rw[hH1,c9 _ _ _ (by omega),ov.old _ (by omega)];exact g00
 have g11:H1.get (H.next+1)=some (.arr 0 39 [.lit (.int .i64 0),.lit (.slice none 0 0),.lit (.int .u64 0),.lit (.slice none 0 0)]):=by rw[hH1,c9 _ _ _ (by omega),ov.old _ (by omega)];exact g01
 have gN:H1.get N=some (.arr 0 83 (aV ns)):=by rw[hH1,c9 _ _ _ (by omega),PL (CN hnet)];exact hget
 have gB:H1.get B=some (.arr 0 64 [.lit (.int .i64 g),.own N 0 0 ns.length 3]):=by rw[hH1,hB];exact br ..
 have gB1:H1.get (B+1)=some (.arr 0 39 [.lit (.int .i64 g),.own N 0 0 ns.length 3,.lit (.int .u64 ((0:Nat):Int)),.lit (.slice none 0 0)]):=by rw[hH1,hB];exact bu H' _ 1 (by simp)
 have o1:Over H H1:=by rw[hH1];exact(o0.trans ov).trans (.ext _ _)
 rw[<- hH1];clear hH1 hget;have hsl:(aZ ns).length=ns.length:=by simp [aZ]
 have hpr:∀ x∈ns,(x.parents.length:Int)<2 ^ 39/\∀ q∈x.parents,0<=q/\q<(ns.length:Int):=fun x hx=>⟨by have:=hp3 x hx;omega,(hnet.node x hx).2.2⟩
 have hs8:∀ p∈aZ ns,p<2 ^ (aZ ns).length:=by rw[hsl];exact va fun x hx=>(hpr x hx).2
 obtain⟨r,hr⟩:=Option.isSome_iff_exists.1 ((Cx hs8 (by omega)).2 hnet.acyc);have hTR:=PF (fun p h=>Nat.lt_of_lt_of_le (hs8 p h) (Nat.pow_le_pow_right (by decide) (by omega))) hr;have hrl:=hTR.len;rw[hsl]at hrl;refine aA.clo ((ae.frame (H:=H1) (args:=[.agg [aa g,.own N 0 0 ns.length 3]]) (args':=[bj g ns]) (v':=ab (bf r)) aF rfl (fun i hi _=>?_) (Qn g ns (by omega) hpr r hr bX _ fun v H' _ ho=>⟨_,rfl,ho.nD⟩)).mono fun rr H2 hrr=>?_)
 ·match i,hi with
  | 0,_=>exact yw gN
 obtain⟨rfl,rfl⟩:=hrr;refine⟨trivial,?_⟩;simp only[go_sem];refine W.kv (Q':=fun e s2=>e=.exit 0/\∃ (i known decs:Nat) (os:List Nat) (ms:List NodeP),s2.ρ 1=.ptr H.next 0 0/\s2.ρ 2=.ptr (H.next+1) 0 0/\s2.ρ 3=.ptr B 0 0/\s2.ρ 4=.ptr (B+1) 0 0/\DrD ns r d.rem i known decs os ms/\H2.next<=s2.H.next/\(∀ id,id<H2.next->id≠N->id≠B+1->s2.H.get id=H2.get id)/\s2.H.get N=some (.arr 0 83 (aV ms)) /\
  s2.H.get (B+1)=some (.arr 0 39 [.lit (.int .i64 g),.own N 0 0 ns.length 3,.lit (.int .u64 (decs:Int)),.lit (.slice none 0 0)])) ?_ ?_
 rotate_left
 ·rintro e s2 ⟨rfl,i,known,decs,os,ms,e1,e2,e3,e4,L,hnx,hold,hN,hB1⟩;refine⟨s2,.refl _,Nat.le_refl _,trivial,?_⟩;obtain⟨ρ2,Hy⟩:=s2;dsimp only at e1 e2 e3 e4 hnx hold hN hB1;simp only[go_sem];have hml:=L.len;have hcd:∀ x∈ms,1<=x.card/\x.card<=4:=fun x hx=>by
   obtain⟨v,hv⟩:=List.mem_iff_getElem?.1 hx;obtain⟨y,hy⟩:=ay (l:=ns) (i:=v) (by have:=aG hv;omega);have h1:(aq ms)[v]?=(aq ns)[v]?:=(by rw[L.card]);rw[cV hv,cV hy]at h1;rw[Option.some.inj h1];exact(hnet.node y (List.mem_of_getElem? hy)).1
  have hn1:=hnet.n1;obtain⟨ut,hut⟩:∃ ut:List UtilP,ut=d.us.map fun u=>ea u ms:=⟨_,rfl⟩
  refine W.aK 170141163178059628080016879768632823808 (by rfl) (fun ρ Hu=>∃ (i:Nat) (uv:AVal),ρ 12=aa i/\i<=d.us.length/\i<=4/\Hy.next<=Hu.next/\(∀ id,id<Hy.next->id≠B+1->Hu.get id=Hy.get id)/\Hu.get (B+1)=some (.arr 0 39 [.lit (.int .i64 g),.own N 0 0 ns.length 3,.lit (.int .u64 (decs:Int)),uv])/\bW Hy.next Hu 85 2 uv i (aO (ut.take i))) (fun ρ H=>d.us.length - (iv (ρ 12)).toNat) ?_ ?_
  ·simp only[go_sem];exact⟨0,_,rfl,by omega,by omega,hB1,.nil⟩
  rintro ρ Hu ⟨i,uv,h12,hi,hi4,hnu,holdu,hBu,hO⟩;refine W.env fun E hE=>?_;have f1:E 1=.ptr H.next 0 0:=by rw[hE];simp only[go_sem,e1]
  have f2:E 2=.ptr (H.next+1) 0 0:=by rw[hE];simp only[go_sem,e2]
  have f3:E 3=.ptr B 0 0:=by rw[hE];simp only[go_sem,e3]
  have f4:E 4=.ptr (B+1) 0 0:=by rw[hE];simp only[go_sem,e4]
  have f12:E 12=aa i:=by rw[hE];simp only[go_sem,h12]
  clear hE;refine ag _ _ _ (by rfl) ?_;have uh:Hu.get H.next=_:=((holdu H.next (by omega) (by omega)).trans (hold H.next (by omega) (by omega) (by omega))).trans g10;have l0:=ah uh;have lB:=ah (((holdu B (by omega) (by omega)).trans (hold B (by omega) (by omega) (by omega))).trans gB);have lB1:=ah hBu;have hNu:Hu.get N=some (.arr 0 83 (aV ms)):=(holdu N (by omega) (by omega)).trans hN;by_cases hb:(i:Int)<d.us.length/\(i:Int)<4
  ·obtain⟨u,hu⟩:=ay (l:=d.us) (i:=i) (by omega);have huo:=hd.us u (List.mem_of_getElem? hu);have cne:=PJ hu;have c0:=PH hu;have cl:i*2+2<=(jC d.us).length:=(by rw[show (jC d.us).length=d.us.length*2 from jZ (f:=UtD.cells) (fun _=>rfl) _];omega);have w1:=IntWalk.i64_in ((i:Int)+1) (by omega);have hpc:∀ Hq,Hq.get N=some (.arr 0 83 (aV ms))->N<Hq.next->bD Try.prog G0 (.clo 44 [] []) [.agg [.lit (.int .u8 u.vars),.vec u.w.length (mi u.w)],.agg [.lit (.int .i64 g),.own N 0 0 ns.length 3]] Hq (.agg [ab (ea u ms).vars,ab (ea u ms).w]) [N]:=fun Hq hq hqn=>by
    refine bD.mk (fun i hi=>by obtain rfl:=List.mem_singleton.1 hi;exact hqn) fun H2 h1 h2=>?_;refine ae.frame (H:=H2) (args:=[.agg u.cells,.agg [aa g,.own N 0 0 ns.length 3]]) (args':=[.agg u.cells,bj g ms]) (v':=.agg [ab (ea u ms).vars,ab (ea u ms).w]) aF rfl (fun i hi _=>?_) (Qo u huo g ms (by omega) hcd bX _ fun v1 v2 H' _ o1 o2=>⟨_,rfl,.agg rfl fun i hi _=>?_⟩)
    ·match i,hi with
     | 0,_ =>
      refine .agg rfl fun i hi _=>?_
      match i,hi with
      | 0,_=>exact .lit _
      | 1,_ =>
       refine .vec rfl fun j hj _=>?_;simp only[mi,List.getElem_map];exact .lit _
     | 1,_=>rw[<- hml];exact yw ((h1 N (by simp)).trans hq)
    ·match i,hi with
     | 0,_=>exact o1.nD
     | 1,_=>exact o2.nD
   obtain⟨uv',Hj,hA,hO',hnj,hpj⟩:=mA (P:=Try.prog) (xs:=[ab (ea u ms).vars,ab (ea u ms).w]) Try.underlying37 Try.uj Try.um rfl rfl (by rw[Try.uk];omega) hO hnu rfl;simp only[ab]at hA;have keep:∀ id,id<Hy.next->Hj.get id=Hu.get id:=fun id h=>hpj id (by omega) (hO.ne h);have lB1j:=ah ((keep _ (by omega)).trans hBu);have hvc:=hO'.cells;have hvo:=hO'.one;simp only[go_sem,f1,f12,l0,hb.1,hb.2];refine W.draw 10 [0,1,0,4,0,28,60,0,252,508] Try.mixed (by kernel_rfl) (by kernel_rfl) ?_;simp only[go_sem,f1,f3,f4,f12,l0,lB,lB1,cne,c0,cl,hb.1];refine⟨_,[N],hpc _ hNu (by omega),?_⟩;simp only[go_sem,f4,f12,hA,lB1j,hvc,hvo,w1];have hug:ut[i]?=some (ea u ms):=(by rw[hut,List.getElem?_map,hu];rfl);have e2':aO (ut.take (i+1))=aO (ut.take i)++[ab (ea u ms).vars,ab (ea u ms).w]:=by
    rw[aP hug];unfold aO;rw[List.map_append,List.flatten_append];simp [UtilP.cells]
   refine⟨⟨fun _ h=>by omega,fun _ h=>by omega⟩,by rw[aC];omega,⟨i+1,uv',rfl,by omega,by omega,by rw[aC];omega,fun id h1 h2=>by rw[af,if_neg h2,keep _ h1];exact holdu id h1 h2,by rw[af,if_pos rfl],?_⟩,by rw[h12];simp only[aa,aU];omega⟩;rw[e2'];exact hO'.keep (by rw[aC];omega) fun id gg h1 _ _=>by rw[af,if_neg (by omega)]
  ·have fin:∀ b,aw Try.prog G0 H K (.agg [.lit (.int .i64 g),.own N 0 0 ns.length 3,.lit (.int .u64 (decs:Int)),uv]) (Hu.upd (H.next+1) b):=fun b=>by
    have o1n:=o1.next;have ov2:Over H (Hu.upd (H.next+1) b):=⟨by rw[aC];omega,fun id h=>by
     rw[af,if_neg (by omega),holdu id (by omega) (by omega),hold id (by omega) (by omega) (by omega)];exact o1.old id h⟩
    have htl:(ut.take i).length=i:=(by rw[List.length_take,hut,List.length_map];omega);refine aw.bk (v':=rz ⟨g,ms,decs,ut.take i⟩) aF hcl ov2 (.agg rfl fun j hj _=>?_) (hK _ (L.fin hnet hTR h5 (by omega) fun u hu=>?_))
    ·match j,hj with
     | 0,_=>exact .lit _
     | 1,_ =>
      show Fz _ _ _ (.own N 0 0 ns.length 3) (.vec ms.length (aV ms));rw[<- hml];refine .frz (by omega) (show (Hu.upd (H.next+1) b).get N=some (.arr 0 83 (aV ms)) by rw[af,if_neg (by omega)];exact hNu) (gD ms) fun j hj h2 h'=>?_;have e0:(0:Nat)+j=j:=Nat.zero_add j;have h3:j<(aV ms).length:=(by omega);have:=uB (S:=fun id=>H.next<=id) (H:=Hu.upd (H.next+1) b) (nx:=H.next) ms _ (List.getElem_mem h3);simpa only[e0] using this
     | 2,_=>exact .lit _
     | 3,_ =>
      show Fz _ _ _ uv (.vec (ut.take i).length (aO (ut.take i)));rcases hO with ⟨h,hz,hc⟩|⟨id,gg,k1,k2,h,k4,k5⟩
      ·rw[h,hc,htl,hz];exact .nil
      ·rw[h,htl];refine .frz (by omega) (show (Hu.upd (H.next+1) b).get id=some (.arr gg 85 (aO (ut.take i))) by rw[af,if_neg (by omega)];exact k5) k4 fun j hj h2 h'=>?_;have e0:(0:Nat)+j=j:=Nat.zero_add j;have h3:j<(aO (ut.take i)).length:=(by omega);have:=CO (S:=fun id=>H.next<=id) (H:=Hu.upd (H.next+1) b) (nx:=H.next) (ut.take i) _ (List.getElem_mem h3);simpa only[e0] using this
    ·have hu2:=List.mem_of_mem_take hu;rw[hut]at hu2;obtain⟨p,hp,rfl⟩:=List.mem_map.1 hu2;have:=Qj p ms fun x hx=>(hcd x hx).1;exact⟨by have:=this.vars;rw[hml]at this;exact this,by have:=this.size;rw[L.card]at this;exact this,this.w⟩
   have lR:Hu.live (H.next+1) 0=_:=ah (((holdu (H.next+1) (by omega) (by omega)).trans (hold (H.next+1) (by omega) (by omega) (by omega))).trans g11);have uvc:=hO.cells;have uvo:=hO.one;by_cases hb1:(i:Int)<d.us.length
   ·have hb4:¬ (i:Int)<4:=fun h=>hb ⟨hb1,h⟩;simp only[go_sem,f1,f2,f4,f12,l0,lB1,lR,hb1,hb4,uvo];exact fin _
   ·simp only[go_sem,f1,f2,f4,f12,l0,lB1,lR,hb1,uvo];exact fin _
 refine W.aK 20282409603651670423947242901440 (by rfl) (fun ρ Hx=>∃ (i known decs:Nat) (os:List Nat) (ms:List NodeP),ρ 8=aa i/\i<=r.length/\ρ 6=bx known/\ρ 7=aa os.length/\DrD ns r d.rem i known decs os ms/\H2.next<=Hx.next/\(∀ id,id<H2.next->id≠N->id≠B+1->Hx.get id=H2.get id)/\Hx.get N=some (.arr 0 83 (aV ms)) /\
  Hx.get (B+1)=some (.arr 0 39 [.lit (.int .i64 g),.own N 0 0 ns.length 3,.lit (.int .u64 (decs:Int)),.lit (.slice none 0 0)])) (fun ρ H=>r.length - (iv (ρ 8)).toNat) ?_ ?_
 ·simp only[go_sem];exact⟨0,0,0,[],ns,rfl,by omega,rfl,rfl,.start ns r d.rem,gN,gB1⟩
 rintro ρ Hx ⟨i,known,decs,os,ms,h8,hi,h6,h7,L,hnx,hold,hN,hB1⟩;refine W.env fun E hE=>?_;have e1:E 1=.ptr H.next 0 0:=by rw[hE];simp only[go_sem]
 have e2:E 2=.ptr (H.next+1) 0 0:=by rw[hE];simp only[go_sem]
 have e3:E 3=.ptr B 0 0:=by rw[hE];simp only[go_sem]
 have e4:E 4=.ptr (B+1) 0 0:=by rw[hE];simp only[go_sem]
 have e5:E 5=ab (bf r):=by rw[hE];simp only[go_sem]
 have e6:E 6=bx known:=by rw[hE];simp only[go_sem,h6]
 have e7:E 7=aa os.length:=by rw[hE];simp only[go_sem,h7]
 have e8:E 8=aa i:=by rw[hE];simp only[go_sem,h8]
 clear hE;refine ag _ _ _ (by rfl) ?_;have l0:=ah ((hold H.next (by omega) (by omega) (by omega)).trans g10);have lB:=ah ((hold B (by omega) (by omega) (by omega)).trans gB);have lB1:=ah hB1;have lN:=ah hN;have hrng:=hTR.rng;rw[hsl]at hrng;have hml:=L.len;have natl:(bf r).length=r.length:=by simp [bf]
 have nat5:∀ {s:Nat},s<2 ^ ns.length->s<2 ^ 64:=fun h=>Nat.lt_of_lt_of_le h (Nat.pow_le_pow_right (by decide) (by omega));have hk64:known<2 ^ 64:=nat5 (uF hrng L.knownb);have hd64:decs<2 ^ 64:=nat5 (uF hrng L.decsb);by_cases hb:(i:Int)<r.length;rotate_left
 ·simp only[go_sem,e1,e2,e3,e4,e5,e8,natl,hb];exact⟨i,known,decs,os,ms,L,hnx,hold,hN,hB1⟩
 by_cases h3:os.length<3;rotate_left
 ·have h3':¬ (os.length:Int)<3:=by omega
  simp only[go_sem,e1,e2,e3,e4,e5,e7,e8,natl,hb,h3'];exact⟨i,known,decs,os,ms,L,hnx,hold,hN,hB1⟩
 have h3':(os.length:Int)<3:=by omega
 obtain⟨v,hv⟩:=ay (l:=r) (i:=i) (by omega);have hvi:(bf r)[i]?=some (v:Int):=by unfold bf;rw[List.getElem?_map,hv];rfl
 have hvne:=aR hvi;have hvn:=hrng v (List.mem_of_getElem? hv);have w1:=IntWalk.i64_in ((i:Int)+1) (by omega);obtain⟨r1,hr1⟩:∃ r1,d.decs.fdiv (2 ^ (min ((i:Int)).toNat IntKind.u8.bits))=r1:=⟨_,rfl⟩
 obtain⟨r2,hr2⟩:∃ r2,IntKind.u8.wrap (((BitVec.ofInt IntKind.u8.bits r1 &&& BitVec.ofInt IntKind.u8.bits 1).toNat:Nat):Int)=r2:=⟨_,rfl⟩
 have s1:∀ t o1 o2,bh Try.prog .shr t o1 o2 (.lit (.int .u8 d.decs)) (.lit (.int .i64 (i:Int)))=some (.lit (.int .u8 r1)):=fun t o1 o2=>by rw[vd (by omega),hr1]
 have s2:∀ t o1 o2,bh Try.prog .and t o1 o2 (.lit (.int .u8 r1)) (.lit (.int .u8 1))=some (.lit (.int .u8 r2)):=fun t o1 o2=>by rw[ve,hr2]
 by_cases hrz:r2=0
 ·simp only[go_sem,e1,e2,e3,e4,e5,e6,e7,e8,natl,hb,h3',l0,hvi,hvne,s1,s2,hrz,w1];exact⟨hnx,⟨i+1,known,decs,os,ms,rfl,by omega,rfl,rfl,L.skip,hnx,hold,hN,hB1⟩,by rw[h8];simp only[aa,aU];omega⟩
 obtain⟨x,hx⟩:=ay (l:=ns) (i:=v) hvn;have hdv:=(L.step hTR (by omega) h3 hv hx (s:=0) (fun i hi=>by simp at hi)).1;have hmx:ms[v]?=some x:=by rw[L.old v hdv];exact hx
 have hxp:=hpr x (List.mem_of_getElem? hx);have hmp:∀ y∈ms,(y.parents.length:Int)<2 ^ 39/\∀ q∈y.parents,0<=q/\q<64:=fun y hy=>by
  obtain⟨u,hu⟩:=List.mem_iff_getElem?.1 hy;cases hbu:decs.testBit u with
  | false =>
   rw[L.old u hbu]at hu;obtain⟨q1,q2⟩:=hpr y (List.mem_of_getElem? hu);exact⟨q1,fun q hq=>by have:=q2 q hq;omega⟩
  | true =>
   obtain⟨_,s,j,e,_⟩:=L.dec u y hu hbu;rw[e];refine⟨by have:=Df s 8;omega,fun q hq=>?_⟩;obtain⟨z,rfl,hz,_⟩:=po.1 hq;omega
 have hset:((aZ ms).map bx)[v]?=some (bx (cC x.parents)):=by rw[List.getElem?_map,lh hmx];rfl
 have hsne:=aR hset;have hmn:(aZ ms).length=ns.length:=by rw[<- hml];simp [aZ]
 simp only[go_sem,e1,e3,e5,e7,e8,natl,hb,h3',l0,lB,hvi,hvne,s1,s2,hrz];refine aA.clo ((ae.frame (H:=Hx) (args:=[.agg [aa g,.own N 0 0 ns.length 3]]) (args':=[bj g ms]) (v':=fV (aZ ms)) aF rfl (fun i hi _=>?_) (Qk g ms (by omega) hmp bX _ fun v H' _ ho=>⟨_,rfl,Qm ho⟩)).mono fun rr Hz hrr=>?_)
 ·match i,hi with
  | 0,_=>rw[<- hml];exact yw hN
 obtain⟨rfl,rfl⟩:=hrr;refine⟨trivial,?_⟩;have hvI:(v:Int)<ns.length:=by omega
 simp only[go_sem,hset,hsne,hmn,hvI];have xs64:cC x.parents<2 ^ 64:=nat5 (q9 hxp.2);refine W.aK 9444732684264313719808 (by rfl) (fun ρ2 Hq=>Hq=Hz/\∃ k s:Nat,ρ2 11=aa k/\k<=x.parents.length/\ρ2 10=bx s/\Sub s (cC x.parents)/\s<2 ^ 64) (fun ρ2 H=>x.parents.length - (iv (ρ2 11)).toNat) ?_ ?_
 ·simp only[go_sem];exact⟨0,_,rfl,by omega,rfl,.refl _,xs64⟩
 rintro ρ2 Hq ⟨rfl,k,s,h11,hk,h10,hs,hs64⟩;refine W.env fun E2 hE2=>?_;have f1:E2 1=.ptr H.next 0 0:=by rw[hE2];simp only[go_sem,e1]
 have f2:E2 2=.ptr (H.next+1) 0 0:=by rw[hE2];simp only[go_sem,e2]
 have f3:E2 3=.ptr B 0 0:=by rw[hE2];simp only[go_sem,e3]
 have f4:E2 4=.ptr (B+1) 0 0:=by rw[hE2];simp only[go_sem,e4]
 have f5:E2 5=ab (bf r):=by rw[hE2];simp only[go_sem,e5]
 have f6:E2 6=bx known:=by rw[hE2];simp only[go_sem,e6]
 have f7:E2 7=aa os.length:=by rw[hE2];simp only[go_sem,e7]
 have f8:E2 8=aa i:=by rw[hE2];simp only[go_sem,e8]
 have f9:E2 9=aa v:=by rw[hE2];simp only[go_sem]
 have f10:E2 10=bx s:=by rw[hE2];simp only[go_sem,h10]
 have f11:E2 11=aa k:=by rw[hE2];simp only[go_sem,h11]
 clear hE2;refine ag _ _ _ (by rfl) ?_;have nne:=Pk hmx;have nlen:=gD ms;have n1v:=mh hmx;by_cases hb2:(k:Int)<x.parents.length
 ·obtain⟨q,hq⟩:=ay (l:=x.parents) (i:=k) (by omega);have hqr:=hxp.2 q (List.mem_of_getElem? hq);obtain⟨u,rfl⟩:=Int.eq_ofNat_of_zero_le hqr.1;have hqne:=aR hq;have w2:=IntWalk.i64_in ((k:Int)+1) (by omega);by_cases hk2:(k:Int) >= 2
  ·have s3:=fun t x y=>nG (P:=Try.prog) (t:=t) (x:=x) (y:=y) (k':=.i64) (s:=u) (by omega);have s4:=fun t x y=>zd (P:=Try.prog) (t:=t) (x:=x) (y:=y) (a:=s) (b:=2 ^ u);simp only[go_sem,f4,f9,f10,f11,lB1,lN,n1v,hvI,hb2,hk2,hq,hqne,w2,s3,s4];exact⟨⟨k+1,gF s (2 ^ u),rfl,by omega,rfl,fun i hi=>by rw[zc hs64,Bool.and_eq_true]at hi;exact hs i hi.1,D8 _ _⟩,by rw[h11];simp only[aa,aU];omega⟩
  ·simp only[go_sem,f4,f9,f10,f11,lB1,lN,n1v,hvI,hb2,hk2,w2];exact⟨⟨k+1,s,rfl,by omega,rfl,hs,hs64⟩,by rw[h11];simp only[aa,aU];omega⟩
 ·obtain⟨s',hs'⟩:∃ s',s'=(if d.rem then s ||| known else s):=⟨_,rfl⟩
  have hsv:=L.step hTR (by omega) h3 hv hx hs;rw[<- hs']at hsv;obtain⟨_,_,hslt,L2⟩:=hsv;have s64:=nat5 hslt;have b2v:(2:Nat) ^ v<2 ^ 64:=Nat.pow_lt_pow_right (by decide) (by omega);have o1':=fun t x y=>kq (P:=Try.prog) (t:=t) (x:=x) (y:=y) hd64 b2v;have o2':=fun t x y=>kq (P:=Try.prog) (t:=t) (x:=x) (y:=y) hk64 s64;have o3':=fun t x y=>kq (P:=Try.prog) (t:=t) (x:=x) (y:=y) (Nat.or_lt_two_pow hk64 s64) b2v;have o4':=fun t x y=>kq (P:=Try.prog) (t:=t) (x:=x) (y:=y) hs64 hk64;have s6:=fun t x y=>nG (P:=Try.prog) (t:=t) (x:=x) (y:=y) (k':=.i64) (s:=v) (by omega);have w3:=IntWalk.i64_in ((os.length:Int)+1) (by omega);have nse:=PK (dO s' 8) hmx;have gone:∀ b,(Hq.upd N b).live (B+1) 0=some (39,[.lit (.int .i64 g),.own N 0 0 ns.length 3,.lit (.int .u64 (decs:Int)),.lit (.slice none 0 0)]):=fun b=>(my (by omega)).trans lB1;have st1:∀ a,setAt (aV ms) (v*3+1) [a]=(aV ms).set (v*3+1) a:=fun a=>dW (by omega);have st2:∀ a b,setAt ((aV ms).set (v*3+1) a) (v*3+2) [b]=((aV ms).set (v*3+1) a).set (v*3+2) b:=fun a b=>dW (by rw[List.length_set];omega);have gone2:∀ b b',((Hq.upd N b).upd N b').live (B+1) 0=some (39,[.lit (.int .i64 g),.own N 0 0 ns.length 3,.lit (.int .u64 (decs:Int)),.lit (.slice none 0 0)]):=fun b b'=>(my (by omega)).trans (gone b);simp only[ab]at nse;cases hrem:d.rem
  ·have es:s'=s:=(by rw[hs',hrem];rfl);subst es;simp only[go_sem,f1,f3,f4,f6,f7,f8,f9,f11,lB1,lN,n1v,hvI,hb2,l0,hrem];refine W.draw 5 [0,1,0,0,8] Try.mixed (by kernel_rfl) (by kernel_rfl) ?_;simp only[go_sem,f4,f9,f10,lB1,lN,hvI,hml,nlen,gone];refine⟨ab (dO s' 8),[],bD.pure fun H2=>Dh s' s64 H2 _ ⟨rfl,rfl⟩,?_⟩;simp only[go_sem,hml,nlen,st1,st2,nse,List.length_set];refine⟨by omega,by omega,?_⟩;refine W.draw 4 [0,1,0,4] Try.mixed (by kernel_rfl) (by kernel_rfl) ?_;simp only[go_sem,f4,f6,f7,f8,f9,f10,gone2,s6,o1',o2',o3',w1,w3];refine⟨by simp only[aC];omega,⟨i+1,known ||| s' ||| 2 ^ v,decs ||| 2 ^ v,os++[v],_,rfl,by omega,rfl,by simp,hrem ▸ L2,by simp only[aC];omega,fun id h1 h2 h3=>by simp only[af];rw[if_neg h3,if_neg h2,if_neg h2];exact hold id h1 h2 h3,by rw[af,if_neg (by omega),af,if_pos rfl],by rw[af,if_pos rfl]⟩,by rw[h8];simp only[aa,aU];omega⟩
  ·have es:s ||| known=s':=by rw[hs',hrem];rfl
   rw[es]at o4';simp only[go_sem,f1,f3,f4,f6,f7,f8,f9,f10,f11,lB1,lN,n1v,hvI,hb2,l0,hrem,o4'];refine W.draw 5 [0,1,0,0,8] Try.mixed (by kernel_rfl) (by kernel_rfl) ?_;simp only[go_sem,f4,f9,f10,lB1,lN,hvI,hml,nlen,gone];refine⟨ab (dO s' 8),[],bD.pure fun H2=>Dh s' s64 H2 _ ⟨rfl,rfl⟩,?_⟩;simp only[go_sem,hml,nlen,st1,st2,nse,List.length_set];refine⟨by omega,by omega,?_⟩;refine W.draw 4 [0,1,0,4] Try.mixed (by kernel_rfl) (by kernel_rfl) ?_;simp only[go_sem,f4,f6,f7,f8,f9,f10,gone2,s6,o1',o2',o3',w1,w3];refine⟨by simp only[aC];omega,⟨i+1,known ||| s' ||| 2 ^ v,decs ||| 2 ^ v,os++[v],_,rfl,by omega,rfl,by simp,hrem ▸ L2,by simp only[aC];omega,fun id h1 h2 h3=>by simp only[af];rw[if_neg h3,if_neg h2,if_neg h2];exact hold id h1 h2 h3,by rw[af,if_neg (by omega),af,if_pos rfl],by rw[af,if_pos rfl]⟩,by rw[h8];simp only[aa,aU];omega⟩
end Go.Proofs
/-
  What the laws of this chapter have in common at their doors: the parameters. No conditions.
-/
namespace Go.Proofs.Ytcccmbeolcjacaa
open Go.ChangeShapes Go.WideShapes Go.ChangeAt Go.RowKit Go.Hx
theorem Try.own:ownKnob Try.prog.godebug=none:=by kernel_rfl
theorem Try.laidOut:laidOutB Try.prog=true:=by kernel_rfl
theorem Try.Ns:Try.prog.underlying 4=some .bool:=by kernel_rfl
section
variable {W:World} {H:Type} {enc:TypeId × Value->H} {spare:Nat->Bool} {held:Bool}
theorem ma {n:Nat}(h:n<=maxLen):(n:Int)<2 ^ 63:=by
 have:maxLen=9223372036854775807:=by decide
 omega
theorem kO {n:Int}(h:(Lit.int .u8 n).wf=true):U8 n:=by
 have:=wf_u8 h;unfold U8;omega
theorem Nt:eg enc Try.prog W spare held 142 fun _ zs=>∃ x:DrP,zs=x.cells/\x.Ok:=by
 have hu:=Try.underlying142;have c1:=Try.mb;have c2:=Try.yb;refine(oh (φ:=fun i _ xs=>if i=2 then ∃ l:List Int,xs=[.vec l.length (jL .u8 l)]/\l.length<=maxLen/\∀ c,c∈l->(Lit.int .u8 c).wf=true else ∃ n,xs=[.lit (.int .u8 n)]/\(Lit.int .u8 n).wf=true) hu
  (fun cs hcs=>by
   have hc:Try.prog.cellsOf 142=3:=(by kernel_rfl);rw[hc]at hcs
   match cs,hcs with
   | [a,b,c],_=>simp [c1,c2])
  (fun i hi=>match i,hi with
   | 0,_=>(iA Try.underlying5).mono fun _ _ ⟨n,_,h,w⟩=>⟨n,h,w⟩
   | 1,_=>(iA Try.underlying5).mono fun _ _ ⟨n,_,h,w⟩=>⟨n,h,w⟩
   | 2,_=>(p9 Try.underlying23 Try.underlying5 c1).mono fun _ _ h=>h)).mono fun d zs ⟨ds,rows,_,e,hl1,hl2,hall⟩=>?_
 match rows,ds,hl2,hl1,hall with
 | [x,y,z],[d0,d1,d2],_,_,hall =>
  obtain⟨n0,e0,w0⟩:=hall 0 (by simp) (by simp);obtain⟨n1,e1,w1⟩:=hall 1 (by simp) (by simp);obtain⟨l,e2,w2,w3⟩:=hall 2 (by simp) (by simp);simp only[List.getElem_cons_zero,List.getElem_cons_succ]at e0 e1 e2;subst e0;subst e1;subst e2;refine⟨⟨n0,n1,l⟩,by rw[e];rfl,?_⟩;exact⟨kO w0,kO w1,ma w2,fun c hc=>kO (w3 c hc)⟩
theorem wf_i8 {n:Int}(h:(Lit.int .i8 n).wf=true):I8 n:=by
 have:-128<=n/\n<=127:=by simpa [Lit.wf,IntKind.min,IntKind.max,IntKind.signed,IntKind.bits] using h
 unfold I8;omega
theorem Nu:eg enc Try.prog W spare held 103 fun _ zs=>∃ x:UtD,zs=x.cells/\x.Ok:=by
 have hu:=Try.underlying103;have c1:=Try.mb;have c2:=Try.Ci;have c3:=Try.Co;refine(oh (φ:=fun i _ xs=>if i=1 then ∃ l:List Int,xs=[.vec l.length (jL .i8 l)]/\l.length<=maxLen/\∀ c,c∈l->(Lit.int .i8 c).wf=true else ∃ n,xs=[.lit (.int .u8 n)]/\(Lit.int .u8 n).wf=true) hu
  (fun cs hcs=>by
   have hc:Try.prog.cellsOf 103=2:=(by kernel_rfl);rw[hc]at hcs
   match cs,hcs with
   | [a,b],_=>simp [c1,c2])
  (fun i hi=>match i,hi with
   | 0,_=>(iA Try.underlying5).mono fun _ _ ⟨n,_,h,w⟩=>⟨n,h,w⟩
   | 1,_=>(p9 Try.underlying101 Try.underlying145 c3).mono fun _ _ h=>h)).mono fun d zs ⟨ds,rows,_,e,hl1,hl2,hall⟩=>?_
 match rows,ds,hl2,hl1,hall with
 | [x,y],[d0,d1],_,_,hall =>
  obtain⟨n0,e0,w0⟩:=hall 0 (by simp) (by simp);obtain⟨l,e2,w2,w3⟩:=hall 1 (by simp) (by simp);simp only[List.getElem_cons_zero,List.getElem_cons_succ]at e0 e2;subst e0;subst e2;refine⟨⟨n0,l⟩,by rw[e];rfl,?_⟩;exact⟨kO w0,ma w2,fun c hc=>wf_i8 (w3 c hc)⟩
theorem B8 {α:Type}{t e:TypeId}{f:α->List AVal}{q:α->Prop}(ht:Try.prog.underlying t=some (.slice e))(hz:0<Try.prog.cellsOf e)(he:eg enc Try.prog W spare held e fun _ zs=>∃ x:α,zs=f x/\q x):
  eg enc Try.prog W spare held t fun _ zs=>∃ l:List α,zs=[.vec l.length (l.map f).flatten]/\l.length<=maxLen/\∀ x∈l,q x :=
 (we ht hz he).mono fun d zs h=>by
  rcases h with ⟨_,rfl⟩|⟨ds,rest,rows,_,rfl,hr,_,hl⟩
  ·exact⟨[],rfl,Nat.zero_le _,fun c h=>by cases h⟩
  ·obtain⟨l,rfl,hq⟩:=wg (f:=f) (q:=q) (fun d zs h=>h) hr;exact⟨l,by rw[List.length_map],by simpa using hl,hq⟩
theorem Nv:eg enc Try.prog W spare held 25 fun _ zs=>∃ (g:Int) (ps:List DrP) (ord:List Int),zs=[.lit (.int .u8 g),.vec ps.length (d9 ps),.vec ord.length (bC ord)]/\U8 g/\(∀ x∈ps,x.Ok)/\(ps.length:Int)<2 ^ 63/\(ord.length:Int)<2 ^ 63/\∀ x∈ord,U8 x:=by
 have hu:=Try.underlying25;have c1:=Try.mb;have c2:=Try.yb;have c3:=Try.Cb;have c4:=Try.Cn;refine(oh (φ:=fun i _ xs=>if i=2 then ∃ l:List Int,xs=[.vec l.length (jL .u8 l)]/\l.length<=maxLen/\∀ c,c∈l->(Lit.int .u8 c).wf=true else if i=1 then ∃ l:List DrP,xs=[.vec l.length (l.map DrP.cells).flatten]/\l.length<=maxLen/\∀ x∈l,x.Ok else ∃ n,xs=[.lit (.int .u8 n)]/\(Lit.int .u8 n).wf=true) hu
  (fun cs hcs=>by
   have hc:Try.prog.cellsOf 25=3:=(by kernel_rfl);rw[hc]at hcs
   match cs,hcs with
   | [a,b,c],_=>simp [c1,c2,c3])
  (fun i hi=>match i,hi with
   | 0,_=>(iA Try.underlying5).mono fun _ _ ⟨n,_,h,w⟩=>⟨n,h,w⟩
   | 1,_=>(B8 Try.underlying22 (by rw[c4];decide) Nt).mono fun _ _ h=>h
   | 2,_=>(p9 Try.underlying23 Try.underlying5 c1).mono fun _ _ h=>h)).mono fun d zs ⟨ds,rows,_,e,hl1,hl2,hall⟩=>?_
 match rows,ds,hl2,hl1,hall with
 | [x,y,z],[d0,d1,d2],_,_,hall =>
  obtain⟨n0,e0,w0⟩:=hall 0 (by simp) (by simp);obtain⟨ps,e1,w1,w1'⟩:=hall 1 (by simp) (by simp);obtain⟨l,e2,w2,w3⟩:=hall 2 (by simp) (by simp);simp only[List.getElem_cons_zero,List.getElem_cons_succ]at e0 e1 e2;subst e0;subst e1;subst e2;exact⟨n0,ps,l,by rw[e];rfl,kO w0,w1',ma w1,ma w2,fun c hc=>kO (w3 c hc)⟩
theorem Nw:eg enc Try.prog W spare held 28 fun _ zs=>∃ d:D20,zs=d.cells/\d.Ok:=by
 have hu:=Try.underlying28;have c1:=Try.mb;have c2:=Try.Ca;have c3:=Try.Cc;have c4:=Try.Cd;have c5:=Try.Cj;refine(oh (φ:=fun i _ xs=>if i=0 then ∃ (g:Int) (ps:List DrP) (ord:List Int),xs=[.lit (.int .u8 g),.vec ps.length (d9 ps),.vec ord.length (bC ord)]/\U8 g/\(∀ x∈ps,x.Ok)/\(ps.length:Int)<2 ^ 63/\(ord.length:Int)<2 ^ 63/\∀ x∈ord,U8 x
   else if i=1 then ∃ n,xs=[.lit (.int .u8 n)]/\(Lit.int .u8 n).wf=true else if i=2 then ∃ b,xs=[.lit (.bool b)] else ∃ l:List UtD,xs=[.vec l.length (l.map UtD.cells).flatten]/\l.length<=maxLen/\∀ x∈l,x.Ok) hu
  (fun cs hcs=>by
   have hc:Try.prog.cellsOf 28=6:=(by kernel_rfl);rw[hc]at hcs
   match cs,hcs with
   | [a,b,c,d,e,f],_=>simp [c1,c2,c3,c4])
  (fun i hi=>match i,hi with
   | 0,_=>Nv.mono fun _ _ h=>h
   | 1,_=>(iA Try.underlying5).mono fun _ _ ⟨n,_,h,w⟩=>⟨n,h,w⟩
   | 2,_=>(Gp Try.underlying4).mono fun _ _ ⟨n,_,h⟩=>⟨n,h⟩
   | 3,_=>(B8 Try.underlying26 (by rw[c5];decide) Nu).mono fun _ _ h=>h)).mono fun d zs ⟨ds,rows,_,e,hl1,hl2,hall⟩=>?_
 match rows,ds,hl2,hl1,hall with
 | [x,y,z,u],[d0,d1,d2,d3],_,_,hall =>
  obtain⟨g,ps,ord,e0,w0,w0',w0'',w0''',w04⟩:=hall 0 (by simp) (by simp);obtain⟨n1,e1,w1⟩:=hall 1 (by simp) (by simp);obtain⟨b,e2⟩:=hall 2 (by simp) (by simp);obtain⟨us,e3,w3,w3'⟩:=hall 3 (by simp) (by simp);simp only[List.getElem_cons_zero,List.getElem_cons_succ]at e0 e1 e2 e3;subst e0;subst e1;subst e2;subst e3;exact⟨⟨g,ps,ord,n1,b,us⟩,by rw[e];rfl,⟨w0,w0',w0'',w0''',w04,kO w1,w3',ma w3⟩⟩
theorem Nx {r:Reach}{b:Nat}{v:Value}{d:DataW H}{ps:List MemPlace}(hval:Value.okWide Try.prog W r b 28 v)(hd:DataW.Trod enc Try.prog W 0 spare held 28 v d ps):
  ∃ x:D20,RelV Try.prog fX bX W (.agg x.cells) v/\x.Ok:=by
 obtain⟨xs,h1,x,rfl,h2⟩:=Ap Nw (.inl ⟨_,Try.underlying28⟩) hval hd;exact⟨x,h1,h2⟩
theorem Ny {r:Reach}{b:Nat}{v:Value}{d:DataW H}{ps:List MemPlace}(hval:Value.okWide Try.prog W r b 23 v)(hd:DataW.Trod enc Try.prog W 0 spare held 23 v d ps):
  ∃ l:List Int,RelV Try.prog fX bX W (.vec l.length (bC l)) v/\(l.length:Int)<2 ^ 63/\∀ x∈l,U8 x:=by
 obtain⟨l,h1,h2,h3⟩:=Gu Try.underlying23 Try.underlying5 Try.mb hval hd;exact⟨l,h1,ma h2,fun c hc=>kO (h3 c hc)⟩
end
end Go.Proofs.Ytcccmbeolcjacaa
namespace Go.Hx
variable {P:Program}
structure OwnM (lo:Nat)(H:AHeap)(e1 e0:TypeId)(v:AVal)(ids:List Nat)(rows:List (List AVal)):Prop where
 len:ids.length=rows.length
 nd:ids.Nodup
 rng:∀ i∈ids,lo<=i/\i<H.next
 top:aB lo H e1 v (List.zipWith (fun i n=>AVal.own i 0 0 n 1) ids (rows.map List.length))
 row:∀ (k id:Nat) (r:List AVal),ids[k]?=some id->rows[k]?=some r->H.get id=some (.arr 0 e0 r)
theorem OwnM.nil {lo:Nat}{H:AHeap}{e1 e0:TypeId}:OwnM lo H e1 e0 (.lit (.slice none 0 0)) [] [] :=
 ⟨rfl,.nil,fun i h=>(by cases h),.nil,fun k id r h=>(by simp at h)⟩
theorem OwnM.keep {lo:Nat}{H H':AHeap}{e1 e0:TypeId}{v:AVal}{ids:List Nat}{rows:List (List AVal)}(h:OwnM lo H e1 e0 v ids rows)(hn:H.next<=H'.next)(hk:∀ id,lo<=id->id<H.next->H'.get id=H.get id):OwnM lo H' e1 e0 v ids rows :=
 ⟨h.len,h.nd,fun i hi=>⟨(h.rng i hi).1,by have:=(h.rng i hi).2;omega⟩,h.top.keep (Nat.le_refl _) hn fun id _ h1 h2 _ _=>hk id h1 h2,fun k id r h1 h2=>by
  have:=h.rng id (List.mem_of_getElem? h1);rw[hk id this.1 this.2];exact h.row k id r h1 h2⟩
theorem OwnM.app {lo n:Nat}{H:AHeap}{e1 e0:TypeId}{v:AVal}{ids:List Nat}{rows:List (List AVal)}{r:List AVal}{t:TypeId}{z:List AVal}(ht:P.underlying t=some (.slice e1))(hz:P.cellsOf e1=1)(hzero:bL P e1=some z)(hby:P.bytesOf e1=24)(hne:e1≠e0)
  (hb:rows.length<2 ^ 40) (h:OwnM lo H e1 e0 v ids rows) (hlo:lo<=H.next) (hn:n=H.next+2):
  ∃ v' H',bq P (ext (ext H [.arr 0 e0 r]) [.arr 0 e1 [.own H.next 0 0 r.length 1]]) n t t v (.own (H.next+1) 0 0 1 1)=some (v',H')/\OwnM lo H' e1 e0 v' (ids++[H.next]) (rows++[r])/\H.next<=H'.next/\(∀ k,k<H.next->k<lo->H'.get k=H.get k):=by
 obtain⟨Hb,hHb⟩:∃ Hb,Hb=ext H [.arr 0 e0 r]:=⟨_,rfl⟩
 have nb:Hb.next=H.next+1:=by rw[hHb];rfl
 have ob:Over H Hb:=by rw[hHb];exact .ext _ _
 have gb:Hb.get H.next=some (.arr 0 e0 r):=by rw[hHb];exact bY
 have htop:=h.top.over ob;obtain⟨v',H',hA,hO,hL,hp⟩:=gf (P:=P) (H:=Hb) (t:=t) (x:=.own H.next 0 0 r.length 1) (n:=n) ht hz hzero rfl (by rw[hby];simp [h.len];omega) htop (by omega) (by omega);rw[nb,hHb]at hA;have old:∀ id g,lo<=id->id<Hb.next->Hb.get id=some (.arr g e0 r)->H'.get id=Hb.get id:=fun id g h1 h2 h3=>hp id h2 fun g' m he=>by
  rcases htop with ⟨hv,_⟩|⟨i,g2,_,_,hv,h4⟩
  ·rw[hv]at he;cases he
  ·rw[hv]at he;obtain rfl:i=id:=(AVal.own.inj he).1;rw[h4]at h3;cases h3;exact hne rfl
 have oldr:∀ id g q,lo<=id->id<Hb.next->Hb.get id=some (.arr g e0 q)->H'.get id=Hb.get id:=fun id g q h1 h2 h3=>hp id h2 fun g' m he=>by
  rcases htop with ⟨hv,_⟩|⟨i,g2,_,_,hv,h4⟩
  ·rw[hv]at he;cases he
  ·rw[hv]at he;obtain rfl:i=id:=(AVal.own.inj he).1;rw[h4]at h3;cases h3;exact hne rfl
 refine⟨v',H',hA,⟨by simp [h.len],List.nodup_append.2 ⟨h.nd,by simp,fun a ha b hb=>by
  obtain rfl:=List.mem_singleton.1 hb;have:=(h.rng a ha).2;omega⟩,fun i hi=>?_,?_,fun k id q h1 h2=>?_⟩,by omega,fun k hk hkl=>?_⟩
 ·rcases List.mem_append.1 hi with h1|h1
  ·have:=h.rng i h1;omega
  ·obtain rfl:=List.mem_singleton.1 h1;omega
 ·rw[List.map_append,List.zipWith_append (by rw[List.length_map];exact h.len)];exact hO
 ·have hk:=List.getElem?_eq_some_iff.1 h1;obtain⟨hk,_⟩:=hk;rw[List.length_append,List.length_singleton]at hk;rcases Nat.lt_or_ge k ids.length with hlt|hge
  ·rw[List.getElem?_append_left hlt]at h1;rw[List.getElem?_append_left (by rw[<- h.len];exact hlt)]at h2;have hr:=h.rng id (List.mem_of_getElem? h1);have hg:=h.row k id q h1 h2;rw[oldr id 0 q hr.1 (by omega) ((ob.old id hr.2).trans hg),ob.old id hr.2];exact hg
  ·obtain rfl:k=ids.length:=(by omega);rw[List.getElem?_append_right (Nat.le_refl _),Nat.sub_self]at h1;rw[h.len,List.getElem?_append_right (Nat.le_refl _),Nat.sub_self]at h2;cases h1;cases h2;rw[oldr H.next 0 r hlo (by omega) gb];exact gb
 ·rw[hp k (by omega) fun g m he=>?_,ob.old k hk];rcases htop with ⟨hv,_⟩|⟨i,g2,a1,_,hv,h4⟩
  ·rw[hv]at he;cases he
  ·rw[hv]at he;have:=(AVal.own.inj he).1;omega
theorem OwnM.Ed {lo:Nat}{H:AHeap}{e1 e0:TypeId}{v:AVal}{ids:List Nat}{rows:List (List AVal)}(h:OwnM lo H e1 e0 v ids rows)(h0:rows≠[]):∃ id g,lo<=id/\id<H.next/\v=.own id g 0 rows.length 1/\H.get id=some (.arr g e1 (List.zipWith (fun i n=>AVal.own i 0 0 n 1) ids (rows.map List.length)))/\(e1≠e0->id ∉ ids):=by
 have hzl:(List.zipWith (fun i n=>AVal.own i 0 0 n 1) ids (rows.map List.length)).length=rows.length:=by simp [h.len]
 rcases h.top with ⟨hv,h4⟩|⟨i,g,a,b,hv,h4⟩
 ·rw[h4]at hzl;exact absurd (List.eq_nil_of_length_eq_zero hzl.symm) h0
 ·refine⟨i,g,a,b,by rw[hv,hzl],h4,fun hne hm=>?_⟩;obtain⟨k,hk⟩:=List.mem_iff_getElem?.1 hm;have hkl:k<rows.length:=by rw[<- h.len];exact(List.getElem?_eq_some_iff.1 hk).1
  have:=h.row k i _ hk (List.getElem?_eq_getElem hkl);rw[h4]at this;exact hne (Blk.arr.inj (Option.some.inj this)).2.1
theorem OwnM.store {lo:Nat}{H:AHeap}{e1 e0:TypeId}{v:AVal}{ids:List Nat}{rows:List (List AVal)}(h:OwnM lo H e1 e0 v ids rows)(hne:e1≠e0){k id:Nat}{r r':List AVal}(hk:ids[k]?=some id)(hr:rows[k]?=some r)(hl:r'.length=r.length):OwnM lo (H.upd id (.arr 0 e0 r')) e1 e0 v ids (rows.set k r'):=by
 have hid:=h.rng id (List.mem_of_getElem? hk);have h0:rows≠[]:=fun e=>by rw[e]at hr;simp at hr
 refine⟨by rw[List.length_set];exact h.len,h.nd,fun i hi=>by rw[aC];exact h.rng i hi,?_,fun j id' q h1 h2=>?_⟩
 ·have e:(rows.set k r').map List.length=rows.map List.length:=by
   rw[List.map_set,hl];apply List.ext_getElem?;intro i;rw[List.getElem?_set];split
   ·rename_i hi;subst hi;have hkl:=(List.getElem?_eq_some_iff.1 hr).1;rw[if_pos (by rw[List.length_map];exact hkl),List.getElem?_map,hr];rfl
   ·rfl
  rw[e];obtain⟨i,g,a,b,_,h4,h5⟩:=h.Ed h0;refine h.top.keep (Nat.le_refl _) (by rw[aC];exact Nat.le_refl _) fun i2 g2 _ _ h3 _=>?_;rw[af,if_neg];rintro rfl;rw[h.row k i2 r hk hr]at h3;cases h3;exact hne rfl
 ·rw[af];by_cases hj:j=k
  ·subst hj;rw[hk]at h1;cases h1;rw[List.getElem?_set_self (List.getElem?_eq_some_iff.1 hr).1]at h2;cases h2;rw[if_pos rfl]
  ·rw[List.getElem?_set_ne (fun e=>hj e.symm)]at h2;rw[if_neg,h.row j id' q h1 h2];rintro rfl;exact hj ((List.getElem?_inj (List.getElem?_eq_some_iff.1 h1).1 h.nd).1 (by rw[h1,hk]))
theorem OwnM.fz {S:Nat->Prop}{lo nx:Nat}{H:AHeap}{e1 e0:TypeId}{v:AVal}{ids:List Nat}{rows:List (List AVal)}(h:OwnM lo H e1 e0 v ids rows)(hS:∀ i,lo<=i->S i)(hr:∀ r∈rows,∀ c∈r,Fz S H nx c c):
  Fz S H nx v (.vec rows.length (rows.map fun r=>.vec r.length r)):=by
 have hz:(List.zipWith (fun i n=>AVal.own i 0 0 n 1) ids (rows.map List.length)).length=rows.length:=by simp [h.len]
 have:=h.top.fz (S:=S) (nx:=nx) (cs':=rows.map fun r=>.vec r.length r) hS (by simp [h.len]) fun i hi hi'=>by
  simp only[List.getElem_map,List.getElem_zipWith];have hil:i<rows.length:=by omega
  have hii:i<ids.length:=by rw[h.len];exact hil
  refine .frz (hS _ (h.rng _ (List.getElem_mem hii)).1) (h.row i _ _ (List.getElem?_eq_getElem hii) (List.getElem?_eq_getElem hil)) (by simp) fun j hj h2 h'=>?_;have e0:(0:Nat)+j=j:=Nat.zero_add j;have h3:=hr rows[i] (List.getElem_mem hil) _ (List.getElem_mem h');simpa only[e0] using h3
 rw[List.length_map]at this;exact this
end Go.Hx
namespace Go.Hx
variable {P:Program} {G:Nat->Option (List AVal)}
def AHeap.gm (H:AHeap)(n ob:Nat)(b:Blk):AHeap:=⟨fun id=>if id=ob then some b else if n<=id then none else H.get id,H.next⟩
theorem xZ {H:AHeap}{n ob:Nat}{b:Blk}:(H.gm n ob b).get ob=some b:=by simp [AHeap.gm]
theorem x6 {H:AHeap}{n ob id:Nat}{b:Blk}(h:id<n)(h2:id≠ob):(H.gm n ob b).get id=H.get id:=by simp [AHeap.gm,Nat.not_le.2 h,h2]
theorem MT {H:AHeap}(hc:Clo H){n ob g:Nat}{e:TypeId}{cells cells':List AVal}(hob:H.get ob=some (.arr g e cells))(hl:cells'.length=cells.length)
  (hcell:∀ i (h:i<cells.length) (h':i<cells'.length),Fz (fun id=>n<=id/\id≠ob) H H.next cells[i] cells'[i]):FzH (fun id=>n<=id/\id≠ob) H (H.gm n ob (.arr g e cells')) where
 gone id hs:=by simp [AHeap.gm,hs.1,hs.2]
 kept id b hs hb:=by
  have hbb:=hc.below id b hb;refine⟨hc.lt id b hb,?_⟩;by_cases h:id=ob
  ·subst h;rw[hob]at hb;cases hb;exact⟨.arr g e cells',xZ,rfl,rfl,hl,hcell⟩
  ·have hn:¬ n<=id:=fun hn=>hs ⟨hn,h⟩;refine⟨b,by simp [AHeap.gm,h,hn,hb],?_⟩;cases b with
   | rsv=>trivial
   | mp=>rfl
   | arr g e cells=>exact⟨rfl,rfl,rfl,fun i h _=>.dead (hbb i h)⟩
   | loop st pend n env ps asg body=>exact⟨rfl,rfl,rfl,rfl,rfl,rfl,rfl,fun t ht=>.dead (hbb t ht)⟩
 none id hs hb:=by
  by_cases h:id=ob
  ·subst h;rw[hob]at hb;cases hb
  ·have hn:¬ n<=id:=fun hn=>hs ⟨hn,h⟩;simp [AHeap.gm,h,hn,hb]
theorem cK.gm (hG:eo G){s:St}{n ob g:Nat}{e:TypeId}{cells cells':List AVal}(hob:s.H.get ob=some (.arr g e cells))(hl:cells'.length=cells.length)
  (hcell:(∀ c∈cells,Below s.H.next c)->∀ i (h:i<cells.length) (h':i<cells'.length),Fz (fun id=>n<=id/\id≠ob) s.H s.H.next cells[i] cells'[i]):cK P G s ⟨s.ρ,s.H.gm n ob (.arr g e cells')⟩:=by
 intro n' wb Γ a w hs;exact cK.freeze (s:=s) (s':=⟨s.ρ,s.H.gm n ob (.arr g e cells')⟩) hG (MT hs.heap.clo hob hl (hcell fun c hc=>by
  obtain⟨i,hi,rfl⟩:=List.mem_iff_getElem.1 hc;exact hs.heap.clo.below ob _ hob i hi)) (fun t=>.dead (hs.env t).mR) n' wb Γ a w hs
theorem MU {H:AHeap}{t e:TypeId}{n:Nat}{src:List AVal}{z:List AVal}(ht:P.underlying t=some (.slice e))(hz:P.cellsOf e=1)(hzero:bL P e=some z)(h0:0<src.length)
  (hb:src.length*P.bytesOf e<=2 ^ 46/\src.length<=2 ^ 46) (hn:n=H.next):bq P H n t t (.lit (.slice none 0 0)) (.vec src.length src)=some (.own n 0 0 src.length 1,ext H [.arr 0 e src]):=by
 have hsrc:cI H 1 (.vec src.length src)=some (src.length,src):=by
  unfold cI;simp
 unfold bq;rw[ht];simp only[hzero,hz,Option.bind_some];rw[hsrc];simp only[Option.bind_some];rw[if_neg (by omega),if_pos hb,sV hn];rfl
theorem OwnM.BY {lo n:Nat}{H:AHeap}{e1 e0:TypeId}{v:AVal}{ids:List Nat}{rows:List (List AVal)}{r:List AVal}{t:TypeId}{z:List AVal}(h:OwnM lo H e1 e0 v ids rows)(ht:P.underlying t=some (.slice e1))(hz:P.cellsOf e1=1)(hzero:bL P e1=some z)(hby:P.bytesOf e1=24)(hne:e1≠e0)
  (hb:rows.length<2 ^ 40) (hlo:lo<=H.next) (hn:n=H.next+2):
  ∃ v' H',bq P (ext (ext H [.arr 0 e0 r]) [.arr 0 e1 [.own H.next 0 0 r.length 1]]) n t t v (.own (H.next+1) 0 0 1 1)=some (v',H')/\OwnM lo H' e1 e0 v' (ids++[H.next]) (rows++[r])/\H.next<=H'.next/\(∀ k,k<H.next->(∀ g n,v≠.own k g 0 n 1)->H'.get k=H.get k):=by
 obtain⟨v',H',hA,hO,hn',_⟩:=h.app (P:=P) (r:=r) ht hz hzero hby hne hb hlo hn;have nb:(ext H [.arr 0 e0 r]).next=H.next+1:=rfl;obtain⟨v2,H2,hA2,_,_,hp⟩:=gf (P:=P) (H:=ext H [.arr 0 e0 r]) (t:=t) (x:=.own H.next 0 0 r.length 1) (n:=n) ht hz hzero rfl (by rw[hby];simp [h.len];omega) (h.top.over (.ext _ _)) (by rw[nb];omega) (by rw[nb];omega);rw[nb]at hA2;have e:(v2,H2)=(v',H'):=Option.some.inj (hA2.symm.trans hA);cases e;exact⟨_,_,hA,hO,hn',fun k hk hne=>(hp k (by rw[nb];omega) hne).trans (c9 _ _ _ hk)⟩
theorem OwnM.ne {lo:Nat}{H:AHeap}{e1 e0:TypeId}{v:AVal}{ids:List Nat}{rows:List (List AVal)}(h:OwnM lo H e1 e0 v ids rows){k g':Nat}{e:TypeId}{c:List AVal}(hk:H.get k=some (.arr g' e c))(he:e≠e1):∀ g n,v≠.own k g 0 n 1:=fun g n hv=>by
 rcases h.top with ⟨h1,_⟩|⟨i,g2,_,_,h1,h2⟩
 ·rw[h1]at hv;cases hv
 ·rw[h1]at hv;obtain rfl:=(AVal.own.inj hv).1;rw[hk]at h2;cases h2;exact he rfl
theorem W.iG {n:Nat}{rd:Option Nat}{Q:AX->St->Prop}{s:St}{x y:Code}(Φ:St->Prop)(h:W P G n rd x (fun ax s'=>ax=.normal/\Φ s') s)(h2:∀ s',Φ s'->W P G n rd y Q s'):W P G n rd (.seq x y) Q s :=
 W.seq (h.mono fun ax s' ⟨e,hp⟩=>by subst e;exact h2 s' hp)
theorem cK.same {s:St}:cK P G s s:=by
 intro n wb Γ a w hs;exact⟨Γ,hs,.refl _ _ _,fun _ _ h _=>h⟩
end Go.Hx
namespace Go.Proofs
open Go.Hx
structure NodO (lo:Nat)(H:AHeap)(pv rv:AVal)(ids:List Nat)(x:NodeP):Prop where
 par:aB lo H 3 pv (ints x.parents)
 rows:OwnM lo H 59 3 rv ids (x.rows.map ints)
 dj:∀ id g n,pv=.own id g 0 n 1->id ∉ ids
 nil:x.rows=[]->rv=.lit (.slice none 0 0)
theorem NodO.keep {lo:Nat}{H H':AHeap}{pv rv:AVal}{ids:List Nat}{x:NodeP}(h:NodO lo H pv rv ids x)(hn:H.next<=H'.next)(hk:∀ id,lo<=id->id<H.next->H'.get id=H.get id):NodO lo H' pv rv ids x :=
 ⟨h.par.keep (Nat.le_refl _) hn fun id _ h1 h2 _ _=>hk id h1 h2,h.rows.keep hn hk,h.dj,h.nil⟩
theorem NodO.over {lo:Nat}{H H':AHeap}{pv rv:AVal}{ids:List Nat}{x:NodeP}(h:NodO lo H pv rv ids x)(o:Over H H'):NodO lo H' pv rv ids x:=h.keep o.next fun id _ h2=>o.old id h2
theorem NodO.keepE {lo:Nat}{H H':AHeap}{pv rv:AVal}{ids:List Nat}{x:NodeP}(h:NodO lo H pv rv ids x)(hn:H.next<=H'.next)(hk:∀ id g e c,lo<=id->id<H.next->H.get id=some (.arr g e c)->e≠83->H'.get id=H.get id):NodO lo H' pv rv ids x :=
 ⟨h.par.keep (Nat.le_refl _) hn fun id g h1 h2 h3 _=>hk id g _ _ h1 h2 h3 (by decide),⟨h.rows.len,h.rows.nd,fun i hi=>⟨(h.rows.rng i hi).1,by have:=(h.rows.rng i hi).2;omega⟩,h.rows.top.keep (Nat.le_refl _) hn fun id g h1 h2 h3 _=>hk id g _ _ h1 h2 h3 (by decide),fun k id r h1 h2=>by
  have h3:=h.rows.rng id (List.mem_of_getElem? h1);have h4:=h.rows.row k id r h1 h2;rw[hk id _ _ _ h3.1 h3.2 h4 (by decide)];exact h4⟩,h.dj,h.nil⟩
theorem uc {lo:Nat}{H:AHeap}{e1 e0:TypeId}{v:AVal}{ids:List Nat}{rows:List (List AVal)}(h:OwnM lo H e1 e0 v ids rows):v.one=true/\v.cells=[v]:=⟨h.top.one,h.top.cells⟩
theorem qM {S:Nat->Prop}{lo nx:Nat}{H:AHeap}{e:TypeId}{v:AVal}{cs cs':List AVal}(h:aB lo H e v cs)(hS:∀ i g,lo<=i->i<H.next->H.get i=some (.arr g e cs)->S i)(hl:cs'.length=cs.length)
  (hc:∀ i (h:i<cs.length) (h':i<cs'.length),Fz S H nx cs[i] cs'[i]):Fz S H nx v (.vec cs'.length cs'):=by
 rcases h with ⟨rfl,rfl⟩|⟨id,g,h1,h2,rfl,h4⟩
 ·obtain rfl:=List.eq_nil_of_length_eq_zero hl;exact .nil
 ·rw[hl];refine .frz (hS id g h1 h2 h4) h4 (by omega) fun j hj h2 h'=>?_;simp only[Nat.zero_add]at h2 ⊢;exact hc j h2 h'
def qN (S:Nat->Prop)(lo:Nat)(H:AHeap):Prop:=∀ i g e c,lo<=i->i<H.next->H.get i=some (.arr g e c)->e≠83->S i
theorem NodO.qO {S:Nat->Prop}{lo nx:Nat}{H:AHeap}{pv rv:AVal}{ids:List Nat}{x:NodeP}(h:NodO lo H pv rv ids x)(hS:qN S lo H):Fz S H nx pv (ab x.parents):=by
 have:=qM (S:=S) (nx:=nx) (cs':=ints x.parents) h.par (fun i g h1 h2 h3=>hS i g _ _ h1 h2 h3 (by decide)) rfl fun i hi _=>by simp only[ints,List.getElem_map];exact .lit _
 rw[aT]at this;exact this
theorem NodO.MV {S:Nat->Prop}{lo nx:Nat}{H:AHeap}{pv rv:AVal}{ids:List Nat}{x:NodeP}(h:NodO lo H pv rv ids x)(hS:qN S lo H):Fz S H nx rv (ao x.rows):=by
 have hl:=h.rows.len;rw[List.length_map]at hl;have:=qM (S:=S) (nx:=nx) (cs':=x.rows.map ab) h.rows.top (fun i g h1 h2 h3=>hS i g _ _ h1 h2 h3 (by decide)) (by simp [hl]) fun i hi hi'=>by
  have hil:i<x.rows.length:=by simpa using hi'
  have hii:i<ids.length:=by omega
  simp only[List.getElem_map,List.getElem_zipWith,aT];have hid:=h.rows.rng _ (List.getElem_mem hii);have hrow:=h.rows.row i _ _ (List.getElem?_eq_getElem hii) (show (x.rows.map ints)[i]?=some (ints x.rows[i]) by rw[List.getElem?_map,List.getElem?_eq_getElem hil];rfl);refine .frz (hS _ _ _ _ hid.1 hid.2 hrow (by decide)) hrow (by simp [aT]) fun j hj h2 h'=>?_;simp only[ints,List.getElem_map];have e0:0+j=j:=Nat.zero_add j;simp only[e0];exact .lit _
 rw[List.length_map]at this;exact this
theorem NodO.m9 {S:Nat->Prop}{lo nx:Nat}{H:AHeap}{pv rv:AVal}{ids:List Nat}{x:NodeP}(h:NodO lo H pv rv ids x)(hS:qN S lo H):Fz S H nx rv (bc x):=by
 unfold bc;split
 ·rename_i e;rw[h.nil e];exact .lit _
 ·exact h.MV hS
theorem NodO.low {lo lo':Nat}{H:AHeap}{pv rv:AVal}{ids:List Nat}{x:NodeP}(h:NodO lo H pv rv ids x)(hl:lo'<=lo):NodO lo' H pv rv ids x :=
 ⟨h.par.keep hl (Nat.le_refl _) fun _ _ _ _ _ _=>rfl,⟨h.rows.len,h.rows.nd,fun i hi=>⟨by have:=(h.rows.rng i hi).1;omega,(h.rows.rng i hi).2⟩,h.rows.top.keep hl (Nat.le_refl _) fun _ _ _ _ _ _=>rfl,h.rows.row⟩,h.dj,h.nil⟩
end Go.Proofs
namespace Go.Hx
theorem OwnM.elem {lo:Nat}{H:AHeap}{e1 e0:TypeId}{v:AVal}{ids:List Nat}{rows:List (List AVal)}(h:OwnM lo H e1 e0 v ids rows){i:Nat}(hi:i∈ids):∃ r,H.get i=some (.arr 0 e0 r):=by
 obtain⟨k,hk⟩:=List.mem_iff_getElem?.1 hi;have hl:=(List.getElem?_eq_some_iff.1 hk).1;rw[h.len]at hl;exact⟨_,h.row k i _ hk (List.getElem?_eq_getElem hl)⟩
theorem OwnM.x7 {lo:Nat}{H H':AHeap}{e1 e0:TypeId}{v:AVal}{ids:List Nat}{rows:List (List AVal)}(h:OwnM lo H e1 e0 v ids rows)(hn:H.next<=H'.next)
  (hk:∀ i g e c,lo<=i->i<H.next->H.get i=some (.arr g e c)->(e=e1\/i∈ids)->H'.get i=H.get i):OwnM lo H' e1 e0 v ids rows :=
 ⟨h.len,h.nd,fun i hi=>⟨(h.rng i hi).1,by have:=(h.rng i hi).2;omega⟩,h.top.keep (Nat.le_refl _) hn fun i g h1 h2 h3 _=>hk i g _ _ h1 h2 h3 (.inl rfl),fun k i r h1 h2=>by
  have h3:=h.rng i (List.mem_of_getElem? h1);have h4:=h.row k i r h1 h2;rw[hk i _ _ _ h3.1 h3.2 h4 (.inr (List.mem_of_getElem? h1))];exact h4⟩
end Go.Hx
namespace Go.Proofs
open Go.Hx
structure SmallN (m:Nat)(ns:List NodeP):Prop where
 len:ns.length<=m
 node:∀ x∈ns,x.parents.length<=m/\x.rows.length<=m/\∀ r∈x.rows,r≠[]/\r.length<=m
theorem SmallN.mono {m m':Nat}{ns:List NodeP}(h:SmallN m ns)(hm:m<=m'):SmallN m' ns :=
 ⟨Nat.le_trans h.len hm,fun x hx=>by
  obtain⟨a,b,c⟩:=h.node x hx;exact⟨by omega,by omega,fun r hr=>⟨(c r hr).1,by have:=(c r hr).2;omega⟩⟩⟩
theorem SmallN.set {m:Nat}{ns:List NodeP}{A:Nat}{y:NodeP}(h:SmallN m ns)(hy:y.parents.length<=m/\y.rows.length<=m/\∀ r∈y.rows,r≠[]/\r.length<=m):SmallN m (ns.set A y) :=
 ⟨by rw[List.length_set];exact h.len,fun x hx=>by
  rcases List.mem_or_eq_of_mem_set hx with h1|rfl
  ·exact h.node x h1
  ·exact hy⟩
def bB (ns:List NodeP)(A:Nat)(c pv rv:AVal):List AVal:=(((aV ns).set (A*3) c).set (A*3+1) pv).set (A*3+2) rv
theorem iZ (ns:List NodeP)(A:Nat)(c pv rv:AVal):(bB ns A c pv rv).length=ns.length*3:=by unfold bB;simp [gD]
theorem x8 {ns:List NodeP}{A:Nat}(h:A<ns.length)(c pv rv:AVal):(bB ns A c pv rv)[A*3]?=some c:=by
 unfold bB;rw[List.getElem?_set_ne (by omega),List.getElem?_set_ne (by omega),List.getElem?_set_self (by rw[gD];omega)]
theorem B0 {ns:List NodeP}{A:Nat}(h:A<ns.length)(c pv rv:AVal):(bB ns A c pv rv)[A*3+1]?=some pv:=by
 unfold bB;rw[List.getElem?_set_ne (by omega),List.getElem?_set_self (by rw[List.length_set,gD];omega)]
theorem B1 {ns:List NodeP}{A:Nat}(h:A<ns.length)(c pv rv:AVal):(bB ns A c pv rv)[A*3+2]?=some rv:=by
 unfold bB;rw[List.getElem?_set_self (by rw[List.length_set,List.length_set,gD];omega)]
theorem x9 {ns:List NodeP}{A i:Nat}(h0:i≠A*3)(h1:i≠A*3+1)(h2:i≠A*3+2)(c pv rv:AVal):(bB ns A c pv rv)[i]?=(aV ns)[i]?:=by
 unfold bB;rw[List.getElem?_set_ne (by omega),List.getElem?_set_ne (by omega),List.getElem?_set_ne (by omega)]
theorem M0 {ns:List NodeP}{A:Nat}(c c' pv rv:AVal):(bB ns A c pv rv).set (A*3) c'=bB ns A c' pv rv:=by
 unfold bB;rw[List.set_comm _ _ (by omega),List.set_comm (i:=A*3+1) _ _ (by omega),List.set_set]
theorem B2 {ns:List NodeP}{A:Nat}(c pv pv' rv:AVal):(bB ns A c pv rv).set (A*3+1) pv'=bB ns A c pv' rv:=by
 unfold bB;rw[List.set_comm _ _ (by omega),List.set_set]
theorem B3 {ns:List NodeP}{A:Nat}(c pv rv rv':AVal):(bB ns A c pv rv).set (A*3+2) rv'=bB ns A c pv rv':=by
 unfold bB;rw[List.set_set]
theorem M1 {ns:List NodeP}{A:Nat}(h:A<ns.length)(c pv rv:AVal):¬ bB ns A c pv rv=[]:=fun e=>by
 have:=x8 h c pv rv;rw[e]at this;simp at this
theorem M3 {ns:List NodeP}{A:Nat}{x:NodeP}(h:ns[A]?=some x)(pv rv:AVal):((aV ns).set (A*3+1) pv).set (A*3+2) rv=bB ns A (aa x.card) pv rv:=by
 unfold bB;rw[jF (kW h)]
theorem ud {e:Nat->Prop}{ns:List NodeP}{A:Nat}{x':NodeP}{rv:AVal}(hA:A<ns.length)(hr:rv=ao x'.rows\/rv=bc x')(he:e A->rv=bc x'):NodesQ e (ns.set A x') (bB ns A (aa x'.card) (ab x'.parents) rv):=by
 refine⟨by rw[iZ,List.length_set],fun v x hx=>?_⟩;by_cases h:v=A
 ·subst h;rw[List.getElem?_set_self hA]at hx;cases hx;exact⟨rv,x8 hA _ _ _,B0 hA _ _ _,B1 hA _ _ _,hr,he⟩
 ·rw[List.getElem?_set_ne (by omega)]at hx;refine⟨bc x,?_,?_,?_,.inr rfl,fun _=>rfl⟩
  ·rw[x9 (by omega) (by omega) (by omega)];exact kW hx
  ·rw[x9 (by omega) (by omega) (by omega)];exact mh hx
  ·rw[x9 (by omega) (by omega) (by omega)];exact pf hx
theorem ue {S:Nat->Prop}{lo nx z n:Nat}{H:AHeap}{e:TypeId}{v:AVal}{cs cs':List AVal}(h:bW lo H e z v n cs)(hS:∀ i,lo<=i->S i)(hl:cs'.length=cs.length)
  (hc:∀ i (h:i<cs.length) (h':i<cs'.length),Fz S H nx cs[i] cs'[i]):Fz S H nx v (.vec n cs'):=by
 rcases h with ⟨rfl,rfl,rfl⟩|⟨id,g,h1,_,rfl,h3,h4⟩
 ·obtain rfl:=List.eq_nil_of_length_eq_zero hl;exact .nil
 ·refine .frz (hS id h1) h4 (by omega) fun j hj h2 h'=>?_;simp only[Nat.zero_add]at h2 ⊢;exact hc j h2 h'
theorem ya {S:Nat->Prop}{H:AHeap}{nx A:Nat}{ns:List NodeP}{c:Int}{pv rv pv' rv':AVal}(hp:Fz S H nx pv pv')(hr:Fz S H nx rv rv'):∀ i (h:i<(bB ns A (aa c) pv rv).length) (h':i<(bB ns A (aa c) pv' rv').length),Fz S H nx (bB ns A (aa c) pv rv)[i] (bB ns A (aa c) pv' rv')[i]:=by
 unfold bB;intro i h h';simp only[List.getElem_set];by_cases h2:A*3+2=i
 ·rw[if_pos h2,if_pos h2];exact hr
 ·rw[if_neg h2,if_neg h2];by_cases h1:A*3+1=i
  ·rw[if_pos h1,if_pos h1];exact hp
  ·rw[if_neg h1,if_neg h1];by_cases h0:A*3=i
   ·rw[if_pos h0];exact .lit _
   ·rw[if_neg h0];exact uB ns _ (List.getElem_mem _)
theorem M4 {S:Nat->Prop}{lo nx:Nat}{H H':AHeap}{v:AVal}{ids:List Nat}{rows:List (List Int)}{R idt gt:Nat}{w:AVal}{r':List Int}{cells:List AVal}(h:OwnM lo H 59 3 v ids (rows.map ints))(hS:∀ i,lo<=i->S i)(hR:R<rows.length)(ht:lo<=idt)
  (hcell:cells.length=rows.length) (hsame:∀ (j id:Nat) (r:List Int),j≠R->ids[j]?=some id->rows[j]?=some r->cells[j]?=some (.own id 0 0 r.length 1)/\H'.get id=H.get id) (hw:cells[R]?=some w) (hg:H'.get idt=some (.arr gt 59 cells)) (hfw:Fz S H' nx w (ab r')):
  Fz S H' nx (.own idt gt 0 rows.length 1) (ao (rows.set R r')):=by
 have hl:=h.len;rw[List.length_map]at hl;have:Fz S H' nx (.own idt gt 0 rows.length 1) (.vec rows.length ((rows.set R r').map ab)):=by
  refine .frz (hS idt ht) hg (by simp) fun j hj h2 h'=>?_;simp only[Nat.zero_add]at h2 ⊢;have hjr:j<rows.length:=by omega
  have e1:=List.getElem?_eq_getElem h2;generalize cells[j]=u at e1 ⊢;rw[List.getElem_map,List.getElem_set];split
  ·rename_i e;subst e;rw[hw]at e1;cases e1;exact hfw
  ·rename_i e;have hij:j<ids.length:=(by omega);obtain⟨c1,c2⟩:=hsame j _ _ (fun h=>e h.symm) (List.getElem?_eq_getElem hij) (List.getElem?_eq_getElem hjr);rw[c1]at e1;cases e1;have hid:=h.rng _ (List.getElem_mem hij);have hrow:=h.row j _ _ (List.getElem?_eq_getElem hij) (show (rows.map ints)[j]?=some (ints rows[j]) by rw[List.getElem?_map,List.getElem?_eq_getElem hjr];rfl);rw[<- c2]at hrow;refine .frz (hS _ hid.1) hrow (by simp [aT]) fun i hi h3 h4=>?_;have e0:0+i=i:=Nat.zero_add i;simp only[e0,ints,List.getElem_map];exact .lit _
 have e:ao (rows.set R r')=.vec rows.length ((rows.set R r').map ab):=by unfold ao;rw[List.length_set]
 rw[e];exact this
structure RowAt (lo:Nat)(H:AHeap)(rv:AVal)(ids:List Nat)(rows:List (List Int))(R:Nat)(q:List Int)(idt gt:Nat)(cells:List AVal)(idr:Nat):Prop where
 rv:rv=.own idt gt 0 rows.length 1
 top:H.get idt=some (.arr gt 59 cells)
 tlo:lo<=idt/\idt<H.next
 len:cells.length=rows.length
 at':cells[R]?=some (.own idr 0 0 q.length 1)
 row:H.get idr=some (.arr 0 3 (ints q))
 rlo:lo<=idr/\idr<H.next
 ne:idt≠idr
 id:ids[R]?=some idr
 q:rows[R]?=some q
 cell:∀ (j i:Nat) (r:List Int),ids[j]?=some i->rows[j]?=some r->cells[j]?=some (.own i 0 0 r.length 1)
 nm:idt ∉ ids
theorem OwnM.rowAt {lo:Nat}{H:AHeap}{rv:AVal}{ids:List Nat}{rows:List (List Int)}(h:OwnM lo H 59 3 rv ids (rows.map ints)){R:Nat}{q:List Int}(hq:rows[R]?=some q):∃ idt gt cells idr,RowAt lo H rv ids rows R q idt gt cells idr:=by
 have hR:=aG hq;have hl:=h.len;rw[List.length_map]at hl;have h0:rows.map ints≠[]:=by intro e;have:=congrArg List.length e;simp at this;rw[this]at hR;simp at hR
 obtain⟨idt,gt,a,b,c,d,f⟩:=h.Ed h0;obtain⟨idr,hidr⟩:=ay (show R<ids.length by omega);have hrow:=h.row R idr (ints q) hidr (by rw[List.getElem?_map,hq];rfl);have hcell:∀ (j i:Nat) (r:List Int),ids[j]?=some i->rows[j]?=some r->(List.zipWith (fun i n=>AVal.own i 0 0 n 1) ids ((rows.map ints).map List.length))[j]?=some (.own i 0 0 r.length 1):=fun j i r h1 h2=>by
  rw[List.getElem?_zipWith,h1,List.getElem?_map,List.getElem?_map,h2];simp [aT]
 refine⟨idt,gt,_,idr,by rw[c,List.length_map],d,⟨a,b⟩,by simp [hl],hcell R idr q hidr hq,hrow,h.rng _ (List.mem_of_getElem? hidr),?_,hidr,hq,hcell,f (by decide)⟩;rintro rfl;exact f (by decide) (List.mem_of_getElem? hidr)
theorem RowAt.M5 {S:Nat->Prop}{lo nx:Nat}{H H':AHeap}{rv:AVal}{ids:List Nat}{rows:List (List Int)}{R:Nat}{q:List Int}{idt gt:Nat}{cells:List AVal}{idr:Nat}(h:RowAt lo H rv ids rows R q idt gt cells idr)(hM:OwnM lo H' 59 3 rv ids (rows.map ints))(hS:∀ i,lo<=i->S i)(ht:H'.get idt=some (.arr gt 59 cells)):
  Fz S H' nx (.own idt gt 0 R 1) (ao (rows.take R)):=by
 have hR:=aG h.q;have hl:=hM.len;rw[List.length_map]at hl;have:Fz S H' nx (.own idt gt 0 R 1) (.vec R ((rows.take R).map ab)):=by
  refine .frz (hS idt h.tlo.1) ht (by simp;omega) fun j hj h2 h'=>?_;simp only[Nat.zero_add]at h2 ⊢;have hjr:j<rows.length:=by omega
  have hij:j<ids.length:=by omega
  have e1:=List.getElem?_eq_getElem h2;generalize cells[j]=u at e1 ⊢;rw[h.cell j _ _ (List.getElem?_eq_getElem hij) (List.getElem?_eq_getElem hjr)]at e1;cases e1;rw[List.getElem_map,List.getElem_take];have hid:=hM.rng _ (List.getElem_mem hij);have hrow:=hM.row j _ _ (List.getElem?_eq_getElem hij) (show (rows.map ints)[j]?=some (ints rows[j]) by rw[List.getElem?_map,List.getElem?_eq_getElem hjr];rfl);refine .frz (hS _ hid.1) hrow (by simp [aT]) fun i hi h3 h4=>?_;have e0:0+i=i:=Nat.zero_add i;simp only[e0,ints,List.getElem_map];exact .lit _
 have e:ao (rows.take R)=.vec R ((rows.take R).map ab):=by unfold ao;rw[List.length_take,Nat.min_eq_left (by omega)]
 rw[e];exact this
theorem RowAt.M6 {S:Nat->Prop}{lo nx:Nat}{H H':AHeap}{rv:AVal}{ids:List Nat}{rows:List (List Int)}{R:Nat}{q:List Int}{idt gt:Nat}{cells:List AVal}{idr:Nat}(h:RowAt lo H rv ids rows R q idt gt cells idr)(hM:OwnM lo H 59 3 rv ids (rows.map ints))(hS:∀ i,lo<=i->S i){w:AVal}{q':List Int}
  (ht:H'.get idt=some (.arr gt 59 (cells.set R w))) (hk:∀ i∈ids,i≠idr->H'.get i=H.get i) (hw:Fz S H' nx w (ab q')):Fz S H' nx rv (ao (rows.set R q')):=by
 have hR:=aG h.q;rw[h.rv];refine M4 (gt:=gt) hM hS hR h.tlo.1 (by rw[List.length_set];exact h.len) (fun j i r hj h1 h2=>⟨by rw[List.getElem?_set_ne (fun e=>hj e.symm)];exact h.cell j i r h1 h2,hk i (List.mem_of_getElem? h1) ?_⟩) (by rw[List.getElem?_set_self (by rw[h.len];exact hR)]) ht hw;rintro rfl;exact hj ((List.getElem?_inj (aG h1) hM.nd).1 (by rw[h1,h.id]))
theorem NodesQ.take {e:Nat->Prop}{ns:List NodeP}{cs:List AVal}(h:NodesQ e ns cs)(k:Nat):NodesQ e (ns.take k) (cs.take (k*3)):=by
 refine⟨by rw[List.length_take,List.length_take,h.len];omega,fun v x hx=>?_⟩;have hv:=aG hx;rw[List.length_take]at hv;rw[List.getElem?_take_of_lt (by omega)]at hx;obtain⟨rv,a,b,c,d⟩:=h.node v x hx;exact⟨rv,by rw[List.getElem?_take_of_lt (by omega)];exact a,by rw[List.getElem?_take_of_lt (by omega)];exact b,by rw[List.getElem?_take_of_lt (by omega)];exact c,d⟩
theorem SmallN.take {m:Nat}{ns:List NodeP}(h:SmallN m ns)(k:Nat):SmallN m (ns.take k):=⟨by rw[List.length_take];have:=h.len;omega,fun x hx=>h.node x (List.mem_of_mem_take hx)⟩
def i9:Nat->Int->Int->List Int->List Int
 | 0,_,_,l=>l
 | f+1,i,k,l=>if i<k then i9 f (i+1) (k - 1) ((l.set i.toNat (l.getD k.toNat 0)).set k.toNat (l.getD i.toNat 0)) else l
def iH (c n g:Int)(q:List Int):List Int:=if c=6 then q.set 0 n else if c=7 then q++[0] else if c=8 then g :: List.replicate (q.length - 1) 0 else i9 (q.length+1) 0 ((q.length:Int) - 1) q
def dA (c r n g:Int)(x:NodeP):NodeP × AVal :=
 if c=1 then ({ x with card:=n },bc x) else if c=2 then ({ x with parents:=x.parents++[n] },bc x) else if c=3 then ({ x with parents:=[] },bc x)
 else if c=4 then ({ x with rows:=x.rows++[[n]] },bc { x with rows:=x.rows++[[n]] })
 else match x.rows[(r % (x.rows.length:Int)).toNat]? with
  | none=>(x,bc x)
  | some q=>if c=5 then ({ x with rows:=x.rows.take (r % (x.rows.length:Int)).toNat },ao (x.rows.take (r % (x.rows.length:Int)).toNat))
   else ({ x with rows:=x.rows.set (r % (x.rows.length:Int)).toNat (iH c n g q) },ao (x.rows.set (r % (x.rows.length:Int)).toNat (iH c n g q)))
def dX (c:Int)(A:Nat)(r n g:Int)(ns:List NodeP):Int × List NodeP × List AVal:=match ns[A]? with
 | none=>(g,[],[])
 | some x=>if c=0 then (n,ns,bB ns A (aa x.card) (ab x.parents) (bc x))
  else if c=10 then (g,ns++[⟨1,[],[[g]]⟩],bB ns A (aa x.card) (ab x.parents) (bc x)++[aa 1,ab [],bc ⟨1,[],[[g]]⟩])
  else if c=11 then (g,ns.take (ns.length - 1),(bB ns A (aa x.card) (ab x.parents) (bc x)).take ((ns.length - 1)*3))
  else (g,ns.set A (dA c r n g x).1,bB ns A (aa (dA c r n g x).1.card) (ab (dA c r n g x).1.parents) (dA c r n g x).2)
theorem qQ {c r n g:Int}{x:NodeP}(hc:4<c)(hx:x.rows=[]):dA c r n g x=(x,bc x):=by
 unfold dA;rw[if_neg (by omega),if_neg (by omega),if_neg (by omega),if_neg (by omega),hx];rfl
theorem M7 {r n g:Int}{x:NodeP}{R:Nat}{q:List Int}(hq:x.rows[R]?=some q)(hR:R=(r % (x.rows.length:Int)).toNat):dA 5 r n g x=({ x with rows:=x.rows.take R },ao (x.rows.take R)):=by
 subst hR;unfold dA;rw[if_neg (by omega),if_neg (by omega),if_neg (by omega),if_neg (by omega),hq];rfl
theorem M8 {c r n g:Int}{x:NodeP}{R:Nat}{q:List Int}(hc:5<c)(hq:x.rows[R]?=some q)(hR:R=(r % (x.rows.length:Int)).toNat):dA c r n g x=({ x with rows:=x.rows.set R (iH c n g q) },ao (x.rows.set R (iH c n g q))):=by
 subst hR;unfold dA;rw[if_neg (by omega),if_neg (by omega),if_neg (by omega),if_neg (by omega),hq];simp only;rw[if_neg (by omega)]
theorem M9:∀ (f:Nat) (i k:Int) (l:List Int),(i9 f i k l).length=l.length:=by
 intro f
 induction f with
 | zero=>intro i k l;rfl
 | succ f ih=>intro i k l;unfold i9;split<;>simp [ih]
theorem Na {f:Nat}{i k:Int}{l:List Int}(h:¬ i<k):i9 f i k l=l:=by
 cases f with
 | zero=>rfl
 | succ f=>unfold i9;rw[if_neg h]
theorem Nb {f iN kN:Nat}{l:List Int}{qa qb:Int}(h:(iN:Int)<kN)(ha:l[iN]?=some qa)(hb:l[kN]?=some qb):i9 f ((iN:Int)+1) ((kN:Int) - 1) ((l.set iN qb).set kN qa)=i9 (f+1) iN kN l:=by
 conv=>rhs;unfold i9
 rw[if_pos h];simp [List.getD,ha,hb]
end Go.Proofs
namespace Go.Proofs
open Go.Hx
def jt (w a r n:Int):List AVal:=[.lit (.int .u8 w),.lit (.int .u8 a),.lit (.int .u8 r),.lit (.int .i64 n)]
def dM (ns:List NodeP)(a k:Nat)(pv rv:AVal):List AVal:=((aV (ns.take k)).set (a*3+1) pv).set (a*3+2) rv
theorem MW (ns:List NodeP)(a k:Nat)(pv rv:AVal):(dM ns a k pv rv).length=(ns.take k).length*3:=by unfold dM;rw[List.length_set,List.length_set,gD]
theorem MX {ns:List NodeP}{k:Nat}{x:NodeP}(h:ns[k]?=some x)(pv rv pk rk:AVal):dM ns k k pv rv++[aa x.card,pk,rk]=dM ns k (k+1) pk rk:=by
 have hk:=aG h;have hl:=gD (ns.take k);have hkl:(ns.take k).length=k:=by rw[List.length_take];omega
 unfold dM;rw[List.set_eq_of_length_le (l:=aV (ns.take k)) (by omega),List.set_eq_of_length_le (by omega),aP h,yn,List.set_append_right _ _ (by omega),List.set_append_right _ _ (by omega),hl,hkl,show k*3+1 - k*3=1 by omega,show k*3+2 - k*3=2 by omega];rfl
theorem MY {ns:List NodeP}{a k:Nat}{x:NodeP}(h:ns[k]?=some x)(hne:k≠a)(pv rv:AVal):dM ns a (k+1) pv rv=dM ns a k pv rv++[aa x.card,ab x.parents,bc x]:=by
 have hk:=aG h;have hl:=gD (ns.take k);have hkl:(ns.take k).length=k:=by rw[List.length_take];omega
 unfold dM;rw[aP h,yn];by_cases ha:a<k
 ·rw[List.set_append_left _ _ (by omega),List.set_append_left _ _ (by rw[List.length_set];omega)]
 ·rw[List.set_eq_of_length_le (by simp [hl];omega),List.set_eq_of_length_le (by simp [hl];omega),List.set_eq_of_length_le (l:=aV (ns.take k)) (by omega),List.set_eq_of_length_le (by omega)]
def BZ (ns:List NodeP)(a lo:Nat)(k:Nat)(H:AHeap)(nh:AVal):Prop :=
 ∃ pv rv,bW lo H 83 3 nh k (dM ns a k pv rv)/\pv.one=true/\rv.one=true/\(a<k->∃ x,ns[a]?=some x/\∃ ids,NodO lo H pv rv ids x)
set_option maxHeartbeats 4000000 in
theorem MZ (w a r n:Int)(hw:0<=w/\w<=255)(ha:0<=a/\a<=255)(hr:0<=r/\r<=255)(g:Int)(ns:List NodeP)(m:Nat)(hm:m<2 ^ 30)(hs:SmallN m ns)(H:AHeap)(K:ARes->AHeap->Prop)
  (hK:∀ g' ns' cs,(g',ns',cs)=dX (w % 12) (a % (ns.length:Int)).toNat r n g ns->SmallN (m+1) ns'->NodesQ (fun v=>¬ w % 12=5\/∀ x,ns[v]?=some x->x.rows=[]) ns' cs->(w % 12=0->ns'=ns)/\ns'.length<=ns.length+1->K (.ret (.agg [aa g',.vec ns'.length cs])) H):
  ae Try.prog G0 45 [.agg (jt w a r n),bj g ns] H K:=by
 refine ae.clo ⟨_,Try.func45,rfl,rfl⟩ fun hcl=>?_;refine ae.jK (n:=323) (rs:=[.cell 4 64]) Try.func45 rfl rfl rfl (by decide) (by simp) ?_;refine W.seq (ag _ _ _ (by rfl) ?_);simp only[go_sem,jt,bj,bO];obtain⟨Hb,hHb⟩:∃ Hb,Hb=ext H [.arr 0 30 [.lit (.int .u8 w),.lit (.int .u8 a),.lit (.int .u8 r),.lit (.int .i64 n)],.arr 0 64 [.lit (.int .i64 g),.vec ns.length (aD ns)],.arr 0 64 [.lit (.int .i64 0),.lit (.slice none 0 0)]]:=⟨_,rfl⟩
 have b0:Hb.get H.next=some (.arr 0 30 [.lit (.int .u8 w),.lit (.int .u8 a),.lit (.int .u8 r),.lit (.int .i64 n)]):=by rw[hHb];exact br ..
 have b1:Hb.get (H.next+1)=some (.arr 0 64 [.lit (.int .i64 g),.vec ns.length (aD ns)]):=by rw[hHb];exact bu H _ 1 (by simp)
 have b2:Hb.get (H.next+2)=some (.arr 0 64 [.lit (.int .i64 0),.lit (.slice none 0 0)]):=by rw[hHb];exact bu H _ 2 (by simp)
 have nb:Hb.next=H.next+3:=by rw[hHb];rfl
 have ob:Over H Hb:=by rw[hHb];exact .ext _ _
 rw[<- hHb];clear hHb;obtain⟨A,hA⟩:∃ A:Nat,A=(a % (ns.length:Int)).toNat:=⟨_,rfl⟩
 have hsl:=hs.len;refine W.env fun E hE=>?_;have e2:E 2=.ptr H.next 0 0:=by rw[hE];simp only[go_sem]
 have e3:E 3=.ptr (H.next+1) 0 0:=by rw[hE];simp only[go_sem]
 have e4:E 4=.ptr (H.next+2) 0 0:=by rw[hE];simp only[go_sem]
 clear hE;refine W.seq (ag _ _ _ (by rfl) ?_);simp only[go_sem];refine W.iG (fun s'=>s'.ρ 2=.ptr H.next 0 0/\s'.ρ 3=.ptr (H.next+1) 0 0/\s'.ρ 4=.ptr (H.next+2) 0 0/\Hb.next<=s'.H.next/\(∀ id,id<H.next+3->s'.H.get id=Hb.get id)/\BZ ns A (H.next+3) ns.length s'.H (s'.ρ 5)) ?_ ?_;rotate_left
 ·rintro⟨ρ3,Hx⟩ ⟨m2,m3,m4,nx,hold,pv,rv,hO,pv1,rv1,hNA⟩;simp only at m2 m3 m4 nx hold hO hNA;obtain⟨nh,h5⟩:∃ nh,ρ3 5=nh:=⟨_,rfl⟩
  rw[h5]at hO;have l1:=ah ((hold _ (by omega)).trans b1);have nh1:=hO.one;have nhc:=hO.cells;refine W.seq (ag _ _ _ (by rfl) ?_);simp only[go_sem,m3,h5,l1,nh1,nhc];obtain⟨Hs,hHs⟩:∃ Hs,Hs=Hx.upd (H.next+1) (.arr 0 64 [.lit (.int .i64 g),nh]):=⟨_,rfl⟩
  rw[<- hHs];have sn:Hs.next=Hx.next:=by rw[hHs];rfl
  have so:∀ id,id≠H.next+1->Hs.get id=Hx.get id:=fun id h=>by rw[hHs,af,if_neg h]
  have g1:Hs.get (H.next+1)=some (.arr 0 64 [.lit (.int .i64 g),nh]):=by rw[hHs,af,if_pos rfl]
  have g2:Hs.get (H.next+2)=_:=(so _ (by omega)).trans ((hold _ (by omega)).trans b2);have s1:=ah g1;have s0:Hs.live H.next 0=_:=ah ((so _ (by omega)).trans ((hold _ (by omega)).trans b0));have s2:=ah g2;have sO:bW (H.next+3) Hs 83 3 nh ns.length (dM ns A ns.length pv rv):=hO.keep (by omega) fun id _ h _ _=>so id (by omega);have sold:∀ id,id<H.next->Hs.get id=H.get id:=fun id h=>by rw[so id (by omega),hold id (by omega)];exact ob.old id h
  refine W.env fun E hE=>?_;have t2:E 2=.ptr H.next 0 0:=by rw[hE];simp only[go_sem,m2]
  have t3:E 3=.ptr (H.next+1) 0 0:=by rw[hE];simp only[go_sem,m3]
  have t4:E 4=.ptr (H.next+2) 0 0:=by rw[hE];simp only[go_sem,m4]
  have t5:E 5=nh:=by rw[hE];simp only[go_sem,h5]
  clear hE hHs l1 hO;by_cases hn0:ns.length=0
  ·have hns:ns=[]:=List.eq_nil_of_length_eq_zero hn0;have hlen:eY Hs nh=some (.lit (.int .i64 0)):=by
    rcases sO with ⟨z1,z2,z3⟩|⟨id,gg,z1,z2,z3,z4,z5⟩
    ·rw[z1];rfl
    ·rw[z3,hn0];unfold eY;simp [ah z5]
   refine ag _ _ _ (by rfl) ?_;simp only[go_sem,t3,t4,t5,s1,s2,hlen,nh1];refine aw.bk (v':=.agg [aa g,.vec 0 []]) aF hcl (H2:=Hs.upd (H.next+2) _) ⟨by rw[aC];omega,fun id h=>by rw[af,if_neg (by omega)];exact sold id h⟩ (.agg rfl fun i hi _=>?_) ?_
   ·match i,hi with
    | 0,_=>exact .lit _
    | 1,_ =>
     have hO2:bW (H.next+3) (Hs.upd (H.next+2) (.arr 0 64 [.lit (.int .i64 g),nh])) 83 3 nh ns.length (dM ns A ns.length pv rv):=sO.keep (by rw[aC];omega) fun id _ h _ _=>by rw[af,if_neg (by omega)]
     have hl0:(dM ns A ns.length pv rv).length=0:=(by rw[MW,hn0];rfl);have:=ue (S:=fun id=>H.next<=id) (nx:=H.next) (cs':=[]) hO2 (fun i hi=>by omega) (by rw[hl0];rfl) fun i hi=>absurd hi (by omega);rw[hn0]at this;exact this
   ·have:=hK g [] [] (by rw[hns];rfl) ⟨by simp,fun x hx=>by simp at hx⟩ ⟨rfl,fun v x hx=>by simp at hx⟩ ⟨fun _=>hns.symm,by simp⟩;exact this
  have hn1:0<ns.length:=by omega
  rcases sO with ⟨_,z2,_⟩|⟨id,gg,z1,z2,z3,z4,z5⟩
  ·omega
  subst z3;have sid:=ah z5;have hn0':¬ (ns.length:Int)=0:=by omega
  refine W.seq (ag _ _ _ (by rfl) ?_);simp only[go_sem,t5,sid,hn0'];have hAlt:A<ns.length:=by
   have:=Int.emod_lt_of_pos a (show (0:Int)<ns.length by omega);have:=Int.emod_nonneg a (show (ns.length:Int)≠0 by omega);omega
  have hAe:Int.tmod a ns.length=A:=by rw[Int.tmod_eq_emod_of_nonneg ha.1];have:=Int.emod_nonneg a (show (ns.length:Int)≠0 by omega);omega
  obtain⟨x,hx,ids,hN0⟩:=hNA hAlt;have hN:NodO (H.next+3) Hs pv rv ids x:=hN0.keep (by omega) fun id h _=>so id (by omega);clear hN0 hNA;obtain⟨x1,x2,x3⟩:=hs.node x (List.mem_of_getElem? hx);have ecs:dM ns A ns.length pv rv=bB ns A (aa x.card) pv rv:=by unfold dM;rw[List.take_of_length_le (Nat.le_refl _)];exact M3 hx _ _
  obtain⟨cs0,hcs0⟩:∃ c,c=bB ns A (aa x.card) pv rv:=⟨_,rfl⟩
  rw[ecs,<- hcs0]at z4 z5 sid;have c0:=x8 (ns:=ns) hAlt (aa x.card) pv rv;have c1:=B0 (ns:=ns) hAlt (aa x.card) pv rv;have c2:=B1 (ns:=ns) hAlt (aa x.card) pv rv;have cl:=iZ ns A (aa x.card) pv rv;have cne:=M1 (ns:=ns) hAlt (aa x.card) pv rv;rw[<- hcs0]at c0 c1 c2 cl cne;have hA0:(A:Int)<ns.length:=by omega
  have wa:=IntWalk.i64_in a (by omega);have wA:=IntWalk.i64_in (A:Int) (by omega);refine W.seq (ag _ _ _ (by rfl) ?_);simp only[go_sem,t2,t5,s0,sid,hAe,hn0',hA0,wa];refine W.seq (ag _ _ _ (by rfl) ?_);simp only[go_sem];have rvl:eY Hs rv=some (aa x.rows.length):=by
   have hl:=hN.rows.len;rw[List.length_map]at hl;rcases hN.rows.top with ⟨h1,h2⟩|⟨i,g',_,_,h1,h2⟩
   ·have h3:(List.zipWith (fun i n=>AVal.own i 0 0 n 1) ids ((x.rows.map ints).map List.length)).length=0:=(by rw[h2];rfl);simp [hl]at h3;rw[h1,h3];rfl
   ·rw[h1];unfold eY;simp [ah h2,hl,aa]
  refine W.env fun E hE=>?_;have u2:E 2=.ptr H.next 0 0:=by rw[hE];simp only[go_sem,t2]
  have u3:E 3=.ptr (H.next+1) 0 0:=by rw[hE];simp only[go_sem,t3]
  have u4:E 4=.ptr (H.next+2) 0 0:=by rw[hE];simp only[go_sem,t4]
  have u5:E 5=.own id gg 0 ns.length 3:=by rw[hE];simp only[go_sem,t5]
  have u10:E 10=.ptr id gg (A*3):=by rw[hE];simp only[go_sem]
  have u11:E 11=aa (-1):=by rw[hE];simp only[go_sem]
  clear hE;refine W.iG (fun s'=>s'.H=Hs/\s'.ρ 2=.ptr H.next 0 0/\s'.ρ 3=.ptr (H.next+1) 0 0/\s'.ρ 4=.ptr (H.next+2) 0 0/\s'.ρ 10=.ptr id gg (A*3)/\∃ R:Int,s'.ρ 11=aa R/\(x.rows=[]/\R=-1\/x.rows≠[]/\0<=R/\R<x.rows.length/\R=r % (x.rows.length:Int))) ?_ ?_
  ·refine W.seq (ag _ _ _ (by rfl) ?_);by_cases hr0:x.rows=[]
   ·simp only[go_sem,u10,sid,c2,rvl,hr0];refine W.cond (t:=false) rfl ?_;refine ag _ _ _ (by rfl) ?_;simp only[go_sem];refine⟨u2,u3,u4,u10,-1,u11,?_⟩;simp [hr0]
   ·have hr1:0<x.rows.length:=List.length_pos_iff.2 hr0;have hr2:(0:Int)<x.rows.length:=(by omega);have hr3:¬ (x.rows.length:Int)=0:=(by omega);have wr:=IntWalk.i64_in r (by omega);have hRe:Int.tmod r x.rows.length=r % x.rows.length:=Int.tmod_eq_emod_of_nonneg hr.1;have hR0:=Int.emod_nonneg r hr3;have hR1:=Int.emod_lt_of_pos r hr2;have wR:=IntWalk.i64_in (r % (x.rows.length:Int)) (by omega);simp only[go_sem,u10,sid,c2,rvl,hr2];refine W.cond (t:=true) rfl ?_;refine W.draw 8 [0,1,3,0,8,24,56,120] Try.mixed (by kernel_rfl) (by kernel_rfl) ?_;simp only[go_sem,u2,u10,s0,sid,c2,rvl,hr3,wr,hRe];exact⟨u3,u4,_,rfl,.inr ⟨hr0,hR0,hR1,rfl⟩⟩
  rintro⟨ρ4,H4⟩ ⟨hH,v2,v3,v4,v10,R,v11,hR⟩;simp only at hH v2 v3 v4 v10 v11;rw[hH];clear hH;have w8:Int.tmod w 12=w % 12:=Int.tmod_eq_emod_of_nonneg hw.1;obtain⟨e,he⟩:∃ e:Nat->Prop,e=fun v=>¬ w % 12=5\/∀ x,ns[v]?=some x->x.rows=[]:=⟨_,rfl⟩
  rw[<- he]at hK;obtain⟨Φ,hΦ⟩:∃ Φ:St->Prop,∀ s',Φ s'↔(s'.ρ 3=.ptr (H.next+1) 0 0/\s'.ρ 4=.ptr (H.next+2) 0 0/\∃ (g':Int) (nv:AVal) (ns':List NodeP) (cs':List AVal),Hs.next<=s'.H.next/\(∀ i,i<H.next->s'.H.get i=H.get i)/\s'.H.get (H.next+1)=some (.arr 0 64 [.lit (.int .i64 g'),nv])/\nv.one=true/\nv.cells=[nv]/\(∃ q,s'.H.get (H.next+2)=some (.arr 0 64 q)/\q.length=2)/\(∀ H3,H3.next=s'.H.next->(∀ i,i≠H.next+2->H3.get i=s'.H.get i)->Fz (fun i=>H.next<=i) H3 H.next nv (.vec ns'.length cs'))/\SmallN (m+1) ns'/\NodesQ e ns' cs'/\(w % 12=0->ns'=ns)/\ns'.length<=ns.length+1/\(g',ns',cs')=dX (w % 12) A r n g ns):=⟨_,fun _=>Iff.rfl⟩
  refine W.iG Φ ?_ ?_;rotate_left
  ·rintro⟨ρ5,H5⟩ hq5;obtain⟨f3,f4,g',nv,ns',cs',n5,o5,p5,nv1,nvc,⟨q,q5,ql⟩,hfz,hsm,hnq,hw0,hw1,hbn⟩:=(hΦ _).1 hq5;simp only at f3 f4 n5 o5 p5 q5 hfz;have l5:=ah p5;obtain⟨q0,q1,rfl⟩:∃ q0 q1,q=[q0,q1]:=by
    match q,ql with
    | [q0,q1],_=>exact⟨q0,q1,rfl⟩
   have l6:=ah q5;refine ag _ _ _ (by rfl) ?_;simp only[go_sem,f3,f4,l5,l6,nv1];refine aw.bk (v':=.agg [aa g',.vec ns'.length cs']) aF hcl ⟨by rw[aC];omega,fun i h=>by rw[af,if_neg (by omega)];exact o5 i h⟩ (.agg rfl fun i hi _=>?_) (hK g' ns' cs' (by rw[<- hA];exact hbn) hsm hnq ⟨hw0,hw1⟩)
   match i,hi with
   | 0,_=>exact .lit _
   | 1,_=>exact hfz _ rfl fun i h=>by rw[af,if_neg h]
  refine W.seq (ag _ _ _ (by rfl) ?_);simp only[go_sem,v2,s0,w8];obtain⟨c,hc⟩:∃ c,c=w % 12:=⟨_,rfl⟩
  have hc0:0<=c/\c<12:=by omega
  rw[<- hc];refine W.env fun E hE=>?_;have u2:E 2=.ptr H.next 0 0:=by rw[hE];simp only[go_sem,v2]
  have u3:E 3=.ptr (H.next+1) 0 0:=by rw[hE];simp only[go_sem,v3]
  have u4:E 4=.ptr (H.next+2) 0 0:=by rw[hE];simp only[go_sem,v4]
  have u10:E 10=.ptr id gg (A*3):=by rw[hE];simp only[go_sem,v10]
  have u11:E 11=aa R:=by rw[hE];simp only[go_sem,v11]
  have u101:E 101=.lit (.int .u8 c):=by rw[hE];simp only[go_sem]
  clear hE v2 v3 v4 v10 v11 t2 t3 t4 t5;refine W.block ?_;clear hK;have g2':∃ q,Hs.get (H.next+2)=some (.arr 0 64 q)/\q.length=2:=⟨_,g2,rfl⟩
  have hfin:∀ (H3:AHeap) (cc:Int) (pv' rv' pw rw:AVal),H3.get id=some (.arr gg 83 (bB ns A (aa cc) pv' rv'))->Fz (fun i=>H.next<=i) H3 H.next pv' pw->Fz (fun i=>H.next<=i) H3 H.next rv' rw->Fz (fun i=>H.next<=i) H3 H.next (.own id gg 0 ns.length 3) (.vec ns.length (bB ns A (aa cc) pw rw)):=fun H3 cc pv' rv' pw rw h1 h2 h3=>by
   refine .frz (show H.next<=id by omega) h1 (iZ ..) fun j hj h2' h'=>?_;simp only[Nat.zero_add]at h2' ⊢;exact ya h2 h3 j h2' h'
  have hgone:∀ H3:AHeap,qN (fun i=>H.next<=i) (H.next+3) H3:=fun H3 i g e c h1 _ _ _=>by show H.next<=i;omega
  have hset:ns.set A x=ns:=jF hx;have hsm0:SmallN (m+1) ns:=hs.mono (Nat.le_succ m);have bN:c≠0->c≠10->c≠11->dX c A r n g ns=(g,ns.set A (dA c r n g x).1,bB ns A (aa (dA c r n g x).1.card) (ab (dA c r n g x).1.parents) (dA c r n g x).2):=fun y0 y1 y2=>by
   unfold dX;rw[hx];simp only;rw[if_neg y0,if_neg y1,if_neg y2]
    -- the nodes as they are
  have same:∀ H3:AHeap,Hs.next<=H3.next->(∀ i,H.next+3<=i->i<Hs.next->H3.get i=Hs.get i)->Fz (fun i=>H.next<=i) H3 H.next (.own id gg 0 ns.length 3) (.vec ns.length (bB ns A (aa x.card) (ab x.parents) (bc x))):=fun H3 h1 h2=>by
   have hN3:=hN.keep (H':=H3) h1 h2;refine hfin H3 _ _ _ _ _ ?_ (hN3.qO (hgone _)) (hN3.m9 (hgone _));rw[h2 id z1 z2,z5,hcs0]
  have nq0:NodesQ e ns (bB ns A (aa x.card) (ab x.parents) (bc x)):=by
   have:=ud (e:=e) (x':=x) (rv:=bc x) hAlt (.inr rfl) fun _=>rfl;rw[hset]at this;exact this
  have noch:∀ E':Env,c≠0->c≠10->c≠11->dA c r n g x=(x,bc x)->E' 3=.ptr (H.next+1) 0 0->E' 4=.ptr (H.next+2) 0 0->Φ ⟨E',Hs⟩:=fun E' y0 y1 y2 y3 h3 h4=>(hΦ _).2 ⟨h3,h4,g,.own id gg 0 ns.length 3,ns,_,Nat.le_refl _,sold,g1,rfl,rfl,g2',fun H3 h5 h6=>same H3 (by rw[h5];exact Nat.le_refl _) fun i h7 _=>h6 i (by omega),hsm0,nq0,fun _=>rfl,by omega,by rw[<- hc,bN y0 y1 y2,y3,hset]⟩;by_cases h0:c=0
  ·refine W.seq (ag _ _ _ (by rfl) ?_);simp only[go_sem,u101,h0];refine W.cond (t:=true) rfl ?_;refine ag _ _ _ (by rfl) ?_;simp only[go_sem,u2,u3,s0,s1];refine(hΦ _).2 ⟨by simp only[go_sem,u3],by simp only[go_sem,u4],n,.own id gg 0 ns.length 3,ns,_,by rw[aC];exact Nat.le_refl _,fun i h=>by rw[af,if_neg (by omega)];exact sold i h,by rw[af,if_pos rfl],rfl,rfl,?_,fun H3 h5 h6=>same H3 (by rw[h5,aC];exact Nat.le_refl _) fun i h7 _=>by rw[h6 i (by omega),af,if_neg (by omega)],hsm0,nq0,fun _=>rfl,by omega,by rw[<- hc,h0];unfold dX;rw[hx];rfl⟩;obtain⟨q,hq,ql⟩:=g2';exact⟨q,by rw[af,if_neg (by omega)];exact hq,ql⟩
    -- one node set anew
  have hset1:∀ (E':Env) (H2:AHeap) (x':NodeP) (pv' rv' rw:AVal),E' 3=.ptr (H.next+1) 0 0->E' 4=.ptr (H.next+2) 0 0->Hs.next<=H2.next->(∀ i,i<H.next+3->H2.get i=Hs.get i)->H2.get id=some (.arr gg 83 (bB ns A (aa x'.card) pv' rv')) ->
    (∀ H3:AHeap,H3.next=H2.next->(∀ i,i≠H.next+2->H3.get i=H2.get i)->Fz (fun i=>H.next<=i) H3 H.next pv' (ab x'.parents)/\Fz (fun i=>H.next<=i) H3 H.next rv' rw)->(rw=ao x'.rows\/rw=bc x')->(e A->rw=bc x')->(x'.parents.length<=m+1/\x'.rows.length<=m+1/\∀ r∈x'.rows,r≠[]/\r.length<=m+1)->c≠10->c≠11->dA c r n g x=(x',rw)->Φ ⟨E',H2⟩:=by
   intro E' H2 x' pv' rv' rw h3 h4 hn ho hid hfz hr he2 hsz y1 y2 y3;refine(hΦ _).2 ⟨h3,h4,g,.own id gg 0 ns.length 3,ns.set A x',bB ns A (aa x'.card) (ab x'.parents) rw,hn,fun i h=>by rw[ho i (by omega)];exact sold i h,(ho _ (by omega)).trans g1,rfl,rfl,?_,fun H3 h5 h6=>?_,hsm0.set hsz,ud hAlt hr he2,fun h=>absurd (hc.trans h) h0,by rw[List.length_set];omega,by rw[<- hc,bN h0 y1 y2,y3]⟩
   ·obtain⟨q,hq,ql⟩:=g2';exact⟨q,(ho _ (by omega)).trans hq,ql⟩
   ·obtain⟨f1,f2⟩:=hfz H3 h5 h6;have:=hfin H3 x'.card pv' rv' _ _ ((h6 id (by omega)).trans hid) f1 f2;rw[List.length_set];exact this
  have par3:∀ H3:AHeap,Hs.next<=H3.next->(∀ i g2 e2 c2,H.next+3<=i->i<Hs.next->Hs.get i=some (.arr g2 e2 c2)->e2≠83->H3.get i=Hs.get i)->Fz (fun i=>H.next<=i) H3 H.next pv (ab x.parents)/\Fz (fun i=>H.next<=i) H3 H.next rv (bc x):=fun H3 h1 h2=>by
   have hN3:=hN.keepE (H':=H3) h1 h2;exact⟨hN3.qO (hgone _),hN3.m9 (hgone _)⟩
  have xsz:x.parents.length<=m+1/\x.rows.length<=m+1/\∀ r∈x.rows,r≠[]/\r.length<=m+1:=⟨by omega,by omega,fun r hr=>⟨(x3 r hr).1,by have:=(x3 r hr).2;omega⟩⟩
  have nid:∀ {i g2 e2 c2},Hs.get i=some (.arr g2 e2 c2)->e2≠83->i≠id:=fun h1 h2 h3=>by
   rw[h3,z5]at h1;cases h1;exact h2 rfl
  have pne:∀ i g2 e2 c2,Hs.get i=some (.arr g2 e2 c2)->e2≠3->∀ g n,pv≠.own i g 0 n 1:=fun i g2 e2 c2 h1 h2 g n hv=>by
   rcases hN.par with ⟨h3,_⟩|⟨i3,g3,_,_,h3,h4⟩
   ·rw[h3]at hv;cases hv
   ·rw[h3]at hv;obtain rfl:=(AVal.own.inj hv).1;rw[h4]at h1;cases h1;exact h2 rfl
  have plo:∀ i,i<H.next+3->∀ g n,pv≠.own i g 0 n 1:=fun i h g n hv=>by
   rcases hN.par with ⟨h3,_⟩|⟨i3,g3,h1,_,h3,h4⟩
   ·rw[h3]at hv;cases hv
   ·rw[h3]at hv;have:=(AVal.own.inj hv).1;omega
  refine W.seq (ag _ _ _ (by rfl) ?_);simp only[go_sem,u101,h0];refine W.cond (t:=false) rfl ?_;by_cases h1:c=1
  ·refine W.seq (ag _ _ _ (by rfl) ?_);simp only[go_sem,u101,h1];refine W.cond (t:=true) rfl ?_;refine ag _ _ _ (by rfl) ?_;have c1l:A*3+1<=cs0.length:=(by omega);have e1:setAt cs0 (A*3) [.lit (.int .i64 n)]=bB ns A (aa n) pv rv:=(by rw[dW (by omega),hcs0,M0];rfl);simp only[go_sem,u2,u10,s0,sid,c1l,e1];refine hset1 _ _ { x with card:=n } pv rv (bc x) (by simp only[go_sem,u3]) (by simp only[go_sem,u4]) (by rw[aC];exact Nat.le_refl _) (fun i h=>by rw[af,if_neg (by omega)]) (by rw[af,if_pos rfl];rfl) (fun H3 h5 h6=>?_) (.inr rfl) (fun _=>rfl) xsz (by omega) (by omega) (by rw[h1];rfl);exact par3 H3 (by rw[h5,aC];exact Nat.le_refl _) fun i g2 e2 c2 h1 _ h3 h4=>by rw[h6 i (by omega),af,if_neg (nid h3 h4)]
  refine W.seq (ag _ _ _ (by rfl) ?_);simp only[go_sem,u101,h1];refine W.cond (t:=false) rfl ?_;by_cases h2:c=2
  ·refine W.seq (ag _ _ _ (by rfl) ?_);simp only[go_sem,u101,h2];refine W.cond (t:=true) rfl ?_;obtain⟨pv2,H2,hA2,oP,n2,hp2⟩:=gf (P:=Try.prog) (H:=Hs) (t:=59) (x:=aa n) (n:=Hs.next+1) Try.underlying59 Try.dh Try.dG rfl (by rw[Try.dU,aT];omega) hN.par (by omega) rfl;simp only[aa]at hA2;have kid:H2.get id=_:=(hp2 _ (by omega) (pne _ _ _ _ z5 (by decide))).trans z5;have lid:=ah kid;have c1l:A*3+2<=cs0.length:=(by omega);have e1:setAt cs0 (A*3+1) [pv2]=bB ns A (aa x.card) pv2 rv:=(by rw[dW (by omega),hcs0,B2]);have pv21:=oP.one;have pv2c:=oP.cells;have fin2:∀ E':Env,E' 3=.ptr (H.next+1) 0 0->E' 4=.ptr (H.next+2) 0 0->Φ ⟨E',H2.upd id (.arr gg 83 (bB ns A (aa x.card) pv2 rv))⟩:=fun E' h3 h4=>by
    refine hset1 _ _ { x with parents:=x.parents++[n] } pv2 rv (bc x) h3 h4 (by rw[aC];omega) (fun i h=>by rw[af,if_neg (by omega)];exact hp2 i (by omega) (plo i h)) (by rw[af,if_pos rfl]) (fun H3 h5 h6=>?_) (.inr rfl) (fun _=>rfl) ⟨by simp;omega,xsz.2.1,xsz.2.2⟩ (by omega) (by omega) (by rw[h2];rfl);have k3:∀ i g2 e2 c2,H.next+3<=i->H2.get i=some (.arr g2 e2 c2)->e2≠83->H3.get i=H2.get i:=fun i g2 e2 c2 h1 h3 h4=>by
     rw[h6 i (by omega),af,if_neg];rintro rfl;rw[kid]at h3;cases h3;exact h4 rfl
    have oP3:aB (H.next+3) H3 3 pv2 (ints (x.parents++[n])):=by
     have:=oP.keep (H':=H3) (Nat.le_refl _) (by rw[h5,aC];exact Nat.le_refl _) fun i g h1 _ h3 _=>k3 i g _ _ h1 h3 (by decide);simpa [ints] using this
    have rM:=hN.rows.x7 (H':=H3) (by rw[h5,aC];omega) fun i g2 e2 c2 h1 h2 h3 h4=>by
     have h7:H2.get i=Hs.get i:=hp2 i h2 fun g n hv=>by
      rcases h4 with h4|h4
      ·exact pne _ _ _ _ h3 (by rw[h4];decide) _ _ hv
      ·exact hN.dj _ _ _ hv h4
     refine(k3 i g2 e2 c2 h1 (h7.trans h3) ?_).trans h7;rcases h4 with h4|h4
     ·rw[h4];decide
     ·have:=hN.rows.elem h4;rw[h3]at this;obtain⟨_,this⟩:=this;cases this;decide
    have hN3:NodO (H.next+3) H3 (.lit (.slice none 0 0)) rv ids { x with parents:=[] }:=⟨.nil,rM,fun _ _ _ h=>(by cases h),hN.nil⟩
    exact⟨oP3.dw fun i h=>by omega,hN3.m9 (hgone _)⟩
   refine W.draw 9 [0,0,2,6,14,0,32,96,254] Try.mixed (by kernel_rfl) (by kernel_rfl) ?_;rcases hN.par with ⟨hv,_⟩|⟨i3,g3,_,_,hv,h4⟩
   ·subst hv;simp only[go_sem,u2,u10,s0,sid,c1,c1l,e1,hA2,lid,pv21,pv2c];exact⟨⟨fun _ h=>by omega,fun _ h=>by omega,fun _ h=>by omega⟩,fin2 _ (by simp only[go_sem,u3]) (by simp only[go_sem,u4])⟩
   ·rw[aT]at hv;subst hv;simp only[go_sem,u2,u10,s0,sid,c1,c1l,e1,hA2,lid,pv21,pv2c];exact⟨⟨fun _ h=>by omega,fun _ h=>by omega,fun _ h=>by omega⟩,fin2 _ (by simp only[go_sem,u3]) (by simp only[go_sem,u4])⟩
  refine W.seq (ag _ _ _ (by rfl) ?_);simp only[go_sem,u101,h2];refine W.cond (t:=false) rfl ?_;by_cases h3:c=3
  ·refine W.seq (ag _ _ _ (by rfl) ?_);simp only[go_sem,u101,h3];refine W.cond (t:=true) rfl ?_;refine ag _ _ _ (by rfl) ?_;have c1l:A*3+2<=cs0.length:=(by omega);have e1:setAt cs0 (A*3+1) [.lit (.slice none 0 0)]=bB ns A (aa x.card) (.lit (.slice none 0 0)) rv:=(by rw[dW (by omega),hcs0,B2]);simp only[go_sem,u10,sid,c1l,e1];refine hset1 _ _ { x with parents:=[] } (.lit (.slice none 0 0)) rv (bc x) (by simp only[go_sem,u3]) (by simp only[go_sem,u4]) (by rw[aC];exact Nat.le_refl _) (fun i h=>by rw[af,if_neg (by omega)]) (by rw[af,if_pos rfl];rfl) (fun H3 h5 h6=>?_) (.inr rfl) (fun _=>rfl) ⟨by simp,xsz.2.1,xsz.2.2⟩ (by omega) (by omega) (by rw[h3];rfl);exact⟨.nil,(par3 H3 (by rw[h5,aC];exact Nat.le_refl _) fun i g2 e2 c2 h1 _ h3 h4=>by rw[h6 i (by omega),af,if_neg (nid h3 h4)]).2⟩
  refine W.seq (ag _ _ _ (by rfl) ?_);simp only[go_sem,u101,h3];refine W.cond (t:=false) rfl ?_;by_cases h4:c=4
  ·refine W.seq (ag _ _ _ (by rfl) ?_);simp only[go_sem,u101,h4];refine W.cond (t:=true) rfl ?_;obtain⟨rv2,H2,hA2,oM,n2,hp2⟩:=hN.rows.BY (P:=Try.prog) (n:=Hs.next+1+1) (t:=48) (r:=ints [n]) Try.underlying48 Try.jY Try.kQ Try.kP (by decide) (by rw[List.length_map];omega) (by omega) rfl;rw[aT]at hA2;simp only[ints,aa,List.map_cons,List.map_nil,List.length_cons,List.length_nil,Nat.zero_add]at hA2;have kid:H2.get id=_:=(hp2 _ (by omega) (hN.rows.ne z5 (by decide))).trans z5;have lid:=ah kid;have e1:setAt cs0 (A*3+2) [rv2]=bB ns A (aa x.card) pv rv2:=(by rw[dW (by omega),hcs0,B3]);have rv21:=oM.top.one;have rv2c:=oM.top.cells;have fin4:∀ E':Env,E' 3=.ptr (H.next+1) 0 0->E' 4=.ptr (H.next+2) 0 0->Φ ⟨E',H2.upd id (.arr gg 83 (bB ns A (aa x.card) pv rv2))⟩:=fun E' h3' h4'=>by
    have hne:({ x with rows:=x.rows++[[n]] }:NodeP).rows≠[]:=(by simp);refine hset1 _ _ { x with rows:=x.rows++[[n]] } pv rv2 (bc { x with rows:=x.rows++[[n]] }) h3' h4' (by rw[aC];omega) (fun i h=>by rw[af,if_neg (by omega)];exact hp2 i (by omega) (hN.rows.top.ne (by omega))) (by rw[af,if_pos rfl]) (fun H3 h5 h6=>?_) (.inr rfl) (fun _=>rfl) ⟨xsz.1,by simp;omega,fun r hr=>?_⟩ (by omega) (by omega) (by rw[h4];rfl)
    ·have k3:∀ i g2 e2 c2,H.next+3<=i->H2.get i=some (.arr g2 e2 c2)->e2≠83->H3.get i=H2.get i:=fun i g2 e2 c2 h1 h3 h4=>by
      rw[h6 i (by omega),af,if_neg];rintro rfl;rw[kid]at h3;cases h3;exact h4 rfl
     have oP3:=hN.par.keep (H':=H3) (Nat.le_refl _) (by rw[h5,aC];omega) fun i g h1 h2 h3 _=>by
      have h7:H2.get i=Hs.get i:=hp2 i h2 (hN.rows.ne h3 (by decide));exact(k3 i g _ _ h1 (h7.trans h3) (by decide)).trans h7
     have rM:OwnM (H.next+3) H3 59 3 rv2 (ids++[Hs.next]) ((x.rows++[[n]]).map ints):=by
      have:=oM.x7 (H':=H3) (by rw[h5,aC];exact Nat.le_refl _) fun i g2 e2 c2 h1 _ h3 h4=>k3 i g2 e2 c2 h1 h3 (by
       rcases h4 with h4|h4
       ·rw[h4];decide
       ·have:=oM.elem h4;rw[h3]at this;obtain⟨_,this⟩:=this;cases this;decide)
      rw[List.map_append];exact this
     have hN3:NodO (H.next+3) H3 (.lit (.slice none 0 0)) rv2 (ids++[Hs.next]) { x with parents:=[],rows:=x.rows++[[n]] }:=⟨.nil,rM,fun _ _ _ h=>(by cases h),fun h=>by simp at h⟩
     exact⟨oP3.dw fun i h=>by omega,hN3.m9 (hgone _)⟩
    ·rcases List.mem_append.1 hr with h|h
     ·exact xsz.2.2 r h
     ·obtain rfl:=List.mem_singleton.1 h;exact⟨by simp,by simp⟩
   refine W.draw 10 [0,0,2,6,14,0,32,96,224,510] Try.mixed (by kernel_rfl) (by kernel_rfl) ?_;have hl:ids.length=x.rows.length:=(by have:=hN.rows.len;rwa [List.length_map]at this);rcases hN.rows.top with ⟨hv,_⟩|⟨i3,g3,_,_,hv,h4⟩
   ·subst hv;simp only[go_sem,u2,u10,s0,sid,c2,hA2,lid,rv21,rv2c,e1];exact⟨⟨fun _ h=>by omega,fun _ h=>by omega,fun _ h=>by omega⟩,⟨fun _ h=>by omega,fun _ h=>by omega,fun _ h=>by omega⟩,by omega,fin4 _ (by simp only[go_sem,u3]) (by simp only[go_sem,u4])⟩
   ·subst hv;simp only[go_sem,u2,u10,s0,sid,c2,hA2,lid,rv21,rv2c,e1];exact⟨⟨fun _ h=>by omega,fun _ h=>by omega,fun _ h=>by omega⟩,⟨fun _ h=>by omega,fun _ h=>by omega,fun _ h=>by omega⟩,by omega,fin4 _ (by simp only[go_sem,u3]) (by simp only[go_sem,u4])⟩
  refine W.seq (ag _ _ _ (by rfl) ?_);simp only[go_sem,u101,h4];refine W.cond (t:=false) rfl ?_
    -- one row of the node
  have row:R=-1/\x.rows=[]\/∃ (Rn:Nat) (q:List Int) (idt gt:Nat) (cells:List AVal) (idr:Nat),R=(Rn:Int)/\RowAt (H.next+3) Hs rv ids x.rows Rn q idt gt cells idr/\Rn=(r % (x.rows.length:Int)).toNat:=by
   rcases hR with ⟨hR2,hR⟩|⟨_,hR0,hR1,hR3⟩
   ·exact .inl ⟨hR,hR2⟩
   ·obtain⟨Rn,rfl⟩:=Int.eq_ofNat_of_zero_le hR0;obtain⟨q,hq⟩:=ay (l:=x.rows) (i:=Rn) (by omega);obtain⟨idt,gt,cells,idr,hra⟩:=OwnM.rowAt hN.rows hq;exact .inr ⟨Rn,q,idt,gt,cells,idr,rfl,hra,by omega⟩
  have pkeep:∀ H3:AHeap,Hs.next<=H3.next->(∀ i g,H.next+3<=i->i<Hs.next->Hs.get i=some (.arr g 3 (ints x.parents))->(∀ j,j∈ids->i≠j)->H3.get i=Hs.get i)->Fz (fun i=>H.next<=i) H3 H.next pv (ab x.parents):=fun H3 h1 h2=>by
   have:=hN.par.keep (H':=H3) (Nat.le_refl _) h1 fun i g h3 h4 h5 h6=>h2 i g h3 h4 h5 fun j hj he=>by
    subst he;exact hN.dj _ _ _ h6 hj
   exact this.dw fun i h=>by omega
  have rsz:∀ (Rn:Nat) (q q':List Int),x.rows[Rn]?=some q->q'≠[]->q'.length<=q.length+1->(x.parents.length<=m+1/\(x.rows.set Rn q').length<=m+1/\∀ r∈x.rows.set Rn q',r≠[]/\r.length<=m+1):=fun Rn q q' hq h1 h2=>⟨xsz.1,by rw[List.length_set];exact xsz.2.1,fun r hr=>by
   rcases List.mem_or_eq_of_mem_set hr with h|rfl
   ·exact xsz.2.2 r h
   ·have:=(x3 q (List.mem_of_getElem? hq)).2;exact⟨h1,by omega⟩⟩
  by_cases h5:c=5
  ·refine W.seq (ag _ _ _ (by rfl) ?_);simp only[go_sem,u101,h5];refine W.cond (t:=true) rfl ?_;rcases row with ⟨hR1,hRN⟩|⟨Rn,q,idt,gt,cells,idr,hR1,hra,hRn⟩
   ·refine ag _ _ _ (by rfl) ?_;simp only[go_sem,u11,hR1];exact noch _ h0 (by omega) (by omega) (qQ (by omega) hRN) (by simp only[go_sem,u3]) (by simp only[go_sem,u4])
   ·refine ag _ _ _ (by rfl) ?_;have hRl:=aG hra.q;have hrv:=hra.rv;have lt:=ah hra.top;have ltl:=hra.len;have e1:setAt cs0 (A*3+2) [.own idt gt 0 Rn 1]=bB ns A (aa x.card) pv (.own idt gt 0 Rn 1):=(by rw[dW (by omega),hcs0,B3]);simp only[go_sem,u10,u11,hR1,sid,c2,hrv,lt,e1];refine⟨by omega,by omega,?_⟩;refine hset1 _ _ { x with rows:=x.rows.take Rn } pv (.own idt gt 0 Rn 1) (ao (x.rows.take Rn)) (by simp only[go_sem,u3]) (by simp only[go_sem,u4]) (by rw[aC];exact Nat.le_refl _) (fun i h=>by rw[af,if_neg (by omega)]) (by rw[af,if_pos rfl];rfl) (fun H3 h7 h8=>?_) (.inl rfl) (fun hE=>?_) ⟨xsz.1,by simp;omega,fun r hr=>xsz.2.2 r (List.mem_of_mem_take hr)⟩ (by omega) (by omega) (by rw[h5];exact M7 hra.q hRn)
    ·have hk3:∀ i g2 e2 c2,H.next+3<=i->Hs.get i=some (.arr g2 e2 c2)->e2≠83->H3.get i=Hs.get i:=fun i g2 e2 c2 h1 h3 h4=>by rw[h8 i (by omega),af,if_neg (nid h3 h4)]
     have hM3:=hN.rows.x7 (H':=H3) (by rw[h7,aC];exact Nat.le_refl _) fun i g2 e2 c2 h1 _ h3 h4=>hk3 i g2 e2 c2 h1 h3 (by
      rcases h4 with h4|h4
      ·rw[h4];decide
      ·obtain⟨_,this⟩:=hN.rows.elem h4;rw[h3]at this;cases this;decide)
     exact⟨pkeep H3 (by rw[h7,aC];exact Nat.le_refl _) fun i g h1 _ h3 _=>hk3 i g _ _ h1 h3 (by decide),RowAt.M5 hra hM3 (fun i h=>by show H.next<=i;omega) ((hk3 idt _ _ _ hra.tlo.1 hra.top (by decide)).trans hra.top)⟩
    ·rw[he]at hE;rcases hE with hE|hE
     ·omega
     ·have:=hE x hx;rw[this]at hRl;simp at hRl
  refine W.seq (ag _ _ _ (by rfl) ?_);simp only[go_sem,u101,h5];refine W.cond (t:=false) rfl ?_
    -- a row's block turned, or its handle
  have fin6:∀ (E':Env) (H2:AHeap) (Rn:Nat) (q q':List Int) (idt gt:Nat) (cells:List AVal) (idr:Nat) (wv:AVal),RowAt (H.next+3) Hs rv ids x.rows Rn q idt gt cells idr->E' 3=.ptr (H.next+1) 0 0->E' 4=.ptr (H.next+2) 0 0->q'≠[]->q'.length<=q.length+1->5<c->c≠10->c≠11->Rn=(r % (x.rows.length:Int)).toNat->q'=iH c n g q->Hs.next<=H2.next->(∀ i,i<Hs.next->i≠idt->i≠idr->H2.get i=Hs.get i) ->
    H2.get idt=some (.arr gt 59 (cells.set Rn wv))->(∀ H3:AHeap,H3.next=H2.next->(∀ i,i≠H.next+2->H3.get i=H2.get i)->Fz (fun i=>H.next<=i) H3 H.next wv (ab q'))->Φ ⟨E',H2⟩:=by
   intro E' H2 Rn q q' idt gt cells idr wv hra h3 h4 hq1 hq2 hc5 hc10 hc11 hRn hqB hn hk ht hfz;have hRl:=aG hra.q;have d1:=hra.tlo;have d2:=hra.rlo;have hrne:x.rows.set Rn q'≠[]:=fun h=>by
    have:=congrArg List.length h;rw[List.length_set]at this;simp at this;rw[this]at hRl;simp at hRl
   have hrw:bc { x with rows:=x.rows.set Rn q' }=ao (x.rows.set Rn q'):=rf hrne;refine hset1 E' H2 { x with rows:=x.rows.set Rn q' } pv rv (ao (x.rows.set Rn q')) h3 h4 hn (fun i h=>hk i (by omega) (by omega) (by omega)) ?_ (fun H3 h7 h8=>?_) (.inl rfl) (fun _=>hrw.symm) (rsz Rn q q' hra.q hq1 hq2) hc10 hc11 (by rw[M8 hc5 hra.q hRn,hqB])
   ·rw[hk id z2 (fun h=>nid hra.top (by decide) h.symm) (fun h=>nid hra.row (by decide) h.symm),z5,hcs0]
   ·have hpk:=pkeep H3 (by rw[h7];exact hn) fun i g h1 h2 h3 h4=>by
     rw[h8 i (by omega)];refine hk i h2 (fun h=>?_) (h4 idr (List.mem_of_getElem? hra.id));rw[h,hra.top]at h3;cases h3
    refine⟨hpk,RowAt.M6 hra hN.rows (fun i h=>by show H.next<=i;omega) (by rw[h8 idt (by omega)];exact ht) (fun i hi hne=>?_) (hfz H3 h7 h8)⟩;have:=hN.rows.rng i hi;rw[h8 i (by omega)];exact hk i this.2 (fun h=>hra.nm (by rw[<- h];exact hi)) hne
  have cset:∀ {Rn:Nat} {q:List Int} {idt gt:Nat} {cells:List AVal} {idr:Nat},RowAt (H.next+3) Hs rv ids x.rows Rn q idt gt cells idr->cells.set Rn (.own idr 0 0 q.length 1)=cells:=fun hra=>jF hra.at';have fzrow:∀ {Rn:Nat} {q:List Int} {idt gt:Nat} {cells:List AVal} {idr:Nat},RowAt (H.next+3) Hs rv ids x.rows Rn q idt gt cells idr->∀ (H3:AHeap) (l:List Int),l.length=q.length->H3.get idr=some (.arr 0 3 (ints l))->Fz (fun i=>H.next<=i) H3 H.next (.own idr 0 0 q.length 1) (ab l):=fun {Rn q idt gt cells idr} hra H3 l hl hg=>by
   have:=hra.rlo;unfold ab;rw[hl];refine .frz (show H.next<=idr by omega) hg (by rw[aT,hl,Nat.mul_one]) fun j hj h2 h'=>?_;simp only[Nat.zero_add,ints,List.getElem_map];exact .lit _
  by_cases h6:c=6
  ·refine W.seq (ag _ _ _ (by rfl) ?_);simp only[go_sem,u101,h6];refine W.cond (t:=true) rfl ?_;rcases row with ⟨hR1,hRN⟩|⟨Rn,q,idt,gt,cells,idr,hR1,hra,hRn⟩
   ·refine W.seq (ag _ _ _ (by rfl) ?_);simp only[go_sem,u11,hR1];refine W.cond (t:=false) rfl ?_;refine ag _ _ _ (by rfl) ?_;simp only[go_sem];exact noch _ h0 (by omega) (by omega) (qQ (by omega) hRN) (by simp only[go_sem,u3]) (by simp only[go_sem,u4])
   ·have hRl:=aG hra.q;have hrv:=hra.rv;have lt:=ah hra.top;have lr:=ah hra.row;have ltl:=hra.len;have hat:=hra.at';have tne:=aR hat;have qe:=(x3 q (List.mem_of_getElem? hra.q)).1;have ql:0<q.length:=List.length_pos_iff.2 qe;have qli:(0:Int)<q.length:=(by omega);have qne:¬ ints q=[]:=fun h=>by have:=congrArg List.length h;rw[aT,List.length_nil]at this;omega
    refine W.seq (ag _ _ _ (by rfl) ?_);simp only[go_sem,u10,u11,hR1,sid,c2,hrv,lt,lr,hat,qli];refine⟨by omega,W.cond (t:=true) rfl ?_⟩;have e1:setAt (ints q) 0 [.lit (.int .i64 n)]=ints (q.set 0 n):=fS ql;refine W.draw 9 [0,1,3,7,0,31,63,0,128] Try.mixed (by kernel_rfl) (by kernel_rfl) ?_;simp only[go_sem,u2,u10,u11,hR1,s0,sid,c2,hrv,lt,lr,hat,qli];refine⟨by omega,by omega,fin6 _ _ Rn q (q.set 0 n) idt gt cells idr (.own idr 0 0 q.length 1) hra (by simp only[go_sem,u3]) (by simp only[go_sem,u4]) (fun h=>by have:=congrArg List.length h;rw[List.length_set,List.length_nil]at this;omega) (by rw[List.length_set];omega) (by omega) (by omega) (by omega) hRn (by rw[h6];rfl) (by rw[aC];exact Nat.le_refl _) (fun i _ _ h2=>by rw[af,if_neg h2]) (by rw[cset hra,af,if_neg hra.ne];exact hra.top) fun H3 h7 h8=>fzrow hra H3 _ (List.length_set ..) ?_⟩;rw[h8 idr (by have:=hra.rlo;omega),af,if_pos rfl];cases q with
    | nil=>exact absurd rfl qe
    | cons a t=>rfl
  refine W.seq (ag _ _ _ (by rfl) ?_);simp only[go_sem,u101,h6];refine W.cond (t:=false) rfl ?_;by_cases h7:c=7
  ·refine W.seq (ag _ _ _ (by rfl) ?_);simp only[go_sem,u101,h7];refine W.cond (t:=true) rfl ?_;rcases row with ⟨hR1,hRN⟩|⟨Rn,q,idt,gt,cells,idr,hR1,hra,hRn⟩
   ·refine W.seq (ag _ _ _ (by rfl) ?_);simp only[go_sem,u11,hR1];refine W.cond (t:=false) rfl ?_;refine ag _ _ _ (by rfl) ?_;simp only[go_sem];exact noch _ h0 (by omega) (by omega) (qQ (by omega) hRN) (by simp only[go_sem,u3]) (by simp only[go_sem,u4])
   ·have hRl:=aG hra.q;have hrv:=hra.rv;have lt:=ah hra.top;have lr:=ah hra.row;have ltl:=hra.len;have hat:=hra.at';have tne:=aR hat;refine W.seq (ag _ _ _ (by rfl) ?_);simp only[go_sem,u11,hR1];refine W.cond (t:=true) rfl ?_;have hG:aB (H.next+3) Hs 3 (.own idr 0 0 q.length 1) (ints q):=.inr ⟨idr,0,hra.rlo.1,hra.rlo.2,by rw[aT],hra.row⟩;have hq2:=(x3 q (List.mem_of_getElem? hra.q)).2;obtain⟨w2,H2,hA2,oW,n2,hp2⟩:=gf (P:=Try.prog) (H:=Hs) (t:=59) (x:=aa 0) (n:=Hs.next+1) Try.underlying59 Try.dh Try.dG rfl (by rw[Try.dU,aT];omega) hG (by omega) rfl;simp only[aa]at hA2;have k2:∀ i,i<Hs.next->i≠idr->H2.get i=Hs.get i:=fun i h1 h2=>hp2 i h1 fun g n hv=>h2 (AVal.own.inj hv).1.symm;have lt2:=ah ((k2 idt hra.tlo.2 hra.ne).trans hra.top);have w21:=oW.one;have w2c:=oW.cells;have e1:setAt cells Rn [w2]=cells.set Rn w2:=dW (by omega);refine W.draw 14 [0,1,3,7,0,0,32,96,224,0,992,2016,0,8160] Try.mixed (by kernel_rfl) (by kernel_rfl) ?_;simp only[go_sem,u10,u11,hR1,sid,c2,hrv,lt,ltl,hat,hA2,lt2,w21,w2c,e1];have dd1:=hra.tlo;have dd2:=hra.rlo;have dd3:idr≠id:=nid hra.row (by decide);refine⟨by omega,by repeat' (first|refine And.intro ?_ ?_|(intro x hx;omega)),by repeat' (first|refine And.intro ?_ ?_|(intro x hx;omega)),by omega,by omega,fin6 _ _ Rn q (q++[0]) idt gt cells idr w2 hra (by simp only[go_sem,u3]) (by simp only[go_sem,u4]) (by simp) (by simp) (by omega) (by omega) (by omega) hRn (by rw[h7];rfl) (by rw[aC];omega) (fun i h1 h2 h3=>by rw[af,if_neg h2];exact k2 i h1 h3) (by rw[af,if_pos rfl]) fun H3 h7 h8=>?_⟩;have oW3:aB (H.next+3) H3 3 w2 (ints (q++[0])):=by
     have:=oW.keep (H':=H3) (Nat.le_refl _) (by rw[h7,aC];exact Nat.le_refl _) fun i g h1 _ h3 _=>by
      rw[h8 i (by omega),af,if_neg];rintro rfl;rw[(k2 _ hra.tlo.2 hra.ne).trans hra.top]at h3;cases h3
     simpa [ints] using this
    exact oW3.dw fun i h=>by omega
  refine W.seq (ag _ _ _ (by rfl) ?_);simp only[go_sem,u101,h7];refine W.cond (t:=false) rfl ?_;by_cases h8:c=8
  ·refine W.seq (ag _ _ _ (by rfl) ?_);simp only[go_sem,u101,h8];refine W.cond (t:=true) rfl ?_;rcases row with ⟨hR1,hRN⟩|⟨Rn,q,idt,gt,cells,idr,hR1,hra,hRn⟩
   ·refine W.seq (ag _ _ _ (by rfl) ?_);simp only[go_sem,u11,hR1];refine W.cond (t:=false) rfl ?_;refine ag _ _ _ (by rfl) ?_;simp only[go_sem];exact noch _ h0 (by omega) (by omega) (qQ (by omega) hRN) (by simp only[go_sem,u3]) (by simp only[go_sem,u4])
   ·have hRl:=aG hra.q;have hrv:=hra.rv;have lt:=ah hra.top;have lr:=ah hra.row;have ltl:=hra.len;have hat:=hra.at';have tne:=aR hat;have qe:=(x3 q (List.mem_of_getElem? hra.q)).1;have ql:0<q.length:=List.length_pos_iff.2 qe;have qli:(0:Int)<q.length:=(by omega);refine W.seq (ag _ _ _ (by rfl) ?_);simp only[go_sem,u10,u11,hR1,sid,c2,hrv,lt,lr,hat,qli];refine⟨by omega,W.cond (t:=true) rfl ?_⟩;refine W.seq ?_;refine W.draw 14 [0,1,3,7,0,0,32,96,224,0,992,2016,4064,8160] Try.mixed (by kernel_rfl) (by kernel_rfl) ?_;have dd1:=hra.tlo;have dd2:=hra.rlo;have dd3:idr≠id:=nid hra.row (by decide);have dd4:idt≠id:=nid hra.top (by decide);have hq2:=(x3 q (List.mem_of_getElem? hra.q)).2;have lte:∀ L,(ext Hs L).live idt gt=_:=fun L=>(dS (by omega)).trans lt;have side:∀ L,(ext Hs L).live id gg=_:=fun L=>(dS (by omega)).trans sid;have e1:setAt cells Rn [.own Hs.next 0 0 q.length 1]=cells.set Rn (.own Hs.next 0 0 q.length 1):=dW (by omega);simp only[go_sem,u10,u11,hR1,sid,c2,hrv,lt,lr,ltl,hat,lte,e1];obtain⟨H2,hH2⟩:∃ H2,H2=(ext Hs [.arr 0 3 (List.replicate q.length (.lit (.int .i64 0)))]).upd idt (.arr gt 59 (cells.set Rn (.own Hs.next 0 0 q.length 1))):=⟨_,rfl⟩
    rw[<- hH2];have n2:H2.next=Hs.next+1:=(by rw[hH2];rfl);have k2:∀ i,i<Hs.next->i≠idt->H2.get i=Hs.get i:=fun i h1 h2=>by rw[hH2,af,if_neg h2];exact c9 _ _ _ h1
    have t2:H2.get idt=some (.arr gt 59 (cells.set Rn (.own Hs.next 0 0 q.length 1))):=(by rw[hH2,af,if_pos rfl]);have r2:H2.get Hs.next=some (.arr 0 3 (List.replicate q.length (.lit (.int .i64 0)))):=(by rw[hH2,af,if_neg (by omega)];exact br ..);clear hH2;have lt2:=ah t2;have lr2:=ah r2;have lid2:=ah ((k2 id z2 (fun h=>dd4 h.symm)).trans z5);have l12:=ah ((k2 (H.next+1) (by omega) (by omega)).trans g1);have at2:(cells.set Rn (.own Hs.next 0 0 q.length 1))[Rn]?=some (.own Hs.next 0 0 q.length 1):=List.getElem?_set_self (by omega);have tne2:=aR at2;have len2:(cells.set Rn (.own Hs.next 0 0 q.length 1)).length=x.rows.length:=(by rw[List.length_set];exact ltl);have rne:¬ List.replicate q.length (AVal.lit (.int .i64 0))=[]:=fun h=>by have:=congrArg List.length h;rw[List.length_replicate,List.length_nil]at this;omega
    refine⟨by omega,by omega,by repeat' (first|refine And.intro ?_ ?_|(intro x hx;omega)),by omega,by omega,?_⟩;refine W.draw 9 [0,1,3,7,0,31,63,0,128] Try.mixed (by kernel_rfl) (by kernel_rfl) ?_;simp only[go_sem,u3,u10,u11,hR1,lid2,l12,c2,hrv,lt2,lr2,at2,qli];refine⟨by omega,by rw[List.length_replicate];omega,fin6 _ _ Rn q (g :: List.replicate (q.length - 1) 0) idt gt cells idr (.own Hs.next 0 0 q.length 1) hra (by simp only[go_sem,u3]) (by simp only[go_sem,u4]) (by simp) (by rw[List.length_cons,List.length_replicate];omega) (by omega) (by omega) (by omega) hRn (by rw[h8];rfl) (by rw[aC];omega) (fun i h1 h2 _=>by rw[af,if_neg (by omega)];exact k2 i h1 h2) (by rw[af,if_neg (by omega)];exact t2) fun H3 h7 h8=>?_⟩;obtain⟨ml,hml⟩:∃ ml,q.length=ml+1:=⟨q.length - 1,by omega⟩
    have hgr:H3.get Hs.next=some (.arr 0 3 (ints (g :: List.replicate ml 0))):=by
     rw[h8 Hs.next (by omega),af,if_pos rfl,hml];simp [List.replicate_succ,ints,aa]
    unfold ab;rw[hml,Nat.add_sub_cancel,show (g :: List.replicate ml (0:Int)).length=ml+1 by simp];refine .frz (show H.next<=Hs.next by omega) hgr (by rw[aT];simp) fun j hj h2 h'=>?_;simp only[Nat.zero_add,ints,List.getElem_map];exact .lit _
  refine W.seq (ag _ _ _ (by rfl) ?_);simp only[go_sem,u101,h8];refine W.cond (t:=false) rfl ?_;by_cases h9:c=9
  ·refine W.seq (ag _ _ _ (by rfl) ?_);simp only[go_sem,u101,h9];refine W.cond (t:=true) rfl ?_;rcases row with ⟨hR1,hRN⟩|⟨Rn,q,idt,gt,cells,idr,hR1,hra,hRn⟩
   ·refine W.seq (ag _ _ _ (by rfl) ?_);simp only[go_sem,u11,hR1];refine W.cond (t:=false) rfl ?_;refine ag _ _ _ (by rfl) ?_;simp only[go_sem];exact noch _ h0 (by omega) (by omega) (qQ (by omega) hRN) (by simp only[go_sem,u3]) (by simp only[go_sem,u4])
   ·have hRl:=aG hra.q;have hrv:=hra.rv;have lt:=ah hra.top;have lr:=ah hra.row;have ltl:=hra.len;have hat:=hra.at';have tne:=aR hat;have hq2:=(x3 q (List.mem_of_getElem? hra.q)).2;have w1:=IntWalk.i64_in ((q.length:Int) - 1) (by omega);refine W.seq (ag _ _ _ (by rfl) ?_);simp only[go_sem,u11,hR1];refine W.cond (t:=true) rfl ?_;refine W.seq ?_;refine W.draw 10 [0,1,3,7,0,31,63,127,255,0] Try.mixed (by kernel_rfl) (by kernel_rfl) ?_;simp only[go_sem,u10,u11,hR1,sid,c2,hrv,lt,lr,hat,w1];have qe:=(x3 q (List.mem_of_getElem? hra.q)).1;have ql:0<q.length:=List.length_pos_iff.2 qe;refine⟨by omega,W.block ?_⟩;refine W.env fun E1 hE1=>?_;have y3:E1 3=.ptr (H.next+1) 0 0:=(by rw[hE1];simp only[go_sem,u3]);have y4:E1 4=.ptr (H.next+2) 0 0:=(by rw[hE1];simp only[go_sem,u4]);have y10:E1 10=.ptr id gg (A*3):=(by rw[hE1];simp only[go_sem,u10]);have y11:E1 11=aa (Rn:Int):=(by rw[hE1];simp only[go_sem,u11,hR1]);have y12:E1 12=aa 0:=(by rw[hE1];simp only[go_sem]);have y13:E1 13=aa ((q.length:Int) - 1):=(by rw[hE1];simp only[go_sem]);clear hE1;refine W.aK 2085924839766484109564043631985174802744541411009508283535333416154492349816150761370611118080 (by kernel_rfl) (fun ρ Hy=>∃ (i k:Int) (l:List Int) (fu:Nat),ρ 12=aa i/\ρ 13=aa k/\0<=i/\k<q.length/\i<=q.length/\-1<=k/\l.length=q.length/\Hy.next=Hs.next/\(∀ j,j≠idr->Hy.get j=Hs.get j)/\Hy.get idr=some (.arr 0 3 (ints l))/\i9 fu i k l=i9 (q.length+1) 0 ((q.length:Int) - 1) q/\k - i<fu) (fun ρ H=>(iv (ρ 13) - iv (ρ 12)+1).toNat) ?_ ?_
    ·simp only[go_sem,y12,y13];exact⟨0,_,q,q.length+1,rfl,rfl,by omega,by omega,by omega,by omega,rfl,hra.row,rfl,by omega⟩
    rintro ρ5 Hy ⟨i,k,l,fu,h12,h13,i0,k0,i1,k1,hl,ny,yo,yr,hrev,hfu⟩;refine W.env fun E2 hE2=>?_;have a3:E2 3=.ptr (H.next+1) 0 0:=(by rw[hE2];simp only[go_sem,y3]);have a4:E2 4=.ptr (H.next+2) 0 0:=(by rw[hE2];simp only[go_sem,y4]);have a10:E2 10=.ptr id gg (A*3):=(by rw[hE2];simp only[go_sem,y10]);have a11:E2 11=aa (Rn:Int):=(by rw[hE2];simp only[go_sem,y11]);have a12:E2 12=aa i:=(by rw[hE2];simp only[go_sem,h12]);have a13:E2 13=aa k:=(by rw[hE2];simp only[go_sem,h13]);clear hE2;have dd1:=hra.tlo;have dd2:=hra.rlo;have dd3:id≠idr:=fun h=>nid hra.row (by decide) h.symm;have lidy:=ah ((yo id dd3).trans z5);have lty:=ah ((yo idt hra.ne).trans hra.top);have lry:=ah yr;by_cases hik:i<k;rotate_left
    ·refine ag _ _ _ (by rfl) ?_;simp only[go_sem,a12,a13,hik];refine fin6 _ _ Rn q l idt gt cells idr (.own idr 0 0 q.length 1) hra (by simp only[go_sem,a3]) (by simp only[go_sem,a4]) (fun h=>by rw[h]at hl;simp at hl;omega) (by omega) (by omega) (by omega) (by omega) hRn (by rw[h9,show iH 9 n g q=i9 (q.length+1) 0 ((q.length:Int) - 1) q from rfl,<- hrev,Na hik]) (by omega) (fun j _ _ h2=>yo j h2) (by rw[cset hra,yo idt hra.ne];exact hra.top) fun H3 h7 h8=>fzrow hra H3 l hl (by rw[h8 idr (by omega)];exact yr)
    obtain⟨iN,rfl⟩:=Int.eq_ofNat_of_zero_le i0;obtain⟨kN,rfl⟩:=Int.eq_ofNat_of_zero_le (show 0<=k by omega);obtain⟨qa,hqa⟩:=ay (l:=l) (i:=iN) (by omega);obtain⟨qb,hqb⟩:=ay (l:=l) (i:=kN) (by omega);have ia:(ints l)[iN]?=some (aa qa):=(by rw[g9,hqa];rfl);have ib:(ints l)[kN]?=some (aa qb):=(by rw[g9,hqb];rfl);have lne:=aR ia;have ill:(ints l).length=q.length:=(by rw[aT];exact hl);have b1':(iN:Int)<q.length:=(by omega);have b2':(kN:Int)<q.length:=(by omega);refine W.seq (ag _ _ _ (by rfl) ?_);simp only[go_sem,a12,a13,hik];refine W.seq (W.block ?_);refine W.seq (ag _ _ _ (by rfl) ?_);simp only[go_sem,a10,a11,a12,lidy,c2,hrv,lty,hat,lry,ia,b1'];refine⟨by omega,?_⟩;refine W.seq ?_;refine W.draw 18 [0,1,3,7,0,31,63,0,0,256,768,1792,0,7936,16128,0,65280,130816] Try.mixed (by kernel_rfl) (by kernel_rfl) ?_;have eA:setAt (ints l) iN [.lit (.int .i64 qb)]=ints (l.set iN qb):=fS (by omega);simp only[go_sem,a10,a11,a12,a13,lidy,c2,hrv,lty,hat,lry,ib,ill,b1',b2',eA];refine⟨by omega,by omega,by omega,?_⟩;obtain⟨Hz,hHz⟩:∃ Hz,Hz=Hy.upd idr (.arr 0 3 (ints (l.set iN qb))):=⟨_,rfl⟩
    rw[<- hHz];have nz:Hz.next=Hs.next:=(by rw[hHz,aC];exact ny);have zo:∀ j,j≠idr->Hz.get j=Hs.get j:=fun j h=>by rw[hHz,af,if_neg h];exact yo j h
    have zr:Hz.get idr=some (.arr 0 3 (ints (l.set iN qb))):=(by rw[hHz,af,if_pos rfl]);clear hHz;have lidz:=ah ((zo id dd3).trans z5);have ltz:=ah ((zo idt hra.ne).trans hra.top);have lrz:=ah zr;have zll:(ints (l.set iN qb)).length=q.length:=(by rw[aT,List.length_set];exact hl);have zne:¬ ints (l.set iN qb)=[]:=fun h=>by have:=congrArg List.length h;rw[zll,List.length_nil]at this;omega
    have eB:setAt (ints (l.set iN qb)) kN [.lit (.int .i64 qa)]=ints ((l.set iN qb).set kN qa):=fS (by rw[List.length_set];omega);have wk:=IntWalk.i64_in ((kN:Int) - 1) (by omega);have wi:=IntWalk.i64_in ((iN:Int)+1) (by omega);refine ag _ _ _ (by rfl) ?_;simp only[go_sem,a10,a11,a13,lidz,c2,hrv,ltz,hat,lrz,zll,b2',eB,wk];refine⟨by omega,by omega,?_⟩;refine ag _ _ _ (by rfl) ?_;simp only[go_sem,a12,a13,wi];obtain⟨fv,rfl⟩:∃ fv,fu=fv+1:=⟨fu - 1,by omega⟩
    refine⟨by rw[aC];omega,⟨(iN:Int)+1,(kN:Int) - 1,(l.set iN qb).set kN qa,fv,rfl,rfl,by omega,by omega,by omega,by omega,by rw[List.length_set,List.length_set];exact hl,by rw[aC];exact nz,fun j h=>by rw[af,if_neg h];exact zo j h,by rw[af,if_pos rfl],by rw[<- hrev,Nb hik hqa hqb],by omega⟩,by rw[h12,h13];simp only[aa,aU];omega⟩
  refine W.seq (ag _ _ _ (by rfl) ?_);simp only[go_sem,u101,h9];refine W.cond (t:=false) rfl ?_;by_cases h10:c=10
  ·refine W.seq (ag _ _ _ (by rfl) ?_);simp only[go_sem,u101,h10];refine W.cond (t:=true) rfl ?_;obtain⟨He,hHe⟩:∃ He,He=ext Hs [.arr 0 3 [.lit (.int .i64 g)],.arr 0 59 [.own Hs.next 0 0 1 1]]:=⟨_,rfl⟩
   have ne':He.next=Hs.next+2:=(by rw[hHe];rfl);have oe:Over Hs He:=(by rw[hHe];exact .ext _ _);have zO:bW (H.next+3) He 83 3 (.own id gg 0 ns.length 3) ns.length cs0:=.inr ⟨id,gg,z1,by omega,rfl,z4,(oe.old id z2).trans z5⟩;obtain⟨nh2,H2,hA2,oZ,n2,hp2⟩:=mA (P:=Try.prog) (H:=He) (t:=35) (xs:=[.lit (.int .i64 1),.lit (.slice none 0 0),.own (Hs.next+1) 0 0 1 1]) (m:=Hs.next+3) Try.underlying35 Try.qU Try.qY rfl rfl (by rw[Try.qX];omega) zO (by omega) (by omega);have l12:=ah ((hp2 (H.next+1) (by omega) fun g' n hv=>by have:=(AVal.own.inj hv).1;omega).trans ((oe.old _ (by omega)).trans g1));have kk:∀ i,i<He.next->i≠id->H2.get i=He.get i:=fun i h1 h2=>hp2 i h1 fun g' n hv=>h2 (AVal.own.inj hv).1.symm;have r1:He.get Hs.next=some (.arr 0 3 [.lit (.int .i64 g)]):=(by rw[hHe];exact bu Hs _ 0 (by simp));have r2:He.get (Hs.next+1)=some (.arr 0 59 [.own Hs.next 0 0 1 1]):=(by rw[hHe];exact bu Hs _ 1 (by simp));have nh1':=oZ.one;have nhc':=oZ.cells;rw[ne',hHe,fa]at hA2;simp only[List.cons_append,List.nil_append]at hA2;refine ag _ _ _ (by rfl) ?_;simp only[go_sem,u3,s1,hA2,l12,nh1',nhc'];refine(hΦ _).2 ⟨by simp only[go_sem,u3],by simp only[go_sem,u4],g,nh2,ns++[⟨1,[],[[g]]⟩],bB ns A (aa x.card) (ab x.parents) (bc x)++[aa 1,ab [],bc ⟨1,[],[[g]]⟩],by rw[aC];omega,fun i h=>by rw[af,if_neg (by omega),kk i (by omega) (by omega),oe.old i (by omega)];exact sold i h,by rw[af,if_pos rfl],nh1',nhc',?_,fun H3 h5 h6=>?_,⟨by have:=hs.len;simp;omega,fun y hy=>?_⟩,nq0.snoc (x:=⟨1,[],[[g]]⟩) (.inr rfl) fun _=>rfl,fun h=>absurd (hc.trans h) h0,by simp,by rw[<- hc,h10];unfold dX;rw[hx];rfl⟩
   ·obtain⟨q,hq,ql⟩:=g2';exact⟨q,by rw[af,if_neg (by omega),kk _ (by omega) (by omega),oe.old _ (by omega)];exact hq,ql⟩
   ·have hk3:∀ i,H.next+3<=i->H3.get i=H2.get i:=fun i h=>by rw[h6 i (by omega),af,if_neg (by omega)]
    have n3:H3.next=H2.next:=(by rw[h5,aC]);have oZ3:=oZ.keep (H':=H3) (by omega) fun i g h1 _ _=>hk3 i h1;have hN3:NodO (H.next+3) H3 pv rv ids x:=hN.keepE (by omega) fun i g2 e2 c2 h1 h2 h3 h4=>by rw[hk3 i h1,kk i (by omega) (nid h3 h4),oe.old i h2]
    have hl1:(ns++[(⟨1,[],[[g]]⟩:NodeP)]).length=ns.length+1:=(by simp);rw[hl1];refine ue oZ3 (fun i h=>by show H.next<=i;omega) (by rw[hcs0];simp [iZ]) fun i hi hi'=>?_;have e1:=List.getElem?_eq_getElem hi;have e2:=List.getElem?_eq_getElem hi';generalize (cs0++[AVal.lit (.int .i64 1),.lit (.slice none 0 0),.own (Hs.next+1) 0 0 1 1])[i]=u at e1 ⊢;generalize (bB ns A (aa x.card) (ab x.parents) (bc x)++[aa 1,ab [],bc ⟨1,[],[[g]]⟩])[i]=u' at e2 ⊢;rw[hcs0]at e1;by_cases hi3:i<ns.length*3
    ·rw[List.getElem?_append_left (by rw[iZ];exact hi3)]at e1 e2;have:=ya (S:=fun i=>H.next<=i) (H:=H3) (nx:=H.next) (ns:=ns) (A:=A) (c:=x.card) (hN3.qO (hgone _)) (hN3.m9 (hgone _)) i (by rw[iZ];exact hi3) (by rw[iZ];exact hi3);rw[List.getElem?_eq_getElem (by rw[iZ];exact hi3)]at e1 e2;rw[Option.some.inj e1,Option.some.inj e2]at this;exact this
    ·rw[List.getElem?_append_right (by rw[iZ];omega),iZ]at e1 e2;have hil:i<ns.length*3+3:=(by rw[List.length_append,hcs0,iZ]at hi;simpa using hi);have h3:i - ns.length*3=0\/i - ns.length*3=1\/i - ns.length*3=2:=(by omega);rcases h3 with h|h|h<;>rw[h]at e1 e2<;>cases e1<;>cases e2
     ·exact .lit _
     ·exact .nil
     ·have hr1:H3.get (Hs.next+1)=_:=(hk3 _ (by omega)).trans ((kk _ (by omega) (by omega)).trans r2);have hr0:H3.get Hs.next=_:=(hk3 _ (by omega)).trans ((kk _ (by omega) (by omega)).trans r1);show Fz _ _ _ _ (ao [[g]]);refine .frz (show H.next<=Hs.next+1 by omega) hr1 rfl fun j hj h2 h'=>?_;obtain rfl:j=0:=(by omega);refine .frz (show H.next<=Hs.next by omega) hr0 rfl fun j hj h2 h'=>?_;obtain rfl:j=0:=(by omega);exact .lit _
   ·rcases List.mem_append.1 hy with hy|hy
    ·exact hsm0.node y hy
    ·obtain rfl:=List.mem_singleton.1 hy;exact⟨by simp,by simp,fun r hr=>by simp at hr;subst hr;exact⟨by simp,by simp⟩⟩
  refine W.seq (ag _ _ _ (by rfl) ?_);simp only[go_sem,u101,h10];refine W.cond (t:=false) rfl ?_;refine ag _ _ _ (by rfl) ?_;have wn:=IntWalk.i64_in ((ns.length:Int) - 1) (by omega);simp only[go_sem,u3,s1,sid,wn];refine⟨by omega,(hΦ _).2 ⟨by simp only[go_sem,u3],by simp only[go_sem,u4],g,_,ns.take (ns.length - 1),(bB ns A (aa x.card) (ab x.parents) (bc x)).take ((ns.length - 1)*3),by rw[aC];exact Nat.le_refl _,fun i h=>by rw[af,if_neg (by omega)];exact sold i h,by rw[af,if_pos rfl],rfl,rfl,?_,fun H3 h5 h6=>?_,hsm0.take _,nq0.take _,fun h=>absurd (hc.trans h) h0,by rw[List.length_take];omega,by rw[<- hc,show c=11 by omega];unfold dX;rw[hx];rfl⟩⟩
  ·obtain⟨q,hq,ql⟩:=g2';exact⟨q,by rw[af,if_neg (by omega)];exact hq,ql⟩
  ·have hk3:∀ i,H.next+3<=i->H3.get i=Hs.get i:=fun i h=>by rw[h6 i (by omega),af,if_neg (by omega)]
   have hN3:NodO (H.next+3) H3 pv rv ids x:=hN.keep (by rw[h5,aC];exact Nat.le_refl _) fun i h1 _=>hk3 i h1;have e1:((ns.length:Int) - 1).toNat=ns.length - 1:=(by omega);have e2:(ns.take (ns.length - 1)).length=ns.length - 1:=(by rw[List.length_take];omega);rw[e1,e2];refine .frz (show H.next<=id by omega) ((hk3 id z1).trans z5) (by rw[List.length_take,iZ];omega) fun j hj h2 h'=>?_;have e0:0+j=j:=Nat.zero_add j;simp only[e0,hcs0,List.getElem_take];exact ya (hN3.qO (hgone _)) (hN3.m9 (hgone _)) j _ _
 refine W.seq (ag _ _ _ (by rfl) ?_);simp only[go_sem];refine W.block ?_;refine W.env fun E1 hE1=>?_;have a2:E1 2=.ptr H.next 0 0:=by rw[hE1];simp only[go_sem,e2]
 have a3:E1 3=.ptr (H.next+1) 0 0:=by rw[hE1];simp only[go_sem,e3]
 have a4:E1 4=.ptr (H.next+2) 0 0:=by rw[hE1];simp only[go_sem,e4]
 have a5:E1 5=.lit (.slice none 0 0):=by rw[hE1];simp only[go_sem]
 have a6:E1 6=aa 0:=by rw[hE1];simp only[go_sem]
 clear hE1;refine W.aK 1180591620717411271648 (by rfl) (fun ρ Hx=>∃ (k:Nat),ρ 6=aa k/\k<=ns.length/\Hb.next<=Hx.next/\(∀ id,id<H.next+3->Hx.get id=Hb.get id)/\BZ ns A (H.next+3) k Hx (ρ 5)) (fun ρ H=>ns.length - (iv (ρ 6)).toNat) ?_ ?_
 ·simp only[go_sem,a5,a6];refine⟨0,rfl,by omega,.lit (.slice none 0 0),.lit (.slice none 0 0),?_,rfl,rfl,fun h=>absurd h (Nat.not_lt_zero _)⟩;have:dM ns A 0 (.lit (.slice none 0 0)) (.lit (.slice none 0 0))=[]:=rfl;rw[this];exact .nil
 rintro ρ Hx ⟨k,h6,hk,nx,hold,hC⟩;obtain⟨nh,h5⟩:∃ nh,ρ 5=nh:=⟨_,rfl⟩
 rw[h5]at hC;refine W.env fun E2 hE2=>?_;have c2:E2 2=.ptr H.next 0 0:=by rw[hE2];simp only[go_sem,a2]
 have c3:E2 3=.ptr (H.next+1) 0 0:=by rw[hE2];simp only[go_sem,a3]
 have c4:E2 4=.ptr (H.next+2) 0 0:=by rw[hE2];simp only[go_sem,a4]
 have c5:E2 5=nh:=by rw[hE2];simp only[go_sem,h5]
 have c6:E2 6=aa k:=by rw[hE2];simp only[go_sem,h6]
 clear hE2;have l1:=ah ((hold _ (by omega)).trans b1);by_cases hb:(k:Int)<ns.length;rotate_left
 ·have hke:k=ns.length:=by omega
  rw[hke]at hC;refine ag _ _ _ (by rfl) ?_;simp only[go_sem,c2,c3,c4,c5,c6,l1,hb];exact⟨nx,hold,hC⟩
 obtain⟨x,hx⟩:=ay (l:=ns) (i:=k) (by omega);have q0:=iI hx;have q1:=jx hx;have q2:=oY hx;have qn:=dH hx;obtain⟨x1,x2,x3⟩:=hs.node x (List.mem_of_getElem? hx);refine W.seq (ag _ _ _ (by rfl) ?_);simp only[go_sem,c3,c6,l1,hb];obtain⟨pv,rv,hO,pv1,rv1,hNA⟩:=hC;refine W.seq ?_;refine W.kv (Q':=fun e s2=>e=.normal/\s2.ρ 6=aa k/\Hx.next<=s2.H.next/\(∀ id,id<H.next+3->s2.H.get id=Hb.get id)/\(∀ i g e c,i<Hx.next->Hx.get i=some (.arr g e c)->e≠83->s2.H.get i=Hx.get i)/\∃ pk rk ids,bW (H.next+3) s2.H 83 3 (s2.ρ 5) (k+1) (dM ns A k pv rv++[aa x.card,pk,rk])/\NodO (Hx.next+1) s2.H pk rk ids x) ?_ ?_;rotate_left
 ·rintro e s2 ⟨rfl,a6',nx2,old2,kp2,pk,rk,ids,oZ,nodK⟩;have w1:=IntWalk.i64_in ((k:Int)+1) (by omega);by_cases hkA:k=A
  ·refine⟨s2,.same,Nat.le_refl _,trivial,?_⟩;simp only[go_sem];refine ag _ _ _ (by rfl) ?_;simp only[go_sem,a6',w1];refine⟨by omega,⟨k+1,rfl,by omega,by omega,old2,pk,rk,?_,nodK.par.one,(uc nodK.rows).1,fun _=>⟨x,by rw[<- hkA];exact hx,ids,nodK.low (by omega)⟩⟩,by rw[h6];simp only[aa,aU];omega⟩;rw[<- hkA]at oZ ⊢;rw[MX hx]at oZ;exact oZ
  ·rcases oZ with ⟨_,h0,_⟩|⟨id,gg,z1,z2,z3,z4,z5⟩
   ·omega
   have ec:=MY hx hkA pv rv;have hgone:qN (fun i=>Hx.next<=i/\i≠id) (Hx.next+1) s2.H:=fun i g e c h1 h2 h3 h4=>⟨by omega,fun he=>by
    subst he;rw[z5]at h3;cases h3;exact h4 rfl⟩
   refine⟨⟨s2.ρ,s2.H.gm Hx.next id (.arr gg 83 (dM ns A (k+1) pv rv))⟩,cK.gm aF z5 (by rw[ec];simp) (fun hbel i hi hi'=>?_),Nat.le_refl _,trivial,?_⟩
   ·have e1:=List.getElem?_eq_getElem hi;have e2:=List.getElem?_eq_getElem hi';have hm:=hbel _ (List.getElem_mem hi);generalize (dM ns A k pv rv++[aa x.card,pk,rk])[i]=u at e1 hm ⊢;generalize (dM ns A (k+1) pv rv)[i]=u' at e2 ⊢;rw[ec]at e2;by_cases hip:i<(dM ns A k pv rv).length
    ·rw[List.getElem?_append_left hip]at e1 e2;rw[e1]at e2;cases e2;exact .dead hm
    ·rw[List.getElem?_append_right (by omega)]at e1 e2;have h3:i - (dM ns A k pv rv).length=0\/i - (dM ns A k pv rv).length=1\/i - (dM ns A k pv rv).length=2:=by
      rw[List.length_append]at hi;simp at hi;omega
     rcases h3 with h|h|h<;>rw[h]at e1 e2<;>cases e1<;>cases e2
     ·exact .lit _
     ·exact nodK.qO hgone
     ·exact nodK.m9 hgone
   ·simp only[go_sem];refine ag _ _ _ (by rfl) ?_;simp only[go_sem,a6',w1];have hmn:(s2.H.gm Hx.next id (.arr gg 83 (dM ns A (k+1) pv rv))).next=s2.H.next:=rfl;refine⟨by rw[hmn];omega,⟨k+1,rfl,by omega,by rw[hmn];omega,fun i hi=>?_,pv,rv,.inr ⟨id,gg,z1,by rw[hmn];exact z2,z3,by rw[ec];simpa using z4,xZ⟩,pv1,rv1,fun hlt=>?_⟩,by rw[h6];simp only[aa,aU];omega⟩
    ·rw[x6 (by omega) (by omega)];exact old2 i hi
    ·obtain⟨y,hy,ids',hNy⟩:=hNA (by omega);refine⟨y,hy,ids',hNy.keepE (by rw[hmn];omega) fun i g e c h1 h2 h3 h4=>?_⟩;rw[x6 h2 (fun he=>by
      subst he;rw[kp2 i g e c h2 h3 h4,h3]at z5;cases z5;exact h4 rfl)]
     exact kp2 i g e c h2 h3 h4
 refine W.block ?_;refine W.seq (ag _ _ _ (by rfl) ?_);simp only[go_sem,c3,c6,l1,hb,q0,qn];obtain⟨Hp,hHp⟩:∃ Hp,Hp=ext Hx [.arr 0 83 [.lit (.int .i64 x.card),.lit (.slice none 0 0),.lit (.slice none 0 0)]]:=⟨_,rfl⟩
 have np:Hp.next=Hx.next+1:=by rw[hHp];rfl
 have op:Over Hx Hp:=by rw[hHp];exact .ext _ _
 have gP:Hp.get Hx.next=some (.arr 0 83 [.lit (.int .i64 x.card),.lit (.slice none 0 0),.lit (.slice none 0 0)]):=by rw[hHp];exact bY
 rw[<- hHp];clear hHp;refine W.env fun E3 hE3=>?_;have d2:E3 2=.ptr H.next 0 0:=by rw[hE3];simp only[go_sem,c2]
 have d3:E3 3=.ptr (H.next+1) 0 0:=by rw[hE3];simp only[go_sem,c3]
 have d5:E3 5=nh:=by rw[hE3];simp only[go_sem,c5]
 have d6:E3 6=aa k:=by rw[hE3];simp only[go_sem,c6]
 have d7:E3 7=.ptr Hx.next 0 0:=by rw[hE3];simp only[go_sem]
 clear hE3;have lP:=ah gP;have l1p:Hp.live (H.next+1) 0=_:=(op.live (by omega)).trans l1;refine W.seq ?_;refine W.draw 8 [0,1,0,4,0,28,60,124] Try.mixed (by kernel_rfl) (by kernel_rfl) ?_;simp only[go_sem,d3,d6,d7,lP,l1p,hb,q1,qn];obtain⟨pk,H2,hA2,oP,n2,hp2⟩:=mS (P:=Try.prog) (H:=Hp) (t:=59) (n:=Hp.next) (lo:=Hp.next) (src:=ints x.parents) Try.underlying59 Try.dh Try.dG (gZ _) (by rw[Try.dU,aT,List.length_nil];omega) .nil (Nat.le_refl _) rfl;rw[List.nil_append]at oP;rw[aT]at hA2;have o2:Over Hp H2:=⟨n2,fun id h=>hp2 id h fun g m=>by simp⟩
 have lP2:H2.live Hx.next 0=_:=(o2.live (by omega)).trans lP;have pk1:=oP.one;have pkc:=oP.cells;simp only[go_sem,d7,hA2,lP2,pk1,pkc];obtain⟨H3,hH3⟩:∃ H3,H3=H2.upd Hx.next (.arr 0 83 [.lit (.int .i64 x.card),pk,.lit (.slice none 0 0)]):=⟨_,rfl⟩
 have n3:H3.next=H2.next:=by rw[hH3];rfl
 have h3o:∀ id,id<Hx.next->H3.get id=Hx.get id:=fun id h=>by rw[hH3,af,if_neg (by omega),o2.old id (by omega),op.old id h]
 have h3P:H3.get Hx.next=some (.arr 0 83 [.lit (.int .i64 x.card),pk,.lit (.slice none 0 0)]):=by rw[hH3,af,if_pos rfl]
 have h3N:NodO (Hx.next+1) H3 pk (.lit (.slice none 0 0)) [] ⟨x.card,x.parents,x.rows.take 0⟩:=⟨oP.keep (by omega) (by omega) fun id g h1 _ _ _=>by rw[hH3,af,if_neg (by omega)],.nil,fun _ _ _ _=>by simp,fun _=>rfl⟩
 rw[<- hH3];clear hH3 hA2 lP2 o2 hp2 oP;refine W.env fun E4 hE4=>?_;have f2:E4 2=.ptr H.next 0 0:=by rw[hE4];simp only[go_sem,d2]
 have f3:E4 3=.ptr (H.next+1) 0 0:=by rw[hE4];simp only[go_sem,d3]
 have f5:E4 5=nh:=by rw[hE4];simp only[go_sem,d5]
 have f6:E4 6=aa k:=by rw[hE4];simp only[go_sem,d6]
 have f7:E4 7=.ptr Hx.next 0 0:=by rw[hE4];simp only[go_sem,d7]
 clear hE4;refine W.iG (fun s'=>s'.ρ 5=nh/\s'.ρ 6=aa k/\s'.ρ 7=.ptr Hx.next 0 0/\Hx.next<s'.H.next/\(∀ id,id<Hx.next->s'.H.get id=Hx.get id)/\∃ rk ids,s'.H.get Hx.next=some (.arr 0 83 [.lit (.int .i64 x.card),pk,rk])/\NodO (Hx.next+1) s'.H pk rk ids x) ?_ ?_
 ·refine W.seq (ag _ _ _ (by rfl) ?_);simp only[go_sem];refine W.block ?_;refine W.env fun E5 hE5=>?_;have g3:E5 3=.ptr (H.next+1) 0 0:=by rw[hE5];simp only[go_sem,f3]
  have g5:E5 5=nh:=by rw[hE5];simp only[go_sem,f5]
  have g6:E5 6=aa k:=by rw[hE5];simp only[go_sem,f6]
  have g7:E5 7=.ptr Hx.next 0 0:=by rw[hE5];simp only[go_sem,f7]
  have g8:E5 8=aa 0:=by rw[hE5];simp only[go_sem]
  clear hE5;refine W.aK 73786975745082393344 (by rfl) (fun ρ2 Hy=>∃ (i:Nat) (rk:AVal) (ids:List Nat),ρ2 8=aa i/\i<=x.rows.length/\H3.next<=Hy.next/\(∀ id,id<Hx.next->Hy.get id=Hx.get id)/\Hy.get Hx.next=some (.arr 0 83 [.lit (.int .i64 x.card),pk,rk])/\NodO (Hx.next+1) Hy pk rk ids ⟨x.card,x.parents,x.rows.take i⟩) (fun ρ H=>x.rows.length - (iv (ρ 8)).toNat) ?_ ?_
  ·simp only[go_sem,g8];exact⟨0,_,[],rfl,by omega,h3o,h3P,h3N⟩
  rintro ρ2 Hy ⟨i,rk,ids,h8,hi,ny,yo,yP,yN⟩;have l1y:=ah ((yo _ (by omega)).trans ((hold _ (by omega)).trans b1));have lPy:=ah yP;refine W.env fun E6 hE6=>?_;have k3:E6 3=.ptr (H.next+1) 0 0:=by rw[hE6];simp only[go_sem,g3]
  have k5:E6 5=nh:=by rw[hE6];simp only[go_sem,g5]
  have k6:E6 6=aa k:=by rw[hE6];simp only[go_sem,g6]
  have k7:E6 7=.ptr Hx.next 0 0:=by rw[hE6];simp only[go_sem,g7]
  have k8:E6 8=aa i:=by rw[hE6];simp only[go_sem,h8]
  clear hE6;by_cases hbi:(i:Int)<x.rows.length;rotate_left
  ·refine ag _ _ _ (by rfl) ?_;simp only[go_sem,k3,k5,k6,k7,k8,l1y,hb,q2,qn,ao,hbi];rw[List.take_of_length_le (by omega)]at yN;exact⟨by omega,yo,rk,ids,yP,yN⟩
  obtain⟨q,hq⟩:=ay (l:=x.rows) (i:=i) (by omega);obtain⟨qe,ql⟩:=x3 q (List.mem_of_getElem? hq);have ql0:0<q.length:=List.length_pos_iff.2 qe;have hqi:(x.rows.map ab)[i]?=some (ab q):=by rw[List.getElem?_map,hq];rfl
  have hqn:=aR hq;refine W.seq (ag _ _ _ (by rfl) ?_);simp only[go_sem,k3,k6,k8,l1y,hb,q2,qn,ao,hbi];refine W.seq (W.block ?_);refine W.seq (ag _ _ _ (by rfl) ?_);simp only[go_sem];have yN1:x.rows.take (i+1)=x.rows.take i++[q]:=aP hq;have hA1:=MU (P:=Try.prog) (H:=Hy) (t:=59) (n:=Hy.next) (src:=ints q) Try.underlying59 Try.dh Try.dG (by rw[aT];exact ql0) (by rw[Try.dU,aT];omega) rfl;obtain⟨rk',Hz,hA3,oM,nz,pz⟩:=yN.rows.BY (P:=Try.prog) (n:=Hy.next+1+1) (t:=48) (r:=ints q) Try.underlying48 Try.jY Try.kQ Try.kP (by decide) (by rw[List.length_map,List.length_take];omega) (by omega) rfl;rw[aT]at hA1 hA3;have lPe:∀ L,(ext Hy L).live Hx.next 0=_:=fun L=>(dS (by omega)).trans lPy;have l1e:∀ L,(ext Hy L).live (H.next+1) 0=_:=fun L=>(dS (by omega)).trans l1y;obtain⟨rv1,rvc⟩:=uc oM;have lPz:Hz.live Hx.next 0=_:=ah ((pz Hx.next (by omega) (yN.rows.ne yP (by decide))).trans yP);refine W.draw 14 [0,1,0,0,8,0,56,120,248,0,1016,2040,4092,8188] Try.mixed (by kernel_rfl) (by kernel_rfl) ?_;simp only[go_sem,k3,k6,k7,k8,l1y,lPy,hb,q2,qn,ao,hbi,hqi,hqn,hA1,hA3,lPz,rv1,rvc];refine⟨⟨fun _ h=>by omega,fun _ h=>by omega⟩,⟨fun _ h=>by omega,fun _ h=>by omega⟩,?_⟩;have w1:=IntWalk.i64_in ((i:Int)+1) (by omega);have zo:∀ id g e c,id<Hy.next->Hy.get id=some (.arr g e c)->e≠59->Hz.get id=Hy.get id:=fun id g e c h h2 h3=>pz id h (yN.rows.ne h2 h3);refine ag _ _ _ (by rfl) ?_;simp only[go_sem,k8,w1];refine⟨by rw[aC];omega,⟨i+1,rk',ids++[Hy.next],rfl,by omega,by rw[aC];omega,fun id h=>?_,by rw[af,if_pos rfl],?_⟩,by rw[h8];simp only[aa,aU];omega⟩
  ·rw[af,if_neg (by omega),pz id (by omega) (yN.rows.top.ne (by omega))];exact yo id h
  ·rw[yN1];have oM':OwnM (Hx.next+1) (Hz.upd Hx.next (.arr 0 83 [.lit (.int .i64 x.card),pk,rk'])) 59 3 rk' (ids++[Hy.next]) ((x.rows.take i++[q]).map ints):=by
    rw[List.map_append];exact oM.keep (by rw[aC];exact Nat.le_refl _) fun id h1 _=>by rw[af,if_neg (by omega)]
   refine⟨yN.par.keep (Nat.le_refl _) (by rw[aC];omega) fun id g h1 h2 h3 _=>by rw[af,if_neg (by omega)];exact zo id _ _ _ h2 h3 (by decide),oM',fun id g m hp hm=>?_,fun e=>absurd e (by simp)⟩;rcases List.mem_append.1 hm with hm|hm
   ·exact yN.dj id g m hp hm
   ·obtain rfl:=List.mem_singleton.1 hm;rcases yN.par with ⟨h1,_⟩|⟨i2,g2,_,h2,h1,_⟩
    ·rw[h1]at hp;cases hp
    ·rw[h1]at hp;have:=(AVal.own.inj hp).1;omega
 rintro⟨ρn,Hn⟩ ⟨m5,m6,m7,nN,oN,rk,ids,gN,nodN⟩;simp only at m5 m6 m7 nN oN gN nodN;have lN:=ah gN;have rk1:=(uc nodN.rows).1;have rkc:=(uc nodN.rows).2;have hOn:=hO.keep (H':=Hn) (by omega) fun id g _ h _=>oN id h;obtain⟨nh',H5,hA5,oZ,n5,p5⟩:=mA (P:=Try.prog) (H:=Hn) (t:=35) (xs:=[.lit (.int .i64 x.card),pk,rk]) (m:=Hn.next+1) Try.underlying35 Try.qU Try.qY (by simp only[List.all_cons,List.all_nil,pk1,rk1];rfl) rfl (by rw[Try.qX];omega) hOn (by omega) rfl;have nhe:∀ id g e c,Hn.get id=some (.arr g e c)->e≠83->∀ g m,nh≠.own id g 0 m 3:=fun id g e c h1 h2 g' m hv=>by
  rcases hOn with ⟨h,_⟩|⟨i2,g2,_,_,h,_,h4⟩
  ·rw[h]at hv;cases hv
  ·rw[h]at hv;obtain rfl:=(AVal.own.inj hv).1;rw[h4]at h1;cases h1;exact h2 rfl
 have nh1:=oZ.one;have nhc:=oZ.cells;refine ag _ _ _ (by rfl) ?_;simp only[go_sem,m5,m6,m7,lN,hA5];have keepE:∀ id g e c,id<Hn.next->Hn.get id=some (.arr g e c)->e≠83->H5.get id=Hn.get id:=fun id g e c h1 h2 h3=>p5 id h1 (nhe id g e c h2 h3);refine⟨by omega,fun id h=>?_,fun i g e c h1 h2 h3=>by rw[keepE i g e c (by omega) ((oN i h1).trans h2) h3,oN i h1],pk,rk,ids,oZ,nodN.keepE n5 fun id g e c _ h1 h2 h3=>keepE id g e c h1 h2 h3⟩
 ·rw[p5 id (by omega) (hOn.ne h),oN id (by omega)];exact hold id h
end Go.Proofs
namespace Go.Hx
variable {P:Program} {G:Nat->Option (List AVal)}
def AHeap.fA (H:AHeap)(n ob:Nat)(b:Blk):AHeap:=⟨fun id=>if n<=id then none else if id=ob then some b else H.get id,H.next⟩
theorem CP {H:AHeap}{n ob:Nat}{b:Blk}(h:ob<n):(H.fA n ob b).get ob=some b:=by simp [AHeap.fA,Nat.not_le.2 h]
theorem CQ {H:AHeap}{n ob id:Nat}{b:Blk}(h:id<n)(h2:id≠ob):(H.fA n ob b).get id=H.get id:=by simp [AHeap.fA,Nat.not_le.2 h,h2]
theorem PN {H:AHeap}(hc:Clo H){n ob g:Nat}{e:TypeId}{cells cells':List AVal}(hob:H.get ob=some (.arr g e cells))(hlt:ob<n)(hl:cells'.length=cells.length)
  (hcell:∀ i (h:i<cells.length) (h':i<cells'.length),Fz (fun id=>n<=id) H H.next cells[i] cells'[i]):FzH (fun id=>n<=id) H (H.fA n ob (.arr g e cells')) where
 gone id hs:=by simp [AHeap.fA,hs]
 kept id b hs hb:=by
  have hbb:=hc.below id b hb;refine⟨hc.lt id b hb,?_⟩;by_cases h:id=ob
  ·subst h;rw[hob]at hb;cases hb;exact⟨.arr g e cells',by simp [AHeap.fA,hs],rfl,rfl,hl,hcell⟩
  ·refine⟨b,by simp [AHeap.fA,hs,h,hb],?_⟩;cases b with
   | rsv=>trivial
   | mp=>rfl
   | arr g e cells=>exact⟨rfl,rfl,rfl,fun i h _=>.dead (hbb i h)⟩
   | loop st pend n env ps asg body=>exact⟨rfl,rfl,rfl,rfl,rfl,rfl,rfl,fun t ht=>.dead (hbb t ht)⟩
 none id hs hb:=by
  by_cases h:id=ob
  ·subst h;rw[hob]at hb;cases hb
  ·simp [AHeap.fA,hs,h,hb]
theorem cK.fA (hG:eo G){s:St}{n ob g:Nat}{e:TypeId}{cells cells':List AVal}(hob:s.H.get ob=some (.arr g e cells))(hlt:ob<n)(hl:cells'.length=cells.length)
  (hcell:∀ i (h:i<cells.length) (h':i<cells'.length),Fz (fun id=>n<=id) s.H s.H.next cells[i] cells'[i]):cK P G s ⟨s.ρ,s.H.fA n ob (.arr g e cells')⟩:=by
 intro n' wb Γ a w hs;exact cK.freeze (s:=s) (s':=⟨s.ρ,s.H.fA n ob (.arr g e cells')⟩) hG (PN hs.heap.clo hob hlt hl hcell) (fun t=>.dead (hs.env t).mR) n' wb Γ a w hs
theorem ep.upd {lo:Nat}{H:AHeap}{e1 e0:TypeId}{v:AVal}{rows:List (List AVal)}(h:ep lo H e1 e0 v rows){k:Nat}{b:Blk}(hk:k<lo):ep lo (H.upd k b) e1 e0 v rows:=by
 obtain⟨cs,c1,c2,c3⟩:=h;refine⟨cs,c1.keep (Nat.le_refl _) (by rw[aC];exact Nat.le_refl _) fun id _ h1 _ _ _=>by rw[af,if_neg (by omega)],c2,fun j r c hr hc=>(c3 j r c hr hc).keep (Nat.le_refl _) (by rw[aC];exact Nat.le_refl _) fun id _ h1 _ _ _=>by rw[af,if_neg (by omega)]⟩
end Go.Hx
namespace Go.Proofs
open Go.Hx
def kY (ns:List NodeP)(acc q:Int):Int:=if 0<=q/\q<ns.length/\acc<=1024 then acc*max 1 (min ((aq ns).getD q.toNat 0) 4) else acc
def gQ (ns:List NodeP)(ps:List Int):Int:=ps.foldl (kY ns) 1
def ik (d:InfP)(v:Nat)(x:NodeP):NodeP:=if d.decs.testBit v=true/\x.rows=[]/\1<=x.card/\x.card<=4 then { x with rows:=List.replicate (gQ d.nodes x.parents).toNat (bw d.grain x.card 0) } else x
def cU (d:InfP):List NodeP:=d.nodes.zipIdx.map fun p=>ik d p.2 p.1
theorem ja (d:InfP):(cU d).length=d.nodes.length:=by simp [cU]
theorem pj {d:InfP}{v:Nat}{x:NodeP}(h:d.nodes[v]?=some x):(cU d)[v]?=some (ik d v x):=by
 unfold cU;rw[List.getElem?_map,List.getElem?_zipIdx,h];simp
theorem PO {ns:List NodeP}{a q:Int}(h:1<=a/\a<=4096):1<=kY ns a q/\kY ns a q<=4096:=by
 unfold kY;split
 ·rename_i hc;generalize hm:max 1 (min ((aq ns).getD q.toNat 0) 4)=m;have h1:1<=m/\m<=4:=by omega
  have h2:a*1<=a*m:=Int.mul_le_mul_of_nonneg_left h1.1 (by omega);have h3:a*m<=1024*4:=Int.mul_le_mul hc.2.2 h1.2 (by omega) (by omega);omega
 ·exact h
theorem yx (ns:List NodeP)(ps:List Int):1<=gQ ns ps/\gQ ns ps<=4096:=by
 have:∀ (l:List Int) (a:Int),1<=a/\a<=4096->1<=l.foldl (kY ns) a/\l.foldl (kY ns) a<=4096:=by
  intro l
  induction l with
  | nil=>exact fun a h=>h
  | cons q l ih=>exact fun a h=>ih _ (PO h)
 exact this ps 1 (by omega)
theorem CR (ns:List NodeP)(l:List Int)(q:Int):gQ ns (l++[q])=kY ns (gQ ns l) q:=by unfold gQ;rw[List.foldl_append];rfl
theorem CS {ns:List NodeP}{x:NodeP}(hin:fT x.parents ns.length)(hc:∀ y∈ns,1<=y.card/\y.card<=4)(hp:au (aQ ns x)<=1024):gQ ns x.parents=au (aQ ns x):=by
 have key:∀ k,k<=x.parents.length->gQ ns (x.parents.take k)=au ((aQ ns x).take k):=by
  intro k
  induction k with
  | zero=>intro _;rfl
  | succ k ih =>
   intro hk;obtain⟨q,hq⟩:=ay (l:=x.parents) (i:=k) (by omega);have hqr:=hin q (List.mem_of_getElem? hq);have hcq:(aQ ns x)[k]?=some ((aq ns).getD q.toNat 0):=(by unfold aQ aL;rw[List.getElem?_map,hq];rfl);rw[aP hq,aP hcq,CR,eC,ih (by omega)];have hm:=mv hin hc _ (List.mem_of_getElem? hcq);have hle:au ((aQ ns x).take k)<=1024:=by
    have h1:au ((aQ ns x).take k)*au ((aQ ns x).drop k)=au (aQ ns x):=(by rw[<- yc,List.take_append_drop]);have h2:=fg (l:=(aQ ns x).take k) fun c h=>(mv hin hc c (List.mem_of_mem_take h)).1;have h3:=fg (l:=(aQ ns x).drop k) fun c h=>(mv hin hc c (List.mem_of_mem_drop h)).1;have h4:au ((aQ ns x).take k)*1<=au ((aQ ns x).take k)*au ((aQ ns x).drop k):=Int.mul_le_mul_of_nonneg_left h3 (by omega);omega
   unfold kY;rw[if_pos ⟨hqr.1,hqr.2,hle⟩];congr 1;omega
 have:=key x.parents.length (Nat.le_refl _);rw[List.take_of_length_le (Nat.le_refl _),List.take_of_length_le (by rw[show (aQ ns x).length=_ from fU _ _];exact Nat.le_refl _)]at this;exact this
set_option maxHeartbeats 4000000 in
theorem CT (d:InfP)(cs:List AVal)(hnq:NodesQ (fun v=>d.decs.testBit v=true) d.nodes cs)(hf:InfFit d)(H:AHeap)(K:ARes->AHeap->Prop)(hK:Clo H->∀ (nh:AVal) (ks:List AVal) (H':AHeap),Over H H'->bW H.next H' 83 3 nh d.nodes.length ks->NodesQ (fun _=>False) (cU d) ks->aw Try.prog G0 H K (.agg [.lit (.int .i64 d.grain),nh]) H'):ae Try.prog G0 54 [fC d cs] H K:=by
 refine ae.clo ⟨_,Try.func54,rfl,rfl⟩ fun hcl=>?_;have hl:=hf.nodes.1;refine ae.aS (n:=106) (rs:=[.cell 2 64]) Try.func54 rfl rfl rfl (by decide) (by kernel_rfl) (by simp) ?_;simp only[go_sem,jb,il];obtain⟨Hb,hHb⟩:∃ Hb,Hb=ext H [.arr 0 39 [.lit (.int .i64 d.grain),.vec d.nodes.length cs,.lit (.int .u64 (d.decs:Int)),.vec d.utils.length (aO d.utils)],.arr 0 64 [.lit (.int .i64 0),.lit (.slice none 0 0)],.arr 0 64 [.lit (.int .i64 d.grain),.lit (.slice none 0 0)]]:=⟨_,rfl⟩
 rw[<- hHb];have g0:Hb.get H.next=some (.arr 0 39 [.lit (.int .i64 d.grain),.vec d.nodes.length cs,.lit (.int .u64 (d.decs:Int)),.vec d.utils.length (aO d.utils)]):=by rw[hHb];exact br ..
 have g1:Hb.get (H.next+1)=some (.arr 0 64 [.lit (.int .i64 0),.lit (.slice none 0 0)]):=by rw[hHb];exact bu H _ 1 (by simp)
 have g2:Hb.get (H.next+2)=some (.arr 0 64 [.lit (.int .i64 d.grain),.lit (.slice none 0 0)]):=by rw[hHb];exact bu H _ 2 (by simp)
 have nb:Hb.next=H.next+3:=by rw[hHb];rfl
 have ob:Over H Hb:=by rw[hHb];exact .ext _ _
 clear hHb;refine W.aK 40564819207303340847894502557680 (by rfl) (fun ρ Hx=>∃ (k:Nat) (nh:AVal) (ks:List AVal),ρ 4=aa k/\k<=d.nodes.length/\Hb.next<=Hx.next/\(∀ id,id<H.next+2->Hx.get id=Hb.get id)/\Hx.get (H.next+2)=some (.arr 0 64 [.lit (.int .i64 d.grain),nh])/\bW (H.next+3) Hx 83 3 nh k ks/\NodesQ (fun _=>False) ((cU d).take k) ks) (fun ρ H=>d.nodes.length - (iv (ρ 4)).toNat) ?_ ?_
 ·simp only[go_sem];exact⟨0,_,[],rfl,by omega,g2,.nil,.nil⟩
 rintro ρ Hx ⟨k,nh,ks,h4,hk,hnx,hold,hbn,hO,hQ⟩;refine W.env fun E hE=>?_;have e1:E 1=.ptr H.next 0 0:=by rw[hE];simp only[go_sem]
 have e2:E 2=.ptr (H.next+1) 0 0:=by rw[hE];simp only[go_sem]
 have e3:E 3=.ptr (H.next+2) 0 0:=by rw[hE];simp only[go_sem]
 have e4:E 4=aa k:=by rw[hE];simp only[go_sem,h4]
 clear hE;refine ag _ _ _ (by rfl) ?_;have l0:=ah ((hold H.next (by omega)).trans g0);by_cases hb:(k:Int)<d.nodes.length
 ·obtain⟨x,hx⟩:=ay (l:=d.nodes) (i:=k) (by omega);obtain⟨f1,f2,f3⟩:=hf.nodes.2 x (List.mem_of_getElem? hx);have hne:=hnq.ne hx;obtain⟨rv,c0,_,hdis,hdE⟩:=hnq.part hx;have c1:k*3+3<=cs.length:=by rw[hnq.len];omega
  have w1:=IntWalk.i64_in ((k:Int)+1) (by omega);have rvo:rv.one=true:=by rcases hdis with h|h<;>rw[h]<;>first|rfl|(unfold bc;split<;>rfl)
  have rvc:rv.cells=[rv]:=by rcases hdis with h|h<;>rw[h]<;>first|rfl|(unfold bc;split<;>rfl)
  have rvl:∀ H,eY H rv=some (.lit (.int .i64 x.rows.length)):=fun H=>by
   rcases hdis with h|h<;>rw[h]
   ·rfl
   ·unfold bc;split
    ·rename_i h;rw[h];rfl
    ·rfl
  have step:∀ (Hq:AHeap) (rq:AVal) (y:NodeP),ik d k x=y->y.card=x.card->y.parents=x.parents->(rq=ao y.rows\/rq=bc y)->Hx.next<Hq.next->(∀ id,id<Hx.next->Hq.get id=Hx.get id) ->
    ∃ nh2 H3,bq Try.prog (ext Hq [.arr 0 83 [.lit (.int .i64 x.card),.vec x.parents.length (ints x.parents),rq]]) (Hq.next+1) 35 35 nh (.own Hq.next 0 0 1 3)=some (nh2,H3)/\nh2.cells=[nh2]/\nh2.one=true/\H3.live (H.next+2) 0=some (64,[.lit (.int .i64 d.grain),nh]) /\
     ∀ b,b=.arr 0 64 [.lit (.int .i64 d.grain),nh2]->Hb.next<=(H3.upd (H.next+2) b).next/\(∀ id,id<H.next+2->(H3.upd (H.next+2) b).get id=Hb.get id)/\(H3.upd (H.next+2) b).get (H.next+2)=some (.arr 0 64 [.lit (.int .i64 d.grain),nh2])/\bW (H.next+3) (H3.upd (H.next+2) b) 83 3 nh2 (k+1) (ks++[.lit (.int .i64 x.card),.vec x.parents.length (ints x.parents),rq])/\NodesQ (fun _=>False) ((cU d).take (k+1)) (ks++[.lit (.int .i64 x.card),.vec x.parents.length (ints x.parents),rq]):=by
   intro Hq rq y hy y1 y2 hrq hqn hqo;have hOq:bW (H.next+3) Hq 83 3 nh k ks:=hO.keep (by omega) fun id g _ h _=>hqo id h;have rqo:rq.one=true:=by rcases hrq with h|h<;>rw[h]<;>first|rfl|(unfold bc;split<;>rfl)
   obtain⟨nh2,H3,hA,hO3,hn3,hp3⟩:=mA (P:=Try.prog) (xs:=[.lit (.int .i64 x.card),.vec x.parents.length (ints x.parents),rq]) Try.underlying35 Try.qU Try.qY (by simp only[List.all_cons,List.all_nil,rqo];rfl) rfl (by rw[Try.qX];omega) hOq (by omega) rfl;have keep:∀ id,id<H.next+3->H3.get id=Hx.get id:=fun id h=>(hp3 id (by omega) (hOq.ne h)).trans (hqo id (by omega));refine⟨nh2,H3,hA,hO3.cells,hO3.one,ah ((keep _ (by omega)).trans hbn),fun b hb=>⟨by rw[aC];omega,fun id h=>by rw[af,if_neg (by omega),keep id (by omega)];exact hold id h,by rw[af,if_pos rfl,hb],?_⟩⟩;have e:NodesQ (fun _=>False) ((cU d).take (k+1)) (ks++[.lit (.int .i64 x.card),.vec x.parents.length (ints x.parents),rq]):=by
    rw[aP (pj hx),hy];have:=hQ.snoc (x:=y) (rv:=rq) hrq fun h=>h.elim;rw[y1,y2]at this;exact this
   refine⟨?_,e⟩;exact hO3.keep (by rw[aC];omega) fun id g h1 _ _=>by rw[af,if_neg (by omega)]
  obtain⟨Hp,hHp⟩:∃ Hp,Hp=ext Hx [.arr 0 83 [.lit (.int .i64 x.card),.vec x.parents.length (ints x.parents),rv]]:=⟨_,rfl⟩
  have np:Hp.next=Hx.next+1:=by rw[hHp];rfl
  have gP:Hp.get Hx.next=some (.arr 0 83 [.lit (.int .i64 x.card),.vec x.parents.length (ints x.parents),rv]):=by rw[hHp];exact bY
  have pold:∀ id,id<Hx.next->Hp.get id=Hx.get id:=fun id h=>by rw[hHp];exact dz h
  have m0:=ah ((pold H.next (by omega)).trans ((hold H.next (by omega)).trans g0));have m2:=ah ((pold (H.next+2) (by omega)).trans hbn);have mP:=ah gP;simp only [go_sem,e1,e4,l0,hb,hne,c0,c1,rvo];rw [← hHp];simp only [go_sem,m0,e4];refine aA.clo (uL d.decs k hf.decs _ _ ⟨trivial,?_⟩);have no : ¬ (d.decs.testBit k=true∧x.rows=[]∧1≤x.card∧x.card≤4)→∃ nh2 H3,bq Try.prog (ext Hp [.arr 0 83 [.lit (.int .i64 x.card),.vec x.parents.length (ints x.parents),rv]]) (Hp.next+1) 35 35 nh (.own Hp.next 0 0 1 3)=some (nh2,H3)∧nh2.cells=[nh2]∧nh2.one=true∧H3.live (H.next+2) 0=some (64,[.lit (.int .i64 d.grain),nh]) ∧
     ∀ b,b=.arr 0 64 [.lit (.int .i64 d.grain),nh2]->Hb.next<=(H3.upd (H.next+2) b).next/\(∀ id,id<H.next+2->(H3.upd (H.next+2) b).get id=Hb.get id)/\(H3.upd (H.next+2) b).get (H.next+2)=some (.arr 0 64 [.lit (.int .i64 d.grain),nh2])/\bW (H.next+3) (H3.upd (H.next+2) b) 83 3 nh2 (k+1) (ks++[.lit (.int .i64 x.card),.vec x.parents.length (ints x.parents),rv])/\NodesQ (fun _=>False) ((cU d).take (k+1)) (ks++[.lit (.int .i64 x.card),.vec x.parents.length (ints x.parents),rv]):=fun h =>
   step Hp rv x (if_neg h) rfl rfl hdis (by omega) pold
  cases hbit:d.decs.testBit k
  ·obtain⟨nh2,H3,hA,nc,no1,ln,st⟩:=no fun h=>by rw[hbit]at h;cases h.1
   simp only[go_sem,e3,e4,m2,mP,hA,nc,no1,ln,w1];exact⟨(st _ rfl).1,⟨k+1,nh2,_,rfl,by omega,(st _ rfl).1,(st _ rfl).2.1,(st _ rfl).2.2.1,(st _ rfl).2.2.2.1,(st _ rfl).2.2.2.2⟩,by rw[h4];simp only[aa,aU];omega⟩
  by_cases hr0:x.rows=[]
  rotate_left
  ·obtain⟨nh2,H3,hA,nc,no1,ln,st⟩:=no fun h=>hr0 h.2.1;have hr0':¬ (x.rows.length:Int)=0:=fun h=>hr0 (List.eq_nil_of_length_eq_zero (by omega));simp only[go_sem,e3,e4,m2,mP,rvl,hr0',hA,nc,no1,ln,w1];exact⟨(st _ rfl).1,⟨k+1,nh2,_,rfl,by omega,(st _ rfl).1,(st _ rfl).2.1,(st _ rfl).2.2.1,(st _ rfl).2.2.2.1,(st _ rfl).2.2.2.2⟩,by rw[h4];simp only[aa,aU];omega⟩
  have hrn:rv=.lit (.slice none 0 0):=(hdE hbit).trans (if_pos hr0);by_cases hc1:x.card >= 1;rotate_left
  ·obtain⟨nh2,H3,hA,nc,no1,ln,st⟩:=no fun h=>hc1 h.2.2.1;rw[hrn]at mP hA;simp only[go_sem,e3,e4,m2,mP,hc1,hA,nc,no1,ln,w1];exact⟨(st _ rfl).1,⟨k+1,nh2,_,rfl,by omega,(st _ rfl).1,(st _ rfl).2.1,(st _ rfl).2.2.1,(st _ rfl).2.2.2.1,(st _ rfl).2.2.2.2⟩,by rw[h4];simp only[aa,aU];omega⟩
  by_cases hc4:x.card<=4;rotate_left
  ·obtain⟨nh2,H3,hA,nc,no1,ln,st⟩:=no fun h=>hc4 h.2.2.2;rw[hrn]at mP hA;simp only[go_sem,e3,e4,m2,mP,hc1,hc4,hA,nc,no1,ln,w1];exact⟨(st _ rfl).1,⟨k+1,nh2,_,rfl,by omega,(st _ rfl).1,(st _ rfl).2.1,(st _ rfl).2.2.1,(st _ rfl).2.2.2.1,(st _ rfl).2.2.2.2⟩,by rw[h4];simp only[aa,aU];omega⟩
  clear no;rw[hrn]at mP gP;simp only[go_sem,mP,hc1,hc4];refine W.aK 2417851639158889605235136 (by rfl) (fun ρ2 Hq=>Hq=Hp/\∃ j:Nat,ρ2 7=aa j/\j<=x.parents.length/\ρ2 6=aa (gQ d.nodes (x.parents.take j))) (fun ρ2 H=>x.parents.length - (iv (ρ2 7)).toNat) ?_ ?_
  ·simp only[go_sem];exact⟨0,rfl,by omega,rfl⟩
  rintro ρ2 Hq ⟨hHq,j,h7,hj,h6⟩;subst hHq;refine W.env fun E2 hE2=>?_;have f1:E2 1=.ptr H.next 0 0:=by rw[hE2];simp only[go_sem,e1]
  have f2:E2 2=.ptr (H.next+1) 0 0:=by rw[hE2];simp only[go_sem,e2]
  have f3:E2 3=.ptr (H.next+2) 0 0:=by rw[hE2];simp only[go_sem,e3]
  have f4:E2 4=aa k:=by rw[hE2];simp only[go_sem,e4]
  have f5:E2 5=.ptr Hx.next 0 0:=by rw[hE2];simp only[go_sem]
  have f6:E2 6=aa (gQ d.nodes (x.parents.take j)):=by rw[hE2];simp only[go_sem,h6]
  have f7:E2 7=aa j:=by rw[hE2];simp only[go_sem,h7]
  clear hE2;refine ag _ _ _ (by rfl) ?_;by_cases hb2:(j:Int)<x.parents.length
  ·obtain⟨q,hq⟩:=ay (l:=x.parents) (i:=j) (by omega);have hqne:=aR hq;have hs:=CR d.nodes (x.parents.take j) q;rw[<- aP hq]at hs;have hrr:=yx d.nodes (x.parents.take j);have w2:=IntWalk.i64_in ((j:Int)+1) (by omega);unfold kY at hs;by_cases q0:q >= 0;rotate_left
   ·rw[if_neg (fun h=>q0 h.1)]at hs;simp only[go_sem,f5,f6,f7,mP,hb2,hq,hqne,q0,w2];exact⟨⟨j+1,rfl,by omega,by rw[hs]⟩,by rw[h7];simp only[aa,aU];omega⟩
   by_cases q1:q<d.nodes.length;rotate_left
   ·rw[if_neg (fun h=>q1 h.2.1)]at hs;simp only[go_sem,f1,f5,f6,f7,mP,m0,hb2,hq,hqne,q0,q1,w2];exact⟨⟨j+1,rfl,by omega,by rw[hs]⟩,by rw[h7];simp only[aa,aU];omega⟩
   by_cases q2:gQ d.nodes (x.parents.take j)<=1024;rotate_left
   ·rw[if_neg (fun h=>q2 h.2.2)]at hs;simp only[go_sem,f1,f5,f6,f7,mP,m0,hb2,hq,hqne,q0,q1,q2,w2];exact⟨⟨j+1,rfl,by omega,by rw[hs]⟩,by rw[h7];simp only[aa,aU];omega⟩
   rw[if_pos ⟨q0,q1,q2⟩]at hs;obtain⟨u,rfl⟩:=Int.eq_ofNat_of_zero_le q0;obtain⟨z,hz⟩:=ay (l:=d.nodes) (i:=u) (by omega);have z0:=hnq.c0 hz;have zne:=hnq.ne hz;rw[Int.toNat_natCast,bU (cV hz)]at hs;have hm4:1<=max 1 (min z.card 4)/\max 1 (min z.card 4)<=4:=(by omega);have hmm:(if (if 4<z.card then 4 else z.card) > 1 then if 4<z.card then 4 else z.card else 1)=max 1 (min z.card 4):=(by split<;>split<;>omega);generalize max 1 (min z.card 4)=m at hs hm4 hmm;have hp1:gQ d.nodes (x.parents.take j)*m<=1024*4:=Int.mul_le_mul q2 hm4.2 (by omega) (by omega);have hp0:0<=gQ d.nodes (x.parents.take j)*m:=Int.mul_nonneg (by omega) (by omega);have w3:=IntWalk.i64_in (gQ d.nodes (x.parents.take j)*m) (by omega);simp only[go_sem,f1,f5,f6,f7,mP,m0,hb2,hq,hqne,q0,q1,q2,w2,zne,z0,hmm,w3];exact⟨⟨j+1,rfl,by omega,by rw[hs]⟩,by rw[h7];simp only[aa,aU];omega⟩
  ·have hje:j=x.parents.length:=(by omega);rw[hje,List.take_of_length_le (Nat.le_refl _)]at f6;have hRr:=yx d.nodes x.parents;obtain⟨R,hR⟩:=Int.eq_ofNat_of_zero_le (show 0<=gQ d.nodes x.parents by omega);rw[hR]at f6;obtain⟨cn,hcn⟩:=Int.eq_ofNat_of_zero_le (show 0<=x.card by omega);have hcn0:(0:Int)<cn:=(by omega);have hcn1:1<=cn:=(by omega);have hcn2:(cn:Int) >= 0:=(by omega);have ury:ik d k x={ x with rows:=List.replicate R (bw d.grain x.card 0) }:=by
    unfold ik;rw[if_pos ⟨hbit,hr0,hc1,hc4⟩,hR,Int.toNat_natCast]
   simp only[go_sem,f4,f5,f7,mP,hb2];refine W.kv (Q':=fun e s2=>e=.exit 4/\∃ rq,s2.ρ 1=.ptr H.next 0 0/\s2.ρ 2=.ptr (H.next+1) 0 0/\s2.ρ 3=.ptr (H.next+2) 0 0/\s2.ρ 4=aa k/\s2.ρ 5=.ptr Hx.next 0 0/\Hq.next<=s2.H.next/\(∀ id,id<Hx.next->s2.H.get id=Hx.get id)/\s2.H.get Hx.next=some (.arr 0 83 [.lit (.int .i64 x.card),.vec x.parents.length (ints x.parents),rq])/\ep Hq.next s2.H 59 3 rq (List.replicate R (ints (bw d.grain x.card 0)))) ?_ ?_;rotate_left
   ·rintro e s2 ⟨rfl,rq,a1,a2,a3,a4,a5,hn2,ho2,hP2,hO2⟩;have hv:=hO2.fz (S:=fun id=>Hq.next<=id) (nx:=s2.H.next) (rows':=List.replicate R (ints (bw d.grain x.card 0))) (fun _ h=>h) rfl fun j r r' h1 h2=>by
     rw[h1]at h2;cases h2;refine⟨rfl,fun i hi _=>?_⟩;have hr:=List.eq_of_mem_replicate (List.mem_of_getElem? h1);subst hr;have e0:(ints (bw d.grain x.card 0))[i]?=some (ints (bw d.grain x.card 0))[i]:=List.getElem?_eq_getElem hi;generalize (ints (bw d.grain x.card 0))[i]=a at e0 ⊢;rw[g9]at e0;obtain⟨b,_,rfl⟩:=Option.map_eq_some_iff.1 e0;exact .lit _
    rw[List.length_replicate,List.map_replicate]at hv;have hvv:(AVal.vec R (List.replicate R (.vec (ints (bw d.grain x.card 0)).length (ints (bw d.grain x.card 0)))))=ao (List.replicate R (bw d.grain x.card 0)):=by
     unfold ao ab;rw[List.length_replicate,List.map_replicate,aT]
    rw[hvv]at hv;refine⟨⟨s2.ρ,s2.H.fA Hq.next Hx.next (.arr 0 83 [.lit (.int .i64 x.card),.vec x.parents.length (ints x.parents),ao (List.replicate R (bw d.grain x.card 0))])⟩,cK.fA aF hP2 (by omega) rfl (fun i hi _=>?_),Nat.le_refl _,trivial,?_⟩
    ·match i,hi with
     | 0,_=>exact .lit _
     | 1,_=>exact .cB _
     | 2,_=>exact hv
    obtain⟨He,hHe⟩:∃ He,He=s2.H.fA Hq.next Hx.next (.arr 0 83 [.lit (.int .i64 x.card),.vec x.parents.length (ints x.parents),ao (List.replicate R (bw d.grain x.card 0))]):=⟨_,rfl⟩
    rw[<- hHe];have gPe:He.get Hx.next=some (.arr 0 83 [.lit (.int .i64 x.card),.vec x.parents.length (ints x.parents),ao (List.replicate R (bw d.grain x.card 0))]):=(by rw[hHe];exact CP (by omega));have hoe:∀ id,id<Hx.next->He.get id=Hx.get id:=fun id h=>by rw[hHe,CQ (by omega) (by omega)];exact ho2 id h
    have hne':He.next=s2.H.next:=(by rw[hHe];rfl);clear hHe hv hP2 hO2;have lPe:=ah gPe;have l2e:=ah ((hoe (H.next+2) (by omega)).trans hbn);obtain⟨nh2,H3,hA,nc,no1,ln,st⟩:=step He (ao (List.replicate R (bw d.grain x.card 0))) _ ury rfl rfl (.inl rfl) (by omega) hoe;simp only[go_sem,a2,a3,a4,a5,lPe,l2e,hA,nc,no1,ln,w1];exact⟨(st _ rfl).1,⟨k+1,nh2,_,rfl,by omega,(st _ rfl).1,(st _ rfl).2.1,(st _ rfl).2.2.1,(st _ rfl).2.2.2.1,(st _ rfl).2.2.2.2⟩,by rw[h4];simp only[aa,aU];omega⟩
   refine W.aK 633822882262475471490002191872 (by rfl) (fun ρ3 Hy=>∃ (i:Nat) (rq:AVal),ρ3 9=aa i/\i<=R/\Hq.next<=Hy.next/\(∀ id,id<Hx.next->Hy.get id=Hx.get id)/\Hy.get Hx.next=some (.arr 0 83 [.lit (.int .i64 x.card),.vec x.parents.length (ints x.parents),rq])/\ep Hq.next Hy 59 3 rq (List.replicate i (ints (bw d.grain x.card 0)))) (fun ρ3 H=>R - (iv (ρ3 9)).toNat) ?_ ?_
   ·simp only[go_sem];exact⟨0,_,rfl,by omega,pold,gP,.nil⟩
   rintro ρ3 Hy ⟨i,rq,h9,hi,hny,hyo,hyP,hOy⟩;refine W.env fun E3 hE3=>?_;have a1:E3 1=.ptr H.next 0 0:=(by rw[hE3];simp only[go_sem,f1]);have a2:E3 2=.ptr (H.next+1) 0 0:=(by rw[hE3];simp only[go_sem,f2]);have a3:E3 3=.ptr (H.next+2) 0 0:=(by rw[hE3];simp only[go_sem,f3]);have a4:E3 4=aa k:=(by rw[hE3];simp only[go_sem,f4]);have a5:E3 5=.ptr Hx.next 0 0:=(by rw[hE3];simp only[go_sem,f5]);have a6:E3 6=aa R:=(by rw[hE3];simp only[go_sem,f6]);have a9:E3 9=aa i:=(by rw[hE3];simp only[go_sem,h9]);clear hE3;refine ag _ _ _ (by rfl) ?_;by_cases hb3:(i:Int)<R
   ·have w3:=IntWalk.i64_in ((i:Int)+1) (by omega);have yP:=ah hyP;have y0:=ah ((hyo H.next (by omega)).trans ((hold H.next (by omega)).trans g0));rw[hcn]at yP;have y0e:∀ L,(ext Hy L).live H.next 0=_:=fun L=>(dS (by omega)).trans y0;have yPe:∀ L,(ext Hy L).live Hx.next 0=_:=fun L=>(dS (by omega)).trans yP;have hun:(AVal.lit (.int .i64 d.grain) :: List.drop 1 (List.replicate cn (.lit (.int .i64 0))))=ints (bw d.grain x.card 0):=by
     unfold bw;rw[hcn,Int.toNat_natCast];obtain⟨m,rfl⟩:∃ m,cn=m+1:=⟨cn - 1,by omega⟩
     simp [List.replicate_succ,ints,aa]
    have hul:(bw d.grain x.card 0).length=cn:=(by rw[rF,hcn];rfl);obtain⟨Hw,hHw⟩:∃ Hw,Hw=ext Hy [.arr 0 3 (ints (bw d.grain x.card 0))]:=⟨_,rfl⟩
    have hwn:Hw.next=Hy.next+1:=(by rw[hHw];rfl);have hwo:Over Hy Hw:=(by rw[hHw];exact .ext _ _);have hwg:Hw.get Hy.next=some (.arr 0 3 (ints (bw d.grain x.card 0))):=(by rw[hHw];exact bY);have wP:Hw.live Hx.next 0=_:=(hwo.live (by omega)).trans yP;obtain⟨rq',Hj,hA,hO',hnj,hpj⟩:=ep.app (P:=Try.prog) (H:=Hw) (n:=Hw.next+1) (t:=48) (x:=.own Hy.next 0 0 cn 1) (r:=ints (bw d.grain x.card 0)) Try.underlying48 Try.jY Try.kQ Try.kP (by decide) (by rw[List.length_replicate];omega) (hOy.over hwo) (by omega) (.inr ⟨Hy.next,0,by omega,by omega,by rw[aT,hul],hwg⟩) rfl;have keep:∀ id,id<Hq.next->Hj.get id=Hy.get id:=fun id h=>(hpj id (by omega) h).trans (hwo.old id (by omega));have jP:Hj.live Hx.next 0=_:=ah ((keep _ (by omega)).trans hyP);obtain⟨cs',hcs'⟩:=id hO';have rc:=hcs'.1.cells;have ro:=hcs'.1.one;rw[hwn,hHw,fa]at hA;simp only[List.cons_append,List.nil_append,Nat.add_assoc,Nat.reduceAdd]at hA;simp only[go_sem,a1,a5,a6,a9,hb3,yP,y0e,yPe,hcn0,hcn2,hun,hA,jP,rc,ro,w3];refine⟨by omega,by simp;omega,by rw[aC];omega,⟨i+1,rq',rfl,by omega,by rw[aC];omega,fun id h=>by rw[af,if_neg (by omega),keep id (by omega)];exact hyo id h,by rw[af,if_pos rfl],?_⟩,by rw[h9];simp only[aa,aU];omega⟩;rw[List.replicate_succ'];exact hO'.upd (by omega)
   ·simp only[go_sem,a1,a2,a3,a4,a5,a6,a9,hb3];have:i=R:=(by omega);subst this;exact⟨rq,hny,hyo,hyP,hOy⟩
 ·have hke:k=d.nodes.length:=by omega
  have l2:=ah hbn;have l1:=ah ((hold (H.next+1) (by omega)).trans g1);have nc:=hO.cells;have no:=hO.one;simp only[go_sem,e1,e2,e3,e4,l0,l1,l2,hb,no];rw[hke]at hO hQ;rw[List.take_of_length_le (by rw[ja];exact Nat.le_refl _)]at hQ;refine hK hcl nh ks _ ⟨by rw[aC];have:=ob.next;omega,fun id h=>by rw[af,if_neg (by omega),hold id (by omega)];exact ob.old id h⟩ ?_ hQ;rcases hO with ⟨h,hz,hc⟩|⟨id,gg,k1,k2,h,k4,k5⟩
  ·exact .inl ⟨h,hz,hc⟩
  ·exact .inr ⟨id,gg,by omega,by rw[aC];exact k2,h,k4,by rw[af,if_neg (by omega)];exact k5⟩
theorem CU (d:InfP)(cs:List AVal)(hq:NodesQ (fun v=>d.decs.testBit v=true) d.nodes cs)(hf:InfFit d)(H:AHeap)(K:ARes->AHeap->Prop)(hK:K (.ret (bj d.grain (cU d))) H):ae Try.prog G0 54 [fC d cs] H K:=by
 refine CT d cs hq hf H K fun hcl nh ks H' ho hO hQ=>?_;refine aw.bk (v':=bj d.grain (cU d)) aF hcl ho (.agg rfl fun i hi _=>?_) hK
 match i,hi with
 | 0,_=>exact .lit _
 | 1,_ =>
  show Fz _ _ _ nh (bO (cU d));unfold bO;rw[ja];rcases hO with ⟨h,hz,hc⟩|⟨id,gg,k1,k2,h,k4,k5⟩
  ·have:cU d=[]:=List.eq_nil_of_length_eq_zero (by rw[ja];exact hz);rw[h,hz,this];exact .nil
  ·rw[h];refine .frz k1 k5 (by rw[gv,ja]) fun j hj h2 h'=>?_;have e0:(0:Nat)+j=j:=Nat.zero_add j;have h3:j<ks.length:=(by omega);have:=fun Hq=>hQ.uC (S:=fun id=>H.next<=id) (H:=Hq) (nx:=H.next) j h3 h';simpa only[e0] using this _
theorem PP (d:InfP)(cs:List AVal)(hq:NodesQ (fun v=>d.decs.testBit v=true) d.nodes cs)(hf:InfFit d)(H:AHeap)(K:ARes->AHeap->Prop)(hK:∀ (nh:AVal) (ks:List AVal) (H':AHeap),Over H H'->bW H.next H' 83 3 nh d.nodes.length ks->NodesQ (fun _=>False) (cU d) ks->K (.ret (.agg [.lit (.int .i64 d.grain),nh])) H'):ae Try.prog G0 54 [fC d cs] H K :=
 CT d cs hq hf H K fun _ nh ks H' ho hO hQ=>aw.mk ho.next (hK nh ks H' ho hO hQ)
end Go.Proofs
namespace Go.Proofs
open Go.Hx
theorem PQ {cs:List Int}(hc:∀ c∈cs,1<=c):∀ (k:Nat) (ps:List Int),k<=cs.length->ps.Pairwise (·<·)->(∀ p∈ps,0<=p/\p<k)->au (aL cs ps)<=au (cs.take k):=by
 intro k
 induction k with
 | zero =>
  intro ps _ _ h;cases ps with
  | nil=>exact Int.le_refl _
  | cons p ps=>have:=h p (by simp);omega
 | succ k ih =>
  intro ps hk hw h;obtain⟨c,hck⟩:=ay (l:=cs) (i:=k) (by omega);have c1:=hc c (List.mem_of_getElem? hck);rw[aP hck,eC];have hp:=fg (l:=cs.take k) fun c h=>hc c (List.mem_of_mem_take h);rcases List.eq_nil_or_concat ps with rfl|⟨qs,q,rfl⟩
  ·show 1<=_;have:=Int.mul_le_mul hp c1 (by omega) (by omega);omega
  ·rw[List.concat_eq_append]at hw h ⊢;have hq:=h q (by simp);obtain⟨w1,_,w3⟩:=List.pairwise_append.1 hw;have hqs:∀ p∈qs,0<=p/\p<q:=fun p hp=>⟨(h p (by simp [hp])).1,w3 p hp q (by simp)⟩
   by_cases hqk:q=k
   ·have h1:=ih qs (by omega) w1 fun p hp=>by have:=hqs p hp;omega
    unfold aL at h1 ⊢;rw[List.map_append,yc];have e:au (List.map (fun p=>cs.getD p.toNat 0) [q])=c:=by
     rw[hqk];simp only[List.map_cons,List.map_nil,Int.toNat_natCast,bU hck,iJ,fQ,Int.mul_one]
    rw[e];exact Int.mul_le_mul_of_nonneg_right h1 (by omega)
   ·have h1:=ih (qs++[q]) (by omega) hw fun p hp=>by
     rcases List.mem_append.1 hp with h'|h'
     ·have:=hqs p h';omega
     ·obtain rfl:=List.mem_singleton.1 h';omega
    have h2:au (cs.take k)*1<=au (cs.take k)*c:=Int.mul_le_mul_of_nonneg_left c1 (by omega);omega
theorem ry {ns:List NodeP}{x:NodeP}(hp:bT x.parents ns.length)(hc:∀ y∈ns,1<=y.card/\y.card<=4):au (aQ ns x)<=au (aq ns):=by
 have h:=PQ (cs:=aq ns) (fun c h=>by
  obtain⟨y,hy,rfl⟩:=List.mem_map.1 h;exact(hc y hy).1) ns.length x.parents (by rw[cP];exact Nat.le_refl _) hp.1 hp.2
 rw[List.take_of_length_le (by rw[cP];exact Nat.le_refl _)]at h;exact h
theorem yy {d:InfP}(h:InfOk d):cU d=bF d fun _ _=>0:=by
 apply List.ext_getElem?;intro v;rcases Nat.lt_or_ge v d.nodes.length with hv|hv
 ·obtain⟨x,hx⟩:=ay hv;rw[pj hx,gT hx];unfold ik;by_cases hb:d.decs.testBit v=true
  ·obtain⟨x1,x2⟩:=h.n.dec v x hx hb;have hc:=h.n.card x (List.mem_of_getElem? hx);rw[if_pos ⟨hb,x1,hc.1,hc.2⟩,ki hx hb];have hsz:=h.net.size;rw[mo]at hsz;have hle:=ry x2 h.n.card;rw[CS (fun q hq=>by have:=x2.2 q hq;omega) h.n.card (by omega),x1,List.nil_append];congr 2;unfold cM cw;rw[List.map_const',List.length_range]
  ·rw[if_neg fun h=>hb h.1,kj hb]
 ·rw[List.getElem?_eq_none (by rw[ja];exact hv),List.getElem?_eq_none (by rw[dV];exact hv)]
def gR (d:InfP)(v:Nat):Int × Int:=match d.nodes[v]? with
 | some x=>(cw d.nodes x,x.card)
 | none=>(0,0)
def dm (d:InfP):List (Int × Int):=(ba d).map (gR d)
def fB (l:List (Int × Int)):List AVal:=(l.map fun p=>[aa p.1,aa p.2]).flatten
theorem yz {l:List (Int × Int)}{i:Nat}{p:Int × Int}(h:l[i]?=some p):(fB l)[i*2]?=some (aa p.1):=gO (f:=fun p:Int × Int=>[aa p.1,aa p.2]) (z:=2) (fun _=>rfl) l i 0 p h (by omega)
theorem CV {l:List (Int × Int)}{i:Nat}{p:Int × Int}(h:l[i]?=some p):(fB l)[i*2+1]?=some (aa p.2):=gO (f:=fun p:Int × Int=>[aa p.1,aa p.2]) (z:=2) (fun _=>rfl) l i 1 p h (by omega)
theorem CW {l:List (Int × Int)}{i:Nat}{p:Int × Int}(h:l[i]?=some p):¬ fB l=[]:=fun e=>by
 have:=yz h;rw[e]at this;simp at this
theorem PR (l:List (Int × Int))(p:Int × Int):fB (l++[p])=fB l++[aa p.1,aa p.2]:=by unfold fB;simp
theorem PS {S:Nat->Prop}{H:AHeap}{nx:Nat}(l:List (Int × Int)):∀ c∈fB l,Fz S H nx c c:=by
 intro c hc;unfold fB at hc;obtain⟨r,hr,hc⟩:=List.mem_flatten.1 hc;obtain⟨x,_,rfl⟩:=List.mem_map.1 hr;simp only[List.mem_cons,List.not_mem_nil,or_false]at hc;rcases hc with rfl|rfl<;>exact .lit _
theorem yA {d:InfP}(h:InfOk d){v:Nat}(hv:v<d.nodes.length)(hb:d.decs.testBit v=true):1<=(gR d v).1/\(gR d v).1<=1024/\1<=(gR d v).2/\(gR d v).2<=4:=by
 obtain⟨x,hx⟩:=ay hv;obtain⟨x1,x2⟩:=h.n.dec v x hx hb;have hc:=h.n.card x (List.mem_of_getElem? hx);have hsz:=h.net.size;rw[mo]at hsz;have hle:=ry x2 h.n.card;have hps:=fg (l:=aQ d.nodes x) fun c hc=>(mv (fun q hq=>by have:=x2.2 q hq;omega) h.n.card c hc).1;unfold gR;rw[hx];show 1<=((cw d.nodes x:Nat):Int)/\((cw d.nodes x:Nat):Int)<=1024/\1<=x.card/\x.card<=4;unfold cw;omega
set_option maxHeartbeats 4000000 in
theorem CX (d:InfP)(cs:List AVal)(hq:NodesQ (fun v=>d.decs.testBit v=true) d.nodes cs)(hf:InfFit d)(hok:InfOk d)(H:AHeap)(K:ARes->AHeap->Prop)(hK:K (.ret (.vec (dm d).length (fB (dm d)))) H):ae Try.prog G0 57 [fC d cs] H K:=by
 refine ae.clo ⟨_,Try.func57,rfl,rfl⟩ fun hcl=>?_;have hl:=hf.nodes.1;have hn8:=hok.n.n1.2;refine ae.aS (n:=41) (rs:=[.tmp 2]) Try.func57 rfl rfl rfl (by decide) (by kernel_rfl) (by simp) ?_;simp only[go_sem,jb,il];obtain⟨H1,hH1⟩:∃ H1,H1=ext H [.arr 0 39 [.lit (.int .i64 d.grain),.vec d.nodes.length cs,.lit (.int .u64 (d.decs:Int)),.vec d.utils.length (aO d.utils)]]:=⟨_,rfl⟩
 have g0:H1.get H.next=some (.arr 0 39 [.lit (.int .i64 d.grain),.vec d.nodes.length cs,.lit (.int .u64 (d.decs:Int)),.vec d.utils.length (aO d.utils)]):=by rw[hH1];exact br ..
 have n1:H1.next=H.next+1:=by rw[hH1];rfl
 have o1:Over H H1:=by rw[hH1];exact .ext _ _
 rw[<- hH1];clear hH1;have m0:=ah g0;refine aA.clo (CU d cs hq hf _ _ ⟨trivial,?_⟩);rw[yy hok];simp only[go_sem,bj,bO];obtain⟨H2,hH2⟩:∃ H2,H2=ext H1 [.arr 0 64 [.lit (.int .i64 d.grain),.vec (bF d fun _ _=>0).length (aD (bF d fun _ _=>0))]]:=⟨_,rfl⟩
 have g1:H2.get H1.next=some (.arr 0 64 [.lit (.int .i64 d.grain),.vec (bF d fun _ _=>0).length (aD (bF d fun _ _=>0))]):=by rw[hH2];exact bY
 have o2:Over H1 H2:=by rw[hH2];exact .ext _ _
 have n2:H2.next=H1.next+1:=by rw[hH2];rfl
 have k0:=(o2.live (g:=0) (by omega:H.next<H1.next)).trans m0;have k1:=ah g1;rw[<- hH2];clear hH2;simp only[go_sem,k0];refine aA.clo (Dl d cs hf.decs (by omega) _ _ ⟨trivial,?_⟩);simp only[go_sem];have dl:(bf (ba d)).length=(ba d).length:=by simp [bf]
 have dl8:(ba d).length<=d.nodes.length:=kV;refine W.aK 1099511625800 (by rfl) (fun ρ Hx=>∃ (k:Nat) (ov:AVal),ρ 6=aa k/\k<=(ba d).length/\Over H2 Hx/\ρ 3=ov/\bW H2.next Hx 118 2 ov k (fB ((dm d).take k))) (fun ρ H=>(ba d).length - (iv (ρ 6)).toNat) ?_ ?_
 ·simp only[go_sem];exact⟨0,_,rfl,by omega,.refl _,rfl,.nil⟩
 rintro ρ Hx ⟨k,ov,h6,hk,hov,h3,hO⟩;refine W.env fun E hE=>?_;have e3:E 3=ov:=by rw[hE];simp only[go_sem,h3]
 have e4:E 4=.ptr H1.next 0 0:=by rw[hE];simp only[go_sem]
 have e5:E 5=ab (bf (ba d)):=by rw[hE];simp only[go_sem]
 have e6:E 6=aa k:=by rw[hE];simp only[go_sem,h6]
 clear hE;refine ag _ _ _ (by rfl) ?_;have x1:=(hov.live (g:=0) (by omega:H1.next<H2.next)).trans k1;have onx:=hov.next;by_cases hb:(k:Int)<(ba d).length
 ·obtain⟨v,hv⟩:=ay (l:=ba d) (i:=k) (by omega);obtain⟨v1,v2,_⟩:=j8 hv;obtain⟨x,hx⟩:=ay v1;have hvi:(bf (ba d))[k]?=some (v:Int):=by unfold bf;rw[List.getElem?_map,hv];rfl
  have hvne:=aR hvi;have hfx:=gT (c:=fun _ _=>0) hx;have f0:=iI hfx;have f2:=oY hfx;have fne:=dH hfx;have hvl:(v:Int)<(bF d fun _ _=>0).length:=by rw[dV];omega
  have w1:=IntWalk.i64_in ((k:Int)+1) (by omega);have hrc:gR d v=(((fy d (fun _ _=>0) (ba d).length v x).rows.length:Int),(fy d (fun _ _=>0) (ba d).length v x).card):=by
   rw[ki hx v2];unfold gR;rw[hx];have:=(hok.n.dec v x hx v2).1;simp [this,cM]
  generalize fy d (fun _ _=>0) (ba d).length v x=y at f0 f2 hrc;obtain⟨ov',Hj,hA,hO',hnj,hpj⟩:=mA (P:=Try.prog) (t:=116) (xs:=[aa y.rows.length,aa y.card]) Try.underlying116 Try.Ck Try.Cm rfl rfl (by rw[Try.Cl];omega) hO onx rfl;simp only[aa]at hA;simp only[go_sem,e5,e6,dl,hb];refine W.draw 22 [0,0,2,0,0,24,56,126,254,510,1022,0,2048,0,0,24576,57344,129024,260096,522240,1048574,2097150] Try.mixed (by kernel_rfl) (by kernel_rfl) ?_;simp only[go_sem,e3,e4,e5,e6,dl,hb,hvi,hvne,x1,f0,f2,fne,hvl,w1,hA,ao];have hrg:(dm d)[k]?=some (gR d v):=by unfold dm;rw[List.getElem?_map,hv];rfl
  refine⟨by omega,⟨k+1,ov',rfl,by omega,⟨by omega,fun id h=>(hpj id (by omega) (hO.ne h)).trans (hov.old id h)⟩,rfl,?_⟩,by rw[h6];simp only[aa,aU];omega⟩;rw[aP hrg,PR,hrc];exact hO'
 ·have hke:k=(ba d).length:=by omega
  simp only[go_sem,e3,e5,e6,dl,hb];have hrl:(dm d).length=(ba d).length:=by simp [dm]
  rw[hke,List.take_of_length_le (by omega)]at hO;refine aw.bk aF hcl ((o1.trans o2).trans hov) ?_ hK;rw[hrl];have oh2:=(o1.trans o2).next;rcases hO with ⟨h,hz,hc⟩|⟨id,gg,k1,k2,h,k4,k5⟩
  ·rw[h,hz,hc];exact .nil
  ·rw[h];refine .frz (by omega) k5 k4 fun j hj h2 h'=>?_;have e0:(0:Nat)+j=j:=Nat.zero_add j;have h3:j<(fB (dm d)).length:=(by omega);have:=fun Hq=>PS (S:=fun id=>H.next<=id) (H:=Hq) (nx:=H.next) (dm d) _ (List.getElem_mem h3);simpa only[e0] using this _
theorem PT (d:InfP)(hf:InfFit d)(hok:InfOk d)(H:AHeap)(K:ARes->AHeap->Prop)(hK:K (.ret (.vec (dm d).length (fB (dm d)))) H):ae Try.prog G0 57 [rz d] H K:=CX d _ (yp _ _) hf hok H K hK
end Go.Proofs
namespace Go.Proofs
open Go.Hx
def uG (l:List (Int × Int))(ps:List (List Int)):Prop:=ps.length=l.length/\∀ (k:Nat) (p:Int × Int) (r:List Int),l[k]?=some p->ps[k]?=some r->(r.length:Int)=p.1/\∀ a∈r,0<=a/\a<p.2
theorem CY {d:InfP}{p:List (List Int)}:PolOk d p↔uG (dm d) p:=by
 have hg:∀ (k v:Nat) (x:NodeP),(ba d)[k]?=some v->d.nodes[v]?=some x->(dm d)[k]?=some ((cw d.nodes x:Int),x.card):=fun k v x hv hx=>by
  unfold dm;rw[List.getElem?_map,hv,Option.map_some];unfold gR;rw[hx]
 constructor
 ·intro h;refine⟨by rw[h.len];simp [dm],fun k q r hq hr=>?_⟩;obtain⟨v,hv⟩:=ay (l:=ba d) (i:=k) (by have:=aG hr;rw[h.len]at this;exact this);obtain⟨v1,_⟩:=j8 hv;obtain⟨x,hx⟩:=ay v1;rw[hg k v x hv hx]at hq;cases hq;obtain⟨a,b⟩:=h.row k v x r hv hx hr;exact⟨by rw[a],b⟩
 ·intro h;refine⟨by rw[h.1];simp [dm],fun k v x l hv hx hl=>?_⟩;obtain⟨a,b⟩:=h.2 k _ l (hg k v x hv hx) hl;exact⟨by simp only at a;omega,b⟩
set_option maxHeartbeats 4000000 in
theorem PU (d:InfP)(hf:InfFit d)(hok:InfOk d)(bs:List Int)(hbl:(bs.length:Int)<2 ^ 63)(hb8:∀ x∈bs,U8 x)(H:AHeap)(K:ARes->AHeap->Prop)(hK:∀ p,PolOk d p->K (.ret (ao p)) H):ae Try.prog G0 19 [rz d,.vec bs.length (bC bs)] H K:=by
 refine ae.clo ⟨_,Try.func19,rfl,rfl⟩ fun hcl=>?_;have hn8:=hok.n.n1.2;refine ae.aS (n:=57) (rs:=[.tmp 4]) Try.func19 rfl rfl rfl (by decide) (by kernel_rfl) (by simp) ?_;simp only[go_sem,Dk,uM];obtain⟨H1,hH1⟩:∃ H1,H1=ext H [.arr 0 39 [.lit (.int .i64 d.grain),.vec d.nodes.length (aV d.nodes),.lit (.int .u64 (d.decs:Int)),.vec d.utils.length (aO d.utils)]]:=⟨_,rfl⟩
 have n1:H1.next=H.next+1:=by rw[hH1];rfl
 have o1:Over H H1:=by rw[hH1];exact .ext _ _
 rw[<- hH1];clear hH1;refine aA.clo (PT d hf hok _ _ ⟨trivial,?_⟩);have rl:(dm d).length=(ba d).length:=by simp [dm]
 have dl8:(ba d).length<=d.nodes.length:=kV;have rr:∀ p∈dm d,1<=p.1/\p.1<=1024/\1<=p.2/\p.2<=4:=fun p hp=>by
  unfold dm at hp;obtain⟨v,hv,rfl⟩:=List.mem_map.1 hp;obtain⟨v1,v2⟩:=uA.1 hv;exact yA hok v1 v2
 generalize hL:dm d=L at rl rr;simp only[go_sem];refine W.aK 72057594037915552 (by rfl) (fun ρ Hx=>∃ (k at':Nat) (ps:List (List Int)),ρ 8=aa k/\k<=L.length/\ρ 7=aa at'/\at'<=k*1024/\H1.next<=Hx.next/\(∀ id,id<H1.next->Hx.get id=H1.get id)/\ep H1.next Hx 59 3 (ρ 5) (ps.map ints)/\uG (L.take k) ps) (fun ρ H=>L.length - (iv (ρ 8)).toNat) ?_ ?_
 ·simp only[go_sem];exact⟨0,0,[],rfl,by omega,rfl,by omega,.nil,rfl,fun k p r _ h=>by simp at h⟩
 rintro ρ Hx ⟨k,at',ps,h8,hk,h7,hat,hnx,hold,h5,hfit⟩;obtain⟨ov,hov⟩:∃ ov,ov=ρ 5:=⟨_,rfl⟩
 rw[<- hov]at h5;refine W.env fun E hE=>?_;have e1:E 1=.vec bs.length (bC bs):=by rw[hE];simp only[go_sem]
 have e5:E 5=ov:=by rw[hE];simp only[go_sem,hov]
 have e6:E 6=.vec L.length (fB L):=by rw[hE];simp only[go_sem]
 have e7:E 7=aa at':=by rw[hE];simp only[go_sem,h7]
 have e8:E 8=aa k:=by rw[hE];simp only[go_sem,h8]
 clear hE;refine ag _ _ _ (by rfl) ?_;by_cases hb:(k:Int)<L.length
 ·obtain⟨⟨c1,c2⟩,hp⟩:=ay (l:=L) (i:=k) (by omega);obtain⟨r1,r2,r3,r4⟩:=rr _ (List.mem_of_getElem? hp);dsimp only at r1 r2 r3 r4;have p0:=yz hp;have p1:=CV hp;have pne:=CW hp;have w1:=IntWalk.i64_in ((k:Int)+1) (by omega);simp only[go_sem,e6,e8,hb];refine W.aK 4503599626325632 (by rfl) (fun ρ2 Hy=>∃ (j:Nat) (q:List Int),ρ2 10=aa j/\(j:Int)<=c1/\q.length=j/\ρ2 7=aa ((at'+j:Nat):Int)/\(∀ a∈q,0<=a/\a<c2)/\Over Hx Hy/\aB Hx.next Hy 3 (ρ2 9) (ints q)) (fun ρ2 H=>c1.toNat - (iv (ρ2 10)).toNat) ?_ ?_
  ·simp only[go_sem,e7];exact⟨0,[],rfl,by omega,rfl,rfl,by simp,.refl _,.nil⟩
  rintro ρ2 Hy ⟨j,q,h10,hj,hql,h7',hq,hxy,h9⟩;obtain⟨qv,hqv⟩:∃ qv,qv=ρ2 9:=⟨_,rfl⟩
  rw[<- hqv]at h9;refine W.env fun E2 hE2=>?_;have f1:E2 1=.vec bs.length (bC bs):=by rw[hE2];simp only[go_sem,e1]
  have f5:E2 5=ov:=by rw[hE2];simp only[go_sem,e5]
  have f6:E2 6=.vec L.length (fB L):=by rw[hE2];simp only[go_sem,e6]
  have f7:E2 7=aa ((at'+j:Nat):Int):=by rw[hE2];simp only[go_sem,h7']
  have f8:E2 8=aa k:=by rw[hE2];simp only[go_sem,e8]
  have f9:E2 9=qv:=by rw[hE2];simp only[go_sem,hqv]
  have f10:E2 10=aa j:=by rw[hE2];simp only[go_sem,h10]
  clear hE2;refine ag _ _ _ (by rfl) ?_;by_cases hb2:(j:Int)<c1
  ·obtain⟨m,hm⟩:∃ m:Nat,m=at'+j:=⟨_,rfl⟩
   rw[<- hm]at f7;have w2:=IntWalk.i64_in ((j:Int)+1) (by omega);have w3:=IntWalk.i64_in ((m:Int)+1) (by omega);have app:∀ a:Int,0<=a/\a<c2->∃ v' H2,bq Try.prog (ext Hy [.arr 0 3 [.lit (.int .i64 a)]]) (Hy.next+1) 59 59 qv (.own Hy.next 0 0 1 1)=some (v',H2)/\Hx.next<=H2.next/\∀ a' ,a'=a->(∀ b∈q++[a'],0<=b/\b<c2)/\Over Hx H2/\aB Hx.next H2 3 v' (ints (q++[a'])):=fun a ha=>by
    obtain⟨v',H2,hA,ho2,hO2,hn2,_⟩:=iM a hxy h9 (by omega);refine⟨v',H2,hA,by have:=hxy.next;omega,fun a' ha'=>?_⟩;subst ha';exact⟨fun b hb=>by rcases List.mem_append.1 hb with h|h;exact hq b h;obtain rfl:=List.mem_singleton.1 h;exact ha,ho2,hO2⟩
   by_cases hz:(bs.length:Int) > 0
   ·have hzn:¬ (bs.length:Int)=0:=(by omega);have m1:(m:Int).tmod bs.length=((m % bs.length:Nat):Int):=(by rw[Int.tmod_eq_emod_of_nonneg (by omega)];rfl);have m2:=Nat.mod_lt m (show bs.length > 0 by omega);obtain⟨z,hzz⟩:∃ z,z=m % bs.length:=⟨_,rfl⟩
    rw[<- hzz]at m1 m2;have hz0:(z:Int) >= 0:=(by omega);have hzl:(z:Int)<bs.length:=(by omega);obtain⟨b,hbg⟩:=ay (l:=bs) (i:=z) m2;have b8:=hb8 b (List.mem_of_getElem? hbg);have hbg':=ru hbg;have hbne:=aR hbg';unfold U8 at b8;have w4:IntKind.i64.wrap b=b:=IntWalk.i64_in _ (by omega);have c2n:¬ c2=0:=(by omega);have tb:b.tmod c2=b % c2:=Int.tmod_eq_emod_of_nonneg b8.1;have tb0:=Int.emod_nonneg b c2n;have tb1:=Int.emod_lt_of_pos b (show 0<c2 by omega);have w5:IntKind.i64.wrap (b % c2)=b % c2:=IntWalk.i64_in _ (by omega);obtain⟨v',Hj,hA,hjn,fin⟩:=app (b % c2) ⟨tb0,tb1⟩;obtain⟨fi1,fi2,fi3⟩:=fin _ rfl;simp only[go_sem,f1,f6,f8,f10,p0,pne,hb,hb2,hz];refine W.draw 13 [0,0,0,4,14,31,63,127,0,0,768,1792,3840] Try.mixed (by kernel_rfl) (by kernel_rfl) ?_;simp only[go_sem,f1,f6,f7,f8,f9,f10,p1,pne,hb,hzn,m1,hz0,hzl,hbg',hbne,w4,c2n,tb,w2,w3,hA];exact⟨by omega,⟨j+1,q++[_],rfl,by omega,by simp;omega,by rw[show ((at'+(j+1):Nat):Int)=(m:Int)+1 by omega],fi1,fi2,fi3⟩,by rw[h10];simp only[aa,aU];omega⟩
   ·obtain⟨v',Hj,hA,hjn,fin⟩:=app 0 ⟨by omega,by omega⟩;obtain⟨fi1,fi2,fi3⟩:=fin _ rfl;simp only[go_sem,f1,f6,f7,f8,f9,f10,p0,pne,hb,hb2,hz,w2,w3,hA];exact⟨by omega,⟨j+1,q++[_],rfl,by omega,by simp;omega,by rw[show ((at'+(j+1):Nat):Int)=(m:Int)+1 by omega],fi1,fi2,fi3⟩,by rw[h10];simp only[aa,aU];omega⟩
  ·have hjc:(j:Int)=c1:=(by omega);have h9':aB H1.next Hy 3 qv (ints q):=h9.keep hnx (Nat.le_refl _) fun _ _ _ _ _ _=>rfl;have xyn:=hxy.next;obtain⟨ov',Hj,hA,hO',hnj,hpj⟩:=ep.app (P:=Try.prog) (n:=Hy.next+1) (t:=48) Try.underlying48 Try.jY Try.kQ Try.kP (by decide) (by rw[List.length_map,hfit.1,List.length_take];omega) (h5.over hxy) (by omega) h9' rfl;have qvc:=h9.cells;simp only[go_sem,f5,f6,f7,f8,f9,f10,p0,pne,hb,hb2,w1,qvc,List.length_singleton,List.drop_one,List.tail_cons,List.append_nil,hA];have pl:=hfit.1;rw[List.length_take]at pl;refine⟨by omega,⟨k+1,at'+j,ps++[q],rfl,by omega,rfl,by omega,by omega,fun id h=>by rw[hpj id (by omega) h,hxy.old id (by omega)];exact hold id h,by rw[List.map_append];exact hO',by rw[aP hp];simp;omega,fun i p r hp' hr=>?_⟩,by rw[h8];simp only[aa,aU];omega⟩;rw[aP hp]at hp';rcases Nat.lt_or_ge i ps.length with h|h
   ·rw[List.getElem?_append_left h]at hr;rw[List.getElem?_append_left (by rw[List.length_take];omega)]at hp';exact hfit.2 i p r hp' hr
   ·have hi:=aG hr;simp at hi;obtain rfl:i=ps.length:=(by omega);rw[List.getElem?_append_right (by omega)]at hr;rw[List.getElem?_append_right (by rw[List.length_take];omega),List.length_take]at hp';rw[Nat.sub_self]at hr;rw[show ps.length - min k L.length=0 by omega]at hp';cases hr;cases hp';exact⟨by omega,hq⟩
 ·simp only[go_sem,e5,e6,e8,hb];have hke:k=L.length:=by omega
  rw[hke,List.take_of_length_le (Nat.le_refl _)]at hfit;refine aw.bk (v':=ao ps) aF hcl ⟨by omega,fun id h=>by rw[hold id (by omega)];exact o1.old id h⟩ ?_ (hK ps (CY.2 (by rw[hL];exact hfit)));have:=h5.fz (S:=fun id=>H.next<=id) (nx:=H.next) (rows':=ps.map ints) (fun i h=>by omega) rfl fun j r r' h1 h2=>by
   rw[h1]at h2;cases h2;refine⟨rfl,fun i hi _=>?_⟩;rw[List.getElem?_map]at h1;obtain⟨z,_,rfl⟩:=Option.map_eq_some_iff.1 h1;have e0:(ints z)[i]?=some (ints z)[i]:=List.getElem?_eq_getElem hi;generalize (ints z)[i]=a at e0 ⊢;rw[g9]at e0;obtain⟨b,_,rfl⟩:=Option.map_eq_some_iff.1 e0;exact .lit _
  rw[List.length_map,List.map_map]at this;have e:(ps.map ((fun r:List AVal=>AVal.vec r.length r) ∘ ints))=ps.map ab:=List.map_congr_left fun z _=>by simp [Function.comp,ab,aT]
  rw[e]at this;exact this
end Go.Proofs
namespace Go.Hx
open Go.Proofs.R01 (pureRun_bind)
variable {P:Program} {t e:TypeId} {x y:Operand} {k k':IntKind} {a b c d:Int}
theorem NC (n:Nat)(he:P.underlying e=some (.int k)):bt P (Op.equalIn (n+1) e (.int k' a) (.int k' b))=some (a == b):=by
 unfold Op.equalIn;simp [underlying,program,he,bt,bind,Sem.bind,pure]
theorem ND (n : Nat) {f g : Field} (ht : P.underlying t = some (.struct #[f, g])) (hsi : P.stoodInHeld t = false) (hf : f.type = e) (hg : g.type = e) (fn : f.name ≠ "_") (gn : g.name ≠ "_") (fo : f.offset = 0) (go : g.offset = 1) (he : P.underlying e = some (.int k)) :
  bt P (Op.equalIn (n+2) t (.agg #[.int k' a,.int k' b]) (.agg #[.int k' c,.int k' d]))=some (a == c && b == d):=by
 unfold Op.equalIn;have e1:∀ {α:Type} (f':TypeDesc->Sem α),bt P (underlying t >>= f')=bt P (f' (.struct #[f,g])):=fun f'=>pureRun_bind (by simp [underlying,program,ht,bt,bind,Sem.bind,pure]);have e0:∀ {α:Type} (f':Program->Sem α),bt P (program >>= f')=bt P (f' P):=fun f'=>pureRun_bind (by simp [program,bt]);have e3:∀ {α:Type} (cs:Array Value) (o:Nat) (v:Value) (f':Value->Sem α),cs[o]?=some v->bt P (part e cs o >>= f')=bt P (f' v):=fun cs o v f' h=>pureRun_bind (by simp [part,isAgg,underlying,program,he,h,bt,bind,Sem.bind,pure]);have e4:∀ {α:Type} (p q:Int) (f':Bool->Sem α),bt P (Op.equalIn (n+1) e (.int k' p) (.int k' q) >>= f')=bt P (f' (p == q)):=fun p q f'=>pureRun_bind (NC n he);rw[e1];dsimp only;rw[e0,hsi];simp only[Bool.false_eq_true,if_false,<- Array.forIn_toList,List.forIn_cons,List.forIn_nil,fn,gn,hf,hg,fo,go,ne_eq,not_false_eq_true,if_true,bind_assoc,pure_bind];rw[e3 _ _ (.int k' a) _ rfl,e3 _ _ (.int k' c) _ rfl,e4];by_cases h:(a == c)=true
 ·rw[h];simp only[Bool.not_true,Bool.false_eq_true,if_false,pure_bind,bind_assoc];rw[e3 _ _ (.int k' b) _ rfl,e3 _ _ (.int k' d) _ rfl,e4];by_cases h2:(b == d)=true
  ·rw[h2];rfl
  ·rw[Bool.not_eq_true]at h2;rw[h2];rfl
 ·rw[Bool.not_eq_true]at h;rw[h];rfl
theorem NF {f g : Field} (ht : P.underlying t = some (.struct #[f, g])) (hsi : P.stoodInHeld t = false) (hf : f.type = e) (hg : g.type = e) (fn : f.name ≠ "_") (gn : g.name ≠ "_") (fo : f.offset = 0) (go : g.offset = 1) (he : P.underlying e = some (.int k)) (hq : P.eqGuardType P.depth t = false) :
  bh P .neq t x y (.agg [.lit (.int k' a),.lit (.int k' b)]) (.agg [.lit (.int k' c),.lit (.int k' d)])=some (.lit (.bool (!(a == c && b == d)))):=by
 show (bt P (do eqGuard .neq t x y (.agg #[.int k' a,.int k' b]) (.agg #[.int k' c,.int k' d]);binOp .neq t (.agg #[.int k' a,.int k' b]) (.agg #[.int k' c,.int k' d]))).map _=_;have h0:bt P (eqGuard .neq t x y (.agg #[.int k' a,.int k' b]) (.agg #[.int k' c,.int k' d]))=some ():=by
  simp [eqGuard,program,hq,bt,bind,Sem.bind,pure]
 have h1:binOp .neq t (.agg #[.int k' a,.int k' b]) (.agg #[.int k' c,.int k' d])=(Op.equalIn (9998+2) t (.agg #[.int k' a,.int k' b]) (.agg #[.int k' c,.int k' d]) >>= fun r=>pure (Value.bool (!r))):=rfl;rw[pureRun_bind h0,h1,pureRun_bind (ND 9998 ht hsi hf hg fn gn fo go he)];rfl
attribute [go_sem] D7
end Go.Hx
namespace Go.Proofs
open Go.Hx
theorem NG {o1 o2:Operand}(a b c d:Int):bh Try.prog .neq 68 o1 o2 (.agg [.lit (.int .i64 a),.lit (.int .i64 b)]) (.agg [.lit (.int .i64 c),.lit (.int .i64 d)])=some (.lit (.bool (!(a == c && b == d)))) :=
 NF Try.underlying68 (by kernel_rfl) rfl rfl (by decide) (by decide) rfl rfl Try.underlying3 (by kernel_rfl)
end Go.Proofs
namespace Go.Hx
variable {P:Program} {G:Nat->Option (List AVal)}
theorem PV {H:AHeap}(hc:Clo H):FzH (fun _=>False) H H where
 gone id hs:=hs.elim
 kept id b _ hb:=by
  have hbb:=hc.below id b hb;refine⟨hc.lt id b hb,b,hb,?_⟩;cases b with
  | rsv=>trivial
  | mp=>rfl
  | arr g e cells=>exact⟨rfl,rfl,rfl,fun i h _=>.dead (hbb i h)⟩
  | loop st pend n env ps asg body=>exact⟨rfl,rfl,rfl,rfl,rfl,rfl,rfl,fun t ht=>.dead (hbb t ht)⟩
 none id _ hb:=hb
theorem ae.yB {H:AHeap}{f:FuncId}{args args':List AVal}{K:ARes->AHeap->Prop}(hG:eo G)(hl:args'.length=args.length)(hv:∀ i (h:i<args.length) (h':i<args'.length),Fz (fun _=>False) H H.next args[i] args'[i])
  (h:ae P G f args' H K):ae P G f args H K:=by
 refine⟨h.1,fun Γ w cargs R hr=>?_⟩;have F:=PV R.clo;have R0:=F.rel hG R;have E0:Evo Γ H w (eW (fun _=>False) Γ) H w:=F.bb;refine(h.2 _ w cargs R0 ⟨by have:=hr.1;omega,fun i h1 h2=>(hv i (by omega) h1).sound R F (hr.2 i (by omega) h2)⟩).mono ?_;rintro e w' ⟨r,H',Γ',h1,h2,h3,h4,h5⟩;exact⟨r,H',Γ',h1,h2,h3,E0.trans (Nat.le_refl _) h4,h5⟩
end Go.Hx
namespace Go.Proofs
open Go.Hx
end Go.Proofs
namespace Go.Proofs
open Go.Hx
variable {P:Program}
theorem B4 (w a r n:Int)(hw:0<=w/\w<=255)(ha:0<=a/\a<=255)(hr:0<=r/\r<=255)(g:Int)(ns:List NodeP)(cs:List AVal){e:Nat->Prop}(hq:NodesQ e ns cs)(m:Nat)(hm:m<2 ^ 30)(hs:SmallN m ns)(H:AHeap)(K:ARes->AHeap->Prop)
  (hK:∀ g' ns' cs,(g',ns',cs)=dX (w % 12) (a % (ns.length:Int)).toNat r n g ns->SmallN (m+1) ns'->NodesQ (fun v=>¬ w % 12=5\/∀ x,ns[v]?=some x->x.rows=[]) ns' cs->(w % 12=0->ns'=ns)/\ns'.length<=ns.length+1->K (.ret (.agg [aa g',.vec ns'.length cs])) H):
  ae Try.prog G0 45 [.agg (jt w a r n),.agg [aa g,.vec ns.length cs]] H K:=by
 refine ae.yB aF (args':=[.agg (jt w a r n),bj g ns]) rfl (fun i h h'=>?_) (MZ w a r n hw ha hr g ns m hm hs H K hK)
 match i,h with
 | 0,_ =>
  refine .agg rfl fun j hj _=>?_
  match j,hj with
  | 0,_=>exact .lit _
  | 1,_=>exact .lit _
  | 2,_=>exact .lit _
  | 3,_=>exact .lit _
 | 1,_ =>
  refine .agg rfl fun j hj _=>?_
  match j,hj with
  | 0,_=>exact .lit _
  | 1,_=>exact .vec (by rw[hq.len,gv]) fun i h h'=>hq.uC i h h'
theorem NodesQ.Nc {e:Nat->Prop}{ns:List NodeP}{cs:List AVal}(h:NodesQ e ns cs){S:Nat->Prop}{H:AHeap}{nx:Nat}(i:Nat)(h1:i<cs.length):Fz S H nx cs[i] cs[i]:=by
 have hb:i / 3<ns.length:=by rw[h.len]at h1;omega
 obtain⟨x,hx⟩:=ay hb;obtain⟨rv,a,b,c,d,_⟩:=h.node _ x hx;have hp:i=(i / 3)*3+i % 3:=by omega
 have g1:cs[i]?=some cs[i]:=List.getElem?_eq_getElem h1;generalize cs[i]=u at g1 ⊢;have c3:i % 3=0\/i % 3=1\/i % 3=2:=by omega
 rcases c3 with c0|c0|c0
 ·rw[hp,c0,Nat.add_zero,a]at g1;cases g1;exact .lit _
 ·rw[hp,c0,b]at g1;cases g1;exact .cB _
 ·rw[hp,c0,c]at g1;cases g1;rcases d with d|d<;>rw[d]
  ·exact .ao _
  ·exact CB x
structure UtilsS (m:Nat)(us:List UtilP):Prop where
 len:us.length<=m
 util:∀ u∈us,u.vars.length<=m/\u.w.length<=m
def qR (w:Int)(b:List AVal)(n:Int):List AVal:=.lit (.int .u8 w) :: b++[.lit (.int .i64 n)]
def bZ (us:List UtilP)(k:Nat)(pv wv:AVal):List AVal:=((aO (us.take k)).set 0 pv).set 1 wv
theorem uf (us:List UtilP)(k:Nat)(pv wv:AVal):(bZ us k pv wv).length=(us.take k).length*2:=by unfold bZ;rw[List.length_set,List.length_set,j7]
theorem Nd (l:List UtilP)(u:UtilP):aO (l++[u])=aO l++[ab u.vars,ab u.w]:=by unfold aO;simp [UtilP.cells]
theorem Nf {us:List UtilP}{k:Nat}{u:UtilP}(h:us[k]?=some u)(h0:0<k)(pv wv:AVal):bZ us (k+1) pv wv=bZ us k pv wv++[ab u.vars,ab u.w]:=by
 have hl:=j7 (us.take k);have hkl:(us.take k).length=k:=by rw[List.length_take];have:=aG h;omega
 unfold bZ;rw[aP h,Nd,List.set_append_left _ _ (by omega),List.set_append_left _ _ (by rw[List.length_set];omega)]
theorem Ng {us:List UtilP}{u:UtilP}(h:us[0]?=some u)(pv wv:AVal):bZ us 1 pv wv=[pv,wv]:=by
 unfold bZ;rw[aP h];rfl
theorem B5 (us:List UtilP)(pv wv:AVal):bZ us 0 pv wv=[]:=rfl
def ug (us:List UtilP)(lo k:Nat)(H:AHeap)(uh:AVal):Prop :=
 ∃ pv wv,bW lo H 85 2 uh k (bZ us k pv wv)/\(0<k->∃ u,us[0]?=some u/\aB lo H 3 pv (ints u.vars)/\aB lo H 3 wv (ints u.w)/\∀ i g n g' n',pv=.own i g 0 n 1->wv≠.own i g' 0 n' 1)
def qS (H:AHeap)(i:Nat):Nat:=match H.get i with
 | some (.arr _ _ [_,_,_,.own _ _ _ l _])=>l
 | _=>0
theorem B6 {us:List UtilP}{k lo:Nat}{u:UtilP}(hu0:us[k]?=some u){Hx:AHeap}(hlo:lo<=Hx.next){pv wv:AVal}(hPW:0<k->∃ u,us[0]?=some u/\aB lo Hx 3 pv (ints u.vars)/\aB lo Hx 3 wv (ints u.w)/\∀ i g n g' n',pv=.own i g 0 n 1->wv≠.own i g' 0 n' 1)
  {s2:St} (nx2:Hx.next<=s2.H.next) (kp2:∀ i g e c,lo<=i->i<Hx.next->Hx.get i=some (.arr g e c)->e≠85->s2.H.get i=Hx.get i) {uh2 pk wk:AVal} (oZ:bW lo s2.H 85 2 uh2 (k+1) (bZ us k pv wv++[pk,wk])) (oP:aB Hx.next s2.H 3 pk (ints u.vars)) (oW:aB Hx.next s2.H 3 wk (ints u.w))
  (hpw:∀ i g n g' n',pk=.own i g 0 n 1->wk≠.own i g' 0 n' 1):∃ H3,cK P G0 s2 ⟨s2.ρ,H3⟩/\H3.next=s2.H.next/\(∀ i,i<lo->H3.get i=s2.H.get i)/\ug us lo (k+1) H3 uh2:=by
 rcases Nat.eq_zero_or_pos k with hk0|hk0
 ·refine⟨s2.H,.same,rfl,fun _ _=>rfl,pk,wk,?_,fun _=>⟨u,by rw[<- hk0];exact hu0,oP.keep hlo (Nat.le_refl _) fun _ _ _ _ _ _=>rfl,oW.keep hlo (Nat.le_refl _) fun _ _ _ _ _ _=>rfl,hpw⟩⟩;subst hk0;rw[B5,List.nil_append]at oZ;rw[Ng hu0];exact oZ
 ·have ec:=Nf hu0 hk0 pv wv;rcases oZ with ⟨_,h0,_⟩|⟨id,gg,z1,z2,z3,z4,z5⟩
  ·omega
  have hgone:∀ {v:AVal} {l:List Int},aB Hx.next s2.H 3 v (ints l)->Fz (fun i=>Hx.next<=i/\i≠id) s2.H s2.H.next v (ab l):=fun {v l} hv=>by
   have:=qM (S:=fun i=>Hx.next<=i/\i≠id) (nx:=s2.H.next) (cs':=ints l) hv (fun i g h1 _ h3=>⟨h1,fun he=>by
    subst he;rw[z5]at h3;cases h3⟩) rfl fun i hi _=>by simp only[ints,List.getElem_map];exact .lit _
   rw[aT]at this;exact this
  obtain⟨pn,hpn⟩:∃ Hm,Hm=s2.H.gm Hx.next id (.arr gg 85 (bZ us (k+1) pv wv)):=⟨_,rfl⟩
  have hmn:pn.next=s2.H.next:=by rw[hpn];rfl
  have hlow:∀ i,i<Hx.next->i≠id->pn.get i=s2.H.get i:=fun i h1 h2=>by rw[hpn];exact x6 h1 h2
  refine⟨pn,?_,hmn,fun i h=>hlow i (by omega) (by omega),pv,wv,.inr ⟨id,gg,z1,by omega,z3,by rw[ec];simpa using z4,by rw[hpn];exact xZ⟩,fun _=>?_⟩
  ·rw[hpn];refine cK.gm aF z5 (by rw[ec];simp) (fun hbel i hi hi'=>?_);have e1:=List.getElem?_eq_getElem hi;have e2:=List.getElem?_eq_getElem hi';have hm:=hbel _ (List.getElem_mem hi);generalize (bZ us k pv wv++[pk,wk])[i]=u1 at e1 hm ⊢;generalize (bZ us (k+1) pv wv)[i]=u2 at e2 ⊢;rw[ec]at e2;by_cases hip:i<(bZ us k pv wv).length
   ·rw[List.getElem?_append_left hip]at e1 e2;rw[e1]at e2;cases e2;exact .dead hm
   ·rw[List.getElem?_append_right (by omega)]at e1 e2;have h3:i - (bZ us k pv wv).length=0\/i - (bZ us k pv wv).length=1:=by
     rw[List.length_append]at hi;simp at hi;omega
    rcases h3 with h|h<;>rw[h]at e1 e2<;>cases e1<;>cases e2
    ·exact hgone oP
    ·exact hgone oW
  ·obtain⟨u0,h0,hP,hW,hn⟩:=hPW hk0;have hkp:∀ i g c,lo<=i->i<Hx.next->Hx.get i=some (.arr g 3 c)->pn.get i=Hx.get i:=fun i g c h1 h2 h3=>by
    have h4:=kp2 i g _ _ h1 h2 h3 (by decide);rw[hlow i h2 (fun he=>by
     subst he;rw[h4,h3]at z5;cases z5)]
    exact h4
   exact⟨u0,h0,hP.keep (Nat.le_refl _) (by omega) fun i g h1 h2 h3 _=>hkp i g _ h1 h2 h3,hW.keep (Nat.le_refl _) (by omega) fun i g h1 h2 h3 _=>hkp i g _ h1 h2 h3,hn⟩
theorem Nh {us:List UtilP}(h:0<us.length)(u':UtilP):aO (us.set 0 u')=((aO us).set 0 (ab u'.vars)).set 1 (ab u'.w):=by
 cases us with
 | nil=>exact absurd h (Nat.lt_irrefl _)
 | cons u us=>rfl
theorem ui {us:List UtilP}{lo nx:Nat}{H:AHeap}{S:Nat->Prop}{uh pv wv:AVal}{us':List UtilP}(hO:bW lo H 85 2 uh us.length (bZ us us.length pv wv))(hS:∀ i,lo<=i->S i)(h0:us=[]->us'=[])
  (hP:0<us.length->∃ u',us'=us.set 0 u'/\Fz S H nx pv (ab u'.vars)/\Fz S H nx wv (ab u'.w)):Fz S H nx uh (.vec us'.length (aO us')):=by
 rcases Nat.eq_zero_or_pos us.length with hl|hl
 ·have e0:us=[]:=List.eq_nil_of_length_eq_zero hl;subst e0;rw[h0 rfl];exact ue hO hS rfl fun i h=>absurd h (by rw[uf];simp)
 ·obtain⟨u',rfl,hp,hw⟩:=hP hl;rw[List.length_set,Nh hl];refine ue hO hS (by rw[uf];simp [j7]) fun i h h'=>?_;unfold bZ at h ⊢;simp only[List.take_length,List.getElem_set];by_cases h1:1=i
  ·rw[if_pos h1,if_pos h1];exact hw
  ·rw[if_neg h1,if_neg h1];by_cases h2:0=i
   ·rw[if_pos h2,if_pos h2];exact hp
   ·rw[if_neg h2,if_neg h2];have hil:i<(aO us).length:=(by simpa using h');have:∀ c∈aO us,Fz S H nx c c:=fun c hc=>by
     unfold aO at hc;obtain⟨r,hr,hc⟩:=List.mem_flatten.1 hc;obtain⟨x,_,rfl⟩:=List.mem_map.1 hr;unfold UtilP.cells at hc;simp only[List.mem_cons,List.not_mem_nil,or_false]at hc;rcases hc with rfl|rfl<;>exact .cB _
    exact this _ (List.getElem_mem _)
def oX (c a n:Int)(us:List UtilP):List UtilP:=match us[0]? with
 | none=>List.replicate 5 ⟨[],[1]⟩
 | some u=>if c=5 then us.set 0 ⟨u.vars++[n],u.w⟩ else if c=6/\0<u.w.length then us.set 0 ⟨u.vars,u.w.set (a % (u.w.length:Int)).toNat n⟩ else (us++List.replicate 5 (⟨[],[1]⟩:UtilP)).take (max us.length 5)
def gM (w w5 a r n5 n:Int)(d:InfP):InfP × List AVal :=
 if w % 8<4 then (⟨(dX (w5 % 12) (a % (d.nodes.length:Int)).toNat r n5 d.grain d.nodes).1,(dX (w5 % 12) (a % (d.nodes.length:Int)).toNat r n5 d.grain d.nodes).2.1,d.decs,d.utils⟩,(dX (w5 % 12) (a % (d.nodes.length:Int)).toNat r n5 d.grain d.nodes).2.2)
 else (⟨d.grain,d.nodes,if w % 8=4 then d.decs ^^^ (n % 18446744073709551616).toNat else d.decs,if w % 8=4 then d.utils else oX (w % 8) a n d.utils⟩,(dX 0 0 0 d.grain d.grain d.nodes).2.2)
theorem Ni (g:Int)(ns:List NodeP):(dX 0 0 0 g g ns).1=g:=by
 unfold dX;split
 ·rfl
 ·rfl
set_option maxHeartbeats 4000000 in
theorem Nj (w w5 a r n5 n:Int)(hw:0<=w/\w<=255)(hw5:0<=w5/\w5<=255)(ha:0<=a/\a<=255)(hr:0<=r/\r<=255)(d:InfP)(cs0:List AVal){e0:Nat->Prop}(hq:NodesQ e0 d.nodes cs0)(m:Nat)(hm:m<2 ^ 29)(hs:SmallN m d.nodes)(hu:UtilsS m d.utils)(hd:d.decs<2 ^ 64)
  (hdec:∀ v x,d.nodes[v]?=some x->d.decs.testBit v=true->x.rows=[]) (H:AHeap) (K:ARes->AHeap->Prop)
  (hK:∀ y cs,(y,cs)=gM w w5 a r n5 n d->InfFit y->NodesQ (fun v=>y.decs.testBit v=true) y.nodes cs->y.nodes.length<=d.nodes.length+1->K (.ret (fC y cs)) H):
  ae Try.prog G0 10 [.agg (qR w (jt w5 a r n5) n),fC d cs0] H K:=by
 refine ae.clo ⟨_,Try.func10,rfl,rfl⟩ fun hcl=>?_;refine ae.jK (n:=153) (rs:=[.cell 4 39]) Try.func10 rfl rfl rfl (by decide) (by simp) ?_;refine W.seq (ag _ _ _ (by rfl) ?_);simp only[go_sem,qR,jt,jb,il];obtain⟨Hb,hHb⟩:∃ Hb,Hb=ext H [.arr 0 32 [.lit (.int .u8 w),.lit (.int .u8 w5),.lit (.int .u8 a),.lit (.int .u8 r),.lit (.int .i64 n5),.lit (.int .i64 n)],.arr 0 39 [.lit (.int .i64 d.grain),.vec d.nodes.length cs0,.lit (.int .u64 (d.decs:Int)),.vec d.utils.length (aO d.utils)],.arr 0 39 [.lit (.int .i64 0),.lit (.slice none 0 0),.lit (.int .u64 0),.lit (.slice none 0 0)]]:=⟨_,rfl⟩
 have b0:Hb.get H.next=some (.arr 0 32 [.lit (.int .u8 w),.lit (.int .u8 w5),.lit (.int .u8 a),.lit (.int .u8 r),.lit (.int .i64 n5),.lit (.int .i64 n)]):=by rw[hHb];exact br ..
 have b1:Hb.get (H.next+1)=some (.arr 0 39 [.lit (.int .i64 d.grain),.vec d.nodes.length cs0,.lit (.int .u64 (d.decs:Int)),.vec d.utils.length (aO d.utils)]):=by rw[hHb];exact bu H _ 1 (by simp)
 have b2:Hb.get (H.next+2)=some (.arr 0 39 [.lit (.int .i64 0),.lit (.slice none 0 0),.lit (.int .u64 0),.lit (.slice none 0 0)]):=by rw[hHb];exact bu H _ 2 (by simp)
 have nb:Hb.next=H.next+3:=by rw[hHb];rfl
 have ob:Over H Hb:=by rw[hHb];exact .ext _ _
 rw[<- hHb];clear hHb;have l0:=ah b0;have l1:=ah b1;refine W.env fun E hE=>?_;have e2:E 2=.ptr H.next 0 0:=by rw[hE];simp only[go_sem]
 have e3:E 3=.ptr (H.next+1) 0 0:=by rw[hE];simp only[go_sem]
 have e4:E 4=.ptr (H.next+2) 0 0:=by rw[hE];simp only[go_sem]
 clear hE;refine W.seq (ag _ _ _ (by rfl) ?_);simp only[go_sem,e3,l1];obtain⟨Hc,hHc⟩:∃ Hc,Hc=ext Hb [.arr 0 39 [.lit (.int .i64 d.grain),.lit (.slice none 0 0),.lit (.int .u64 (d.decs:Int)),.lit (.slice none 0 0)]]:=⟨_,rfl⟩
 have oc:Over Hb Hc:=by rw[hHc];exact .ext _ _
 have nc:Hc.next=H.next+4:=by rw[hHc,bn];simp;omega
 have c3:Hc.get (H.next+3)=some (.arr 0 39 [.lit (.int .i64 d.grain),.lit (.slice none 0 0),.lit (.int .u64 (d.decs:Int)),.lit (.slice none 0 0)]):=by rw[hHc,<- nb];exact bY
 rw[<- hHc];clear hHc;have m1:Hc.live (H.next+1) 0=_:=(oc.live (by omega)).trans l1;refine W.seq (ag _ _ _ (by rfl) ?_);simp only[go_sem,e3,m1];refine aA.clo (B4 0 0 0 d.grain ⟨by omega,by omega⟩ ⟨by omega,by omega⟩ ⟨by omega,by omega⟩ d.grain d.nodes cs0 hq m (by omega) hs _ _ fun g1 ns1 cs1 hB1 hs1 hq1 h01=>⟨trivial,?_⟩);obtain rfl:ns1=d.nodes:=h01.1 rfl;have hqT:NodesQ (fun _=>True) d.nodes cs1:=hq1.mono fun _ _=>.inl (by decide);rw[show ((0:Int) % (d.nodes.length:Int)).toNat=0 by simp,show (0:Int) % 12=0 from rfl]at hB1;obtain rfl:g1=d.grain:=by have:=congrArg (·.1) hB1;simp only at this;rw[this];exact Ni _ _
 have hcs1:cs1=(dX 0 0 0 d.grain d.grain d.nodes).2.2:=by rw[<- hB1]
 clear hq1 h01 hs1 hq hB1;simp only[go_sem];obtain⟨Hd,hHd⟩:∃ Hd,Hd=ext Hc [.arr 0 64 [.lit (.int .i64 d.grain),.vec d.nodes.length cs1]]:=⟨_,rfl⟩
 have od:Over Hc Hd:=by rw[hHd];exact .ext _ _
 have nd:Hd.next=H.next+5:=by rw[hHd,bn];simp;omega
 have d4:Hd.get (H.next+4)=some (.arr 0 64 [.lit (.int .i64 d.grain),.vec d.nodes.length cs1]):=by rw[hHd,<- nc];exact bY
 rw[<- hHd];clear hHd;have d0:Hd.get H.next=_:=(od.old _ (by omega)).trans ((oc.old _ (by omega)).trans b0);have d1:Hd.get (H.next+1)=_:=(od.old _ (by omega)).trans ((oc.old _ (by omega)).trans b1);have d2:Hd.get (H.next+2)=_:=(od.old _ (by omega)).trans ((oc.old _ (by omega)).trans b2);have d3:Hd.get (H.next+3)=_:=(od.old _ (by omega)).trans c3;have dold:∀ i,i<H.next->Hd.get i=H.get i:=fun i h=>(od.old i (by omega)).trans ((oc.old i (by omega)).trans (ob.old i h));clear l0 l1 m1 c3 b0 b1 b2;refine W.env fun E1 hE1=>?_;have f2:E1 2=.ptr H.next 0 0:=by rw[hE1];simp only[go_sem,e2]
 have f3:E1 3=.ptr (H.next+1) 0 0:=by rw[hE1];simp only[go_sem,e3]
 have f4:E1 4=.ptr (H.next+2) 0 0:=by rw[hE1];simp only[go_sem,e4]
 have f5:E1 5=.ptr (H.next+3) 0 0:=by rw[hE1];simp only[go_sem,nb]
 have f6:E1 6=.ptr (H.next+4) 0 0:=by rw[hE1];simp only[go_sem,nc]
 clear hE1 e2 e3 e4 ob oc od;have hul:=hu.len;refine W.iG (fun s'=>s'.ρ 2=.ptr H.next 0 0/\s'.ρ 3=.ptr (H.next+1) 0 0/\s'.ρ 4=.ptr (H.next+2) 0 0/\s'.ρ 5=.ptr (H.next+3) 0 0/\s'.ρ 6=.ptr (H.next+4) 0 0/\Hd.next<=s'.H.next/\(∀ id,id<H.next+5->id≠H.next+3->s'.H.get id=Hd.get id)/\∃ uh,s'.H.get (H.next+3)=some (.arr 0 39 [.lit (.int .i64 d.grain),.lit (.slice none 0 0),.lit (.int .u64 (d.decs:Int)),uh])/\ug d.utils (H.next+5) d.utils.length s'.H uh) ?_ ?_
 ·refine W.seq (ag _ _ _ (by rfl) ?_);simp only[go_sem];refine W.block ?_;refine W.env fun E2 hE2=>?_;have g2:E2 2=.ptr H.next 0 0:=by rw[hE2];simp only[go_sem,f2]
  have g3:E2 3=.ptr (H.next+1) 0 0:=by rw[hE2];simp only[go_sem,f3]
  have g4:E2 4=.ptr (H.next+2) 0 0:=by rw[hE2];simp only[go_sem,f4]
  have g5:E2 5=.ptr (H.next+3) 0 0:=by rw[hE2];simp only[go_sem,f5]
  have g6:E2 6=.ptr (H.next+4) 0 0:=by rw[hE2];simp only[go_sem,f6]
  have g7:E2 7=aa 0:=by rw[hE2];simp only[go_sem]
  clear hE2;refine W.aK 2251799809491072 (by rfl) (fun ρ Hx=>∃ (k:Nat) (uh:AVal),ρ 7=aa k/\k<=d.utils.length/\Hd.next<=Hx.next/\(∀ id,id<H.next+5->id≠H.next+3->Hx.get id=Hd.get id)/\Hx.get (H.next+3)=some (.arr 0 39 [.lit (.int .i64 d.grain),.lit (.slice none 0 0),.lit (.int .u64 (d.decs:Int)),uh])/\ug d.utils (H.next+5) k Hx uh) (fun ρ H=>d.utils.length - (iv (ρ 7)).toNat) ?_ ?_
  ·simp only[go_sem,g7];exact⟨0,_,rfl,by omega,d3,.lit (.slice none 0 0),.lit (.slice none 0 0),by rw[B5];exact .nil,fun h=>absurd h (Nat.not_lt_zero _)⟩
  rintro ρ Hx ⟨k,uh,h7,hk,nx,hold,hx3,pv,wv,hO,hPW⟩;refine W.env fun E3 hE3=>?_;have a2:E3 2=.ptr H.next 0 0:=by rw[hE3];simp only[go_sem,g2]
  have a3:E3 3=.ptr (H.next+1) 0 0:=by rw[hE3];simp only[go_sem,g3]
  have a4:E3 4=.ptr (H.next+2) 0 0:=by rw[hE3];simp only[go_sem,g4]
  have a5:E3 5=.ptr (H.next+3) 0 0:=by rw[hE3];simp only[go_sem,g5]
  have a6:E3 6=.ptr (H.next+4) 0 0:=by rw[hE3];simp only[go_sem,g6]
  have a7:E3 7=aa k:=by rw[hE3];simp only[go_sem,h7]
  clear hE3;have x1:=ah ((hold _ (by omega) (by omega)).trans d1);have x3:=ah hx3;by_cases hb:(k:Int)<d.utils.length;rotate_left
  ·refine ag _ _ _ (by rfl) ?_;simp only[go_sem,a2,a3,a4,a5,a6,a7,x1,hb];obtain rfl:k=d.utils.length:=(by omega);exact⟨nx,hold,uh,hx3,pv,wv,hO,hPW⟩
  obtain⟨u,hu0⟩:=ay (l:=d.utils) (i:=k) (by omega);obtain⟨u1,u2⟩:=hu.util u (List.mem_of_getElem? hu0);have q0:=Cp hu0;have q1:=O2 hu0;have qn:=qZ hu0;refine W.seq (ag _ _ _ (by rfl) ?_);simp only[go_sem,a3,a7,x1,hb];refine W.seq ?_;refine W.kv (Q':=fun e s2=>e=.normal/\s2.ρ 7=aa k/\Hx.next<=s2.H.next/\(∀ id,id<H.next+5->id≠H.next+3->s2.H.get id=Hd.get id)/\(∀ i g e c,i<Hx.next->i≠H.next+3->Hx.get i=some (.arr g e c)->e≠85->s2.H.get i=Hx.get i)/\∃ uh2 pk wk,s2.H.get (H.next+3)=some (.arr 0 39 [.lit (.int .i64 d.grain),.lit (.slice none 0 0),.lit (.int .u64 (d.decs:Int)),uh2])/\bW (H.next+5) s2.H 85 2 uh2 (k+1) (bZ d.utils k pv wv++[pk,wk])/\aB Hx.next s2.H 3 pk (ints u.vars)/\aB Hx.next s2.H 3 wk (ints u.w)/\∀ i g n g' n',pk=.own i g 0 n 1->wk≠.own i g' 0 n' 1) ?_ ?_;rotate_left
  ·rintro e s2 ⟨rfl,a7',nx2,old2,kp2,uh2,pk,wk,gx3,oZ,oP,oW,hpw⟩;have w1:=IntWalk.i64_in ((k:Int)+1) (by omega);obtain⟨H3,hw3,n3,k3,hI⟩:=B6 (P:=Try.prog) hu0 (Hx:=Hx) (by omega) hPW (s2:=s2) nx2 (fun i g e c h1 h2 h3 h4=>kp2 i g e c h2 (by omega) h3 h4) oZ oP oW hpw;refine⟨⟨s2.ρ,H3⟩,hw3,by rw[n3];exact Nat.le_refl _,trivial,?_⟩;simp only[go_sem];refine ag _ _ _ (by rfl) ?_;simp only[go_sem,a7',w1];exact⟨by omega,⟨k+1,uh2,rfl,by omega,by omega,fun i h1 h2=>(k3 i h1).trans (old2 i h1 h2),(k3 _ (by omega)).trans gx3,hI⟩,by rw[h7];simp only[aa,aU];omega⟩
  refine W.block ?_;have x1e:∀ L,(ext Hx L).live (H.next+1) 0=_:=fun L=>(dS (by omega)).trans x1;obtain⟨Hp,hHp⟩:∃ Hp,Hp=ext Hx [.arr 0 3 (List.replicate 0 (.lit (.int .i64 0)))]:=⟨_,rfl⟩
  have np:Hp.next=Hx.next+1:=by rw[hHp];rfl
  have op:Over Hx Hp:=by rw[hHp];exact .ext _ _
  have p0:aB Hx.next Hp 3 (.own Hx.next 0 0 0 1) []:=by rw[hHp];exact .new
  obtain⟨pk,H2,hA1,oP,n2,hp2⟩:=mS (P:=Try.prog) (H:=Hp) (t:=59) (n:=Hx.next+1) (lo:=Hx.next) (src:=ints u.vars) Try.underlying59 Try.dh Try.dG (gZ _) (by rw[Try.dU,aT,List.length_nil];omega) p0 (by omega) (by omega);rw[List.nil_append]at oP;rw[aT]at hA1;have o2:∀ i,i<Hx.next->H2.get i=Hx.get i:=fun i h=>(hp2 i (by omega) fun g n hv=>by have:=(AVal.own.inj hv).1;omega).trans (op.old i h);have y1:H2.live (H.next+1) 0=_:=ah ((o2 _ (by omega)).trans ((hold _ (by omega) (by omega)).trans d1));have y1e:∀ L,(ext H2 L).live (H.next+1) 0=_:=fun L=>(dS (by omega)).trans y1;obtain⟨Hq,hHq⟩:∃ Hq,Hq=ext H2 [.arr 0 3 (List.replicate 0 (.lit (.int .i64 0)))]:=⟨_,rfl⟩
  have nq:Hq.next=H2.next+1:=by rw[hHq];rfl
  have oq:Over H2 Hq:=by rw[hHq];exact .ext _ _
  have q0':aB H2.next Hq 3 (.own H2.next 0 0 0 1) []:=by rw[hHq];exact .new
  obtain⟨wk,H3,hA2,oW,n3,hp3⟩:=mS (P:=Try.prog) (H:=Hq) (t:=59) (n:=H2.next+1) (lo:=H2.next) (src:=ints u.w) Try.underlying59 Try.dh Try.dG (gZ _) (by rw[Try.dU,aT,List.length_nil];omega) q0' (by omega) (by omega);rw[List.nil_append]at oW;rw[aT]at hA2;have o3:∀ i,i<H2.next->H3.get i=H2.get i:=fun i h=>(hp3 i (by omega) fun g n hv=>by have:=(AVal.own.inj hv).1;omega).trans (oq.old i h);rw[hHp]at hA1;rw[hHq]at hA2;have pk1:=oP.one;have pkc:=oP.cells;have wk1:=oW.one;have wkc:=oW.cells;have hO3:bW (H.next+5) H3 85 2 uh k (bZ d.utils k pv wv):=hO.keep (by omega) fun i g h1 h2 h3=>by rw[o3 i (by omega),o2 i h2]
  obtain⟨uh2,H4,hA3,oZ,n4,hp4⟩:=mA (P:=Try.prog) (H:=H3) (t:=37) (xs:=[pk,wk]) (m:=H3.next+1) Try.underlying37 Try.uj Try.um (by simp only[List.all_cons,List.all_nil,pk1,wk1];rfl) rfl (by rw[Try.uk];omega) hO3 (by omega) rfl;have hk4:∀ i,i<H.next+5->H4.get i=Hx.get i:=fun i h=>(hp4 i (by omega) (hO3.ne (by omega))).trans ((o3 i (by omega)).trans (o2 i (by omega)));have une:∀ {i g e c},H3.get i=some (.arr g e c)->e≠85->∀ g n,uh≠.own i g 0 n 2:=fun {i g e c} h1 h2 g' n hv=>by
   rcases hO3 with ⟨h,_⟩|⟨i2,g2,_,_,h,_,h4⟩
   ·rw[h]at hv;cases hv
   ·rw[h]at hv;obtain rfl:=(AVal.own.inj hv).1;rw[h4]at h1;cases h1;exact h2 rfl
  have l4:=ah ((hk4 _ (by omega)).trans hx3);have uh21:=oZ.one;have uh2c:=oZ.cells;obtain⟨H5,hH5⟩:∃ H5,H5=H4.upd (H.next+3) (.arr 0 39 [.lit (.int .i64 d.grain),.lit (.slice none 0 0),.lit (.int .u64 (d.decs:Int)),uh2]):=⟨_,rfl⟩
  have n5':H5.next=H4.next:=by rw[hH5,aC]
  have o5:∀ i,i≠H.next+3->H5.get i=H4.get i:=fun i h=>by rw[hH5,af,if_neg h]
  have fin:Hx.next<=H5.next/\(∀ id,id<H.next+5->¬ id=H.next+3->H5.get id=Hd.get id)/\(∀ i g e c,i<Hx.next->¬ i=H.next+3->Hx.get i=some (.arr g e c)->¬ e=85->H5.get i=Hx.get i)/\∃ uh2 pk wk,H5.get (H.next+3)=some (.arr 0 39 [.lit (.int .i64 d.grain),.lit (.slice none 0 0),.lit (.int .u64 (d.decs:Int)),uh2])/\bW (H.next+5) H5 85 2 uh2 (k+1) (bZ d.utils k pv wv++[pk,wk])/\aB Hx.next H5 3 pk (ints u.vars)/\aB Hx.next H5 3 wk (ints u.w)/\∀ i g n g' n',pk=.own i g 0 n 1->¬ wk=.own i g' 0 n' 1:=by
   refine⟨by omega,fun i h1 h2=>by rw[o5 i h2,hk4 i h1];exact hold i h1 h2,fun i g e c h1 h2 h3 h4=>?_,uh2,pk,wk,by rw[hH5,af,if_pos rfl],oZ.keep (by omega) fun i g h1 _ _=>o5 i (by omega),?_,?_,fun i g n g' n' h1 h2=>?_⟩
   ·have h5:H3.get i=Hx.get i:=(o3 i (by omega)).trans (o2 i h1);rw[o5 i h2,hp4 i (by omega) (une (h5.trans h3) h4),h5]
   ·refine oP.keep (Nat.le_refl _) (by omega) fun i g h1 h2 h3 _=>?_;have h5:H3.get i=H2.get i:=o3 i h2;rw[o5 i (by omega),hp4 i (by omega) (une (h5.trans h3) (by decide)),h5]
   ·refine oW.keep (by omega) (by omega) fun i g h1 h2 h3 _=>?_;rw[o5 i (by omega),hp4 i h2 (une h3 (by decide))]
   ·rcases oP with ⟨hp,_⟩|⟨i2,g2,_,a2,hp,_⟩
    ·rw[hp]at h1;cases h1
    ·rcases oW with ⟨hw,_⟩|⟨i3,g3,b1,_,hw,_⟩
     ·rw[hw]at h2;cases h2
     ·rw[hp]at h1;rw[hw]at h2;have e1:=(AVal.own.inj h1).1;have e2:=(AVal.own.inj h2).1;omega
  refine W.draw 20 [0,1,0,0,8,0,56,120,248,508,0,0,2048,0,14336,30720,63488,131068,262140,524284] Try.mixed (by kernel_rfl) (by kernel_rfl) ?_;rcases hO with ⟨hv,_⟩|⟨iu,gu,z1,z2,hv,z4,z5⟩
  ·subst hv;simp only[go_sem,a3,a5,a7,x3,hb,q0,q1,qn,x1e,y1e,hA1,hA2,hA3,pkc,wkc,l4,uh21,uh2c];rw[<- hH5]
   repeat' (first|exact fin|refine And.intro ?_ ?_|(intro x hx;omega))
  ·subst hv;simp only[go_sem,a3,a5,a7,x3,hb,q0,q1,qn,x1e,y1e,hA1,hA2,hA3,pkc,wkc,l4,uh21,uh2c];rw[<- hH5]
   repeat' (first|exact fin|refine And.intro ?_ ?_|(intro x hx;omega))
 rintro⟨ρ3,Hx⟩ ⟨m2,m3,m4,m5,m6,nx,hold,uh,hx3,pv,wv,hO,hPW⟩;simp only at m2 m3 m4 m5 m6 nx hold hx3 hO hPW;have x0:=(hold H.next (by omega) (by omega)).trans d0;have x2:=(hold (H.next+2) (by omega) (by omega)).trans d2;have x4:=(hold (H.next+4) (by omega) (by omega)).trans d4;have xold:∀ i,i<H.next->Hx.get i=H.get i:=fun i h=>(hold i (by omega) (by omega)).trans (dold i h);clear hold d0 d1 d2 d3 d4 dold
  -- what the switch leaves
 obtain⟨Φ,hΦ⟩:∃ Φ:St->Prop,∀ s',Φ s'↔(s'.ρ 4=.ptr (H.next+2) 0 0/\s'.ρ 5=.ptr (H.next+3) 0 0/\s'.ρ 6=.ptr (H.next+4) 0 0/\∃ (g':Int) (ns':List NodeP) (cs':List AVal) (D:Nat) (us':List UtilP) (uv:AVal),Hx.next<=s'.H.next/\(∀ i,i<H.next->s'.H.get i=H.get i)/\s'.H.get (H.next+2)=Hx.get (H.next+2)/\s'.H.get (H.next+3)=some (.arr 0 39 [.lit (.int .i64 d.grain),.lit (.slice none 0 0),.lit (.int .u64 (D:Int)),uv])/\s'.H.get (H.next+4)=some (.arr 0 64 [.lit (.int .i64 g'),.vec ns'.length cs'])/\uv.one=true/\uv.cells=[uv]/\SmallN (m+2) ns'/\UtilsS (m+5) us'/\D<2 ^ 64/\NodesQ (fun v=>D.testBit v=true) ns' cs'/\ns'.length<=d.nodes.length+1/\((⟨g',ns',D,us'⟩:InfP),cs')=gM w w5 a r n5 n d /\
   (∀ H3,H3.next=s'.H.next->(∀ i,i≠H.next+2->i≠H.next+3->H3.get i=s'.H.get i)->Fz (fun i=>H.next<=i) H3 H.next uv (.vec us'.length (aO us')))):=⟨_,fun _=>Iff.rfl⟩
 refine W.iG Φ ?_ ?_;rotate_left
 ·rintro⟨ρ5,H5⟩ hq5;obtain⟨f4,f5,f6,g',ns',cs',D,us',uv,n5,o5,p2,p3,p4,uv1,uvc,hsn,hsu,hD,hnq,hnl,hBI,hfz⟩:=(hΦ _).1 hq5;simp only at f4 f5 f6 n5 o5 p2 p3 p4 hfz;rw[x2]at p2;have k2:=ah p2;have k3:=ah p3;have k4:=ah p4;refine W.seq ?_;refine W.draw 6 [0,1,0,4,3,19] Try.mixed (by kernel_rfl) (by kernel_rfl) ?_;simp only[go_sem,f5,f6,k3,k4];refine⟨⟨fun _ h=>by omega,fun _ h=>by omega⟩,?_⟩;obtain⟨H6,hH6⟩:∃ H6,H6=(H5.upd (H.next+3) (.arr 0 39 [.lit (.int .i64 g'),.lit (.slice none 0 0),.lit (.int .u64 (D:Int)),uv])).upd (H.next+3) (.arr 0 39 [.lit (.int .i64 g'),.vec ns'.length cs',.lit (.int .u64 (D:Int)),uv]):=⟨_,rfl⟩
  rw[<- hH6];have n6:H6.next=H5.next:=by rw[hH6,aC,aC]
  have o6:∀ i,i≠H.next+3->H6.get i=H5.get i:=fun i h=>by rw[hH6,af,if_neg h,af,if_neg h]
  have j3:H6.live (H.next+3) 0=some (39,[.lit (.int .i64 g'),.vec ns'.length cs',.lit (.int .u64 (D:Int)),uv]):=by rw[hH6];exact vg
  have j2:=ah ((o6 (H.next+2) (by omega)).trans p2);clear hH6;refine ag _ _ _ (by rfl) ?_;simp only[go_sem,f4,f5,j2,j3,uv1];refine aw.bk (v':=fC ⟨g',ns',D,us'⟩ cs') aF hcl ⟨by rw[aC];omega,fun i h=>by rw[af,if_neg (by omega),o6 i (by omega)];exact o5 i h⟩ (.agg rfl fun i hi _=>?_) (hK ⟨g',ns',D,us'⟩ cs' hBI ⟨⟨by have:=hsn.len;show (ns'.length:Int)<_;omega,fun x hx=>?_⟩,hD,by have:=hsu.len;show (us'.length:Int)<_;omega,fun u hu=>?_⟩ hnq hnl)
  ·match i,hi with
   | 0,_=>exact .lit _
   | 1,_=>exact .vec rfl fun j h _=>hnq.Nc j h
   | 2,_=>exact .lit _
   | 3,_=>exact hfz _ (by rw[aC,n6]) fun i h1 h2=>by rw[af,if_neg h1,o6 i h2]
  ·obtain⟨h1,h2,h3⟩:=hsn.node x hx;exact⟨by omega,by omega,fun r hr=>by have:=(h3 r hr).2;omega⟩
  ·obtain⟨h1,h2⟩:=hsu.util u hu;exact⟨by omega,by omega⟩
 have w8:Int.tmod w 8=w % 8:=Int.tmod_eq_emod_of_nonneg hw.1;refine W.block ?_;refine W.env fun E hE=>?_;have t2:E 2=.ptr H.next 0 0:=by rw[hE];simp only[go_sem,m2]
 have t4:E 4=.ptr (H.next+2) 0 0:=by rw[hE];simp only[go_sem,m4]
 have t5:E 5=.ptr (H.next+3) 0 0:=by rw[hE];simp only[go_sem,m5]
 have t6:E 6=.ptr (H.next+4) 0 0:=by rw[hE];simp only[go_sem,m6]
 clear hE m2 m3 m4 m5 m6;have k0:=ah x0;have k3:=ah hx3;have k4:=ah x4
  -- the utilities as they are
 have hP0:0<d.utils.length->∃ u,d.utils[0]?=some u/\aB (H.next+5) Hx 3 pv (ints u.vars)/\aB (H.next+5) Hx 3 wv (ints u.w)/\∀ i g n g' n',pv=.own i g 0 n 1->wv≠.own i g' 0 n' 1:=hPW;have usame:∀ H3:AHeap,Hx.next<=H3.next->(∀ i,H.next+5<=i->i<Hx.next->H3.get i=Hx.get i)->Fz (fun i=>H.next<=i) H3 H.next uh (.vec d.utils.length (aO d.utils)):=fun H3 h1 h2=>by
  refine ui (hO.keep h1 fun i g h3 h4 _=>h2 i h3 h4) (fun i h=>by show H.next<=i;omega) id fun hl=>?_;obtain⟨u,h3,hP,hW,_⟩:=hP0 hl;exact⟨u,(jF h3).symm,(hP.keep (Nat.le_refl _) h1 fun i g h3 h4 _ _=>h2 i h3 h4).dw fun i h=>by show H.next<=i;omega,(hW.keep (Nat.le_refl _) h1 fun i g h3 h4 _ _=>h2 i h3 h4).dw fun i h=>by show H.next<=i;omega⟩
 have uh1:=hO.one;have uhc:=hO.cells;have hsm2:SmallN (m+2) d.nodes:=hs.mono (by omega);have hu5:UtilsS (m+5) d.utils:=⟨by omega,fun u h=>by have:=hu.util u h;omega⟩
 have hqD:∀ D:Nat,NodesQ (fun v=>D.testBit v=true) d.nodes cs1:=fun D=>hqT.mono fun _ _=>trivial;by_cases h4:w % 8<4
 ·refine W.seq (ag _ _ _ (by rfl) ?_);simp only[go_sem,t2,k0,w8,h4];refine W.cond (t:=true) rfl ?_;refine ag _ _ _ (by rfl) ?_;simp only[go_sem,t2,t6,k0,k4];refine aA.clo (B4 w5 a r n5 hw5 ha hr d.grain d.nodes cs1 hqT m (by omega) hs _ _ fun g2 ns2 cs2 hB2 hs2 hq2 h02=>⟨trivial,?_⟩);simp only[go_sem,t6,k4];refine(hΦ _).2 ⟨by simp only[go_sem,t4],by simp only[go_sem,t5],by simp only[go_sem,t6],g2,ns2,cs2,d.decs,d.utils,uh,by rw[aC];exact Nat.le_refl _,fun i h=>by rw[af,if_neg (by omega)];exact xold i h,by rw[af,if_neg (by omega)],by rw[af,if_neg (by omega)];exact hx3,by rw[af,if_pos rfl],uh1,uhc,hs2.mono (by omega),hu5,hd,hq2.mono fun v hv=>.inr fun x hx=>hdec v x hx hv,h02.2,by unfold gM;rw[if_pos h4,<- hB2],fun H3 h7 h8=>usame H3 (by rw[h7,aC];exact Nat.le_refl _) fun i h9 _=>by rw[h8 i (by omega) (by omega),af,if_neg (by omega)]⟩
 refine W.seq (ag _ _ _ (by rfl) ?_);simp only[go_sem,t2,k0,w8,h4];refine W.cond (t:=false) rfl ?_;by_cases h5:w % 8=4
 ·refine W.seq (ag _ _ _ (by rfl) ?_);simp only[go_sem,t2,k0,w8,h5];refine W.cond (t:=true) rfl ?_;refine ag _ _ _ (by rfl) ?_;obtain⟨nN,hn1,hn2,hn3⟩:∃ nN:Nat,IntKind.u64.wrap n=(nN:Int)/\nN<2 ^ 64/\nN=(n % 18446744073709551616).toNat:=by
   have h1:IntKind.u64.wrap n=n % 18446744073709551616:=rfl;refine⟨(n % 18446744073709551616).toNat,?_,?_,rfl⟩<;>omega
  have hxr:=fun t x y=>RE (P:=Try.prog) (t:=t) (x:=x) (y:=y) hd hn2;simp only[go_sem,t2,t5,k0,k3,hn1,hxr];refine(hΦ _).2 ⟨by simp only[go_sem,t4],by simp only[go_sem,t5],by simp only[go_sem,t6],d.grain,d.nodes,cs1,d.decs ^^^ nN,d.utils,uh,by rw[aC];exact Nat.le_refl _,fun i h=>by rw[af,if_neg (by omega)];exact xold i h,by rw[af,if_neg (by omega)],by rw[af,if_pos rfl],by rw[af,if_neg (by omega)];exact x4,uh1,uhc,hsm2,hu5,Nat.xor_lt_two_pow hd hn2,hqD _,Nat.le_succ _,by unfold gM;rw[if_neg h4,if_pos h5,if_pos h5,<- hn3,<- hcs1],fun H3 h7 h8=>usame H3 (by rw[h7,aC];exact Nat.le_refl _) fun i h9 _=>by rw[h8 i (by omega) (by omega),af,if_neg (by omega)]⟩
 refine W.seq (ag _ _ _ (by rfl) ?_);simp only[go_sem,t2,k0,w8,h5];refine W.cond (t:=false) rfl ?_;have ulen:eY Hx uh=some (aa d.utils.length):=by
  rcases hO with ⟨z1,z2,z3⟩|⟨id,gg,z1,z2,z3,z4,z5⟩
  ·rw[z1,z2];rfl
  ·rw[z3];unfold eY;simp [ah z5,aa]
 have hzero:¬ 0<d.utils.length->d.utils.length=0:=fun h=>by omega
 refine W.iG (fun s'=>s'.H=Hx/\s'.ρ 2=.ptr H.next 0 0/\s'.ρ 4=.ptr (H.next+2) 0 0/\s'.ρ 5=.ptr (H.next+3) 0 0/\s'.ρ 6=.ptr (H.next+4) 0 0/\s'.ρ 83=.lit (.bool (decide (w % 8=5/\0<d.utils.length)))) ?_ ?_
 ·refine ag _ _ _ (by rfl) ?_;by_cases h6:w % 8=5
  ·by_cases h7:0<d.utils.length
   ·have h7i:(0:Int)<d.utils.length:=(by omega);simp only[go_sem,t2,t5,k0,k3,ulen,w8,h6,h7,h7i];exact⟨t4,t6⟩
   ·have h7i:=hzero h7;simp only[go_sem,t2,t5,k0,k3,ulen,w8,h6,h7i];exact⟨t4,t6⟩
  ·simp only[go_sem,t2,t5,k0,w8,h6];exact⟨t4,t6⟩
 rintro⟨ρ6,H6⟩ ⟨hH,v2,v4,v5,v6,v83⟩;simp only at hH v2 v4 v5 v6 v83;rw[hH];clear hH H6;by_cases h6:w % 8=5/\0<d.utils.length
 ·have h7:=h6.2;rw[decide_eq_true h6]at v83;refine W.cond (t:=true) v83 ?_;rcases hO with ⟨_,z2,_⟩|⟨iu,gu,z1,z2,z3,z4,z5⟩
  ·omega
  subst z3;obtain⟨u,hu0,hP,hW,hpw⟩:=hP0 h7;obtain⟨cu,hcu⟩:∃ cu,cu=bZ d.utils d.utils.length pv wv:=⟨_,rfl⟩
  rw[<- hcu]at z4 z5;have ku:=ah z5;have hcl2:(aO d.utils).length=d.utils.length*2:=j7 _;have hcu':cu=((aO d.utils).set 0 pv).set 1 wv:=by rw[hcu];unfold bZ;rw[List.take_length]
  have cu0:cu[0]?=some pv:=by rw[hcu',List.getElem?_set_ne (by omega),List.getElem?_set_self (by omega)]
  have cune:=aR cu0;have h7i:(0:Int)<d.utils.length:=by omega
  have u1:=(hu.util u (List.mem_of_getElem? hu0)).1;obtain⟨pv2,H2,hA2,oP,n2,hp2⟩:=gf (P:=Try.prog) (H:=Hx) (t:=59) (x:=aa n) (n:=Hx.next+1) Try.underlying59 Try.dh Try.dG rfl (by rw[Try.dU,aT];omega) hP (by omega) rfl;simp only[aa]at hA2;have pne:∀ i g2 e2 c2,Hx.get i=some (.arr g2 e2 c2)->e2≠3->∀ g n,pv≠.own i g 0 n 1:=fun i g2 e2 c2 h1 h2 g n hv=>by
   rcases hP with ⟨h3,_⟩|⟨i3,g3,_,_,h3,h4⟩
   ·rw[h3]at hv;cases hv
   ·rw[h3]at hv;obtain rfl:=(AVal.own.inj hv).1;rw[h4]at h1;cases h1;exact h2 rfl
  have j1:H2.get iu=_:=(hp2 iu z2 (pne _ _ _ _ z5 (by decide))).trans z5;have ju:=ah j1;have jo:∀ i,i<H.next+5->H2.get i=Hx.get i:=fun i h=>hp2 i (by omega) (hP.ne h);have e1:setAt cu 0 [pv2]=bZ d.utils d.utils.length pv2 wv:=by
   rw[dW (by omega),hcu'];unfold bZ;rw[List.take_length,List.set_comm _ _ (by omega),List.set_set]
  have e1':(pv2 :: cu.drop 1)=bZ d.utils d.utils.length pv2 wv:=by rw[<- e1];rfl
  have pv21:=oP.one;have pv2c:=oP.cells;have c1l:1<=cu.length:=by omega
  have fin5:∀ E':Env,E' 4=.ptr (H.next+2) 0 0->E' 5=.ptr (H.next+3) 0 0->E' 6=.ptr (H.next+4) 0 0->Φ ⟨E',H2.upd iu (.arr gu 85 (bZ d.utils d.utils.length pv2 wv))⟩:=fun E' f4 f5 f6=>by
   refine(hΦ _).2 ⟨f4,f5,f6,d.grain,d.nodes,cs1,d.decs,d.utils.set 0 ⟨u.vars++[n],u.w⟩,_,by rw[aC];exact n2,fun i h=>by rw[af,if_neg (by omega),jo i (by omega)];exact xold i h,by rw[af,if_neg (by omega),jo _ (by omega)],by rw[af,if_neg (by omega),jo _ (by omega)];exact hx3,by rw[af,if_neg (by omega),jo _ (by omega)];exact x4,uh1,uhc,hsm2,⟨by rw[List.length_set];omega,fun u' hu'=>?_⟩,hd,hqD _,Nat.le_succ _,by unfold gM;rw[if_neg h4,if_neg h5,if_neg h5,<- hcs1];unfold oX;rw[hu0];simp only;rw[if_pos h6.1],fun H3 h7 h8=>?_⟩
   ·rcases List.mem_or_eq_of_mem_set hu' with h|rfl
    ·exact hu5.util u' h
    ·have:=hu.util u (List.mem_of_getElem? hu0);exact⟨by simp;omega,by show u.w.length<=_;omega⟩
   ·have k3':∀ i g2 e2 c2,H.next+5<=i->H2.get i=some (.arr g2 e2 c2)->e2≠85->H3.get i=H2.get i:=fun i g2 e2 c2 h1 h3 h4=>by
     rw[h8 i (by omega) (by omega),af,if_neg];rintro rfl;rw[j1]at h3;cases h3;exact h4 rfl
    have oP3:aB (H.next+5) H3 3 pv2 (ints (u.vars++[n])):=by
     have:=oP.keep (H':=H3) (Nat.le_refl _) (by rw[h7,aC];exact Nat.le_refl _) fun i g h1 _ h3 _=>k3' i g _ _ h1 h3 (by decide);simpa [ints] using this
    have oW3:aB (H.next+5) H3 3 wv (ints u.w):=hW.keep (Nat.le_refl _) (by rw[h7,aC];omega) fun i g h1 h2 h3 h4=>by
     have h5:H2.get i=Hx.get i:=hp2 i h2 fun g' n' hv=>hpw _ _ _ _ _ hv h4;exact(k3' i g _ _ h1 (h5.trans h3) (by decide)).trans h5
    refine ui (us:=d.utils) (pv:=pv2) (wv:=wv) (H:=H3) (.inr ⟨iu,gu,z1,by rw[h7,aC];omega,rfl,by rw[uf,List.take_length],by rw[h8 iu (by omega) (by omega),af,if_pos rfl]⟩) (fun i h=>by show H.next<=i;omega) (fun h=>by rw[h];rfl) fun _=>⟨⟨u.vars++[n],u.w⟩,rfl,oP3.dw fun i h=>by show H.next<=i;omega,oW3.dw fun i h=>by show H.next<=i;omega⟩
  refine W.draw 11 [0,1,0,4,12,28,60,0,128,384,1020] Try.mixed (by kernel_rfl) (by kernel_rfl) ?_;rcases hP with ⟨hv,_⟩|⟨i3,g3,_,_,hv,h4⟩
  ·subst hv;simp only[go_sem,v2,v5,k0,k3,ku,cu0,h7i,hA2,ju,pv21,pv2c,c1l]
   repeat' (first|refine And.intro ?_ ?_|(intro x hx;omega)|omega)
   rw[e1'];exact fin5 _ (by simp only[go_sem,v4]) (by simp only[go_sem,v5]) (by simp only[go_sem,v6])
  ·rw[aT]at hv;subst hv;simp only[go_sem,v2,v5,k0,k3,ku,cu0,h7i,hA2,ju,pv21,pv2c,c1l]
   repeat' (first|refine And.intro ?_ ?_|(intro x hx;omega)|omega)
   rw[e1'];exact fin5 _ (by simp only[go_sem,v4]) (by simp only[go_sem,v5]) (by simp only[go_sem,v6])
 rw[decide_eq_false h6]at v83;refine W.cond (t:=false) v83 ?_;have hP6:∃ b:Bool,(b=true↔w % 8=6/\∃ u,d.utils[0]?=some u/\0<u.w.length):=by
  classical exact⟨decide _,decide_eq_true_iff⟩
 obtain⟨b6,hb6⟩:=hP6;refine W.iG (fun s'=>s'.H=Hx/\s'.ρ 2=.ptr H.next 0 0/\s'.ρ 4=.ptr (H.next+2) 0 0/\s'.ρ 5=.ptr (H.next+3) 0 0/\s'.ρ 6=.ptr (H.next+4) 0 0/\s'.ρ 107=.lit (.bool b6)) ?_ ?_
 ·refine ag _ _ _ (by rfl) ?_;by_cases h7:w % 8=6
  ·by_cases h8:0<d.utils.length
   ·have h8i:(0:Int)<d.utils.length:=(by omega);rcases hO with ⟨_,z2,_⟩|⟨iu,gu,z1,z2,z3,z4,z5⟩
    ·omega
    subst z3;obtain⟨u,hu0,hP,hW,hpw⟩:=hP0 h8;obtain⟨cu,hcu⟩:∃ cu,cu=bZ d.utils d.utils.length pv wv:=⟨_,rfl⟩
    rw[<- hcu]at z4 z5;have ku:=ah z5;have hcl2:(aO d.utils).length=d.utils.length*2:=j7 _;have hcu':cu=((aO d.utils).set 0 pv).set 1 wv:=(by rw[hcu];unfold bZ;rw[List.take_length]);have cu1:cu[1]?=some wv:=(by rw[hcu',List.getElem?_set_self (by rw[List.length_set];omega)]);have cune:=aR cu1;have wlen:eY Hx wv=some (aa u.w.length):=by
     rcases hW with ⟨h1,h2⟩|⟨i,g',_,_,h1,h2⟩
     ·have:u.w.length=0:=(by have:=congrArg List.length h2;rwa [aT]at this);rw[h1,this];rfl
     ·rw[h1];unfold eY;simp [ah h2,aa,aT]
    by_cases h9:0<u.w.length
    ·have h9i:(0:Int)<u.w.length:=(by omega);have:b6=true:=hb6.2 ⟨h7,u,hu0,h9⟩;simp only[go_sem,v2,v5,k0,k3,ku,w8,h7,h8i,ulen,cu1,wlen,h9i];exact⟨v4,v6,by rw[this]⟩
    ·have h9i:¬ (0:Int)<u.w.length:=(by omega);have:b6=false:=by
      rw[<- Bool.not_eq_true,hb6];rintro⟨_,u',hu',h⟩;rw[hu0]at hu';cases hu';exact h9 h
     simp only[go_sem,v2,v5,k0,k3,ku,w8,h7,h8i,ulen,cu1,wlen,h9i];exact⟨v4,v6,by rw[this]⟩
   ·have h8i:=hzero h8;have:b6=false:=by
     rw[<- Bool.not_eq_true,hb6];rintro⟨_,u',hu',h⟩;have:=aG hu';omega
    simp only[go_sem,v2,v5,k0,k3,ulen,w8,h7,h8i];exact⟨v4,v6,by rw[this]⟩
  ·have:b6=false:=by
    rw[<- Bool.not_eq_true,hb6];exact fun h=>h7 h.1
   simp only[go_sem,v2,v5,k0,w8,h7];exact⟨v4,v6,by rw[this]⟩
 rintro⟨ρ7,H7⟩ ⟨hH,y2,y4,y5,y6,y107⟩;simp only at hH y2 y4 y5 y6 y107;rw[hH];clear hH H7 v2 v4 v5 v6 v83;refine W.cond (t:=b6) y107 ?_;cases hbb:b6;rotate_left
 ·obtain⟨h7,u0,hu0',h9⟩:=hb6.1 hbb;have h8:=aG hu0';have h8i:(0:Int)<d.utils.length:=by omega
  have h9i:(0:Int)<u0.w.length:=by omega
  have h9n:¬ (u0.w.length:Int)=0:=by omega
  rcases hO with ⟨_,z2,_⟩|⟨iu,gu,z1,z2,z3,z4,z5⟩
  ·omega
  subst z3;obtain⟨u,hu0,hP,hW,hpw⟩:=hP0 h8;obtain rfl:u=u0:=Option.some.inj (hu0.symm.trans hu0');rcases hW with ⟨_,hWn⟩|⟨iw,gw,r1,r2,r3,r4⟩
  ·have:=congrArg List.length hWn;rw[aT,List.length_nil]at this;omega
  rw[aT]at r3;obtain⟨cu,hcu⟩:∃ cu,cu=bZ d.utils d.utils.length pv wv:=⟨_,rfl⟩
  rw[<- hcu]at z4 z5;have ku:=ah z5;have kw:=ah r4;have hcl2:(aO d.utils).length=d.utils.length*2:=j7 _;have hcu':cu=((aO d.utils).set 0 pv).set 1 wv:=by rw[hcu];unfold bZ;rw[List.take_length]
  have cu1:cu[1]?=some (.own iw gw 0 u.w.length 1):=by rw[hcu',List.getElem?_set_self (by rw[List.length_set];omega),r3]
  have cune:=aR cu1;have wq:=IntWalk.i64_in a (by omega);have hRe:Int.tmod a u.w.length=a % u.w.length:=Int.tmod_eq_emod_of_nonneg ha.1;have hR0:=Int.emod_nonneg a h9n;have hR1:=Int.emod_lt_of_pos a h9i;obtain⟨Rn,hRn⟩:=Int.eq_ofNat_of_zero_le hR0;have wle:=(hu.util u (List.mem_of_getElem? hu0)).2;have wR:=IntWalk.i64_in (Rn:Int) (by omega);have hRl:Rn<u.w.length:=by omega
  have hRli:(Rn:Int)<u.w.length:=by omega
  have e1:setAt (ints u.w) Rn [.lit (.int .i64 n)]=ints (u.w.set Rn n):=fS hRl;have wne:¬ ints u.w=[]:=fun h=>by have:=congrArg List.length h;rw[aT,List.length_nil]at this;omega
  show W _ _ _ _ (Code.region ..) _ _;refine W.draw 18 [0,1,3,7,15,0,32,96,224,0,512,1536,3584,7680,15872,32736,0,65536] Try.mixed (by kernel_rfl) (by kernel_rfl) ?_;simp only[go_sem,y2,y5,k0,k3,ku,kw,cu1,h8i,h9n,wq,hRe,hRn,hRli,e1];refine⟨by omega,?_⟩;have wi:iw≠iu:=fun h=>by
   rw[h,z5]at r4;cases r4
  refine(hΦ _).2 ⟨by simp only[go_sem,y4],by simp only[go_sem,y5],by simp only[go_sem,y6],d.grain,d.nodes,cs1,d.decs,d.utils.set 0 ⟨u.vars,u.w.set Rn n⟩,_,by rw[aC];exact Nat.le_refl _,fun i h=>by rw[af,if_neg (by omega)];exact xold i h,by rw[af,if_neg (by omega)],by rw[af,if_neg (by omega)];exact hx3,by rw[af,if_neg (by omega)];exact x4,uh1,uhc,hsm2,⟨by rw[List.length_set];omega,fun u' hu'=>?_⟩,hd,hqD _,Nat.le_succ _,by unfold gM;rw[if_neg h4,if_neg h5,if_neg h5,<- hcs1];unfold oX;rw[hu0];simp only;rw[if_neg (by omega),if_pos ⟨h7,h9⟩,show (a % (u.w.length:Int)).toNat=Rn by omega],fun H3 h7 h8=>?_⟩
  ·rcases List.mem_or_eq_of_mem_set hu' with h|rfl
   ·exact hu5.util u' h
   ·have:=hu.util u (List.mem_of_getElem? hu0);exact⟨by show u.vars.length<=_;omega,by show (u.w.set Rn n).length<=_;rw[List.length_set];omega⟩
  ·have k3':∀ i,H.next+5<=i->i≠iw->H3.get i=Hx.get i:=fun i h1 h3=>by rw[h8 i (by omega) (by omega),af,if_neg h3]
   have oP3:aB (H.next+5) H3 3 pv (ints u.vars):=hP.keep (Nat.le_refl _) (by rw[h7,aC];exact Nat.le_refl _) fun i g h1 _ _ h4=>k3' i h1 fun h=>hpw _ _ _ gw u.w.length h4 (by rw[r3,h]);have oW3:aB (H.next+5) H3 3 wv (ints (u.w.set Rn n)):=.inr ⟨iw,gw,r1,by rw[h7,aC];exact r2,by rw[r3,aT,List.length_set],by rw[h8 iw (by omega) (by omega),af,if_pos rfl]⟩;refine ui (us:=d.utils) (pv:=pv) (wv:=wv) (H:=H3) (.inr ⟨iu,gu,z1,by rw[h7,aC];exact z2,rfl,by rw[uf,List.take_length],by rw[k3' iu z1 fun h=>wi h.symm,z5,hcu]⟩) (fun i h=>by show H.next<=i;omega) (fun h=>by rw[h];rfl) fun _=>⟨⟨u.vars,u.w.set Rn n⟩,rfl,oP3.dw fun i h=>by show H.next<=i;omega,oW3.dw fun i h=>by show H.next<=i;omega⟩
 ·show W _ _ _ _ (Code.block ..) _ _;refine W.block ?_;obtain⟨us2,hus2⟩:∃ us2,us2=d.utils++List.replicate 5 (⟨[],[1]⟩:UtilP):=⟨_,rfl⟩
  have hBd:∀ k:Nat,k=max d.utils.length 5->((⟨d.grain,d.nodes,d.decs,us2.take k⟩:InfP),cs1)=gM w w5 a r n5 n d:=fun k hk=>by
   unfold gM;rw[if_neg h4,if_neg h5,if_neg h5,<- hcs1];unfold oX;cases hu0:d.utils[0]? with
   | none =>
    have hl0:d.utils=[]:=List.eq_nil_of_length_eq_zero (by have:=List.getElem?_eq_none_iff.1 hu0;omega);rw[hus2,hl0,hk,hl0];rfl
   | some u =>
    have h8:=aG hu0;simp only;rw[if_neg (fun h=>h6 ⟨h,h8⟩),if_neg (fun h=>by
     have:=hb6.2 ⟨h.1,u,hu0,h.2⟩;rw[hbb]at this;cases this),hus2,hk]
  have tk:∀ k,k<=d.utils.length->us2.take k=d.utils.take k:=fun k h=>by rw[hus2,List.take_append_of_le_length h]
  have get2:∀ k,d.utils.length<=k->k<5->us2[k]?=some ⟨[],[1]⟩:=fun k h1 h2=>by rw[hus2,List.getElem?_append_right h1,List.getElem?_replicate,if_pos (by omega)]
  refine W.aK 4609434218613702656 (by rfl) (fun ρ Hy=>∃ (k:Nat) (uh:AVal),d.utils.length<=k/\(k<=5\/k=d.utils.length)/\Hx.next<=Hy.next/\(∀ i,i<H.next+5->i≠H.next+3->Hy.get i=Hx.get i)/\Hy.get (H.next+3)=some (.arr 0 39 [.lit (.int .i64 d.grain),.lit (.slice none 0 0),.lit (.int .u64 (d.decs:Int)),uh])/\ug us2 (H.next+5) k Hy uh) (fun ρ Hy=>5 - qS Hy (H.next+3)) ?_ ?_
  ·refine⟨d.utils.length,uh,Nat.le_refl _,.inr rfl,Nat.le_refl _,fun _ _ _=>rfl,hx3,pv,wv,?_,fun h=>?_⟩
   ·have:bZ us2 d.utils.length pv wv=bZ d.utils d.utils.length pv wv:=(by unfold bZ;rw[tk _ (Nat.le_refl _)]);rw[this];exact hO
   ·obtain⟨u,h1,h2⟩:=hP0 h;exact⟨u,by rw[hus2,List.getElem?_append_left h];exact h1,h2⟩
  rintro ρ8 Hy ⟨k,uhy,hk0,hk1,ny,yo,y3,pvy,wvy,yO,yPW⟩;refine W.env fun E3 hE3=>?_;have a4:E3 4=.ptr (H.next+2) 0 0:=by rw[hE3];simp only[go_sem,y4]
  have a5:E3 5=.ptr (H.next+3) 0 0:=by rw[hE3];simp only[go_sem,y5]
  have a6:E3 6=.ptr (H.next+4) 0 0:=by rw[hE3];simp only[go_sem,y6]
  clear hE3;have ky:=ah y3;have yl:eY Hy uhy=some (aa k)/\qS Hy (H.next+3)=k:=by
   unfold qS;rw[y3];rcases yO with ⟨z1,z2,z3⟩|⟨id,gg,z1,z2,z3,z4,z5⟩
   ·rw[z1,z2];exact⟨rfl,rfl⟩
   ·rw[z3];unfold eY;simp [ah z5,aa]
  obtain⟨yl1,yl2⟩:=yl;by_cases hk5:(k:Int)<5;rotate_left
  ·refine ag _ _ _ (by rfl) ?_;simp only[go_sem,a5,ky,yl1,hk5];have hl2:us2.length=d.utils.length+5:=(by rw[hus2];simp);have hlk:(us2.take k).length=k:=(by rw[List.length_take];omega);have hO3:bZ (us2.take k) (us2.take k).length pvy wvy=bZ us2 k pvy wvy:=(by unfold bZ;rw[List.take_length]);refine(hΦ _).2 ⟨by simp only[go_sem,a4],by simp only[go_sem,a5],by simp only[go_sem,a6],d.grain,d.nodes,cs1,d.decs,us2.take k,uhy,ny,fun i h=>by rw[yo i (by omega) (by omega)];exact xold i h,yo _ (by omega) (by omega),y3,(yo _ (by omega) (by omega)).trans x4,yO.one,yO.cells,hsm2,⟨by rw[hlk];omega,fun u hu'=>?_⟩,hd,hqD _,Nat.le_succ _,hBd k (by omega),fun H3 h7 h8=>?_⟩
   ·have:=List.mem_of_mem_take hu';rw[hus2]at this;rcases List.mem_append.1 this with h|h
    ·exact hu5.util u h
    ·rw[List.eq_of_mem_replicate h];exact⟨by simp,by simp⟩
   ·have h7':H3.next=Hy.next:=h7;have kk:∀ i,H.next+5<=i->H3.get i=Hy.get i:=fun i h=>h8 i (by omega) (by omega);refine ui (us:=us2.take k) (pv:=pvy) (wv:=wvy) (H:=H3) (by rw[hO3,hlk];exact yO.keep (by omega) fun i g h1 _ _=>kk i h1) (fun i h=>by show H.next<=i;omega) id fun hl=>?_;obtain⟨u,q1,qP,qW,_⟩:=yPW (by omega);exact⟨u,(jF (by rw[List.getElem?_take_of_lt (by omega)];exact q1)).symm,(qP.keep (Nat.le_refl _) (by omega) fun i g h1 _ _ _=>kk i h1).dw fun i h=>by show H.next<=i;omega,(qW.keep (Nat.le_refl _) (by omega) fun i g h1 _ _ _=>kk i h1).dw fun i h=>by show H.next<=i;omega⟩
  obtain⟨He,hHe⟩:∃ He,He=ext Hy [.arr 0 3 [.lit (.int .i64 1)]]:=⟨_,rfl⟩
  have ne':He.next=Hy.next+1:=by rw[hHe];rfl
  have oe:Over Hy He:=by rw[hHe];exact .ext _ _
  have hOe:bW (H.next+5) He 85 2 uhy k (bZ us2 k pvy wvy):=yO.over oe;obtain⟨uh2,H4,hA3,oZ,n4,hp4⟩:=mA (P:=Try.prog) (H:=He) (t:=37) (xs:=[.lit (.slice none 0 0),.own Hy.next 0 0 1 1]) (m:=Hy.next+2) Try.underlying37 Try.uj Try.um rfl rfl (by rw[Try.uk];omega) hOe (by omega) (by omega);have k4':∀ i,i<H.next+5->H4.get i=Hy.get i:=fun i h=>(hp4 i (by omega) (hOe.ne h)).trans (oe.old i (by omega));have l4:=ah ((k4' _ (by omega)).trans y3);have uh21:=oZ.one;have uh2c:=oZ.cells;rw[ne',hHe,fa]at hA3;simp only[List.cons_append,List.nil_append]at hA3;refine W.kv (Q':=fun e s2=>e=.normal/\Hy.next<=s2.H.next/\(∀ i,i<H.next+5->i≠H.next+3->s2.H.get i=Hx.get i)/\(∀ i g e c,H.next+5<=i->i<Hy.next->Hy.get i=some (.arr g e c)->e≠85->s2.H.get i=Hy.get i)/\s2.H.get (H.next+3)=some (.arr 0 39 [.lit (.int .i64 d.grain),.lit (.slice none 0 0),.lit (.int .u64 (d.decs:Int)),uh2])/\bW (H.next+5) s2.H 85 2 uh2 (k+1) (bZ us2 k pvy wvy++[.lit (.slice none 0 0),.own Hy.next 0 0 1 1])/\aB Hy.next s2.H 3 (.own Hy.next 0 0 1 1) (ints [1])) ?_ ?_
  ·refine ag _ _ _ (by rfl) ?_;simp only[go_sem,a5,ky,yl1,hk5,hA3,l4,uh21,uh2c];have hne4:∀ i g e c,He.get i=some (.arr g e c)->e≠85->∀ g n,uhy≠.own i g 0 n 2:=fun i g e c h1 h2 g' n hv=>by
    rcases hOe with ⟨h,_⟩|⟨i2,g2,_,_,h,_,h4⟩
    ·rw[h]at hv;cases hv
    ·rw[h]at hv;obtain rfl:=(AVal.own.inj hv).1;rw[h4]at h1;cases h1;exact h2 rfl
   have e3:He.get Hy.next=some (.arr 0 3 [.lit (.int .i64 1)]):=(by rw[hHe];exact br ..);refine⟨by rw[aC];omega,fun i h1 h2=>by rw[af,if_neg h2,k4' i h1];exact yo i h1 h2,fun i g e c h1 h2 h3 h4=>?_,by rw[af,if_pos rfl],oZ.keep (by rw[aC];exact Nat.le_refl _) fun i g h1 _ _=>by rw[af,if_neg (by omega)],.inr ⟨Hy.next,0,Nat.le_refl _,by rw[aC];omega,rfl,?_⟩⟩
   ·have h5:=oe.old i h2;rw[af,if_neg (by omega),hp4 i (by omega) (hne4 _ _ _ _ (h5.trans h3) h4),h5]
   ·rw[af,if_neg (by omega),hp4 _ (by omega) (hne4 _ _ _ _ e3 (by decide)),e3];rfl
  ·rintro e s2 ⟨rfl,n2,o2,kp2,g3,oZ2,oW2⟩;obtain⟨H3,hw3,n3,k3'',hI⟩:=B6 (P:=Try.prog) (get2 k hk0 (by omega)) (Hx:=Hy) (by omega) yPW (s2:=s2) n2 kp2 oZ2 .nil oW2 fun i g n g' n' h=>by cases h
   refine⟨⟨s2.ρ,H3⟩,hw3,by rw[n3];exact Nat.le_refl _,trivial,?_⟩;simp only[go_sem];have hg3:=(k3'' (H.next+3) (by omega)).trans g3;have ul2:qS H3 (H.next+3)=k+1:=by
    obtain⟨pv3,wv3,hO3,_⟩:=hI;unfold qS;rw[hg3];rcases hO3 with ⟨_,z2,_⟩|⟨id,gg,_,_,z3,_⟩
    ·omega
    ·rw[z3]
   rw[ul2,yl2];exact⟨by omega,⟨k+1,uh2,by omega,by omega,by omega,fun i h1 h2=>(k3'' i h1).trans (o2 i h1 h2),hg3,hI⟩,by omega⟩
end Go.Proofs
namespace Go.Proofs
open Go.Hx
structure B20 where
 w:Int
 w5:Int
 a:Int
 r:Int
 n5:Int
 n:Int
def B20.cells (b:B20):List AVal:=qR b.w (jt b.w5 b.a b.r b.n5) b.n
structure B20.Ok (b:B20):Prop where
 w:0<=b.w/\b.w<=255
 w5:0<=b.w5/\b.w5<=255
 a:0<=b.a/\b.a<=255
 r:0<=b.r/\b.r<=255
end Go.Proofs
namespace Go.Proofs.Ytcccmbeolcjacaa
open Go.ChangeShapes Go.WideShapes Go.ChangeAt Go.RowKit Go.Hx
section
variable {W:World} {H:Type} {enc:TypeId × Value->H} {spare:Nat->Bool} {held:Bool}
theorem qT {n:Int}(h:(Lit.int .u8 n).wf=true):0<=n/\n<=255:=by
 have:=kO h;unfold U8 at this;omega
theorem Nz:eg enc Try.prog W spare held 30 fun _ zs=>∃ w a r n:Int,zs=jt w a r n/\(0<=w/\w<=255)/\(0<=a/\a<=255)/\(0<=r/\r<=255):=by
 have hu:=Try.underlying30;have c1:=Try.mb;have c2:=Try.dh;refine(oh (φ:=fun i _ xs=>if i=3 then ∃ n,xs=[.lit (.int .i64 n)] else ∃ n,xs=[.lit (.int .u8 n)]/\(Lit.int .u8 n).wf=true) hu
  (fun cs hcs=>by
   have hc:Try.prog.cellsOf 30=4:=(by kernel_rfl);rw[hc]at hcs
   match cs,hcs with
   | [a,b,c,d],_=>simp [c1,c2])
  (fun i hi=>match i,hi with
   | 0,_=>(iA Try.underlying5).mono fun _ _ ⟨n,_,h,w⟩=>⟨n,h,w⟩
   | 1,_=>(iA Try.underlying5).mono fun _ _ ⟨n,_,h,w⟩=>⟨n,h,w⟩
   | 2,_=>(iA Try.underlying5).mono fun _ _ ⟨n,_,h,w⟩=>⟨n,h,w⟩
   | 3,_=>(iA Try.underlying3).mono fun _ _ ⟨n,_,h,_⟩=>⟨n,h⟩)).mono fun d zs ⟨ds,rows,_,e,hl1,hl2,hall⟩=>?_
 match rows,ds,hl2,hl1,hall with
 | [x,y,z,u],[d0,d1,d2,d3],_,_,hall =>
  obtain⟨n0,e0,w0⟩:=hall 0 (by simp) (by simp);obtain⟨n1,e1,w1⟩:=hall 1 (by simp) (by simp);obtain⟨n2,e2,w2⟩:=hall 2 (by simp) (by simp);obtain⟨n3,e3⟩:=hall 3 (by simp) (by simp);simp only[List.getElem_cons_zero,List.getElem_cons_succ]at e0 e1 e2 e3;subst e0;subst e1;subst e2;subst e3;exact⟨n0,n1,n2,n3,by rw[e];rfl,qT w0,qT w1,qT w2⟩
theorem NA:eg enc Try.prog W spare held 32 fun _ zs=>∃ b:B20,zs=b.cells/\b.Ok:=by
 have hu:=Try.underlying32;have c1:=Try.mb;have c2:=Try.dh;have c3:=Try.Ce;refine(oh (φ:=fun i _ xs=>if i=0 then ∃ n,xs=[.lit (.int .u8 n)]/\(Lit.int .u8 n).wf=true else if i=1 then ∃ w a r n:Int,xs=jt w a r n/\(0<=w/\w<=255)/\(0<=a/\a<=255)/\(0<=r/\r<=255) else ∃ n,xs=[.lit (.int .i64 n)]) hu
  (fun cs hcs=>by
   have hc:Try.prog.cellsOf 32=6:=(by kernel_rfl);rw[hc]at hcs
   match cs,hcs with
   | [a,b,c,d,e,f],_=>simp [c1,c2,c3])
  (fun i hi=>match i,hi with
   | 0,_=>(iA Try.underlying5).mono fun _ _ ⟨n,_,h,w⟩=>⟨n,h,w⟩
   | 1,_=>Nz.mono fun _ _ h=>h
   | 2,_=>(iA Try.underlying3).mono fun _ _ ⟨n,_,h,_⟩=>⟨n,h⟩)).mono fun d zs ⟨ds,rows,_,e,hl1,hl2,hall⟩=>?_
 match rows,ds,hl2,hl1,hall with
 | [x,y,z],[d0,d1,d2],_,_,hall =>
  obtain⟨n0,e0,w0⟩:=hall 0 (by simp) (by simp);obtain⟨w5,a,r,n5,e1,k0,k1,k2⟩:=hall 1 (by simp) (by simp);obtain⟨n,e2⟩:=hall 2 (by simp) (by simp);simp only[List.getElem_cons_zero,List.getElem_cons_succ]at e0 e1 e2;subst e0;subst e1;subst e2;exact⟨⟨n0,w5,a,r,n5,n⟩,by rw[e];rfl,⟨qT w0,k0,k1,k2⟩⟩
theorem NB {r:Reach}{b:Nat}{v:Value}{d:DataW H}{ps:List MemPlace}(hval:Value.okWide Try.prog W r b 32 v)(hd:DataW.Trod enc Try.prog W 0 spare held 32 v d ps):
  ∃ x:B20,RelV Try.prog fX bX W (.agg x.cells) v/\x.Ok:=by
 obtain⟨xs,h1,x,rfl,h2⟩:=Ap NA (.inl ⟨_,Try.underlying32⟩) hval hd;exact⟨x,h1,h2⟩
end
end Go.Proofs.Ytcccmbeolcjacaa
namespace Go.Proofs
open Go.Hx
theorem RP {d:InfP}(hn:RightN d)(hsz:au (aq d.nodes)<=1024):cU d=bF d fun _ _=>0:=by
 apply List.ext_getElem?;intro v;rcases Nat.lt_or_ge v d.nodes.length with hv|hv
 ·obtain⟨x,hx⟩:=ay hv;rw[pj hx,gT hx];unfold ik;by_cases hb:d.decs.testBit v=true
  ·obtain⟨x1,x2⟩:=hn.dec v x hx hb;have hc:=hn.card x (List.mem_of_getElem? hx);rw[if_pos ⟨hb,x1,hc.1,hc.2⟩,ki hx hb];have hle:=ry x2 hn.card;rw[CS (fun q hq=>by have:=x2.2 q hq;omega) hn.card (by omega),x1,List.nil_append];congr 2;unfold cM cw;rw[List.map_const',List.length_range]
  ·rw[if_neg fun h=>hb h.1,kj hb]
 ·rw[List.getElem?_eq_none (by rw[ja];exact hv),List.getElem?_eq_none (by rw[dV];exact hv)]
theorem zk (d:InfP)(v:Nat)(x:NodeP):(ik d v x).card=x.card/\(ik d v x).parents=x.parents:=by
 unfold ik;split<;>exact⟨rfl,rfl⟩
theorem zm (d:InfP):aq (cU d)=aq d.nodes:=by
 apply List.ext_getElem?;intro v;unfold aq;rw[List.getElem?_map,List.getElem?_map];rcases Nat.lt_or_ge v d.nodes.length with hv|hv
 ·obtain⟨x,hx⟩:=ay hv;rw[pj hx,hx];simp [(zk d v x).1]
 ·rw[List.getElem?_eq_none (by rw[ja];exact hv),List.getElem?_eq_none hv]
structure RightA (d:InfP):Prop where
 n1:1<=d.nodes.length/\d.nodes.length<=8
 decs:d.decs >>> d.nodes.length=0
 ul:d.utils.length<=4
def Ee (d:InfP)(k:Nat):Prop:=∀ v x,v<k->d.nodes[v]?=some x->d.decs.testBit v=true->x.rows=[]
theorem rR {d:InfP}:InfOk d↔RightA d/\Ee d d.nodes.length/\NetOk d.grain (cU d)/\∀ u∈d.utils,UtilOk d.nodes u:=by
 constructor
 ·intro h;refine⟨⟨h.n.n1,h.n.decs,h.utils.1⟩,fun v x _ hx hb=>(h.n.dec v x hx hb).1,?_,h.utils.2⟩;rw[yy h];exact h.net
 ·rintro⟨ha,hd,hn,hu⟩;have hg:∀ x∈d.nodes,(1<=x.card/\x.card<=4)/\bT x.parents d.nodes.length:=fun x hx=>by
   obtain⟨v,hv⟩:=List.mem_iff_getElem?.1 hx;have h1:=hn.node _ (List.mem_of_getElem? (pj hv));rw[(zk d v x).1,(zk d v x).2,ja]at h1;exact h1
  have hR:RightN d:=⟨ha.n1,ha.decs,fun x hx=>(hg x hx).1,fun v x hx hb=>⟨hd v x (aG hx) hx hb,(hg x (List.mem_of_getElem? hx)).2⟩⟩
  have hs:=hn.size;rw[zm]at hs;exact⟨hR,by rw[<- RP hR hs];exact hn,ha.ul,hu⟩
theorem RQ {d:InfP}(hf:InfFit d){v:Nat}{x:NodeP}(hx:x∈d.nodes):((ik d v x).parents.length:Int)<2 ^ 38/\((ik d v x).rows.length:Int)<2 ^ 38/\∀ r∈(ik d v x).rows,(r.length:Int)<2 ^ 38:=by
 obtain⟨h1,h2,h3⟩:=hf.nodes.2 x hx;unfold ik;split
 ·rename_i hc;have hr:=yx d.nodes x.parents;refine⟨h1,by simp;omega,fun r hr=>?_⟩;rw[List.eq_of_mem_replicate hr,rF];omega
 ·exact⟨h1,h2,h3⟩
theorem RS {d:InfP}(hf:InfFit d):mu (cU d):=by
 refine⟨by rw[ja];exact hf.nodes.1,fun y hy=>?_⟩;obtain⟨v,hv⟩:=List.mem_iff_getElem?.1 hy;have hl:=aG hv;rw[ja]at hl;obtain⟨x,hx⟩:=ay hl;rw[pj hx]at hv;cases hv;exact RQ hf (List.mem_of_getElem? hx)
end Go.Proofs
