/- Own work: contracts. -/
import Derived.Test.YteolcdbjdgimhaaConB
import Derived.Test.YteolcdbjdgimhaaRows
import Derived.Test.YteolcdbjdgimhaaLibC
import Derived.ProofKit
import Derived.Test.YteolcdbjdgimhaaConA
set_option linter.all false
set_option maxRecDepth 100000
namespace Go.Proofs
open Go.Hx
structure TopoR (ps:List Nat)(r:List Nat):Prop where
 len:r.length=ps.length
 nd:r.Nodup
 rng:∀ v∈r,v<ps.length
 rk:∀ (i v:Nat),r[i]?=some v->∀ u,(ps.getD v 0).testBit u=true->∃ j,j<i/\r[j]?=some u
theorem topoGo_R {ps:List Nat}(hp:∀ p∈ps,p<2 ^ 64):∀ (k:Nat) (out:List Nat) (done:Nat) (r:List Nat),topoGo ps k out done=some r->(∀ i,done.testBit i=true↔i∈out)->out.Nodup->(∀ v∈out,v<ps.length)->(∀ (i v:Nat),out[i]?=some v->∀ u,(ps.getD v 0).testBit u=true->∃ j,j<i/\out[j]?=some u) ->
  r.length=out.length+k/\r.Nodup/\(∀ v∈r,v<ps.length)/\(∀ (i v:Nat),r[i]?=some v->∀ u,(ps.getD v 0).testBit u=true->∃ j,j<i/\r[j]?=some u):=by
 intro k
 induction k with
 | zero =>
  intro out done r h h1 h2 h3 h4
  unfold topoGo at h
  cases h
  exact⟨rfl,h2,h3,h4⟩
 | succ k ih =>
  intro out done r h h1 h2 h3 h4
  unfold topoGo at h
  cases hn:nextT ps done with
  | none=>rw[hn]at h;cases h
  | some v =>
   rw[hn]at h
   obtain⟨a,b,c⟩:=nextT_some hp hn
   have hvo:v ∉ out:=fun hm=>by rw[(h1 v).2 hm]at b;cases b
   obtain⟨e1,e2,e3,e4⟩:=ih (out++[v]) (done ||| 2 ^ v) r h (fun i=>by
    rw[or_pow_bit,List.mem_append,List.mem_singleton,Bool.or_eq_true,h1,decide_eq_true_eq]
    exact or_congr Iff.rfl eq_comm) (List.nodup_append.2 ⟨h2,by simp,fun x hx y hy=>by obtain rfl:=List.mem_singleton.1 hy;rintro rfl;exact hvo hx⟩) (fun x hx=>by
    rcases List.mem_append.1 hx with hx|hx
    ·exact h3 x hx
    ·obtain rfl:=List.mem_singleton.1 hx;exact a) (fun i x hx u hu=>by
    have hl:=get_lt hx
    rw[List.length_append,List.length_singleton]at hl
    rcases Nat.lt_or_ge i out.length with hi|hi
    ·rw[List.getElem?_append_left hi]at hx
     obtain⟨j,j1,j2⟩:=h4 i x hx u hu
     exact⟨j,j1,by rw[List.getElem?_append_left (by omega)];exact j2⟩
    ·obtain rfl:i=out.length:=by omega
     simp only[List.getElem?_concat_length,Option.some.injEq]at hx
     subst hx
     obtain⟨j,hj⟩:=List.mem_iff_getElem?.1 ((h1 u).1 (c u hu))
     exact⟨j,get_lt hj,by rw[List.getElem?_append_left (get_lt hj)];exact hj⟩)
   exact⟨by rw[e1,List.length_append,List.length_singleton];omega,e2,e3,e4⟩
theorem topoR {ps:List Nat}(hp:∀ p∈ps,p<2 ^ 64){r:List Nat}(h:topo ps=some r):TopoR ps r:=by
 obtain⟨e1,e2,e3,e4⟩:=topoGo_R hp ps.length [] 0 r h (fun i=>by simp) (by simp) (by simp) (by simp)
 exact⟨by simpa using e1,e2,e3,e4⟩
theorem nodup_len:∀ (n:Nat) (l:List Nat),l.Nodup->(∀ v∈l,v<n)->l.length<=n:=by
 intro n
 induction n with
 | zero=>intro l _ h;cases l with
  | nil=>simp
  | cons a l=>exact absurd (h a (by simp)) (Nat.not_lt_zero _)
 | succ n ih =>
  intro l hd h
  have h1:=ih (l.erase n) (hd.erase n) fun v hv=>by
   have h2:=(hd.mem_erase_iff).1 hv
   have:=h v h2.2
   omega
  have h3:=List.length_erase (a:=n) (l:=l)
  split at h3<;>omega
def Bef (r:List Nat)(i v:Nat):Prop:=∃ j,j<i/\r[j]?=some v
theorem Bef.up {r:List Nat}{i k v:Nat}(h:Bef r i v)(hk:i<=k):Bef r k v:=h.imp fun j hj=>⟨by omega,hj.2⟩
structure DrD (ns:List NodeP)(r:List Nat)(rem:Bool)(i known decs:Nat)(os:List Nat)(ms:List NodeP):Prop where
 card:cardsL ms=cardsL ns
 old:∀ v,decs.testBit v=false->ms[v]?=ns[v]?
 dec:∀ v x,ms[v]?=some x->decs.testBit v=true->x.rows=[]/\∃ s j,x.parents=bitsL s 8/\j<i/\r[j]?=some v/\∀ u,s.testBit u=true->Bef r j u
 decsb:∀ v,decs.testBit v=true->Bef r i v
 knownb:∀ v,known.testBit v=true->Bef r i v
 os3:os.length<=3
 osm:∀ v,v∈os↔decs.testBit v=true
 osp:rem=true->os.Pairwise fun u v=>∀ x y,ms[u]?=some x->ms[v]?=some y->Sub (setN x.parents ||| 2 ^ u) (setN y.parents)
 osk:rem=true->∀ u∈os,∀ x,ms[u]?=some x->Sub (setN x.parents ||| 2 ^ u) known
theorem DrD.len {ns ms:List NodeP}{r os:List Nat}{rem:Bool}{i known decs:Nat}(h:DrD ns r rem i known decs os ms):ms.length=ns.length:=by
 have:=congrArg List.length h.card
 simpa [cardsL] using this
theorem DrD.start (ns:List NodeP)(r:List Nat)(rem:Bool):DrD ns r rem 0 0 0 [] ns :=
 ⟨rfl,fun _ _=>rfl,fun v x _ h=>by simp at h,fun v h=>by simp at h,fun v h=>by simp at h,by simp,fun v=>by simp,fun _=>.nil,fun _ u hu=>by cases hu⟩
theorem DrD.skip {ns ms:List NodeP}{r os:List Nat}{rem:Bool}{i known decs:Nat}(h:DrD ns r rem i known decs os ms):DrD ns r rem (i+1) known decs os ms :=
 ⟨h.card,h.old,fun v x hx hb=>by
  obtain⟨a,s,j,b,c,d⟩:=h.dec v x hx hb
  exact⟨a,s,j,b,by omega,d⟩,fun v hb=>(h.decsb v hb).up (by omega),fun v hb=>(h.knownb v hb).up (by omega),h.os3,h.osm,h.osp,h.osk⟩
theorem setN_bitsL {s:Nat}(h:s<2 ^ 8):setN (bitsL s 8)=s:=by
 have h0:∀ p∈bitsL s 8,0<=p:=fun p hp=>by obtain⟨v,rfl,_⟩:=mem_bitsL.1 hp;omega
 refine Nat.eq_of_testBit_eq fun i=>?_
 rw[setN_bit h0]
 cases hb:s.testBit i with
 | true=>exact decide_eq_true (mem_bitsL.2 ⟨i,rfl,bit_lt h hb,hb⟩)
 | false =>
  refine decide_eq_false fun hm=>?_
  obtain⟨v,e,_,hv⟩:=mem_bitsL.1 hm
  obtain rfl:i=v:=by omega
  rw[hb]at hv;cases hv
theorem bef_lt {r:List Nat}{n i v:Nat}(hr:∀ v∈r,v<n)(h:Bef r i v):v<n:=h.elim fun _ hj=>hr v (List.mem_of_getElem? hj.2)
theorem befs_lt {r:List Nat}{n i s:Nat}(hr:∀ v∈r,v<n)(h:∀ v,s.testBit v=true->Bef r i v):s<2 ^ n:=lt_two_pow_of_bits fun v hv=>bef_lt hr (h v hv)
theorem DrD.step {ns ms:List NodeP}{r os:List Nat}{rem:Bool}{i known decs:Nat}(h:DrD ns r rem i known decs os ms)(hr:TopoR (setsL ns) r)(h8:ns.length<=8)(ho:os.length<3){v:Nat}(hv:r[i]?=some v){x:NodeP}(hx:ns[v]?=some x){s:Nat}(hs:Sub s (setN x.parents)):
  decs.testBit v=false/\v<ns.length/\(if rem then s ||| known else s)<2 ^ ns.length /\
  DrD ns r rem (i+1) (known ||| (if rem then s ||| known else s) ||| 2 ^ v) (decs ||| 2 ^ v) (os++[v]) (ms.set v ⟨x.card,bitsL (if rem then s ||| known else s) 8,[]⟩):=by
 obtain⟨s',hs'⟩:∃ s',s'=(if rem then s ||| known else s):=⟨_,rfl⟩
 rw[<- hs']
 have hsl:(setsL ns).length=ns.length:=by simp [setsL]
 have hrng:=hr.rng
 rw[hsl]at hrng
 have hvn:=hrng v (List.mem_of_getElem? hv)
 have hml:=h.len
 have inj:∀ j,r[j]?=some v->j=i:=fun j hj=>(List.getElem?_inj (get_lt hj) hr.nd).1 (by rw[hj,hv])
 have hdv:decs.testBit v=false:=by
  cases hb:decs.testBit v with
  | false=>rfl
  | true =>
   obtain⟨j,j1,j2⟩:=h.decsb v hb
   have:=inj j j2
   omega
 have sb:∀ u,s.testBit u=true->Bef r i u:=fun u hu=>hr.rk i v hv u (by rw[getD_of_get (setsL_get hx)];exact hs u hu)
 have sb':∀ u,s'.testBit u=true->Bef r i u:=fun u hu=>by
  rw[hs']at hu
  cases rem with
  | false=>exact sb u hu
  | true =>
   rw[if_pos rfl,Nat.testBit_or,Bool.or_eq_true]at hu
   exact hu.elim (sb u) (h.knownb u)
 have hlt:=befs_lt hrng sb'
 have hlt8:s'<2 ^ 8:=Nat.lt_of_lt_of_le hlt (Nat.pow_le_pow_right (by decide) h8)
 have selfv:(ms.set v ⟨x.card,bitsL s' 8,[]⟩)[v]?=some ⟨x.card,bitsL s' 8,[]⟩:=List.getElem?_set_self (by omega)
 have othv:∀ u,u≠v->(ms.set v ⟨x.card,bitsL s' 8,[]⟩)[u]?=ms[u]?:=fun u hu=>List.getElem?_set_ne (fun e=>hu e.symm)
 have osv:v ∉ os:=fun hm=>by rw[(h.osm v).1 hm]at hdv;cases hdv
 refine⟨hdv,hvn,hlt,⟨?_,fun u hu=>?_,fun u y hy hu=>?_,fun u hu=>?_,fun u hu=>?_,by simp;omega,fun u=>?_,fun hrem=>?_,fun hrem u hu y hy=>?_⟩⟩
 ·rw[<- h.card]
  unfold cardsL
  rw[List.map_set]
  apply List.ext_getElem?
  intro k
  rw[List.getElem?_set]
  split
  ·rename_i e
   subst e
   have:=h.card
   have h1:(cardsL ms)[v]?=(cardsL ns)[v]?:=by rw[this]
   rw[if_pos (by rw[List.length_map];omega)]
   rw[cards_get hx]at h1
   exact h1.symm
  ·rfl
 ·rw[or_pow_bit,Bool.or_eq_false_iff,decide_eq_false_iff_not]at hu
  rw[othv u (fun e=>hu.2 e.symm)]
  exact h.old u hu.1
 ·by_cases e:u=v
  ·subst e
   rw[selfv]at hy
   cases hy
   exact⟨rfl,s',i,rfl,by omega,hv,sb'⟩
  ·rw[othv u e]at hy
   rw[or_pow_bit,Bool.or_eq_true,decide_eq_true_eq]at hu
   obtain⟨a,s2,j,b,c,d⟩:=h.dec u y hy (hu.resolve_right fun e'=>e e'.symm)
   exact⟨a,s2,j,b,by omega,d⟩
 ·rw[or_pow_bit,Bool.or_eq_true,decide_eq_true_eq]at hu
  rcases hu with hu|rfl
  ·exact(h.decsb u hu).up (by omega)
  ·exact⟨i,by omega,hv⟩
 ·rw[or_pow_bit,Nat.testBit_or,Bool.or_eq_true,Bool.or_eq_true,decide_eq_true_eq]at hu
  rcases hu with (hu|hu)|rfl
  ·exact(h.knownb u hu).up (by omega)
  ·exact(sb' u hu).up (by omega)
  ·exact⟨i,by omega,hv⟩
 ·rw[or_pow_bit,List.mem_append,List.mem_singleton,h.osm,Bool.or_eq_true,decide_eq_true_eq]
  exact or_congr Iff.rfl eq_comm
 ·refine List.pairwise_append.2 ⟨(h.osp hrem).imp_of_mem fun {a b} ha hb hab p q hp hq=>?_,by simp,fun a ha b hb p q hp hq=>?_⟩
  ·rw[othv a (fun e=>osv (e ▸ ha))]at hp
   rw[othv b (fun e=>osv (e ▸ hb))]at hq
   exact hab p q hp hq
  ·obtain rfl:=List.mem_singleton.1 hb
   rw[othv a (fun e=>osv (e ▸ ha))]at hp
   rw[selfv]at hq
   cases hq
   rw[show setN (⟨x.card,bitsL s' 8,[]⟩:NodeP).parents=s' from setN_bitsL hlt8,hs',if_pos hrem]
   exact(h.osk hrem a ha p hp).trans (Sub.right _ _)
 ·rcases List.mem_append.1 hu with hu|hu
  ·rw[othv u (fun e=>osv (e ▸ hu))]at hy
   exact((h.osk hrem u hu y hy).trans (Sub.left _ _)).trans (Sub.left _ _)
  ·obtain rfl:=List.mem_singleton.1 hu
   rw[selfv]at hy
   cases hy
   rw[show setN (⟨x.card,bitsL s' 8,[]⟩:NodeP).parents=s' from setN_bitsL hlt8]
   exact Sub.or ((Sub.right known s').trans (Sub.left _ _)) (Sub.right _ _)
structure DrI (rem:Bool)(d:InfP):Prop where
 ok:InfOk d
 n5:d.nodes.length<=5
 rows:∀ v x,d.nodes[v]?=some x->d.decs.testBit v=false->x.rows≠[]
 os:∃ os:List Nat,os.length<=3/\(∀ v,v∈os↔d.decs.testBit v=true)/\(rem=true->os.Pairwise fun u v=>∀ x y,d.nodes[u]?=some x->d.nodes[v]?=some y->Sub (setN x.parents ||| 2 ^ u) (setN y.parents))
theorem rows_ne {g:Int}{ns:List NodeP}(h:NetOk g ns):∀ x∈ns,x.rows≠[]:=fun x hx he=>by
 have h1:=(h.rows x hx).1
 have h2:=prodL_pos (l:=parC ns x) fun c hc=>(parC_mem (fun q hq=>by have:=(h.node x hx).2.2 q hq;omega) (fun y hy=>(h.node y hy).1) c hc).1
 rw[he]at h1
 simp at h1
 omega
theorem DrD.fin {g:Int}{ns ms:List NodeP}{r os:List Nat}{rem:Bool}{i known decs:Nat}(h:DrD ns r rem i known decs os ms)(hn:NetOk g ns)(hr:TopoR (setsL ns) r)(h5:ns.length<=5){us:List UtilP}(hul:us.length<=4)(hus:∀ u∈us,UtilOk ns u):
  DrI rem ⟨g,ms,decs,us⟩:=by
 have hsl:(setsL ns).length=ns.length:=by simp [setsL]
 have hrng:=hr.rng
 rw[hsl]at hrng
 have hml:=h.len
 have hdl:decs<2 ^ ns.length:=befs_lt hrng h.decsb
 have getN:∀ (v:Nat) (x:NodeP),ms[v]?=some x->∃ y,ns[v]?=some y/\y.card=x.card:=fun v x hx=>by
  obtain⟨y,hy⟩:=get_of_lt (l:=ns) (i:=v) (by have:=get_lt hx;omega)
  refine⟨y,hy,?_⟩
  have h1:(cardsL ms)[v]?=(cardsL ns)[v]?:=by rw[h.card]
  rw[cards_get hx,cards_get hy]at h1
  exact(Option.some.inj h1).symm
 have hcard:∀ x∈ms,1<=x.card/\x.card<=4:=fun x hx=>by
  obtain⟨v,hv⟩:=List.mem_iff_getElem?.1 hx
  obtain⟨y,hy,e⟩:=getN v x hv
  rw[<- e]
  exact(hn.node y (List.mem_of_getElem? hy)).1
 have hpl:∀ (v:Nat) (x:NodeP),ms[v]?=some x->PlacesOk x.parents ms.length:=fun v x hx=>by
  cases hb:decs.testBit v with
  | false =>
   rw[h.old v hb]at hx
   have:=(hn.node x (List.mem_of_getElem? hx)).2
   rw[hml];exact this
  | true =>
   obtain⟨_,s,j,e,_,_,hs⟩:=h.dec v x hx hb
   rw[e]
   refine⟨bitsL_pw _ _,fun q hq=>?_⟩
   obtain⟨u,rfl,_,hu⟩:=mem_bitsL.1 hq
   have:=bef_lt hrng (hs u hu)
   rw[hml]
   omega
 have hR:RightN ⟨g,ms,decs,us⟩:=⟨by show 1<=ms.length/\ms.length<=8;rw[hml];exact hn.n1,by show decs >>> ms.length=0;rw[hml,Nat.shiftRight_eq_div_pow];exact Nat.div_eq_of_lt hdl,hcard,fun v x hx hb=>⟨(h.dec v x hx hb).1,hpl v x hx⟩⟩
 have hperm:IsPerm ns.length (natsI r):=⟨by rw[show (natsI r).length=r.length by simp [natsI],hr.len,hsl],by
  unfold natsI
  exact List.Pairwise.map _ (R:=(·≠·)) (fun a b h e=>h (by omega)) hr.nd,fun q hq=>by
  obtain⟨v,hv,rfl⟩:=List.mem_map.1 hq
  have:=hrng v hv
  omega⟩
 have natg:∀ (j v:Nat),(natsI r)[j]?=some (v:Int)↔r[j]?=some v:=fun j v=>by
  unfold natsI
  rw[List.getElem?_map,Option.map_eq_some_iff]
  exact⟨fun ⟨a,h1,h2⟩=>by rw[h1];congr 1;omega,fun h1=>⟨v,h1,rfl⟩⟩
 have hacy:AcycB (setsL ms):=by
  refine acyc_of_order (P:=natsI r) (by rw[hml];exact hperm) (fun v hv=>?_) fun j v x hj hx q hq=>?_
  ·refine Classical.byContradiction fun hno=>?_
   rw[hml]at hv
   have hsub:(v :: r).length<=ns.length:=by
    have hnd:(v :: r).Nodup:=List.nodup_cons.2 ⟨fun hm=>hno (List.mem_map.2 ⟨v,hm,rfl⟩),hr.nd⟩
    exact nodup_len ns.length _ hnd fun u hu=>by
     rcases List.mem_cons.1 hu with rfl|hu
     ·exact hv
     ·exact hrng u hu
   rw[List.length_cons,hr.len,hsl]at hsub
   omega
  ·have q0:=((hpl v x hx).2 q hq).1
   refine⟨q0,?_⟩
   have hj':=(natg j v).1 hj
   obtain⟨u,rfl⟩:=Int.eq_ofNat_of_zero_le q0
   cases hb:decs.testBit v with
   | false =>
    rw[h.old v hb]at hx
    obtain⟨k,k1,k2⟩:=hr.rk j v hj' u (by
     rw[getD_of_get (setsL_get hx),setN_bit fun p hp=>((hn.node x (List.mem_of_getElem? hx)).2.2 p hp).1]
     exact decide_eq_true hq)
    exact⟨k,k1,(natg k u).2 k2⟩
   | true =>
    obtain⟨_,s,j',e,_,hj2,hs⟩:=h.dec v x hx hb
    rw[e]at hq
    obtain⟨u',eu,_,hu⟩:=mem_bitsL.1 hq
    obtain rfl:u=u':=by omega
    obtain rfl:j'=j:=(List.getElem?_inj (get_lt hj2) hr.nd).1 (by rw[hj2,hj'])
    obtain⟨k,k1,k2⟩:=hs u hu
    exact⟨k,k1,(natg k u).2 k2⟩
 have hpc:∀ x,parC ms x=parC ns x:=fun x=>by unfold parC;rw[h.card]
 refine⟨⟨hR,⟨hn.g1,by rw[fillL_len];exact hR.n1,fun y hy=>?_,?_,by rw[fillL_sets];exact hacy,fun y hy=>?_⟩,hul,fun u hu=>?_⟩,by show ms.length<=5;omega,fun v x hx hb=>?_,os,h.os3,h.osm,h.osp⟩
 ·obtain⟨v,x,hx,rfl⟩:=fillL_mem hy
  rw[(fillN_card ..).1,(fillN_card ..).2,fillL_len]
  exact⟨hcard x (List.mem_of_getElem? hx),hpl v x hx⟩
 ·rw[fillL_card]
  show prodL (cardsL ms)<=1024
  rw[h.card]
  exact hn.size
 ·obtain⟨v,x,hx,rfl⟩:=fillL_mem hy
  have hcx:=hcard x (List.mem_of_getElem? hx)
  have hx':ms[v]?=some x:=hx
  unfold NodeOk
  rw[parC_fill]
  by_cases hb:decs.testBit v=true
  ·rw[fillN_dec hx hb]
   have x1:=(hR.dec v x hx hb).1
   have hsm:=(parC_small (x:=x) (ns:=ms) hR.n1.2 (hpl v x hx) hcard).prod
   refine⟨?_,fun q hq=>?_⟩
   ·show ((x.rows++decRows g ms (fun _ _=>0) _ x).length:Int)=prodL (parC ms x)
    rw[x1]
    simp only[decRows,List.nil_append,List.length_map,List.length_range,rowsN]
    omega
   ·rw[show ({ x with rows:=x.rows++decRows g ms (fun _ _=>0) (placeD decs v) x }:NodeP).rows=x.rows++decRows g ms (fun _ _=>0) (placeD decs v) x from rfl,x1,List.nil_append]at hq
    unfold decRows at hq
    obtain⟨i,hi,rfl⟩:=List.mem_map.1 hq
    have:=hn.g1
    exact unitRow_ok (by show 0<=g;omega) ⟨Int.le_refl 0,by show (0:Int)<x.card;omega⟩
  ·rw[fillN_no hb]
   have hb':decs.testBit v=false:=by simpa using hb
   rw[h.old v hb']at hx'
   have:=hn.rows x (List.mem_of_getElem? hx')
   unfold NodeOk at this
   show (x.rows.length:Int)=prodL (parC ms x)/\_
   rw[hpc]
   exact this
 ·have:=hus u hu
  exact⟨by show PlacesOk u.vars ms.length;rw[hml];exact this.vars,by show _=prodL (atL (cardsL ms) u.vars);rw[h.card];exact this.size,this.w⟩
 ·have hx':ms[v]?=some x:=hx
  rw[h.old v hb]at hx'
  exact rows_ne hn x (List.mem_of_getElem? hx')
end Go.Proofs
namespace Go.Proofs
open Go.Hx
structure D20 where
 g:Int
 ps:List DrP
 ord:List Int
 decs:Int
 rem:Bool
 us:List UtD
structure D20.Ok (d:D20):Prop where
 g:U8 d.g
 ps:∀ x∈d.ps,x.Ok
 pl:(d.ps.length:Int)<2 ^ 63
 ol:(d.ord.length:Int)<2 ^ 63
 o8:∀ x∈d.ord,U8 x
 decs:U8 d.decs
 us:∀ u∈d.us,u.Ok
 ul:(d.us.length:Int)<2 ^ 63
def utC (us:List UtD):List AVal:=(us.map UtD.cells).flatten
def D20.cells (d:D20):List AVal:=[.lit (.int .u8 d.g),.vec d.ps.length (drC d.ps),.vec d.ord.length (bytesL d.ord),.lit (.int .u8 d.decs),.lit (.bool d.rem),.vec d.us.length (utC d.us)]
theorem utC_part {l:List UtD}{i:Nat}{x:UtD}(h:l[i]?=some x):((utC l).drop (i*2)).take 2=[.lit (.int .u8 x.vars),.vec x.w.length (i8L x.w)]:=flat_part (f:=UtD.cells) (z:=2) (fun _=>rfl) l i x h
theorem utC_0 {l:List UtD}{i:Nat}{x:UtD}(h:l[i]?=some x):(utC l)[i*2]?=some (.lit (.int .u8 x.vars)):=flat_get (f:=UtD.cells) (z:=2) (fun _=>rfl) l i 0 x h (by omega)
theorem utC_ne {l:List UtD}{i:Nat}{x:UtD}(h:l[i]?=some x):¬ utC l=[]:=fun e=>by
 have:=utC_0 h;rw[e]at this;simp at this
theorem nodesE_two {l:List NodeP}{i:Nat}{x:NodeP}(p:List Int)(h:l[i]?=some x):((nodesE l).set (i*3+1) (vecI p)).set (i*3+2) (.lit (.slice none 0 0))=nodesE (l.set i ⟨x.card,p,[]⟩):=by
 have hl:=get_lt h
 have h1:=flat_set (f:=NodeP.cellsE) (z:=3) (fun _=>rfl) l i ⟨x.card,p,[]⟩ hl
 have h2:=flat_part (f:=NodeP.cellsE) (z:=3) (fun _=>rfl) l i x h
 unfold nodesE
 rw[h1]
 have h3:(l.map NodeP.cellsE).flatten=((l.map NodeP.cellsE).flatten).take (i*3)++(x.cellsE++((l.map NodeP.cellsE).flatten).drop (i*3+3)):=by
  rw[<- h2,<- List.drop_drop,List.take_append_drop,List.take_append_drop]
 have hlen:(((l.map NodeP.cellsE).flatten).take (i*3)).length=i*3:=by
  rw[List.length_take,flat_len (f:=NodeP.cellsE) (z:=3) (fun _=>rfl)];omega
 conv=>lhs;rw[h3]
 rw[List.set_append_right _ _ (by omega),List.set_append_right _ _ (by omega),hlen,show i*3+1 - i*3=1 by omega,show i*3+2 - i*3=2 by omega]
 simp [NodeP.cellsE,rowsE]
theorem nodesE_eq {l:List NodeP}(h:∀ x∈l,x.rows≠[]):nodesE l=nodesC l:=by
 unfold nodesE nodesC
 congr 1
 exact List.map_congr_left fun x hx=>by unfold NodeP.cellsE NodeP.cells;rw[rowsE_ne (h x hx)]
theorem fzNet {H:AHeap}{nx N:Nat}{e:TypeId}{g:Int}{ms:List NodeP}(h:H.get N=some (.arr 0 e (nodesE ms))):Fz (fun _=>True) H nx (.agg [lin g,.own N 0 0 ms.length 3]) (netV g ms):=by
 refine .agg rfl fun i hi _=>?_
 match i,hi with
 | 0,_=>exact .lit _
 | 1,_ =>
  refine .frz trivial h (nodesC_len ms) fun j hj h2 h'=>?_
  have e0:(0:Nat)+j=j:=Nat.zero_add j
  have h3:j<(nodesE ms).length:=by omega
  have:=fz_nodesE (S:=fun _=>True) (H:=H) (nx:=nx) ms j h3 h'
  simpa only[e0] using this
theorem fz_utilsC {S:Nat->Prop}{H:AHeap}{nx:Nat}(l:List UtilP):∀ c∈utilsC l,Fz S H nx c c:=by
 intro c hc
 unfold utilsC at hc
 obtain⟨r,hr,hc⟩:=List.mem_flatten.1 hc
 obtain⟨x,_,rfl⟩:=List.mem_map.1 hr
 unfold UtilP.cells at hc
 simp only[List.mem_cons,List.not_mem_nil,or_false]at hc
 rcases hc with rfl|rfl<;>exact .keepInts _
set_option maxHeartbeats 4000000 in
theorem influence20_spec (d:D20)(hd:d.Ok)(H:AHeap)(K:ARes->AHeap->Prop)(hK:∀ x,DrI d.rem x->K (.ret (infE x)) H):ACall Try.prog G0 7 [.agg d.cells] H K:=by
 refine ACall.clo ⟨_,Try.func7,rfl,rfl⟩ fun hcl=>?_
 refine ACall.of_body (n:=128) (rs:=[.cell 2 34]) Try.func7 rfl rfl rfl (by decide) (by kernel_rfl) (by simp) ?_
 simp only[go_sem,D20.cells]
 obtain⟨H0,hH0⟩:∃ H0,H0=ext H [.arr 0 28 [.lit (.int .u8 d.g),.vec d.ps.length (drC d.ps),.vec d.ord.length (bytesL d.ord),.lit (.int .u8 d.decs),.lit (.bool d.rem),.vec d.us.length (utC d.us)],.arr 0 34 [.lit (.int .i64 0),.lit (.slice none 0 0),.lit (.int .u64 0),.lit (.slice none 0 0)]]:=⟨_,rfl⟩
 have g00:H0.get H.next=some (.arr 0 28 [.lit (.int .u8 d.g),.vec d.ps.length (drC d.ps),.vec d.ord.length (bytesL d.ord),.lit (.int .u8 d.decs),.lit (.bool d.rem),.vec d.us.length (utC d.us)]):=by rw[hH0];exact get_ext0 ..
 have g01:H0.get (H.next+1)=some (.arr 0 34 [.lit (.int .i64 0),.lit (.slice none 0 0),.lit (.int .u64 0),.lit (.slice none 0 0)]):=by rw[hH0];exact get_ext H _ 1 (by simp)
 have n0:H0.next=H.next+2:=by rw[hH0];rfl
 have o0:Over H H0:=by rw[hH0];exact .ext _ _
 rw[<- hH0]
 clear hH0
 refine AApply.clo (net05_spec d.g d.ps d.ord hd.g hd.ps hd.pl hd.ol hd.o8 _ _ fun g ns N H' ov hN1 hN2 hget hnet h5 hp3=>⟨trivial,?_⟩)
 simp only[go_sem]
 obtain⟨B,hB⟩:∃ B,B=H'.next:=⟨_,rfl⟩
 rw[<- hB]
 obtain⟨H1,hH1⟩:∃ H1,H1=ext H' [.arr 0 66 [.lit (.int .i64 g),.own N 0 0 ns.length 3],.arr 0 34 [.lit (.int .i64 g),.own N 0 0 ns.length 3,.lit (.int .u64 0),.lit (.slice none 0 0)]]:=⟨_,rfl⟩
 have n1:H1.next=B+2:=by rw[hH1,hB];rfl
 have ovn:=ov.next
 have g10:H1.get H.next=some (.arr 0 28 [.lit (.int .u8 d.g),.vec d.ps.length (drC d.ps),.vec d.ord.length (bytesL d.ord),.lit (.int .u8 d.decs),.lit (.bool d.rem),.vec d.us.length (utC d.us)]):=by rw[hH1,get_ext_old _ _ _ (by omega),ov.old _ (by omega)];exact g00
 have g11:H1.get (H.next+1)=some (.arr 0 34 [.lit (.int .i64 0),.lit (.slice none 0 0),.lit (.int .u64 0),.lit (.slice none 0 0)]):=by rw[hH1,get_ext_old _ _ _ (by omega),ov.old _ (by omega)];exact g01
 have gN:H1.get N=some (.arr 0 56 (nodesE ns)):=by rw[hH1,get_ext_old _ _ _ (by omega),nodesE_eq (rows_ne hnet)];exact hget
 have gB:H1.get B=some (.arr 0 66 [.lit (.int .i64 g),.own N 0 0 ns.length 3]):=by rw[hH1,hB];exact get_ext0 ..
 have gB1:H1.get (B+1)=some (.arr 0 34 [.lit (.int .i64 g),.own N 0 0 ns.length 3,.lit (.int .u64 ((0:Nat):Int)),.lit (.slice none 0 0)]):=by rw[hH1,hB];exact get_ext H' _ 1 (by simp)
 have o1:Over H H1:=by rw[hH1];exact(o0.trans ov).trans (.ext _ _)
 rw[<- hH1]
 clear hH1 hget
 have hsl:(setsL ns).length=ns.length:=by simp [setsL]
 have hpr:∀ x∈ns,(x.parents.length:Int)<2 ^ 39/\∀ q∈x.parents,0<=q/\q<(ns.length:Int):=fun x hx=>⟨by have:=hp3 x hx;omega,(hnet.node x hx).2.2⟩
 have hs8:∀ p∈setsL ns,p<2 ^ (setsL ns).length:=by rw[hsl];exact setsL_lt fun x hx=>(hpr x hx).2
 obtain⟨r,hr⟩:=Option.isSome_iff_exists.1 ((topo_iff hs8 (by omega)).2 hnet.acyc)
 have hTR:=topoR (fun p h=>Nat.lt_of_lt_of_le (hs8 p h) (Nat.pow_le_pow_right (by decide) (by omega))) hr
 have hrl:=hTR.len
 rw[hsl]at hrl
 refine AApply.clo ((ACall.frame (H:=H1) (args:=[.agg [lin g,.own N 0 0 ns.length 3]]) (args':=[netV g ns]) (v':=vecI (natsI r)) G0_ok rfl (fun i hi _=>?_) (order20_own g ns (by omega) hpr r hr noH _ fun v H' _ ho=>⟨_,rfl,ho.freshI⟩)).mono fun rr H2 hrr=>?_)
 ·match i,hi with
  | 0,_=>exact fzNet gN
 obtain⟨rfl,rfl⟩:=hrr
 refine⟨trivial,?_⟩
 simp only[go_sem]
 refine W.postWeak (Q':=fun e s2=>e=.exit 0/\∃ (i known decs:Nat) (os:List Nat) (ms:List NodeP),s2.ρ 1=.ptr H.next 0 0/\s2.ρ 2=.ptr (H.next+1) 0 0/\s2.ρ 3=.ptr B 0 0/\s2.ρ 4=.ptr (B+1) 0 0/\DrD ns r d.rem i known decs os ms/\H2.next<=s2.H.next/\(∀ id,id<H2.next->id≠N->id≠B+1->s2.H.get id=H2.get id)/\s2.H.get N=some (.arr 0 56 (nodesE ms)) /\
  s2.H.get (B+1)=some (.arr 0 34 [.lit (.int .i64 g),.own N 0 0 ns.length 3,.lit (.int .u64 (decs:Int)),.lit (.slice none 0 0)])) ?_ ?_
 rotate_left
 ·rintro e s2 ⟨rfl,i,known,decs,os,ms,e1,e2,e3,e4,L,hnx,hold,hN,hB1⟩
  refine⟨s2,.refl _,Nat.le_refl _,trivial,?_⟩
  obtain⟨ρ2,Hy⟩:=s2
  dsimp only at e1 e2 e3 e4 hnx hold hN hB1
  simp only[go_sem]
  have hml:=L.len
  have hcd:∀ x∈ms,1<=x.card/\x.card<=4:=fun x hx=>by
   obtain⟨v,hv⟩:=List.mem_iff_getElem?.1 hx
   obtain⟨y,hy⟩:=get_of_lt (l:=ns) (i:=v) (by have:=get_lt hv;omega)
   have h1:(cardsL ms)[v]?=(cardsL ns)[v]?:=by rw[L.card]
   rw[cards_get hv,cards_get hy]at h1
   rw[Option.some.inj h1]
   exact(hnet.node y (List.mem_of_getElem? hy)).1
  have hn1:=hnet.n1
  obtain⟨ut,hut⟩:∃ ut:List UtilP,ut=d.us.map fun u=>utilF u ms:=⟨_,rfl⟩
  refine W.loop0 170141163178059628080016879768632823808 (by rfl) (fun ρ Hu=>∃ (i:Nat) (uv:AVal),ρ 12=lin i/\i<=d.us.length/\i<=4/\Hy.next<=Hu.next/\(∀ id,id<Hy.next->id≠B+1->Hu.get id=Hy.get id)/\Hu.get (B+1)=some (.arr 0 34 [.lit (.int .i64 g),.own N 0 0 ns.length 3,.lit (.int .u64 (decs:Int)),uv])/\OwnZ Hy.next Hu 60 2 uv i (utilsC (ut.take i))) (fun ρ H=>d.us.length - (iv (ρ 12)).toNat) ?_ ?_
  ·simp only[go_sem]
   exact⟨0,_,rfl,by omega,by omega,hB1,.nil⟩
  rintro ρ Hu ⟨i,uv,h12,hi,hi4,hnu,holdu,hBu,hO⟩
  refine W.env fun E hE=>?_
  have f1:E 1=.ptr H.next 0 0:=by rw[hE];simp only[go_sem,e1]
  have f2:E 2=.ptr (H.next+1) 0 0:=by rw[hE];simp only[go_sem,e2]
  have f3:E 3=.ptr B 0 0:=by rw[hE];simp only[go_sem,e3]
  have f4:E 4=.ptr (B+1) 0 0:=by rw[hE];simp only[go_sem,e4]
  have f12:E 12=lin i:=by rw[hE];simp only[go_sem,h12]
  clear hE
  refine vc_sound _ _ _ (by rfl) ?_
  have uh:Hu.get H.next=_:=((holdu H.next (by omega) (by omega)).trans (hold H.next (by omega) (by omega) (by omega))).trans g10
  have l0:=get_live uh
  have lB:=get_live (((holdu B (by omega) (by omega)).trans (hold B (by omega) (by omega) (by omega))).trans gB)
  have lB1:=get_live hBu
  have hNu:Hu.get N=some (.arr 0 56 (nodesE ms)):=(holdu N (by omega) (by omega)).trans hN
  by_cases hb:(i:Int)<d.us.length/\(i:Int)<4
  ·obtain⟨u,hu⟩:=get_of_lt (l:=d.us) (i:=i) (by omega)
   have huo:=hd.us u (List.mem_of_getElem? hu)
   have cne:=utC_ne hu
   have c0:=utC_part hu
   have cl:i*2+2<=(utC d.us).length:=by rw[show (utC d.us).length=d.us.length*2 from flat_len (f:=UtD.cells) (fun _=>rfl) _];omega
   have w1:=IntWalk.i64_in ((i:Int)+1) (by omega)
   have hpc:∀ Hq,Hq.get N=some (.arr 0 56 (nodesE ms))->N<Hq.next->PCall Try.prog G0 (.clo 26 [] []) [.agg [.lit (.int .u8 u.vars),.vec u.w.length (i8L u.w)],.agg [.lit (.int .i64 g),.own N 0 0 ns.length 3]] Hq (.agg [vecI (utilF u ms).vars,vecI (utilF u ms).w]) [N]:=fun Hq hq hqn=>by
    refine PCall.mk (fun i hi=>by obtain rfl:=List.mem_singleton.1 hi;exact hqn) fun H2 h1 h2=>?_
    refine ACall.frame (H:=H2) (args:=[.agg u.cells,.agg [lin g,.own N 0 0 ns.length 3]]) (args':=[.agg u.cells,netV g ms]) (v':=.agg [vecI (utilF u ms).vars,vecI (utilF u ms).w]) G0_ok rfl (fun i hi _=>?_) (pieceOf_own u huo g ms (by omega) hcd noH _ fun v1 v2 H' _ o1 o2=>⟨_,rfl,.agg rfl fun i hi _=>?_⟩)
    ·match i,hi with
     | 0,_ =>
      refine .agg rfl fun i hi _=>?_
      match i,hi with
      | 0,_=>exact .lit _
      | 1,_ =>
       refine .vec rfl fun j hj _=>?_
       simp only[i8L,List.getElem_map]
       exact .lit _
     | 1,_=>rw[<- hml];exact fzNet ((h1 N (by simp)).trans hq)
    ·match i,hi with
     | 0,_=>exact o1.freshI
     | 1,_=>exact o2.freshI
   obtain⟨uv',Hj,hA,hO',hnj,hpj⟩:=app_oneZ (P:=Try.prog) (xs:=[vecI (utilF u ms).vars,vecI (utilF u ms).w]) Try.underlying32 Try.cells60 Try.zero60 rfl rfl (by rw[Try.bytes60];omega) hO hnu rfl
   simp only[vecI]at hA
   have keep:∀ id,id<Hy.next->Hj.get id=Hu.get id:=fun id h=>hpj id (by omega) (hO.ne h)
   have lB1j:=get_live ((keep _ (by omega)).trans hBu)
   have hvc:=hO'.cells
   have hvo:=hO'.one
   simp only[go_sem,f1,f12,l0,hb.1,hb.2]
   refine W.draw 10 [0,1,0,4,0,28,60,0,252,508] Try.mixed (by kernel_rfl) (by kernel_rfl) ?_
   simp only[go_sem,f1,f3,f4,f12,l0,lB,lB1,cne,c0,cl,hb.1]
   refine⟨_,[N],hpc _ hNu (by omega),?_⟩
   simp only[go_sem,f4,f12,hA,lB1j,hvc,hvo,w1]
   have hug:ut[i]?=some (utilF u ms):=by rw[hut,List.getElem?_map,hu];rfl
   have e2':utilsC (ut.take (i+1))=utilsC (ut.take i)++[vecI (utilF u ms).vars,vecI (utilF u ms).w]:=by
    rw[take_succ_get hug]
    unfold utilsC
    rw[List.map_append,List.flatten_append]
    simp [UtilP.cells]
   refine⟨⟨fun _ h=>by omega,fun _ h=>by omega⟩,by rw[upd_next];omega,⟨i+1,uv',rfl,by omega,by omega,by rw[upd_next];omega,fun id h1 h2=>by rw[upd_get,if_neg h2,keep _ h1];exact holdu id h1 h2,by rw[upd_get,if_pos rfl],?_⟩,by rw[h12];simp only[lin,iv_int];omega⟩
   rw[e2']
   exact hO'.keep (by rw[upd_next];omega) fun id gg h1 _ _=>by rw[upd_get,if_neg (by omega)]
  ·have fin:∀ b,FinV Try.prog G0 H K (.agg [.lit (.int .i64 g),.own N 0 0 ns.length 3,.lit (.int .u64 (decs:Int)),uv]) (Hu.upd (H.next+1) b):=fun b=>by
    have o1n:=o1.next
    have ov2:Over H (Hu.upd (H.next+1) b):=⟨by rw[upd_next];omega,fun id h=>by
     rw[upd_get,if_neg (by omega),holdu id (by omega) (by omega),hold id (by omega) (by omega) (by omega)]
     exact o1.old id h⟩
    have htl:(ut.take i).length=i:=by rw[List.length_take,hut,List.length_map];omega
    refine FinV.dropO (v':=infE ⟨g,ms,decs,ut.take i⟩) G0_ok hcl ov2 (.agg rfl fun j hj _=>?_) (hK _ (L.fin hnet hTR h5 (by omega) fun u hu=>?_))
    ·match j,hj with
     | 0,_=>exact .lit _
     | 1,_ =>
      show Fz _ _ _ (.own N 0 0 ns.length 3) (.vec ms.length (nodesE ms))
      rw[<- hml]
      refine .frz (by omega) (show (Hu.upd (H.next+1) b).get N=some (.arr 0 56 (nodesE ms)) by rw[upd_get,if_neg (by omega)];exact hNu) (nodesE_len ms) fun j hj h2 h'=>?_
      have e0:(0:Nat)+j=j:=Nat.zero_add j
      have h3:j<(nodesE ms).length:=by omega
      have:=fz_nodesE' (S:=fun id=>H.next<=id) (H:=Hu.upd (H.next+1) b) (nx:=H.next) ms _ (List.getElem_mem h3)
      simpa only[e0] using this
     | 2,_=>exact .lit _
     | 3,_ =>
      show Fz _ _ _ uv (.vec (ut.take i).length (utilsC (ut.take i)))
      rcases hO with ⟨h,hz,hc⟩|⟨id,gg,k1,k2,h,k4,k5⟩
      ·rw[h,hc,htl,hz]
       exact .nil
      ·rw[h,htl]
       refine .frz (by omega) (show (Hu.upd (H.next+1) b).get id=some (.arr gg 60 (utilsC (ut.take i))) by rw[upd_get,if_neg (by omega)];exact k5) k4 fun j hj h2 h'=>?_
       have e0:(0:Nat)+j=j:=Nat.zero_add j
       have h3:j<(utilsC (ut.take i)).length:=by omega
       have:=fz_utilsC (S:=fun id=>H.next<=id) (H:=Hu.upd (H.next+1) b) (nx:=H.next) (ut.take i) _ (List.getElem_mem h3)
       simpa only[e0] using this
    ·have hu2:=List.mem_of_mem_take hu
     rw[hut]at hu2
     obtain⟨p,hp,rfl⟩:=List.mem_map.1 hu2
     have:=utilF_ok p ms fun x hx=>(hcd x hx).1
     exact⟨by have:=this.vars;rw[hml]at this;exact this,by have:=this.size;rw[L.card]at this;exact this,this.w⟩
   have lR:Hu.live (H.next+1) 0=_:=get_live (((holdu (H.next+1) (by omega) (by omega)).trans (hold (H.next+1) (by omega) (by omega) (by omega))).trans g11)
   have uvc:=hO.cells
   have uvo:=hO.one
   by_cases hb1:(i:Int)<d.us.length
   ·have hb4:¬ (i:Int)<4:=fun h=>hb ⟨hb1,h⟩
    simp only[go_sem,f1,f2,f4,f12,l0,lB1,lR,hb1,hb4,uvo]
    exact fin _
   ·simp only[go_sem,f1,f2,f4,f12,l0,lB1,lR,hb1,uvo]
    exact fin _
 refine W.loop0 20282409603651670423947242901440 (by rfl) (fun ρ Hx=>∃ (i known decs:Nat) (os:List Nat) (ms:List NodeP),ρ 8=lin i/\i<=r.length/\ρ 6=bitV known/\ρ 7=lin os.length/\DrD ns r d.rem i known decs os ms/\H2.next<=Hx.next/\(∀ id,id<H2.next->id≠N->id≠B+1->Hx.get id=H2.get id)/\Hx.get N=some (.arr 0 56 (nodesE ms)) /\
  Hx.get (B+1)=some (.arr 0 34 [.lit (.int .i64 g),.own N 0 0 ns.length 3,.lit (.int .u64 (decs:Int)),.lit (.slice none 0 0)])) (fun ρ H=>r.length - (iv (ρ 8)).toNat) ?_ ?_
 ·simp only[go_sem]
  exact⟨0,0,0,[],ns,rfl,by omega,rfl,rfl,.start ns r d.rem,gN,gB1⟩
 rintro ρ Hx ⟨i,known,decs,os,ms,h8,hi,h6,h7,L,hnx,hold,hN,hB1⟩
 refine W.env fun E hE=>?_
 have e1:E 1=.ptr H.next 0 0:=by rw[hE];simp only[go_sem]
 have e2:E 2=.ptr (H.next+1) 0 0:=by rw[hE];simp only[go_sem]
 have e3:E 3=.ptr B 0 0:=by rw[hE];simp only[go_sem]
 have e4:E 4=.ptr (B+1) 0 0:=by rw[hE];simp only[go_sem]
 have e5:E 5=vecI (natsI r):=by rw[hE];simp only[go_sem]
 have e6:E 6=bitV known:=by rw[hE];simp only[go_sem,h6]
 have e7:E 7=lin os.length:=by rw[hE];simp only[go_sem,h7]
 have e8:E 8=lin i:=by rw[hE];simp only[go_sem,h8]
 clear hE
 refine vc_sound _ _ _ (by rfl) ?_
 have l0:=get_live ((hold H.next (by omega) (by omega) (by omega)).trans g10)
 have lB:=get_live ((hold B (by omega) (by omega) (by omega)).trans gB)
 have lB1:=get_live hB1
 have lN:=get_live hN
 have hrng:=hTR.rng
 rw[hsl]at hrng
 have hml:=L.len
 have natl:(natsI r).length=r.length:=by simp [natsI]
 have nat5:∀ {s:Nat},s<2 ^ ns.length->s<2 ^ 64:=fun h=>Nat.lt_of_lt_of_le h (Nat.pow_le_pow_right (by decide) (by omega))
 have hk64:known<2 ^ 64:=nat5 (befs_lt hrng L.knownb)
 have hd64:decs<2 ^ 64:=nat5 (befs_lt hrng L.decsb)
 by_cases hb:(i:Int)<r.length
 rotate_left
 ·simp only[go_sem,e1,e2,e3,e4,e5,e8,natl,hb]
  exact⟨i,known,decs,os,ms,L,hnx,hold,hN,hB1⟩
 by_cases h3:os.length<3
 rotate_left
 ·have h3':¬ (os.length:Int)<3:=by omega
  simp only[go_sem,e1,e2,e3,e4,e5,e7,e8,natl,hb,h3']
  exact⟨i,known,decs,os,ms,L,hnx,hold,hN,hB1⟩
 have h3':(os.length:Int)<3:=by omega
 obtain⟨v,hv⟩:=get_of_lt (l:=r) (i:=i) (by omega)
 have hvi:(natsI r)[i]?=some (v:Int):=by unfold natsI;rw[List.getElem?_map,hv];rfl
 have hvne:=ne_of_get hvi
 have hvn:=hrng v (List.mem_of_getElem? hv)
 have w1:=IntWalk.i64_in ((i:Int)+1) (by omega)
 obtain⟨r1,hr1⟩:∃ r1,d.decs.fdiv (2 ^ (min ((i:Int)).toNat IntKind.u8.bits))=r1:=⟨_,rfl⟩
 obtain⟨r2,hr2⟩:∃ r2,IntKind.u8.wrap (((BitVec.ofInt IntKind.u8.bits r1 &&& BitVec.ofInt IntKind.u8.bits 1).toNat:Nat):Int)=r2:=⟨_,rfl⟩
 have s1:∀ t o1 o2,binA Try.prog .shr t o1 o2 (.lit (.int .u8 d.decs)) (.lit (.int .i64 (i:Int)))=some (.lit (.int .u8 r1)):=fun t o1 o2=>by rw[bin_shr (by omega),hr1]
 have s2:∀ t o1 o2,binA Try.prog .and t o1 o2 (.lit (.int .u8 r1)) (.lit (.int .u8 1))=some (.lit (.int .u8 r2)):=fun t o1 o2=>by rw[bin_and,hr2]
 by_cases hrz:r2=0
 ·simp only[go_sem,e1,e2,e3,e4,e5,e6,e7,e8,natl,hb,h3',l0,hvi,hvne,s1,s2,hrz,w1]
  exact⟨hnx,⟨i+1,known,decs,os,ms,rfl,by omega,rfl,rfl,L.skip,hnx,hold,hN,hB1⟩,by rw[h8];simp only[lin,iv_int];omega⟩
 obtain⟨x,hx⟩:=get_of_lt (l:=ns) (i:=v) hvn
 have hdv:=(L.step hTR (by omega) h3 hv hx (s:=0) (fun i hi=>by simp at hi)).1
 have hmx:ms[v]?=some x:=by rw[L.old v hdv];exact hx
 have hxp:=hpr x (List.mem_of_getElem? hx)
 have hmp:∀ y∈ms,(y.parents.length:Int)<2 ^ 39/\∀ q∈y.parents,0<=q/\q<64:=fun y hy=>by
  obtain⟨u,hu⟩:=List.mem_iff_getElem?.1 hy
  cases hbu:decs.testBit u with
  | false =>
   rw[L.old u hbu]at hu
   obtain⟨q1,q2⟩:=hpr y (List.mem_of_getElem? hu)
   exact⟨q1,fun q hq=>by have:=q2 q hq;omega⟩
  | true =>
   obtain⟨_,s,j,e,_⟩:=L.dec u y hu hbu
   rw[e]
   refine⟨by have:=bitsL_len s 8;omega,fun q hq=>?_⟩
   obtain⟨z,rfl,hz,_⟩:=mem_bitsL.1 hq
   omega
 have hset:((setsL ms).map bitV)[v]?=some (bitV (setN x.parents)):=by rw[List.getElem?_map,setsL_get hmx];rfl
 have hsne:=ne_of_get hset
 have hmn:(setsL ms).length=ns.length:=by rw[<- hml];simp [setsL]
 simp only[go_sem,e1,e3,e5,e7,e8,natl,hb,h3',l0,lB,hvi,hvne,s1,s2,hrz]
 refine AApply.clo ((ACall.frame (H:=Hx) (args:=[.agg [lin g,.own N 0 0 ns.length 3]]) (args':=[netV g ms]) (v':=vecB (setsL ms)) G0_ok rfl (fun i hi _=>?_) (parentSets_own g ms (by omega) hmp noH _ fun v H' _ ho=>⟨_,rfl,freshB ho⟩)).mono fun rr Hz hrr=>?_)
 ·match i,hi with
  | 0,_=>rw[<- hml];exact fzNet hN
 obtain⟨rfl,rfl⟩:=hrr
 refine⟨trivial,?_⟩
 have hvI:(v:Int)<ns.length:=by omega
 simp only[go_sem,hset,hsne,hmn,hvI]
 have xs64:setN x.parents<2 ^ 64:=nat5 (setN_lt hxp.2)
 refine W.loop0 9444732684264313719808 (by rfl) (fun ρ2 Hq=>Hq=Hz/\∃ k s:Nat,ρ2 11=lin k/\k<=x.parents.length/\ρ2 10=bitV s/\Sub s (setN x.parents)/\s<2 ^ 64) (fun ρ2 H=>x.parents.length - (iv (ρ2 11)).toNat) ?_ ?_
 ·simp only[go_sem]
  exact⟨0,_,rfl,by omega,rfl,.refl _,xs64⟩
 rintro ρ2 Hq ⟨rfl,k,s,h11,hk,h10,hs,hs64⟩
 refine W.env fun E2 hE2=>?_
 have f1:E2 1=.ptr H.next 0 0:=by rw[hE2];simp only[go_sem,e1]
 have f2:E2 2=.ptr (H.next+1) 0 0:=by rw[hE2];simp only[go_sem,e2]
 have f3:E2 3=.ptr B 0 0:=by rw[hE2];simp only[go_sem,e3]
 have f4:E2 4=.ptr (B+1) 0 0:=by rw[hE2];simp only[go_sem,e4]
 have f5:E2 5=vecI (natsI r):=by rw[hE2];simp only[go_sem,e5]
 have f6:E2 6=bitV known:=by rw[hE2];simp only[go_sem,e6]
 have f7:E2 7=lin os.length:=by rw[hE2];simp only[go_sem,e7]
 have f8:E2 8=lin i:=by rw[hE2];simp only[go_sem,e8]
 have f9:E2 9=lin v:=by rw[hE2];simp only[go_sem]
 have f10:E2 10=bitV s:=by rw[hE2];simp only[go_sem,h10]
 have f11:E2 11=lin k:=by rw[hE2];simp only[go_sem,h11]
 clear hE2
 refine vc_sound _ _ _ (by rfl) ?_
 have nne:=nodesE_ne hmx
 have nlen:=nodesE_len ms
 have n1v:=nodesE_1 hmx
 by_cases hb2:(k:Int)<x.parents.length
 ·obtain⟨q,hq⟩:=get_of_lt (l:=x.parents) (i:=k) (by omega)
  have hqr:=hxp.2 q (List.mem_of_getElem? hq)
  obtain⟨u,rfl⟩:=Int.eq_ofNat_of_zero_le hqr.1
  have hqne:=ne_of_get hq
  have w2:=IntWalk.i64_in ((k:Int)+1) (by omega)
  by_cases hk2:(k:Int) >= 2
  ·have s3:=fun t x y=>shlB (P:=Try.prog) (t:=t) (x:=x) (y:=y) (k':=.i64) (s:=u) (by omega)
   have s4:=fun t x y=>subB (P:=Try.prog) (t:=t) (x:=x) (y:=y) (a:=s) (b:=2 ^ u)
   simp only[go_sem,f4,f9,f10,f11,lB1,lN,n1v,hvI,hb2,hk2,hq,hqne,w2,s3,s4]
   exact⟨⟨k+1,subN s (2 ^ u),rfl,by omega,rfl,fun i hi=>by rw[subN_bit hs64,Bool.and_eq_true]at hi;exact hs i hi.1,subN_lt _ _⟩,by rw[h11];simp only[lin,iv_int];omega⟩
  ·simp only[go_sem,f4,f9,f10,f11,lB1,lN,n1v,hvI,hb2,hk2,w2]
   exact⟨⟨k+1,s,rfl,by omega,rfl,hs,hs64⟩,by rw[h11];simp only[lin,iv_int];omega⟩
 ·obtain⟨s',hs'⟩:∃ s',s'=(if d.rem then s ||| known else s):=⟨_,rfl⟩
  have hsv:=L.step hTR (by omega) h3 hv hx hs
  rw[<- hs']at hsv
  obtain⟨_,_,hslt,L2⟩:=hsv
  have s64:=nat5 hslt
  have b2v:(2:Nat) ^ v<2 ^ 64:=Nat.pow_lt_pow_right (by decide) (by omega)
  have o1':=fun t x y=>orB (P:=Try.prog) (t:=t) (x:=x) (y:=y) hd64 b2v
  have o2':=fun t x y=>orB (P:=Try.prog) (t:=t) (x:=x) (y:=y) hk64 s64
  have o3':=fun t x y=>orB (P:=Try.prog) (t:=t) (x:=x) (y:=y) (Nat.or_lt_two_pow hk64 s64) b2v
  have o4':=fun t x y=>orB (P:=Try.prog) (t:=t) (x:=x) (y:=y) hs64 hk64
  have s6:=fun t x y=>shlB (P:=Try.prog) (t:=t) (x:=x) (y:=y) (k':=.i64) (s:=v) (by omega)
  have w3:=IntWalk.i64_in ((os.length:Int)+1) (by omega)
  have nse:=nodesE_two (bitsL s' 8) hmx
  have gone:∀ b,(Hq.upd N b).live (B+1) 0=some (34,[.lit (.int .i64 g),.own N 0 0 ns.length 3,.lit (.int .u64 (decs:Int)),.lit (.slice none 0 0)]):=fun b=>(live_upd_other (by omega)).trans lB1
  have st1:∀ a,setAt (nodesE ms) (v*3+1) [a]=(nodesE ms).set (v*3+1) a:=fun a=>setAt_one (by omega)
  have st2:∀ a b,setAt ((nodesE ms).set (v*3+1) a) (v*3+2) [b]=((nodesE ms).set (v*3+1) a).set (v*3+2) b:=fun a b=>setAt_one (by rw[List.length_set];omega)
  have gone2:∀ b b',((Hq.upd N b).upd N b').live (B+1) 0=some (34,[.lit (.int .i64 g),.own N 0 0 ns.length 3,.lit (.int .u64 (decs:Int)),.lit (.slice none 0 0)]):=fun b b'=>(live_upd_other (by omega)).trans (gone b)
  simp only[vecI]at nse
  cases hrem:d.rem
  ·have es:s'=s:=by rw[hs',hrem];rfl
   subst es
   simp only[go_sem,f1,f3,f4,f6,f7,f8,f9,f11,lB1,lN,n1v,hvI,hb2,l0,hrem]
   refine W.draw 5 [0,1,0,0,8] Try.mixed (by kernel_rfl) (by kernel_rfl) ?_
   simp only[go_sem,f4,f9,f10,lB1,lN,hvI,hml,nlen,gone]
   refine⟨vecI (bitsL s' 8),[],PCall.pure fun H2=>list20_spec s' s64 H2 _ ⟨rfl,rfl⟩,?_⟩
   simp only[go_sem,hml,nlen,st1,st2,nse,List.length_set]
   refine⟨by omega,by omega,?_⟩
   refine W.draw 4 [0,1,0,4] Try.mixed (by kernel_rfl) (by kernel_rfl) ?_
   simp only[go_sem,f4,f6,f7,f8,f9,f10,gone2,s6,o1',o2',o3',w1,w3]
   refine⟨by simp only[upd_next];omega,⟨i+1,known ||| s' ||| 2 ^ v,decs ||| 2 ^ v,os++[v],_,rfl,by omega,rfl,by simp,hrem ▸ L2,by simp only[upd_next];omega,fun id h1 h2 h3=>by simp only[upd_get];rw[if_neg h3,if_neg h2,if_neg h2];exact hold id h1 h2 h3,by rw[upd_get,if_neg (by omega),upd_get,if_pos rfl],by rw[upd_get,if_pos rfl]⟩,by rw[h8];simp only[lin,iv_int];omega⟩
  ·have es:s ||| known=s':=by rw[hs',hrem];rfl
   rw[es]at o4'
   simp only[go_sem,f1,f3,f4,f6,f7,f8,f9,f10,f11,lB1,lN,n1v,hvI,hb2,l0,hrem,o4']
   refine W.draw 5 [0,1,0,0,8] Try.mixed (by kernel_rfl) (by kernel_rfl) ?_
   simp only[go_sem,f4,f9,f10,lB1,lN,hvI,hml,nlen,gone]
   refine⟨vecI (bitsL s' 8),[],PCall.pure fun H2=>list20_spec s' s64 H2 _ ⟨rfl,rfl⟩,?_⟩
   simp only[go_sem,hml,nlen,st1,st2,nse,List.length_set]
   refine⟨by omega,by omega,?_⟩
   refine W.draw 4 [0,1,0,4] Try.mixed (by kernel_rfl) (by kernel_rfl) ?_
   simp only[go_sem,f4,f6,f7,f8,f9,f10,gone2,s6,o1',o2',o3',w1,w3]
   refine⟨by simp only[upd_next];omega,⟨i+1,known ||| s' ||| 2 ^ v,decs ||| 2 ^ v,os++[v],_,rfl,by omega,rfl,by simp,hrem ▸ L2,by simp only[upd_next];omega,fun id h1 h2 h3=>by simp only[upd_get];rw[if_neg h3,if_neg h2,if_neg h2];exact hold id h1 h2 h3,by rw[upd_get,if_neg (by omega),upd_get,if_pos rfl],by rw[upd_get,if_pos rfl]⟩,by rw[h8];simp only[lin,iv_int];omega⟩
end Go.Proofs
/-
  What the laws of this chapter have in common at their doors: the parameters. No conditions.
-/
namespace Go.Proofs.Yteolcdbjdgimhaa
open Go.ChangeShapes Go.WideShapes Go.ChangeAt Go.RowKit Go.Hx
theorem Try.own:ownKnob Try.prog.godebug=none:=by kernel_rfl
theorem Try.laidOut:laidOutB Try.prog=true:=by kernel_rfl
theorem Try.boolT:Try.prog.underlying 4=some .bool:=by kernel_rfl
section
variable {W:World} {H:Type} {enc:TypeId × Value->H} {spare:Nat->Bool} {held:Bool}
theorem max63 {n:Nat}(h:n<=maxLen):(n:Int)<2 ^ 63:=by
 have:maxLen=9223372036854775807:=by decide
 omega
theorem wfU {n:Int}(h:(Lit.int .u8 n).wf=true):U8 n:=by
 have:=wf_u8 h
 unfold U8;omega
theorem opens_DrP:Opens enc Try.prog W spare held 110 fun _ zs=>∃ x:DrP,zs=x.cells/\x.Ok:=by
 have hu:=Try.underlying110
 have c1:=Try.cells5
 have c2:=Try.cells23
 refine(opens_struct (φ:=fun i _ xs=>if i=2 then ∃ l:List Int,xs=[.vec l.length (intL .u8 l)]/\l.length<=maxLen/\∀ c,c∈l->(Lit.int .u8 c).wf=true else ∃ n,xs=[.lit (.int .u8 n)]/\(Lit.int .u8 n).wf=true) hu
  (fun cs hcs=>by
   have hc:Try.prog.cellsOf 110=3:=by kernel_rfl
   rw[hc]at hcs
   match cs,hcs with
   | [a,b,c],_=>simp [c1,c2])
  (fun i hi=>match i,hi with
   | 0,_=>(opens_int Try.underlying5).mono fun _ _ ⟨n,_,h,w⟩=>⟨n,h,w⟩
   | 1,_=>(opens_int Try.underlying5).mono fun _ _ ⟨n,_,h,w⟩=>⟨n,h,w⟩
   | 2,_=>(opens_ints Try.underlying23 Try.underlying5 c1).mono fun _ _ h=>h)).mono fun d zs ⟨ds,rows,_,e,hl1,hl2,hall⟩=>?_
 match rows,ds,hl2,hl1,hall with
 | [x,y,z],[d0,d1,d2],_,_,hall =>
  obtain⟨n0,e0,w0⟩:=hall 0 (by simp) (by simp)
  obtain⟨n1,e1,w1⟩:=hall 1 (by simp) (by simp)
  obtain⟨l,e2,w2,w3⟩:=hall 2 (by simp) (by simp)
  simp only[List.getElem_cons_zero,List.getElem_cons_succ]at e0 e1 e2
  subst e0;subst e1;subst e2
  refine⟨⟨n0,n1,l⟩,by rw[e];rfl,?_⟩
  exact⟨wfU w0,wfU w1,max63 w2,fun c hc=>wfU (w3 c hc)⟩
theorem wf_i8 {n:Int}(h:(Lit.int .i8 n).wf=true):I8 n:=by
 have:-128<=n/\n<=127:=by simpa [Lit.wf,IntKind.min,IntKind.max,IntKind.signed,IntKind.bits] using h
 unfold I8;omega
theorem opens_UtD:Opens enc Try.prog W spare held 74 fun _ zs=>∃ x:UtD,zs=x.cells/\x.Ok:=by
 have hu:=Try.underlying74
 have c1:=Try.cells5
 have c2:=Try.cells72
 have c3:=Try.cells114
 refine(opens_struct (φ:=fun i _ xs=>if i=1 then ∃ l:List Int,xs=[.vec l.length (intL .i8 l)]/\l.length<=maxLen/\∀ c,c∈l->(Lit.int .i8 c).wf=true else ∃ n,xs=[.lit (.int .u8 n)]/\(Lit.int .u8 n).wf=true) hu
  (fun cs hcs=>by
   have hc:Try.prog.cellsOf 74=2:=by kernel_rfl
   rw[hc]at hcs
   match cs,hcs with
   | [a,b],_=>simp [c1,c2])
  (fun i hi=>match i,hi with
   | 0,_=>(opens_int Try.underlying5).mono fun _ _ ⟨n,_,h,w⟩=>⟨n,h,w⟩
   | 1,_=>(opens_ints Try.underlying72 Try.underlying114 c3).mono fun _ _ h=>h)).mono fun d zs ⟨ds,rows,_,e,hl1,hl2,hall⟩=>?_
 match rows,ds,hl2,hl1,hall with
 | [x,y],[d0,d1],_,_,hall =>
  obtain⟨n0,e0,w0⟩:=hall 0 (by simp) (by simp)
  obtain⟨l,e2,w2,w3⟩:=hall 1 (by simp) (by simp)
  simp only[List.getElem_cons_zero,List.getElem_cons_succ]at e0 e2
  subst e0;subst e2
  refine⟨⟨n0,l⟩,by rw[e];rfl,?_⟩
  exact⟨wfU w0,max63 w2,fun c hc=>wf_i8 (w3 c hc)⟩
theorem opens_of {α:Type}{t e:TypeId}{f:α->List AVal}{q:α->Prop}(ht:Try.prog.underlying t=some (.slice e))(hz:0<Try.prog.cellsOf e)(he:Opens enc Try.prog W spare held e fun _ zs=>∃ x:α,zs=f x/\q x):
  Opens enc Try.prog W spare held t fun _ zs=>∃ l:List α,zs=[.vec l.length (l.map f).flatten]/\l.length<=maxLen/\∀ x∈l,q x :=
 (opens_slice ht hz he).mono fun d zs h=>by
  rcases h with ⟨_,rfl⟩|⟨ds,rest,rows,_,rfl,hr,_,hl⟩
  ·exact⟨[],rfl,Nat.zero_le _,fun c h=>by cases h⟩
  ·obtain⟨l,rfl,hq⟩:=rows_each (f:=f) (q:=q) (fun d zs h=>h) hr
   exact⟨l,by rw[List.length_map],by simpa using hl,hq⟩
theorem opens_D05:Opens enc Try.prog W spare held 25 fun _ zs=>∃ (g:Int) (ps:List DrP) (ord:List Int),zs=[.lit (.int .u8 g),.vec ps.length (drC ps),.vec ord.length (bytesL ord)]/\U8 g/\(∀ x∈ps,x.Ok)/\(ps.length:Int)<2 ^ 63/\(ord.length:Int)<2 ^ 63/\∀ x∈ord,U8 x:=by
 have hu:=Try.underlying25
 have c1:=Try.cells5
 have c2:=Try.cells23
 have c3:=Try.cells22
 have c4:=Try.cells110
 refine(opens_struct (φ:=fun i _ xs=>if i=2 then ∃ l:List Int,xs=[.vec l.length (intL .u8 l)]/\l.length<=maxLen/\∀ c,c∈l->(Lit.int .u8 c).wf=true else if i=1 then ∃ l:List DrP,xs=[.vec l.length (l.map DrP.cells).flatten]/\l.length<=maxLen/\∀ x∈l,x.Ok else ∃ n,xs=[.lit (.int .u8 n)]/\(Lit.int .u8 n).wf=true) hu
  (fun cs hcs=>by
   have hc:Try.prog.cellsOf 25=3:=by kernel_rfl
   rw[hc]at hcs
   match cs,hcs with
   | [a,b,c],_=>simp [c1,c2,c3])
  (fun i hi=>match i,hi with
   | 0,_=>(opens_int Try.underlying5).mono fun _ _ ⟨n,_,h,w⟩=>⟨n,h,w⟩
   | 1,_=>(opens_of Try.underlying22 (by rw[c4];decide) opens_DrP).mono fun _ _ h=>h
   | 2,_=>(opens_ints Try.underlying23 Try.underlying5 c1).mono fun _ _ h=>h)).mono fun d zs ⟨ds,rows,_,e,hl1,hl2,hall⟩=>?_
 match rows,ds,hl2,hl1,hall with
 | [x,y,z],[d0,d1,d2],_,_,hall =>
  obtain⟨n0,e0,w0⟩:=hall 0 (by simp) (by simp)
  obtain⟨ps,e1,w1,w1'⟩:=hall 1 (by simp) (by simp)
  obtain⟨l,e2,w2,w3⟩:=hall 2 (by simp) (by simp)
  simp only[List.getElem_cons_zero,List.getElem_cons_succ]at e0 e1 e2
  subst e0;subst e1;subst e2
  exact⟨n0,ps,l,by rw[e];rfl,wfU w0,w1',max63 w1,max63 w2,fun c hc=>wfU (w3 c hc)⟩
theorem opens_D20:Opens enc Try.prog W spare held 28 fun _ zs=>∃ d:D20,zs=d.cells/\d.Ok:=by
 have hu:=Try.underlying28
 have c1:=Try.cells5
 have c2:=Try.cells4
 have c3:=Try.cells25
 have c4:=Try.cells26
 have c5:=Try.cells74
 refine(opens_struct (φ:=fun i _ xs=>if i=0 then ∃ (g:Int) (ps:List DrP) (ord:List Int),xs=[.lit (.int .u8 g),.vec ps.length (drC ps),.vec ord.length (bytesL ord)]/\U8 g/\(∀ x∈ps,x.Ok)/\(ps.length:Int)<2 ^ 63/\(ord.length:Int)<2 ^ 63/\∀ x∈ord,U8 x
   else if i=1 then ∃ n,xs=[.lit (.int .u8 n)]/\(Lit.int .u8 n).wf=true else if i=2 then ∃ b,xs=[.lit (.bool b)] else ∃ l:List UtD,xs=[.vec l.length (l.map UtD.cells).flatten]/\l.length<=maxLen/\∀ x∈l,x.Ok) hu
  (fun cs hcs=>by
   have hc:Try.prog.cellsOf 28=6:=by kernel_rfl
   rw[hc]at hcs
   match cs,hcs with
   | [a,b,c,d,e,f],_=>simp [c1,c2,c3,c4])
  (fun i hi=>match i,hi with
   | 0,_=>opens_D05.mono fun _ _ h=>h
   | 1,_=>(opens_int Try.underlying5).mono fun _ _ ⟨n,_,h,w⟩=>⟨n,h,w⟩
   | 2,_=>(opens_bool Try.underlying4).mono fun _ _ ⟨n,_,h⟩=>⟨n,h⟩
   | 3,_=>(opens_of Try.underlying26 (by rw[c5];decide) opens_UtD).mono fun _ _ h=>h)).mono fun d zs ⟨ds,rows,_,e,hl1,hl2,hall⟩=>?_
 match rows,ds,hl2,hl1,hall with
 | [x,y,z,u],[d0,d1,d2,d3],_,_,hall =>
  obtain⟨g,ps,ord,e0,w0,w0',w0'',w0''',w04⟩:=hall 0 (by simp) (by simp)
  obtain⟨n1,e1,w1⟩:=hall 1 (by simp) (by simp)
  obtain⟨b,e2⟩:=hall 2 (by simp) (by simp)
  obtain⟨us,e3,w3,w3'⟩:=hall 3 (by simp) (by simp)
  simp only[List.getElem_cons_zero,List.getElem_cons_succ]at e0 e1 e2 e3
  subst e0;subst e1;subst e2;subst e3
  exact⟨⟨g,ps,ord,n1,b,us⟩,by rw[e];rfl,⟨w0,w0',w0'',w0''',w04,wfU w1,w3',max63 w3⟩⟩
theorem arg_d20 {r:Reach}{b:Nat}{v:Value}{d:DataW H}{ps:List MemPlace}(hval:Value.okWide Try.prog W r b 28 v)(hd:DataW.Trod enc Try.prog W 0 spare held 28 v d ps):
  ∃ x:D20,RelV Try.prog noG noH W (.agg x.cells) v/\x.Ok:=by
 obtain⟨xs,h1,x,rfl,h2⟩:=arg_agg opens_D20 (.inl ⟨_,Try.underlying28⟩) hval hd
 exact⟨x,h1,h2⟩
theorem arg_bytes {r:Reach}{b:Nat}{v:Value}{d:DataW H}{ps:List MemPlace}(hval:Value.okWide Try.prog W r b 23 v)(hd:DataW.Trod enc Try.prog W 0 spare held 23 v d ps):
  ∃ l:List Int,RelV Try.prog noG noH W (.vec l.length (bytesL l)) v/\(l.length:Int)<2 ^ 63/\∀ x∈l,U8 x:=by
 obtain⟨l,h1,h2,h3⟩:=arg_ints Try.underlying23 Try.underlying5 Try.cells5 hval hd
 exact⟨l,h1,max63 h2,fun c hc=>wfU (h3 c hc)⟩
end
end Go.Proofs.Yteolcdbjdgimhaa
namespace Go.Hx
variable {P:Program} {G:Nat->Option (List AVal)}
def AHeap.meltN (H:AHeap)(n ob:Nat)(b:Blk):AHeap:=⟨fun id=>if n<=id then none else if id=ob then some b else H.get id,H.next⟩
theorem meltN_ob {H:AHeap}{n ob:Nat}{b:Blk}(h:ob<n):(H.meltN n ob b).get ob=some b:=by simp [AHeap.meltN,Nat.not_le.2 h]
theorem meltN_other {H:AHeap}{n ob id:Nat}{b:Blk}(h:id<n)(h2:id≠ob):(H.meltN n ob b).get id=H.get id:=by simp [AHeap.meltN,Nat.not_le.2 h,h2]
theorem fzH_meltN {H:AHeap}(hc:Clo H){n ob g:Nat}{e:TypeId}{cells cells':List AVal}(hob:H.get ob=some (.arr g e cells))(hlt:ob<n)(hl:cells'.length=cells.length)
  (hcell:∀ i (h:i<cells.length) (h':i<cells'.length),Fz (fun id=>n<=id) H H.next cells[i] cells'[i]):FzH (fun id=>n<=id) H (H.meltN n ob (.arr g e cells')) where
 gone id hs:=by simp [AHeap.meltN,hs]
 kept id b hs hb:=by
  have hbb:=hc.below id b hb
  refine⟨hc.lt id b hb,?_⟩
  by_cases h:id=ob
  ·subst h
   rw[hob]at hb
   cases hb
   exact⟨.arr g e cells',by simp [AHeap.meltN,hs],rfl,rfl,hl,hcell⟩
  ·refine⟨b,by simp [AHeap.meltN,hs,h,hb],?_⟩
   cases b with
   | rsv=>trivial
   | mp=>rfl
   | arr g e cells=>exact⟨rfl,rfl,rfl,fun i h _=>.dead (hbb i h)⟩
   | loop st pend n env ps asg body=>exact⟨rfl,rfl,rfl,rfl,rfl,rfl,rfl,fun t ht=>.dead (hbb t ht)⟩
 none id hs hb:=by
  by_cases h:id=ob
  ·subst h;rw[hob]at hb;cases hb
  ·simp [AHeap.meltN,hs,h,hb]
theorem WeakS.meltN (hG:GOk G){s:St}{n ob g:Nat}{e:TypeId}{cells cells':List AVal}(hob:s.H.get ob=some (.arr g e cells))(hlt:ob<n)(hl:cells'.length=cells.length)
  (hcell:∀ i (h:i<cells.length) (h':i<cells'.length),Fz (fun id=>n<=id) s.H s.H.next cells[i] cells'[i]):WeakS P G s ⟨s.ρ,s.H.meltN n ob (.arr g e cells')⟩:=by
 intro n' wb Γ a w hs
 exact WeakS.freeze (s:=s) (s':=⟨s.ρ,s.H.meltN n ob (.arr g e cells')⟩) hG (fzH_meltN hs.heap.clo hob hlt hl hcell) (fun t=>.dead (hs.env t).belowN) n' wb Γ a w hs
theorem OwnG2.upd {lo:Nat}{H:AHeap}{e1 e0:TypeId}{v:AVal}{rows:List (List AVal)}(h:OwnG2 lo H e1 e0 v rows){k:Nat}{b:Blk}(hk:k<lo):OwnG2 lo (H.upd k b) e1 e0 v rows:=by
 obtain⟨cs,c1,c2,c3⟩:=h
 refine⟨cs,c1.keep (Nat.le_refl _) (by rw[upd_next];exact Nat.le_refl _) fun id _ h1 _ _ _=>by rw[upd_get,if_neg (by omega)],c2,fun j r c hr hc=>(c3 j r c hr hc).keep (Nat.le_refl _) (by rw[upd_next];exact Nat.le_refl _) fun id _ h1 _ _ _=>by rw[upd_get,if_neg (by omega)]⟩
end Go.Hx
namespace Go.Proofs
open Go.Hx
def rowStep (ns:List NodeP)(acc q:Int):Int:=if 0<=q/\q<ns.length/\acc<=1024 then acc*max 1 (min ((cardsL ns).getD q.toNat 0) 4) else acc
def rowsR (ns:List NodeP)(ps:List Int):Int:=ps.foldl (rowStep ns) 1
def fillRN (d:InfP)(v:Nat)(x:NodeP):NodeP:=if d.decs.testBit v=true/\x.rows=[]/\1<=x.card/\x.card<=4 then { x with rows:=List.replicate (rowsR d.nodes x.parents).toNat (unitRow d.grain x.card 0) } else x
def fillR (d:InfP):List NodeP:=d.nodes.zipIdx.map fun p=>fillRN d p.2 p.1
theorem fillR_len (d:InfP):(fillR d).length=d.nodes.length:=by simp [fillR]
theorem fillR_get {d:InfP}{v:Nat}{x:NodeP}(h:d.nodes[v]?=some x):(fillR d)[v]?=some (fillRN d v x):=by
 unfold fillR;rw[List.getElem?_map,List.getElem?_zipIdx,h];simp
theorem rowStep_rng {ns:List NodeP}{a q:Int}(h:1<=a/\a<=4096):1<=rowStep ns a q/\rowStep ns a q<=4096:=by
 unfold rowStep
 split
 ·rename_i hc
  generalize hm:max 1 (min ((cardsL ns).getD q.toNat 0) 4)=m
  have h1:1<=m/\m<=4:=by omega
  have h2:a*1<=a*m:=Int.mul_le_mul_of_nonneg_left h1.1 (by omega)
  have h3:a*m<=1024*4:=Int.mul_le_mul hc.2.2 h1.2 (by omega) (by omega)
  omega
 ·exact h
theorem rowsR_rng (ns:List NodeP)(ps:List Int):1<=rowsR ns ps/\rowsR ns ps<=4096:=by
 have:∀ (l:List Int) (a:Int),1<=a/\a<=4096->1<=l.foldl (rowStep ns) a/\l.foldl (rowStep ns) a<=4096:=by
  intro l
  induction l with
  | nil=>exact fun a h=>h
  | cons q l ih=>exact fun a h=>ih _ (rowStep_rng h)
 exact this ps 1 (by omega)
theorem rowsR_snoc (ns:List NodeP)(l:List Int)(q:Int):rowsR ns (l++[q])=rowStep ns (rowsR ns l) q:=by unfold rowsR;rw[List.foldl_append];rfl
theorem rowsR_eq {ns:List NodeP}{x:NodeP}(hin:InRange x.parents ns.length)(hc:∀ y∈ns,1<=y.card/\y.card<=4)(hp:prodL (parC ns x)<=1024):rowsR ns x.parents=prodL (parC ns x):=by
 have key:∀ k,k<=x.parents.length->rowsR ns (x.parents.take k)=prodL ((parC ns x).take k):=by
  intro k
  induction k with
  | zero=>intro _;rfl
  | succ k ih =>
   intro hk
   obtain⟨q,hq⟩:=get_of_lt (l:=x.parents) (i:=k) (by omega)
   have hqr:=hin q (List.mem_of_getElem? hq)
   have hcq:(parC ns x)[k]?=some ((cardsL ns).getD q.toNat 0):=by unfold parC atL;rw[List.getElem?_map,hq];rfl
   rw[take_succ_get hq,take_succ_get hcq,rowsR_snoc,prodL_snoc,ih (by omega)]
   have hm:=parC_mem hin hc _ (List.mem_of_getElem? hcq)
   have hle:prodL ((parC ns x).take k)<=1024:=by
    have h1:prodL ((parC ns x).take k)*prodL ((parC ns x).drop k)=prodL (parC ns x):=by rw[<- prodL_app,List.take_append_drop]
    have h2:=prodL_pos (l:=(parC ns x).take k) fun c h=>(parC_mem hin hc c (List.mem_of_mem_take h)).1
    have h3:=prodL_pos (l:=(parC ns x).drop k) fun c h=>(parC_mem hin hc c (List.mem_of_mem_drop h)).1
    have h4:prodL ((parC ns x).take k)*1<=prodL ((parC ns x).take k)*prodL ((parC ns x).drop k):=Int.mul_le_mul_of_nonneg_left h3 (by omega)
    omega
   unfold rowStep
   rw[if_pos ⟨hqr.1,hqr.2,hle⟩]
   congr 1
   omega
 have:=key x.parents.length (Nat.le_refl _)
 rw[List.take_of_length_le (Nat.le_refl _),List.take_of_length_le (by rw[show (parC ns x).length=_ from atL_len _ _];exact Nat.le_refl _)]at this
 exact this
set_option maxHeartbeats 4000000 in
theorem filled20_spec (d:InfP)(hf:InfFit d)(H:AHeap)(K:ARes->AHeap->Prop)(hK:K (.ret (netV d.grain (fillR d))) H):ACall Try.prog G0 52 [infE d] H K:=by
 refine ACall.clo ⟨_,Try.func52,rfl,rfl⟩ fun hcl=>?_
 have hl:=hf.nodes.1
 refine ACall.of_body (n:=106) (rs:=[.cell 2 66]) Try.func52 rfl rfl rfl (by decide) (by kernel_rfl) (by simp) ?_
 simp only[go_sem,infE_eq,infEC]
 obtain⟨Hb,hHb⟩:∃ Hb,Hb=ext H [.arr 0 34 [.lit (.int .i64 d.grain),.vec d.nodes.length (nodesE d.nodes),.lit (.int .u64 (d.decs:Int)),.vec d.utils.length (utilsC d.utils)],.arr 0 66 [.lit (.int .i64 0),.lit (.slice none 0 0)],.arr 0 66 [.lit (.int .i64 d.grain),.lit (.slice none 0 0)]]:=⟨_,rfl⟩
 rw[<- hHb]
 have g0:Hb.get H.next=some (.arr 0 34 [.lit (.int .i64 d.grain),.vec d.nodes.length (nodesE d.nodes),.lit (.int .u64 (d.decs:Int)),.vec d.utils.length (utilsC d.utils)]):=by rw[hHb];exact get_ext0 ..
 have g1:Hb.get (H.next+1)=some (.arr 0 66 [.lit (.int .i64 0),.lit (.slice none 0 0)]):=by rw[hHb];exact get_ext H _ 1 (by simp)
 have g2:Hb.get (H.next+2)=some (.arr 0 66 [.lit (.int .i64 d.grain),.lit (.slice none 0 0)]):=by rw[hHb];exact get_ext H _ 2 (by simp)
 have nb:Hb.next=H.next+3:=by rw[hHb];rfl
 have ob:Over H Hb:=by rw[hHb];exact .ext _ _
 clear hHb
 refine W.loop0 40564819207303340847894502557680 (by rfl) (fun ρ Hx=>∃ (k:Nat) (nh:AVal),ρ 4=lin k/\k<=d.nodes.length/\Hb.next<=Hx.next/\(∀ id,id<H.next+2->Hx.get id=Hb.get id)/\Hx.get (H.next+2)=some (.arr 0 66 [.lit (.int .i64 d.grain),nh])/\OwnZ (H.next+3) Hx 56 3 nh k (nodesE ((fillR d).take k))) (fun ρ H=>d.nodes.length - (iv (ρ 4)).toNat) ?_ ?_
 ·simp only[go_sem]
  exact⟨0,_,rfl,by omega,g2,.nil⟩
 rintro ρ Hx ⟨k,nh,h4,hk,hnx,hold,hbn,hO⟩
 refine W.env fun E hE=>?_
 have e1:E 1=.ptr H.next 0 0:=by rw[hE];simp only[go_sem]
 have e2:E 2=.ptr (H.next+1) 0 0:=by rw[hE];simp only[go_sem]
 have e3:E 3=.ptr (H.next+2) 0 0:=by rw[hE];simp only[go_sem]
 have e4:E 4=lin k:=by rw[hE];simp only[go_sem,h4]
 clear hE
 refine vc_sound _ _ _ (by rfl) ?_
 have l0:=get_live ((hold H.next (by omega)).trans g0)
 by_cases hb:(k:Int)<d.nodes.length
 ·obtain⟨x,hx⟩:=get_of_lt (l:=d.nodes) (i:=k) (by omega)
  obtain⟨f1,f2,f3⟩:=hf.nodes.2 x (List.mem_of_getElem? hx)
  have hne:=nodesE_ne hx
  have c0:=nodesE_part hx
  have c1:k*3+3<=(nodesE d.nodes).length:=by rw[nodesE_len];omega
  have w1:=IntWalk.i64_in ((k:Int)+1) (by omega)
  obtain⟨rv,hrv⟩:∃ rv,rv=rowsE x:=⟨_,rfl⟩
  have rvo:rv.one=true:=by rw[hrv];unfold rowsE;split<;>rfl
  have rvc:rv.cells=[rv]:=by rw[hrv];unfold rowsE;split<;>rfl
  have rvl:∀ H,lenS H rv=some (.lit (.int .i64 x.rows.length)):=fun H=>by
   rw[hrv];unfold rowsE;split
   ·rename_i h;rw[h];rfl
   ·rfl
  rw[<- hrv]at c0
  have step:∀ (Hq:AHeap) (rq:AVal) (y:NodeP),fillRN d k x=y->y.card=x.card->y.parents=x.parents->rq=rowsE y->Hx.next<Hq.next->(∀ id,id<Hx.next->Hq.get id=Hx.get id) ->
    ∃ nh2 H3,appendA Try.prog (ext Hq [.arr 0 56 [.lit (.int .i64 x.card),.vec x.parents.length (ints x.parents),rq]]) (Hq.next+1) 30 30 nh (.own Hq.next 0 0 1 3)=some (nh2,H3)/\nh2.cells=[nh2]/\nh2.one=true/\H3.live (H.next+2) 0=some (66,[.lit (.int .i64 d.grain),nh]) /\
     ∀ b,b=.arr 0 66 [.lit (.int .i64 d.grain),nh2]->Hb.next<=(H3.upd (H.next+2) b).next/\(∀ id,id<H.next+2->(H3.upd (H.next+2) b).get id=Hb.get id)/\(H3.upd (H.next+2) b).get (H.next+2)=some (.arr 0 66 [.lit (.int .i64 d.grain),nh2])/\OwnZ (H.next+3) (H3.upd (H.next+2) b) 56 3 nh2 (k+1) (nodesE ((fillR d).take (k+1))):=by
   intro Hq rq y hy y1 y2 hrq hqn hqo
   have hOq:OwnZ (H.next+3) Hq 56 3 nh k (nodesE ((fillR d).take k)):=hO.keep (by omega) fun id g _ h _=>hqo id h
   have rqo:rq.one=true:=by rw[hrq];unfold rowsE;split<;>rfl
   obtain⟨nh2,H3,hA,hO3,hn3,hp3⟩:=app_oneZ (P:=Try.prog) (xs:=[.lit (.int .i64 x.card),.vec x.parents.length (ints x.parents),rq]) Try.underlying30 Try.cells56 Try.zero56 (by simp only[List.all_cons,List.all_nil,rqo];rfl) rfl (by rw[Try.bytes56];omega) hOq (by omega) rfl
   have keep:∀ id,id<H.next+3->H3.get id=Hx.get id:=fun id h=>(hp3 id (by omega) (hOq.ne h)).trans (hqo id (by omega))
   refine⟨nh2,H3,hA,hO3.cells,hO3.one,get_live ((keep _ (by omega)).trans hbn),fun b hb=>⟨by rw[upd_next];omega,fun id h=>by rw[upd_get,if_neg (by omega),keep id (by omega)];exact hold id h,by rw[upd_get,if_pos rfl,hb],?_⟩⟩
   have e:nodesE ((fillR d).take (k+1))=nodesE ((fillR d).take k)++[.lit (.int .i64 x.card),.vec x.parents.length (ints x.parents),rq]:=by
    rw[take_succ_get (fillR_get hx),nodesE_snoc,hy,hrq,y1,y2]
    rfl
   rw[e]
   exact hO3.keep (by rw[upd_next];omega) fun id g h1 _ _=>by rw[upd_get,if_neg (by omega)]
  obtain⟨Hp,hHp⟩:∃ Hp,Hp=ext Hx [.arr 0 56 [.lit (.int .i64 x.card),.vec x.parents.length (ints x.parents),rv]]:=⟨_,rfl⟩
  have np:Hp.next=Hx.next+1:=by rw[hHp];rfl
  have gP:Hp.get Hx.next=some (.arr 0 56 [.lit (.int .i64 x.card),.vec x.parents.length (ints x.parents),rv]):=by rw[hHp];exact ext1_get_new
  have pold:∀ id,id<Hx.next->Hp.get id=Hx.get id:=fun id h=>by rw[hHp];exact ext1_get_old h
  have m0:=get_live ((pold H.next (by omega)).trans ((hold H.next (by omega)).trans g0))
  have m2:=get_live ((pold (H.next+2) (by omega)).trans hbn)
  have mP:=get_live gP
  simp only[go_sem,e1,e4,l0,hb,hne,c0,c1,rvo]
  rw[<- hHp]
  simp only[go_sem,m0,e4]
  refine AApply.clo (in20_spec d.decs k hf.decs _ _ ⟨trivial,?_⟩)
  have no : ¬ (d.decs.testBit k=true∧x.rows=[]∧1≤x.card∧x.card≤4)→∃ nh2 H3,appendA Try.prog (ext Hp [.arr 0 56 [.lit (.int .i64 x.card),.vec x.parents.length (ints x.parents),rv]]) (Hp.next+1) 30 30 nh (.own Hp.next 0 0 1 3)=some (nh2,H3)∧nh2.cells=[nh2]∧nh2.one=true∧H3.live (H.next+2) 0=some (66,[.lit (.int .i64 d.grain),nh]) ∧
     ∀ b,b=.arr 0 66 [.lit (.int .i64 d.grain),nh2]->Hb.next<=(H3.upd (H.next+2) b).next/\(∀ id,id<H.next+2->(H3.upd (H.next+2) b).get id=Hb.get id)/\(H3.upd (H.next+2) b).get (H.next+2)=some (.arr 0 66 [.lit (.int .i64 d.grain),nh2])/\OwnZ (H.next+3) (H3.upd (H.next+2) b) 56 3 nh2 (k+1) (nodesE ((fillR d).take (k+1))):=fun h =>
   step Hp rv x (if_neg h) rfl rfl hrv (by omega) pold
  cases hbit:d.decs.testBit k
  ·obtain⟨nh2,H3,hA,nc,no1,ln,st⟩:=no fun h=>by rw[hbit]at h;cases h.1
   simp only[go_sem,e3,e4,m2,mP,hA,nc,no1,ln,w1]
   exact⟨(st _ rfl).1,⟨k+1,nh2,rfl,by omega,(st _ rfl).1,(st _ rfl).2.1,(st _ rfl).2.2.1,(st _ rfl).2.2.2⟩,by rw[h4];simp only[lin,iv_int];omega⟩
  by_cases hr0:x.rows=[]
  rotate_left
  ·obtain⟨nh2,H3,hA,nc,no1,ln,st⟩:=no fun h=>hr0 h.2.1
   have hr0':¬ (x.rows.length:Int)=0:=fun h=>hr0 (List.eq_nil_of_length_eq_zero (by omega))
   simp only[go_sem,e3,e4,m2,mP,rvl,hr0',hA,nc,no1,ln,w1]
   exact⟨(st _ rfl).1,⟨k+1,nh2,rfl,by omega,(st _ rfl).1,(st _ rfl).2.1,(st _ rfl).2.2.1,(st _ rfl).2.2.2⟩,by rw[h4];simp only[lin,iv_int];omega⟩
  have hrn:rv=.lit (.slice none 0 0):=hrv.trans (if_pos hr0)
  by_cases hc1:x.card >= 1
  rotate_left
  ·obtain⟨nh2,H3,hA,nc,no1,ln,st⟩:=no fun h=>hc1 h.2.2.1
   rw[hrn]at mP hA
   simp only[go_sem,e3,e4,m2,mP,hc1,hA,nc,no1,ln,w1]
   exact⟨(st _ rfl).1,⟨k+1,nh2,rfl,by omega,(st _ rfl).1,(st _ rfl).2.1,(st _ rfl).2.2.1,(st _ rfl).2.2.2⟩,by rw[h4];simp only[lin,iv_int];omega⟩
  by_cases hc4:x.card<=4
  rotate_left
  ·obtain⟨nh2,H3,hA,nc,no1,ln,st⟩:=no fun h=>hc4 h.2.2.2
   rw[hrn]at mP hA
   simp only[go_sem,e3,e4,m2,mP,hc1,hc4,hA,nc,no1,ln,w1]
   exact⟨(st _ rfl).1,⟨k+1,nh2,rfl,by omega,(st _ rfl).1,(st _ rfl).2.1,(st _ rfl).2.2.1,(st _ rfl).2.2.2⟩,by rw[h4];simp only[lin,iv_int];omega⟩
  clear no
  rw[hrn]at mP gP
  simp only[go_sem,mP,hc1,hc4]
  refine W.loop0 2417851639158889605235136 (by rfl) (fun ρ2 Hq=>Hq=Hp/\∃ j:Nat,ρ2 7=lin j/\j<=x.parents.length/\ρ2 6=lin (rowsR d.nodes (x.parents.take j))) (fun ρ2 H=>x.parents.length - (iv (ρ2 7)).toNat) ?_ ?_
  ·simp only[go_sem]
   exact⟨0,rfl,by omega,rfl⟩
  rintro ρ2 Hq ⟨hHq,j,h7,hj,h6⟩
  subst hHq
  refine W.env fun E2 hE2=>?_
  have f1:E2 1=.ptr H.next 0 0:=by rw[hE2];simp only[go_sem,e1]
  have f2:E2 2=.ptr (H.next+1) 0 0:=by rw[hE2];simp only[go_sem,e2]
  have f3:E2 3=.ptr (H.next+2) 0 0:=by rw[hE2];simp only[go_sem,e3]
  have f4:E2 4=lin k:=by rw[hE2];simp only[go_sem,e4]
  have f5:E2 5=.ptr Hx.next 0 0:=by rw[hE2];simp only[go_sem]
  have f6:E2 6=lin (rowsR d.nodes (x.parents.take j)):=by rw[hE2];simp only[go_sem,h6]
  have f7:E2 7=lin j:=by rw[hE2];simp only[go_sem,h7]
  clear hE2
  refine vc_sound _ _ _ (by rfl) ?_
  by_cases hb2:(j:Int)<x.parents.length
  ·obtain⟨q,hq⟩:=get_of_lt (l:=x.parents) (i:=j) (by omega)
   have hqne:=ne_of_get hq
   have hs:=rowsR_snoc d.nodes (x.parents.take j) q
   rw[<- take_succ_get hq]at hs
   have hrr:=rowsR_rng d.nodes (x.parents.take j)
   have w2:=IntWalk.i64_in ((j:Int)+1) (by omega)
   unfold rowStep at hs
   by_cases q0:q >= 0
   rotate_left
   ·rw[if_neg (fun h=>q0 h.1)]at hs
    simp only[go_sem,f5,f6,f7,mP,hb2,hq,hqne,q0,w2]
    exact⟨⟨j+1,rfl,by omega,by rw[hs]⟩,by rw[h7];simp only[lin,iv_int];omega⟩
   by_cases q1:q<d.nodes.length
   rotate_left
   ·rw[if_neg (fun h=>q1 h.2.1)]at hs
    simp only[go_sem,f1,f5,f6,f7,mP,m0,hb2,hq,hqne,q0,q1,w2]
    exact⟨⟨j+1,rfl,by omega,by rw[hs]⟩,by rw[h7];simp only[lin,iv_int];omega⟩
   by_cases q2:rowsR d.nodes (x.parents.take j)<=1024
   rotate_left
   ·rw[if_neg (fun h=>q2 h.2.2)]at hs
    simp only[go_sem,f1,f5,f6,f7,mP,m0,hb2,hq,hqne,q0,q1,q2,w2]
    exact⟨⟨j+1,rfl,by omega,by rw[hs]⟩,by rw[h7];simp only[lin,iv_int];omega⟩
   rw[if_pos ⟨q0,q1,q2⟩]at hs
   obtain⟨u,rfl⟩:=Int.eq_ofNat_of_zero_le q0
   obtain⟨z,hz⟩:=get_of_lt (l:=d.nodes) (i:=u) (by omega)
   have z0:=nodesE_0 hz
   have zne:=nodesE_ne hz
   rw[Int.toNat_natCast,getD_of_get (cards_get hz)]at hs
   have hm4:1<=max 1 (min z.card 4)/\max 1 (min z.card 4)<=4:=by omega
   have hmm:(if (if 4<z.card then 4 else z.card) > 1 then if 4<z.card then 4 else z.card else 1)=max 1 (min z.card 4):=by split<;>split<;>omega
   generalize max 1 (min z.card 4)=m at hs hm4 hmm
   have hp1:rowsR d.nodes (x.parents.take j)*m<=1024*4:=Int.mul_le_mul q2 hm4.2 (by omega) (by omega)
   have hp0:0<=rowsR d.nodes (x.parents.take j)*m:=Int.mul_nonneg (by omega) (by omega)
   have w3:=IntWalk.i64_in (rowsR d.nodes (x.parents.take j)*m) (by omega)
   simp only[go_sem,f1,f5,f6,f7,mP,m0,hb2,hq,hqne,q0,q1,q2,w2,zne,z0,hmm,w3]
   exact⟨⟨j+1,rfl,by omega,by rw[hs]⟩,by rw[h7];simp only[lin,iv_int];omega⟩
  ·have hje:j=x.parents.length:=by omega
   rw[hje,List.take_of_length_le (Nat.le_refl _)]at f6
   have hRr:=rowsR_rng d.nodes x.parents
   obtain⟨R,hR⟩:=Int.eq_ofNat_of_zero_le (show 0<=rowsR d.nodes x.parents by omega)
   rw[hR]at f6
   obtain⟨cn,hcn⟩:=Int.eq_ofNat_of_zero_le (show 0<=x.card by omega)
   have hcn0:(0:Int)<cn:=by omega
   have hcn1:1<=cn:=by omega
   have hcn2:(cn:Int) >= 0:=by omega
   have ury:fillRN d k x={ x with rows:=List.replicate R (unitRow d.grain x.card 0) }:=by
    unfold fillRN
    rw[if_pos ⟨hbit,hr0,hc1,hc4⟩,hR,Int.toNat_natCast]
   simp only[go_sem,f4,f5,f7,mP,hb2]
   refine W.postWeak (Q':=fun e s2=>e=.exit 4/\∃ rq,s2.ρ 1=.ptr H.next 0 0/\s2.ρ 2=.ptr (H.next+1) 0 0/\s2.ρ 3=.ptr (H.next+2) 0 0/\s2.ρ 4=lin k/\s2.ρ 5=.ptr Hx.next 0 0/\Hq.next<=s2.H.next/\(∀ id,id<Hx.next->s2.H.get id=Hx.get id)/\s2.H.get Hx.next=some (.arr 0 56 [.lit (.int .i64 x.card),.vec x.parents.length (ints x.parents),rq])/\OwnG2 Hq.next s2.H 52 3 rq (List.replicate R (ints (unitRow d.grain x.card 0)))) ?_ ?_
   rotate_left
   ·rintro e s2 ⟨rfl,rq,a1,a2,a3,a4,a5,hn2,ho2,hP2,hO2⟩
    have hv:=hO2.fz (S:=fun id=>Hq.next<=id) (nx:=s2.H.next) (rows':=List.replicate R (ints (unitRow d.grain x.card 0))) (fun _ h=>h) rfl fun j r r' h1 h2=>by
     rw[h1]at h2
     cases h2
     refine⟨rfl,fun i hi _=>?_⟩
     have hr:=List.eq_of_mem_replicate (List.mem_of_getElem? h1)
     subst hr
     have e0:(ints (unitRow d.grain x.card 0))[i]?=some (ints (unitRow d.grain x.card 0))[i]:=List.getElem?_eq_getElem hi
     generalize (ints (unitRow d.grain x.card 0))[i]=a at e0 ⊢
     rw[ints_get]at e0
     obtain⟨b,_,rfl⟩:=Option.map_eq_some_iff.1 e0
     exact .lit _
    rw[List.length_replicate,List.map_replicate]at hv
    have hvv:(AVal.vec R (List.replicate R (.vec (ints (unitRow d.grain x.card 0)).length (ints (unitRow d.grain x.card 0)))))=vecV (List.replicate R (unitRow d.grain x.card 0)):=by
     unfold vecV vecI
     rw[List.length_replicate,List.map_replicate,ints_length]
    rw[hvv]at hv
    refine⟨⟨s2.ρ,s2.H.meltN Hq.next Hx.next (.arr 0 56 [.lit (.int .i64 x.card),.vec x.parents.length (ints x.parents),vecV (List.replicate R (unitRow d.grain x.card 0))])⟩,WeakS.meltN G0_ok hP2 (by omega) rfl (fun i hi _=>?_),Nat.le_refl _,trivial,?_⟩
    ·match i,hi with
     | 0,_=>exact .lit _
     | 1,_=>exact .keepInts _
     | 2,_=>exact hv
    obtain⟨He,hHe⟩:∃ He,He=s2.H.meltN Hq.next Hx.next (.arr 0 56 [.lit (.int .i64 x.card),.vec x.parents.length (ints x.parents),vecV (List.replicate R (unitRow d.grain x.card 0))]):=⟨_,rfl⟩
    rw[<- hHe]
    have gPe:He.get Hx.next=some (.arr 0 56 [.lit (.int .i64 x.card),.vec x.parents.length (ints x.parents),vecV (List.replicate R (unitRow d.grain x.card 0))]):=by rw[hHe];exact meltN_ob (by omega)
    have hoe:∀ id,id<Hx.next->He.get id=Hx.get id:=fun id h=>by rw[hHe,meltN_other (by omega) (by omega)];exact ho2 id h
    have hne':He.next=s2.H.next:=by rw[hHe];rfl
    clear hHe hv hP2 hO2
    have lPe:=get_live gPe
    have l2e:=get_live ((hoe (H.next+2) (by omega)).trans hbn)
    obtain⟨nh2,H3,hA,nc,no1,ln,st⟩:=step He (vecV (List.replicate R (unitRow d.grain x.card 0))) _ ury rfl rfl (by
     unfold rowsE
     rw[if_neg]
     intro h
     have:=congrArg List.length h
     simp at this
     omega) (by omega) hoe
    simp only[go_sem,a2,a3,a4,a5,lPe,l2e,hA,nc,no1,ln,w1]
    exact⟨(st _ rfl).1,⟨k+1,nh2,rfl,by omega,(st _ rfl).1,(st _ rfl).2.1,(st _ rfl).2.2.1,(st _ rfl).2.2.2⟩,by rw[h4];simp only[lin,iv_int];omega⟩
   refine W.loop0 633822882262475471490002191872 (by rfl) (fun ρ3 Hy=>∃ (i:Nat) (rq:AVal),ρ3 9=lin i/\i<=R/\Hq.next<=Hy.next/\(∀ id,id<Hx.next->Hy.get id=Hx.get id)/\Hy.get Hx.next=some (.arr 0 56 [.lit (.int .i64 x.card),.vec x.parents.length (ints x.parents),rq])/\OwnG2 Hq.next Hy 52 3 rq (List.replicate i (ints (unitRow d.grain x.card 0)))) (fun ρ3 H=>R - (iv (ρ3 9)).toNat) ?_ ?_
   ·simp only[go_sem]
    exact⟨0,_,rfl,by omega,pold,gP,.nil⟩
   rintro ρ3 Hy ⟨i,rq,h9,hi,hny,hyo,hyP,hOy⟩
   refine W.env fun E3 hE3=>?_
   have a1:E3 1=.ptr H.next 0 0:=by rw[hE3];simp only[go_sem,f1]
   have a2:E3 2=.ptr (H.next+1) 0 0:=by rw[hE3];simp only[go_sem,f2]
   have a3:E3 3=.ptr (H.next+2) 0 0:=by rw[hE3];simp only[go_sem,f3]
   have a4:E3 4=lin k:=by rw[hE3];simp only[go_sem,f4]
   have a5:E3 5=.ptr Hx.next 0 0:=by rw[hE3];simp only[go_sem,f5]
   have a6:E3 6=lin R:=by rw[hE3];simp only[go_sem,f6]
   have a9:E3 9=lin i:=by rw[hE3];simp only[go_sem,h9]
   clear hE3
   refine vc_sound _ _ _ (by rfl) ?_
   by_cases hb3:(i:Int)<R
   ·have w3:=IntWalk.i64_in ((i:Int)+1) (by omega)
    have yP:=get_live hyP
    have y0:=get_live ((hyo H.next (by omega)).trans ((hold H.next (by omega)).trans g0))
    rw[hcn]at yP
    have y0e:∀ L,(ext Hy L).live H.next 0=_:=fun L=>(ext_live_old (by omega)).trans y0
    have yPe:∀ L,(ext Hy L).live Hx.next 0=_:=fun L=>(ext_live_old (by omega)).trans yP
    have hun:(AVal.lit (.int .i64 d.grain) :: List.drop 1 (List.replicate cn (.lit (.int .i64 0))))=ints (unitRow d.grain x.card 0):=by
     unfold unitRow
     rw[hcn,Int.toNat_natCast]
     obtain⟨m,rfl⟩:∃ m,cn=m+1:=⟨cn - 1,by omega⟩
     simp [List.replicate_succ,ints,lin]
    have hul:(unitRow d.grain x.card 0).length=cn:=by rw[unitRow_len,hcn];rfl
    obtain⟨Hw,hHw⟩:∃ Hw,Hw=ext Hy [.arr 0 3 (ints (unitRow d.grain x.card 0))]:=⟨_,rfl⟩
    have hwn:Hw.next=Hy.next+1:=by rw[hHw];rfl
    have hwo:Over Hy Hw:=by rw[hHw];exact .ext _ _
    have hwg:Hw.get Hy.next=some (.arr 0 3 (ints (unitRow d.grain x.card 0))):=by rw[hHw];exact ext1_get_new
    have wP:Hw.live Hx.next 0=_:=(hwo.live (by omega)).trans yP
    obtain⟨rq',Hj,hA,hO',hnj,hpj⟩:=OwnG2.app (P:=Try.prog) (H:=Hw) (n:=Hw.next+1) (t:=36) (x:=.own Hy.next 0 0 cn 1) (r:=ints (unitRow d.grain x.card 0)) Try.underlying36 Try.cells52 Try.zero52 Try.bytes52 (by decide) (by rw[List.length_replicate];omega) (hOy.over hwo) (by omega) (.inr ⟨Hy.next,0,by omega,by omega,by rw[ints_length,hul],hwg⟩) rfl
    have keep:∀ id,id<Hq.next->Hj.get id=Hy.get id:=fun id h=>(hpj id (by omega) h).trans (hwo.old id (by omega))
    have jP:Hj.live Hx.next 0=_:=get_live ((keep _ (by omega)).trans hyP)
    obtain⟨cs',hcs'⟩:=id hO'
    have rc:=hcs'.1.cells
    have ro:=hcs'.1.one
    rw[hwn,hHw,ext_ext]at hA
    simp only[List.cons_append,List.nil_append,Nat.add_assoc,Nat.reduceAdd]at hA
    simp only[go_sem,a1,a5,a6,a9,hb3,yP,y0e,yPe,hcn0,hcn2,hun,hA,jP,rc,ro,w3]
    refine⟨by omega,by simp;omega,by rw[upd_next];omega,⟨i+1,rq',rfl,by omega,by rw[upd_next];omega,fun id h=>by rw[upd_get,if_neg (by omega),keep id (by omega)];exact hyo id h,by rw[upd_get,if_pos rfl],?_⟩,by rw[h9];simp only[lin,iv_int];omega⟩
    rw[List.replicate_succ']
    exact hO'.upd (by omega)
   ·simp only[go_sem,a1,a2,a3,a4,a5,a6,a9,hb3]
    have:i=R:=by omega
    subst this
    exact⟨rq,hny,hyo,hyP,hOy⟩
 ·have hke:k=d.nodes.length:=by omega
  have l2:=get_live hbn
  have l1:=get_live ((hold (H.next+1) (by omega)).trans g1)
  have nc:=hO.cells
  have no:=hO.one
  simp only[go_sem,e1,e2,e3,e4,l0,l1,l2,hb,no]
  rw[hke,List.take_of_length_le (by rw[fillR_len];exact Nat.le_refl _)]at hO
  refine FinV.dropO (v':=netV d.grain (fillR d)) G0_ok hcl ⟨by rw[upd_next];have:=ob.next;omega,fun id h=>by rw[upd_get,if_neg (by omega),hold id (by omega)];exact ob.old id h⟩ (.agg rfl fun i hi _=>?_) hK
  match i,hi with
  | 0,_=>exact .lit _
  | 1,_ =>
   show Fz _ _ _ nh (nodesV (fillR d))
   unfold nodesV
   rw[fillR_len]
   rcases hO with ⟨h,hz,hc⟩|⟨id,gg,k1,k2,h,k4,k5⟩
   ·have:fillR d=[]:=List.eq_nil_of_length_eq_zero (by rw[fillR_len];exact hz)
    rw[h,hz,this]
    exact .nil
   ·rw[h]
    refine .frz (by omega) (show (Hx.upd (H.next+1) _).get id=some (.arr gg 56 (nodesE (fillR d))) by rw[upd_get,if_neg (by omega)];exact k5) (by rw[nodesC_len,fillR_len]) fun j hj h2 h'=>?_
    have e0:(0:Nat)+j=j:=Nat.zero_add j
    have h3:j<(nodesE (fillR d)).length:=by omega
    have:=fun Hq=>fz_nodesE (S:=fun id=>H.next<=id) (H:=Hq) (nx:=H.next) (fillR d) j h3 h'
    simpa only[e0] using this _
end Go.Proofs
namespace Go.Proofs
open Go.Hx
theorem prodL_sub {cs:List Int}(hc:∀ c∈cs,1<=c):∀ (k:Nat) (ps:List Int),k<=cs.length->ps.Pairwise (·<·)->(∀ p∈ps,0<=p/\p<k)->prodL (atL cs ps)<=prodL (cs.take k):=by
 intro k
 induction k with
 | zero =>
  intro ps _ _ h
  cases ps with
  | nil=>exact Int.le_refl _
  | cons p ps=>have:=h p (by simp);omega
 | succ k ih =>
  intro ps hk hw h
  obtain⟨c,hck⟩:=get_of_lt (l:=cs) (i:=k) (by omega)
  have c1:=hc c (List.mem_of_getElem? hck)
  rw[take_succ_get hck,prodL_snoc]
  have hp:=prodL_pos (l:=cs.take k) fun c h=>hc c (List.mem_of_mem_take h)
  rcases List.eq_nil_or_concat ps with rfl|⟨qs,q,rfl⟩
  ·show 1<=_
   have:=Int.mul_le_mul hp c1 (by omega) (by omega)
   omega
  ·rw[List.concat_eq_append]at hw h ⊢
   have hq:=h q (by simp)
   obtain⟨w1,_,w3⟩:=List.pairwise_append.1 hw
   have hqs:∀ p∈qs,0<=p/\p<q:=fun p hp=>⟨(h p (by simp [hp])).1,w3 p hp q (by simp)⟩
   by_cases hqk:q=k
   ·have h1:=ih qs (by omega) w1 fun p hp=>by have:=hqs p hp;omega
    unfold atL at h1 ⊢
    rw[List.map_append,prodL_app]
    have e:prodL (List.map (fun p=>cs.getD p.toNat 0) [q])=c:=by
     rw[hqk]
     simp only[List.map_cons,List.map_nil,Int.toNat_natCast,getD_of_get hck,prodL_cons,prodL_nil,Int.mul_one]
    rw[e]
    exact Int.mul_le_mul_of_nonneg_right h1 (by omega)
   ·have h1:=ih (qs++[q]) (by omega) hw fun p hp=>by
     rcases List.mem_append.1 hp with h'|h'
     ·have:=hqs p h';omega
     ·obtain rfl:=List.mem_singleton.1 h';omega
    have h2:prodL (cs.take k)*1<=prodL (cs.take k)*c:=Int.mul_le_mul_of_nonneg_left c1 (by omega)
    omega
theorem parC_le {ns:List NodeP}{x:NodeP}(hp:PlacesOk x.parents ns.length)(hc:∀ y∈ns,1<=y.card/\y.card<=4):prodL (parC ns x)<=prodL (cardsL ns):=by
 have h:=prodL_sub (cs:=cardsL ns) (fun c h=>by
  obtain⟨y,hy,rfl⟩:=List.mem_map.1 h
  exact(hc y hy).1) ns.length x.parents (by rw[cards_len];exact Nat.le_refl _) hp.1 hp.2
 rw[List.take_of_length_le (by rw[cards_len];exact Nat.le_refl _)]at h
 exact h
theorem fillR_ok {d:InfP}(h:InfOk d):fillR d=fillL d fun _ _=>0:=by
 apply List.ext_getElem?
 intro v
 rcases Nat.lt_or_ge v d.nodes.length with hv|hv
 ·obtain⟨x,hx⟩:=get_of_lt hv
  rw[fillR_get hx,fillL_get hx]
  unfold fillRN
  by_cases hb:d.decs.testBit v=true
  ·obtain⟨x1,x2⟩:=h.n.dec v x hx hb
   have hc:=h.n.card x (List.mem_of_getElem? hx)
   rw[if_pos ⟨hb,x1,hc.1,hc.2⟩,fillN_dec hx hb]
   have hsz:=h.net.size
   rw[fillL_card]at hsz
   have hle:=parC_le x2 h.n.card
   rw[rowsR_eq (fun q hq=>by have:=x2.2 q hq;omega) h.n.card (by omega),x1,List.nil_append]
   congr 2
   unfold decRows rowsN
   rw[List.map_const',List.length_range]
  ·rw[if_neg fun h=>hb h.1,fillN_no hb]
 ·rw[List.getElem?_eq_none (by rw[fillR_len];exact hv),List.getElem?_eq_none (by rw[fillL_len];exact hv)]
def rcN (d:InfP)(v:Nat):Int × Int:=match d.nodes[v]? with
 | some x=>(rowsN d.nodes x,x.card)
 | none=>(0,0)
def rcL (d:InfP):List (Int × Int):=(decL d).map (rcN d)
def prC (l:List (Int × Int)):List AVal:=(l.map fun p=>[lin p.1,lin p.2]).flatten
theorem prC_0 {l:List (Int × Int)}{i:Nat}{p:Int × Int}(h:l[i]?=some p):(prC l)[i*2]?=some (lin p.1):=flat_get (f:=fun p:Int × Int=>[lin p.1,lin p.2]) (z:=2) (fun _=>rfl) l i 0 p h (by omega)
theorem prC_1 {l:List (Int × Int)}{i:Nat}{p:Int × Int}(h:l[i]?=some p):(prC l)[i*2+1]?=some (lin p.2):=flat_get (f:=fun p:Int × Int=>[lin p.1,lin p.2]) (z:=2) (fun _=>rfl) l i 1 p h (by omega)
theorem prC_ne {l:List (Int × Int)}{i:Nat}{p:Int × Int}(h:l[i]?=some p):¬ prC l=[]:=fun e=>by
 have:=prC_0 h;rw[e]at this;simp at this
theorem prC_snoc (l:List (Int × Int))(p:Int × Int):prC (l++[p])=prC l++[lin p.1,lin p.2]:=by unfold prC;simp
theorem fz_prC {S:Nat->Prop}{H:AHeap}{nx:Nat}(l:List (Int × Int)):∀ c∈prC l,Fz S H nx c c:=by
 intro c hc
 unfold prC at hc
 obtain⟨r,hr,hc⟩:=List.mem_flatten.1 hc
 obtain⟨x,_,rfl⟩:=List.mem_map.1 hr
 simp only[List.mem_cons,List.not_mem_nil,or_false]at hc
 rcases hc with rfl|rfl<;>exact .lit _
theorem rcN_rng {d:InfP}(h:InfOk d){v:Nat}(hv:v<d.nodes.length)(hb:d.decs.testBit v=true):1<=(rcN d v).1/\(rcN d v).1<=1024/\1<=(rcN d v).2/\(rcN d v).2<=4:=by
 obtain⟨x,hx⟩:=get_of_lt hv
 obtain⟨x1,x2⟩:=h.n.dec v x hx hb
 have hc:=h.n.card x (List.mem_of_getElem? hx)
 have hsz:=h.net.size
 rw[fillL_card]at hsz
 have hle:=parC_le x2 h.n.card
 have hps:=prodL_pos (l:=parC d.nodes x) fun c hc=>(parC_mem (fun q hq=>by have:=x2.2 q hq;omega) h.n.card c hc).1
 unfold rcN
 rw[hx]
 show 1<=((rowsN d.nodes x:Nat):Int)/\((rowsN d.nodes x:Nat):Int)<=1024/\1<=x.card/\x.card<=4
 unfold rowsN
 omega
set_option maxHeartbeats 4000000 in
theorem rows20_spec (d:InfP)(hf:InfFit d)(hok:InfOk d)(H:AHeap)(K:ARes->AHeap->Prop)(hK:K (.ret (.vec (rcL d).length (prC (rcL d)))) H):ACall Try.prog G0 27 [infE d] H K:=by
 refine ACall.clo ⟨_,Try.func27,rfl,rfl⟩ fun hcl=>?_
 have hl:=hf.nodes.1
 have hn8:=hok.n.n1.2
 refine ACall.of_body (n:=41) (rs:=[.tmp 2]) Try.func27 rfl rfl rfl (by decide) (by kernel_rfl) (by simp) ?_
 simp only[go_sem,infE_eq,infEC]
 obtain⟨H1,hH1⟩:∃ H1,H1=ext H [.arr 0 34 [.lit (.int .i64 d.grain),.vec d.nodes.length (nodesE d.nodes),.lit (.int .u64 (d.decs:Int)),.vec d.utils.length (utilsC d.utils)]]:=⟨_,rfl⟩
 have g0:H1.get H.next=some (.arr 0 34 [.lit (.int .i64 d.grain),.vec d.nodes.length (nodesE d.nodes),.lit (.int .u64 (d.decs:Int)),.vec d.utils.length (utilsC d.utils)]):=by rw[hH1];exact get_ext0 ..
 have n1:H1.next=H.next+1:=by rw[hH1];rfl
 have o1:Over H H1:=by rw[hH1];exact .ext _ _
 rw[<- hH1]
 clear hH1
 have m0:=get_live g0
 refine AApply.clo (filled20_spec d hf _ _ ⟨trivial,?_⟩)
 rw[fillR_ok hok]
 simp only[go_sem,netV,nodesV]
 obtain⟨H2,hH2⟩:∃ H2,H2=ext H1 [.arr 0 66 [.lit (.int .i64 d.grain),.vec (fillL d fun _ _=>0).length (nodesC (fillL d fun _ _=>0))]]:=⟨_,rfl⟩
 have g1:H2.get H1.next=some (.arr 0 66 [.lit (.int .i64 d.grain),.vec (fillL d fun _ _=>0).length (nodesC (fillL d fun _ _=>0))]):=by rw[hH2];exact ext1_get_new
 have o2:Over H1 H2:=by rw[hH2];exact .ext _ _
 have n2:H2.next=H1.next+1:=by rw[hH2];rfl
 have k0:=(o2.live (g:=0) (by omega:H.next<H1.next)).trans m0
 have k1:=get_live g1
 rw[<- hH2]
 clear hH2
 simp only[go_sem,k0]
 refine AApply.clo (decisions20_spec d hf.decs (by omega) _ _ ⟨trivial,?_⟩)
 simp only[go_sem]
 have dl:(natsI (decL d)).length=(decL d).length:=by simp [natsI]
 have dl8:(decL d).length<=d.nodes.length:=decK_len
 refine W.loop0 1099511625800 (by rfl) (fun ρ Hx=>∃ (k:Nat) (ov:AVal),ρ 6=lin k/\k<=(decL d).length/\Over H2 Hx/\ρ 3=ov/\OwnZ H2.next Hx 64 2 ov k (prC ((rcL d).take k))) (fun ρ H=>(decL d).length - (iv (ρ 6)).toNat) ?_ ?_
 ·simp only[go_sem]
  exact⟨0,_,rfl,by omega,.refl _,rfl,.nil⟩
 rintro ρ Hx ⟨k,ov,h6,hk,hov,h3,hO⟩
 refine W.env fun E hE=>?_
 have e3:E 3=ov:=by rw[hE];simp only[go_sem,h3]
 have e4:E 4=.ptr H1.next 0 0:=by rw[hE];simp only[go_sem]
 have e5:E 5=vecI (natsI (decL d)):=by rw[hE];simp only[go_sem]
 have e6:E 6=lin k:=by rw[hE];simp only[go_sem,h6]
 clear hE
 refine vc_sound _ _ _ (by rfl) ?_
 have x1:=(hov.live (g:=0) (by omega:H1.next<H2.next)).trans k1
 have onx:=hov.next
 by_cases hb:(k:Int)<(decL d).length
 ·obtain⟨v,hv⟩:=get_of_lt (l:=decL d) (i:=k) (by omega)
  obtain⟨v1,v2,_⟩:=decK_place hv
  obtain⟨x,hx⟩:=get_of_lt v1
  have hvi:(natsI (decL d))[k]?=some (v:Int):=by unfold natsI;rw[List.getElem?_map,hv];rfl
  have hvne:=ne_of_get hvi
  have hfx:=fillL_get (c:=fun _ _=>0) hx
  have f0:=nodesC_0 hfx
  have f2:=nodesC_2 hfx
  have fne:=nodesC_ne hfx
  have hvl:(v:Int)<(fillL d fun _ _=>0).length:=by rw[fillL_len];omega
  have w1:=IntWalk.i64_in ((k:Int)+1) (by omega)
  have hrc:rcN d v=(((fillN d (fun _ _=>0) (decL d).length v x).rows.length:Int),(fillN d (fun _ _=>0) (decL d).length v x).card):=by
   rw[fillN_dec hx v2]
   unfold rcN
   rw[hx]
   have:=(hok.n.dec v x hx v2).1
   simp [this,decRows]
  generalize fillN d (fun _ _=>0) (decL d).length v x=y at f0 f2 hrc
  obtain⟨ov',Hj,hA,hO',hnj,hpj⟩:=app_oneZ (P:=Try.prog) (t:=76) (xs:=[lin y.rows.length,lin y.card]) Try.underlying76 Try.cells64 Try.zero64 rfl rfl (by rw[Try.bytes64];omega) hO onx rfl
  simp only[lin]at hA
  simp only[go_sem,e5,e6,dl,hb]
  refine W.draw 22 [0,0,2,0,0,24,56,126,254,510,1022,0,2048,0,0,24576,57344,129024,260096,522240,1048574,2097150] Try.mixed (by kernel_rfl) (by kernel_rfl) ?_
  simp only[go_sem,e3,e4,e5,e6,dl,hb,hvi,hvne,x1,f0,f2,fne,hvl,w1,hA,vecV]
  have hrg:(rcL d)[k]?=some (rcN d v):=by unfold rcL;rw[List.getElem?_map,hv];rfl
  refine⟨by omega,⟨k+1,ov',rfl,by omega,⟨by omega,fun id h=>(hpj id (by omega) (hO.ne h)).trans (hov.old id h)⟩,rfl,?_⟩,by rw[h6];simp only[lin,iv_int];omega⟩
  rw[take_succ_get hrg,prC_snoc,hrc]
  exact hO'
 ·have hke:k=(decL d).length:=by omega
  simp only[go_sem,e3,e5,e6,dl,hb]
  have hrl:(rcL d).length=(decL d).length:=by simp [rcL]
  rw[hke,List.take_of_length_le (by omega)]at hO
  refine FinV.dropO G0_ok hcl ((o1.trans o2).trans hov) ?_ hK
  rw[hrl]
  have oh2:=(o1.trans o2).next
  rcases hO with ⟨h,hz,hc⟩|⟨id,gg,k1,k2,h,k4,k5⟩
  ·rw[h,hz,hc]
   exact .nil
  ·rw[h]
   refine .frz (by omega) k5 k4 fun j hj h2 h'=>?_
   have e0:(0:Nat)+j=j:=Nat.zero_add j
   have h3:j<(prC (rcL d)).length:=by omega
   have:=fun Hq=>fz_prC (S:=fun id=>H.next<=id) (H:=Hq) (nx:=H.next) (rcL d) _ (List.getElem_mem h3)
   simpa only[e0] using this _
end Go.Proofs
namespace Go.Proofs
open Go.Hx
def RowsFit (l:List (Int × Int))(ps:List (List Int)):Prop:=ps.length=l.length/\∀ (k:Nat) (p:Int × Int) (r:List Int),l[k]?=some p->ps[k]?=some r->(r.length:Int)=p.1/\∀ a∈r,0<=a/\a<p.2
theorem polOk_rows {d:InfP}{p:List (List Int)}:PolOk d p↔RowsFit (rcL d) p:=by
 have hg:∀ (k v:Nat) (x:NodeP),(decL d)[k]?=some v->d.nodes[v]?=some x->(rcL d)[k]?=some ((rowsN d.nodes x:Int),x.card):=fun k v x hv hx=>by
  unfold rcL
  rw[List.getElem?_map,hv,Option.map_some]
  unfold rcN
  rw[hx]
 constructor
 ·intro h
  refine⟨by rw[h.len];simp [rcL],fun k q r hq hr=>?_⟩
  obtain⟨v,hv⟩:=get_of_lt (l:=decL d) (i:=k) (by have:=get_lt hr;rw[h.len]at this;exact this)
  obtain⟨v1,_⟩:=decK_place hv
  obtain⟨x,hx⟩:=get_of_lt v1
  rw[hg k v x hv hx]at hq
  cases hq
  obtain⟨a,b⟩:=h.row k v x r hv hx hr
  exact⟨by rw[a],b⟩
 ·intro h
  refine⟨by rw[h.1];simp [rcL],fun k v x l hv hx hl=>?_⟩
  obtain⟨a,b⟩:=h.2 k _ l (hg k v x hv hx) hl
  exact⟨by simp only at a;omega,b⟩
set_option maxHeartbeats 4000000 in
theorem choose20_spec (d:InfP)(hf:InfFit d)(hok:InfOk d)(bs:List Int)(hbl:(bs.length:Int)<2 ^ 63)(hb8:∀ x∈bs,U8 x)(H:AHeap)(K:ARes->AHeap->Prop)(hK:∀ p,PolOk d p->K (.ret (vecV p)) H):ACall Try.prog G0 8 [infE d,.vec bs.length (bytesL bs)] H K:=by
 refine ACall.clo ⟨_,Try.func8,rfl,rfl⟩ fun hcl=>?_
 have hn8:=hok.n.n1.2
 refine ACall.of_body (n:=57) (rs:=[.tmp 4]) Try.func8 rfl rfl rfl (by decide) (by kernel_rfl) (by simp) ?_
 simp only[go_sem,infE_eq,infEC]
 obtain⟨H1,hH1⟩:∃ H1,H1=ext H [.arr 0 34 [.lit (.int .i64 d.grain),.vec d.nodes.length (nodesE d.nodes),.lit (.int .u64 (d.decs:Int)),.vec d.utils.length (utilsC d.utils)]]:=⟨_,rfl⟩
 have n1:H1.next=H.next+1:=by rw[hH1];rfl
 have o1:Over H H1:=by rw[hH1];exact .ext _ _
 rw[<- hH1]
 clear hH1
 refine AApply.clo (rows20_spec d hf hok _ _ ⟨trivial,?_⟩)
 have rl:(rcL d).length=(decL d).length:=by simp [rcL]
 have dl8:(decL d).length<=d.nodes.length:=decK_len
 have rr:∀ p∈rcL d,1<=p.1/\p.1<=1024/\1<=p.2/\p.2<=4:=fun p hp=>by
  unfold rcL at hp
  obtain⟨v,hv,rfl⟩:=List.mem_map.1 hp
  obtain⟨v1,v2⟩:=mem_decK.1 hv
  exact rcN_rng hok v1 v2
 generalize hL:rcL d=L at rl rr
 simp only[go_sem]
 refine W.loop0 72057594037915552 (by rfl) (fun ρ Hx=>∃ (k at':Nat) (ps:List (List Int)),ρ 8=lin k/\k<=L.length/\ρ 7=lin at'/\at'<=k*1024/\H1.next<=Hx.next/\(∀ id,id<H1.next->Hx.get id=H1.get id)/\OwnG2 H1.next Hx 52 3 (ρ 5) (ps.map ints)/\RowsFit (L.take k) ps) (fun ρ H=>L.length - (iv (ρ 8)).toNat) ?_ ?_
 ·simp only[go_sem]
  exact⟨0,0,[],rfl,by omega,rfl,by omega,.nil,rfl,fun k p r _ h=>by simp at h⟩
 rintro ρ Hx ⟨k,at',ps,h8,hk,h7,hat,hnx,hold,h5,hfit⟩
 obtain⟨ov,hov⟩:∃ ov,ov=ρ 5:=⟨_,rfl⟩
 rw[<- hov]at h5
 refine W.env fun E hE=>?_
 have e1:E 1=.vec bs.length (bytesL bs):=by rw[hE];simp only[go_sem]
 have e5:E 5=ov:=by rw[hE];simp only[go_sem,hov]
 have e6:E 6=.vec L.length (prC L):=by rw[hE];simp only[go_sem]
 have e7:E 7=lin at':=by rw[hE];simp only[go_sem,h7]
 have e8:E 8=lin k:=by rw[hE];simp only[go_sem,h8]
 clear hE
 refine vc_sound _ _ _ (by rfl) ?_
 by_cases hb:(k:Int)<L.length
 ·obtain⟨⟨c1,c2⟩,hp⟩:=get_of_lt (l:=L) (i:=k) (by omega)
  obtain⟨r1,r2,r3,r4⟩:=rr _ (List.mem_of_getElem? hp)
  dsimp only at r1 r2 r3 r4
  have p0:=prC_0 hp
  have p1:=prC_1 hp
  have pne:=prC_ne hp
  have w1:=IntWalk.i64_in ((k:Int)+1) (by omega)
  simp only[go_sem,e6,e8,hb]
  refine W.loop0 4503599626325632 (by rfl) (fun ρ2 Hy=>∃ (j:Nat) (q:List Int),ρ2 10=lin j/\(j:Int)<=c1/\q.length=j/\ρ2 7=lin ((at'+j:Nat):Int)/\(∀ a∈q,0<=a/\a<c2)/\Over Hx Hy/\OwnG Hx.next Hy 3 (ρ2 9) (ints q)) (fun ρ2 H=>c1.toNat - (iv (ρ2 10)).toNat) ?_ ?_
  ·simp only[go_sem,e7]
   exact⟨0,[],rfl,by omega,rfl,rfl,by simp,.refl _,.nil⟩
  rintro ρ2 Hy ⟨j,q,h10,hj,hql,h7',hq,hxy,h9⟩
  obtain⟨qv,hqv⟩:∃ qv,qv=ρ2 9:=⟨_,rfl⟩
  rw[<- hqv]at h9
  refine W.env fun E2 hE2=>?_
  have f1:E2 1=.vec bs.length (bytesL bs):=by rw[hE2];simp only[go_sem,e1]
  have f5:E2 5=ov:=by rw[hE2];simp only[go_sem,e5]
  have f6:E2 6=.vec L.length (prC L):=by rw[hE2];simp only[go_sem,e6]
  have f7:E2 7=lin ((at'+j:Nat):Int):=by rw[hE2];simp only[go_sem,h7']
  have f8:E2 8=lin k:=by rw[hE2];simp only[go_sem,e8]
  have f9:E2 9=qv:=by rw[hE2];simp only[go_sem,hqv]
  have f10:E2 10=lin j:=by rw[hE2];simp only[go_sem,h10]
  clear hE2
  refine vc_sound _ _ _ (by rfl) ?_
  by_cases hb2:(j:Int)<c1
  ·obtain⟨m,hm⟩:∃ m:Nat,m=at'+j:=⟨_,rfl⟩
   rw[<- hm]at f7
   have w2:=IntWalk.i64_in ((j:Int)+1) (by omega)
   have w3:=IntWalk.i64_in ((m:Int)+1) (by omega)
   have app:∀ a:Int,0<=a/\a<c2->∃ v' H2,appendA Try.prog (ext Hy [.arr 0 3 [.lit (.int .i64 a)]]) (Hy.next+1) 52 52 qv (.own Hy.next 0 0 1 1)=some (v',H2)/\Hx.next<=H2.next/\∀ a' ,a'=a->(∀ b∈q++[a'],0<=b/\b<c2)/\Over Hx H2/\OwnG Hx.next H2 3 v' (ints (q++[a'])):=fun a ha=>by
    obtain⟨v',H2,hA,ho2,hO2,hn2,_⟩:=app_int a hxy h9 (by omega)
    refine⟨v',H2,hA,by have:=hxy.next;omega,fun a' ha'=>?_⟩
    subst ha'
    exact⟨fun b hb=>by rcases List.mem_append.1 hb with h|h;exact hq b h;obtain rfl:=List.mem_singleton.1 h;exact ha,ho2,hO2⟩
   by_cases hz:(bs.length:Int) > 0
   ·have hzn:¬ (bs.length:Int)=0:=by omega
    have m1:(m:Int).tmod bs.length=((m % bs.length:Nat):Int):=by rw[Int.tmod_eq_emod_of_nonneg (by omega)];rfl
    have m2:=Nat.mod_lt m (show bs.length > 0 by omega)
    obtain⟨z,hzz⟩:∃ z,z=m % bs.length:=⟨_,rfl⟩
    rw[<- hzz]at m1 m2
    have hz0:(z:Int) >= 0:=by omega
    have hzl:(z:Int)<bs.length:=by omega
    obtain⟨b,hbg⟩:=get_of_lt (l:=bs) (i:=z) m2
    have b8:=hb8 b (List.mem_of_getElem? hbg)
    have hbg':=bytesL_get hbg
    have hbne:=ne_of_get hbg'
    unfold U8 at b8
    have w4:IntKind.i64.wrap b=b:=IntWalk.i64_in _ (by omega)
    have c2n:¬ c2=0:=by omega
    have tb:b.tmod c2=b % c2:=Int.tmod_eq_emod_of_nonneg b8.1
    have tb0:=Int.emod_nonneg b c2n
    have tb1:=Int.emod_lt_of_pos b (show 0<c2 by omega)
    have w5:IntKind.i64.wrap (b % c2)=b % c2:=IntWalk.i64_in _ (by omega)
    obtain⟨v',Hj,hA,hjn,fin⟩:=app (b % c2) ⟨tb0,tb1⟩
    obtain⟨fi1,fi2,fi3⟩:=fin _ rfl
    simp only[go_sem,f1,f6,f8,f10,p0,pne,hb,hb2,hz]
    refine W.draw 13 [0,0,0,4,14,31,63,127,0,0,768,1792,3840] Try.mixed (by kernel_rfl) (by kernel_rfl) ?_
    simp only[go_sem,f1,f6,f7,f8,f9,f10,p1,pne,hb,hzn,m1,hz0,hzl,hbg',hbne,w4,c2n,tb,w2,w3,hA]
    exact⟨by omega,⟨j+1,q++[_],rfl,by omega,by simp;omega,by rw[show ((at'+(j+1):Nat):Int)=(m:Int)+1 by omega],fi1,fi2,fi3⟩,by rw[h10];simp only[lin,iv_int];omega⟩
   ·obtain⟨v',Hj,hA,hjn,fin⟩:=app 0 ⟨by omega,by omega⟩
    obtain⟨fi1,fi2,fi3⟩:=fin _ rfl
    simp only[go_sem,f1,f6,f7,f8,f9,f10,p0,pne,hb,hb2,hz,w2,w3,hA]
    exact⟨by omega,⟨j+1,q++[_],rfl,by omega,by simp;omega,by rw[show ((at'+(j+1):Nat):Int)=(m:Int)+1 by omega],fi1,fi2,fi3⟩,by rw[h10];simp only[lin,iv_int];omega⟩
  ·have hjc:(j:Int)=c1:=by omega
   have h9':OwnG H1.next Hy 3 qv (ints q):=h9.keep hnx (Nat.le_refl _) fun _ _ _ _ _ _=>rfl
   have xyn:=hxy.next
   obtain⟨ov',Hj,hA,hO',hnj,hpj⟩:=OwnG2.app (P:=Try.prog) (n:=Hy.next+1) (t:=36) Try.underlying36 Try.cells52 Try.zero52 Try.bytes52 (by decide) (by rw[List.length_map,hfit.1,List.length_take];omega) (h5.over hxy) (by omega) h9' rfl
   have qvc:=h9.cells
   simp only[go_sem,f5,f6,f7,f8,f9,f10,p0,pne,hb,hb2,w1,qvc,List.length_singleton,List.drop_one,List.tail_cons,List.append_nil,hA]
   have pl:=hfit.1
   rw[List.length_take]at pl
   refine⟨by omega,⟨k+1,at'+j,ps++[q],rfl,by omega,rfl,by omega,by omega,fun id h=>by rw[hpj id (by omega) h,hxy.old id (by omega)];exact hold id h,by rw[List.map_append];exact hO',by rw[take_succ_get hp];simp;omega,fun i p r hp' hr=>?_⟩,by rw[h8];simp only[lin,iv_int];omega⟩
   rw[take_succ_get hp]at hp'
   rcases Nat.lt_or_ge i ps.length with h|h
   ·rw[List.getElem?_append_left h]at hr
    rw[List.getElem?_append_left (by rw[List.length_take];omega)]at hp'
    exact hfit.2 i p r hp' hr
   ·have hi:=get_lt hr
    simp at hi
    obtain rfl:i=ps.length:=by omega
    rw[List.getElem?_append_right (by omega)]at hr
    rw[List.getElem?_append_right (by rw[List.length_take];omega),List.length_take]at hp'
    rw[Nat.sub_self]at hr
    rw[show ps.length - min k L.length=0 by omega]at hp'
    cases hr
    cases hp'
    exact⟨by omega,hq⟩
 ·simp only[go_sem,e5,e6,e8,hb]
  have hke:k=L.length:=by omega
  rw[hke,List.take_of_length_le (Nat.le_refl _)]at hfit
  refine FinV.dropO (v':=vecV ps) G0_ok hcl ⟨by omega,fun id h=>by rw[hold id (by omega)];exact o1.old id h⟩ ?_ (hK ps (polOk_rows.2 (by rw[hL];exact hfit)))
  have:=h5.fz (S:=fun id=>H.next<=id) (nx:=H.next) (rows':=ps.map ints) (fun i h=>by omega) rfl fun j r r' h1 h2=>by
   rw[h1]at h2
   cases h2
   refine⟨rfl,fun i hi _=>?_⟩
   rw[List.getElem?_map]at h1
   obtain⟨z,_,rfl⟩:=Option.map_eq_some_iff.1 h1
   have e0:(ints z)[i]?=some (ints z)[i]:=List.getElem?_eq_getElem hi
   generalize (ints z)[i]=a at e0 ⊢
   rw[ints_get]at e0
   obtain⟨b,_,rfl⟩:=Option.map_eq_some_iff.1 e0
   exact .lit _
  rw[List.length_map,List.map_map]at this
  have e:(ps.map ((fun r:List AVal=>AVal.vec r.length r) ∘ ints))=ps.map vecI:=List.map_congr_left fun z _=>by simp [Function.comp,vecI,ints_length]
  rw[e]at this
  exact this
end Go.Proofs
namespace Go.Hx
open Go.Proofs.R01 (pureRun_bind)
variable {P:Program} {t e:TypeId} {x y:Operand} {k k':IntKind} {a b c d:Int}
end Go.Hx
namespace Go.Proofs
open Go.Hx
end Go.Proofs
namespace Go.Hx
variable {P:Program} {G:Nat->Option (List AVal)}
theorem fzH_id {H:AHeap}(hc:Clo H):FzH (fun _=>False) H H where
 gone id hs:=hs.elim
 kept id b _ hb:=by
  have hbb:=hc.below id b hb
  refine⟨hc.lt id b hb,b,hb,?_⟩
  cases b with
  | rsv=>trivial
  | mp=>rfl
  | arr g e cells=>exact⟨rfl,rfl,rfl,fun i h _=>.dead (hbb i h)⟩
  | loop st pend n env ps asg body=>exact⟨rfl,rfl,rfl,rfl,rfl,rfl,rfl,fun t ht=>.dead (hbb t ht)⟩
 none id _ hb:=hb
theorem ACall.weakArgs {H:AHeap}{f:FuncId}{args args':List AVal}{K:ARes->AHeap->Prop}(hG:GOk G)(hl:args'.length=args.length)(hv:∀ i (h:i<args.length) (h':i<args'.length),Fz (fun _=>False) H H.next args[i] args'[i])
  (h:ACall P G f args' H K):ACall P G f args H K:=by
 refine⟨h.1,fun Γ w cargs R hr=>?_⟩
 have F:=fzH_id R.clo
 have R0:=F.rel hG R
 have E0:Evo Γ H w (gamF (fun _=>False) Γ) H w:=F.evo
 refine(h.2 _ w cargs R0 ⟨by have:=hr.1;omega,fun i h1 h2=>(hv i (by omega) h1).sound R F (hr.2 i (by omega) h2)⟩).mono ?_
 rintro e w' ⟨r,H',Γ',h1,h2,h3,h4,h5⟩
 exact⟨r,H',Γ',h1,h2,h3,E0.trans (Nat.le_refl _) h4,h5⟩
end Go.Hx
namespace Go.Proofs
open Go.Hx
theorem fz_infE {S:Nat->Prop}{H:AHeap}{nx:Nat}(d:InfP):Fz S H nx (infE d) (infV d):=by
 refine .agg rfl fun i hi _=>?_
 match i,hi with
 | 0,_=>exact .lit _
 | 1,_=>exact .vec (by rw[nodesE_len,nodesC_len]) fun j h h'=>fz_nodesE d.nodes j h h'
 | 2,_=>exact .lit _
 | 3,_=>exact .vec rfl fun j h h'=>fz_utilsC d.utils _ (List.getElem_mem h)
end Go.Proofs
namespace Go.Proofs
open Go.Hx
theorem decs_lt {d:InfP}(h:RightN d):d.decs<2 ^ d.nodes.length:=by
 have h1:=h.decs
 rw[Nat.shiftRight_eq_div_pow]at h1
 exact(Nat.div_eq_zero_iff_lt (Nat.two_pow_pos _)).1 h1
theorem len_atL {ns:List NodeP}{vars:List Int}(h8:ns.length<=8)(hp:PlacesOk vars ns.length)(hc:∀ y∈ns,1<=y.card/\y.card<=4):vars.length<=12:=by
 have:=(vars_small h8 hp hc).1
 rwa [atL_len]at this
theorem fit_ok {d:InfP}(h:InfOk d):InfFit d:=by
 have n8:=h.n.n1
 refine⟨⟨by omega,fun x hx=>?_⟩,?_,by have:=h.utils.1;omega,fun u hu=>?_⟩
 ·obtain⟨v,hv⟩:=List.mem_iff_getElem?.1 hx
  have hn:=h.net.node _ (List.mem_of_getElem? (fillL_get (c:=fun _ _=>0) hv))
  have hr:=h.net.rows _ (List.mem_of_getElem? (fillL_get (c:=fun _ _=>0) hv))
  rw[(fillN_card ..).1,(fillN_card ..).2,fillL_len]at hn
  unfold NodeOk at hr
  rw[parC_fill]at hr
  have hpl:=len_atL n8.2 hn.2 h.n.card
  refine⟨by omega,?_⟩
  by_cases hb:d.decs.testBit v=true
  ·rw[(h.n.dec v x hv hb).1]
   exact⟨by simp,fun r hr=>by cases hr⟩
  ·rw[fillN_no hb]at hr
   have:=(parC_small n8.2 hn.2 h.n.card).prod
   refine⟨by omega,fun r hr'=>?_⟩
   have:=(hr.2 r hr').1
   omega
 ·exact Nat.lt_of_lt_of_le (decs_lt h.n) (Nat.pow_le_pow_right (by decide) (by omega))
 ·have hu':=h.utils.2 u hu
  have:=len_atL n8.2 hu'.vars h.n.card
  have:=(vars_small n8.2 hu'.vars h.n.card).prod
  have:=hu'.size
  omega
theorem polFit_ok {d:InfP}(h:InfOk d){p:List (List Int)}(hp:PolOk d p):PolFit p:=by
 have n8:=h.n.n1
 have:=decK_len (D:=d.decs) (n:=d.nodes.length)
 have hl:=hp.len
 refine⟨by unfold decL at hl;omega,fun r hr=>?_⟩
 obtain⟨k,hk⟩:=List.mem_iff_getElem?.1 hr
 obtain⟨v,hv⟩:=get_of_lt (l:=decL d) (i:=k) (by have:=get_lt hk;omega)
 obtain⟨v1,v2,_⟩:=decK_place hv
 obtain⟨x,hx⟩:=get_of_lt v1
 have h1:=(hp.row k v x r hv hx hk).1
 have h2:=rcN_rng h v1 v2
 unfold rcN at h2
 rw[hx]at h2
 dsimp only at h2
 omega
theorem polErr_ok {d:InfP}(h:InfOk d){p:List (List Int)}(hp:PolOk d p):polErr d p=0:=by
 unfold polErr
 rw[decB_true h,decB_true hp]
 rfl
theorem pow60_6 (k:Nat)(h:k<=6):(60:Int) ^ k<=46656000000:=by
 have h1:(60:Nat) ^ k<=60 ^ 6:=Nat.pow_le_pow_right (by decide) h
 have h2:(60:Nat) ^ 6=46656000000:=by decide
 rw[h2]at h1
 have h3:=Int.ofNat_le.2 h1
 rw[Int.natCast_pow]at h3
 exact h3
theorem weight_bound6 {g:Int}{ns:List NodeP}(h:NetOk g ns)(h6:ns.length<=6){vals:List Int}(hf:FitsC (cardsL ns) vals):0<=weight ns vals/\weight ns vals<=46656000000:=by
 have hb:∀ w∈wgtL ns vals,0<=w/\w<=60:=fun w hw=>by
  obtain⟨v,hv,rfl⟩:=List.mem_map.1 hw
  obtain⟨x,hx⟩:=get_of_lt (List.mem_range.1 hv)
  obtain⟨i,r,a,w,hR⟩:=row_at h hx hf
  rw[hR.eq]
  have:=hR.wb
  have:=h.g1
  omega
 have h1:=prodL_le_pow (b:=60) (by omega) hb
 have h2:=pow60_6 (wgtL ns vals).length (by rw[wgtL_len];omega)
 exact⟨h1.1,Int.le_trans h1.2 h2⟩
theorem worlds_le {g:Int}{ns:List NodeP}(h:NetOk g ns):worlds ns<=1024/\(worlds ns:Int)=prodL (cardsL ns):=by
 have h1:=h.size
 have h2:=prodL_pos (l:=cardsL ns) fun c hc=>by
  obtain⟨x,hx,rfl⟩:=List.mem_map.1 hc
  exact(h.node x hx).1.1
 unfold worlds
 omega
theorem term_bound {g:Int}{ns:List NodeP}{us:List UtilP}(h:NetOk g ns)(h6:ns.length<=6)(hu:∀ u∈us,UtilOk ns u)(h4:us.length<=4){vals:List Int}(hf:FitsC (cardsL ns) vals)(j:Nat):
  -18662400000000<=weight ns vals*utilV ns (us.take j) vals/\weight ns vals*utilV ns (us.take j) vals<=18662400000000:=by
 obtain⟨a,b⟩:=weight_bound6 h h6 hf
 obtain⟨c,d⟩:=utils_bound hu h4 vals j
 generalize weight ns vals=w at *
 generalize utilV ns (us.take j) vals=u at *
 constructor
 ·have h1:w*(-400)<=w*u:=Int.mul_le_mul_of_nonneg_left c a
  omega
 ·have h1:w*u<=w*400:=Int.mul_le_mul_of_nonneg_left d a
  omega
theorem sumW_bound {g:Int}{ns:List NodeP}{us:List UtilP}(h:NetOk g ns)(h6:ns.length<=6)(hu:∀ u∈us,UtilOk ns u)(h4:us.length<=4):∀ k:Nat,-(18662400000000*k:Int)<=sumW ns us k/\sumW ns us k<=18662400000000*k:=by
 intro k
 induction k with
 | zero=>simp [sumW]
 | succ k ih =>
  rw[sumW_succ]
  have h1:∀ c∈cardsL ns,1<=c:=fun c hc=>by
   obtain⟨x,hx,rfl⟩:=List.mem_map.1 hc
   exact(h.node x hx).1.1
  have:=term_bound h h6 hu h4 (fits_vals h1 k) us.length
  rw[List.take_of_length_le (Nat.le_refl _)]at this
  push_cast
  omega
theorem sumsOk6 {d:InfP}(h6:d.nodes.length<=6)(p:List (List Int)):SumsOk d p:=by
 intro hok hp k hk
 have hn:=netOk_fill hok (choiceOk_pol hp)
 have:=sumW_bound hn (by rw[fillL_len];exact h6) (us:=d.utils) (fun u hu=>utilOk_fill (hok.utils.2 u hu)) hok.utils.1 k
 have hw:=(worlds_le hn).1
 rw[worlds_fill]at hw
 omega
end Go.Proofs
/-
  What worlds are worth, whatever the policy; the sum of a policy; expectations of a decision. Plain: no program stands in this text. No conditions.
-/
namespace Go.Proofs
open Go.Hx
def SS (n:Nat)(f:Nat->Int):Int:=((List.range n).map f).sum
theorem SS_zero (f:Nat->Int):SS 0 f=0:=rfl
theorem SS_succ (n:Nat)(f:Nat->Int):SS (n+1) f=SS n f+f n:=by unfold SS;rw[List.range_succ];simp
theorem SS_congr {n:Nat}{f g:Nat->Int}(h:∀ i,i<n->f i=g i):SS n f=SS n g:=by
 unfold SS
 congr 1
 exact List.map_congr_left fun i hi=>h i (List.mem_range.1 hi)
theorem SS_add (n:Nat)(f g:Nat->Int):SS n (fun i=>f i+g i)=SS n f+SS n g:=by
 induction n with
 | zero=>rfl
 | succ n ih=>rw[SS_succ,SS_succ,SS_succ,ih];omega
theorem SS_nil (n:Nat):SS n (fun _=>0)=0:=by
 induction n with
 | zero=>rfl
 | succ n ih=>rw[SS_succ,ih];rfl
theorem SS_comm (n m:Nat)(f:Nat->Nat->Int):SS n (fun i=>SS m (f i))=SS m (fun j=>SS n fun i=>f i j):=by
 induction n with
 | zero=>simp only[SS_zero];rw[SS_nil]
 | succ n ih=>simp only[SS_succ];rw[ih,SS_add]
theorem SS_one {m a:Nat}(h:a<m)(t:Int):SS m (fun j=>if j=a then t else 0)=t:=by
 induction m with
 | zero=>omega
 | succ m ih =>
  rw[SS_succ]
  by_cases e:a=m
  ·subst e
   rw[if_pos rfl,SS_congr (g:=fun _=>0) fun i hi=>if_neg (by omega),SS_nil]
   omega
  ·rw[ih (by omega),if_neg (fun h=>e h.symm)]
   omega
theorem SS_le {n:Nat}{f g:Nat->Int}(h:∀ i,i<n->f i<=g i):SS n f<=SS n g:=by
 induction n with
 | zero=>exact Int.le_refl _
 | succ n ih =>
  rw[SS_succ,SS_succ]
  have:=ih fun i hi=>h i (by omega)
  have:=h n (by omega)
  omega
theorem SS_lt {n:Nat}{f g:Nat->Int}(h:∀ i,i<n->f i<=g i){a:Nat}(ha:a<n)(hl:f a<g a):SS n f<SS n g:=by
 induction n with
 | zero=>omega
 | succ n ih =>
  rw[SS_succ,SS_succ]
  by_cases e:a=n
  ·subst e
   have:=SS_le (n:=a) fun i hi=>h i (by omega)
   omega
  ·have:=ih (fun i hi=>h i (by omega)) (by omega)
   have:=h n (by omega)
   omega
theorem sumW_SS (ns:List NodeP)(us:List UtilP)(k:Nat):sumW ns us k=SS k fun i=>weight ns (valsL (cardsL ns) i)*utilV ns us (valsL (cardsL ns) i):=rfl
def gainN (d:InfP)(vals:List Int)(v:Nat):Int:=if d.decs.testBit v=true then d.grain else wgtN d.nodes vals v
def gainP (d:InfP)(vals:List Int):Int:=prodL ((List.range d.nodes.length).map (gainN d vals))
def gainU (d:InfP)(vals:List Int):Int:=gainP d vals*utilV d.nodes d.utils vals
def rowI (ns:List NodeP)(v:Nat)(vals:List Int):Nat:=match ns[v]? with
 | some x=>(idxL (parC ns x) (atL vals x.parents)).toNat
 | none=>0
def agN (d:InfP)(c:Nat->Nat->Int)(vals:List Int)(v:Nat):Bool:=decide (c (placeD d.decs v) (rowI d.nodes v vals)=vals.getD v 0)
def agAll (d:InfP)(c:Nat->Nat->Int)(vals:List Int):Bool:=(decL d).all (agN d c vals)
def agEx (d:InfP)(c:Nat->Nat->Int)(v0:Nat)(vals:List Int):Bool:=(decL d).all fun v=>decide (v=v0) || agN d c vals v
theorem prodL_zero {l:List Int}(h:(0:Int)∈l):prodL l=0:=by
 induction l with
 | nil=>cases h
 | cons x l ih =>
  rw[prodL_cons]
  rcases List.mem_cons.1 h with rfl|h
  ·rw[Int.zero_mul]
  ·rw[ih h,Int.mul_zero]
theorem unitRow_at {g card a b:Int}(ha:0<=a/\a<card)(hb:0<=b/\b<card):(unitRow g card a).getD b.toNat 0=if a=b then g else 0:=by
 unfold unitRow
 rw[List.getD_eq_getElem?_getD,List.getElem?_set]
 by_cases h:a=b
 ·subst h
  rw[if_pos rfl,if_pos (by rw[List.length_replicate];omega),if_pos rfl]
  rfl
 ·rw[if_neg (by omega),if_neg h,List.getElem?_replicate,if_pos (by omega)]
  rfl
theorem util_fill (d:InfP)(c:Nat->Nat->Int)(us:List UtilP)(vals:List Int):utilV (fillL d c) us vals=utilV d.nodes us vals:=by
 unfold utilV utilU
 rw[fillL_card]
theorem fit_row {d:InfP}(hok:InfOk d){v:Nat}{x:NodeP}(hx:d.nodes[v]?=some x){vals:List Int}(hf:FitsC (cardsL d.nodes) vals):(rowI d.nodes v vals:Int)=idxL (parC d.nodes x) (atL vals x.parents)/\rowI d.nodes v vals<rowsN d.nodes x:=by
 have hpl:PlacesOk x.parents d.nodes.length:=by
  have:=(hok.net.node _ (List.mem_of_getElem? (fillL_get (c:=fun _ _=>0) hx))).2
  rw[(fillN_card ..).2,fillL_len]at this
  exact this
 have hin:InRange x.parents d.nodes.length:=fun q hq=>by have:=hpl.2 q hq;omega
 have hr:=idxL_range (fits_par hin hf)
 unfold rowI rowsN
 rw[hx]
 simp only
 omega
theorem wgt_fill {d:InfP}(hok:InfOk d){c:Nat->Nat->Int}(hc:ChoiceOk d c){vals:List Int}(hf:FitsC (cardsL d.nodes) vals){v:Nat}(hv:v<d.nodes.length):
  wgtN (fillL d c) vals v=if d.decs.testBit v=true/\agN d c vals v=false then 0 else gainN d vals v:=by
 obtain⟨x,hx⟩:=get_of_lt hv
 unfold wgtN
 rw[fillL_get hx]
 simp only
 unfold rowV
 rw[parC_fill,(fillN_card ..).2]
 show ((fillN d c (decL d).length v x).rows.getD (idxL (parC d.nodes (fillN d c (decL d).length v x)) (atL vals x.parents)).toNat []).getD (vals.getD v 0).toNat 0=_
 have hpc:parC d.nodes (fillN d c (decL d).length v x)=parC d.nodes x:=by unfold parC;rw[(fillN_card ..).2]
 rw[hpc]
 obtain⟨r1,r2⟩:=fit_row hok hx hf
 have hri:rowI d.nodes v vals=(idxL (parC d.nodes x) (atL vals x.parents)).toNat:=by unfold rowI;rw[hx]
 rw[<- hri]
 obtain⟨a,ha⟩:=get_of_lt (l:=vals) (i:=v) (by rw[hf.1,cards_len];exact hv)
 have hab:=hf.2 v x.card a (cards_get hx) ha
 by_cases hb:d.decs.testBit v=true
 ·have hcc:=hc _ v (rowI d.nodes v vals) x (dec_place hx hb) hx r2
  have hrows:(fillN d c (decL d).length v x).rows=decRows d.grain d.nodes c (placeD d.decs v) x:=by
   rw[fillN_dec hx hb]
   show x.rows++_=_
   rw[(hok.n.dec v x hx hb).1,List.nil_append]
  have hrow:(decRows d.grain d.nodes c (placeD d.decs v) x).getD (rowI d.nodes v vals) []=unitRow d.grain x.card (c (placeD d.decs v) (rowI d.nodes v vals)):=by
   unfold decRows
   rw[List.getD_eq_getElem?_getD,List.getElem?_map,List.getElem?_range r2]
   rfl
  rw[hrows,hrow,getD_of_get ha,unitRow_at hcc hab]
  unfold agN gainN
  rw[getD_of_get ha,if_pos hb]
  by_cases he:c (placeD d.decs v) (rowI d.nodes v vals)=a
  ·rw[if_pos he,if_neg (by simp [he])]
  ·rw[if_neg he,if_pos ⟨hb,by simp [he]⟩]
 ·rw[fillN_no hb,if_neg fun h=>hb h.1]
  unfold gainN wgtN
  rw[if_neg hb,hx]
  simp only
  unfold rowV
  rw[<- hri]
theorem weight_fill {d:InfP}(hok:InfOk d){c:Nat->Nat->Int}(hc:ChoiceOk d c){vals:List Int}(hf:FitsC (cardsL d.nodes) vals):
  weight (fillL d c) vals=if agAll d c vals=true then gainP d vals else 0:=by
 unfold weight wgtL
 rw[fillL_len]
 by_cases h:agAll d c vals=true
 ·rw[if_pos h]
  unfold gainP
  congr 1
  refine List.map_congr_left fun v hv=>?_
  have hv':=List.mem_range.1 hv
  rw[wgt_fill hok hc hf hv',if_neg]
  rintro⟨hb,ha⟩
  unfold agAll at h
  have:=List.all_eq_true.1 h v (mem_decK.2 ⟨hv',hb⟩)
  rw[ha]at this
  cases this
 ·rw[if_neg h]
  refine prodL_zero ?_
  unfold agAll at h
  rw[List.all_eq_true]at h
  obtain⟨v,hv⟩:=Classical.not_forall.1 h
  obtain⟨hvm,hva⟩:=Classical.not_imp.1 hv
  obtain⟨v1,v2⟩:=mem_decK.1 hvm
  refine List.mem_map.2 ⟨v,List.mem_range.2 v1,?_⟩
  rw[wgt_fill hok hc hf v1,if_pos ⟨v2,by simpa using hva⟩]
def wv (d:InfP)(w:Nat):List Int:=valsL (cardsL d.nodes) w
theorem wv_fits {d:InfP}(hok:InfOk d)(w:Nat):FitsC (cardsL d.nodes) (wv d w):=fits_vals (fun c hc=>by
 obtain⟨x,hx,rfl⟩:=List.mem_map.1 hc
 exact(hok.n.card x hx).1) _
def sumG (d:InfP)(c:Nat->Nat->Int):Int:=SS (worlds d.nodes) fun w=>if agAll d c (wv d w)=true then gainU d (wv d w) else 0
theorem sumP_eq {d:InfP}(hok:InfOk d){p:List (List Int)}(hp:PolOk d p):sumP d p=sumG d (fixC p):=by
 unfold sumP sumG
 rw[sumW_SS]
 refine SS_congr fun w _=>?_
 rw[fillL_card,util_fill]
 show weight (fillL d (fixC p)) (wv d w)*utilV d.nodes d.utils (wv d w)=_
 rw[weight_fill hok (choiceOk_pol hp) (wv_fits hok w)]
 show (if agAll d (fixC p) (wv d w)=true then gainP d (wv d w) else 0)*utilV d.nodes d.utils (wv d w)=_
 by_cases h:agAll d (fixC p) (wv d w)=true
 ·rw[if_pos h,if_pos h];rfl
 ·rw[if_neg h,if_neg h,Int.zero_mul]
def expE (d:InfP)(c:Nat->Nat->Int)(v0 r:Nat)(x:Int):Int :=
 SS (worlds d.nodes) fun w=>if agEx d c v0 (wv d w)=true/\rowI d.nodes v0 (wv d w)=r/\(wv d w).getD v0 0=x then gainU d (wv d w) else 0
theorem agAll_iff {d:InfP}{c:Nat->Nat->Int}{v0:Nat}(hv:v0∈decL d)(vals:List Int):agAll d c vals=true↔agEx d c v0 vals=true/\c (placeD d.decs v0) (rowI d.nodes v0 vals)=vals.getD v0 0:=by
 unfold agAll agEx
 rw[List.all_eq_true,List.all_eq_true]
 constructor
 ·intro h
  exact⟨fun v hv=>by rw[h v hv];simp,of_decide_eq_true (h v0 hv)⟩
 ·rintro⟨h1,h2⟩ v hvm
  have:=h1 v hvm
  rw[Bool.or_eq_true,decide_eq_true_eq]at this
  rcases this with rfl|h
  ·exact decide_eq_true h2
  ·exact h
theorem sumG_exp {d:InfP}(hok:InfOk d){c:Nat->Nat->Int}{v0:Nat}{x0:NodeP}(hx:d.nodes[v0]?=some x0)(hb:d.decs.testBit v0=true):
  sumG d c=SS (rowsN d.nodes x0) fun r=>expE d c v0 r (c (placeD d.decs v0) r):=by
 unfold sumG expE
 rw[SS_comm]
 refine SS_congr fun w _=>?_
 obtain⟨_,r2⟩:=fit_row hok hx (wv_fits hok w)
 have hv:v0∈decL d:=mem_decK.2 ⟨get_lt hx,hb⟩
 have e:∀ r,r<rowsN d.nodes x0->(if agEx d c v0 (wv d w)=true/\rowI d.nodes v0 (wv d w)=r/\(wv d w).getD v0 0=c (placeD d.decs v0) r then gainU d (wv d w) else 0)=if r=rowI d.nodes v0 (wv d w) then (if agAll d c (wv d w)=true then gainU d (wv d w) else 0) else 0:=fun r _=>by
  by_cases h:r=rowI d.nodes v0 (wv d w)
  ·subst h
   rw[if_pos rfl]
   by_cases ha:agAll d c (wv d w)=true
   ·obtain⟨a1,a2⟩:=(agAll_iff hv _).1 ha
    rw[if_pos ha,if_pos ⟨a1,rfl,a2.symm⟩]
   ·rw[if_neg ha,if_neg fun h=>ha ((agAll_iff hv _).2 ⟨h.1,h.2.2.symm⟩)]
  ·rw[if_neg h,if_neg fun h'=>h h'.2.1.symm]
 rw[SS_congr e,SS_one r2]
theorem expE_own {d:InfP}{c c':Nat->Nat->Int}{v0:Nat}(h:∀ v∈decL d,v≠v0->∀ r,c (placeD d.decs v) r=c' (placeD d.decs v) r)(r:Nat)(x:Int):expE d c v0 r x=expE d c' v0 r x:=by
 have e:∀ vals,agEx d c v0 vals=agEx d c' v0 vals:=fun vals=>by
  unfold agEx
  rw[Bool.eq_iff_iff,List.all_eq_true,List.all_eq_true]
  have hk:∀ v∈decL d,(decide (v=v0) || agN d c vals v)=(decide (v=v0) || agN d c' vals v):=fun v hv=>by
   by_cases hvv:v=v0
   ·simp [hvv]
   ·unfold agN;rw[h v hv hvv]
  exact⟨fun h1 v hv=>by rw[<- hk v hv];exact h1 v hv,fun h1 v hv=>by rw[hk v hv];exact h1 v hv⟩
 unfold expE
 exact SS_congr fun w _=>by rw[e]
end Go.Proofs
/-
  Best lists of a decision; rounds of improving. Plain: no program stands in this text. No conditions.
-/
namespace Go.Proofs
open Go.Hx
def maxL:List Int->Int
 | []=>0
 | a :: l=>l.foldl max a
theorem foldl_max (l:List Int):∀ a,a<=l.foldl max a/\(∀ x∈l,x<=l.foldl max a)/\(l.foldl max a=a\/l.foldl max a∈l):=by
 induction l with
 | nil=>exact fun a=>⟨Int.le_refl _,fun x h=>(by cases h),.inl rfl⟩
 | cons b l ih =>
  intro a
  obtain⟨h1,h2,h3⟩:=ih (max a b)
  simp only[List.foldl_cons]
  refine⟨by omega,fun x hx=>?_,?_⟩
  ·rcases List.mem_cons.1 hx with rfl|hx
   ·omega
   ·exact h2 x hx
  ·rcases h3 with h3|h3
   ·rw[h3]
    rcases Int.le_total a b with h|h
    ·rw[Int.max_eq_right h];exact .inr (by simp)
    ·rw[Int.max_eq_left h];exact .inl rfl
   ·exact .inr (by simp [h3])
theorem maxL_ge {l:List Int}{x:Int}(h:x∈l):x<=maxL l:=by
 cases l with
 | nil=>cases h
 | cons a l =>
  obtain⟨h1,h2,_⟩:=foldl_max l a
  rcases List.mem_cons.1 h with rfl|h
  ·exact h1
  ·exact h2 x h
theorem maxL_mem {l:List Int}(h:l≠[]):maxL l∈l:=by
 cases l with
 | nil=>exact absurd rfl h
 | cons a l =>
  rcases(foldl_max l a).2.2 with h|h
  ·show l.foldl max a∈_
   rw[h];simp
  ·exact List.mem_cons_of_mem _ h
def expR (d:InfP)(c:Nat->Nat->Int)(v0 r:Nat)(n:Nat):List Int:=(List.range n).map fun (x:Nat)=>expE d c v0 r (x:Int)
theorem expR_get {d:InfP}{c:Nat->Nat->Int}{v0 r n x:Nat}(h:x<n):(expR d c v0 r n)[x]?=some (expE d c v0 r (x:Int)):=by unfold expR;rw[List.getElem?_map,List.getElem?_range h];rfl
theorem expR_len (d:InfP)(c:Nat->Nat->Int)(v0 r n:Nat):(expR d c v0 r n).length=n:=by simp [expR]
def nRows (d:InfP)(v:Nat):Nat:=(rcN d v).1.toNat
def nCard (d:InfP)(v:Nat):Nat:=(rcN d v).2.toNat
def caseM (d:InfP)(c:Nat->Nat->Int)(v r:Nat):Int:=maxL (expR d c v r (nCard d v))
def bestL (d:InfP)(c:Nat->Nat->Int)(v:Nat):List Int:=(List.range (nRows d v)).map fun r=>(((expR d c v r (nCard d v)).idxOf (caseM d c v r):Nat):Int)
def isBest (d:InfP)(p:List (List Int))(v:Nat):Prop:=∀ r,r<nRows d v->expE d (fixC p) v r (fixC p (placeD d.decs v) r)=caseM d (fixC p) v r
instance (d:InfP)(p:List (List Int))(v:Nat):Decidable (isBest d p v):=by unfold isBest;infer_instance
theorem nRC {d:InfP}{v:Nat}{x:NodeP}(hx:d.nodes[v]?=some x)(hc:0<=x.card):nRows d v=rowsN d.nodes x/\(nCard d v:Int)=x.card:=by
 unfold nRows nCard rcN
 rw[hx]
 simp only[Int.toNat_natCast]
 exact⟨trivial,by omega⟩
theorem best_at {d:InfP}(hok:InfOk d)(c:Nat->Nat->Int){v:Nat}(hv:v∈decL d){r:Nat}(hr:r<nRows d v):
  ∃ b:Nat,(bestL d c v)[r]?=some (b:Int)/\b<nCard d v/\expE d c v r (b:Int)=caseM d c v r:=by
 obtain⟨v1,v2⟩:=mem_decK.1 hv
 have hrc:=rcN_rng hok v1 v2
 have hn:1<=nCard d v:=by unfold nCard;omega
 have hne:expR d c v r (nCard d v)≠[]:=fun h=>by
  have:=expR_len d c v r (nCard d v)
  rw[h]at this;simp at this;omega
 have hm:=maxL_mem hne
 have hlt:=List.idxOf_lt_length_of_mem hm
 have hget:=List.getElem_idxOf hlt
 have hlt2:(expR d c v r (nCard d v)).idxOf (maxL (expR d c v r (nCard d v)))<nCard d v:=by have:=expR_len d c v r (nCard d v);omega
 refine⟨_,by unfold bestL;rw[List.getElem?_map,List.getElem?_range hr];rfl,hlt2,?_⟩
 have h2:=expR_get (d:=d) (c:=c) (v0:=v) (r:=r) hlt2
 rw[List.getElem?_eq_getElem hlt,hget]at h2
 exact(Option.some.inj h2).symm
theorem bestL_len (d:InfP)(c:Nat->Nat->Int)(v:Nat):(bestL d c v).length=nRows d v:=by simp [bestL]
theorem fixC_set {p:List (List Int)}{k:Nat}(hk:k<p.length)(l:List Int)(k' r:Nat):fixC (p.set k l) k' r=if k'=k then l.getD r 0 else fixC p k' r:=by
 unfold fixC
 rw[List.getD_eq_getElem?_getD (l:=p.set k l),List.getElem?_set]
 by_cases h:k=k'
 ·subst h
  rw[if_pos rfl,if_pos hk,if_pos rfl]
  rfl
 ·rw[if_neg h,if_neg fun e=>h e.symm,List.getD_eq_getElem?_getD (l:=p)]
theorem place_inj {d:InfP}{v w:Nat}(hv:v∈decL d)(hw:w∈decL d)(h:placeD d.decs v=placeD d.decs w):v=w:=by
 obtain⟨v1,v2⟩:=mem_decK.1 hv
 obtain⟨w1,w2⟩:=mem_decK.1 hw
 have a:=decK_get v1 v2
 have b:=decK_get w1 w2
 rw[h,b]at a
 exact(Option.some.inj a).symm
theorem place_lt {d:InfP}{p:List (List Int)}(hp:PolOk d p){v:Nat}(hv:v∈decL d):placeD d.decs v<p.length:=by
 obtain⟨v1,v2⟩:=mem_decK.1 hv
 rw[hp.len]
 exact get_lt (decK_get v1 v2)
theorem polOk_set {d:InfP}{p:List (List Int)}(hp:PolOk d p){v:Nat}{x:NodeP}(hx:d.nodes[v]?=some x)(hb:d.decs.testBit v=true){l:List Int}(hl:l.length=rowsN d.nodes x)(ha:∀ a∈l,0<=a/\a<x.card):PolOk d (p.set (placeD d.decs v) l):=by
 have hd:=dec_place hx hb
 refine⟨by rw[List.length_set];exact hp.len,fun k w y l' hw hy hl'=>?_⟩
 by_cases h:placeD d.decs v=k
 ·subst h
  rw[hd]at hw
  cases hw
  rw[hx]at hy
  cases hy
  rw[List.getElem?_set_self (by rw[hp.len];exact get_lt hd)]at hl'
  cases hl'
  exact⟨hl,ha⟩
 ·rw[List.getElem?_set_ne h]at hl'
  exact hp.row k w y l' hw hy hl'
theorem bestL_ok {d:InfP}(hok:InfOk d){p:List (List Int)}(hp:PolOk d p){v:Nat}(hv:v∈decL d):PolOk d (p.set (placeD d.decs v) (bestL d (fixC p) v)):=by
 obtain⟨v1,v2⟩:=mem_decK.1 hv
 obtain⟨x,hx⟩:=get_of_lt v1
 have hc:=hok.n.card x (List.mem_of_getElem? hx)
 obtain⟨n1,n2⟩:=nRC hx (by omega)
 refine polOk_set hp hx v2 (by rw[bestL_len,n1]) fun a ha=>?_
 obtain⟨r,hr⟩:=List.mem_iff_getElem?.1 ha
 obtain⟨b,h1,h2,_⟩:=best_at hok (fixC p) hv (r:=r) (by have:=get_lt hr;rwa [bestL_len]at this)
 rw[h1]at hr
 cases hr
 omega
theorem sumG_set {d:InfP}(hok:InfOk d){p:List (List Int)}(hp:PolOk d p){v:Nat}(hv:v∈decL d)(l:List Int):sumG d (fixC (p.set (placeD d.decs v) l))=SS (nRows d v) fun r=>expE d (fixC p) v r (l.getD r 0):=by
 obtain⟨v1,v2⟩:=mem_decK.1 hv
 obtain⟨x,hx⟩:=get_of_lt v1
 have hc:=hok.n.card x (List.mem_of_getElem? hx)
 obtain⟨n1,_⟩:=nRC hx (by omega)
 rw[sumG_exp hok hx v2,n1]
 refine SS_congr fun r _=>?_
 rw[fixC_set (place_lt hp hv),if_pos rfl]
 exact expE_own (fun w hw hne r=>by
  rw[fixC_set (place_lt hp hv),if_neg fun e=>hne (place_inj hw hv e)]) _ _
theorem sumG_own {d:InfP}(hok:InfOk d)(p:List (List Int)){v:Nat}(hv:v∈decL d):sumG d (fixC p)=SS (nRows d v) fun r=>expE d (fixC p) v r (fixC p (placeD d.decs v) r):=by
 obtain⟨v1,v2⟩:=mem_decK.1 hv
 obtain⟨x,hx⟩:=get_of_lt v1
 have hc:=hok.n.card x (List.mem_of_getElem? hx)
 obtain⟨n1,_⟩:=nRC hx (by omega)
 rw[sumG_exp hok hx v2,n1]
theorem exp_le {d:InfP}(c:Nat->Nat->Int)(v r:Nat){a:Int}(ha:0<=a/\a<nCard d v):expE d c v r a<=caseM d c v r:=by
 obtain⟨b,rfl⟩:=Int.eq_ofNat_of_zero_le ha.1
 exact maxL_ge (List.mem_of_getElem? (expR_get (d:=d) (c:=c) (v0:=v) (r:=r) (n:=nCard d v) (by omega)))
theorem pol_rng {d:InfP}(hok:InfOk d){p:List (List Int)}(hp:PolOk d p){v r:Nat}(hv:v∈decL d)(hr:r<nRows d v):0<=fixC p (placeD d.decs v) r/\fixC p (placeD d.decs v) r<nCard d v:=by
 obtain⟨v1,v2⟩:=mem_decK.1 hv
 obtain⟨x,hx⟩:=get_of_lt v1
 have hc:=hok.n.card x (List.mem_of_getElem? hx)
 obtain⟨n1,n2⟩:=nRC hx (by omega)
 rw[n2]
 exact choiceOk_pol hp _ v r x (dec_place hx v2) hx (by omega)
theorem best_gain {d:InfP}(hok:InfOk d){p:List (List Int)}(hp:PolOk d p){v:Nat}(hv:v∈decL d)(h:¬ isBest d p v):sumG d (fixC p)<sumG d (fixC (p.set (placeD d.decs v) (bestL d (fixC p) v))):=by
 rw[sumG_set hok hp hv,sumG_own hok p hv]
 have hle:∀ r,r<nRows d v->expE d (fixC p) v r (fixC p (placeD d.decs v) r)<=expE d (fixC p) v r ((bestL d (fixC p) v).getD r 0):=fun r hr=>by
  obtain⟨b,h1,_,h3⟩:=best_at hok (fixC p) hv hr
  rw[getD_of_get h1,h3]
  exact exp_le _ _ _ (pol_rng hok hp hv hr)
 obtain⟨r,hr⟩:=Classical.not_forall.1 h
 obtain⟨hr1,hr2⟩:=Classical.not_imp.1 hr
 refine SS_lt hle hr1 ?_
 obtain⟨b,h1,_,h3⟩:=best_at hok (fixC p) hv hr1
 have:=exp_le (d:=d) (fixC p) v r (pol_rng hok hp hv hr1)
 rw[getD_of_get h1,h3]
 omega
theorem best_most {d:InfP}(hok:InfOk d){p:List (List Int)}(hp:PolOk d p){v:Nat}(hv:v∈decL d)(h:isBest d p v){l:List Int}(hl:∀ r,r<nRows d v->0<=l.getD r 0/\l.getD r 0<nCard d v):sumG d (fixC (p.set (placeD d.decs v) l))<=sumG d (fixC p):=by
 rw[sumG_set hok hp hv,sumG_own hok p hv]
 refine SS_le fun r hr=>?_
 rw[h r hr]
 exact exp_le _ _ _ (hl r hr)
theorem one_gain {d:InfP}(hok:InfOk d){p:List (List Int)}(hp:PolOk d p){v:Nat}(hv:v∈decL d){l:List Int}(hl:p[placeD d.decs v]?=some l){j:Nat}(hj:j<nRows d v)(a:Int):
  sumG d (fixC (p.set (placeD d.decs v) (l.set j a))) - sumG d (fixC p)=expE d (fixC p) v j a - expE d (fixC p) v j (fixC p (placeD d.decs v) j):=by
 obtain⟨v1,v2⟩:=mem_decK.1 hv
 obtain⟨x,hx⟩:=get_of_lt v1
 have hc:=hok.n.card x (List.mem_of_getElem? hx)
 obtain⟨n1,_⟩:=nRC hx (by omega)
 have hll:l.length=nRows d v:=by rw[n1];exact(hp.row _ v x l (dec_place hx v2) hx hl).1
 rw[sumG_set hok hp hv,sumG_own hok p hv]
 have e:∀ r,r<nRows d v->expE d (fixC p) v r ((l.set j a).getD r 0)=expE d (fixC p) v r (fixC p (placeD d.decs v) r)+if r=j then expE d (fixC p) v j a - expE d (fixC p) v j (fixC p (placeD d.decs v) j) else 0:=fun r hr=>by
  have hfl:fixC p (placeD d.decs v) r=l.getD r 0:=by unfold fixC;rw[getD_of_get hl]
  by_cases h:r=j
  ·subst h
   rw[if_pos rfl,List.getD_eq_getElem?_getD,List.getElem?_set_self (by omega)]
   show expE d (fixC p) v r a=_
   omega
  ·rw[if_neg h,List.getD_eq_getElem?_getD,List.getElem?_set_ne (fun e=>h e.symm),<- List.getD_eq_getElem?_getD,hfl]
   omega
 rw[SS_congr e,SS_add,SS_one hj]
 omega
def isLocal (d:InfP)(p:List (List Int)):Prop:=∀ v∈decL d,isBest d p v
instance (d:InfP)(p:List (List Int)):Decidable (isLocal d p):=by unfold isLocal;infer_instance
end Go.Proofs
namespace Go.Hx
variable {P:Program}
structure Own2 (lo:Nat)(H:AHeap)(e:TypeId)(v:AVal)(l:List AVal)(u:AVal)(m:List AVal):Prop where
 a:OwnG lo H e v l
 b:OwnG lo H e u m
 ne:∀ i g n g' n',v=.own i g 0 n 1->u≠.own i g' 0 n' 1
theorem Own2.symm {lo:Nat}{H:AHeap}{e:TypeId}{v u:AVal}{l m:List AVal}(h:Own2 lo H e v l u m):Own2 lo H e u m v l:=⟨h.b,h.a,fun i g n g' n' h1 h2=>h.ne i g' n' g n h2 h1⟩
theorem Own2.nil {lo:Nat}{H:AHeap}{e:TypeId}:Own2 lo H e (.lit (.slice none 0 0)) [] (.lit (.slice none 0 0)) []:=⟨.nil,.nil,fun _ _ _ _ _ h=>(by cases h)⟩
theorem Own2.keep {lo:Nat}{H H':AHeap}{e:TypeId}{v u:AVal}{l m:List AVal}(h:Own2 lo H e v l u m)(hn:H.next<=H'.next)(hk:∀ id,lo<=id->id<H.next->H'.get id=H.get id):Own2 lo H' e v l u m :=
 ⟨h.a.keep (Nat.le_refl _) hn fun id _ h1 h2 _ _=>hk id h1 h2,h.b.keep (Nat.le_refl _) hn fun id _ h1 h2 _ _=>hk id h1 h2,h.ne⟩
theorem Own2.app {lo n:Nat}{H:AHeap}{e t:TypeId}{v u x:AVal}{l m z:List AVal}(ht:P.underlying t=some (.slice e))(hz:P.cellsOf e=1)(hzero:zeroA P e=some z)(hx:x.one=true)
  (hb:(l.length+1)*P.bytesOf e<=2 ^ 46/\l.length+1<=2 ^ 46) (h:Own2 lo H e v l u m) (hlo:lo<=H.next) (hn:n=H.next+1):
  ∃ v' H',appendA P (ext H [.arr 0 e [x]]) n t t v (.own H.next 0 0 1 1)=some (v',H')/\Own2 lo H' e v' (l++[x]) u m/\H.next<=H'.next/\(∀ k,k<lo->H'.get k=H.get k):=by
 have hsrc:sourceA (ext H [.arr 0 e [x]]) 1 (.own H.next 0 0 1 1)=some (1,[x]):=by
  unfold sourceA
  have:=get_live (H:=ext H [.arr 0 e [x]]) (g:=0) (ext1_get_new (b:=.arr 0 e [x]))
  simp [this]
 have hne:(ext H [Blk.arr 0 e [x]]).next=H.next+1:=rfl
 obtain⟨ha,hbb,hnn⟩:=h
 rcases ha with ⟨rfl,rfl⟩|⟨i,g,h1,h2,rfl,h4⟩
 ·have n2:(ext (ext H [.arr 0 e [x]]) [.arr 0 e [x]]).next=H.next+2:=rfl
  have old:∀ k,k<H.next->(ext (ext H [.arr 0 e [x]]) [.arr 0 e [x]]).get k=H.get k:=fun k hk=>by rw[ext1_get_old (by rw[hne];omega),ext1_get_old hk]
  refine⟨.own (H.next+1) 0 0 1 1,ext (ext H [.arr 0 e [x]]) [.arr 0 e [x]],?_,⟨.inr ⟨H.next+1,0,by omega,by rw[n2];omega,by simp,?_⟩,hbb.keep (Nat.le_refl _) (by rw[n2];omega) fun id _ _ hid _ _=>old id hid,fun i g n g' n' he hu=>?_⟩,by rw[n2];omega,fun k hk=>old k (by omega)⟩
  ·unfold appendA;rw[ht]
   simp only[hzero,hz,Option.bind_some,hsrc]
   rw[if_neg (by decide),if_pos (by simpa using hb),lay_at (by rw[hn,hne]),hn]
   rfl
  ·rw[<- hne];exact ext1_get_new
  ·have:=(AVal.own.inj he).1
   rcases hbb with ⟨rfl,_⟩|⟨j,g2,_,a2,rfl,_⟩
   ·cases hu
   ·have:=(AVal.own.inj hu).1
    omega
 ·have h4':(ext H [.arr 0 e [x]]).get i=some (.arr g e l):=by rw[ext1_get_old h2];exact h4
  refine⟨.own i (g+1) 0 (l.length+1) 1,(ext H [.arr 0 e [x]]).upd i (.arr (g+1) e (l++[x])),?_,⟨.inr ⟨i,g+1,h1,by rw[upd_next,hne];omega,by simp,by rw[upd_get,if_pos rfl]⟩,hbb.keep (Nat.le_refl _) (by rw[upd_next,hne];omega) fun id g3 _ hid _ hu=>?_,fun i' g' n' g'' n'' he hu=>hnn i g l.length g'' n'' rfl (by rw[hu,(AVal.own.inj he).1])⟩,by rw[upd_next,hne];omega,fun k hk=>?_⟩
  ·unfold appendA;rw[ht]
   have hl:=get_live h4'
   simp only[hzero,hz,Option.bind_some,hsrc,hl]
   rw[if_pos ⟨trivial,trivial,by omega,hb.1,hb.2,by simp [hx]⟩]
   simp
  ·rw[upd_get,if_neg,ext1_get_old hid]
   rintro rfl
   exact hnn id g l.length g3 _ rfl hu
  ·rw[upd_get,if_neg (by omega),ext1_get_old (by omega)]
end Go.Hx
namespace Go.Proofs
open Go.Hx
def gainL (d:InfP)(vals:List Int):List Int:=(List.range d.nodes.length).map (gainN d vals)
theorem gainL_len (d:InfP)(vals:List Int):(gainL d vals).length=d.nodes.length:=by simp [gainL]
theorem gainL_get {d:InfP}{vals:List Int}{v:Nat}(h:v<d.nodes.length):(gainL d vals)[v]?=some (gainN d vals v):=by
 unfold gainL;rw[List.getElem?_map,List.getElem?_range h];rfl
structure RowNo (d:InfP)(x:NodeP)(vals:List Int)(v i:Nat)(r:List Int)(a w:Int):Prop where
 idx:idxL (parC d.nodes x) (atL vals x.parents)=i
 row:x.rows[i]?=some r
 val:vals[v]?=some a
 a0:0<=a
 hw:r[a.toNat]?=some w
 wb:0<=w/\w<=60
 eq:gainN d vals v=w
 al:a<r.length
theorem row_no {d:InfP}(hok:InfOk d){v:Nat}{x:NodeP}(hx:d.nodes[v]?=some x)(hb:¬ d.decs.testBit v=true){vals:List Int}(hf:FitsC (cardsL d.nodes) vals):∃ i r a w,RowNo d x vals v i r a w:=by
 have hx2:=fillL_get (c:=fun _ _=>0) hx
 rw[fillN_no hb]at hx2
 obtain⟨i,r,a,w,hR⟩:=row_at hok.net hx2 (vals:=vals) (by rw[fillL_card];exact hf)
 have hi:=hR.idx
 rw[parC_fill]at hi
 have hg:=hok.net.g1
 have h60:=hR.wb
 refine⟨i,r,a,w,hi,hR.row,hR.val,hR.a0,hR.hw,by omega,?_,hR.al⟩
 unfold gainN
 rw[if_neg hb]
 unfold wgtN
 rw[hx]
 simp only
 unfold rowV
 rw[hi,Int.toNat_natCast,getD_of_get hR.row,getD_of_get hR.val,getD_of_get hR.hw]
theorem gain_rng {d:InfP}(hok:InfOk d){vals:List Int}(hf:FitsC (cardsL d.nodes) vals){v:Nat}(hv:v<d.nodes.length):0<=gainN d vals v/\gainN d vals v<=60:=by
 obtain⟨x,hx⟩:=get_of_lt hv
 by_cases hb:d.decs.testBit v=true
 ·unfold gainN
  rw[if_pos hb]
  have:=hok.net.g1
  omega
 ·obtain⟨i,r,a,w,hR⟩:=row_no hok hx hb hf
  rw[hR.eq];exact hR.wb
theorem gain_take {d:InfP}(hok:InfOk d){vals:List Int}(hf:FitsC (cardsL d.nodes) vals)(k:Nat):0<=prodL ((gainL d vals).take k)/\prodL ((gainL d vals).take k)<=167961600000000:=by
 have hb:∀ w∈gainL d vals,0<=w/\w<=60:=fun w hw=>by
  obtain⟨v,hv,rfl⟩:=List.mem_map.1 hw
  exact gain_rng hok hf (List.mem_range.1 hv)
 have h1:=prodL_le_pow (b:=60) (by omega) (l:=(gainL d vals).take k) fun x hx=>hb x (List.mem_of_mem_take hx)
 have h2:=pow_le_pow60 ((gainL d vals).take k).length (by have:=hok.n.n1;rw[List.length_take,gainL_len];omega)
 omega
def gWts (d:InfP):List Int:=(List.range (worlds d.nodes)).map fun (i:Nat)=>gainP d (wv d i)
def gGns (d:InfP):List Int:=(List.range (worlds d.nodes)).map fun (i:Nat)=>gainU d (wv d i)
theorem gWts_get {d:InfP}{k:Nat}(h:k<worlds d.nodes):(gWts d)[k]?=some (gainP d (wv d k)):=by unfold gWts;rw[List.getElem?_map,List.getElem?_range h];rfl
theorem gGns_get {d:InfP}{k:Nat}(h:k<worlds d.nodes):(gGns d)[k]?=some (gainU d (wv d k)):=by unfold gGns;rw[List.getElem?_map,List.getElem?_range h];rfl
theorem gWts_len (d:InfP):(gWts d).length=worlds d.nodes:=by simp [gWts]
theorem gGns_len (d:InfP):(gGns d).length=worlds d.nodes:=by simp [gGns]
theorem utilU_bound {ns:List NodeP}{us:List UtilP}(hu:∀ u∈us,UtilOk ns u)(h4:us.length<=4)(vals:List Int):-400<=utilV ns us vals/\utilV ns us vals<=400:=by
 have b:=utils_bound hu h4 vals us.length
 rw[List.take_of_length_le (Nat.le_refl _)]at b
 exact b
set_option maxHeartbeats 4000000 in
theorem gains_spec (d:InfP)(hok:InfOk d)(hD:d.decs<2 ^ 64)(H:AHeap)(K:ARes->AHeap->Prop)(hK:K (.ret (.tup [vecI (gWts d),vecI (gGns d)])) H):ACall Try.prog G0 66 [infV d] H K:=by
 refine ACall.clo ⟨_,Try.func66,rfl,rfl⟩ fun hcl=>?_
 obtain⟨ns,hns⟩:∃ ns,ns=d.nodes:=⟨_,rfl⟩
 have n8:=hok.n.n1
 have hcd:=hok.n.card
 have hcards:∀ c∈cardsL d.nodes,1<=c/\c<=4:=fun c hc=>by
  obtain⟨x,hx,rfl⟩:=List.mem_map.1 hc
  exact hcd x hx
 have sm:SmallC (cardsL d.nodes):=smallC_of (by rw[cards_len];omega) hcards
 have hp:=prodL_pos fun c hc=>(hcards c hc).1
 have hsz:=sm.prod
 have hw:((worlds d.nodes:Nat):Int)=prodL (cardsL d.nodes):=by unfold worlds;omega
 have hu4:=hok.utils.1
 have hus:=hok.utils.2
 refine ACall.of_body (n:=105) (rs:=[.cell 2 52,.cell 3 52]) Try.func66 rfl rfl rfl (by decide) (by kernel_rfl) (by simp) ?_
 simp only[go_sem,infV_eq,infC]
 refine AApply.clo (cardsW_spec d.nodes (by omega) _ _ ⟨trivial,?_⟩)
 simp only[go_sem]
 refine AApply.clo (comb_clo (cardsL d.nodes) _ _ ⟨trivial,?_⟩)
 simp only[go_sem]
 obtain⟨H2,hH2⟩:∃ H2,H2=ext (ext H [.arr 0 34 (infC d),.arr 0 52 [.lit (.slice none 0 0)],.arr 0 52 [.lit (.slice none 0 0)],.arr 0 52 [vecI (cardsL d.nodes)]]) [.arr 0 52 [vecI (cardsL d.nodes)]]:=⟨_,rfl⟩
 have n2:H2.next=H.next+5:=by rw[hH2];rfl
 have o2:Over H H2:=by rw[hH2];exact(Over.ext _ _).trans (.ext _ _)
 have g0:H2.get H.next=some (.arr 0 34 (infC d)):=by rw[hH2,ext_ext];exact get_ext H _ 0 (by simp)
 have g1:H2.get (H.next+1)=some (.arr 0 52 [.lit (.slice none 0 0)]):=by rw[hH2,ext_ext];exact get_ext H _ 1 (by simp)
 have g2:H2.get (H.next+2)=some (.arr 0 52 [.lit (.slice none 0 0)]):=by rw[hH2,ext_ext];exact get_ext H _ 2 (by simp)
 have g3:H2.get (H.next+3)=some (.arr 0 52 [vecI (cardsL d.nodes)]):=by rw[hH2,ext_ext];exact get_ext H _ 3 (by simp)
 have g4:H2.get (H.next+4)=some (.arr 0 52 [vecI (cardsL d.nodes)]):=by rw[hH2,ext_ext];exact get_ext H _ 4 (by simp)
 refine W.env fun E hE=>?_
 have e1:E 1=.ptr H.next 0 0:=by rw[hE];simp only[go_sem]
 have e2:E 2=.ptr (H.next+1) 0 0:=by rw[hE];simp only[go_sem]
 have e3:E 3=.ptr (H.next+2) 0 0:=by rw[hE];simp only[go_sem]
 have e4:E 4=.ptr (H.next+3) 0 0:=by rw[hE];simp only[go_sem]
 have e20:E 20=.clo 82 [] [.ptr (H.next+4) 0 0]:=by rw[hE];rfl
 clear hE
 unfold infC at hH2
 show W _ _ _ _ _ _ ⟨E,ext (ext H [.arr 0 34 [.lit (.int .i64 d.grain),.vec d.nodes.length (nodesC d.nodes),.lit (.int .u64 (d.decs:Int)),.vec d.utils.length (utilsC d.utils)],.arr 0 52 [.lit (.slice none 0 0)],.arr 0 52 [.lit (.slice none 0 0)],.arr 0 52 [vecI (cardsL d.nodes)]]) [.arr 0 52 [vecI (cardsL d.nodes)]]⟩
 rw[<- hH2]
 have hit:=comb_it (cardsL d.nodes) (fun c hc=>(hcards c hc).1) sm (H.next+4) (H2.next+1) (by omega)
 refine W.rangeItG (f:=82) (first:=[]) (cap:=[.ptr (H.next+4) 0 0]) (by show E 20=_;exact e20) hit
  (fun k Hx=>H2.next<Hx.next/\(∀ id,id<H2.next->id≠H.next+1->id≠H.next+2->Hx.get id=H2.get id)/\∃ v u,Hx.get (H.next+1)=some (.arr 0 52 [v])/\Hx.get (H.next+2)=some (.arr 0 52 [u])/\Own2 (H2.next+2) Hx 3 v (ints ((gWts d).take k)) u (ints ((gGns d).take k)))
  (fun _ _=>False)
  (fun k Hx h=>(h.2.1 _ (by omega) (by omega) (by omega)).trans g4)
  (fun k H1 H3 h hw=>⟨by have:=hw.1;omega,fun id h1 h2 h3=>(hw.2 _ (by omega) (by have:=h.1;omega)).trans (h.2.1 id h1 h2 h3),by
   obtain⟨v,u,a1,a2,a3⟩:=h.2.2
   exact⟨v,u,(hw.2 _ (by omega) (by have:=h.1;omega)).trans a1,(hw.2 _ (by omega) (by have:=h.1;omega)).trans a2,a3.keep hw.1 fun id h1 h2=>hw.2 id (by omega) h2⟩⟩)
  (fun k Hx h=>h.1)
  (fun k H1 b h=>⟨h.1,fun id h1 h2 h3=>by rw[upd_get,if_neg (by omega)];exact h.2.1 id h1 h2 h3,by
   obtain⟨v,u,a1,a2,a3⟩:=h.2.2
   exact⟨v,u,by rw[upd_get,if_neg (by omega)];exact a1,by rw[upd_get,if_neg (by omega)];exact a2,a3.keep (Nat.le_refl _) fun id h1 h2=>by rw[upd_get,if_neg (by omega)]⟩⟩)
  (fun _ _ _ h=>h) (fun k H1 b h=>by unfold CombS at h ⊢;rw[upd_get,if_neg (by omega)];exact h)
  (fun b=>⟨by rw[ext_next];simp,fun id h1 h2 h3=>ext1_get_old h1,_,_,by rw[ext1_get_old (by omega)];exact g1,by rw[ext1_get_old (by omega)];exact g2,.nil⟩) (by decide)
  (fun x hx=>by
   obtain⟨k,hk⟩:=List.mem_iff_getElem?.1 hx
   obtain⟨_,rfl⟩:=combX_get hk
   rfl) (fun _ _ _=>trivial) (fun _ _ _=>trivial) (fun k y Hx B Bb hy hj hcs hn hB hBb=>?_) (fun Hx hj hn=>?_) (fun _ hs _=>hs.elim) (fun _ _ hs _=>hs.elim)
 ·obtain⟨hk,rfl⟩:=combX_get hy
  refine vc_sound _ _ _ (by rfl) ?_
  simp only[go_sem,setPs,envN,asgIt,List.foldl_cons,List.foldl_nil,List.zip_cons_cons,List.zip_nil_right,hB]
  obtain⟨H3,hH3⟩:∃ H3,H3=Hx.upd H2.next Bb:=⟨_,rfl⟩
  rw[<- hH3]
  obtain⟨st,pd,n',en,ps',as',bo,hBe⟩:=hBb
  have n3:H3.next=Hx.next:=by rw[hH3];rfl
  have o3:∀ id,id≠H2.next->H3.get id=Hx.get id:=fun id h=>by rw[hH3,upd_get,if_neg h]
  have jB:H3.get H2.next=some Bb:=by rw[hH3,upd_get,if_pos rfl]
  obtain⟨pv,pu,a1,a2,a3⟩:=hj.2.2
  have k0:=(o3 _ (by omega)).trans ((hj.2.1 H.next (by omega) (by omega) (by omega)).trans g0)
  have k3:=(o3 _ (by omega)).trans ((hj.2.1 (H.next+3) (by omega) (by omega) (by omega)).trans g3)
  have k1:=(o3 _ (by omega)).trans a1
  have k2:=(o3 _ (by omega)).trans a2
  have a4:Own2 (H2.next+2) H3 3 pv (ints ((gWts d).take k)) pu (ints ((gGns d).take k)):=a3.keep (by omega) fun id h1 h2=>o3 id (by omega)
  have kN:H3.get (H2.next+1)=some (.arr 0 3 (ints (valsL (cardsL d.nodes) k))):=(o3 _ (by omega)).trans hcs
  obtain⟨vals,hvals⟩:∃ vals,vals=wv d k:=⟨_,rfl⟩
  have hfit:FitsC (cardsL d.nodes) vals:=by rw[hvals];exact fits_vals (fun c hc=>(hcards c hc).1) _
  have kN2:H3.get (H2.next+1)=some (.arr 0 3 (ints vals)):=by rw[hvals];exact kN
  have hvl:vals.length=d.nodes.length:=by rw[hfit.1,cards_len]
  unfold infC at k0
  refine W.env fun E1 hE1=>?_
  have m1:E1 1=.ptr H.next 0 0:=by rw[hE1];simp only[go_sem,envN,e1]
  have m2:E1 2=.ptr (H.next+1) 0 0:=by rw[hE1];simp only[go_sem,envN,e2]
  have m3:E1 3=.ptr (H.next+2) 0 0:=by rw[hE1];simp only[go_sem,envN,e3]
  have m4:E1 4=.ptr (H.next+3) 0 0:=by rw[hE1];simp only[go_sem,envN,e4]
  have m6:E1 6=.own (H2.next+1) 0 0 d.nodes.length 1:=by rw[hE1];simp only[go_sem,envN,cards_len]
  clear hE1
  have l0:=get_live k0
  refine vc_sound _ _ _ (by rfl) ?_
  simp only[go_sem,m1,l0]
  refine W.loop0 576460752236315520 (by rfl) (fun ρ2 H4=>∃ v:Nat,ρ2 26=lin v/\v<=d.nodes.length/\Over H3 H4/\ρ2 7=lin (prodL ((gainL d vals).take v))) (fun ρ2 H=>d.nodes.length - (iv (ρ2 26)).toNat) ?_ ?_
  ·simp only[go_sem]
   exact⟨0,rfl,by omega,.refl _,by simp [prodL_nil]⟩
  rintro ρ2 H4 ⟨v,h26,hv,o4,h7⟩
  refine W.env fun E2 hE2=>?_
  have p1:E2 1=.ptr H.next 0 0:=by rw[hE2];simp only[go_sem,m1]
  have p2:E2 2=.ptr (H.next+1) 0 0:=by rw[hE2];simp only[go_sem,m2]
  have p3:E2 3=.ptr (H.next+2) 0 0:=by rw[hE2];simp only[go_sem,m3]
  have p4:E2 4=.ptr (H.next+3) 0 0:=by rw[hE2];simp only[go_sem,m4]
  have p6:E2 6=.own (H2.next+1) 0 0 d.nodes.length 1:=by rw[hE2];simp only[go_sem,m6]
  have p7:E2 7=lin (prodL ((gainL d vals).take v)):=by rw[hE2];simp only[go_sem,h7]
  have p24:E2 24=.vec d.nodes.length (nodesC d.nodes):=by rw[hE2];simp only[go_sem]
  have p25:E2 25=lin d.nodes.length:=by rw[hE2];simp only[go_sem]
  have p26:E2 26=lin v:=by rw[hE2];simp only[go_sem,h26]
  clear hE2
  have o4n:=o4.next
  have q0:=get_live ((o4.old _ (by omega)).trans k0)
  have gN4:=(o4.old _ (by omega)).trans kN2
  refine vc_sound _ _ _ (by rfl) ?_
  by_cases hb:(v:Int)<d.nodes.length
  ·obtain⟨x,hx⟩:=get_of_lt (l:=d.nodes) (i:=v) (by omega)
   have hne:=nodesC_ne hx
   have c0:=nodesC_part hx
   have c1:v*3+3<=(nodesC d.nodes).length:=by rw[nodesC_len];omega
   have wt:=gain_take hok hfit (v+1)
   rw[take_succ_get (gainL_get (d:=d) (vals:=vals) (v:=v) (by omega)),prodL_snoc]at wt
   have w1:=IntWalk.i64_in ((v:Int)+1) (by omega)
   obtain⟨H5,hH5⟩:∃ H5,H5=ext H4 [.arr 0 56 [.lit (.int .i64 x.card),.vec x.parents.length (ints x.parents),vecV x.rows]]:=⟨_,rfl⟩
   have n5:H5.next=H4.next+1:=by rw[hH5];rfl
   have f0:=get_live (show H5.get H.next=some (.arr 0 34 [.lit (.int .i64 d.grain),.vec d.nodes.length (nodesC d.nodes),.lit (.int .u64 (d.decs:Int)),.vec d.utils.length (utilsC d.utils)]) by rw[hH5,get_ext_old _ _ _ (by omega)];exact(o4.old _ (by omega)).trans k0)
   have f4:=get_live (show H5.get H4.next=some (.arr 0 56 [.lit (.int .i64 x.card),.vec x.parents.length (ints x.parents),vecV x.rows]) by rw[hH5];exact ext1_get_new)
   have gN5:H5.get (H2.next+1)=some (.arr 0 3 (ints vals)):=by rw[hH5,get_ext_old _ _ _ (by omega)];exact gN4
   have fN:=get_live gN5
   have s1:=fun t x y=>shrB (P:=Try.prog) (t:=t) (x:=x) (y:=y) (k':=.i64) (s:=v) hD
   have s2:=fun t x y=>bit1 (P:=Try.prog) (t:=t) (x:=x) (y:=y) (s:=v) hD
   cases hbit:d.decs.testBit v
   ·obtain⟨i,r,a,w,hR⟩:=row_no hok hx (by rw[hbit];simp) hfit
    obtain⟨a',rfl⟩:=Int.eq_ofNat_of_zero_le hR.a0
    rw[hR.eq]at wt
    have hxp:PlacesOk x.parents d.nodes.length:=by
     have:=(hok.net.node _ (List.mem_of_getElem? (fillL_get (c:=fun _ _=>0) hx))).2
     rw[(fillN_card ..).2,fillL_len]at this
     exact this
    have hin:InRange x.parents d.nodes.length:=fun q hq=>by have:=hxp.2 q hq;omega
    have hpc:PCall Try.prog G0 (.clo 68 [] []) [.vec d.nodes.length (nodesC d.nodes),.lit (.int .i64 v),.own (H2.next+1) 0 0 d.nodes.length 1] H5 (.lit (.int .i64 i)) [H2.next+1]:=by
     have:=rowW_pcall d.nodes v x vals hx hin (parC_small n8.2 hxp hcd) hfit H5 (H2.next+1) d.nodes.length (by omega) gN5 hvl.symm
     rw[hR.idx]at this
     exact this
    have hri:=hR.row
    have hrne:=ne_of_get hri
    have hrl:(i:Int)<x.rows.length:=by have:=get_lt hri;omega
    have hva:=hR.val
    have hra:r[a']?=some w:=by have:=hR.hw;rw[Int.toNat_natCast]at this;exact this
    have hrane:=ne_of_get hra
    have hal:=hR.al
    have w2:=IntWalk.i64_in (prodL ((gainL d vals).take v)*w) (by omega)
    simp only[go_sem,p1,p24,p25,p26,hb,hne,c0,c1]
    rw[<- hH5]
    simp only[go_sem,f0,s1,s2,hbit]
    refine W.draw 16 [0,0,2,0,8,0,0,120,254,510,0,0,3072,7168,16382,32766] Try.mixed (by kernel_rfl) (by kernel_rfl) ?_
    simp only[go_sem,p1,p6,p7,f0,f4,vecV]
    refine⟨.lit (.int .i64 i),[H2.next+1],hpc,?_⟩
    have hvn:(v:Int)<d.nodes.length:=hb
    simp only[go_sem,p1,p6,p7,p26,fN,hri,hrne,hrl,hra,hrane,hva,hal,hvn,w1,w2]
    exact⟨by omega,⟨_,_,_,_,_,_,_,by rw[hH5,get_ext_old _ _ _ (by omega),o4.old _ (by omega),jB,hBe]⟩,⟨v+1,by simp,by omega,by rw[hH5];exact o4.trans (.ext _ _),by rw[take_succ_get (gainL_get (d:=d) (vals:=vals) (v:=v) (by omega)),prodL_snoc,hR.eq]⟩,by rw[h26];simp only[lin,iv_int];omega⟩
   ·have hg:gainN d vals v=d.grain:=if_pos hbit
    rw[hg]at wt
    have w2:=IntWalk.i64_in (prodL ((gainL d vals).take v)*d.grain) (by omega)
    simp only[go_sem,p1,p24,p25,p26,hb,hne,c0,c1]
    rw[<- hH5]
    simp only[go_sem,p1,p7,p26,f0,s1,s2,hbit,w1,w2]
    exact⟨by omega,⟨_,_,_,_,_,_,_,by rw[hH5,get_ext_old _ _ _ (by omega),o4.old _ (by omega),jB,hBe]⟩,⟨v+1,by simp,by omega,by rw[hH5];exact o4.trans (.ext _ _),by rw[take_succ_get (gainL_get (d:=d) (vals:=vals) (v:=v) (by omega)),prodL_snoc,hg]⟩,by rw[h26];simp only[lin,iv_int];omega⟩
  ·rw[List.take_of_length_le (by rw[gainL_len];omega)]at p7
   have hgp:prodL (gainL d vals)=gainP d vals:=rfl
   rw[hgp]at p7
   simp only[go_sem,p25,p26,hb,p1,q0]
   refine W.loop0 9903520309671356180765651968 (by rfl) (fun ρ3 H6=>∃ j:Nat,ρ3 62=lin j/\j<=d.utils.length/\Over H4 H6/\ρ3 10=lin (utilV d.nodes (d.utils.take j) vals)) (fun ρ3 H=>d.utils.length - (iv (ρ3 62)).toNat) ?_ ?_
   ·simp only[go_sem]
    exact⟨0,rfl,by omega,.refl _,by simp [utilV]⟩
   rintro ρ3 H6 ⟨j,h62,hjl,o6,h10⟩
   refine W.env fun E3 hE3=>?_
   have r2:E3 2=.ptr (H.next+1) 0 0:=by rw[hE3];simp only[go_sem,p2]
   have r3:E3 3=.ptr (H.next+2) 0 0:=by rw[hE3];simp only[go_sem,p3]
   have r4:E3 4=.ptr (H.next+3) 0 0:=by rw[hE3];simp only[go_sem,p4]
   have r6:E3 6=.own (H2.next+1) 0 0 d.nodes.length 1:=by rw[hE3];simp only[go_sem,p6]
   have r7:E3 7=lin (gainP d vals):=by rw[hE3];simp only[go_sem,p7]
   have r10:E3 10=lin (utilV d.nodes (d.utils.take j) vals):=by rw[hE3];simp only[go_sem,h10]
   have r60:E3 60=.vec d.utils.length (utilsC d.utils):=by rw[hE3];simp only[go_sem]
   have r61:E3 61=lin d.utils.length:=by rw[hE3];simp only[go_sem]
   have r62:E3 62=lin j:=by rw[hE3];simp only[go_sem,h62]
   clear hE3
   have o36:=o4.trans o6
   have o6n:=o6.next
   have gN6:=(o36.old _ (by omega)).trans kN2
   have q3:=(o36.old _ (by omega)).trans k3
   refine vc_sound _ _ _ (by rfl) ?_
   by_cases hb2:(j:Int)<d.utils.length
   ·obtain⟨u,hku⟩:=get_of_lt (l:=d.utils) (i:=j) (by omega)
    have huo:=hus u (List.mem_of_getElem? hku)
    have hne:=utilsC_ne hku
    have c0:=utilsC_part hku
    have c1:j*2+2<=(utilsC d.utils).length:=by rw[utilsC_len];omega
    have v8:=huo.vars.len
    obtain⟨H7,hH7⟩:∃ H7,H7=ext H6 [.arr 0 60 [.vec u.vars.length (ints u.vars),.vec u.w.length (ints u.w)]]:=⟨_,rfl⟩
    have n7:H7.next=H6.next+1:=by rw[hH7];rfl
    have l7:=get_live (show H7.get H6.next=some (.arr 0 60 [.vec u.vars.length (ints u.vars),.vec u.w.length (ints u.w)]) by rw[hH7];exact ext1_get_new)
    have l7N:=get_live (show H7.get (H2.next+1)=some (.arr 0 3 (ints vals)) by rw[hH7,ext1_get_old (by omega)];exact gN6)
    have l73:=get_live (show H7.get (H.next+3)=some (.arr 0 52 [vecI (cardsL d.nodes)]) by rw[hH7,ext1_get_old (by omega)];exact q3)
    have smu:=vars_small n8.2 huo.vars hcd
    have hin:InRange u.vars d.nodes.length:=fun q hq=>by have:=huo.vars.2 q hq;omega
    have fp:FitsC (atL (cardsL d.nodes) u.vars) (atL vals u.vars):=fits_par (x:=⟨0,u.vars,[]⟩) hin hfit
    have pl:(atL (cardsL d.nodes) u.vars).length=u.vars.length:=atL_len _ _
    have vl:(atL vals u.vars).length=u.vars.length:=atL_len _ _
    have ft:∀ j,FitsC ((atL (cardsL d.nodes) u.vars).take j) ((atL vals u.vars).take j):=fun j=>⟨by simp [pl,vl],fun i c b h1 h2=>by
     rw[List.getElem?_take]at h1 h2
     split at h1
     ·rename_i hik
      rw[if_pos hik]at h2
      exact fp.2 i c b h1 h2
     ·cases h1⟩
    have hr:∀ j,0<=hornL ((atL (cardsL d.nodes) u.vars).take j) ((atL vals u.vars).take j)/\hornL ((atL (cardsL d.nodes) u.vars).take j) ((atL vals u.vars).take j)<68719476737:=fun j=>by
     rw[hornL_eq (ft j).1]
     have a:=idxL_range (ft j)
     have b:=(smu.take j).prod
     omega
    simp only[go_sem,r60,r61,r62,hb2,hne,c0,c1]
    rw[<- hH7]
    refine W.loop0 38685035931857774884986880 (by rfl) (fun ρ4 H8=>H8=H7/\∃ i:Nat,ρ4 69=lin i/\i<=u.vars.length/\ρ4 13=lin (hornL ((atL (cardsL d.nodes) u.vars).take i) ((atL vals u.vars).take i))) (fun ρ4 H=>u.vars.length - (iv (ρ4 69)).toNat) ?_ ?_
    ·simp only[go_sem]
     exact⟨0,rfl,by omega,rfl⟩
    rintro ρ4 H8 ⟨rfl,i,h69,hi,h13⟩
    refine vc_sound _ _ _ (by rfl) ?_
    by_cases hb3:(i:Int)<u.vars.length
    ·obtain⟨q,hq⟩:=get_of_lt (l:=u.vars) (i:=i) (by omega)
     obtain⟨t,rfl,y,hy⟩:=get_of_int (l:=d.nodes) (hin q (List.mem_of_getElem? hq)).1 (hin q (List.mem_of_getElem? hq)).2
     obtain⟨b,hbv⟩:=get_of_lt (l:=vals) (i:=t) (by rw[hvl];exact get_lt hy)
     have hyb:=hfit.2 t y.card b (cards_get hy) hbv
     have a1:(atL (cardsL d.nodes) u.vars)[i]?=some y.card:=by rw[atL_get hq,Int.toNat_natCast,getD_of_get (cards_get hy)]
     have a2:(atL vals u.vars)[i]?=some b:=by rw[atL_get hq,Int.toNat_natCast,getD_of_get hbv]
     have hne2:=ne_of_get hq
     have hne3:=ne_of_get hbv
     have hyc:=cards_get hy
     have hne4:=ne_of_get hyc
     have ht:(t:Int)<d.nodes.length:=by have:=get_lt hy;omega
     have htc:(t:Int)<(cardsL d.nodes).length:=by rw[cards_len];omega
     have ht2:(t:Int)<vals.length:=by omega
     have w1:=IntWalk.i64_in ((i:Int)+1) (by omega)
     have r1:=hr (i+1)
     rw[hornL_snoc a1 a2]at r1
     have r0:=hr i
     have m0:0<=hornL ((atL (cardsL d.nodes) u.vars).take i) ((atL vals u.vars).take i)*y.card:=Int.mul_nonneg r0.1 (by have:=hcd y (List.mem_of_getElem? hy);omega)
     have w2:=IntWalk.i64_in (hornL ((atL (cardsL d.nodes) u.vars).take i) ((atL vals u.vars).take i)*y.card) (by omega)
     have w3:=IntWalk.i64_in (hornL ((atL (cardsL d.nodes) u.vars).take i) ((atL vals u.vars).take i)*y.card+b) (by omega)
     simp only[go_sem,h69,hb3,hq,hne2]
     refine W.draw 10 [0,0,0,6,14,31,0,0,192,448] Try.mixed (by kernel_rfl) (by kernel_rfl) ?_
     simp only[go_sem,h69,h13,r4,r6,l73,l7N,hne4,ht,htc,hbv,hyc,w1,w2,w3]
     exact⟨⟨_,_,_,_,_,_,_,by rw[hH7,ext1_get_old (by omega),o36.old _ (by omega),jB,hBe]⟩,⟨i+1,by simp,by omega,by rw[hornL_snoc a1 a2]⟩,by omega⟩
    ·rw[List.take_of_length_le (by omega),List.take_of_length_le (by omega),hornL_eq (by rw[pl,vl])]at h13
     have hx:=idxL_range fp
     obtain⟨ix,hix⟩:=Int.eq_ofNat_of_zero_le hx.1
     have hsz2:=huo.size
     obtain⟨w,hw'⟩:=get_of_lt (l:=u.w) (i:=ix) (by omega)
     have hwne:=ne_of_get hw'
     have hwl:(ix:Int)<u.w.length:=by have:=get_lt hw';omega
     have eu:utilU d.nodes vals u=w:=by unfold utilU;rw[hix,Int.toNat_natCast,getD_of_get hw']
     have us1:utilV d.nodes (d.utils.take (j+1)) vals=utilV d.nodes (d.utils.take j) vals+w:=by rw[take_succ_get hku];unfold utilV;simp [eu]
     have b1:=utils_bound hus hu4 vals j
     have b2:=utils_bound hus hu4 vals (j+1)
     rw[us1]at b2
     have w1:=IntWalk.i64_in ((j:Int)+1) (by omega)
     have w2:=IntWalk.i64_in (utilV d.nodes (d.utils.take j) vals+w) (by omega)
     rw[hix]at h13
     simp only[go_sem,h69,h13,r10,r62,l7,hb3,hw',hwne,hwl,w1,w2]
     exact⟨by omega,⟨_,_,_,_,_,_,_,by rw[hH7,ext1_get_old (by omega),o36.old _ (by omega),jB,hBe]⟩,⟨j+1,by simp,by omega,by rw[hH7];exact o6.trans (.ext _ _),by rw[us1]⟩,by rw[h62];simp only[lin,iv_int];omega⟩
   ·rw[List.take_of_length_le (by omega)]at r10
    have hkw:k<worlds d.nodes:=hk
    have bu:=utilU_bound hus hu4 vals
    have bg:=gain_take hok hfit d.nodes.length
    rw[List.take_of_length_le (by rw[gainL_len];omega),hgp]at bg
    have m1:-67184640000000000<=gainP d vals*utilV d.nodes d.utils vals/\gainP d vals*utilV d.nodes d.utils vals<=67184640000000000:=by
     constructor
     ·have h1:gainP d vals*(-400)<=gainP d vals*utilV d.nodes d.utils vals:=Int.mul_le_mul_of_nonneg_left bu.1 bg.1
      omega
     ·have h1:gainP d vals*utilV d.nodes d.utils vals<=gainP d vals*400:=Int.mul_le_mul_of_nonneg_left bu.2 bg.1
      omega
    have w2:=IntWalk.i64_in (gainP d vals*utilV d.nodes d.utils vals) (by omega)
    have hl1:((gWts d).take k).length=k:=by rw[List.length_take,gWts_len];omega
    have hl2:((gGns d).take k).length=k:=by rw[List.length_take,gGns_len];omega
    have hw40:worlds d.nodes<=2 ^ 40:=by omega
    have a6:Own2 (H2.next+2) H6 3 pv (ints ((gWts d).take k)) pu (ints ((gGns d).take k)):=a4.keep o36.next fun id h1 h2=>o36.old id h2
    obtain⟨pv',H7,hA1,hO1,hn7,hp7⟩:=a6.app (P:=Try.prog) (t:=52) (x:=lin (gainP d vals)) (n:=H6.next+1) Try.underlying52 Try.cells3 Try.zero3 rfl (by rw[Try.bytes3,ints_length,hl1];omega) (by omega) rfl
    simp only[lin]at hA1
    have l61:=get_live ((o36.old _ (by omega)).trans k1)
    have l61e:∀ L,(ext H6 L).live (H.next+1) 0=some (52,[pv]):=fun L=>(ext_live_old (by omega)).trans l61
    have l71:=get_live ((hp7 (H.next+1) (by omega)).trans ((o36.old _ (by omega)).trans k1))
    obtain⟨H8,hH8⟩:∃ H8,H8=H7.upd (H.next+1) (.arr 0 52 [pv']):=⟨_,rfl⟩
    have n8':H8.next=H7.next:=by rw[hH8];rfl
    have o8:∀ id,id≠H.next+1->H8.get id=H7.get id:=fun id h=>by rw[hH8,upd_get,if_neg h]
    have a8:Own2 (H2.next+2) H8 3 pv' (ints ((gWts d).take k)++[lin (gainP d vals)]) pu (ints ((gGns d).take k)):=hO1.keep (by omega) fun id h1 h2=>o8 id (by omega)
    obtain⟨pu',H9,hA2,hO2,hn9,hp9⟩:=a8.symm.app (P:=Try.prog) (t:=52) (x:=lin (gainP d vals*utilV d.nodes d.utils vals)) (n:=H8.next+1) Try.underlying52 Try.cells3 Try.zero3 rfl (by rw[Try.bytes3,ints_length,hl2];omega) (by omega) rfl
    simp only[lin]at hA2
    have l82:=get_live ((o8 (H.next+2) (by omega)).trans ((hp7 (H.next+2) (by omega)).trans ((o36.old _ (by omega)).trans k2)))
    have l82e:∀ L,(ext H8 L).live (H.next+2) 0=some (52,[pu]):=fun L=>(ext_live_old (by omega)).trans l82
    have l92:=get_live ((hp9 (H.next+2) (by omega)).trans ((o8 (H.next+2) (by omega)).trans ((hp7 (H.next+2) (by omega)).trans ((o36.old _ (by omega)).trans k2))))
    have one1:=hO1.a.one
    have cel1:=hO1.a.cells
    have one2:=hO2.a.one
    have cel2:=hO2.a.cells
    have pc1:=a6.a.cells
    have pc2:=a6.b.cells
    simp only[go_sem,r2,r3,r7,r61,r62,hb2,l61,l71,hA1,one1,cel1]
    rw[<- hH8]
    simp only[go_sem,r3,r7,r10,l82,l92,hA2,one2,cel2,w2,bodyIt]
    have hget:∀ id,id<H2.next+2->id≠H.next+1->id≠H.next+2->(H9.upd (H.next+2) (.arr 0 52 [pu'])).get id=H3.get id:=fun id h1 h2 h3=>by
     rw[upd_get,if_neg h3,hp9 id h1,o8 id h2,hp7 id h1,o36.old id (by omega)]
    have ew:ints ((gWts d).take (k+1))=ints ((gWts d).take k)++[lin (gainP d vals)]:=by rw[take_succ_get (gWts_get hkw),hvals];simp [ints,lin]
    have eg:ints ((gGns d).take (k+1))=ints ((gGns d).take k)++[lin (gainP d vals*utilV d.nodes d.utils vals)]:=by rw[take_succ_get (gGns_get hkw),hvals];simp [ints,lin,gainU]
    refine⟨by rw[hget _ (by omega) (by omega) (by omega)];exact jB,by rw[upd_next];omega,⟨by rw[upd_next];omega,fun id h1 h2 h3=>by rw[hget id (by omega) h2 h3,o3 _ (by omega)];exact hj.2.1 id h1 h2 h3,pv',pu',?_,by rw[upd_get,if_pos rfl],?_⟩,?_⟩
    ·rw[upd_get,if_neg (by omega),hp9 _ (by omega),hH8,upd_get,if_pos rfl]
    ·rw[ew,eg]
     exact hO2.symm.keep (by rw[upd_next];exact Nat.le_refl _) fun id h1 h2=>by rw[upd_get,if_neg (by omega)]
    ·unfold CombS
     rw[hget _ (by omega) (by omega) (by omega)]
     exact kN
 ·obtain⟨v,u,a1,a2,a3⟩:=hj.2.2
  rw[combX_len]at a3
  rw[List.take_of_length_le (by rw[gWts_len];exact Nat.le_refl _),List.take_of_length_le (by rw[gGns_len];exact Nat.le_refl _)]at a3
  have l1:=get_live a1
  have l2:=get_live a2
  have c1:=a3.a.cells
  have c2:=a3.b.cells
  have ovx:Over H Hx:=⟨by omega,fun id hi=>(hj.2.1 id (by omega) (by omega) (by omega)).trans (o2.old id hi)⟩
  simp only[go_sem]
  refine W.draw 3 [0,0,1] Try.mixed (by kernel_rfl) (by kernel_rfl) ?_
  have on1:=a3.a.one
  have on2:=a3.b.one
  have l2u:∀ b,(Hx.upd (H.next+1) b).live (H.next+2) 0=some (52,[u]):=fun b=>(live_upd_other (by omega)).trans l2
  have l1u:∀ b,((Hx.upd (H.next+1) (.arr 0 52 [v])).upd (H.next+2) b).live (H.next+1) 0=some (52,[v]):=fun b=>(live_upd_other (by omega)).trans live_upd_same
  have hne12:∀ x:Nat,x=H.next+1->¬ x=H.next+2:=fun x h=>by omega
  simp only[go_sem,e2,e3,l1,l2,c1,c2,on1,on2,l2u,l1u]
  refine⟨hne12,?_⟩
  have a5:Own2 (H2.next+2) ((Hx.upd (H.next+1) (.arr 0 52 [v])).upd (H.next+2) (.arr 0 52 [u])) 3 v (ints (gWts d)) u (ints (gGns d)):=a3.keep (by rw[upd_next,upd_next];exact Nat.le_refl _) fun id h1 _=>by rw[upd_get,if_neg (by omega),upd_get,if_neg (by omega)]
  refine FinV.dropO G0_ok hcl ((ovx.upd (by omega) _).upd (by omega) _) ?_ hK
  exact .tup rfl fun i hi _=>match i,hi with
   | 0,_=>a5.a.fzI fun i hi=>by show H.next<=i;omega
   | 1,_=>a5.b.fzI fun i hi=>by show H.next<=i;omega
end Go.Proofs
namespace Go.Proofs
open Go.Hx
theorem maxL_snoc {l:List Int}(h:l≠[])(b:Int):maxL (l++[b])=max (maxL l) b:=by
 cases l with
 | nil=>exact absurd rfl h
 | cons a l =>
  show (l++[b]).foldl max a=_
  rw[List.foldl_append];rfl
theorem max_spec (l:List Int)(h0:l≠[])(hl:(l.length:Int)<2 ^ 62)(H:AHeap)(K:ARes->AHeap->Prop)(hK:K (.ret (lin (maxL l))) H):ACall Try.prog G0 57 [vecI l] H K:=by
 have hpos:0<l.length:=List.length_pos_iff.2 h0
 obtain⟨a,ha⟩:=get_of_lt hpos
 have h1:¬ ((l.length:Int)<1):=by omega
 have hp1:(0:Int)<l.length:=by omega
 refine ACall.of_body (n:=25) (rs:=[.tmp 2]) Try.func57 rfl rfl rfl (by decide) (by kernel_rfl) (by simp) ?_
 simp only[go_sem,h1,ha,h0,hp1]
 refine W.loop0 16773144 (by rfl) (fun ρ H'=>H'=H/\∃ k:Nat,ρ 4=lin (k:Int)/\1<=k/\k<=l.length/\ρ 3=lin (maxL (l.take k))) (fun ρ H=>l.length - (iv (ρ 4)).toNat) ?_ ?_
 ·simp only[go_sem]
  refine⟨1,rfl,Nat.le_refl _,by omega,?_⟩
  rw[take_succ_get ha,List.take_zero]
  rfl
 rintro ρ H' ⟨rfl,k,h4,hk1,hk,h3⟩
 refine vc_sound _ _ _ (by rfl) ?_
 by_cases hb:(k:Int)<l.length
 ·obtain⟨b,hkb⟩:=get_of_lt (l:=l) (i:=k) (by omega)
  have hne:=ne_of_get hkb
  have w1:=IntWalk.i64_in ((k:Int)+1) (by omega)
  simp only[go_sem,h4,h3,hb,hkb,hne,w1,builtin_max]
  refine⟨⟨k+1,by simp,by omega,by omega,?_⟩,by omega⟩
  rw[take_succ_get hkb,maxL_snoc (fun e=>by have:=congrArg List.length e;rw[List.length_take,Nat.min_eq_left (by omega)]at this;rw[List.length_nil]at this;omega)]
  congr 2
  split<;>omega
 ·simp only[go_sem,h4,h3,hb]
  rw[List.take_of_length_le (by omega)]
  exact FinV.mk (Nat.le_refl _) hK
theorem idxOf_at {l:List Int}{v:Int}{k:Nat}(h:∀ j,j<k->∀ b,l[j]?=some b->b≠v)(hk:l[k]?=some v):l.idxOf v=k:=by
 induction l generalizing k with
 | nil=>simp at hk
 | cons a l ih =>
  cases k with
  | zero=>simp only[List.getElem?_cons_zero,Option.some.injEq]at hk;subst hk;simp
  | succ k =>
   have ha:=h 0 (by omega) a rfl
   have hr:=ih (k:=k) (fun j hj b hb=>h (j+1) (by omega) b (by simpa using hb)) (by simpa using hk)
   have hbe:(a == v)=false:=beq_false_of_ne ha
   simp [List.idxOf_cons,hbe,hr]
theorem index_spec (l:List Int)(v:Int)(hv:v∈l)(hl:(l.length:Int)<2 ^ 62)(H:AHeap)(K:ARes->AHeap->Prop)(hK:K (.ret (lin ((l.idxOf v:Nat):Int))) H):ACall Try.prog G0 58 [vecI l,lin v] H K:=by
 refine ACall.of_body (n:=19) (rs:=[.tmp 4]) Try.func58 rfl rfl rfl (by decide) (by kernel_rfl) (by simp) ?_
 simp only[go_sem]
 refine W.loop0 524080 (by rfl) (fun ρ H'=>H'=H/\∃ k:Nat,ρ 8=lin k/\k<=l.length/\∀ j,j<k->∀ b,l[j]?=some b->b≠v) (fun ρ H=>l.length - (iv (ρ 8)).toNat) ?_ ?_
 ·simp only[go_sem]
  exact⟨0,rfl,by omega,fun j h=>absurd h (Nat.not_lt_zero _)⟩
 rintro ρ H' ⟨rfl,k,h8,hk,hno⟩
 refine vc_sound _ _ _ (by rfl) ?_
 by_cases hb:(k:Int)<l.length
 ·obtain⟨b,hkb⟩:=get_of_lt (l:=l) (i:=k) (by omega)
  have hne:=ne_of_get hkb
  have w1:=IntWalk.i64_in ((k:Int)+1) (by omega)
  by_cases he:v=b
  ·subst he
   simp only[go_sem,h8,hb,hkb,hne]
   rw[idxOf_at hno hkb]at hK
   exact FinV.mk (Nat.le_refl _) hK
  ·simp only[go_sem,h8,hb,hkb,hne,he,w1]
   exact⟨⟨k+1,by simp,by omega,fun j hj b' hb'=>by
    by_cases hjk:j=k
    ·subst hjk;rw[hkb]at hb';cases hb';exact fun h=>he h.symm
    ·exact hno j (by omega) b' hb'⟩,by omega⟩
 ·exfalso
  obtain⟨j,hj⟩:=List.mem_iff_getElem?.1 hv
  exact hno j (by have:=get_lt hj;omega) v hj rfl
end Go.Proofs
namespace Go.Proofs
open Go.Hx
theorem lists_it (d:InfP)(hl:(d.nodes.length:Int)<2 ^ 40)(hD:d.decs<2 ^ 64)(b:Nat):ItSpec Try.prog G0 55 [] [.ptr b 0 0] (decX d) (fun H=>H.get b=some (infB d)):=by
 intro idy J Stop H K hS hJ0 hY hK hSt
 have l0:=get_live (hS 0 H hJ0)
 show ACall _ _ _ ([.yld idy]++[.ptr b 0 0]) _ _
 refine ACall.of_body (n:=25) (rs:=[]) Try.func55 rfl rfl rfl (by decide) (by kernel_rfl) (by simp) ?_
 simp only[go_sem,l0,infC]
 refine W.loop0 33554200 (by rfl) (fun ρ H'=>∃ v:Nat,ρ 8=lin v/\v<=d.nodes.length/\ρ 3=lin (placeD d.decs v)/\J (placeD d.decs v) H'/\H.next<=H'.next) (fun ρ H=>d.nodes.length - (iv (ρ 8)).toNat) ?_ ?_
 ·simp only[go_sem]
  exact⟨0,rfl,by omega,rfl,hJ0⟩
 rintro ρ H' ⟨v,h8,hv,h3,hj,hn⟩
 refine vc_sound _ _ _ (by rfl) ?_
 by_cases hb:(v:Int)<d.nodes.length
 ·have l1:=get_live (hS _ _ hj)
  have s1:=fun t x y=>shrB (P:=Try.prog) (t:=t) (x:=x) (y:=y) (k':=.i64) (s:=v) hD
  have s2:=fun t x y=>bit1 (P:=Try.prog) (t:=t) (x:=x) (y:=y) (s:=v) hD
  have w1:=IntWalk.i64_in ((v:Int)+1) (by omega)
  have hp:placeD d.decs v<=v:=by
   have:(decK d.decs v).length<=v:=decK_len
   exact this
  have w2:=IntWalk.i64_in ((placeD d.decs v:Int)+1) (by omega)
  cases hbit:d.decs.testBit v
  ·simp only[go_sem,h8,h3,hb,l1,infC,s1,s2,hbit,w1]
   exact⟨hn,⟨v+1,by simp,by omega,by rw[placeD_succ,hbit];rfl,by rw[placeD_succ,hbit];exact hj,hn⟩,by omega⟩
  ·have hdx:(decX d)[placeD d.decs v]?=some [lin (placeD d.decs v),lin v]:=decX_of (decK_get (by omega) hbit)
   simp only[go_sem,h8,h3,hb,l1,infC,s1,s2,hbit]
   refine hY _ _ H' _ hdx hj hn (fun H2 hj2 hn2=>⟨trivial,?_⟩) (fun H2 hs2 hn2=>⟨trivial,?_⟩)
   ·simp only[go_sem,h8,h3,w1,w2]
    exact⟨by omega,⟨v+1,by simp,by omega,by rw[placeD_succ,hbit];simp,by rw[placeD_succ,hbit];exact hj2,by omega⟩,by omega⟩
   ·simp only[go_sem]
    exact FinV.mk (by omega) (hSt H2 hs2 (by omega))
 ·simp only[go_sem,h8,hb]
  have ek:v=d.nodes.length:=by omega
  subst ek
  exact FinV.mk (by omega) (hK H' (by rw[decX_len];exact hj) hn)
theorem lists_clo (d:InfP)(H:AHeap)(K:ARes->AHeap->Prop)(hK:K (.ret (.clo 55 [] [.ptr H.next 0 0])) (ext H [infB d])):
  ACall Try.prog G0 29 [infV d] H K:=by
 refine ACall.of_body (n:=4) (rs:=[.tmp 2]) Try.func29 rfl rfl rfl (by decide) (by kernel_rfl) (by simp) ?_
 simp only[go_sem,infV_eq,infC]
 exact FinV.mk (by simp [ext_next]) hK
end Go.Proofs
namespace Go.Hx
variable {P:Program}
structure OwnM (lo:Nat)(H:AHeap)(e1 e0:TypeId)(v:AVal)(ids:List Nat)(rows:List (List AVal)):Prop where
 len:ids.length=rows.length
 nd:ids.Nodup
 rng:∀ i∈ids,lo<=i/\i<H.next
 top:OwnG lo H e1 v (List.zipWith (fun i n=>AVal.own i 0 0 n 1) ids (rows.map List.length))
 row:∀ (k id:Nat) (r:List AVal),ids[k]?=some id->rows[k]?=some r->H.get id=some (.arr 0 e0 r)
theorem OwnM.nil {lo:Nat}{H:AHeap}{e1 e0:TypeId}:OwnM lo H e1 e0 (.lit (.slice none 0 0)) [] [] :=
 ⟨rfl,.nil,fun i h=>(by cases h),.nil,fun k id r h=>(by simp at h)⟩
theorem OwnM.keep {lo:Nat}{H H':AHeap}{e1 e0:TypeId}{v:AVal}{ids:List Nat}{rows:List (List AVal)}(h:OwnM lo H e1 e0 v ids rows)(hn:H.next<=H'.next)(hk:∀ id,lo<=id->id<H.next->H'.get id=H.get id):OwnM lo H' e1 e0 v ids rows :=
 ⟨h.len,h.nd,fun i hi=>⟨(h.rng i hi).1,by have:=(h.rng i hi).2;omega⟩,h.top.keep (Nat.le_refl _) hn fun id _ h1 h2 _ _=>hk id h1 h2,fun k id r h1 h2=>by
  have:=h.rng id (List.mem_of_getElem? h1)
  rw[hk id this.1 this.2]
  exact h.row k id r h1 h2⟩
theorem OwnM.app {lo n:Nat}{H:AHeap}{e1 e0:TypeId}{v:AVal}{ids:List Nat}{rows:List (List AVal)}{r:List AVal}{t:TypeId}{z:List AVal}(ht:P.underlying t=some (.slice e1))(hz:P.cellsOf e1=1)(hzero:zeroA P e1=some z)(hby:P.bytesOf e1=24)(hne:e1≠e0)
  (hb:rows.length<2 ^ 40) (h:OwnM lo H e1 e0 v ids rows) (hlo:lo<=H.next) (hn:n=H.next+2):
  ∃ v' H',appendA P (ext (ext H [.arr 0 e0 r]) [.arr 0 e1 [.own H.next 0 0 r.length 1]]) n t t v (.own (H.next+1) 0 0 1 1)=some (v',H')/\OwnM lo H' e1 e0 v' (ids++[H.next]) (rows++[r])/\H.next<=H'.next/\(∀ k,k<H.next->k<lo->H'.get k=H.get k):=by
 obtain⟨Hb,hHb⟩:∃ Hb,Hb=ext H [.arr 0 e0 r]:=⟨_,rfl⟩
 have nb:Hb.next=H.next+1:=by rw[hHb];rfl
 have ob:Over H Hb:=by rw[hHb];exact .ext _ _
 have gb:Hb.get H.next=some (.arr 0 e0 r):=by rw[hHb];exact ext1_get_new
 have htop:=h.top.over ob
 obtain⟨v',H',hA,hO,hL,hp⟩:=app_oneG (P:=P) (H:=Hb) (t:=t) (x:=.own H.next 0 0 r.length 1) (n:=n) ht hz hzero rfl (by rw[hby];simp [h.len];omega) htop (by omega) (by omega)
 rw[nb,hHb]at hA
 have old:∀ id g,lo<=id->id<Hb.next->Hb.get id=some (.arr g e0 r)->H'.get id=Hb.get id:=fun id g h1 h2 h3=>hp id h2 fun g' m he=>by
  rcases htop with ⟨hv,_⟩|⟨i,g2,_,_,hv,h4⟩
  ·rw[hv]at he;cases he
  ·rw[hv]at he
   obtain rfl:i=id:=(AVal.own.inj he).1
   rw[h4]at h3
   cases h3
   exact hne rfl
 have oldr:∀ id g q,lo<=id->id<Hb.next->Hb.get id=some (.arr g e0 q)->H'.get id=Hb.get id:=fun id g q h1 h2 h3=>hp id h2 fun g' m he=>by
  rcases htop with ⟨hv,_⟩|⟨i,g2,_,_,hv,h4⟩
  ·rw[hv]at he;cases he
  ·rw[hv]at he
   obtain rfl:i=id:=(AVal.own.inj he).1
   rw[h4]at h3
   cases h3
   exact hne rfl
 refine⟨v',H',hA,⟨by simp [h.len],List.nodup_append.2 ⟨h.nd,by simp,fun a ha b hb=>by
  obtain rfl:=List.mem_singleton.1 hb
  have:=(h.rng a ha).2
  omega⟩,fun i hi=>?_,?_,fun k id q h1 h2=>?_⟩,by omega,fun k hk hkl=>?_⟩
 ·rcases List.mem_append.1 hi with h1|h1
  ·have:=h.rng i h1;omega
  ·obtain rfl:=List.mem_singleton.1 h1;omega
 ·rw[List.map_append,List.zipWith_append (by rw[List.length_map];exact h.len)]
  exact hO
 ·have hk:=List.getElem?_eq_some_iff.1 h1
  obtain⟨hk,_⟩:=hk
  rw[List.length_append,List.length_singleton]at hk
  rcases Nat.lt_or_ge k ids.length with hlt|hge
  ·rw[List.getElem?_append_left hlt]at h1
   rw[List.getElem?_append_left (by rw[<- h.len];exact hlt)]at h2
   have hr:=h.rng id (List.mem_of_getElem? h1)
   have hg:=h.row k id q h1 h2
   rw[oldr id 0 q hr.1 (by omega) ((ob.old id hr.2).trans hg),ob.old id hr.2]
   exact hg
  ·obtain rfl:k=ids.length:=by omega
   rw[List.getElem?_append_right (Nat.le_refl _),Nat.sub_self]at h1
   rw[h.len,List.getElem?_append_right (Nat.le_refl _),Nat.sub_self]at h2
   cases h1
   cases h2
   rw[oldr H.next 0 r hlo (by omega) gb]
   exact gb
 ·rw[hp k (by omega) fun g m he=>?_,ob.old k hk]
  rcases htop with ⟨hv,_⟩|⟨i,g2,a1,_,hv,h4⟩
  ·rw[hv]at he;cases he
  ·rw[hv]at he
   have:=(AVal.own.inj he).1
   omega
theorem OwnM.topB {lo:Nat}{H:AHeap}{e1 e0:TypeId}{v:AVal}{ids:List Nat}{rows:List (List AVal)}(h:OwnM lo H e1 e0 v ids rows)(h0:rows≠[]):∃ id g,lo<=id/\id<H.next/\v=.own id g 0 rows.length 1/\H.get id=some (.arr g e1 (List.zipWith (fun i n=>AVal.own i 0 0 n 1) ids (rows.map List.length)))/\(e1≠e0->id ∉ ids):=by
 have hzl:(List.zipWith (fun i n=>AVal.own i 0 0 n 1) ids (rows.map List.length)).length=rows.length:=by simp [h.len]
 rcases h.top with ⟨hv,h4⟩|⟨i,g,a,b,hv,h4⟩
 ·rw[h4]at hzl
  exact absurd (List.eq_nil_of_length_eq_zero hzl.symm) h0
 ·refine⟨i,g,a,b,by rw[hv,hzl],h4,fun hne hm=>?_⟩
  obtain⟨k,hk⟩:=List.mem_iff_getElem?.1 hm
  have hkl:k<rows.length:=by rw[<- h.len];exact(List.getElem?_eq_some_iff.1 hk).1
  have:=h.row k i _ hk (List.getElem?_eq_getElem hkl)
  rw[h4]at this
  exact hne (Blk.arr.inj (Option.some.inj this)).2.1
theorem OwnM.store {lo:Nat}{H:AHeap}{e1 e0:TypeId}{v:AVal}{ids:List Nat}{rows:List (List AVal)}(h:OwnM lo H e1 e0 v ids rows)(hne:e1≠e0){k id:Nat}{r r':List AVal}(hk:ids[k]?=some id)(hr:rows[k]?=some r)(hl:r'.length=r.length):OwnM lo (H.upd id (.arr 0 e0 r')) e1 e0 v ids (rows.set k r'):=by
 have hid:=h.rng id (List.mem_of_getElem? hk)
 have h0:rows≠[]:=fun e=>by rw[e]at hr;simp at hr
 refine⟨by rw[List.length_set];exact h.len,h.nd,fun i hi=>by rw[upd_next];exact h.rng i hi,?_,fun j id' q h1 h2=>?_⟩
 ·have e:(rows.set k r').map List.length=rows.map List.length:=by
   rw[List.map_set,hl]
   apply List.ext_getElem?
   intro i
   rw[List.getElem?_set]
   split
   ·rename_i hi
    subst hi
    have hkl:=(List.getElem?_eq_some_iff.1 hr).1
    rw[if_pos (by rw[List.length_map];exact hkl),List.getElem?_map,hr]
    rfl
   ·rfl
  rw[e]
  obtain⟨i,g,a,b,_,h4,h5⟩:=h.topB h0
  refine h.top.keep (Nat.le_refl _) (by rw[upd_next];exact Nat.le_refl _) fun i2 g2 _ _ h3 _=>?_
  rw[upd_get,if_neg]
  rintro rfl
  rw[h.row k i2 r hk hr]at h3
  cases h3
  exact hne rfl
 ·rw[upd_get]
  by_cases hj:j=k
  ·subst hj
   rw[hk]at h1
   cases h1
   rw[List.getElem?_set_self (List.getElem?_eq_some_iff.1 hr).1]at h2
   cases h2
   rw[if_pos rfl]
  ·rw[List.getElem?_set_ne (fun e=>hj e.symm)]at h2
   rw[if_neg,h.row j id' q h1 h2]
   rintro rfl
   exact hj ((List.getElem?_inj (List.getElem?_eq_some_iff.1 h1).1 h.nd).1 (by rw[h1,hk]))
theorem OwnM.fz {S:Nat->Prop}{lo nx:Nat}{H:AHeap}{e1 e0:TypeId}{v:AVal}{ids:List Nat}{rows:List (List AVal)}(h:OwnM lo H e1 e0 v ids rows)(hS:∀ i,lo<=i->S i)(hr:∀ r∈rows,∀ c∈r,Fz S H nx c c):
  Fz S H nx v (.vec rows.length (rows.map fun r=>.vec r.length r)):=by
 have hz:(List.zipWith (fun i n=>AVal.own i 0 0 n 1) ids (rows.map List.length)).length=rows.length:=by simp [h.len]
 have:=h.top.fz (S:=S) (nx:=nx) (cs':=rows.map fun r=>.vec r.length r) hS (by simp [h.len]) fun i hi hi'=>by
  simp only[List.getElem_map,List.getElem_zipWith]
  have hil:i<rows.length:=by omega
  have hii:i<ids.length:=by rw[h.len];exact hil
  refine .frz (hS _ (h.rng _ (List.getElem_mem hii)).1) (h.row i _ _ (List.getElem?_eq_getElem hii) (List.getElem?_eq_getElem hil)) (by simp) fun j hj h2 h'=>?_
  have e0:(0:Nat)+j=j:=Nat.zero_add j
  have h3:=hr rows[i] (List.getElem_mem hil) _ (List.getElem_mem h')
  simpa only[e0] using h3
 rw[List.length_map]at this
 exact this
end Go.Hx
namespace Go.Proofs
open Go.Hx
def expK (d:InfP)(c:Nat->Nat->Int)(v0 r:Nat)(x:Int)(k:Nat):Int :=
 SS k fun w=>if agEx d c v0 (wv d w)=true/\rowI d.nodes v0 (wv d w)=r/\(wv d w).getD v0 0=x then gainU d (wv d w) else 0
def rowK (d:InfP)(c:Nat->Nat->Int)(v0 r k:Nat):List Int:=(List.range (nCard d v0)).map fun (x:Nat)=>expK d c v0 r (x:Int) k
def tabK (d:InfP)(c:Nat->Nat->Int)(v0 k:Nat):List (List Int):=(List.range (nRows d v0)).map fun r=>rowK d c v0 r k
theorem rowK_len (d:InfP)(c:Nat->Nat->Int)(v0 r k:Nat):(rowK d c v0 r k).length=nCard d v0:=by simp [rowK]
theorem tabK_len (d:InfP)(c:Nat->Nat->Int)(v0 k:Nat):(tabK d c v0 k).length=nRows d v0:=by simp [tabK]
theorem tabK_get {d:InfP}{c:Nat->Nat->Int}{v0 k r:Nat}(h:r<nRows d v0):(tabK d c v0 k)[r]?=some (rowK d c v0 r k):=by unfold tabK;rw[List.getElem?_map,List.getElem?_range h];rfl
theorem rowK_get {d:InfP}{c:Nat->Nat->Int}{v0 k r x:Nat}(h:x<nCard d v0):(rowK d c v0 r k)[x]?=some (expK d c v0 r (x:Int) k):=by unfold rowK;rw[List.getElem?_map,List.getElem?_range h];rfl
theorem rowK_zero (d:InfP)(c:Nat->Nat->Int)(v0 r:Nat):rowK d c v0 r 0=List.replicate (nCard d v0) 0:=by
 unfold rowK expK
 simp only[SS_zero]
 rw[List.map_const',List.length_range]
theorem tabK_zero (d:InfP)(c:Nat->Nat->Int)(v0:Nat):tabK d c v0 0=List.replicate (nRows d v0) (List.replicate (nCard d v0) 0):=by
 unfold tabK
 simp only[rowK_zero]
 rw[List.map_const',List.length_range]
theorem tabK_no {d:InfP}{c:Nat->Nat->Int}{v0 k:Nat}(h:agEx d c v0 (wv d k)=false):tabK d c v0 (k+1)=tabK d c v0 k:=by
 unfold tabK rowK expK
 simp only[SS_succ,h]
 simp
theorem tabK_yes {d:InfP}{c:Nat->Nat->Int}{v0 k r x:Nat}(h:agEx d c v0 (wv d k)=true)(hr:rowI d.nodes v0 (wv d k)=r)(hx:(wv d k).getD v0 0=(x:Int))(hrn:r<nRows d v0)(hxn:x<nCard d v0):
  tabK d c v0 (k+1)=(tabK d c v0 k).set r ((rowK d c v0 r k).set x (expK d c v0 r (x:Int) k+gainU d (wv d k))):=by
 apply List.ext_getElem?
 intro i
 rw[List.getElem?_set,tabK_len]
 by_cases hi:i<nRows d v0
 ·rw[tabK_get hi,tabK_get hi]
  by_cases hri:r=i
  ·subst hri
   rw[if_pos rfl,if_pos hi]
   congr 1
   apply List.ext_getElem?
   intro j
   rw[List.getElem?_set,rowK_len]
   by_cases hj:j<nCard d v0
   ·rw[rowK_get hj,rowK_get hj]
    by_cases hxj:x=j
    ·subst hxj
     rw[if_pos rfl,if_pos hj]
     unfold expK
     rw[SS_succ,if_pos ⟨h,hr,hx⟩]
    ·rw[if_neg hxj]
     unfold expK
     rw[SS_succ,if_neg fun e=>hxj (by have:=e.2.2;rw[hx]at this;exact Int.ofNat.inj this)]
     simp
   ·rw[List.getElem?_eq_none (by rw[rowK_len];omega),List.getElem?_eq_none (by rw[rowK_len];omega),if_neg (by omega)]
    try (split<;>rfl)
  ·rw[if_neg hri]
   congr 1
   unfold rowK
   refine List.map_congr_left fun j _=>?_
   unfold expK
   rw[SS_succ,if_neg fun e=>hri (by rw[<- hr];exact e.2.1)]
   simp
 ·rw[List.getElem?_eq_none (by rw[tabK_len];omega),List.getElem?_eq_none (by rw[tabK_len];omega),if_neg (by omega)]
  try (split<;>rfl)
theorem gainU_bound {d:InfP}(hok:InfOk d)(h6:d.nodes.length<=6){vals:List Int}(hf:FitsC (cardsL d.nodes) vals):-18662400000000<=gainU d vals/\gainU d vals<=18662400000000:=by
 have hb:∀ w∈gainL d vals,0<=w/\w<=60:=fun w hw=>by
  obtain⟨v,hv,rfl⟩:=List.mem_map.1 hw
  exact gain_rng hok hf (List.mem_range.1 hv)
 have h1:=prodL_le_pow (b:=60) (by omega) hb
 have h2:=pow60_6 (gainL d vals).length (by rw[gainL_len];omega)
 have h3:0<=gainP d vals/\gainP d vals<=46656000000:=⟨h1.1,Int.le_trans h1.2 h2⟩
 have h4:=utilU_bound hok.utils.2 hok.utils.1 vals
 unfold gainU
 generalize gainP d vals=w at *
 generalize utilV d.nodes d.utils vals=u at *
 constructor
 ·have h1:w*(-400)<=w*u:=Int.mul_le_mul_of_nonneg_left h4.1 h3.1
  omega
 ·have h1:w*u<=w*400:=Int.mul_le_mul_of_nonneg_left h4.2 h3.1
  omega
theorem expK_bound {d:InfP}(hok:InfOk d)(h6:d.nodes.length<=6)(c:Nat->Nat->Int)(v0 r:Nat)(x:Int)(k:Nat):-(18662400000000*k:Int)<=expK d c v0 r x k/\expK d c v0 r x k<=18662400000000*k:=by
 induction k with
 | zero=>simp [expK,SS_zero]
 | succ k ih =>
  have e:expK d c v0 r x (k+1)=expK d c v0 r x k+(if agEx d c v0 (wv d k)=true/\rowI d.nodes v0 (wv d k)=r/\(wv d k).getD v0 0=x then gainU d (wv d k) else 0):=by unfold expK;rw[SS_succ]
  rw[e]
  have:=gainU_bound hok h6 (wv_fits hok k)
  push_cast
  split<;>omega
theorem worldsI_le {d:InfP}(hok:InfOk d):worlds d.nodes<=1024:=by
 have:=(worlds_le hok.net).1
 rwa [worlds_fill]at this
end Go.Proofs
namespace Go.Proofs
open Go.Hx
def solC (d:InfP):List AVal:=[.lit (.int .i64 d.grain),.vec d.nodes.length (nodesC d.nodes),.lit (.int .u64 (d.decs:Int)),.vec d.utils.length (utilsC d.utils),.lit (.slice none 0 0),vecI (gWts d),vecI (gGns d),.lit (.int .i64 0)]
structure ExH (d:InfP)(p:List (List Int))(v0 db eb pb rb sb so:Nat)(rv:AVal)(H:AHeap):Prop where
 hd:H.get db=some (infB d)
 he:H.get eb=some (.arr 0 3 [.lit (.int .i64 v0)])
 hp:H.get pb=some (.arr 0 36 [vecV p])
 hr:H.get rb=some (.arr 0 36 [rv])
 hs:H.get sb=some (.arr 0 134 [.ptr so 0 0])
 hso:H.get so=some (.arr 0 137 (solC d))
theorem ExH.keep {d:InfP}{p:List (List Int)}{v0 db eb pb rb sb so:Nat}{rv:AVal}{H H':AHeap}(h:ExH d p v0 db eb pb rb sb so rv H)(hk:∀ id,id=db\/id=eb\/id=pb\/id=rb\/id=sb\/id=so->H'.get id=H.get id):ExH d p v0 db eb pb rb sb so rv H' :=
 ⟨(hk _ (by simp)).trans h.hd,(hk _ (by simp)).trans h.he,(hk _ (by simp)).trans h.hp,(hk _ (by simp)).trans h.hr,(hk _ (by simp)).trans h.hs,(hk _ (by simp)).trans h.hso⟩
theorem rowsN_at {d:InfP}(hok:InfOk d){v:Nat}{x:NodeP}(hx:d.nodes[v]?=some x):(rowsN d.nodes x:Int)=prodL (parC d.nodes x)/\PlacesOk x.parents d.nodes.length/\InRange x.parents d.nodes.length/\SmallC (parC d.nodes x):=by
 have hxp:PlacesOk x.parents d.nodes.length:=by
  have:=(hok.net.node _ (List.mem_of_getElem? (fillL_get (c:=fun _ _=>0) hx))).2
  rw[(fillN_card ..).2,fillL_len]at this
  exact this
 have ps:=parC_small hok.n.n1.2 hxp hok.n.card
 exact⟨by have:=ps.prod;unfold rowsN;omega,hxp,fun q hq=>by have:=hxp.2 q hq;omega,ps⟩
set_option maxHeartbeats 4000000 in
theorem pass1_spec (d:InfP)(hok:InfOk d)(hf:InfFit d)(h6:d.nodes.length<=6)(p:List (List Int))(hp:PolOk d p)(v0:Nat)(hv0:v0∈decL d)(k:Nat)(hk:k<worlds d.nodes)(db eb pb rb sb so N n lo:Nat)(rv:AVal)(ids:List Nat)
  (H:AHeap) (hE:ExH d p v0 db eb pb rb sb so rv H) (hM:OwnM lo H 52 3 rv ids ((tabK d (fixC p) v0 k).map ints)) (hg:H.get N=some (.arr 0 3 (ints (wv d k)))) (hN:N<H.next) (hn:n=d.nodes.length)
  (K:ARes->AHeap->Prop) (hK:∀ H',H'.next=H.next->(∀ id,id ∉ ids->H'.get id=H.get id)->OwnM lo H' 52 3 rv ids ((tabK d (fixC p) v0 (k+1)).map ints)->K (.ret (.tup [])) H'):
  ACall Try.prog G0 79 [lin k,.own N 0 0 n 1,.ptr db 0 0,.ptr eb 0 0,.ptr pb 0 0,.ptr rb 0 0,.ptr sb 0 0] H K:=by
 subst hn
 obtain⟨vals,hvals⟩:∃ vals,vals=wv d k:=⟨_,rfl⟩
 rw[<- hvals]at hg
 have hfit:FitsC (cardsL d.nodes) vals:=by rw[hvals];exact wv_fits hok k
 have hvl:vals.length=d.nodes.length:=by rw[hfit.1,cards_len]
 have n8:=hok.n.n1.2
 have hD:=hf.decs
 obtain⟨v01,v02⟩:=mem_decK.1 hv0
 have ld:=get_live hE.hd
 have le:=get_live hE.he
 have lp:=get_live hE.hp
 have lr:=get_live hE.hr
 have ls:=get_live hE.hs
 have lso:=get_live hE.hso
 have lN:=get_live hg
 unfold infC at ld
 unfold solC at lso
 have hpl:p.length<=d.nodes.length:=by rw[hp.len];exact decK_len
 refine ACall.of_body (n:=70) (rs:=[]) Try.func79 rfl rfl rfl (by decide) (by kernel_rfl) (by simp) ?_
 simp only[go_sem,ld]
 refine W.loop0 140737488340480 (by rfl) (fun ρ H'=>H'=H/\∃ v:Nat,ρ 14=lin v/\v<=d.nodes.length/\ρ 9=lin (placeD d.decs v)/\∀ u,u<v->d.decs.testBit u=true->u=v0\/agN d (fixC p) vals u=true) (fun ρ H=>d.nodes.length - (iv (ρ 14)).toNat) ?_ ?_
 ·simp only[go_sem]
  exact⟨0,rfl,by omega,rfl,fun u hu=>absurd hu (Nat.not_lt_zero _)⟩
 rintro ρ H' ⟨rfl,v,h14,hv,h9,hag⟩
 refine vc_sound _ _ _ (by rfl) ?_
 by_cases hb:(v:Int)<d.nodes.length
 ·obtain⟨x,hx⟩:=get_of_lt (l:=d.nodes) (i:=v) (by omega)
  have s1:=fun t x y=>shrB (P:=Try.prog) (t:=t) (x:=x) (y:=y) (k':=.i64) (s:=v) hD
  have s2:=fun t x y=>bit1 (P:=Try.prog) (t:=t) (x:=x) (y:=y) (s:=v) hD
  have w1:=IntWalk.i64_in ((v:Int)+1) (by omega)
  have hpv:placeD d.decs v<=v:=by
   have:(decK d.decs v).length<=v:=decK_len
   exact this
  have w2:=IntWalk.i64_in ((placeD d.decs v:Int)+1) (by omega)
  cases hbit:d.decs.testBit v
  ·simp only[go_sem,h14,hb,ld,s1,s2,hbit,w1]
   exact⟨⟨v+1,by simp,by omega,by rw[placeD_succ,hbit];exact h9,fun u hu hub=>by
    by_cases huv:u=v
    ·subst huv;rw[hbit]at hub;cases hub
    ·exact hag u (by omega) hub⟩,by omega⟩
  by_cases hvv:v=v0
  ·subst hvv
   simp only[go_sem,h14,hb,ld,s1,s2,hbit]
   refine W.draw 19 [0,0,3,7,15,15,63,127,15,271,15,15,3855,8191,16383,15,15,98319,229391] Try.mixed (by kernel_rfl) (by kernel_rfl) ?_
   simp only[go_sem,h14,h9,le,w1,w2]
   exact⟨⟨v+1,by simp,by omega,by rw[placeD_succ,hbit];simp,fun u hu hub=>by
    by_cases huv:u=v
    ·exact .inl huv
    ·exact hag u (by omega) hub⟩,by omega⟩
  have hvv2:¬ (v:Int)=v0:=by omega
  obtain⟨hrn,hxp,hin,ps⟩:=rowsN_at hok hx
  obtain⟨r1,r2⟩:=fit_row hok hx hfit
  have hvm:v∈decL d:=mem_decK.2 ⟨by omega,hbit⟩
  have hplt:=place_lt hp hvm
  obtain⟨l,hl⟩:=get_of_lt hplt
  obtain⟨ll,lr'⟩:=hp.row _ v x l (dec_place hx hbit) hx hl
  obtain⟨a,ha⟩:=get_of_lt (l:=l) (i:=rowI d.nodes v vals) (by omega)
  obtain⟨b,hbv⟩:=get_of_lt (l:=vals) (i:=v) (by omega)
  have hca:fixC p (placeD d.decs v) (rowI d.nodes v vals)=a:=by unfold fixC;rw[getD_of_get hl,getD_of_get ha]
  have hpc:PCall Try.prog G0 (.clo 68 [] []) [.vec d.nodes.length (nodesC d.nodes),.lit (.int .i64 v),.own N 0 0 d.nodes.length 1] H' (.lit (.int .i64 (rowI d.nodes v vals))) [N]:=by
   have:=rowW_pcall d.nodes v x vals hx hin ps hfit H' N d.nodes.length hN hg hvl.symm
   rw[<- r1]at this
   exact this
  have gl:(p.map fun r=>AVal.vec r.length (ints r))[placeD d.decs v]?=some (.vec l.length (ints l)):=by rw[List.getElem?_map,hl];rfl
  have gne:=ne_of_get hl
  have hpi:(placeD d.decs v:Int)<p.length:=by omega
  have hlne:=ne_of_get ha
  have hli:(rowI d.nodes v vals:Int)<l.length:=by have:=get_lt ha;omega
  have hvne:=ne_of_get hbv
  have hvi:(v:Int)<vals.length:=by omega
  have hagN:agN d (fixC p) vals v=decide (a=b):=by unfold agN;rw[hca,getD_of_get hbv]
  simp only[go_sem,h14,hb,ld,s1,s2,hbit]
  refine W.draw 19 [0,0,3,7,15,15,63,127,15,271,15,15,3855,8191,16383,15,15,98319,229391] Try.mixed (by kernel_rfl) (by kernel_rfl) ?_
  simp only[go_sem,h9,ld,le,lp,hvv2,vecV,hl,gne,hpi]
  refine⟨.lit (.int .i64 (rowI d.nodes v vals)),[N],hpc,?_⟩
  have hvn:(v:Int)<d.nodes.length:=hb
  by_cases hab:a=b
  ·subst hab
   simp only[go_sem,h14,h9,lN,ha,hlne,hli,hbv,hvn,w1,w2]
   exact⟨⟨v+1,by simp,by omega,by rw[placeD_succ,hbit];simp,fun u hu hub=>by
    by_cases huv:u=v
    ·subst huv;exact .inr (by rw[hagN];simp)
    ·exact hag u (by omega) hub⟩,by omega⟩
  ·simp only[go_sem,lN,ha,hlne,hli,hbv,hvn,hab]
   have hno:agEx d (fixC p) v0 (wv d k)=false:=by
    rw[<- hvals]
    unfold agEx
    rw[List.all_eq_false]
    exact⟨v,hvm,by rw[hagN];simp [hvv,hab]⟩
   exact FinV.mk (Nat.le_refl _) (hK H' rfl (fun _ _=>rfl) (by rw[tabK_no hno];exact hM))
 ·have hyes:agEx d (fixC p) v0 (wv d k)=true:=by
   rw[<- hvals]
   unfold agEx
   rw[List.all_eq_true]
   intro u hu
   obtain⟨u1,u2⟩:=mem_decK.1 hu
   rcases hag u (by omega) u2 with h|h
   ·simp [h]
   ·simp [h]
  obtain⟨x,hx⟩:=get_of_lt v01
  have hxc:=hok.n.card x (List.mem_of_getElem? hx)
  obtain⟨nr,nc⟩:=nRC hx (by omega)
  obtain⟨hrn,hxp,hin,ps⟩:=rowsN_at hok hx
  obtain⟨r1,r2⟩:=fit_row hok hx hfit
  obtain⟨b,hbv⟩:=get_of_lt (l:=vals) (i:=v0) (by omega)
  have hbr:=hfit.2 v0 x.card b (cards_get hx) hbv
  obtain⟨xb,rfl⟩:=Int.eq_ofNat_of_zero_le hbr.1
  obtain⟨r,hr⟩:∃ r,r=rowI d.nodes v0 vals:=⟨_,rfl⟩
  rw[<- hr]at r1 r2
  have hrn2:r<nRows d v0:=by omega
  have hxn:xb<nCard d v0:=by omega
  have hpc:PCall Try.prog G0 (.clo 68 [] []) [.vec d.nodes.length (nodesC d.nodes),.lit (.int .i64 v0),.own N 0 0 d.nodes.length 1] H' (.lit (.int .i64 r)) [N]:=by
   have:=rowW_pcall d.nodes v0 x vals hx hin ps hfit H' N d.nodes.length hN hg hvl.symm
   rw[<- r1]at this
   exact this
  obtain⟨tab,htab⟩:∃ t,t=tabK d (fixC p) v0 k:=⟨_,rfl⟩
  obtain⟨row,hrow⟩:∃ t,t=rowK d (fixC p) v0 r k:=⟨_,rfl⟩
  have htl:tab.length=nRows d v0:=by rw[htab];exact tabK_len ..
  have hrl:row.length=nCard d v0:=by rw[hrow];exact rowK_len ..
  have htr:tab[r]?=some row:=by rw[htab,hrow];exact tabK_get hrn2
  have hrx:row[xb]?=some (expK d (fixC p) v0 r (xb:Int) k):=by rw[hrow];exact rowK_get hxn
  rw[<- htab]at hM
  have ht0:tab≠[]:=fun h=>by rw[h]at htr;simp at htr
  obtain⟨tb,tg,tb1,tb2,hrv,hgt,htn⟩:=hM.topB (by simpa using ht0)
  have htn:=htn (by decide)
  rw[List.length_map]at hrv
  obtain⟨id,hid⟩:=get_of_lt (l:=ids) (i:=r) (by rw[hM.len,List.length_map];omega)
  have hmr:(tab.map ints)[r]?=some (ints row):=by rw[List.getElem?_map,htr];rfl
  have hgid:=hM.row r id _ hid hmr
  obtain⟨hs,hhs⟩:∃ hs,hs=List.zipWith (fun i n=>AVal.own i 0 0 n 1) ids ((tab.map ints).map List.length):=⟨_,rfl⟩
  rw[<- hhs]at hgt
  have hhk:hs[r]?=some (.own id 0 0 (nCard d v0) 1):=by
   rw[hhs,List.getElem?_zipWith,hid,List.getElem?_map,hmr]
   show some (AVal.own id 0 0 (ints row).length 1)=_
   rw[ints_length,hrl]
  have hhn:=ne_of_get hhk
  have lt:=get_live hgt
  have lid:=get_live hgid
  have bk:=expK_bound hok h6 (fixC p) v0 r (xb:Int) k
  have bg:=gainU_bound hok h6 hfit
  have bw:=worldsI_le hok
  have w1:=IntWalk.i64_in (expK d (fixC p) v0 r (xb:Int) k+gainU d vals) (by omega)
  have hgk:(gGns d)[k]?=some (gainU d vals):=by rw[hvals];exact gGns_get hk
  have hgn:=ne_of_get hgk
  have hkl:(k:Int)<(gGns d).length:=by rw[gGns_len];omega
  have hrt:(r:Int)<tab.length:=by omega
  have hxr:(xb:Int)<nCard d v0:=by omega
  have hrxn:=ne_of_get hrx
  have hvne:=ne_of_get hbv
  have hvi:(v0:Int)<vals.length:=by omega
  have hvn:(v0:Int)<d.nodes.length:=by omega
  have hset:setAt (ints row) xb [.lit (.int .i64 (expK d (fixC p) v0 r (xb:Int) k+gainU d vals))]=ints (row.set xb (expK d (fixC p) v0 r (xb:Int) k+gainU d vals)):=setAt_ints (by omega)
  simp only[go_sem,h14,hb]
  refine W.env fun E hE=>?_
  have e0:E 0=lin k:=by rw[hE];simp only[go_sem]
  have e1:E 1=.own N 0 0 d.nodes.length 1:=by rw[hE];simp only[go_sem]
  have e2:E 2=.ptr db 0 0:=by rw[hE];simp only[go_sem]
  have e3:E 3=.ptr eb 0 0:=by rw[hE];simp only[go_sem]
  have e5:E 5=.ptr rb 0 0:=by rw[hE];simp only[go_sem]
  have e6:E 6=.ptr sb 0 0:=by rw[hE];simp only[go_sem]
  clear hE
  refine vc_sound _ _ _ (by rfl) ?_
  simp only[go_sem]
  refine W.draw 21 [0,0,2,0,0,30,63,127,0,0,768,1792,4095,8191,0,16384,49152,114688,0,507904,1032192] Try.mixed (by kernel_rfl) (by kernel_rfl) ?_
  simp only[go_sem,e1,e2,e3,e5,ld,le,lr]
  refine⟨.lit (.int .i64 r),[N],hpc,?_⟩
  rw[hrv]at lr
  simp only[go_sem,e0,e1,e2,e3,e5,e6,le,ls,lso,lN,hrv,lt,hrt,hhk,lid,hbv,hvn,hrx,hxr,hgk,hgn,hkl,w1,hset]
  have hy:=tabK_yes (r:=r) (x:=xb) hyes (by rw[<- hvals,hr]) (by rw[<- hvals];exact getD_of_get hbv) hrn2 hxn
  rw[<- hvals,<- htab,<- hrow]at hy
  refine⟨by omega,FinV.mk (by rw[upd_next];exact Nat.le_refl _) (hK _ rfl (fun i hi=>by rw[upd_get,if_neg];rintro rfl;exact hi (List.mem_of_getElem? hid)) ?_)⟩
  rw[hy,List.map_set]
  exact hM.store (by decide) hid hmr (by rw[ints_length,ints_length,List.length_set])
end Go.Proofs
namespace Go.Hx
variable {P:Program}
theorem OwnM.keepN {lo n0:Nat}{H H':AHeap}{e1 e0:TypeId}{v:AVal}{ids:List Nat}{rows:List (List AVal)}(h:OwnM lo H e1 e0 v ids rows)(hb:∀ i∈ids,i<n0)(ht:∀ i g n,v=.own i g 0 n 1->i<n0)(hn:H.next<=H'.next)(hk:∀ id,id<n0->H'.get id=H.get id):OwnM lo H' e1 e0 v ids rows :=
 ⟨h.len,h.nd,fun i hi=>⟨(h.rng i hi).1,by have:=(h.rng i hi).2;omega⟩,h.top.keep (Nat.le_refl _) hn fun id g _ _ _ hv=>hk id (ht id g _ hv),fun k id r h1 h2=>by
  rw[hk id (hb id (List.mem_of_getElem? h1))]
  exact h.row k id r h1 h2⟩
theorem OwnM.topLt {lo:Nat}{H:AHeap}{e1 e0:TypeId}{v:AVal}{ids:List Nat}{rows:List (List AVal)}(h:OwnM lo H e1 e0 v ids rows):∀ i g n,v=.own i g 0 n 1->i<H.next:=fun i g n hv=>by
 rcases h.top with ⟨h1,_⟩|⟨j,g2,_,h2,h3,_⟩
 ·rw[h1]at hv;cases hv
 ·rw[h3]at hv;rw[<- (AVal.own.inj hv).1];exact h2
end Go.Hx
namespace Go.Proofs
open Go.Hx
set_option maxHeartbeats 2000000 in
theorem eachP_spec (d:InfP)(hok:InfOk d)(hf:InfFit d)(h6:d.nodes.length<=6)(p:List (List Int))(hp:PolOk d p)(v0:Nat)(hv0:v0∈decL d)(db eb pb rb sb so lo:Nat)(rv:AVal)(ids:List Nat)
  (H:AHeap) (hE:ExH d p v0 db eb pb rb sb so rv H) (hlt:db<H.next/\eb<H.next/\pb<H.next/\rb<H.next/\sb<H.next/\so<H.next) (hni:db ∉ ids/\eb ∉ ids/\pb ∉ ids/\rb ∉ ids/\sb ∉ ids/\so ∉ ids)
  (hM:OwnM lo H 52 3 rv ids ((tabK d (fixC p) v0 0).map ints))
  (K:ARes->AHeap->Prop) (hK:∀ H',H.next<=H'.next->(∀ id,id<H.next->id ∉ ids->H'.get id=H.get id)->OwnM lo H' 52 3 rv ids ((tabK d (fixC p) v0 (worlds d.nodes)).map ints)->K (.ret (.tup [])) H'):
  ACall Try.prog G0 78 [.ptr so 0 0,.clo 79 [] [.ptr db 0 0,.ptr eb 0 0,.ptr pb 0 0,.ptr rb 0 0,.ptr sb 0 0]] H K:=by
 have n8:=hok.n.n1
 have hcards:∀ c∈cardsL d.nodes,1<=c/\c<=4:=fun c hc=>by
  obtain⟨x,hx,rfl⟩:=List.mem_map.1 hc
  exact hok.n.card x hx
 have sm:SmallC (cardsL d.nodes):=smallC_of (by rw[cards_len];omega) hcards
 obtain⟨hdl,hel,hpl,hrl,hsl,hsol⟩:=hlt
 obtain⟨hdi,hei,hpi,hri,hsi,hsoi⟩:=hni
 have hidl:∀ i∈ids,i<H.next:=fun i hi=>(hM.rng i hi).2
 have htl:=hM.topLt
 have lso:=get_live hE.hso
 unfold solC at lso
 have lsoe:∀ L,(ext H L).live so 0=_:=fun L=>(ext_live_old hsol).trans lso
 refine ACall.of_body (n:=19) (rs:=[]) Try.func78 rfl rfl rfl (by decide) (by kernel_rfl) (by simp) ?_
 simp only[go_sem,lsoe]
 refine AApply.clo (cardsW_spec d.nodes (by omega) _ _ ⟨trivial,?_⟩)
 simp only[go_sem]
 refine AApply.clo (comb_clo (cardsL d.nodes) _ _ ⟨trivial,?_⟩)
 simp only[go_sem]
 obtain⟨H2,hH2⟩:∃ H2,H2=ext (ext H [.arr 0 139 (AVal.clo 79 [] [.ptr db 0 0,.ptr eb 0 0,.ptr pb 0 0,.ptr rb 0 0,.ptr sb 0 0]).cells]) [.arr 0 52 [vecI (cardsL d.nodes)]]:=⟨_,rfl⟩
 have n2:H2.next=H.next+2:=by rw[hH2];rfl
 have o2:Over H H2:=by rw[hH2];exact(Over.ext _ _).trans (.ext _ _)
 have g0:H2.get H.next=some (.arr 0 139 [.clo 79 [] [.ptr db 0 0,.ptr eb 0 0,.ptr pb 0 0,.ptr rb 0 0,.ptr sb 0 0]]):=by rw[hH2,ext_ext];exact get_ext H _ 0 (by simp)
 have g1:H2.get (H.next+1)=some (.arr 0 52 [vecI (cardsL d.nodes)]):=by rw[hH2,ext_ext];exact get_ext H _ 1 (by simp)
 refine W.env fun E hE'=>?_
 have e3:E 3=.ptr H.next 0 0:=by rw[hE'];simp only[go_sem]
 have e12:E 12=.clo 82 [] [.ptr (H.next+1) 0 0]:=by rw[hE'];rfl
 clear hE'
 show W _ _ _ _ _ _ ⟨E,ext (ext H [.arr 0 139 (AVal.clo 79 [] [.ptr db 0 0,.ptr eb 0 0,.ptr pb 0 0,.ptr rb 0 0,.ptr sb 0 0]).cells]) [.arr 0 52 [vecI (cardsL d.nodes)]]⟩
 rw[<- hH2]
 have hit:=comb_it (cardsL d.nodes) (fun c hc=>(hcards c hc).1) sm (H.next+1) (H2.next+1) (by omega)
 have hni2:∀ i,H.next<=i->i ∉ ids:=fun i hi hm=>by have:=hidl i hm;omega
 refine W.rangeItG (f:=82) (first:=[]) (cap:=[.ptr (H.next+1) 0 0]) (by show E 12=_;exact e12) hit
  (fun k Hx=>H2.next<Hx.next/\(∀ id,id<H2.next->id ∉ ids->Hx.get id=H2.get id)/\OwnM lo Hx 52 3 rv ids ((tabK d (fixC p) v0 k).map ints))
  (fun _ _=>False)
  (fun k Hx h=>(h.2.1 _ (by omega) (hni2 _ (by omega))).trans g1)
  (fun k H1 H3 h hw=>⟨by have:=hw.1;omega,fun id h1 h2=>(hw.2 _ (by omega) (by have:=h.1;omega)).trans (h.2.1 id h1 h2),h.2.2.keepN hidl htl hw.1 fun id hi=>hw.2 id (by omega) (by have:=h.1;omega)⟩)
  (fun k Hx h=>h.1)
  (fun k H1 b h=>⟨h.1,fun id h1 h2=>by rw[upd_get,if_neg (by omega)];exact h.2.1 id h1 h2,h.2.2.keepN hidl htl (by rw[upd_next];exact Nat.le_refl _) fun id hi=>by rw[upd_get,if_neg (by omega)]⟩)
  (fun _ _ _ h=>h) (fun k H1 b h=>by unfold CombS at h ⊢;rw[upd_get,if_neg (by omega)];exact h)
  (fun b=>⟨by rw[ext_next];simp,fun id h1 h2=>ext1_get_old h1,hM.keepN hidl htl (by rw[ext_next];omega) fun id hi=>by rw[ext1_get_old (by omega),o2.old _ hi]⟩) (by decide)
  (fun x hx=>by
   obtain⟨k,hk⟩:=List.mem_iff_getElem?.1 hx
   obtain⟨_,rfl⟩:=combX_get hk
   rfl) (fun _ _ _=>trivial) (fun _ _ _=>trivial) (fun k y Hx B Bb hy hj hcs hn hB hBb=>?_) (fun Hx hj hn=>?_) (fun _ hs _=>hs.elim) (fun _ _ hs _=>hs.elim)
 ·obtain⟨hk,rfl⟩:=combX_get hy
  refine vc_sound _ _ _ (by rfl) ?_
  simp only[go_sem,setPs,envN,asgIt,List.foldl_cons,List.foldl_nil,List.zip_cons_cons,List.zip_nil_right,hB]
  obtain⟨H3,hH3⟩:∃ H3,H3=Hx.upd H2.next Bb:=⟨_,rfl⟩
  rw[<- hH3]
  obtain⟨st,pd,n',en,ps',as',bo,hBe⟩:=hBb
  have n3:H3.next=Hx.next:=by rw[hH3];rfl
  have o3:∀ id,id≠H2.next->H3.get id=Hx.get id:=fun id h=>by rw[hH3,upd_get,if_neg h]
  have jB:H3.get H2.next=some Bb:=by rw[hH3,upd_get,if_pos rfl]
  have k0:=get_live ((o3 _ (by omega)).trans ((hj.2.1 H.next (by omega) (hni2 _ (by omega))).trans g0))
  have kN:H3.get (H2.next+1)=some (.arr 0 3 (ints (valsL (cardsL d.nodes) k))):=(o3 _ (by omega)).trans hcs
  have kold:∀ id,id<H.next->id ∉ ids->H3.get id=H.get id:=fun id h1 h2=>by rw[o3 _ (by omega),hj.2.1 _ (by omega) h2,o2.old _ h1]
  have hE3:ExH d p v0 db eb pb rb sb so rv H3:=hE.keep fun id hi=>by
   rcases hi with rfl|rfl|rfl|rfl|rfl|rfl
   ·exact kold _ hdl hdi
   ·exact kold _ hel hei
   ·exact kold _ hpl hpi
   ·exact kold _ hrl hri
   ·exact kold _ hsl hsi
   ·exact kold _ hsol hsoi
  have hM3:OwnM lo H3 52 3 rv ids ((tabK d (fixC p) v0 k).map ints):=hj.2.2.keepN hidl htl (by omega) fun id hi=>o3 id (by omega)
  refine W.env fun E1 hE1=>?_
  have m3:E1 3=.ptr H.next 0 0:=by rw[hE1];simp only[go_sem,envN,e3]
  have m4:E1 4=lin k:=by rw[hE1];simp only[go_sem,envN]
  have m5:E1 5=.own (H2.next+1) 0 0 d.nodes.length 1:=by rw[hE1];simp only[go_sem,envN,cards_len]
  clear hE1
  refine vc_sound _ _ _ (by rfl) ?_
  simp only[go_sem,m3,m4,m5,k0]
  refine AApply.clo (pass1_spec d hok hf h6 p hp v0 hv0 k hk db eb pb rb sb so (H2.next+1) d.nodes.length lo rv ids H3 hE3 hM3 kN (by omega) rfl _ fun H4 h4n h4o h4M=>⟨⟨_,_,_,_,_,_,_,by rw[h4o _ (hni2 _ (by omega)),jB,hBe]⟩,?_⟩)
  simp only[go_sem,bodyIt]
  refine⟨by rw[h4o _ (hni2 _ (by omega))];exact jB,by omega,⟨by omega,fun id h1 h2=>by rw[h4o _ h2,o3 _ (by omega)];exact hj.2.1 id h1 h2,h4M⟩,?_⟩
  unfold CombS
  rw[h4o _ (hni2 _ (by omega))]
  exact kN
 ·simp only[go_sem]
  have hl:(combX (cardsL d.nodes) (H2.next+1)).length=worlds d.nodes:=combX_len ..
  rw[hl]at hj
  exact FinV.mk (by omega) (hK Hx (by omega) (fun id h1 h2=>(hj.2.1 id (by omega) h2).trans (o2.old _ h1)) hj.2.2)
end Go.Proofs
namespace Go.Proofs
open Go.Hx
def tabE (d:InfP)(c:Nat->Nat->Int)(v:Nat):List (List Int):=(List.range (nRows d v)).map fun r=>expR d c v r (nCard d v)
theorem tabE_eq (d:InfP)(c:Nat->Nat->Int)(v:Nat):tabK d c v (worlds d.nodes)=tabE d c v:=rfl
set_option maxHeartbeats 4000000 in
theorem expect_spec (d:InfP)(hok:InfOk d)(hf:InfFit d)(h6:d.nodes.length<=6)(p:List (List Int))(hp:PolOk d p)(hpf:PolFit p)(v0:Nat)(hv0:v0∈decL d)
  (H:AHeap) (K:ARes->AHeap->Prop) (hK:K (.ret (.tup [vecV (tabE d (fixC p) v0),lin 0])) H):ACall Try.prog G0 56 [infV d,vecV p,lin v0] H K:=by
 refine ACall.clo ⟨_,Try.func56,rfl,rfl⟩ fun hcl=>?_
 have n8:=hok.n.n1
 have hD:=hf.decs
 obtain⟨v01,v02⟩:=mem_decK.1 hv0
 obtain⟨x,hx⟩:=get_of_lt v01
 have hxc:=hok.n.card x (List.mem_of_getElem? hx)
 obtain⟨nr,nc⟩:=nRC hx (by omega)
 obtain⟨hrn,hxp,hin,ps⟩:=rowsN_at hok hx
 have hrc:=rcN_rng hok v01 v02
 have hnr:1<=nRows d v0/\nRows d v0<=1024:=by unfold nRows;omega
 refine ACall.of_body (n:=74) (rs:=[.tmp 6,.tmp 7]) Try.func56 rfl rfl rfl (by decide) (by kernel_rfl) (by simp) ?_
 simp only[go_sem,infV_eq,infC]
 refine AApply.clo (checkPolicy_spec d hf p hpf _ _ ⟨trivial,?_⟩)
 rw[polErr_ok hok hp]
 have c1:¬ (v0:Int)<0:=by omega
 have c2:¬ (v0:Int) >= d.nodes.length:=by omega
 have s1:=fun t x y=>shrB (P:=Try.prog) (t:=t) (x:=x) (y:=y) (k':=.i64) (s:=v0) hD
 have s2:=fun t x y=>bit1 (P:=Try.prog) (t:=t) (x:=x) (y:=y) (s:=v0) hD
 simp only[go_sem,c1,c2,s1,s2,v02]
 obtain⟨R,hR⟩:∃ R,R=ext H [.arr 0 34 [.lit (.int .i64 d.grain),.vec d.nodes.length (nodesC d.nodes),.lit (.int .u64 (d.decs:Int)),.vec d.utils.length (utilsC d.utils)],.arr 0 36 [vecV p],.arr 0 3 [.lit (.int .i64 v0)],
  .arr 0 137 [.lit (.int .i64 d.grain),.vec d.nodes.length (nodesC d.nodes),.lit (.int .u64 (d.decs:Int)),.vec d.utils.length (utilsC d.utils),.lit (.slice none 0 0),.lit (.slice none 0 0),.lit (.slice none 0 0),.lit (.int .i64 0)],.arr 0 134 [.ptr (H.next+3) 0 0]]:=⟨_,rfl⟩
 have nR:R.next=H.next+5:=by rw[hR];rfl
 have oR:Over H R:=by rw[hR];exact .ext _ _
 have g0:R.get H.next=some (infB d):=by rw[hR];exact get_ext H _ 0 (by simp)
 have g1:R.get (H.next+1)=some (.arr 0 36 [vecV p]):=by rw[hR];exact get_ext H _ 1 (by simp)
 have g2:R.get (H.next+2)=some (.arr 0 3 [.lit (.int .i64 v0)]):=by rw[hR];exact get_ext H _ 2 (by simp)
 have g3:R.get (H.next+3)=some (.arr 0 137 [.lit (.int .i64 d.grain),.vec d.nodes.length (nodesC d.nodes),.lit (.int .u64 (d.decs:Int)),.vec d.utils.length (utilsC d.utils),.lit (.slice none 0 0),.lit (.slice none 0 0),.lit (.slice none 0 0),.lit (.int .i64 0)]):=by rw[hR];exact get_ext H _ 3 (by simp)
 have g4:R.get (H.next+4)=some (.arr 0 134 [.ptr (H.next+3) 0 0]):=by rw[hR];exact get_ext H _ 4 (by simp)
 rw[<- hR]
 refine W.env fun E hE=>?_
 have e3:E 3=.ptr H.next 0 0:=by rw[hE];simp only[go_sem]
 have e4:E 4=.ptr (H.next+1) 0 0:=by rw[hE];simp only[go_sem]
 have e5:E 5=.ptr (H.next+2) 0 0:=by rw[hE];simp only[go_sem]
 have e9:E 9=.ptr (H.next+4) 0 0:=by rw[hE];simp only[go_sem]
 clear hE
 have l0:=get_live g0
 have l1:=get_live g1
 have l2:=get_live g2
 have l3:=get_live g3
 have l4:=get_live g4
 unfold infC at l0
 refine W.draw 10 [0,0,0,4,12,28,28,61,189,445] Try.mixed (by kernel_rfl) (by kernel_rfl) ?_
 simp only[go_sem,e3,e9,l0,l4]
 refine⟨.tup [vecI (gWts d),vecI (gGns d)],[],PCall.pure fun H2=>gains_spec d hok hD H2 _ ⟨rfl,rfl⟩,?_⟩
 simp only[go_sem,e3,e9,l3]
 refine⟨fun x h=>by omega,?_⟩
 obtain⟨R2,hR2⟩:∃ R2,R2=(R.upd (H.next+3) (.arr 0 137 [.lit (.int .i64 d.grain),.vec d.nodes.length (nodesC d.nodes),.lit (.int .u64 (d.decs:Int)),.vec d.utils.length (utilsC d.utils),.lit (.slice none 0 0),.vec (gWts d).length (ints (gWts d)),.lit (.slice none 0 0),.lit (.int .i64 0)])).upd (H.next+3)
  (.arr 0 137 [.lit (.int .i64 d.grain),.vec d.nodes.length (nodesC d.nodes),.lit (.int .u64 (d.decs:Int)),.vec d.utils.length (utilsC d.utils),.lit (.slice none 0 0),.vec (gWts d).length (ints (gWts d)),.vec (gGns d).length (ints (gGns d)),.lit (.int .i64 0)]):=⟨_,rfl⟩
 rw[<- hR2]
 have nR2:R2.next=H.next+5:=by rw[hR2];exact nR
 have oR2:Over H R2:=by rw[hR2];exact(oR.upd (by omega) _).upd (by omega) _
 have k2:∀ id,id≠H.next+3->R2.get id=R.get id:=fun id h=>by rw[hR2,upd_get,if_neg h,upd_get,if_neg h]
 have k3:R2.get (H.next+3)=some (.arr 0 137 (solC d)):=by rw[hR2,upd_get,if_pos rfl];rfl
 have m0:=get_live ((k2 _ (by omega)).trans g0)
 have m2:=get_live ((k2 _ (by omega)).trans g2)
 unfold infC at m0
 simp only[go_sem,e5,m0,m2]
 refine AApply.clo (rowsW_spec d.nodes v0 x hx hin ps _ _ ⟨trivial,?_⟩)
 rw[<- hrn]
 simp only[go_sem]
 obtain⟨n,hn⟩:∃ n,n=rowsN d.nodes x:=⟨_,rfl⟩
 obtain⟨cN,hcN⟩:∃ c,c=nCard d v0:=⟨_,rfl⟩
 rw[<- hn]at nr ⊢
 rw[nr]at hnr
 rw[<- hcN]at nc
 refine⟨by omega,?_⟩
 obtain⟨R3,hR3⟩:∃ R3,R3=ext R2 [.arr 0 52 (List.replicate n (.lit (.slice none 0 0))),.arr 0 36 [.own R2.next 0 0 n 1]]:=⟨_,rfl⟩
 have nR3:R3.next=H.next+7:=by rw[hR3,ext_next,nR2];rfl
 have oR3:Over R2 R3:=by rw[hR3];exact .ext _ _
 have k5:R3.get R2.next=some (.arr 0 52 (List.replicate n (.lit (.slice none 0 0)))):=by rw[hR3];exact get_ext R2 _ 0 (by simp)
 have k6:R3.get (R2.next+1)=some (.arr 0 36 [.own R2.next 0 0 n 1]):=by rw[hR3];exact get_ext R2 _ 1 (by simp)
 rw[<- hR3]
 refine W.env fun E1 hE1=>?_
 have f3:E1 3=.ptr H.next 0 0:=by rw[hE1];simp only[go_sem,e3]
 have f4:E1 4=.ptr (H.next+1) 0 0:=by rw[hE1];simp only[go_sem,e4]
 have f5:E1 5=.ptr (H.next+2) 0 0:=by rw[hE1];simp only[go_sem,e5]
 have f9:E1 9=.ptr (H.next+4) 0 0:=by rw[hE1];simp only[go_sem,e9]
 have f10:E1 10=.ptr (R2.next+1) 0 0:=by rw[hE1];simp only[go_sem]
 have f55:E1 55=lin n:=by rw[hE1];simp only[go_sem]
 have f56:E1 56=lin 0:=by rw[hE1];simp only[go_sem]
 clear hE1
 let cs:Nat->List AVal:=fun k=>(List.range k).map (fun j=>AVal.own (H.next+7+j) 0 0 cN 1)++List.replicate (n - k) (.lit (.slice none 0 0))
 have csl:∀ k,k<=n->(cs k).length=n:=fun k hk=>by show (_++_:List AVal).length=n;simp;omega
 have cs_set:∀ k,k<n->setAt (cs k) k [.own (H.next+7+k) 0 0 cN 1]=cs (k+1):=fun k hk=>by
  show setAt (_++List.replicate (n - k) _) k _=_++_
  rw[show n - k=(n - (k+1))+1 by omega,List.replicate_succ,setAt_mid (by simp),List.range_succ,List.map_append,List.append_assoc]
  rfl
 have cs0:cs 0=List.replicate n (.lit (.slice none 0 0)):=by show _++_=_;simp
 refine W.loop0 1180519563123373377536 (by rfl) (fun ρ H'=>∃ k:Nat,ρ 56=lin k/\k<=n/\H'.next=H.next+7+k/\(∀ id,id<H.next+7->id≠R2.next->H'.get id=R3.get id)/\H'.get R2.next=some (.arr 0 52 (cs k))/\∀ j,j<k->H'.get (H.next+7+j)=some (.arr 0 3 (ints (List.replicate cN 0)))) (fun ρ H=>n - (iv (ρ 56)).toNat) ?_ ?_
 ·simp only[go_sem,f56]
  exact⟨0,rfl,by omega,by omega,by rw[cs0];exact k5,fun j hj=>absurd hj (Nat.not_lt_zero _)⟩
 rintro ρ H' ⟨k,h56,hk,hnx,hold,htop,hrows⟩
 refine W.env fun E2 hE2=>?_
 have p3:E2 3=.ptr H.next 0 0:=by rw[hE2];simp only[go_sem,f3]
 have p4:E2 4=.ptr (H.next+1) 0 0:=by rw[hE2];simp only[go_sem,f4]
 have p5:E2 5=.ptr (H.next+2) 0 0:=by rw[hE2];simp only[go_sem,f5]
 have p9:E2 9=.ptr (H.next+4) 0 0:=by rw[hE2];simp only[go_sem,f9]
 have p10:E2 10=.ptr (R2.next+1) 0 0:=by rw[hE2];simp only[go_sem,f10]
 have p55:E2 55=lin n:=by rw[hE2];simp only[go_sem,f55]
 have p56:E2 56=lin k:=by rw[hE2];simp only[go_sem,h56]
 clear hE2
 have q0:=(hold H.next (by omega) (by omega)).trans ((oR3.old _ (by omega)).trans ((k2 _ (by omega)).trans g0))
 have q1:=(hold (H.next+1) (by omega) (by omega)).trans ((oR3.old _ (by omega)).trans ((k2 _ (by omega)).trans g1))
 have q2:=(hold (H.next+2) (by omega) (by omega)).trans ((oR3.old _ (by omega)).trans ((k2 _ (by omega)).trans g2))
 have q3:=(hold (H.next+3) (by omega) (by omega)).trans ((oR3.old _ (by omega)).trans k3)
 have q4:=(hold (H.next+4) (by omega) (by omega)).trans ((oR3.old _ (by omega)).trans ((k2 _ (by omega)).trans g4))
 have q6:=(hold (R2.next+1) (by omega) (by omega)).trans k6
 refine vc_sound _ _ _ (by rfl) ?_
 by_cases hb:(k:Int)<n
 ·have ec:=nodesC_0 hx
  rw[<- nc]at ec
  have hne:=nodesC_ne hx
  have hvn:(v0:Int)<d.nodes.length:=by omega
  have w1:=IntWalk.i64_in ((k:Int)+1) (by omega)
  have i0:=get_live q0
  have i2:=get_live q2
  have i6:=get_live q6
  have it:=get_live htop
  unfold infC at i0
  have hcb:(cN:Int)*8<=2 ^ 46/\(cN:Int)<=2 ^ 46:=by omega
  have hrep:List.replicate cN (AVal.lit (.int .i64 0))=ints (List.replicate cN 0):=by simp [ints,lin]
  have hset:=cs_set k (by omega)
  rw[<- hnx]at hset
  have hcl:=csl k (by omega)
  have i0e:∀ L,(ext H' L).live H.next 0=_:=fun L=>(ext_live_old (by omega)).trans i0
  have ite:∀ L,(ext H' L).live R2.next 0=_:=fun L=>(ext_live_old (by omega)).trans it
  simp only[go_sem,p55,p56,hb]
  refine W.draw 9 [0,0,0,4,0,28,60,124,252] Try.mixed (by kernel_rfl) (by kernel_rfl) ?_
  simp only[go_sem,p3,p5,p10,p56,hb,i0,i2,i6,ite,ec,hne,hvn,hcb,hrep,hset,w1]
  refine⟨fun x h=>by omega,by omega,by rw[upd_next,ext_next];omega,⟨k+1,by simp,by omega,by rw[upd_next,ext_next,hnx];rfl,fun id h1 h2=>by rw[upd_get,if_neg h2,ext1_get_old (by omega)];exact hold id h1 h2,by rw[upd_get,if_pos rfl],fun j hj=>?_⟩,by rw[h56];simp only[lin,iv_int];omega⟩
  rw[upd_get,if_neg (by omega)]
  by_cases hjk:j=k
  ·subst hjk
   rw[<- hnx];exact ext1_get_new
  ·rw[ext1_get_old (by omega)]
   exact hrows j (by omega)
 ·have hkn:k=n:=by omega
  subst hkn
  have i4:=get_live q4
  simp only[go_sem,p3,p4,p5,p9,p10,p55,p56,hb,i4]
  have csn:cs k=(List.range k).map (fun j=>AVal.own (H.next+7+j) 0 0 cN 1):=by show _++_=_;simp
  obtain⟨ids,hids⟩:∃ ids,ids=(List.range k).map (fun j=>H.next+7+j):=⟨_,rfl⟩
  have hidm:∀ i∈ids,H.next+7<=i/\i<H'.next:=fun i hi=>by
   rw[hids]at hi
   obtain⟨j,hj,rfl⟩:=List.mem_map.1 hi
   have:=List.mem_range.1 hj
   omega
  have hzip:List.zipWith (fun i n=>AVal.own i 0 0 n 1) ids (((tabK d (fixC p) v0 0).map ints).map List.length)=cs k:=by
   rw[csn,hids,tabK_zero,nr,<- hcN]
   apply List.ext_getElem?
   intro j
   rw[List.getElem?_zipWith,List.getElem?_map,List.getElem?_map,List.getElem?_map,List.getElem?_map,List.getElem?_replicate]
   by_cases hj:j<k
   ·rw[List.getElem?_range hj,if_pos hj]
    simp [ints_length]
   ·rw[List.getElem?_eq_none (by rw[List.length_range];omega)]
    rfl
  have hM:OwnM H.next H' 52 3 (.own R2.next 0 0 k 1) ids ((tabK d (fixC p) v0 0).map ints):=by
   refine⟨by rw[hids,List.length_map,List.length_map,List.length_range,tabK_len,nr],by rw[hids];exact(List.pairwise_map (f:=fun j=>H.next+7+j)).2 (List.Pairwise.imp (fun {a b} h e=>h (by omega)) List.nodup_range),fun i hi=>by have:=hidm i hi;omega,.inr ⟨R2.next,0,by omega,by omega,by rw[hzip,csl k (Nat.le_refl _)],by rw[hzip];exact htop⟩,fun j id r h1 h2=>?_⟩
   rw[hids,List.getElem?_map]at h1
   rw[tabK_zero,nr,<- hcN,List.getElem?_map,List.getElem?_replicate]at h2
   by_cases hj:j<k
   ·rw[List.getElem?_range hj]at h1
    rw[if_pos hj]at h2
    cases h1
    cases h2
    exact hrows j hj
   ·rw[if_neg hj]at h2;cases h2
  have hnotin:∀ i,i<H.next+7->i ∉ ids:=fun i hi hm=>by have:=hidm i hm;omega
  have hE:ExH d p v0 H.next (H.next+2) (H.next+1) (R2.next+1) (H.next+4) (H.next+3) (.own R2.next 0 0 k 1) H':=⟨q0,q2,q1,q6,q4,q3⟩
  refine AApply.clo (eachP_spec d hok hf h6 p hp v0 hv0 H.next (H.next+2) (H.next+1) (R2.next+1) (H.next+4) (H.next+3) H.next (.own R2.next 0 0 k 1) ids H' hE ⟨by omega,by omega,by omega,by omega,by omega,by omega⟩ ⟨hnotin _ (by omega),hnotin _ (by omega),hnotin _ (by omega),hnotin _ (by omega),hnotin _ (by omega),hnotin _ (by omega)⟩ hM _ fun H4 h4n h4o h4M=>⟨trivial,?_⟩)
  have j6:=get_live ((h4o (R2.next+1) (by omega) (hnotin _ (by omega))).trans q6)
  simp only[go_sem,p10,j6]
  rw[tabE_eq]at h4M
  refine FinV.dropO G0_ok hcl ⟨by omega,fun id hi=>?_⟩ ?_ hK
  ·rw[h4o id (by omega) (hnotin _ (by omega)),hold id (by omega) (by omega),oR3.old _ (by omega),oR2.old _ hi]
  ·have:=h4M.fz (S:=fun id=>H.next<=id) (nx:=H.next) (fun i hi=>hi) fun r hr c hc=>by
    obtain⟨l,_,rfl⟩:=List.mem_map.1 hr
    obtain⟨z,_,rfl⟩:=List.mem_map.1 hc
    exact .lit _
   rw[List.map_map,List.length_map]at this
   refine .tup rfl fun i hi _=>match i,hi with
    | 0,_=>?_
    | 1,_=>.lit _
   have e:(List.map ((fun r=>AVal.vec r.length r) ∘ ints) (tabE d (fixC p) v0))=(tabE d (fixC p) v0).map vecI:=List.map_congr_left fun l _=>by show AVal.vec (ints l).length (ints l)=_;rw[ints_length];rfl
   rw[e]at this
   exact this
end Go.Proofs
namespace Go.Proofs
open Go.Hx
theorem bestL_get {d:InfP}{c:Nat->Nat->Int}{v r:Nat}(h:r<nRows d v):(bestL d c v)[r]?=some (((expR d c v r (nCard d v)).idxOf (caseM d c v r):Nat):Int):=by
 unfold bestL;rw[List.getElem?_map,List.getElem?_range h];rfl
theorem tabE_get {d:InfP}{c:Nat->Nat->Int}{v r:Nat}(h:r<nRows d v):(tabE d c v)[r]?=some (expR d c v r (nCard d v)):=by
 unfold tabE;rw[List.getElem?_map,List.getElem?_range h];rfl
theorem tabE_len (d:InfP)(c:Nat->Nat->Int)(v:Nat):(tabE d c v).length=nRows d v:=by simp [tabE]
set_option maxHeartbeats 4000000 in
theorem bestList_fin (d:InfP)(hok:InfOk d)(hf:InfFit d)(h6:d.nodes.length<=6)(p:List (List Int))(hp:PolOk d p)(hpf:PolFit p)(v0:Nat)(hv0:v0∈decL d)
  (H:AHeap) (K:ARes->AHeap->Prop) (hK:∀ v H',Over H H'->OwnG H.next H' 3 v (ints (bestL d (fixC p) v0))->FinV Try.prog G0 H K (.tup [v,.lit (.bool (decide (isBest d p v0))),lin 0]) H'):ACall Try.prog G0 30 [infV d,vecV p,lin (placeD d.decs v0),lin v0] H K:=by
 obtain⟨v01,v02⟩:=mem_decK.1 hv0
 obtain⟨x,hx⟩:=get_of_lt v01
 have hxc:=hok.n.card x (List.mem_of_getElem? hx)
 obtain⟨nr,nc⟩:=nRC hx (by omega)
 have hrc:=rcN_rng hok v01 v02
 have hnr:1<=nRows d v0/\nRows d v0<=1024:=by unfold nRows;omega
 have hcN:1<=nCard d v0/\nCard d v0<=4:=by omega
 have hplt:=place_lt hp hv0
 obtain⟨l,hl⟩:=get_of_lt hplt
 obtain⟨ll,lr⟩:=hp.row _ v0 x l (dec_place hx v02) hx hl
 have gl:(p.map vecI)[placeD d.decs v0]?=some (vecI l):=by rw[List.getElem?_map,hl];rfl
 have gne:=ne_of_get hl
 have hpi:(placeD d.decs v0:Int)<p.length:=by omega
 refine ACall.of_body (n:=59) (rs:=[.tmp 8,.tmp 9,.tmp 10]) Try.func30 rfl rfl rfl (by decide) (by kernel_rfl) (by simp) ?_
 simp only[go_sem,infV_eq,infC]
 refine AApply.clo (expect_spec d hok hf h6 p hp hpf v0 hv0 _ _ ⟨trivial,?_⟩)
 simp only[go_sem,vecV]
 obtain⟨R,hR⟩:∃ R,R=ext H [.arr 0 34 [.lit (.int .i64 d.grain),.vec d.nodes.length (nodesC d.nodes),.lit (.int .u64 (d.decs:Int)),.vec d.utils.length (utilsC d.utils)]]:=⟨_,rfl⟩
 have nR:R.next=H.next+1:=by rw[hR];rfl
 have oR:Over H R:=by rw[hR];exact .ext _ _
 rw[<- hR]
 have htl:=tabE_len d (fixC p) v0
 refine W.env fun E hE=>?_
 have e1:E 1=vecV p:=by rw[hE];simp only[go_sem,vecV]
 have e2:E 2=lin (placeD d.decs v0):=by rw[hE];simp only[go_sem]
 have e8:E 8=.lit (.slice none 0 0):=by rw[hE];simp only[go_sem]
 have e9:E 9=.lit (.bool true):=by rw[hE];simp only[go_sem]
 have e26:E 26=vecV (tabE d (fixC p) v0):=by rw[hE];simp only[go_sem,vecV]
 have e27:E 27=lin (nRows d v0):=by rw[hE];simp only[go_sem,htl]
 have e28:E 28=lin 0:=by rw[hE];simp only[go_sem]
 clear hE
 refine W.loop0 144115187807478528 (by rfl) (fun ρ H'=>∃ (k:Nat) (b:Bool),ρ 28=lin k/\k<=nRows d v0/\Over R H'/\OwnG R.next H' 3 (ρ 8) (ints ((bestL d (fixC p) v0).take k))/\ρ 9=.lit (.bool b)/\(b=true↔∀ r,r<k->expE d (fixC p) v0 r (fixC p (placeD d.decs v0) r)=caseM d (fixC p) v0 r)) (fun ρ H=>nRows d v0 - (iv (ρ 28)).toNat) ?_ ?_
 ·simp only[go_sem,e8,e9,e28]
  exact⟨0,true,rfl,by omega,.refl _,.nil,rfl,by simp⟩
 rintro ρ H' ⟨k,b,h28,hk,ov,h8,h9,hb9⟩
 obtain⟨v8,hv8⟩:∃ v8,v8=ρ 8:=⟨_,rfl⟩
 rw[<- hv8]at h8
 refine W.env fun E2 hE2=>?_
 have p1:E2 1=vecV p:=by rw[hE2];simp only[go_sem,e1]
 have p2:E2 2=lin (placeD d.decs v0):=by rw[hE2];simp only[go_sem,e2]
 have p8:E2 8=v8:=by rw[hE2];simp only[go_sem,hv8]
 have p9:E2 9=.lit (.bool b):=by rw[hE2];simp only[go_sem,h9]
 have p26:E2 26=vecV (tabE d (fixC p) v0):=by rw[hE2];simp only[go_sem,e26]
 have p27:E2 27=lin (nRows d v0):=by rw[hE2];simp only[go_sem,e27]
 have p28:E2 28=lin k:=by rw[hE2];simp only[go_sem,h28]
 clear hE2
 refine vc_sound _ _ _ (by rfl) ?_
 have ovn:=ov.next
 by_cases hb:(k:Int)<nRows d v0
 ·have hkn:k<nRows d v0:=by omega
  obtain⟨row,hrow⟩:∃ row,row=expR d (fixC p) v0 k (nCard d v0):=⟨_,rfl⟩
  have hrl:row.length=nCard d v0:=by rw[hrow];exact expR_len ..
  have htg:(tabE d (fixC p) v0)[k]?=some row:=by rw[hrow];exact tabE_get hkn
  have htg2:((tabE d (fixC p) v0).map vecI)[k]?=some (vecI row):=by rw[List.getElem?_map,htg];rfl
  have htne:=ne_of_get htg
  have htk:(k:Int)<(tabE d (fixC p) v0).length:=by omega
  have hr0:row≠[]:=fun h=>by rw[h]at hrl;simp at hrl;omega
  obtain⟨m,hm⟩:∃ m,m=caseM d (fixC p) v0 k:=⟨_,rfl⟩
  have hmr:maxL row=m:=by rw[hm,hrow];rfl
  have hmm:m∈row:=by rw[<- hmr];exact maxL_mem hr0
  have hbg:(bestL d (fixC p) v0)[k]?=some ((row.idxOf m:Nat):Int):=by rw[hrow,hm];exact bestL_get hkn
  obtain⟨a,ha⟩:=get_of_lt (l:=l) (i:=k) (by omega)
  have har:=lr a (List.mem_of_getElem? ha)
  obtain⟨ax,rfl⟩:=Int.eq_ofNat_of_zero_le har.1
  have hax:ax<nCard d v0:=by omega
  have hra:row[ax]?=some (expE d (fixC p) v0 k (ax:Int)):=by rw[hrow];exact expR_get hax
  have hca:fixC p (placeD d.decs v0) k=(ax:Int):=by unfold fixC;rw[getD_of_get hl,getD_of_get ha]
  have hlne:=ne_of_get ha
  have hkl:(k:Int)<l.length:=by omega
  have hrane:=ne_of_get hra
  have haxl:(ax:Int)<row.length:=by omega
  have w1:=IntWalk.i64_in ((k:Int)+1) (by omega)
  simp only[go_sem,p26,p27,p28,hb,vecV,htg2,htne,htk]
  refine AApply.clo (max_spec row hr0 (by omega) _ _ ⟨trivial,?_⟩)
  rw[hmr]
  simp only[go_sem]
  refine AApply.clo (index_spec row m hmm (by omega) _ _ ⟨trivial,?_⟩)
  obtain⟨pv,H2,hA,ov2,hO,hn2,_⟩:=app_int ((row.idxOf m:Nat):Int) ov h8 (by rw[List.length_take,bestL_len];omega)
  have hnext:∀ b':Bool,(b'=true↔b=true/\expE d (fixC p) v0 k (ax:Int)=m)->(b'=true↔∀ r,r<k+1->expE d (fixC p) v0 r (fixC p (placeD d.decs v0) r)=caseM d (fixC p) v0 r):=fun b' h=>by
   rw[h,hb9]
   constructor
   ·rintro⟨h1,h2⟩ r hr
    by_cases hrk:r=k
    ·subst hrk;rw[hca,h2,hm]
    ·exact h1 r (by omega)
   ·intro h1
    exact⟨fun r hr=>h1 r (by omega),by rw[hm,<- hca];exact h1 k (by omega)⟩
  have hstep:ints ((bestL d (fixC p) v0).take (k+1))=ints ((bestL d (fixC p) v0).take k++[((row.idxOf m:Nat):Int)]):=by rw[take_succ_get hbg]
  have ov2n:=ov2.next
  cases b with
  | false =>
   simp only[go_sem,p8,p9,p28,hA,w1]
   refine⟨by omega,⟨k+1,false,by simp,by omega,ov2,by rw[hstep];exact hO,rfl,hnext false (by simp)⟩,by rw[h28];simp only[lin,iv_int];omega⟩
  | true =>
   by_cases hq:expE d (fixC p) v0 k (ax:Int)=m
   ·simp only[go_sem,p1,p2,p8,p9,p28,hA,w1,vecV,gl,gne,hpi,ha,hlne,hkl,hra,hrane,haxl,hq]
    refine⟨by omega,⟨k+1,true,by simp,by omega,ov2,by rw[hstep];exact hO,rfl,hnext true (by simp [hq])⟩,by rw[h28];simp only[lin,iv_int];omega⟩
   ·simp only[go_sem,p1,p2,p8,p9,p28,hA,w1,vecV,gl,gne,hpi,ha,hlne,hkl,hra,hrane,haxl,hq]
    refine⟨by omega,⟨k+1,false,by simp,by omega,ov2,by rw[hstep];exact hO,rfl,hnext false (by simp [hq])⟩,by rw[h28];simp only[lin,iv_int];omega⟩
 ·simp only[go_sem,p8,p9,p27,p28,hb]
  have hkn:k=nRows d v0:=by omega
  rw[List.take_of_length_le (by rw[bestL_len];omega)]at h8
  have hbb:b=decide (isBest d p v0):=by
   rw[Bool.eq_iff_iff,hb9,decide_eq_true_eq,hkn]
   rfl
  rw[hbb]
  exact hK _ _ (oR.trans ov) (h8.keep (by omega) (Nat.le_refl _) fun _ _ _ _ _ _=>rfl)
theorem bestList_spec (d:InfP)(hok:InfOk d)(hf:InfFit d)(h6:d.nodes.length<=6)(p:List (List Int))(hp:PolOk d p)(hpf:PolFit p)(v0:Nat)(hv0:v0∈decL d)
  (H:AHeap) (K:ARes->AHeap->Prop) (hK:K (.ret (.tup [vecI (bestL d (fixC p) v0),.lit (.bool (decide (isBest d p v0))),lin 0])) H):ACall Try.prog G0 30 [infV d,vecV p,lin (placeD d.decs v0),lin v0] H K:=by
 refine ACall.clo ⟨_,Try.func30,rfl,rfl⟩ fun hcl=>bestList_fin d hok hf h6 p hp hpf v0 hv0 H K fun v H' ov ho=>FinV.dropO G0_ok hcl ov ?_ hK
 exact .tup rfl fun i hi _=>match i,hi with
  | 0,_=>ho.fzI fun i hi=>hi
  | 1,_=>.lit _
  | 2,_=>.lit _
theorem fz_infV {S:Nat->Prop}{H:AHeap}{nx:Nat}(d:InfP):Fz S H nx (infV d) (infV d):=by
 refine .agg rfl fun i hi _=>?_
 match i,hi with
 | 0,_=>exact .lit _
 | 1,_=>exact fz_nodes _
 | 2,_=>exact .lit _
 | 3,_=>exact .vec rfl fun j h h'=>fz_utilsC d.utils _ (List.getElem_mem h)
theorem bestList_frame (d:InfP)(hok:InfOk d)(hf:InfFit d)(h6:d.nodes.length<=6)(p:List (List Int))(hp:PolOk d p)(hpf:PolFit p)(v0:Nat)(hv0:v0∈decL d)(H:AHeap)(lo:Nat)(qv:AVal)(hq:OwnG lo H 52 qv (p.map vecI))
  (K:ARes->AHeap->Prop) (hK:K (.ret (.tup [vecI (bestL d (fixC p) v0),.lit (.bool (decide (isBest d p v0))),lin 0])) H):ACall Try.prog G0 30 [infV d,qv,lin (placeD d.decs v0),lin v0] H K:=by
 refine(ACall.frame (H:=H) (args:=[infV d,qv,lin (placeD d.decs v0),lin v0]) (args':=[infV d,vecV p,lin (placeD d.decs v0),lin v0]) (v':=.tup [vecI (bestL d (fixC p) v0),.lit (.bool (decide (isBest d p v0))),lin 0]) G0_ok rfl (fun i hi _=>?_) (bestList_fin d hok hf h6 p hp hpf v0 hv0 noH _ fun v H' ov ho=>FinV.mk ov.next ⟨_,rfl,?_⟩)).mono ?_
 ·match i,hi with
  | 0,_=>exact fz_infV d
  | 1,_ =>
   have:=hq.fz (S:=fun _=>True) (nx:=0) (cs':=p.map vecI) (fun _ _=>trivial) rfl fun i hi _=>by simp only[List.getElem_map];exact .keepInts _
   rw[List.length_map]at this
   exact this
  | 2,_=>exact .lit _
  | 3,_=>exact .lit _
 ·refine .tup rfl fun i hi _=>?_
  match i,hi with
  | 0,_=>exact OwnG.freshI ho
  | 1,_=>exact .lit _
  | 2,_=>exact .lit _
 ·rintro r H' ⟨rfl,rfl⟩
  exact hK
end Go.Proofs
namespace Go.Proofs
open Go.Hx
noncomputable def locB (d:InfP)(p:List (List Int)):Bool:=if polErr d p=0 then decide (isLocal d p) else false
theorem polErr_iff {d:InfP}{p:List (List Int)}(h:polErr d p=0):InfOk d/\PolOk d p:=by
 unfold polErr at h
 by_cases h1:InfOk d
 ·rw[decB_true h1]at h
  by_cases h2:PolOk d p
  ·exact⟨h1,h2⟩
  ·rw[decB_false h2]at h;cases h
 ·rw[decB_false h1]at h;cases h
set_option maxHeartbeats 4000000 in
theorem local_spec (d:InfP)(hf:InfFit d)(h6:d.nodes.length<=6)(p:List (List Int))(hpf:PolFit p)(H:AHeap)(K:ARes->AHeap->Prop)(hK:K (.ret (.tup [.lit (.bool (locB d p)),lin (polErr d p)])) H):
  ACall Try.prog G0 9 [infV d,vecV p] H K:=by
 refine ACall.clo ⟨_,Try.func9,rfl,rfl⟩ fun hcl=>?_
 refine ACall.of_body (n:=38) (rs:=[.cell 4 4,.cell 5 38]) Try.func9 rfl rfl rfl (by decide) (by kernel_rfl) (by simp) ?_
 simp only[go_sem,infV_eq,infC]
 refine AApply.clo (checkPolicy_spec d hf p hpf _ _ ⟨trivial,?_⟩)
 by_cases he:polErr d p=0
 rotate_left
 ·simp only[go_sem,he]
  have hl:locB d p=false:=if_neg he
  rw[hl]at hK
  refine FinV.dropO G0_ok hcl (.ext _ _) ?_ hK
  exact .tup rfl fun i hi _=>match i,hi with
   | 0,_=>.lit _
   | 1,_=>.lit _
 obtain⟨hok,hp⟩:=polErr_iff he
 have hl:locB d p=decide (isLocal d p):=if_pos he
 rw[hl,he]at hK
 rw[he]
 simp only[go_sem]
 refine AApply.clo (lists_clo d _ _ ⟨trivial,?_⟩)
 simp only[go_sem]
 obtain⟨R,hR⟩:∃ R,R=ext (ext H [.arr 0 34 [.lit (.int .i64 d.grain),.vec d.nodes.length (nodesC d.nodes),.lit (.int .u64 (d.decs:Int)),.vec d.utils.length (utilsC d.utils)],.arr 0 36 [vecV p],.arr 0 4 [.lit (.bool false)],.arr 0 38 [.lit (.int .i64 0)]]) [infB d]:=⟨_,rfl⟩
 have nR:R.next=H.next+5:=by rw[hR];rfl
 have oR:Over H R:=by rw[hR];exact(Over.ext _ _).trans (.ext _ _)
 have g0:R.get H.next=some (infB d):=by rw[hR,ext_ext];exact get_ext H _ 0 (by simp)
 have g1:R.get (H.next+1)=some (.arr 0 36 [vecV p]):=by rw[hR,ext_ext];exact get_ext H _ 1 (by simp)
 have g2:R.get (H.next+2)=some (.arr 0 4 [.lit (.bool false)]):=by rw[hR,ext_ext];exact get_ext H _ 2 (by simp)
 have g3:R.get (H.next+3)=some (.arr 0 38 [.lit (.int .i64 0)]):=by rw[hR,ext_ext];exact get_ext H _ 3 (by simp)
 have g4:R.get (H.next+4)=some (infB d):=by rw[hR,ext_ext];exact get_ext H _ 4 (by simp)
 rw[<- hR]
 refine W.env fun E hE=>?_
 have e2:E 2=.ptr H.next 0 0:=by rw[hE];simp only[go_sem]
 have e3:E 3=.ptr (H.next+1) 0 0:=by rw[hE];simp only[go_sem]
 have e4:E 4=.ptr (H.next+2) 0 0:=by rw[hE];simp only[go_sem]
 have e5:E 5=.ptr (H.next+3) 0 0:=by rw[hE];simp only[go_sem]
 have e19:E 19=.clo 55 [] [.ptr (H.next+4) 0 0]:=by rw[hE];rfl
 clear hE
 refine W.rangeIt (f:=55) (first:=[]) (cap:=[.ptr (H.next+4) 0 0]) (by show E 19=_;exact e19) (lists_it d (by have:=hf.nodes.1;omega) hf.decs (H.next+4))
  (fun k Hx=>R.next<=Hx.next/\(∀ id,id<R.next->Hx.get id=R.get id)/\∀ j v,j<k->(decL d)[j]?=some v->isBest d p v)
  (fun c Hx=>c=.ret/\R.next<=Hx.next/\(∀ id,id<H.next->Hx.get id=R.get id)/\Hx.get (H.next+2)=some (.arr 0 4 [.lit (.bool false)])/\Hx.get (H.next+3)=some (.arr 0 38 [.lit (.int .i64 0)])/\¬ isLocal d p)
  (fun k Hx h=>by rw[h.2.1 _ (by omega)];exact g4)
  (fun k Hx b h=>⟨h.1,fun id h1=>by rw[upd_get,if_neg (by omega)];exact h.2.1 id h1,h.2.2⟩)
  (fun c Hx b h=>⟨h.1,h.2.1,fun id h1=>by rw[upd_get,if_neg (by omega)];exact h.2.2.1 id h1,by rw[upd_get,if_neg (by omega)];exact h.2.2.2.1,by rw[upd_get,if_neg (by omega)];exact h.2.2.2.2.1,h.2.2.2.2.2⟩)
  (fun b=>⟨by rw[ext_next];omega,fun id h1=>ext1_get_old h1,fun j v hj=>absurd hj (Nat.not_lt_zero _)⟩)
  (by decide) decX_two (fun _ _ _=>trivial) (fun _ _ _=>trivial) (fun k y Hx B Bb hy hj hn hB hBb=>?_) (fun Hx hj hn=>?_) (fun Hx hs hn=>?_) (fun i Hx hs hn=>by cases hs.1)
 ·obtain⟨v,hv,rfl⟩:=decX_get hy
  have hvm:v∈decL d:=List.mem_of_getElem? hv
  obtain⟨v1,v2,v3⟩:=decK_place hv
  refine vc_sound _ _ _ (by rfl) ?_
  simp only[go_sem,setPs,envN,asgIt,List.foldl_cons,List.foldl_nil,List.zip_cons_cons,List.zip_nil_right,hB]
  obtain⟨H3,hH3⟩:∃ H3,H3=Hx.upd R.next Bb:=⟨_,rfl⟩
  rw[<- hH3]
  obtain⟨st,pd,n',en,ps',as',bo,hBe⟩:=hBb
  have n3:H3.next=Hx.next:=by rw[hH3];rfl
  have o3:∀ id,id≠R.next->H3.get id=Hx.get id:=fun id h=>by rw[hH3,upd_get,if_neg h]
  have jB:H3.get R.next=some Bb:=by rw[hH3,upd_get,if_pos rfl]
  have kold:∀ id,id<R.next->H3.get id=R.get id:=fun id h=>(o3 _ (by omega)).trans (hj.2.1 _ h)
  have l0:=get_live ((kold _ (by omega)).trans g0)
  have l1:=get_live ((kold _ (by omega)).trans g1)
  have l2:=get_live ((kold _ (by omega)).trans g2)
  have l3:=get_live ((kold _ (by omega)).trans g3)
  unfold infC at l0
  refine W.env fun E1 hE1=>?_
  have m2:E1 2=.ptr H.next 0 0:=by rw[hE1];simp only[go_sem,envN,e2]
  have m3:E1 3=.ptr (H.next+1) 0 0:=by rw[hE1];simp only[go_sem,envN,e3]
  have m4:E1 4=.ptr (H.next+2) 0 0:=by rw[hE1];simp only[go_sem,envN,e4]
  have m5:E1 5=.ptr (H.next+3) 0 0:=by rw[hE1];simp only[go_sem,envN,e5]
  have m7:E1 7=lin (placeD d.decs v):=by rw[hE1,v3];simp only[go_sem,envN]
  have m8:E1 8=lin v:=by rw[hE1];simp only[go_sem,envN]
  clear hE1
  refine vc_sound _ _ _ (by rfl) ?_
  simp only[go_sem,m2,m3,m7,m8,l0,l1]
  refine AApply.clo (bestList_spec d hok hf h6 p hp hpf v hvm _ _ ⟨⟨st,pd,n',en,ps',as',bo,by rw[jB,hBe]⟩,?_⟩)
  have l3u:∀ b,(H3.upd (H.next+2) b).live (H.next+3) 0=_:=fun b=>(live_upd_other (by omega)).trans l3
  by_cases hbest:isBest d p v
  ·rw[decide_eq_true hbest]
   simp only[go_sem,bodyIt]
   exact⟨jB,by omega,by omega,fun id h=>kold id h,fun j w hj2 hw=>by
    by_cases hjk:j=k
    ·subst hjk;rw[hv]at hw;cases hw;exact hbest
    ·exact hj.2.2 j w (by omega) hw⟩
  ·rw[decide_eq_false hbest]
   simp only[go_sem,m4,m5,l2,l3u,bodyIt]
   refine⟨by simp only[upd_get];rw[if_neg (by omega),if_neg (by omega)];exact jB,by simp only[upd_next];omega,by simp only[upd_next];omega,fun id h=>by simp only[upd_get];rw[if_neg (by omega),if_neg (by omega)];exact kold id (by omega),by rw[upd_get,if_neg (by omega),upd_get,if_pos rfl],by rw[upd_get,if_pos rfl],fun hl=>hbest (hl v hvm)⟩
 ·rw[decX_len]at hj
  have hloc:isLocal d p:=fun v hv=>by
   obtain⟨j,hjv⟩:=List.mem_iff_getElem?.1 hv
   exact hj.2.2 j v (get_lt hjv) hjv
  have l2:=get_live ((hj.2.1 _ (by omega)).trans g2)
  have l3:=get_live ((hj.2.1 _ (by omega)).trans g3)
  have l3u:∀ b,(Hx.upd (H.next+2) b).live (H.next+3) 0=_:=fun b=>(live_upd_other (by omega)).trans l3
  have l2u:∀ c b',((Hx.upd (H.next+2) (.arr 0 4 [c])).upd (H.next+3) b').live (H.next+2) 0=some (4,[c]):=fun c b'=>(live_upd_other (by omega)).trans live_upd_same
  simp only[go_sem,e4,e5,l2,l3u,l2u]
  rw[decide_eq_true hloc]at hK
  have ovx:Over H Hx:=⟨by omega,fun id h=>(hj.2.1 _ (by omega)).trans (oR.old _ h)⟩
  refine FinV.dropO G0_ok hcl ((ovx.upd (by omega) _).upd (by omega) _) ?_ hK
  exact .tup rfl fun i hi _=>match i,hi with
   | 0,_=>.lit _
   | 1,_=>.lit _
 ·obtain⟨_,h1,h2,h3,h4,h5⟩:=hs
  have l2:=get_live h3
  have l3:=get_live h4
  simp only[go_sem,e4,e5,l2,l3]
  rw[decide_eq_false h5]at hK
  refine FinV.dropO G0_ok hcl ⟨by omega,fun id h=>(h2 _ h).trans (oR.old _ h)⟩ ?_ hK
  exact .tup rfl fun i hi _=>match i,hi with
   | 0,_=>.lit _
   | 1,_=>.lit _
end Go.Proofs
namespace Go.Hx
variable {P:Program}
theorem OwnG.storeG {lo:Nat}{H:AHeap}{e:TypeId}{v:AVal}{cs:List AVal}(h:OwnG lo H e v cs){k:Nat}(hk:k<cs.length):∃ id g,v=.own id g 0 cs.length 1/\lo<=id/\id<H.next/\H.get id=some (.arr g e cs)/\∀ x,OwnG lo (H.upd id (.arr g e (cs.set k x))) e v (cs.set k x):=by
 rcases h with ⟨_,rfl⟩|⟨id,g,h1,h2,rfl,h4⟩
 ·simp at hk
 ·exact⟨id,g,rfl,h1,h2,h4,fun x=>.inr ⟨id,g,h1,by rw[upd_next];exact h2,by rw[List.length_set],by rw[upd_get,if_pos rfl]⟩⟩
end Go.Hx
namespace Go.Proofs
open Go.Hx
theorem SS_bound {n:Nat}{f:Nat->Int}{B:Int}(h:∀ i,i<n->-B<=f i/\f i<=B):-(B*n)<=SS n f/\SS n f<=B*n:=by
 induction n with
 | zero=>simp [SS_zero]
 | succ n ih =>
  rw[SS_succ]
  have h1:=ih fun i hi=>h i (by omega)
  have h2:=h n (by omega)
  push_cast
  rw[Int.mul_add,Int.mul_one]
  omega
theorem sumG_bound {d:InfP}(hok:InfOk d)(h6:d.nodes.length<=6)(c:Nat->Nat->Int):-20000000000000000<=sumG d c/\sumG d c<=20000000000000000:=by
 have hw:=worldsI_le hok
 have:=SS_bound (n:=worlds d.nodes) (B:=18662400000000) (f:=fun w=>if agAll d c (wv d w)=true then gainU d (wv d w) else 0) fun i _=>by
  have:=gainU_bound hok h6 (wv_fits hok i)
  split<;>omega
 unfold sumG
 omega
structure Imp (d:InfP)(p q:List (List Int))(n:Nat):Prop where
 ok:PolOk d q
 same:n=0->q=p
 loc:isLocal d p->n=0
 sum:sumG d (fixC p)+n<=sumG d (fixC q)
theorem Imp.start {d:InfP}{p:List (List Int)}(h:PolOk d p):Imp d p p 0:=⟨h,fun _=>rfl,fun _=>rfl,by simp⟩
structure Rnd (d:InfP)(q:List (List Int))(k:Nat)(b:Bool)(r:List (List Int)):Prop where
 ok:PolOk d r
 no:b=false->r=q/\∀ j v,j<k->(decL d)[j]?=some v->isBest d q v
 yes:b=true->¬ isLocal d q/\sumG d (fixC q)<sumG d (fixC r)
theorem Rnd.start {d:InfP}{q:List (List Int)}(h:PolOk d q):Rnd d q 0 false q:=⟨h,fun _=>⟨rfl,fun j v hj=>absurd hj (Nat.not_lt_zero _)⟩,fun h=>Bool.noConfusion h⟩
theorem Rnd.best {d:InfP}{q r:List (List Int)}{k v:Nat}{b:Bool}(h:Rnd d q k b r)(hv:(decL d)[k]?=some v)(hb:isBest d r v):Rnd d q (k+1) b r :=
 ⟨h.ok,fun e=>⟨(h.no e).1,fun j w hj hw=>by
  by_cases hjk:j=k
  ·subst hjk;rw[hv]at hw;cases hw;rw[<- (h.no e).1];exact hb
  ·exact(h.no e).2 j w (by omega) hw⟩,h.yes⟩
theorem Rnd.step {d:InfP}(hok:InfOk d){q r:List (List Int)}{k v:Nat}{b:Bool}(h:Rnd d q k b r)(hv:(decL d)[k]?=some v)(hb:¬ isBest d r v):Rnd d q (k+1) true (r.set (placeD d.decs v) (bestL d (fixC r) v)):=by
 have hvm:v∈decL d:=List.mem_of_getElem? hv
 refine⟨bestL_ok hok h.ok hvm,fun e=>(Bool.noConfusion e),fun _=>?_⟩
 have hg:=best_gain hok h.ok hvm hb
 cases b with
 | false =>
  have e:=(h.no rfl).1
  subst e
  exact⟨fun hl=>hb (hl v hvm),hg⟩
 | true =>
  obtain⟨h1,h2⟩:=h.yes rfl
  exact⟨h1,by omega⟩
theorem Rnd.done {d:InfP}{q r:List (List Int)}(h:Rnd d q (decL d).length false r):r=q/\isLocal d q :=
 ⟨(h.no rfl).1,fun v hv=>by
  obtain⟨j,hj⟩:=List.mem_iff_getElem?.1 hv
  exact(h.no rfl).2 j v (get_lt hj) hj⟩
theorem Imp.round {d:InfP}{p q r:List (List Int)}{n k:Nat}(h:Imp d p q n)(hr:Rnd d q k true r):Imp d p r (n+1):=by
 obtain⟨h1,h2⟩:=hr.yes rfl
 refine⟨hr.ok,fun e=>by omega,fun hl=>?_,?_⟩
 ·have hn:=h.loc hl
  rw[h.same hn]at h1
  exact absurd hl h1
 ·have:=h.sum
  push_cast
  omega
theorem Imp.bound {d:InfP}(hok:InfOk d)(h6:d.nodes.length<=6){p q:List (List Int)}{n:Nat}(h:Imp d p q n):n<=40000000000000000:=by
 have h1:=sumG_bound hok h6 (fixC p)
 have h2:=sumG_bound hok h6 (fixC q)
 have:=h.sum
 omega
theorem valR_ok {d:InfP}{q:List (List Int)}(hok:InfOk d)(hq:PolOk d q):valR d q=ratioV (sumP d q) (d.grain ^ d.nodes.length):=by
 unfold valR;rw[if_pos (polErr_ok hok hq)]
theorem value_frame (d:InfP)(hok:InfOk d)(h6:d.nodes.length<=6)(q:List (List Int))(hq:PolOk d q)(H:AHeap)(lo:Nat)(qv:AVal)(ho:OwnG lo H 52 qv (q.map vecI))
  (K:ARes->AHeap->Prop) (hK:K (.ret (.tup [ratioV (sumP d q) (d.grain ^ d.nodes.length),lin 0])) H):ACall Try.prog G0 11 [infV d,qv] H K:=by
 refine(ACall.frame (H:=H) (args:=[infV d,qv]) (args':=[infV d,vecV q]) (v':=.tup [ratioV (sumP d q) (d.grain ^ d.nodes.length),lin 0]) G0_ok rfl (fun i hi _=>?_) (value_spec d (fit_ok hok) q (polFit_ok hok hq) (sumsOk6 h6 q) noH _ ⟨_,rfl,?_⟩)).mono ?_
 ·match i,hi with
  | 0,_=>exact fz_infV d
  | 1,_ =>
   have:=ho.fz (S:=fun _=>True) (nx:=0) (cs':=q.map vecI) (fun _ _=>trivial) rfl fun i hi _=>by simp only[List.getElem_map];exact .keepInts _
   rw[List.length_map]at this
   exact this
 ·rw[valR_ok hok hq,polErr_ok hok hq]
  refine .tup rfl fun i hi _=>?_
  match i,hi with
  | 0,_=>exact .agg rfl fun i hi _=>match i,hi with|0,_=>.lit _|1,_=>.lit _
  | 1,_=>exact .lit _
 ·rintro r H' ⟨rfl,rfl⟩
  exact hK
end Go.Proofs
namespace Go.Proofs
open Go.Hx
def cellN (b:Option Blk):Nat:=match b with
 | some (.arr _ _ [.lit (.int _ n)])=>n.toNat
 | _=>0
set_option maxHeartbeats 8000000 in
theorem improve_spec (d:InfP)(hok:InfOk d)(h6:d.nodes.length<=6)(p:List (List Int))(hp:PolOk d p)(H:AHeap)(K:ARes->AHeap->Prop)
  (hK:∀ q n,Imp d p q n->isLocal d q->K (.ret (.tup [vecV q,ratioV (sumP d q) (d.grain ^ d.nodes.length),lin n,lin 0])) H):
  ACall Try.prog G0 10 [infV d,vecV p] H K:=by
 refine ACall.clo ⟨_,Try.func10,rfl,rfl⟩ fun hcl=>?_
 have hf:=fit_ok hok
 have hpf:=polFit_ok hok hp
 have n8:=hok.n.n1
 have hpl:p.length<=8:=by rw[hp.len];have:=decK_len (D:=d.decs) (n:=d.nodes.length);unfold decL;omega
 refine ACall.of_body (n:=76) (rs:=[.cell 4 36,.cell 5 42,.cell 6 3,.cell 7 38]) Try.func10 rfl rfl rfl (by decide) (by kernel_rfl) (by simp) ?_
 simp only[go_sem,infV_eq,infC]
 refine AApply.clo (checkPolicy_spec d hf p hpf _ _ ⟨trivial,?_⟩)
 rw[polErr_ok hok hp]
 simp only[go_sem,vecV]
 obtain⟨R,hR⟩:∃ R,R=ext H [.arr 0 34 [.lit (.int .i64 d.grain),.vec d.nodes.length (nodesC d.nodes),.lit (.int .u64 (d.decs:Int)),.vec d.utils.length (utilsC d.utils)],.arr 0 36 [.lit (.slice none 0 0)],.arr 0 42 [.lit (.int .i64 0),.lit (.int .i64 0)],.arr 0 3 [.lit (.int .i64 0)],.arr 0 38 [.lit (.int .i64 0)]]:=⟨_,rfl⟩
 have nR:R.next=H.next+5:=by rw[hR];rfl
 have oR:Over H R:=by rw[hR];exact .ext _ _
 have g0:R.get H.next=some (infB d):=by rw[hR];exact get_ext H _ 0 (by simp)
 have g1:R.get (H.next+1)=some (.arr 0 36 [.lit (.slice none 0 0)]):=by rw[hR];exact get_ext H _ 1 (by simp)
 have g2:R.get (H.next+2)=some (.arr 0 42 [.lit (.int .i64 0),.lit (.int .i64 0)]):=by rw[hR];exact get_ext H _ 2 (by simp)
 have g3:R.get (H.next+3)=some (.arr 0 3 [.lit (.int .i64 0)]):=by rw[hR];exact get_ext H _ 3 (by simp)
 have g4:R.get (H.next+4)=some (.arr 0 38 [.lit (.int .i64 0)]):=by rw[hR];exact get_ext H _ 4 (by simp)
 rw[<- hR]
 refine W.env fun E hE=>?_
 have e2:E 2=.ptr H.next 0 0:=by rw[hE];simp only[go_sem]
 have e4:E 4=.ptr (H.next+1) 0 0:=by rw[hE];simp only[go_sem]
 have e5:E 5=.ptr (H.next+2) 0 0:=by rw[hE];simp only[go_sem]
 have e6:E 6=.ptr (H.next+3) 0 0:=by rw[hE];simp only[go_sem]
 have e7:E 7=.ptr (H.next+4) 0 0:=by rw[hE];simp only[go_sem]
 have e24:E 24=.vec p.length (p.map vecI):=by rw[hE];simp only[go_sem]
 have e25:E 25=lin p.length:=by rw[hE];simp only[go_sem]
 have e26:E 26=lin 0:=by rw[hE];simp only[go_sem]
 clear hE
 let S:AHeap->Prop:=fun Hx=>R.next<=Hx.next/\∀ id,id<R.next->id≠H.next+1->id≠H.next+3->Hx.get id=R.get id
 refine W.loop0 68652368896 (by rfl) (fun ρ Hx=>∃ k:Nat,ρ 26=lin k/\k<=p.length/\S Hx/\Hx.get (H.next+3)=some (.arr 0 3 [.lit (.int .i64 0)])/\∃ qv,Hx.get (H.next+1)=some (.arr 0 36 [qv])/\OwnG R.next Hx 52 qv ((p.take k).map vecI)) (fun ρ H=>p.length - (iv (ρ 26)).toNat) ?_ ?_
 ·simp only[go_sem,e26]
  exact⟨0,rfl,by omega,⟨Nat.le_refl _,fun _ _ _ _=>rfl⟩,g3,_,g1,.nil⟩
 rintro ρ Hx ⟨k,h26,hk,hS,hx3,qv,hx1,hq⟩
 refine W.env fun E2 hE2=>?_
 have p2:E2 2=.ptr H.next 0 0:=by rw[hE2];simp only[go_sem,e2]
 have p4:E2 4=.ptr (H.next+1) 0 0:=by rw[hE2];simp only[go_sem,e4]
 have p5:E2 5=.ptr (H.next+2) 0 0:=by rw[hE2];simp only[go_sem,e5]
 have p6:E2 6=.ptr (H.next+3) 0 0:=by rw[hE2];simp only[go_sem,e6]
 have p7:E2 7=.ptr (H.next+4) 0 0:=by rw[hE2];simp only[go_sem,e7]
 have p24:E2 24=.vec p.length (p.map vecI):=by rw[hE2];simp only[go_sem,e24]
 have p25:E2 25=lin p.length:=by rw[hE2];simp only[go_sem,e25]
 have p26:E2 26=lin k:=by rw[hE2];simp only[go_sem,h26]
 clear hE2
 have hSn:=hS.1
 refine vc_sound _ _ _ (by rfl) ?_
 by_cases hb:(k:Int)<p.length
 ·obtain⟨l,hl⟩:=get_of_lt (l:=p) (i:=k) (by omega)
  have hlg:(p.map vecI)[k]?=some (vecI l):=by rw[List.getElem?_map,hl];rfl
  have hne:=ne_of_get hl
  have hll:=(hpf.2 l (List.mem_of_getElem? hl))
  have w1:=IntWalk.i64_in ((k:Int)+1) (by omega)
  obtain⟨qv',H2,hA,hO,hn2,hp2⟩:=app_oneG (P:=Try.prog) (H:=Hx) (t:=36) (x:=vecI l) (n:=Hx.next+1) Try.underlying36 Try.cells52 Try.zero52 rfl (by rw[Try.bytes52,List.length_map,List.length_take];omega) hq hSn rfl
  have hqlo:∀ i,i<R.next->∀ g n,qv≠.own i g 0 n 1:=fun i hi g n he=>by
   rcases hq with ⟨h,_⟩|⟨j,g2,a1,_,h,_⟩
   ·rw[h]at he;cases he
   ·rw[h]at he;have:=(AVal.own.inj he).1;omega
  have l1:=get_live hx1
  have l1j:H2.live (H.next+1) 0=_:=get_live ((hp2 _ (by omega) (hqlo _ (by omega))).trans hx1)
  have hA':=hA
  unfold vecI at hA'
  have tc:=hO.cells
  have to:=hO.one
  have qc:=hq.cells
  simp only[go_sem,p24,p25,p26,hb,hlg,hne]
  refine W.draw 4 [0,0,2,6] Try.mixed (by kernel_rfl) (by kernel_rfl) ?_
  simp only[go_sem,p4,l1]
  refine⟨vecI l,[],PCall.pure fun H2=>clone_spec l (by omega) H2 _ ⟨rfl,rfl⟩,?_⟩
  simp only[go_sem,p4,p26,hA',l1j,tc,to,w1]
  refine⟨fun x h=>by omega,by rw[upd_next];omega,⟨k+1,by simp,by omega,⟨by rw[upd_next];omega,fun id h1 h2 h3=>by rw[upd_get,if_neg h2,hp2 id (by omega) (hqlo id h1)];exact hS.2 id h1 h2 h3⟩,by rw[upd_get,if_neg (by omega),hp2 _ (by omega) (hqlo _ (by omega))];exact hx3,qv',by rw[upd_get,if_pos rfl],?_⟩,by rw[h26];simp only[lin,iv_int];omega⟩
  rw[take_succ_get hl,List.map_append]
  exact hO.keep (Nat.le_refl _) (by rw[upd_next];exact Nat.le_refl _) fun id g h1 _ _ _=>by rw[upd_get,if_neg (by omega)]
 ·simp only[go_sem,p25,p26,hb]
  rw[List.take_of_length_le (by omega)]at hq
  refine W.env fun E3 hE3=>?_
  have r2:E3 2=.ptr H.next 0 0:=by rw[hE3];simp only[go_sem,p2]
  have r4:E3 4=.ptr (H.next+1) 0 0:=by rw[hE3];simp only[go_sem,p4]
  have r5:E3 5=.ptr (H.next+2) 0 0:=by rw[hE3];simp only[go_sem,p5]
  have r6:E3 6=.ptr (H.next+3) 0 0:=by rw[hE3];simp only[go_sem,p6]
  have r7:E3 7=.ptr (H.next+4) 0 0:=by rw[hE3];simp only[go_sem,p7]
  clear hE3
  refine W.loop0 8646911490709784576 (by rfl) (fun ρ Hy=>∃ (n:Nat) (q:List (List Int)) (qv:AVal),Hx.next<=Hy.next/\S Hy/\Hy.get (H.next+3)=some (.arr 0 3 [.lit (.int .i64 (n:Int))])/\Hy.get (H.next+1)=some (.arr 0 36 [qv])/\OwnG R.next Hy 52 qv (q.map vecI)/\Imp d p q n) (fun ρ Hy=>50000000000000000 - cellN (Hy.get (H.next+3))) ?_ ?_
  ·exact⟨0,p,qv,Nat.le_refl _,hS,hx3,hx1,hq,.start hp⟩
  rintro ρ Hy ⟨n,q,qv,hxy,hS,hy3,hy1,hq,hI⟩
  have hSn:=hS.1
  refine W.env fun E4 hE4=>?_
  have s2:E4 2=.ptr H.next 0 0:=by rw[hE4];simp only[go_sem,r2]
  have s4:E4 4=.ptr (H.next+1) 0 0:=by rw[hE4];simp only[go_sem,r4]
  have s5:E4 5=.ptr (H.next+2) 0 0:=by rw[hE4];simp only[go_sem,r5]
  have s6:E4 6=.ptr (H.next+3) 0 0:=by rw[hE4];simp only[go_sem,r6]
  have s7:E4 7=.ptr (H.next+4) 0 0:=by rw[hE4];simp only[go_sem,r7]
  clear hE4
  have l0:=get_live ((hS.2 H.next (by omega) (by omega) (by omega)).trans g0)
  unfold infC at l0
  have l0e:∀ L,(ext Hy L).live H.next 0=_:=fun L=>(ext_live_old (by omega)).trans l0
  refine vc_sound _ _ _ (by rfl) ?_
  simp only[go_sem,s2,l0e]
  refine AApply.clo (lists_clo d _ _ ⟨trivial,?_⟩)
  simp only[go_sem]
  obtain⟨R',hR'⟩:∃ R',R'=ext (ext Hy [.arr 0 4 [.lit (.bool false)]]) [infB d]:=⟨_,rfl⟩
  have nR':R'.next=Hy.next+2:=by rw[hR'];rfl
  have oR':Over Hy R':=by rw[hR'];exact(Over.ext _ _).trans (.ext _ _)
  have gr:R'.get Hy.next=some (.arr 0 4 [.lit (.bool false)]):=by rw[hR',ext_ext];exact get_ext Hy _ 0 (by simp)
  have gx:R'.get (Hy.next+1)=some (infB d):=by rw[hR',ext_ext];exact get_ext Hy _ 1 (by simp)
  rw[<- hR']
  have hqlt:∀ i g m,qv=.own i g 0 m 1->R.next<=i/\i<Hy.next:=fun i g m he=>by
   rcases hq with ⟨h,_⟩|⟨j,g2,a1,a2,h,_⟩
   ·rw[h]at he;cases he
   ·rw[h]at he;have:=(AVal.own.inj he).1;omega
  have hqR:∀ i,i<R.next->∀ g m,qv≠.own i g 0 m 1:=fun i hi g m he=>by have:=hqlt i g m he;omega
  have hqN:∀ i,Hy.next<=i->∀ g m,qv≠.own i g 0 m 1:=fun i hi g m he=>by have:=hqlt i g m he;omega
  refine W.env fun E5 hE5=>?_
  have u2:E5 2=.ptr H.next 0 0:=by rw[hE5];simp only[go_sem,s2]
  have u4:E5 4=.ptr (H.next+1) 0 0:=by rw[hE5];simp only[go_sem,s4]
  have u5:E5 5=.ptr (H.next+2) 0 0:=by rw[hE5];simp only[go_sem,s5]
  have u6:E5 6=.ptr (H.next+3) 0 0:=by rw[hE5];simp only[go_sem,s6]
  have u7:E5 7=.ptr (H.next+4) 0 0:=by rw[hE5];simp only[go_sem,s7]
  have u11:E5 11=.ptr Hy.next 0 0:=by rw[hE5];simp only[go_sem]
  have u37:E5 37=.clo 55 [] [.ptr (Hy.next+1) 0 0]:=by rw[hE5];rfl
  clear hE5
  refine W.rangeIt (f:=55) (first:=[]) (cap:=[.ptr (Hy.next+1) 0 0]) (by show E5 37=_;exact u37) (lists_it d (by omega) hf.decs (Hy.next+1))
   (fun k Hz=>R'.next<=Hz.next/\(∀ id,id<R'.next->id≠Hy.next->(∀ g m,qv≠.own id g 0 m 1)->Hz.get id=R'.get id)/\∃ b r,Hz.get Hy.next=some (.arr 0 4 [.lit (.bool b)])/\OwnG R.next Hz 52 qv (r.map vecI)/\Rnd d q k b r)
   (fun c Hz=>False)
   (fun k Hz h=>by rw[h.2.1 _ (by omega) (by omega) (hqN _ (by omega))];exact gx)
   (fun k Hz b h=>⟨h.1,fun id h1 h2 h3=>by rw[upd_get,if_neg (by omega)];exact h.2.1 id h1 h2 h3,by
    obtain⟨b',r,a1,a2,a3⟩:=h.2.2
    exact⟨b',r,by rw[upd_get,if_neg (by omega)];exact a1,a2.keep (Nat.le_refl _) (by rw[upd_next];exact Nat.le_refl _) fun id g _ _ _ he=>by have:=hqlt _ _ _ he;rw[upd_get,if_neg (by omega)],a3⟩⟩)
   (fun c Hz b h=>h)
   (fun b=>⟨by rw[ext_next];omega,fun id h1 h2 h3=>ext1_get_old h1,false,q,by rw[ext1_get_old (by omega)];exact gr,(hq.over oR').over (.ext _ _),.start hI.ok⟩)
   (by decide) decX_two (fun _ _ _=>trivial) (fun _ _ _=>trivial) (fun k y Hz B Bb hy hj hn hB hBb=>?_) (fun Hz hj hn=>?_) (fun Hz hs hn=>hs.elim) (fun i Hz hs hn=>hs.elim)
  ·obtain⟨v,hv,rfl⟩:=decX_get hy
   have hvm:v∈decL d:=List.mem_of_getElem? hv
   obtain⟨v1,v2,v3⟩:=decK_place hv
   obtain⟨hzn,hzo,b,r,hzr,hzq,hRn⟩:=hj
   refine vc_sound _ _ _ (by rfl) ?_
   simp only[go_sem,setPs,envN,asgIt,List.foldl_cons,List.foldl_nil,List.zip_cons_cons,List.zip_nil_right,hB]
   obtain⟨H3,hH3⟩:∃ H3,H3=Hz.upd R'.next Bb:=⟨_,rfl⟩
   rw[<- hH3]
   obtain⟨st,pd,n',en,ps',as',bo,hBe⟩:=hBb
   have n3:H3.next=Hz.next:=by rw[hH3];rfl
   have o3:∀ id,id≠R'.next->H3.get id=Hz.get id:=fun id h=>by rw[hH3,upd_get,if_neg h]
   have jB:H3.get R'.next=some Bb:=by rw[hH3,upd_get,if_pos rfl]
   have kold:∀ id,id<R.next->id≠H.next+3->H3.get id=Hy.get id:=fun id h h2=>by rw[o3 _ (by omega),hzo _ (by omega) (by omega) (hqR _ h),oR'.old _ (by omega)]
   have j0:=get_live ((kold H.next (by omega) (by omega)).trans ((hS.2 H.next (by omega) (by omega) (by omega)).trans g0))
   have j1:=get_live ((kold (H.next+1) (by omega) (by omega)).trans hy1)
   have jr:=get_live ((o3 _ (by omega)).trans hzr)
   unfold infC at j0
   have hq3:OwnG R.next H3 52 qv (r.map vecI):=hzq.keep (Nat.le_refl _) (by omega) fun id g _ _ _ he=>by have:=hqlt _ _ _ he;exact o3 id (by omega)
   have hpr:=place_lt hRn.ok hvm
   obtain⟨id,g,hqv,i1,i2,i3,i4⟩:=hq3.storeG (k:=k) (by rw[List.length_map,<- v3];exact hpr)
   have hidy:=hqlt _ _ _ hqv
   rw[List.length_map]at hqv
   refine W.env fun E6 hE6=>?_
   have m2:E6 2=.ptr H.next 0 0:=by rw[hE6];simp only[go_sem,envN,u2]
   have m4:E6 4=.ptr (H.next+1) 0 0:=by rw[hE6];simp only[go_sem,envN,u4]
   have m11:E6 11=.ptr Hy.next 0 0:=by rw[hE6];simp only[go_sem,envN,u11]
   have m12:E6 12=lin k:=by rw[hE6];simp only[go_sem,envN]
   have m13:E6 13=lin v:=by rw[hE6];simp only[go_sem,envN]
   clear hE6
   refine vc_sound _ _ _ (by rfl) ?_
   simp only[go_sem,m2,m4,m12,m13,j0,j1]
   have hbf:=bestList_frame d hok hf h6 r hRn.ok (polFit_ok hok hRn.ok) v hvm H3 R.next qv hq3
   rw[v3]at hbf
   refine AApply.clo (hbf _ ⟨⟨st,pd,n',en,ps',as',bo,by rw[jB,hBe]⟩,?_⟩)
   by_cases hbest:isBest d r v
   ·rw[decide_eq_true hbest]
    simp only[go_sem,bodyIt]
    exact⟨jB,by omega,by omega,fun id h1 h2 h3=>(o3 _ (by omega)).trans (hzo id h1 h2 h3),b,r,(o3 _ (by omega)).trans hzr,hq3,hRn.best hv hbest⟩
   ·rw[decide_eq_false hbest]
    have jid:=get_live i3
    have hkr:(k:Int)<r.length:=by omega
    rw[hqv]at j1
    have hset:setAt (r.map vecI) k [.vec (bestL d (fixC r) v).length (ints (bestL d (fixC r) v))]=(r.set k (bestL d (fixC r) v)).map vecI:=by
     rw[setAt_one (by rw[List.length_map];omega),List.map_set]
     rfl
    have jru:∀ b,(H3.upd id b).live Hy.next 0=_:=fun b=>(live_upd_other (by omega)).trans jr
    simp only[go_sem,m4,m11,m12,j1,jid,hkr]
    have jb:=i4 (vecI (bestL d (fixC r) v))
    have hset2:(r.map vecI).set k (vecI (bestL d (fixC r) v))=(r.set k (bestL d (fixC r) v)).map vecI:=by rw[List.map_set]
    rw[hset2]at jb
    refine⟨by rw[List.length_map];omega,?_⟩
    simp only[go_sem,hset,jru,bodyIt]
    refine⟨by rw[upd_get,if_neg (by omega),upd_get,if_neg (by omega)];exact jB,by simp only[upd_next];omega,by simp only[upd_next];omega,fun id' h1 h2 h3=>by rw[upd_get,if_neg h2,upd_get,if_neg (fun e=>h3 g r.length (by rw[hqv,e])),o3 _ (by omega)];exact hzo id' h1 h2 h3,true,_,by rw[upd_get,if_pos rfl],jb.keep (Nat.le_refl _) (by simp only[upd_next];exact Nat.le_refl _) fun id' g' _ _ _ he=>by have:=hqlt _ _ _ he;rw[upd_get,if_neg (by omega)],?_⟩
    have:=hRn.step hok hv hbest
    rw[v3]at this
    exact this
  ·rw[decX_len]at hj
   obtain⟨hzn,hzo,b,r,hzr,hzq,hRn⟩:=hj
   have lr:=get_live hzr
   cases b with
   | true =>
    simp only[go_sem,u11,lr]
    have z3:=get_live ((hzo (H.next+3) (by omega) (by omega) (hqR _ (by omega))).trans ((oR'.old _ (by omega)).trans hy3))
    have hnb:=(hI.round hRn).bound hok h6
    have w1:=IntWalk.i64_in ((n:Int)+1) (by omega)
    simp only[go_sem,u6,z3,w1]
    refine⟨by rw[upd_next];omega,⟨n+1,r,qv,by rw[upd_next];omega,⟨by rw[upd_next];omega,fun id h1 h2 h3=>by rw[upd_get,if_neg h3,hzo id (by omega) (by omega) (hqR _ h1),oR'.old _ (by omega)];exact hS.2 id h1 h2 h3⟩,by rw[upd_get,if_pos rfl];rfl,by rw[upd_get,if_neg (by omega),hzo _ (by omega) (by omega) (hqR _ (by omega)),oR'.old _ (by omega)];exact hy1,hzq.keep (Nat.le_refl _) (by rw[upd_next];exact Nat.le_refl _) fun id g _ _ _ he=>by have:=hqlt _ _ _ he;rw[upd_get,if_neg (by omega)],hI.round hRn⟩,?_⟩
    rw[upd_get,if_pos rfl,hy3]
    show 50000000000000000 - ((n:Int)+1).toNat<50000000000000000 - ((n:Int)).toNat
    omega
   | false =>
    simp only[go_sem,u11,lr]
    obtain⟨rfl,hloc⟩:=hRn.done
    have zold:∀ id,id<R.next->Hz.get id=Hy.get id:=fun id h=>by rw[hzo id (by omega) (by omega) (hqR _ h),oR'.old _ (by omega)]
    have z0:=get_live ((zold H.next (by omega)).trans ((hS.2 H.next (by omega) (by omega) (by omega)).trans g0))
    have z1:=get_live ((zold (H.next+1) (by omega)).trans hy1)
    have z2:=get_live ((zold (H.next+2) (by omega)).trans ((hS.2 _ (by omega) (by omega) (by omega)).trans g2))
    have z3:=get_live ((zold (H.next+3) (by omega)).trans hy3)
    have z4:=get_live ((zold (H.next+4) (by omega)).trans ((hS.2 _ (by omega) (by omega) (by omega)).trans g4))
    unfold infC at z0
    simp only[go_sem,u2,u4,z0,z1]
    refine AApply.clo (value_frame d hok h6 r hRn.ok Hz R.next qv hzq _ ⟨trivial,?_⟩)
    obtain⟨qa,qb,hqa⟩:∃ qa qb,ratioV (sumP d r) (d.grain ^ d.nodes.length)=.agg [.lit (.int .i64 qa),.lit (.int .i64 qb)]:=⟨_,_,rfl⟩
    rw[hqa]
    have hKK:=hK r n hI hloc
    rw[hqa]at hKK
    have z4u:∀ b,(Hz.upd (H.next+2) b).live (H.next+4) 0=_:=fun b=>(live_upd_other (by omega)).trans z4
    simp only[go_sem,u5,u7,z2,z4u]
    obtain⟨Z,hZ⟩:∃ Z,Z=(Hz.upd (H.next+2) (.arr 0 42 [.lit (.int .i64 qa),.lit (.int .i64 qb)])).upd (H.next+4) (.arr 0 38 [.lit (.int .i64 0)]):=⟨_,rfl⟩
    have nZ:Z.next=Hz.next:=by rw[hZ];rfl
    have y1:=get_live (show Z.get (H.next+1)=some (.arr 0 36 [qv]) by rw[hZ,upd_get,if_neg (by omega),upd_get,if_neg (by omega),zold _ (by omega)];exact hy1)
    have y2:=get_live (show Z.get (H.next+2)=some (.arr 0 42 [.lit (.int .i64 qa),.lit (.int .i64 qb)]) by rw[hZ,upd_get,if_neg (by omega),upd_get,if_pos rfl])
    have y3:=get_live (show Z.get (H.next+3)=some (.arr 0 3 [.lit (.int .i64 n)]) by rw[hZ,upd_get,if_neg (by omega),upd_get,if_neg (by omega),zold _ (by omega)];exact hy3)
    have y4:=get_live (show Z.get (H.next+4)=some (.arr 0 38 [.lit (.int .i64 0)]) by rw[hZ,upd_get,if_pos rfl])
    have qZ:OwnG R.next Z 52 qv (r.map vecI):=hzq.keep (Nat.le_refl _) (by omega) fun id g _ _ _ he=>by have:=hqlt _ _ _ he;rw[hZ,upd_get,if_neg (by omega),upd_get,if_neg (by omega)]
    have oZ:Over H Z:=⟨by omega,fun id h=>by rw[hZ,upd_get,if_neg (by omega),upd_get,if_neg (by omega),zold _ (by omega),hS.2 _ (by omega) (by omega) (by omega),oR.old _ h]⟩
    rw[<- hZ]
    have qc:=qZ.cells
    have qo:=qZ.one
    refine W.env fun E7 hE7=>?_
    have w4:E7 4=.ptr (H.next+1) 0 0:=by rw[hE7];simp only[go_sem,u4]
    have w5:E7 5=.ptr (H.next+2) 0 0:=by rw[hE7];simp only[go_sem,u5]
    have w6:E7 6=.ptr (H.next+3) 0 0:=by rw[hE7];simp only[go_sem,u6]
    have w7:E7 7=.ptr (H.next+4) 0 0:=by rw[hE7];simp only[go_sem,u7]
    clear hE7
    refine W.draw 5 [0,0,0,1,11] Try.mixed (by kernel_rfl) (by kernel_rfl) ?_
    have y2u:∀ b,(Z.upd (H.next+1) b).live (H.next+2) 0=_:=fun b=>(live_upd_other (by omega)).trans y2
    have y3u:∀ b b',((Z.upd (H.next+1) b).upd (H.next+2) b').live (H.next+3) 0=_:=fun b b'=>(live_upd_other (by omega)).trans ((live_upd_other (by omega)).trans y3)
    have y4u:∀ b b' b'',(((Z.upd (H.next+1) b).upd (H.next+2) b').upd (H.next+3) b'').live (H.next+4) 0=_:=fun b b' b''=>(live_upd_other (by omega)).trans ((live_upd_other (by omega)).trans ((live_upd_other (by omega)).trans y4))
    have f1:∀ c b b' b'',((((Z.upd (H.next+1) (.arr 0 36 [c])).upd (H.next+2) b).upd (H.next+3) b').upd (H.next+4) b'').live (H.next+1) 0=some (36,[c]):=fun c b b' b''=>(live_upd_other (by omega)).trans ((live_upd_other (by omega)).trans ((live_upd_other (by omega)).trans live_upd_same))
    have f2:∀ b c b' b'',((((Z.upd (H.next+1) b).upd (H.next+2) (.arr 0 42 c)).upd (H.next+3) b').upd (H.next+4) b'').live (H.next+2) 0=some (42,c):=fun b c b' b''=>(live_upd_other (by omega)).trans ((live_upd_other (by omega)).trans live_upd_same)
    have f3:∀ b b' c b'',((((Z.upd (H.next+1) b).upd (H.next+2) b').upd (H.next+3) (.arr 0 3 c)).upd (H.next+4) b'').live (H.next+3) 0=some (3,c):=fun b b' c b''=>(live_upd_other (by omega)).trans live_upd_same
    simp only[go_sem,w4,w5,w6,w7,y1,y2,y3,y2u,y3u,y4u,f1,f2,f3,qc,qo]
    refine⟨⟨fun x h=>by omega,fun x h=>by omega⟩,fun x h=>by omega,?_⟩
    obtain⟨Zf,hZf⟩:∃ Zf,Zf=((((Z.upd (H.next+1) (.arr 0 36 [qv])).upd (H.next+2) (.arr 0 42 [.lit (.int .i64 qa),.lit (.int .i64 qb)])).upd (H.next+3) (.arr 0 3 [.lit (.int .i64 (n:Int))])).upd (H.next+4) (.arr 0 38 [.lit (.int .i64 0)])):=⟨_,rfl⟩
    rw[<- hZf]
    have oZf:Over H Zf:=by rw[hZf];exact(((oZ.upd (by omega) _).upd (by omega) _).upd (by omega) _).upd (by omega) _
    have qZf:OwnG R.next Zf 52 qv (r.map vecI):=qZ.keep (Nat.le_refl _) (by rw[hZf];exact Nat.le_refl _) fun id g _ _ _ he=>by have:=hqlt _ _ _ he;rw[hZf,upd_get,if_neg (by omega),upd_get,if_neg (by omega),upd_get,if_neg (by omega),upd_get,if_neg (by omega)]
    refine FinV.dropO G0_ok hcl oZf ?_ hKK
    have hfz:=qZf.fz (S:=fun id=>H.next<=id) (nx:=H.next) (cs':=r.map vecI) (fun i hi=>by show H.next<=i;omega) rfl fun i hi _=>by simp only[List.getElem_map];exact .keepInts _
    rw[List.length_map]at hfz
    exact .tup rfl fun i hi _=>match i,hi with
     | 0,_=>hfz
     | 1,_=>.agg rfl fun i hi _=>match i,hi with|0,_=>.lit _|1,_=>.lit _
     | 2,_=>.lit _
     | 3,_=>.lit _
end Go.Proofs
