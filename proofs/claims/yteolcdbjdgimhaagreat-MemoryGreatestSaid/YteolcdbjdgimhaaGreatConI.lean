/- Own work: contracts. -/
import Derived.Test.YteolcdbjdgimhaaGreatConF
import Derived.Test.YteolcdbjdgimhaaGreatConE
import Derived.Test.YteolcdbjdgimhaaGreatConG
import Derived.Test.YteolcdbjdgimhaaGreatConB
import Derived.Test.YteolcdbjdgimhaaGreatConC
import Derived.Test.YteolcdbjdgimhaaGreatConH
import Derived.Test.YteolcdbjdgimhaaGreatConA
import Derived.Test.YteolcdbjdgimhaaGreatLibB
set_option linter.all false
set_option maxHeartbeats 8000000
set_option maxRecDepth 100000
namespace Go.Proofs
open Go.Hx Tryz
def Pu (nF:List Int)(hc1:∀c∈nF,1<=c/\c<=4)(hcl0:nF.length<2 ^ 40)(i:Nat)(hi:(i:Int)<aj nF)(bn bc c nid:Nat)(nv gv cv:ZK)(H:ZJ)
  (g0:H.get bn=some (.J 0 42 [.U nid 0 0 nF.length 1])) (g1:H.get bc=some (.J 0 115 [.M c 0 0])) (g2:H.get c=some (.J 0 119 [nv,gv,cv]))
  (g3:H.get nid=some (.J 0 3 (ints (aS nF i)))) (hcv:aD 0 H 3 cv (ints nF)) (d1:∀g n,cv≠.U nid g 0 n 1) (K:ZP->ZJ->Prop)
  (hT:(i:Int)+1<aj nF->∀H',H'.A=H.A->(∀id,id≠nid->H'.get id=H.get id)->H'.get nid=some (.J 0 3 (ints (aS nF (i+1:Nat))))->K (.ret (.lit (.bool true))) H')
  (hF:¬(i:Int)+1<aj nF->∀H',H'.A=H.A->(∀id,id≠nid->H'.get id=H.get id)->K (.ret (.lit (.bool false))) H'):
  ag prog G0 53 [.M bn 0 0,.M bc 0 0] H K:=by
 refine ag.Z ⟨_,func53,rfl,rfl⟩ fun hcl=>?_;have n0:bn≠nid:=fun h=>by rw[h,g3]at g0;cases g0
 have n1:bc≠nid:=fun h=>by rw[h,g3]at g1;cases g1
 have n2:c≠nid:=fun h=>by rw[h,g3]at g2;cases g2
 have l0:=ae g0;have hone:=hcv.one;have hcells:=hcv.cells;obtain⟨vs,hvs⟩:∃vs,vs=aS nF i:=⟨_,rfl⟩
 rw[<- hvs]at g3;have hvl:vs.length=nF.length:=by rw[hvs,mi]
 have hfit:bZ nF vs:=by rw[hvs];exact pF (fun c hc=>(hc1 c hc).1) _
 have hsucc:=Dm hfit;rw[show bW nF vs=i from by rw[hvs];exact um (fun c hc=>(hc1 c hc).1) O O]at hsucc;have w0:=Vv ((nF.length:Int)-1) O;refine ag.st (n:=32) (rs:=[.tmp 2]) func53 ?_;have l3:=ae g3;simp only[go_sem,l0,l3,w0];refine W.en (fun E=>E 0=.M bn 0 0 /\ E 1=.M bc 0 0 /\ E 3=aa ((nF.length:Int)-1)) (by simp only[go_sem]) fun E ⟨e0,e1,e3⟩=>?_
 refine W.aP 4294967180 (by rfl) (fun ρ2 H4=>∃m:Nat,ρ2 3=aa ((m:Int)-1)/\m<=nF.length/\H4.A=H.A/\(∀id,id≠nid->H4.get id=H.get id)/\H4.get nid=some (.J 0 3 (ints (vs.take m++(nF.drop m).map fun _=>0)))/\(∀(j:Nat) (a b:Int),m<=j->nF[j]?=some a->vs[j]?=some b->b=a-1))
  (fun ρ2 H=>(iv (ρ2 3)+1).toNat) ?_ ?_
 ·refine⟨nF.length,e3,O,rfl,fun _ _=>rfl,?_,fun j a b hm ha=>?_⟩
  ·rw[g3,Vy O,Yx O];simp
  ·have:=aI ha;omega
 rintro ρ2 H4 ⟨m,h3,hm,hn4,hw,hg,hmax⟩;refine W.en (fun E2=>E2 0=.M bn 0 0 /\ E2 1=.M bc 0 0 /\ E2 3=aa ((m:Int)-1)) (by simp only[go_sem,e0,e1,h3]) fun E2 ⟨f0,f1,f3⟩=>?_
 refine W.vs ?_;by_cases hm0:m=0
 ·subst hm0;have f3':E2 3=aa (-1):=f3;have hnone:=Fl hvl fun j a b ha hb=>hmax j a b (WO _) ha hb;rw[hnone]at hsucc;have htot:¬(i:Int)+1<aj nF:=fun h=>by rw[VA h]at hsucc;cases hsucc
  simp only[go_sem,f3'];exact aq.mk O (hF htot H4 hn4 hw)
 obtain⟨k,rfl⟩:∃k,m=k+1:=⟨m-1,O⟩
 have f3':E2 3=aa k:=by rw[f3];congr 1;omega
 obtain⟨cc,hck⟩:=ao (l:=nF) (i:=k) O;obtain⟨v,hvk⟩:=ao (l:=vs) (i:=k) O;have hne:=aO hck;have hr:=hfit.2 k cc v hck hvk;have hcs8:=hc1 cc (an hck);obtain⟨cs4,hcs4⟩:∃cs4,cs4=vs.take (k+1)++(nF.drop (k+1)).map fun _=>(0:Int):=⟨_,rfl⟩
 rw[<- hcs4]at hg;have clen:cs4.length=nF.length:=by rw[hcs4];simp;omega
 have hvk':cs4[k]?=some v:=by
  rw[hcs4,VH (by simp;omega),V4 O];exact hvk
 have hne4:=aO hvk';have hvi:(ints cs4)[k]?=some (aa v):=by unfold ints;rw[List.getElem?_map,hvk'];rfl
 have hci:(ints nF)[k]?=some (aa cc):=by unfold ints;rw[List.getElem?_map,hck];rfl
 have hk0:(k:Int) >= 0:=O
 have hkc:(k:Int)<nF.length:=O
 have w1:=Vv (v+1) O;have w2:=Vv ((k:Int)-1) O;rcases hcv with ⟨_,hx⟩|⟨icd,gcd,j1,j2,j3,j4⟩
 ·have:=congrArg List.length hx;rw[aR,List.length_nil]at this;omega
 rw[aR]at j3;have hjn:icd≠nid:=fun h=>d1 gcd nF.length (by rw[j3,h]);have e4:∀x,setAt (ints cs4) k [.lit (.int .i64 x)]=ints (cs4.set k x):=fun x=>gJ O;have m0:=ae ((hw bn n0).trans g0);have m3:=ae hg;have u0:∀b,(H4.upd nid b).V bn 0=_:=fun b=>(cH n0).trans m0;have u1:∀b,(H4.upd nid b).V bc 0=_:=fun b=>(cH n1).trans (ae ((hw bc n1).trans g1));have u2:∀b,(H4.upd nid b).V c 0=_:=fun b=>(cH n2).trans (ae ((hw c n2).trans g2));have u4:∀b,(H4.upd nid b).V icd gcd=_:=fun b=>(cH hjn).trans (ae ((hw icd hjn).trans j4));have sl:∀x,(cs4.set k x).length=nF.length:=fun x=>by rw[VW];exact clen
 have sg:∀x,(ints (cs4.set k x))[k]?=some (aa x):=fun x=>by unfold ints;rw[List.getElem?_map,VQ O];rfl
 have sne:∀x,¬ints (cs4.set k x)=[]:=fun x h=>by have:=congrArg List.length h;rw[aR,sl,List.length_nil]at this;omega
 simp only[go_sem,f0,f3',hk0,m0,m3,hkc,hvi,w1,e4,clen];refine⟨O,?_⟩;have u3:∀b,(H4.upd nid (.J 0 3 b)).V nid 0=some (3,b):=fun b=>lP;have e5:setAt (ints (cs4.set k (v+1))) k [.lit (.int .i64 0)]=ints (cs4.set k 0):=by rw[gJ (by rw[sl];omega),Ym]
 have uo:∀b b' id,id≠nid->((H4.upd nid b).upd nid b').get id=H.get id:=fun b b' id h=>by rw[af,Vx h,af,Vx h];exact hw id h
 refine W.dr 11 [0,0,3,7,0,16,48,112,0,496,1008] mixed ?_;by_cases hv:v+1<cc
 ·simp only[go_sem,f0,f1,f3',u0,u1,u2,u3,u4,j3,hk0,hkc,sg,hci,hv];have hat:=Fk hvl hck hvk O fun j a b hj ha hb=>hmax j a b O ha hb;rw[hat]at hsucc;have hlt:(i:Int)+1<aj nF:=by
   refine V2 fun h=>?_;rw[Vx h]at hsucc;cases hsucc
  rw[VA hlt]at hsucc;refine aq.mk (by rw[aA];omega) (hT hlt _ (by rw[aA];exact hn4) (fun id h=>by rw[af,Vx h];exact hw id h) ?_);rw[af,VA rfl];congr 3;have e:aS nF ((i+1:Nat):Int)=vs.take k++(v+1) :: (nF.drop (k+1)).map fun _=>0:=by
   have:=Option.some.inj hsucc;rw[show ((i+1:Nat):Int)=(i:Int)+1 by omega];exact this.symm
  rw[e,hcs4,aU hvk,List.append_assoc,WA _ _ (by simp;omega)];simp;rw[show k-min k vs.length=0 by omega];rfl
 ·simp only[go_sem,f0,f1,f3',u0,u1,u2,u3,u4,j3,hk0,hkc,sl,sg,hci,hv,e5,w2];refine⟨O,by rw[aA,aA];omega,⟨k,rfl,O,by rw[aA,aA];exact hn4,fun id h=>uo _ _ id h,?_,fun j a b hj ha hb=>?_⟩,by rw[h3];simp only[aa,aZ];omega⟩
  ·rw[af,VA rfl];congr 3;rw[hcs4,aU hvk,List.append_assoc,WA _ _ (by simp;omega),pE hck];simp;rw[show k-min k vs.length=0 by omega];rfl
  ·rcases VV k j with h|h
   ·exact hmax j a b O ha hb
   ·obtain rfl:j=k:=O;rw[hck]at ha;rw[hvk]at hb;cases ha;cases hb;omega
structure RightA (d:ZM):Prop where
 n1:1<=d.C.length/\d.C.length<=8
 Y:d.Y >>> d.C.length=0
 ul:d.nn.length<=4
end Go.Proofs
namespace Go.Hx
def Z2.elem {lo:Nat}{H:ZJ}{e1 e0:TypeId}{v:ZK}{ids:List Nat}{na:List (List ZK)}(h:Z2 lo H e1 e0 v ids na){i:Nat}(hi:i∈ids):∃r,H.get i=some (.J 0 e0 r):=by
 obtain⟨k,hk⟩:=VG.1 hi;have hl:=(VX.1 hk).1;rw[h.len]at hl;exact⟨_,h.row k i _ hk (Vz hl)⟩
end Go.Hx
namespace Go.Proofs
open Go.Hx Tryz
variable {ns:List ZL}{m:Nat}
structure nnd (m:Nat)(ns:List ZL):Prop where
 len:ns.length<=m
 node:∀x∈ns,x.F.length<=m/\x.na.length<=m/\∀r∈x.na,r≠[]/\r.length<=m
def nnd.mono {m':Nat}(h:nnd m ns)(hm:m<=m'):nnd m' ns :=
 ⟨Wm h.len hm,fun x hx=>by
  obtain⟨a,b,c⟩:=h.node x hx;exact⟨O,O,fun r hr=>⟨(c r hr).1,by have:=(c r hr).2;omega⟩⟩⟩
theorem nnd.set {A:Nat}{y:ZL}(h:nnd m ns)(hy:y.F.length<=m/\y.na.length<=m/\∀r∈y.na,r≠[]/\r.length<=m):nnd m (ns.set A y) :=
 ⟨by rw[VW];exact h.len,fun x hx=>by
  rcases Wn hx with h1|rfl
  ·exact h.node x h1
  ·exact hy⟩
structure nng (lo:Nat)(H:ZJ)(rv:ZK)(ids:List Nat)(na:List (List Int))(R:Nat)(q:List Int)(idt gt:Nat)(cells:List ZK)(idr:Nat):Prop where
 rv:rv=.U idt gt 0 na.length 1
 top:H.get idt=some (.J gt 42 cells)
 tlo:lo<=idt/\idt<H.A
 len:cells.length=na.length
 at':cells[R]?=some (.U idr 0 0 q.length 1)
 row:H.get idr=some (.J 0 3 (ints q))
 rlo:lo<=idr/\idr<H.A
 ne:idt≠idr
 id:ids[R]?=some idr
 q:na[R]?=some q
 cell:∀(j i:Nat) (r:List Int),ids[j]?=some i->na[j]?=some r->cells[j]?=some (.U i 0 0 r.length 1)
 nm:idt ∉ ids
theorem ZZ.take {e:Nat->Prop}{cs:List ZK}(h:ZZ e ns cs)(k:Nat):ZZ e (ns.take k) (cs.take (k*3)):=by
 refine⟨by rw[VK,VK,h.len];omega,fun v x hx=>?_⟩;have hv:=aI hx;rw[VK]at hv;rw[V4 O]at hx;obtain⟨rv,a,b,c,d⟩:=h.node v x hx;exact⟨rv,by rw[V4 O];exact a,by rw[V4 O];exact b,by rw[V4 O];exact c,d⟩
theorem nnd.take (h:nnd m ns)(k:Nat):nnd m (ns.take k):=⟨by rw[VK];have:=h.len;omega,fun x hx=>h.node x (VU hx)⟩
variable {P:Program}
structure UtilsS (m:Nat)(us:List ZY):Prop where
 len:us.length<=m
 util:∀u∈us,u.vars.length<=m/\u.w.length<=m
end Go.Proofs
namespace Go.Proofs
open Go.Hx Tryz
variable {p:List (List Int)}{l:List Int}{b g i id nx:Nat}{e:TypeId}{H H':ZJ}{pv:ZK}{d:ZM}
def U4 {g:Int}(hg:1<=g/\g<=60)(k:Nat)(hk:k<=8):1<=g ^ k/\g ^ k<=167961600000000:=by
 have h0:0<=g:=O
 have h1:∀k:Nat,1<=g ^ k:=fun k=>by
  induction k with
  |zero=>simp
  |succ k ih=>rw[W4];have:=Ww ih hg.1 O O;omega
 have h2:∀k:Nat,g ^ k<=60 ^ k:=fun k=>by
  induction k with
  |zero=>simp
  |succ k ih=>rw[W4,W4];exact Ww ih hg.2 O (by have:=h1 k;have:(0:Int)<=60 ^ k:=Int.pow_nonneg O;omega)
 have h3:(60:Int) ^ k<=60 ^ 8:=by
  have a1:∀j:Nat,(1:Int)<=60 ^ j:=fun j=>by
   induction j with
   |zero=>simp
   |succ j ih=>rw[W4];omega
  have a2:(0:Int)<=60 ^ k:=Int.pow_nonneg O;have e:(60:Int) ^ 8=60 ^ k*60 ^ (8-k):=by rw[<- Int.pow_add];congr 1;omega
  rw[e];have:=VY (a1 (8-k)) a2;omega
 exact⟨h1 k,by have:=h2 k;omega⟩
theorem ZZ.set {e:Nat->Prop}{ns:List ZL}{cs:List ZK}(h:ZZ e ns cs){v:Nat}{y:ZL}{rv:ZK}(hv:v<ns.length)(hr:rv=aE y.na\/rv=eU y)(he:e v->rv=eU y):ZZ e (ns.set v y) (setAt cs (v*3) [aa y.L,ah y.F,rv]):=by
 have hl:=h.len;have hlen:(setAt cs (v*3) [aa y.L,ah y.F,rv]).length=cs.length:=by unfold setAt;simp;omega
 refine⟨by rw[hlen,VW];exact hl,fun w x hx=>?_⟩;have get:∀i,(setAt cs (v*3) [aa y.L,ah y.F,rv])[i]?=if i<v*3 then cs[i]? else if i<v*3+3 then [aa y.L,ah y.F,rv][i-v*3]? else cs[i]?:=fun i=>by
  unfold setAt;by_cases h1:i<v*3
  ·rw[VA h1,List.append_assoc,VH (by rw[VK];omega),V4 h1]
  ·rw[Vx h1,List.append_assoc,VS (by rw[VK];omega),VK,Xk O];by_cases h2:i<v*3+3
   ·rw[VA h2,VH (by simp;omega)]
   ·rw[Vx h2,VS (by simp;omega),WJ];simp only[List.length_cons,List.length_nil];congr 1;omega
 by_cases hw:w=v
 ·subst hw;rw[VQ hv]at hx;cases hx;refine⟨rv,?_,?_,?_,hr,he⟩
  ·rw[get,Vx O,VA O,XC];rfl
  ·rw[get,Vx O,VA O,show w*3+1-w*3=1 by omega];rfl
  ·rw[get,Vx O,VA O,show w*3+2-w*3=2 by omega];rfl
 ·rw[Wa (fun h=>hw h.symm)]at hx;obtain⟨r,a,b,c,d⟩:=h.node w x hx;have:w<v\/v<w:=O
  refine⟨r,?_,?_,?_,d⟩
  ·rw[get];split<;>first|exact a|(rw[Vx O];exact a)
  ·rw[get];split<;>first|exact b|(rw[Vx O];exact b)
  ·rw[get];split<;>first|exact c|(rw[Vx O];exact c)
def U5 (t:List Int)(ht:(t.length:Int)<2 ^ 40)(h0:0<t.length)(H:ZJ)(K:ZP->ZJ->Prop)(hK:∀v H',ZN H H'->aD H.A H' 3 v (ints t)->K (.ret v) H'):ag prog G0 36 [ah t] H K:=by
 refine ag.st (n:=8) (rs:=[.tmp 2]) func36 ?_;simp only[go_sem];intro b hlen;cases b with
 |true=>exact absurd (hlen (by simpa using h0)) (ZG)
 |false =>
  have hn:¬t.length=0:=O
  simp only[go_sem,hn,bf];refine⟨⟨ZF,O,O,ko _⟩,aq.mk (by simp[aM]) ?_⟩;refine hK _ _ (ZN.ext _ _) (.inr ⟨H.A,_,ZI,by simp[aM],by rw[aR],?_⟩);rw[dA];simp
structure nnn (d:ZM)(i b:Nat):Prop where
 le:b<=i
 max:∀j:Nat,j<=i->bE d (bA (aL d) j)<=bE d (bA (aL d) b)
 first:∀j:Nat,j<b->bE d (bA (aL d) j)<bE d (bA (aL d) b)
def nnn.zero (d:ZM):nnn d 0 0:=⟨ZI,fun j hj=>(by rw[Nat.le_zero.1 hj];exact Int.le_refl _),fun j hj=>absurd hj (VN _)⟩
def nnn.nc (h:nnn d i b)(hle:bE d (bA (aL d) (i+1:Nat))<=bE d (bA (aL d) b)):nnn d (i+1) b :=
 ⟨by have:=h.le;omega,fun j hj=>by
  by_cases e:j=i+1
  ·subst e;exact hle
  ·exact h.max j O,h.first⟩
def nnn.new (h:nnn d i b)(hlt:bE d (bA (aL d) b)<bE d (bA (aL d) (i+1:Nat))):nnn d (i+1) (i+1) :=
 ⟨ZI,fun j hj=>by
  by_cases e:j=i+1
  ·subst e;exact Int.le_refl _
  ·have:=h.max j O;omega,fun j hj=>by have:=h.max j O;omega⟩
def PJ (hl:(l.length:Int)<2 ^ 40){n:Nat}(hid:id<H.A)(hg:H.get id=some (.J g e (ints l)))(hn:n=l.length):
  ∀H2:ZJ,H2.get id=H.get id->ag prog G0 36 [.U id g 0 n 1] H2 fun r H'=>r=.ret (ah l)/\H'=H2:=fun H2 h2=>by
 refine ag.frame aJ (args':=[ah l]) rfl (fun i hi _=>match i,hi with
  |0,_=>?_) ?_
 ·have:=Fz.pZ (n:=n) (nx:=0) (h2.trans hg) (by rw[aR];exact hn) fun c hc=>by
   unfold ints at hc;obtain⟨x,_,rfl⟩:=VI.1 hc;exact⟨_,rfl⟩
  subst hn;exact this
 ·by_cases h0:l.length=0
  ·obtain rfl:=VF h0;exact sX [] hl cZ _ ⟨_,rfl,.nu⟩
  ·exact U5 l hl O cZ _ fun v H' _ ho=>⟨_,rfl,ho.mB⟩
def PK (r:List Int)(i:Int):∀a:List Int,(aS (a++r) i).drop a.length=aS r i:=by
 intro a
 induction a with
 |nil=>rfl
 |cons c a ih=>exact ih
def PL (d:ZM)(k:Nat)(i:Int):(aS (cX d) i).drop (bR d k)=aS (bS ((aL d).drop k)) i:=by
 have:=PK (bS ((aL d).drop k)) i (bS ((aL d).take k));rw[<- zz]at this;exact this
def uk (cs:List Int)(b:Option ZQ):Nat:=match b with
 |some (.J _ _ cells)=>(bW cs (cells.map iv)).toNat
 |_=>0
def Dd {cs:List Int}(h:∀c∈cs,1<=c)(hi:(i:Int)<aj cs)(g:Nat)(e:TypeId):uk cs (some (.J g e (ints (aS cs i))))=i:=by
 unfold uk;have e2:(ints (aS cs i)).map iv=aS cs i:=by
  unfold ints;rw[Xg]
  conv=>rhs;rw[<- List.map_id (aS cs i)]
  exact V1 fun x _=>rfl
 simp only;rw[e2,um h O hi];omega
def zy (d:ZM)(hf:Z1 d)(h6:d.C.length<=6)(H:ZJ)(K:ZP->ZJ->Prop)
  (hN:eQ d≠0->K (.ret (.nf [.lit (.slice none 0 0),.agg [.lit (.int .i64 0),.lit (.int .i64 0)],aa (eQ d)])) H)
  (hK:∀b:Nat,ZR d->bX d<=4096->nnn d ((bX d).toNat-1) b->K (.ret (.nf [aE (bA (aL d) b),eM (bE d (bA (aL d) b)) (d.X ^ d.C.length),aa 0])) H):
  ag prog G0 19 [cM d] H K:=by
 refine ag.Z ⟨_,func19,rfl,rfl⟩ fun hcl=>?_;refine ag.sw (n:=77) (rs:=[.cell 2 33,.cell 3 50,.tmp 4]) func19 ?_;refine W.sq ?_;simp only[go_sem,fW,bq];obtain⟨R,hR⟩:∃R,R=ext H [.J 0 38 [.lit (.int .i64 d.X),.Q d.C.length (aG d.C),.lit (.int .u64 (d.Y:Int)),.Q d.nn.length (bj d.nn)],.J 0 33 [.lit (.slice none 0 0)],.J 0 50 [.lit (.int .i64 0),.lit (.int .i64 0)]]:=⟨_,rfl⟩
 have nR:R.A=H.A+3:=hR▸rfl
 have oR:ZN H R:=hR▸.ext _ _
 have g0:R.get H.A=some (dU d):=by rw[hR];exact bH H _ 0 (ZF)
 have g1:=gE hR 1 rfl
 have g2:=gE hR 2 rfl
 have l0:=ae g0;have l1:=ae g1;have l2:=ae g2;unfold bq at l0;rw[<- hR];clear hR;refine W.en (fun E=>E 1=.M H.A 0 0 /\ E 2=.M (H.A+1) 0 0 /\ E 3=.M (H.A+2) 0 0 /\ E 4=aa 0) (by simp only[go_sem]) fun E ⟨e1,e2,e3,e4⟩=>?_
 refine W.sq ?_;simp only[go_sem,e1,l0];refine au.Z (wD d hf _ _ ⟨trivial,?_⟩);simp only[go_sem];by_cases hc:eQ d=0;rotate_left
 ·have u1:∀b,(R.upd (H.A+1) b).V (H.A+2) 0=_:=fun b=>(cH O).trans l2;have u2:∀c b',((R.upd (H.A+1) (.J 0 33 [c])).upd (H.A+2) b').V (H.A+1) 0=some (33,[c]):=fun c b'=>(cH O).trans lP;simp only[go_sem,hc,e2,e3,l1,u1,u2];refine aq.bC aJ hcl ((oR.upd O _).upd O _) ?_ (hN hc);exact .nf rfl fun i hi _=>match i,hi with
   |0,_=>.lit _
   |1,_=>.agg rfl fun j hj _=>match j,hj with
    |0,_=>.lit _
    |1,_=>.lit _
   |2,_=>.lit _
 have hok:ZR d:=V2 fun h=>by unfold eQ at hc;rw[gU h]at hc;cases hc
 have hp4:bX d<=4096:=V2 fun h=>by unfold eQ at hc;rw[ep hok,Vx h]at hc;cases hc
 have hp1:1<=bX d:=dY (pA fun p hp=>(kU hok p hp).2.2.1);have n8:=hok.n.n1;have hdn:(aB d).length<=d.C.length:=ia;have hrl:=uf d;have hcl2:=Df d;have hst:=zw hok (aB d).length ZI;have hchr:∀c∈cX d,1<=c/\c<=4:=fun c hc=>by
  unfold cX bS at hc;obtain⟨l,hl,hcl⟩:=Xc.1 hc;obtain⟨p,hp,rfl⟩:=VI.1 hl;rw[Wv hcl];exact(kU hok p hp).2.2
 simp only[go_sem,hc];refine W.sq ?_;simp only[go_sem,e1,l0];refine au.Z (PI d hok _ _ fun Ha C nv cv oA hC hClt gC hnv hcv=>⟨trivial,?_⟩);simp only[go_sem];obtain⟨Hb,hHb⟩:∃Hb,Hb=ext Ha [.J 0 115 [.M C 0 0]]:=⟨_,rfl⟩
 have nA:=oA.A;have nb:Hb.A=Ha.A+1:=hHb▸rfl
 have ba:∀id,id<Ha.A->Hb.get id=Ha.get id:=fun id h=>by rw[hHb];exact aX h
 have b7:=de hHb
 rw[<- hHb];clear hHb;have gCb:=(ba C hClt).trans gC;have lC:=ae gCb;have l7:=ae b7;refine W.en (fun E1=>E1 1=.M H.A 0 0 /\ E1 2=.M (H.A+1) 0 0 /\ E1 3=.M (H.A+2) 0 0 /\ E1 7=.M Ha.A 0 0) (by simp only[go_sem,e1,e2,e3]) fun E1 ⟨f1,f2,f3,f7⟩=>?_
 have hlen:gF Hb cv=some (aa (cX d).length):=by
  rcases hcv with ⟨h1,h2⟩|⟨i,g',_,q2,h1,h2⟩
  ·have:(cX d).length=0:=(by have:=congrArg List.length h2;rw[aR]at this;exact this);rw[h1,this];rfl
  ·rw[h1];unfold gF;simp[ae ((ba i q2).trans h2),aa,aR]
 refine W.sq ?_;simp only[go_sem,f7,l7,lC,hlen];obtain⟨n,hn⟩:∃n,n=(cX d).length:=⟨_,rfl⟩
 rw[<- hn];refine⟨O,?_⟩;obtain⟨Hc,hHc⟩:∃Hc,Hc=ext Hb [.J 0 3 (List.replicate n (.lit (.int .i64 0))),.J 0 42 [.U Hb.A 0 0 n 1]]:=⟨_,rfl⟩
 have nc:Hc.A=Ha.A+3:=by rw[hHc,aM,nb];rfl
 have cb:∀id,id<Hb.A->Hc.get id=Hb.get id:=fun id h=>by rw[hHc];exact dM _ _ _ h
 have cN0:=de hHc
 have c8:=gE hHc 1 rfl
 rw[<- hHc];clear hHc;have hz:aS (cX d) (0:Nat)=List.replicate n 0:=by
  rw[show ((0:Nat):Int)=0 from rfl,zF fun c hc=>(hchr c hc).1,hn];exact Yf ..
 have cN:Hc.get Hb.A=some (.J 0 3 (ints (aS (cX d) (0:Nat)))):=by
  rw[cN0,hz];simp[ints,aa]
 clear cN0;rcases hnv with ⟨_,hx⟩|⟨ib,gi,i1,i2,i3,i4⟩
 ·have:=congrArg List.length hx;rw[VJ,pC,List.length_nil]at this;have hpp:=dY (l:=ak d.C) fun c hc=>by
   obtain⟨x,hx,rfl⟩:=VI.1 hc;exact(hok.n.L x hx).1
  unfold bO at this;omega
 rw[VJ]at i3;have hCI:Hc.get C=_:=(cb C O).trans gCb;have hIB:Hc.get ib=_:=(cb ib O).trans ((ba ib i2).trans i4);rw[i3]at hCI;have hvl:∀i:Nat,(aS (cX d) i).length=n:=fun i=>by rw[mi,hn]
 have hval:∀(i:Nat) (H2:ZJ),H2.get C=Hc.get C->H2.get ib=Hc.get ib->H2.get Hb.A=some (.J 0 3 (ints (aS (cX d) i)))->ag prog G0 54 [.M C 0 0,.U Hb.A 0 0 n 1] H2 fun r H'=>r=.ret (aa (bE d (bA (aL d) i)))/\H'=H2:=fun i H2 h1 h2 h3=>by
  have:=Pt (cP d) (jA d) (aS (cX d) i) (Dj hok h6 i) C ib Hb.A gi 0 cv H2 (h1.trans hCI) (h2.trans hIB) h3 (fun r H'=>r=.ret (aa (bE d (bA (aL d) i)))/\H'=H2) ⟨by rw[Dh hok],rfl⟩;rw[hvl]at this;exact this
 have hclo:∀(i:Nat) (H2:ZJ),H2.A=H2.A->H2.get Hb.A=some (.J 0 3 (ints (aS (cX d) i)))->ag prog G0 36 [.U Hb.A 0 0 n 1] H2 fun r H'=>r=.ret (ah (aS (cX d) i))/\H'=H2:=fun i H2 _ h3=>by
  have hlt:Hb.A<(⟨H2.get,Hb.A+1⟩:ZJ).A:=ZF
  exact PJ (l:=aS (cX d) i) (by rw[hvl];omega) (H:=⟨H2.get,Hb.A+1⟩) hlt h3 (hvl i).symm H2 rfl
 have m7:=ae ((cb Ha.A O).trans b7);have m8:=ae c8;refine W.sq ?_;simp only[go_sem];refine W.seq ?_;refine W.dr 6 [0,1,0,0,15,0] mixed ?_;simp only[go_sem,f7,m7,m8];refine⟨ah (aS (cX d) (0:Nat)),[Hb.A],bL.mk (fun i hi=>by obtain rfl:=List.mem_singleton.1 hi;omega) fun H2 h2 _=>hclo 0 H2 rfl ((h2 _ ZF).trans cN),?_⟩;simp only[go_sem];refine⟨aa (bE d (bA (aL d) (0:Nat))),[C,ib,Hb.A],bL.mk (fun i hi=>?_) fun H2 h2 _=>hval 0 H2 (h2 _ ZF) (h2 _ ZF) ((h2 _ ZF).trans cN),?_⟩
 ·simp at hi;omega
 simp only[go_sem];refine⟨⟨fun x h=>O,fun x h=>O,fun x h=>O,fun x h=>O,fun x h=>O⟩,?_⟩;obtain⟨Hd,hHd⟩:∃Hd,Hd=ext Hc [.J 0 42 [ah (aS (cX d) (0:Nat))]]:=⟨_,rfl⟩
 have nd:Hd.A=Ha.A+4:=by rw[hHd,aM,nc];rfl
 have dc:∀id,id<Hc.A->Hd.get id=Hc.get id:=fun id h=>by rw[hHd];exact aX h
 have d10:=de hHd
 unfold ah at hHd;simp only[Int.natCast_zero]at hHd;rw[<- hHd];clear hHd;refine W.en (fun E2=>E2 1=.M H.A 0 0 /\ E2 2=.M (H.A+1) 0 0 /\ E2 3=.M (H.A+2) 0 0 /\ E2 7=.M Ha.A 0 0 /\ E2 8=.M (Hb.A+1) 0 0 /\ E2 9=.Z 53 [] [.M (Hb.A+1) 0 0,.M Ha.A 0 0] /\ E2 10=.M Hc.A 0 0 /\ E2 11=aa (bE d (bA (aL d) (0:Nat)))) (by simp only[go_sem,f1,f2,f3,f7]) fun E2 ⟨h1,h2,h3,h7,h8,h9,h10,h11⟩=>?_
 refine W.lZ (fun s'=>∃b:Nat,nnn d ((bX d).toNat-1) b/\s'.ρ 1=.M H.A 0 0/\s'.ρ 2=.M (H.A+1) 0 0/\s'.ρ 3=.M (H.A+2) 0 0/\s'.ρ 10=.M Hc.A 0 0/\s'.ρ 11=aa (bE d (bA (aL d) b))/\s'.H.A=Hd.A/\(∀id,id≠Hb.A->id≠Hc.A->s'.H.get id=Hd.get id)/\s'.H.get Hc.A=some (.J 0 42 [ah (aS (cX d) b)])) ?_ ?_
 ·refine W.block ?_;refine W.aP 1125350151034880 (by rfl) (fun ρ Hx=>∃i b:Nat,(i:Int)<bX d/\nnn d i b/\ρ 11=aa (bE d (bA (aL d) b))/\Hx.A=Hd.A/\(∀id,id≠Hb.A->id≠Hc.A->Hx.get id=Hd.get id)/\Hx.get Hb.A=some (.J 0 3 (ints (aS (cX d) i)))/\Hx.get Hc.A=some (.J 0 42 [ah (aS (cX d) b)]))
   (fun ρ Hx=>(bX d).toNat-uk (cX d) (Hx.get Hb.A)) ?_ ?_
  ·exact⟨0,0,O,.zero d,h11,rfl,fun _ _ _=>rfl,(dc _ O).trans cN,d10⟩
  rintro ρ Hx ⟨i,b,hi,hB,k11,xn,xo,xN,x10⟩;refine W.en (fun E3=>E3 1=.M H.A 0 0 /\ E3 2=.M (H.A+1) 0 0 /\ E3 3=.M (H.A+2) 0 0 /\ E3 7=.M Ha.A 0 0 /\ E3 8=.M (Hb.A+1) 0 0 /\ E3 9=.Z 53 [] [.M (Hb.A+1) 0 0,.M Ha.A 0 0] /\ E3 10=.M Hc.A 0 0 /\ E3 11=aa (bE d (bA (aL d) b))) (by simp only[go_sem,h1,h2,h3,h7,h8,h9,h10,k11]) fun E3 ⟨p1,p2,p3,p7,p8,p9,p10,p11⟩=>?_
  have y8:=(xo (Hb.A+1) O O).trans ((dc _ O).trans c8);have y7:=(xo Ha.A O O).trans ((dc _ O).trans ((cb _ O).trans b7));have yC:=(xo C O O).trans ((dc _ O).trans hCI);have yI:=(xo ib O O).trans ((dc _ O).trans hIB);have ycv:aD 0 Hx 3 cv (ints (cX d)):=hcv.nc (WO _) O fun id g q1 q2 _ _=>(xo id O O).trans ((dc _ O).trans ((cb _ O).trans (ba id q2)));have hxm:uk (cX d) (Hx.get Hb.A)=i:=by rw[xN];exact Dd (fun c hc=>(hchr c hc).1) hi _ _
  refine W.vs ?_;simp only[go_sem,p9];have hcvn:∀g m,cv≠.U Hb.A g 0 m 1:=fun g m h=>by
   rcases hcv with ⟨q,_⟩|⟨id,g2,_,q2,q,_⟩
   ·rw[q]at h;cases h
   ·rw[q]at h;have:=(ZK.U.inj h).1;omega
  rw[hn]at y8;refine au.Z (Pu (cX d) hchr O i hi (Hb.A+1) Ha.A C Hb.A _ _ cv Hx y8 y7 yC xN ycv hcvn _ (fun ht H1 n1 o1 z1=>⟨trivial,?_⟩) (fun hft H1 n1 o1=>⟨trivial,?_⟩));rotate_left
  ·simp only[go_sem];have hib:(bX d).toNat-1=i:=(by unfold bX at hi ⊢;omega);refine⟨b,by rw[hib];exact hB,p1,p2,p3,p10,p11,O,fun id q1 q2=>(o1 id q1).trans (xo id q1 q2),(o1 _ O).trans x10⟩
  have z8:=ae ((o1 (Hb.A+1) O).trans y8);have z7:=ae ((o1 Ha.A O).trans y7);rw[<- hn]at z8;simp only[go_sem,p7,p8,z7,z8];refine au.Z ((hval (i+1) H1 ((o1 C O).trans ((xo C O O).trans (dc _ O))) ((o1 ib O).trans ((xo ib O O).trans (dc _ O))) z1).mono fun r H2 hr=>?_);obtain⟨rfl,rfl⟩:=hr;refine⟨trivial,?_⟩;have z10:=(o1 Hc.A O).trans x10;have lz10:=ae z10;have hm2:uk (cX d) (H2.get Hb.A)=i+1:=by rw[z1];exact Dd (fun c hc=>(hchr c hc).1) (by unfold bX at hi;omega) _ _
  by_cases hgt:bE d (bA (aL d) (i+1:Nat)) > bE d (bA (aL d) b)
  ·simp only[go_sem,p8,p11,hgt,z8];refine au.Z ((hclo (i+1) H2 rfl z1).mono fun r H3 hr=>?_);obtain⟨rfl,rfl⟩:=hr;refine⟨trivial,?_⟩;simp only[go_sem,p10,lz10];refine⟨by rw[aA];omega,⟨i+1,i+1,by unfold bX;omega,hB.new O,rfl,by rw[aA];omega,fun id q1 q2=>by rw[af,Vx q2];exact(o1 id q1).trans (xo id q1 q2),by rw[af,Vx O];exact z1,by rw[af,VA rfl]⟩,by rw[af,Vx O,hm2,hxm];unfold bX at hi ⊢;omega⟩
  ·simp only[go_sem,p11,hgt];exact⟨O,⟨i+1,b,by unfold bX;omega,hB.nc O,rfl,O,fun id q1 q2=>(o1 id q1).trans (xo id q1 q2),z1,z10⟩,by rw[hm2,hxm];unfold bX at hi ⊢;omega⟩
 rintro⟨ρ5,He⟩ ⟨b,hB,k1,k2,k3,k10,k11,en,eo,e10⟩;simp only at k1 k2 k3 k10 k11 en eo e10;clear h1 h2 h3 h7 h8 h9 h10 h11;have eold:∀id,id<R.A->He.get id=R.get id:=fun id h=>(eo id O O).trans ((dc id O).trans ((cb id O).trans ((ba id O).trans (oA.nb id h))));have l0e:=ae ((eold H.A O).trans g0);unfold bq at l0e;refine W.seq ?_;refine W.sq ?_;simp only[go_sem,k1,l0e];refine au.Z (vh d _ _ ⟨trivial,?_⟩);simp only[go_sem];obtain⟨Rf,hRf⟩:∃Rf,Rf=ext He [dU d]:=⟨_,rfl⟩
 have nRf:Rf.A=He.A+1:=hRf▸rfl
 have rfo:∀id,id<He.A->Rf.get id=He.get id:=fun id h=>by rw[hRf];exact aX h
 have rfb:=de hRf
 rw[<- hRf];clear hRf;refine W.env fun E4 hE4=>?_;have u1:E4 1=.M H.A 0 0:=by rw[hE4];simp only[go_sem,k1]
 have u2:E4 2=.M (H.A+1) 0 0:=by rw[hE4];simp only[go_sem,k2]
 have u3:E4 3=.M (H.A+2) 0 0:=by rw[hE4];simp only[go_sem,k3]
 have u10:E4 10=.M Hc.A 0 0:=by rw[hE4];simp only[go_sem,k10]
 have u11:E4 11=aa (bE d (bA (aL d) b)):=by rw[hE4];simp only[go_sem,k11]
 have u51:E4 51=.Z 80 [] [.M He.A 0 0]:=by rw[hE4];rfl
 clear hE4 k1 k2 k3 k10 k11;obtain⟨vs,hvs⟩:∃vs,vs=aS (cX d) b:=⟨_,rfl⟩
 have hvsl:vs.length=n:=by rw[hvs];exact hvl b
 rw[<- hvs]at e10;refine W.block ?_;refine W.jN (f:=80) (first:=[]) (cap:=[.M He.A 0 0]) (by show E4 51=_;exact u51) (vf d (by have:=hf.C.1;omega) hf.Y He.A)
  (fun k Hx=>Rf.A<=Hx.A/\(∀id,id<Rf.A->id≠H.A+1->id≠Hc.A->Hx.get id=Rf.get id)/\Hx.get Hc.A=some (.J 0 42 [ah (vs.drop (bR d k))])/\∃pv,Hx.get (H.A+1)=some (.J 0 33 [pv])/\aD (Rf.A+1) Hx 42 pv (((bA (aL d) b).take k).map ah))
  (fun _ _=>False)
  (fun k Hx h=>by rw[h.2.1 _ O O O];exact rfb)
  (fun k Hx b h=>⟨h.1,fun id h1 h2 h3=>by rw[af,Vx O];exact h.2.1 id h1 h2 h3,by rw[af,Vx O];exact h.2.2.1,by
   obtain⟨pv,a1,a2⟩:=h.2.2.2;exact⟨pv,by rw[af,Vx O];exact a1,a2.nc ZI ZI fun id g h1 h2 _ _=>by rw[af,Vx O]⟩⟩)
  (fun _ _ _ h=>h)
  (fun b=>⟨by rw[aM];omega,fun id h1 _ _=>aX h1,by rw[aX O,rfo _ O];exact e10,_,by rw[aX O,rfo _ O,eold _ O];exact g1,.nil⟩)
  ZG lD (fun _ _ _=>trivial) (fun _ _ _=>trivial) (fun k y Hx B Bb hy hj hnx hB2 hBb=>?_) (fun Hx hj hnx=>?_) (fun _ hs _=>hs.elim) (fun _ _ hs _=>hs.elim)
 ·obtain⟨v,hv,rfl⟩:=kE hy;obtain⟨v1,v2,v3⟩:=fw hv;refine W.vs ?_;simp only[go_sem,eZ,bb,fO,V6,Ws,V7,Wb,hB2];obtain⟨H3,hH3⟩:∃H3,H3=Hx.upd Rf.A Bb:=⟨_,rfl⟩
  rw[<- hH3];obtain⟨st,pd,n',en',ps',as',bo,hBe⟩:=hBb;have n3:H3.A=Hx.A:=by rw[hH3];rfl
  have o3:∀id,id≠Rf.A->H3.get id=Hx.get id:=fun id h=>by rw[hH3,af,Vx h]
  have jB:H3.get Rf.A=some Bb:=by rw[hH3,af,VA rfl]
  clear hH3;obtain⟨pv,a1,a2⟩:=hj.2.2.2;have hjn:=hj.1;have kold:∀id,id<R.A->id≠H.A+1->H3.get id=R.get id:=fun id h h1=>(o3 _ O).trans ((hj.2.1 _ O h1 O).trans ((rfo id O).trans (eold id h)));have q0:=ae ((kold H.A O O).trans g0);unfold bq at q0;have q2:=ae ((o3 (H.A+1) O).trans a1);have q10:=ae ((o3 Hc.A O).trans hj.2.2.1);have a3:aD (Rf.A+1) H3 42 pv (((bA (aL d) b).take k).map ah):=a2.nc ZI O fun id g h1 h2 _ _=>o3 id O;obtain⟨x,hx⟩:=ao v1;obtain⟨m,hm⟩:∃m,m=(df d v).1.toNat:=⟨_,rfl⟩
  have hrng:=mZ hok v1 v2;have hxp:cQ x.F d.C.length:=by
   have:=(hok.nA.node _ (an (jm (c:=fun _ _=>0) hx))).2;rw[(jD ..).2,ik]at this;exact this
  have hin:fm x.F d.C.length:=fun q hq=>by have:=hxp.2 q hq;omega
  have hs:dV (aV d.C x):=jK n8.2 hxp hok.n.L;have hmp:aj (aV d.C x)=(m:Int)/\1<=m/\m<=1024:=by
   unfold df at hm hrng;rw[hx]at hm hrng;simp only at hm hrng;unfold bB at hm hrng;omega
  have hss:=Da hv;rw[<- hm]at hss;have hkd:=aI hv;have hbd:bR d k+m<=n:=by
   have h:=aI (zA (r:=m-1) hv O);omega
  obtain⟨s,hs2⟩:∃s,s=bR d k:=⟨_,rfl⟩
  rw[<- hs2]at q10 hss hbd;have hdl:(vs.drop s).length=n-s:=by rw[Wi,hvsl]
  obtain⟨row,hrow⟩:∃row,row=(vs.drop s).take m:=⟨_,rfl⟩
  have hrl2:row.length=m:=by rw[hrow,VK,hdl];omega
  have hpol:(bA (aL d) b)[k]?=some row:=by
   rw[ui b (nV hv),<- hm,hrow,hvs,hs2,PL]
  obtain⟨pv2,H6,hA,hO,hn6,hp6⟩:=iR (P:=prog) (H:=H3) (t:=33) (x:=ah row) (n:=H3.A+1) Tryz.underlying33 Tryz.nW Tryz.nY rfl (by rw[Tryz.nX,VJ,VK,wE];omega) a3 O rfl;have p6:∀id,id<Rf.A+1->H6.get id=H3.get id:=fun id h=>hp6 id O (a3.ne O);have q26:=ae ((p6 (H.A+1) O).trans ((o3 (H.A+1) O).trans a1));have q16:=ae ((p6 Hc.A O).trans ((o3 Hc.A O).trans hj.2.2.1));rw[<- hs2]at q16;have t1:=a3.cells;have t2:=a3.one;have t3:=hO.cells;have t4:=hO.one;refine W.en (fun E5=>E5 1=.M H.A 0 0 /\ E5 2=.M (H.A+1) 0 0 /\ E5 10=.M Hc.A 0 0 /\ E5 14=aa v) (by simp only[go_sem,bb,u1,u2,u10]) fun E5 ⟨w1,w2,w10,w14⟩=>?_
  refine W.vs ?_;simp only[go_sem,w1,w14,q0];refine au.Z (pX d.C v x hx hin hs _ _ ⟨⟨st,pd,n',en',ps',as',bo,by rw[jB,hBe]⟩,?_⟩);rw[hmp.1];simp only[go_sem];refine W.dr 6 [0,0,0,6,14,30] mixed ?_;simp only[go_sem,w2,w10,q2,q10,hdl];have hir:List.take m (ints (List.drop s vs))=ints row:=by rw[hrow];unfold ints;rw[List.map_take]
  have hid:List.drop m (ints (List.drop s vs))=ints (vs.drop (s+m)):=by unfold ints;rw[<- List.map_drop,Xt]
  rw[hir];refine⟨O,ah row,[],bL.pure fun H2=>(by
   have:=sX row O H2 (fun r H'=>r=.ret (ah row)/\H'=H2) ⟨rfl,rfl⟩;unfold ah at this ⊢;rw[hrl2]at this ⊢;exact this),?_⟩
  unfold ah at hA;have q16u:∀c,(H6.upd (H.A+1) c).V Hc.A 0=_:=fun c=>(cH O).trans q16;simp only[go_sem,w2,w10,q16u,q26,hA,hdl,t3,t4,dE,hid];have e16:ZK.Q (n-s-m) (List.take (n-s-m) (ints (List.drop (s+m) vs)))=ah (vs.drop (bR d (k+1))):=by
   have hl:(vs.drop (s+m)).length=n-s-m:=(by rw[Wi,hvsl];omega);rw[hss];unfold ah;rw[hl,Vy (by rw[aR,hl];exact Nat.le_refl _)]
  rw[e16];refine⟨fun x h=>O,O,by rw[af,Vx O,af,Vx O,p6 _ O];exact jB,by rw[aA,aA];omega,by rw[aA,aA];omega,fun id h1 h2 h3=>by rw[af,Vx h3,af,Vx h2,p6 _ O,o3 _ O];exact hj.2.1 id h1 h2 h3,by rw[af,VA rfl];rfl,pv2,by rw[af,Vx O,af,VA rfl],?_⟩;rw[aU hpol,Wk];exact hO.nc ZI (by rw[aA,aA];exact Nat.le_refl _) fun id g h1 _ _ _=>by rw[af,Vx O,af,Vx O]
 ·rw[jZ]at hj;obtain⟨pv,a1,a2⟩:=hj.2.2.2;have hxn:=hj.1;have hall:(bA (aL d) b).take (aB d).length=bA (aL d) b:=Vy (by rw[wE,hrl];exact Nat.le_refl _);rw[hall]at a2;have kold:∀id,id<R.A->id≠H.A+1->Hx.get id=R.get id:=fun id h h1=>(hj.2.1 _ O h1 O).trans ((rfo id O).trans (eold id h));have q0:=ae ((kold H.A O O).trans g0);unfold bq at q0;have q1:=ae a1;have q2:=ae ((kold (H.A+2) O O).trans g2);have t1:=a2.cells;have t2:=a2.one;have hpw:=U4 hok.nA.g1 d.C.length n8.2;have hvk:=(Dj hok h6 b).sum (jA d).length ZI;rw[Dh hok]at hvk;have q1u:∀c,((Hx.upd (H.A+1) c)).V (H.A+2) 0=_:=fun c=>(cH O).trans q2;have q2u:∀c b',((Hx.upd (H.A+1) (.J 0 33 [c])).upd (H.A+2) b').V (H.A+1) 0=some (33,[c]):=fun c b'=>(cH O).trans lP;simp only[go_sem];refine W.seq ?_;refine W.dr 9 [0,0,0,4,0,16,48,124,254] mixed ?_;simp only[go_sem,u1,u2,u3,u11,q0,q1];refine⟨aa (d.X ^ d.C.length),[],bL.pure fun H2=>Az d.X d.C.length hok.nA.g1 n8.2 H2 _ ⟨rfl,rfl⟩,?_⟩;simp only[go_sem];obtain⟨r1,r2,hrr⟩:∃r1 r2,eM (bE d (bA (aL d) b)) (d.X ^ d.C.length)=.agg [.lit (.int .i64 r1),.lit (.int .i64 r2)]:=⟨_,_,rfl⟩
  refine⟨eM (bE d (bA (aL d) b)) (d.X ^ d.C.length),[],bL.pure fun H2=>AA _ _ hvk O H2 _ ⟨rfl,rfl⟩,?_⟩;rw[hrr];simp only[go_sem,q1u,t1,t2];refine W.vs ?_;simp only[go_sem,u2,u3,q2u];have hKb:=hK b hok hp4 hB;rw[hrr]at hKb;have ovx:ZN H Hx:=⟨O,fun id h=>(kold id O O).trans (oR.nb id h)⟩
  have a2':aD (Rf.A+1) ((Hx.upd (H.A+1) (.J 0 33 [pv])).upd (H.A+2) (.J 0 50 [.lit (.int .i64 r1),.lit (.int .i64 r2)])) 42 pv ((bA (aL d) b).map ah) :=
   a2.nc ZI (by rw[aA,aA];exact Nat.le_refl _) fun id g h1 _ _ _=>by rw[af,Vx O,af,Vx O]
  have hfz:Fz (fun id=>H.A<=id) ((Hx.upd (H.A+1) (.J 0 33 [pv])).upd (H.A+2) (.J 0 50 [.lit (.int .i64 r1),.lit (.int .i64 r2)])) H.A pv (aE (bA (aL d) b)):=by
   have:=a2'.fz (S:=fun id=>H.A<=id) (nx:=H.A) (cs':=(bA (aL d) b).map ah) (fun i h=>O) rfl fun i hi hi'=>by rw[VO];exact .dK _
   rw[VJ]at this;exact this
  refine aq.bC aJ hcl ((ovx.upd O _).upd O _) ?_ hKb;exact .nf rfl fun i hi _=>match i,hi with
   |0,_=>hfz
   |1,_=>.agg rfl fun j hj _=>match j,hj with
    |0,_=>.lit _
    |1,_=>.lit _
   |2,_=>.lit _
def Up (b:Option ZQ):Nat:=match b with
 |some (.J _ _ [.lit (.int _ n)])=>n.toNat
 |_=>0
def Uq (t:List Int)(ht:(t.length:Int)<2 ^ 40)(h0:0<t.length)(H:ZJ)(K:ZP->ZJ->Prop)(hK:∀v H',ZN H H'->aD H.A H' 3 v (ints t)->K (.ret v) H'):ag prog G0 36 [ah t] H K:=by
 refine ag.st (n:=8) (rs:=[.tmp 2]) func36 ?_;simp only[go_sem];intro b hlen;cases b with
 |true=>exact absurd (hlen (by simpa using h0)) (ZG)
 |false =>
  have hn:¬t.length=0:=O
  simp only[go_sem,hn,bf];refine⟨⟨ZF,O,O,ko _⟩,aq.mk (by simp[aM]) ?_⟩;refine hK _ _ (ZN.ext _ _) (.inr ⟨H.A,_,ZI,by simp[aM],by rw[aR],?_⟩);rw[dA];simp
def F8 (hg:H.get id=some (.J g e (ints l))):Fz (fun _=>True) H nx (.U id g 0 l.length 1) (ah l):=by
 unfold ah;refine .nz trivial hg (by rw[aR];omega) fun j hj h2 h'=>?_;simp only[Nat.zero_add,ints,VO];exact .lit _
def Ur (hl:(l.length:Int)<2 ^ 40){H2:ZJ}(hg:H2.get id=some (.J g e (ints l))):
  ag prog G0 36 [.U id g 0 l.length 1] H2 fun r H'=>r=.ret (ah l)/\H'=H2:=by
 refine ag.frame aJ (args':=[ah l]) rfl (fun i hi _=>match i,hi with
  |0,_=>F8 hg) ?_
 by_cases h0:l.length=0
 ·obtain rfl:=VF h0;exact sX [] hl cZ _ ⟨_,rfl,.nu⟩
 ·exact Uq l hl O cZ _ fun v H' _ ho=>⟨_,rfl,ho.mB⟩
def rf (H:ZJ)(pv:ZK)(p:List (List Int)):Prop:=pv=aE p\/∃(L g:Nat) (e:TypeId) (na:List ZK),pv=.U L g 0 p.length 1/\L<H.A/\H.get L=some (.J g e na)/\na.length=p.length /\
 ∀(k:Nat) (l:List Int),p[k]?=some l->∃(id g':Nat) (e':TypeId),na[k]?=some (.U id g' 0 l.length 1)/\id<H.A/\H.get id=some (.J g' e' (ints l))
def rf.len (h:rf H pv p)(ov:ZN H H'):gF H' pv=some (aa p.length):=by
 rcases h with rfl|⟨L,g,e,na,rfl,h1,h2,h3,_⟩
 ·rfl
 ·unfold gF;simp[ae ((ov.nb L h1).trans h2),aa]
def rf.fz (h:rf H pv p)(ov:ZN H H'):Fz (fun _=>True) H' nx pv (aE p):=by
 rcases h with rfl|⟨L,g,e,na,rfl,h1,h2,h3,h4⟩
 ·exact sy p
 ·unfold aE;refine .nz trivial ((ov.nb L h1).trans h2) (by rw[VJ];omega) fun j hj hj2 hj3=>?_;simp only[Nat.zero_add]at hj2 ⊢;rw[VJ]at hj3;obtain⟨id,g',e',q1,q2,q3⟩:=h4 j _ (Vz hj3);rw[Vz hj2]at q1;rw[Option.some.inj q1,VO];exact F8 ((ov.nb id q2).trans q3)
def Us (d:ZM)(hf:Z1 d)(p:List (List Int))(hp:mA p){H0:ZJ}(hv:rf H0 pv p)(ov:ZN H0 H)(K:ZP->ZJ->Prop)(hK:K (.ret (aa (eA d p))) H):ag prog G0 38 [cM d,pv] H K:=by
 refine(ag.frame (H:=H) (args:=[cM d,pv]) (args':=[cM d,aE p]) (v':=aa (eA d p)) aJ rfl (fun i hi _=>match i,hi with
  |0,_=>tq d
  |1,_=>hv.fz ov) (xD d hf p hp cZ _ ⟨_,rfl,.lit _⟩)).mono fun r H' hr=>?_
 rw[hr.1,hr.2];exact hK
def F9 (d:ZM)(hok:ZR d)(h6:d.C.length<=6)(p:List (List Int))(hp:ZU d p)(H:ZJ)(pv:ZK)(hpv:rf H pv p)(K:ZP->ZJ->Prop)
  (hK:∀q n,Imp d p q n->isLocal d q->K (.ret (.nf [aE q,eM (bE d q) (d.X ^ d.C.length),aa n,aa 0])) H):
  ag prog G0 11 [cM d,pv] H K:=by
 refine ag.Z ⟨_,func11,rfl,rfl⟩ fun hcl=>?_;have hf:=uz hok;have hpf:=qK hok hp;have n8:=hok.n.n1;have hpl:p.length<=8:=by rw[hp.len];have:=ia (D:=d.Y) (n:=d.C.length);unfold aB;omega
 refine ag.st (n:=76) (rs:=[.cell 4 33,.cell 5 50,.cell 6 3,.cell 7 46]) func11 ?_;simp only[go_sem,fW,bq];refine au.Z (Us d hf p hpf hpv (.ext _ _) _ ⟨trivial,?_⟩);rw[ow hok hp];have hlen:=fun L=>hpv.len (ZN.ext H L);simp only[go_sem,hlen];obtain⟨R,hR⟩:∃R,R=ext H [.J 0 38 [.lit (.int .i64 d.X),.Q d.C.length (aG d.C),.lit (.int .u64 (d.Y:Int)),.Q d.nn.length (bj d.nn)],.J 0 33 [.lit (.slice none 0 0)],.J 0 50 [.lit (.int .i64 0),.lit (.int .i64 0)],.J 0 3 [.lit (.int .i64 0)],.J 0 46 [.lit (.int .i64 0)]]:=⟨_,rfl⟩
 have nR:R.A=H.A+5:=hR▸rfl
 have oR:ZN H R:=hR▸.ext _ _
 have g0:R.get H.A=some (dU d):=by rw[hR];exact bH H _ 0 (ZF)
 have g1:=gE hR 1 rfl
 have g2:=gE hR 2 rfl
 have g3:=gE hR 3 rfl
 have g4:=gE hR 4 rfl
 rw[<- hR];refine W.en (fun E=>E 2=.M H.A 0 0 /\ E 4=.M (H.A+1) 0 0 /\ E 5=.M (H.A+2) 0 0 /\ E 6=.M (H.A+3) 0 0 /\ E 7=.M (H.A+4) 0 0 /\ E 24=pv /\ E 25=aa p.length /\ E 26=aa 0) (by simp only[go_sem]) fun E ⟨e2,e4,e5,e6,e7,e24,e25,e26⟩=>?_
 let S:ZJ->Prop:=fun Hx=>R.A<=Hx.A/\∀id,id<R.A->id≠H.A+1->id≠H.A+3->Hx.get id=R.get id
 refine W.aP 68652368896 (by rfl) (fun ρ Hx=>∃k:Nat,ρ 26=aa k/\k<=p.length/\S Hx/\Hx.get (H.A+3)=some (.J 0 3 [.lit (.int .i64 0)])/\∃qv,Hx.get (H.A+1)=some (.J 0 33 [qv])/\aD R.A Hx 42 qv ((p.take k).map ah)) (fun ρ H=>p.length-(iv (ρ 26)).toNat) ?_ ?_
 ·simp only[go_sem,e26];exact⟨0,rfl,O,⟨ZI,fun _ _ _ _=>rfl⟩,g3,_,g1,.nil⟩
 rintro ρ Hx ⟨k,h26,hk,hS,hx3,qv,hx1,hq⟩;refine W.en (fun E2=>E2 2=.M H.A 0 0 /\ E2 4=.M (H.A+1) 0 0 /\ E2 5=.M (H.A+2) 0 0 /\ E2 6=.M (H.A+3) 0 0 /\ E2 7=.M (H.A+4) 0 0 /\ E2 24=pv /\ E2 25=aa p.length /\ E2 26=aa k) (by simp only[go_sem,e2,e4,e5,e6,e7,e24,e25,h26]) fun E2 ⟨p2,p4,p5,p6,p7,p24,p25,p26⟩=>?_
 have hSn:=hS.1;refine W.vs ?_;by_cases hb:(k:Int)<p.length
 ·obtain⟨l,hl⟩:=ao (l:=p) (i:=k) O;have hlg:(p.map ah)[k]?=some (ah l):=by rw[List.getElem?_map,hl];rfl
  have hne:=aO hl;have hll:=(hpf.2 l (an hl))
  have w1:=Vv ((k:Int)+1) O;obtain⟨qv',H2,hA,hO,hn2,hp2⟩:=iR (P:=prog) (H:=Hx) (t:=33) (x:=ah l) (n:=Hx.A+1) Tryz.underlying33 Tryz.nW Tryz.nY rfl (by rw[Tryz.nX,VJ,VK];omega) hq hSn rfl;have hqlo:∀i,i<R.A->∀g n,qv≠.U i g 0 n 1:=fun i hi g n he=>by
   rcases hq with ⟨h,_⟩|⟨j,g2,a1,_,h,_⟩
   ·rw[h]at he;cases he
   ·rw[h]at he;have:=(ZK.U.inj he).1;omega
  have l1:=ae hx1;have l1j:H2.V (H.A+1) 0=_:=ae ((hp2 _ O (hqlo _ O)).trans hx1);have hA':=hA;unfold ah at hA';have tc:=hO.cells;have to:=hO.one;have qc:=hq.cells;rcases hpv with hpv|⟨L,gL,eL,na,hpv,L1,L2,L3,L4⟩
  ·rw[hpv]at p24;unfold aE at p24;simp only[go_sem,p24,p25,p26,hb,hlg,hne];refine W.dr 4 [0,0,2,6] mixed ?_;simp only[go_sem,p4,l1];refine⟨ah l,[],bL.pure fun H2=>sX l O H2 _ ⟨rfl,rfl⟩,?_⟩;simp only[go_sem,p4,p26,hA',l1j,tc,to,w1];refine⟨fun x h=>O,by rw[aA];omega,⟨k+1,ZF,O,⟨by rw[aA];omega,fun id h1 h2 h3=>by rw[af,Vx h2,hp2 id O (hqlo id h1)];exact hS.2 id h1 h2 h3⟩,by rw[af,Vx O,hp2 _ O (hqlo _ O)];exact hx3,qv',by rw[af,VA rfl],?_⟩,by rw[h26];simp only[aa,aZ];omega⟩;rw[aU hl,Wk];exact hO.nc ZI (by rw[aA];exact Nat.le_refl _) fun id g h1 _ _ _=>by rw[af,Vx O]
  ·rw[hpv]at p24;have ovx:∀id,id<H.A->Hx.get id=H.get id:=fun id h=>(hS.2 id O O O).trans (oR.nb id h);obtain⟨id,g',e',y1,y2,y3⟩:=L4 k l hl;have lL:=ae ((ovx L L1).trans L2);have gid:=(ovx id y2).trans y3;have hrow:=y1;have hrne:=aO y1;have hrows:(k:Int)<na.length:=O;simp only[go_sem,p24,p25,p26,hb,lL,hrow];refine W.dr 4 [0,0,2,6] mixed ?_;simp only[go_sem,p4,l1];refine⟨ah l,[id],bL.mk (fun i hi=>by obtain rfl:=List.mem_singleton.1 hi;omega) fun H2 h2 _=>Ur O ((h2 _ ZF).trans gid),?_⟩;simp only[go_sem,p4,p26,hA',l1j,tc,to,w1];refine⟨fun x h=>O,by rw[aA];omega,⟨k+1,ZF,O,⟨by rw[aA];omega,fun id h1 h2 h3=>by rw[af,Vx h2,hp2 id O (hqlo id h1)];exact hS.2 id h1 h2 h3⟩,by rw[af,Vx O,hp2 _ O (hqlo _ O)];exact hx3,qv',by rw[af,VA rfl],?_⟩,by rw[h26];simp only[aa,aZ];omega⟩;rw[aU hl,Wk];exact hO.nc ZI (by rw[aA];exact Nat.le_refl _) fun id g h1 _ _ _=>by rw[af,Vx O]
 ·simp only[go_sem,p25,p26,hb];rw[Vy O]at hq;refine W.en (fun E3=>E3 2=.M H.A 0 0 /\ E3 4=.M (H.A+1) 0 0 /\ E3 5=.M (H.A+2) 0 0 /\ E3 6=.M (H.A+3) 0 0 /\ E3 7=.M (H.A+4) 0 0) (by simp only[go_sem,p2,p4,p5,p6,p7]) fun E3 ⟨r2,r4,r5,r6,r7⟩=>?_
  refine W.aP 8646911490709784576 (by rfl) (fun ρ Hy=>∃(n:Nat) (q:List (List Int)) (qv:ZK),Hx.A<=Hy.A/\S Hy/\Hy.get (H.A+3)=some (.J 0 3 [.lit (.int .i64 (n:Int))])/\Hy.get (H.A+1)=some (.J 0 33 [qv])/\aD R.A Hy 42 qv (q.map ah)/\Imp d p q n) (fun ρ Hy=>50000000000000000-Up (Hy.get (H.A+3))) ?_ ?_
  ·exact⟨0,p,qv,ZI,hS,hx3,hx1,hq,.start hp⟩
  rintro ρ Hy ⟨n,q,qv,hxy,hS,hy3,hy1,hq,hI⟩;have hSn:=hS.1;refine W.en (fun E4=>E4 2=.M H.A 0 0 /\ E4 4=.M (H.A+1) 0 0 /\ E4 5=.M (H.A+2) 0 0 /\ E4 6=.M (H.A+3) 0 0 /\ E4 7=.M (H.A+4) 0 0) (by simp only[go_sem,r2,r4,r5,r6,r7]) fun E4 ⟨s2,s4,s5,s6,s7⟩=>?_
  have l0:=ae ((hS.2 H.A O O O).trans g0);unfold bq at l0;have l0e:∀L,(ext Hy L).V H.A 0=_:=fun L=>(ea O).trans l0;refine W.vs ?_;simp only[go_sem,s2,l0e];refine au.Z (vh d _ _ ⟨trivial,?_⟩);simp only[go_sem];obtain⟨R',hR'⟩:∃R',R'=ext (ext Hy [.J 0 4 [.lit (.bool false)]]) [dU d]:=⟨_,rfl⟩
  have nR':R'.A=Hy.A+2:=by rw[hR'];rfl
  have oR':ZN Hy R':=by rw[hR'];exact(ZN.ext _ _).trans (.ext _ _)
  have gr:R'.get Hy.A=some (.J 0 4 [.lit (.bool false)]):=by rw[hR',cW];exact bH Hy _ 0 (ZF)
  have gx:R'.get (Hy.A+1)=some (dU d):=by rw[hR',cW];exact bH Hy _ 1 (ZF)
  rw[<- hR'];have hqlt:∀i g m,qv=.U i g 0 m 1->R.A<=i/\i<Hy.A:=fun i g m he=>by
   rcases hq with ⟨h,_⟩|⟨j,g2,a1,a2,h,_⟩
   ·rw[h]at he;cases he
   ·rw[h]at he;have:=(ZK.U.inj he).1;omega
  have hqR:∀i,i<R.A->∀g m,qv≠.U i g 0 m 1:=fun i hi g m he=>by have:=hqlt i g m he;omega
  have hqN:∀i,Hy.A<=i->∀g m,qv≠.U i g 0 m 1:=fun i hi g m he=>by have:=hqlt i g m he;omega
  refine W.env fun E5 hE5=>?_;have u2:E5 2=.M H.A 0 0:=by rw[hE5];simp only[go_sem,s2]
  have u4:E5 4=.M (H.A+1) 0 0:=by rw[hE5];simp only[go_sem,s4]
  have u5:E5 5=.M (H.A+2) 0 0:=by rw[hE5];simp only[go_sem,s5]
  have u6:E5 6=.M (H.A+3) 0 0:=by rw[hE5];simp only[go_sem,s6]
  have u7:E5 7=.M (H.A+4) 0 0:=by rw[hE5];simp only[go_sem,s7]
  have u11:E5 11=.M Hy.A 0 0:=by rw[hE5];simp only[go_sem]
  have u37:E5 37=.Z 80 [] [.M (Hy.A+1) 0 0]:=by rw[hE5];rfl
  clear hE5;refine W.jN (f:=80) (first:=[]) (cap:=[.M (Hy.A+1) 0 0]) (by show E5 37=_;exact u37) (vf d O hf.Y (Hy.A+1))
   (fun k Hz=>R'.A<=Hz.A/\(∀id,id<R'.A->id≠Hy.A->(∀g m,qv≠.U id g 0 m 1)->Hz.get id=R'.get id)/\∃b r,Hz.get Hy.A=some (.J 0 4 [.lit (.bool b)])/\aD R.A Hz 42 qv (r.map ah)/\Rnd d q k b r)
   (fun c Hz=>False)
   (fun k Hz h=>by rw[h.2.1 _ O O (hqN _ O)];exact gx)
   (fun k Hz b h=>⟨h.1,fun id h1 h2 h3=>by rw[af,Vx O];exact h.2.1 id h1 h2 h3,by
    obtain⟨b',r,a1,a2,a3⟩:=h.2.2;exact⟨b',r,by rw[af,Vx O];exact a1,a2.nc ZI (by rw[aA];exact Nat.le_refl _) fun id g _ _ _ he=>by have:=hqlt _ _ _ he;rw[af,Vx O],a3⟩⟩)
   (fun c Hz b h=>h)
   (fun b=>⟨by rw[aM];omega,fun id h1 h2 h3=>aX h1,false,q,by rw[aX O];exact gr,(hq.over oR').over (.ext _ _),.start hI.ok⟩)
   ZG lD (fun _ _ _=>trivial) (fun _ _ _=>trivial) (fun k y Hz B Bb hy hj hn hB hBb=>?_) (fun Hz hj hn=>?_) (fun Hz hs hn=>hs.elim) (fun i Hz hs hn=>hs.elim)
  ·obtain⟨v,hv,rfl⟩:=kE hy;have hvm:v∈aB d:=an hv;obtain⟨v1,v2,v3⟩:=fw hv;obtain⟨hzn,hzo,b,r,hzr,hzq,hRn⟩:=hj;refine W.vs ?_;simp only[go_sem,eZ,bb,fO,V6,Ws,V7,Wb,hB];obtain⟨H3,hH3⟩:∃H3,H3=Hz.upd R'.A Bb:=⟨_,rfl⟩
   rw[<- hH3];obtain⟨st,pd,n',en,ps',as',bo,hBe⟩:=hBb;have n3:H3.A=Hz.A:=(by rw[hH3];rfl);have o3:∀id,id≠R'.A->H3.get id=Hz.get id:=fun id h=>by rw[hH3,af,Vx h]
   have jB:H3.get R'.A=some Bb:=(by rw[hH3,af,VA rfl]);have kold:∀id,id<R.A->id≠H.A+3->H3.get id=Hy.get id:=fun id h h2=>by rw[o3 _ O,hzo _ O O (hqR _ h),oR'.nb _ O]
   have j0:=ae ((kold H.A O O).trans ((hS.2 H.A O O O).trans g0));have j1:=ae ((kold (H.A+1) O O).trans hy1);have jr:=ae ((o3 _ O).trans hzr);unfold bq at j0;have hq3:aD R.A H3 42 qv (r.map ah):=hzq.nc ZI O fun id g _ _ _ he=>by have:=hqlt _ _ _ he;exact o3 id (O)
   have hpr:=uu hRn.ok hvm;obtain⟨id,g,hqv,i1,i2,i3,i4⟩:=hq3.Un (k:=k) (by rw[VJ,<- v3];exact hpr);have hidy:=hqlt _ _ _ hqv;rw[VJ]at hqv;refine W.env fun E6 hE6=>?_;have m2:E6 2=.M H.A 0 0:=(by rw[hE6];simp only[go_sem,bb,u2]);have m4:E6 4=.M (H.A+1) 0 0:=(by rw[hE6];simp only[go_sem,bb,u4]);have m11:E6 11=.M Hy.A 0 0:=(by rw[hE6];simp only[go_sem,bb,u11]);have m12:E6 12=aa k:=(by rw[hE6];simp only[go_sem,bb]);have m13:E6 13=aa v:=(by rw[hE6];simp only[go_sem,bb]);clear hE6;refine W.vs ?_;simp only[go_sem,m2,m4,m12,m13,j0,j1];have hbf:=UP d hok hf h6 r hRn.ok (qK hok hRn.ok) v hvm H3 R.A qv hq3;rw[v3]at hbf;refine au.Z (hbf _ ⟨⟨st,pd,n',en,ps',as',bo,by rw[jB,hBe]⟩,?_⟩);by_cases hbest:iW d r v
   ·rw[V8 hbest];simp only[go_sem,dE];exact⟨jB,O,O,fun id h1 h2 h3=>(o3 _ O).trans (hzo id h1 h2 h3),b,r,(o3 _ O).trans hzr,hq3,hRn.F7 hv hbest⟩
   ·rw[W2 hbest];have jid:=ae i3;have hkr:(k:Int)<r.length:=O;rw[hqv]at j1;have hset:setAt (r.map ah) k [.Q (fk d (fixC r) v).length (ints (fk d (fixC r) v))]=(r.set k (fk d (fixC r) v)).map ah:=by
     rw[iK (by rw[VJ];omega),XD];rfl
    have jru:∀b,(H3.upd id b).V Hy.A 0=_:=fun b=>(cH O).trans jr;simp only[go_sem,m4,m11,m12,j1,jid,hkr];have jb:=i4 (ah (fk d (fixC r) v));have hset2:(r.map ah).set k (ah (fk d (fixC r) v))=(r.set k (fk d (fixC r) v)).map ah:=(by rw[XD]);rw[hset2]at jb;refine⟨by rw[VJ];omega,?_⟩;simp only[go_sem,hset,jru,dE];refine⟨by rw[af,Vx O,af,Vx O];exact jB,by simp only[aA];omega,by simp only[aA];omega,fun id' h1 h2 h3=>by rw[af,Vx h2,af,Vx (fun e=>h3 g r.length (by rw[hqv,e])),o3 _ O];exact hzo id' h1 h2 h3,true,_,by rw[af,VA rfl],jb.nc ZI (by simp only[aA];exact Nat.le_refl _) fun id' g' _ _ _ he=>by have:=hqlt _ _ _ he;rw[af,Vx O],?_⟩;have:=hRn.step hok hv hbest;rw[v3]at this;exact this
  ·rw[jZ]at hj;obtain⟨hzn,hzo,b,r,hzr,hzq,hRn⟩:=hj;have lr:=ae hzr;cases b with
   |true =>
    simp only[go_sem,u11,lr];have z3:=ae ((hzo (H.A+3) O O (hqR _ O)).trans ((oR'.nb _ O).trans hy3));have hnb:=(hI.round hRn).bound hok h6;have w1:=Vv ((n:Int)+1) O;simp only[go_sem,u6,z3,w1];refine⟨by rw[aA];omega,⟨n+1,r,qv,by rw[aA];omega,⟨by rw[aA];omega,fun id h1 h2 h3=>by rw[af,Vx h3,hzo id O O (hqR _ h1),oR'.nb _ O];exact hS.2 id h1 h2 h3⟩,by rw[af,VA rfl];rfl,by rw[af,Vx O,hzo _ O O (hqR _ O),oR'.nb _ O];exact hy1,hzq.nc ZI (by rw[aA];exact Nat.le_refl _) fun id g _ _ _ he=>by have:=hqlt _ _ _ he;rw[af,Vx O],hI.round hRn⟩,?_⟩;rw[af,VA rfl,hy3];show 50000000000000000-((n:Int)+1).toNat<50000000000000000-((n:Int)).toNat;omega
   |false =>
    simp only[go_sem,u11,lr];obtain⟨rfl,hloc⟩:=hRn.done;have zold:∀id,id<R.A->Hz.get id=Hy.get id:=fun id h=>by rw[hzo id O O (hqR _ h),oR'.nb _ O]
    have z0:=ae ((zold H.A O).trans ((hS.2 H.A O O O).trans g0));have z1:=ae ((zold (H.A+1) O).trans hy1);have z2:=ae ((zold (H.A+2) O).trans ((hS.2 _ O O O).trans g2));have z3:=ae ((zold (H.A+3) O).trans hy3);have z4:=ae ((zold (H.A+4) O).trans ((hS.2 _ O O O).trans g4));unfold bq at z0;simp only[go_sem,u2,u4,z0,z1];refine au.Z (Uo d hok h6 r hRn.ok Hz R.A qv hzq _ ⟨trivial,?_⟩);obtain⟨qa,qb,hqa⟩:∃qa qb,eM (bE d r) (d.X ^ d.C.length)=.agg [.lit (.int .i64 qa),.lit (.int .i64 qb)]:=⟨_,_,rfl⟩
    rw[hqa];have hKK:=hK r n hI hloc;rw[hqa]at hKK;have z4u:∀b,(Hz.upd (H.A+2) b).V (H.A+4) 0=_:=fun b=>(cH O).trans z4;simp only[go_sem,u5,u7,z2,z4u];obtain⟨Z,hZ⟩:∃Z,Z=(Hz.upd (H.A+2) (.J 0 50 [.lit (.int .i64 qa),.lit (.int .i64 qb)])).upd (H.A+4) (.J 0 46 [.lit (.int .i64 0)]):=⟨_,rfl⟩
    have nZ:Z.A=Hz.A:=(by rw[hZ];rfl);have y1:=ae (show Z.get (H.A+1)=some (.J 0 33 [qv]) by rw[hZ,af,Vx O,af,Vx O,zold _ O];exact hy1);have y2:=ae (show Z.get (H.A+2)=some (.J 0 50 [.lit (.int .i64 qa),.lit (.int .i64 qb)]) by rw[hZ,af,Vx O,af,VA rfl]);have y3:=ae (show Z.get (H.A+3)=some (.J 0 3 [.lit (.int .i64 n)]) by rw[hZ,af,Vx O,af,Vx O,zold _ O];exact hy3);have y4:=ae (show Z.get (H.A+4)=some (.J 0 46 [.lit (.int .i64 0)]) by rw[hZ,af,VA rfl]);have qZ:aD R.A Z 42 qv (r.map ah):=hzq.nc ZI O fun id g _ _ _ he=>by have:=hqlt _ _ _ he;rw[hZ,af,Vx O,af,Vx O]
    have oZ:ZN H Z:=⟨O,fun id h=>by rw[hZ,af,Vx O,af,Vx O,zold _ O,hS.2 _ O O O,oR.nb _ h]⟩
    rw[<- hZ];have qc:=qZ.cells;have qo:=qZ.one;refine W.env fun E7 hE7=>?_;have w4:E7 4=.M (H.A+1) 0 0:=(by rw[hE7];simp only[go_sem,u4]);have w5:E7 5=.M (H.A+2) 0 0:=(by rw[hE7];simp only[go_sem,u5]);have w6:E7 6=.M (H.A+3) 0 0:=(by rw[hE7];simp only[go_sem,u6]);have w7:E7 7=.M (H.A+4) 0 0:=(by rw[hE7];simp only[go_sem,u7]);clear hE7;refine W.dr 5 [0,0,0,1,11] mixed ?_;have y2u:∀b,(Z.upd (H.A+1) b).V (H.A+2) 0=_:=fun b=>(cH O).trans y2;have y3u:∀b b',((Z.upd (H.A+1) b).upd (H.A+2) b').V (H.A+3) 0=_:=fun b b'=>(cH O).trans ((cH O).trans y3);have y4u:∀b b' b'',(((Z.upd (H.A+1) b).upd (H.A+2) b').upd (H.A+3) b'').V (H.A+4) 0=_:=fun b b' b''=>(cH O).trans ((cH O).trans ((cH O).trans y4));have f1:∀c b b' b'',((((Z.upd (H.A+1) (.J 0 33 [c])).upd (H.A+2) b).upd (H.A+3) b').upd (H.A+4) b'').V (H.A+1) 0=some (33,[c]):=fun c b b' b''=>(cH O).trans ((cH O).trans ((cH O).trans lP));have f2:∀b c b' b'',((((Z.upd (H.A+1) b).upd (H.A+2) (.J 0 50 c)).upd (H.A+3) b').upd (H.A+4) b'').V (H.A+2) 0=some (50,c):=fun b c b' b''=>(cH O).trans ((cH O).trans lP);have f3:∀b b' c b'',((((Z.upd (H.A+1) b).upd (H.A+2) b').upd (H.A+3) (.J 0 3 c)).upd (H.A+4) b'').V (H.A+3) 0=some (3,c):=fun b b' c b''=>(cH O).trans lP;simp only[go_sem,w4,w5,w6,w7,y1,y2,y3,y2u,y3u,y4u,f1,f2,f3,qc,qo];refine⟨⟨fun x h=>O,fun x h=>O⟩,fun x h=>O,?_⟩;obtain⟨Zf,hZf⟩:∃Zf,Zf=((((Z.upd (H.A+1) (.J 0 33 [qv])).upd (H.A+2) (.J 0 50 [.lit (.int .i64 qa),.lit (.int .i64 qb)])).upd (H.A+3) (.J 0 3 [.lit (.int .i64 (n:Int))])).upd (H.A+4) (.J 0 46 [.lit (.int .i64 0)])):=⟨_,rfl⟩
    rw[<- hZf];have oZf:ZN H Zf:=(by rw[hZf];exact(((oZ.upd O _).upd O _).upd O _).upd O _);have qZf:aD R.A Zf 42 qv (r.map ah):=qZ.nc ZI (by rw[hZf];exact Nat.le_refl _) fun id g _ _ _ he=>by have:=hqlt _ _ _ he;rw[hZf,af,Vx O,af,Vx O,af,Vx O,af,Vx O]
    refine aq.bC aJ hcl oZf ?_ hKK;have hfz:=qZf.fz (S:=fun id=>H.A<=id) (nx:=H.A) (cs':=r.map ah) (fun i hi=>by show H.A<=i;omega) rfl fun i hi _=>by simp only[VO];exact .dK _
    rw[VJ]at hfz;exact .nf rfl fun i hi _=>match i,hi with
     |0,_=>hfz
     |1,_=>.agg rfl fun i hi _=>match i,hi with|0,_=>.lit _|1,_=>.lit _
     |2,_=>.lit _
     |3,_=>.lit _
def Ut (d:ZM)(hok:ZR d)(h6:d.C.length<=6)(p:List (List Int))(hp:ZU d p)(H:ZJ)(K:ZP->ZJ->Prop)
  (hK:∀q n,Imp d p q n->isLocal d q->K (.ret (.nf [aE q,eM (bE d q) (d.X ^ d.C.length),aa n,aa 0])) H):
  ag prog G0 11 [cM d,aE p] H K:=F9 d hok h6 p hp H (aE p) (.inl rfl) K hK
end Go.Proofs
namespace Go.Hx
variable {P:Program} {G:Nat->Option (List ZK)}
variable {f:FuncId}{args args' l l':List ZK}{nx:Nat}{S:Nat->Prop}{H:ZJ}{K:ZP->ZJ->Prop}
inductive FzL (S:Nat->Prop)(H:ZJ)(nx:Nat):List ZK->List ZK->Prop
 |nil:FzL S H nx [] []
 |cons {a a':ZK} {l l':List ZK} (h:Fz S H nx a a') (t:FzL S H nx l l'):FzL S H nx (a :: l) (a' :: l')
def FzL.len (h:FzL S H nx l l'):l'.length=l.length:=by
 induction h with
 |nil=>rfl
 |cons _ _ ih=>rw[List.length_cons,List.length_cons,ih]
def FzL.at (h:FzL S H nx l l'):∀i (h:i<l.length) (h':i<l'.length),Fz S H nx l[i] l'[i]:=by
 induction h with
 |nil=>intro i h;exact absurd h (VN _)
 |cons h _ ih =>
  intro i h1 h2;cases i with
  |zero=>exact h
  |succ i=>exact ih i (by simpa using h1) (by simpa using h2)
theorem FzL.agg {S:Nat->Prop}{H:ZJ}{nx:Nat}{l l':List ZK}(h:FzL S H nx l l'):Fz S H nx (.agg l) (.agg l'):=.agg h.len h.at
theorem FzL.nf {S:Nat->Prop}{H:ZJ}{nx:Nat}{l l':List ZK}(h:FzL S H nx l l'):Fz S H nx (.nf l) (.nf l'):=.nf h.len h.at
theorem FzL.U {S:Nat->Prop}{H:ZJ}{nx id g l z:Nat}{e:TypeId}{cells c':List ZK}(hS:S id)(hg:H.get id=some (.J g e cells))(hl:cells.length=l*z)(h:FzL S H nx cells c'):Fz S H nx (.U id g 0 l z) (.Q l c'):=by
 refine .nz hS hg (by rw[h.len,hl]) fun i hi h2 h'=>?_;have e0:0+i=i:=Nat.zero_add i;simpa only[e0] using h.at i O h'
def au.Vm (n:Nat)(hG:gD G)(hv:FzL (fun id=>n<=id) H H.A args args')(h:ag P G f args' (H.cut n) K):au P G (.Z f [] []) args H K :=
 au.Z (by simpa using ag.mL n hG hv.len (fun i h1 h2=>hv.at i h1 h2) h)
def au.qh {B:ZJ}(hG:gD G)(ho:ZN B H)(hv:FzL (fun id=>B.A<=id) H H.A args args')(h:∀H',ZN B H'->ag P G f args' H' K):au P G (.Z f [] []) args H K :=
 au.Vm B.A hG hv (h _ ho.cut)
end Go.Hx
namespace Go.Proofs
open Go.Hx Tryz
def Bc {S:Nat->Prop}{H:ZJ}{nx:Nat}(l:List Int):FzL S H nx (ints l) (ints l):=by
 induction l with
 |nil=>exact .nil
 |cons a l ih=>exact .cons (.lit _) ih
end Go.Proofs
namespace Go.Proofs.R01
open Go.Hx Tryz
variable {a b c d:Int}
def ve:Int := 4611686018427387903
def nC (n d:Int):Int := if d < 1 \/ d > ve \/ n < -ve \/ n > ve then 5 else if Int.gcd n d ≠ 1 then 5 else 0
def nD (a b c d:Int):Int := if (a < 0 /\ ¬c < 0) then -1 else if (¬a < 0 /\ c < 0) then 1 else if a.natAbs * d.natAbs=c.natAbs * b.natAbs then 0 else if (a.natAbs * d.natAbs < c.natAbs * b.natAbs ↔ 0 <= a) then -1 else 1
def Uu (hb:1 <= b)(hd:1 <= d):nD a b c d=di (a * d) (c * b) := by
  unfold nD di;obtain⟨B,rfl⟩ := VE (show 0 <= b by omega);obtain⟨D,rfl⟩ := VE (show 0 <= d by omega);simp only[XI];have pos:∀x:Nat,∀E:Nat,((x:Int) * (E:Int))=((x * E:Nat):Int) := fun x E => (XN x E).symm;have neg:∀x:Nat,∀E:Nat,(-(x:Int) * (E:Int)) = -((x * E:Nat):Int) := fun x E => by rw[Int.neg_mul,XN]
  have pp:∀x E:Nat,0 < x -> 1 <= (E:Int) -> 0 < x * E := fun x E h1 h2 => Ys h1 O;by_cases h1:a < 0
  · obtain⟨A,hA,hA0⟩:∃A:Nat,a = -(A:Int) /\ 0 < A := ⟨a.natAbs,O,O⟩
    subst hA;have p1 := pp A D hA0 hd;by_cases h2:c < 0
    · obtain⟨C,hC,hC0⟩:∃C:Nat,c = -(C:Int) /\ 0 < C := ⟨c.natAbs,O,O⟩
      subst hC;simp only[Y9,XI,neg];generalize A * D=P at *
      generalize C * B=Q at *
      repeat' split
      all_goals omega
    · obtain⟨C,hC⟩ := VE (show 0 <= c by omega);subst hC;simp only[Y9,XI,neg,pos];generalize A * D=P at *
      generalize C * B=Q at *
      repeat' split
      all_goals omega
  · obtain⟨A,hA⟩ := VE (show 0 <= a by omega);subst hA;by_cases h2:c < 0
    · obtain⟨C,hC,hC0⟩:∃C:Nat,c = -(C:Int) /\ 0 < C := ⟨c.natAbs,O,O⟩
      subst hC;have p2 := pp C B hC0 hb;simp only[Y9,XI,neg,pos];generalize A * D=P at *
      generalize C * B=Q at *
      repeat' split
      all_goals omega
    · obtain⟨C,hC⟩ := VE (show 0 <= c by omega);subst hC;simp only[XI,pos]
      repeat' split
      all_goals omega
def Uv:aF 1 = [1] := by rw[pQ ZG,ji];rfl
def AO (n d:Int)(hn:fK n)(hd:fK d)(H:ZJ)(K:ZP -> ZJ -> Prop)(hK:K (.ret (.lit (.bool (decide (nC n d=0))))) H):ag prog G0 25 [qV n d] H K := by
  refine ag.Z ⟨_,func25,rfl,rfl⟩ fun hcl => ?_;refine ag.st (n := 31) (rs := [.tmp 2]) func25 ?_;have bad:∀L,nC n d=5 -> aq prog G0 H K (.lit (.bool false)) (ext H L) := fun L h => by
    rw[h]at hK;exact aq.drop aJ hcl (.lit _) hK
  by_cases h1:d < 1
  · simp only[go_sem,qV,h1,bf];exact bad _ (by unfold nC;rw[VA (.inl h1)])
  by_cases h2:4611686018427387903 < d
  · simp only[go_sem,qV,h1,h2,bf];exact bad _ (by unfold nC;rw[VA (.inr (.inl h2))])
  by_cases h4:4611686018427387903 < n
  · simp only[go_sem,qV,h1,h2,h4,bf];exact bad _ (by unfold nC;rw[VA (.inr (.inr (.inr h4)))])
  by_cases h3:n < -4611686018427387903
  · simp only[go_sem,qV,h1,h2,h3,h4,bf];exact bad _ (by unfold nC;rw[VA (.inr (.inr (.inl h3)))])
  simp only[go_sem,qV,h1,h2,h3,h4,bf];refine W.dr 8 [0,1,3,0,8,31,63,0] mixed ?_;simp only[go_sem,qV,bf];have l1 := pT hn;have l2 := pT hd;refine⟨_,[],bL.pure fun H2 => qO n hn H2 _ ⟨rfl,rfl⟩,?_⟩;simp only[go_sem,bf];refine⟨_,[],bL.pure fun H2 => qO d hd H2 _ ⟨rfl,rfl⟩,?_⟩;simp only[go_sem,bf];refine⟨_,[],bL.pure fun H2 => RN n.natAbs d.natAbs O O H2 _ ⟨rfl,rfl⟩,?_⟩;simp only[go_sem,bf];refine⟨by refine⟨?_,?_,?_,?_⟩ <;> (intro x hx;omega),?_⟩;have gl:(aF (n.natAbs.gcd d.natAbs)).length <= 100 := by
    have:n.natAbs.gcd d.natAbs <= d.natAbs := Nat.le_of_dvd O (Nat.gcd_dvd_right _ _);have := RO this;omega
  have ck:nC n d=if Int.gcd n d ≠ 1 then 5 else 0 := by unfold nC;rw[Vx (by unfold ve;omega)]
  have eg:Int.gcd n d=n.natAbs.gcd d.natAbs := rfl;obtain⟨H1,hH1⟩:∃H1,H1=ext H [.J 0 50 [.lit (.int .i64 n),.lit (.int .i64 d)]] := ⟨_,rfl⟩
  have ov1:ZN H H1:=hH1▸.ext _ _
  have e1:H.A + 1=H1.A:=hH1▸rfl
  rw[<- hH1,e1];have hO:aD H1.A (ext H1 [.J 0 3 [.lit (.int .i64 1)]]) 3 (.U H1.A 0 0 1 1) (ints [1]) := .inr ⟨H1.A,0,ZI,by simp[aM],rfl,dA _ _ _⟩;refine au.mL H1.A (args' := [ah (aF (n.natAbs.gcd d.natAbs)),ah (aF 1)]) aJ rfl (fun j hj _ => match j,hj with |0,_ => .dK _ |1,_ => by rw[Uv];exact hO.hJ fun i hi => hi) (uB _ 1 O _ _ ⟨trivial,?_⟩);have ov2:ZN H ((ext H1 [.J 0 3 [.lit (.int .i64 1)]]).cut H1.A) := ov1.trans (ZN.ext _ _).cut;rw[ck,eg]at hK;by_cases hg:n.natAbs.gcd d.natAbs=1
  · rw[hg]at hK ⊢;have c1:di ((1:Nat):Int) ((1:Nat):Int)=0 :=ZG;rw[c1];simp only[go_sem,bf];exact aq.bC aJ hcl ov2 (.lit _) hK
  · have c1 : ¬ di ((n.natAbs.gcd d.natAbs : Nat) : Int) ((1 : Nat) : Int) = 0 := by
      unfold di;split
      · omega
      · split <;> omega
    obtain⟨c,hc⟩:∃c,c=di ((n.natAbs.gcd d.natAbs:Nat):Int) ((1:Nat):Int) := ⟨_,rfl⟩
    rw[<- hc]at c1 ⊢;simp only[go_sem,c1,bf];rw[VA hg]at hK;exact aq.bC aJ hcl ov2 (.lit _) (by simpa using hK)
def Uw (h1:a < 0)(h2:c < 0):nD a b c d=di ((c.natAbs * b.natAbs:Nat):Int) ((a.natAbs * d.natAbs:Nat):Int) := by
  unfold nD di;generalize a.natAbs * d.natAbs=P;generalize c.natAbs * b.natAbs=Q
  repeat' split
  all_goals omega
def Ux (h1:¬a < 0)(h2:¬c < 0):nD a b c d=di ((a.natAbs * d.natAbs:Nat):Int) ((c.natAbs * b.natAbs:Nat):Int) := by
  unfold nD di;generalize a.natAbs * d.natAbs=P;generalize c.natAbs * b.natAbs=Q
  repeat' split
  all_goals omega
def Uy (h1:a < 0)(h2:¬c < 0):nD a b c d = -1 := by unfold nD;rw[VA ⟨h1,h2⟩]
def Uz (h1:¬a < 0)(h2:c < 0):nD a b c d=1 := by unfold nD;rw[Vx O,VA ⟨h1,h2⟩]
def Ga (a b c d:Int)(ha:fK a)(hb:fK b)(hc:fK c)(hd:fK d)(hb0:1 <= b)(hd0:1 <= d)(H:ZJ)(K:ZP -> ZJ -> Prop)(hK:K (.ret (.lit (.int .i64 (di (a * d) (c * b))))) H):
    ag prog G0 26 [qV a b,qV c d] H K := by
  refine ag.Z ⟨_,func26,rfl,rfl⟩ fun hcl => ?_;have la := pT ha;have lb := pT hb;have lc := pT hc;have ld := pT hd;have l1 := Eu ha hd;have l2 := Eu hc hb;rw[<- Uu hb0 hd0]at hK;refine ag.st (n := 44) (rs := [.tmp 4]) func26 ?_;simp only[go_sem,qV,bf];refine W.dr 12 [0,1,3,0,8,31,63,0,128,511,0,1024] mixed ?_;simp only[go_sem,bf];refine⟨_,[],bL.pure fun H2 => qO a ha H2 _ ⟨rfl,rfl⟩,?_⟩;simp only[go_sem,bf];refine⟨_,[],bL.pure fun H2 => qO d hd H2 _ ⟨rfl,rfl⟩,?_⟩;simp only[go_sem,bf];refine⟨_,[],bL.pure fun H2 => Ak a.natAbs d.natAbs O O H2 _ ⟨rfl,rfl⟩,?_⟩;simp only[go_sem,bf];refine⟨_,[],bL.pure fun H2 => qO c hc H2 _ ⟨rfl,rfl⟩,?_⟩;simp only[go_sem,bf];refine au.Z (qO b hb _ _ ⟨trivial,?_⟩);simp only[go_sem,bf];refine au.Z (Ak c.natAbs b.natAbs O O _ _ ⟨trivial,?_⟩);by_cases h1:a < 0
  · by_cases h2:c < 0
    · rw[Uw h1 h2]at hK;simp only[go_sem,h1,h2,bf];refine au.Z (uB _ _ O _ _ ⟨trivial,?_⟩);simp only[go_sem,bf];exact aq.drop aJ hcl (.lit _) hK
    · rw[Uy h1 h2]at hK;simp only[go_sem,h1,h2,bf];exact aq.drop aJ hcl (.lit _) hK
  · by_cases h2:c < 0
    · rw[Uz h1 h2]at hK;simp only[go_sem,h1,h2,bf];exact aq.drop aJ hcl (.lit _) hK
    · rw[Ux h1 h2]at hK;simp only[go_sem,h1,h2,bf];refine au.Z (uB _ _ O _ _ ⟨trivial,?_⟩);simp only[go_sem,bf];exact aq.drop aJ hcl (.lit _) hK
end Go.Proofs.R01
namespace Go.Proofs
open Go.Hx Tryz
variable {p q:List (List Int)}{a:List Int}{b k n nx:Nat}{α:Type}{e0 e1:TypeId}{H:ZJ}{d:ZM}
def Gb {a b:List α}{x:α}(h:a.take k=b.take k)(ha:a[k]?=some x)(hb:b[k]?=some x):a.take (k+1)=b.take (k+1):=by
 rw[aU ha,aU hb,h]
def Gc {a b:List α}(h:a.take k=b.take k)(ha:a.length<=k)(hb:b.length<=k):a=b:=by
 rw[Vy ha,Vy hb]at h;exact h
def AP (a b:List (List Int))(ha:(a.length:Int)<2 ^ 62)(har:∀r∈a,(r.length:Int)<2 ^ 62)(H:ZJ)(K:ZP->ZJ->Prop)(hK:K (.ret (.lit (.bool (decide (a=b))))) H):ag prog G0 17 [aE a,aE b] H K:=by
 refine ag.st (n:=53) (rs:=[.tmp 4]) func17 ?_;have no:a≠b->aq prog G0 H K (.lit (.bool false)) H:=fun h=>by
  rw[W2 h]at hK;exact aq.mk ZI hK
 by_cases hl:(a.length:Int)=b.length;rotate_left
 ·simp only[go_sem,aE,hl];exact no fun h=>hl (by rw[h])
 simp only[go_sem,aE,hl];refine W.aP 9007199254737008 (by rfl) (fun ρ Hx=>Hx=H/\∃k:Nat,ρ 5=aa k/\k<=a.length/\a.take k=b.take k) (fun ρ H=>a.length-(iv (ρ 5)).toNat) ?_ ?_
 ·simp only[go_sem];exact⟨0,rfl,O,rfl⟩
 rintro ρ Hx ⟨rfl,k,h5,hk,he⟩;refine W.vs ?_;by_cases hb:(k:Int)<a.length;rotate_left
 ·simp only[go_sem,h5,hl];have hab:a=b:=Gc he O O;rw[V8 hab]at hK;have hb2:¬(k:Int)<b.length:=O
  simp only[go_sem,hb2];exact aq.mk ZI hK
 obtain⟨x,hx⟩:=ao (l:=a) (i:=k) O;obtain⟨y,hy⟩:=ao (l:=b) (i:=k) O;have hx':(a.map ah)[k]?=some (ah x):=by rw[List.getElem?_map,hx];rfl
 have hy':(b.map ah)[k]?=some (ah y):=by rw[List.getElem?_map,hy];rfl
 have hxn:=aO hx;have hyn:=aO hy;have hb2:(k:Int)<b.length:=O
 have hxr:=har x (an hx);have w1:=Vv ((k:Int)+1) O;have nxy:x≠y->a≠b:=fun h e=>h (by subst e;rw[hx]at hy;exact Option.some.inj hy);simp only[go_sem,h5,hl,hb2];refine W.dr 10 [0,0,3,7,15,0,0,96,224,480] mixed ?_;by_cases hxy:(x.length:Int)=y.length;rotate_left
 ·simp only[go_sem,h5,hb,hb2,hx',hy',hxn,hyn,hxy];exact no (nxy fun e=>hxy (by rw[e]))
 simp only[go_sem,h5,hb,hb2,hx',hy',hxn,hyn,hxy];refine W.aP 9007198717870160 (by rfl) (fun ρ2 Hz=>Hz=Hx/\∃j:Nat,ρ2 6=aa j/\j<=x.length/\x.take j=y.take j) (fun ρ2 H=>x.length-(iv (ρ2 6)).toNat) ?_ ?_
 ·simp only[go_sem];exact⟨0,rfl,O,rfl⟩
 rintro ρ2 Hz ⟨rfl,j,h6,hj,he2⟩;refine W.vs ?_;by_cases hc:(j:Int)<y.length;rotate_left
 ·simp only[go_sem,h5,h6,hb,hx',hxn,hxy,hc,w1];have hxy2:x=y:=Gc he2 O O;exact⟨⟨k+1,ZF,O,Gb he hx (by rw[hxy2];exact hy)⟩,O⟩
 obtain⟨u,hu⟩:=ao (l:=x) (i:=j) O;obtain⟨v,hv⟩:=ao (l:=y) (i:=j) O;have hun:=aO hu;have hvn:=aO hv;have hc2:(j:Int)<x.length:=O
 have w2:=Vv ((j:Int)+1) O;simp only[go_sem,h5,h6,hb,hx',hxn,hxy,hc];refine W.dr 14 [0,0,3,7,0,31,63,0,0,384,896,0,3968,8064] mixed ?_;by_cases huv:u=v
 ·subst huv;simp only[go_sem,h5,h6,hb,hb2,hx',hy',hxn,hyn,hxy,hc,hu,hv,hun,hvn,w2];exact⟨⟨j+1,ZF,O,Gb he2 hu hv⟩,O⟩
 ·simp only[go_sem,h5,h6,hb,hb2,hx',hy',hxn,hyn,hxy,hc,hu,hv,hun,hvn,huv];exact no (nxy fun e=>huv (by subst e;rw[hu]at hv;exact Option.some.inj hv))
instance (a:List Int)(n:Int):Decidable (cQ a n):=by unfold cQ;infer_instance
instance (g c:Int)(r:List Int):Decidable (lI g c r):=by unfold lI;infer_instance
instance (g:Int)(ns:List ZL)(x:ZL):Decidable (im g ns x):=by unfold im;infer_instance
instance (ps:List Nat):Decidable (mV ps):=by unfold mV;infer_instance
def U7 (d:ZM)(h1:1<=d.C.length/\d.C.length<=8)(h2:d.Y >>> d.C.length=0)(h3:∀x∈d.C,1<=x.L/\x.L<=4)(h4:∀v,v<d.C.length->d.Y.testBit v=true->(d.C.getD v ⟨0,[],[]⟩).na=[]/\cQ (d.C.getD v ⟨0,[],[]⟩).F d.C.length)
  (h5:(1<=d.X/\d.X<=60)/\∀x∈cR d (fun _ _=>0),(1<=x.L/\x.L<=4)/\cQ x.F (cR d (fun _ _=>0)).length) (h6:aj (ak (cR d fun _ _=>0))<=1024) (h7:mV (bF (cR d fun _ _=>0))) (h8:∀x∈cR d (fun _ _=>0),im d.X (cR d fun _ _=>0) x)
  (h9:d.nn.length<=4/\∀u∈d.nn,cQ u.vars d.C.length/\(u.w.length:Int)=aj (aK (ak d.C) u.vars)/\∀x∈u.w,-100<=x/\x<=100):ZR d :=
 ⟨⟨h1,h2,h3,fun v x hx hb=>by
  have:=h4 v (aI hx) hb;rw[VB,hx]at this;exact this⟩,⟨h5.1,by rw[ik];exact h1,h5.2,h6,h7,h8⟩,⟨h9.1,fun u hu=>⟨(h9.2 u hu).1,(h9.2 u hu).2.1,(h9.2 u hu).2.2⟩⟩⟩
def dS:ZM:=⟨2,[⟨2,[],[[1,1]]⟩,⟨2,[0],[]⟩,⟨2,[1],[]⟩],6,[⟨[0,2],[10,0,0,10]⟩]⟩
def nH:ZR dS:=U7 dS ZG ZG ZG ZG ZG ZG ZG ZG (ZG)
def A5 (a b c e:Int)(h:(0<=a/\a<2)/\(0<=b/\b<2)/\(0<=c/\c<2)/\(0<=e/\e<2)):ZU dS [[a,b],[c,e]]:=by
 have hr:aL dS=[(2,2),(2,2)]:=ZH
 refine pO.2 ⟨by rw[hr];rfl,fun k q r h1 h2=>?_⟩;rw[hr]at h1
 match k,h1,h2 with
 |0,h1,h2 =>
  cases h1;cases h2;refine⟨rfl,fun x hx=>?_⟩;simp at hx;omega
 |1,h1,h2 =>
  cases h1;cases h2;refine⟨rfl,fun x hx=>?_⟩;simp at hx;omega
def U9:eA dS [[0,0]]=201:=by
 have hr:aL dS=[(2,2),(2,2)]:=ZH
 have hn:¬ZU dS [[0,0]]:=fun h=>by
  have:=(pO.1 h).1;rw[hr]at this;simp at this
 unfold eA;rw[ep nH,gU hn];rfl
def A6:isLocal dS [[0,0],[0,0]]:=of_decide_eq_true (ZH)
def Gs:¬isLocal dS [[0,1],[0,0]]:=of_decide_eq_false (ZH)
def Va:isLocal dS [[0,1],[0,1]]:=of_decide_eq_true (ZH)
def Vb:¬isLocal dS [[1,1],[1,0]]:=of_decide_eq_false (ZH)
def Vc:isLocal dS [[1,0],[1,0]]:=of_decide_eq_true (ZH)
def Vd:ti dS [[0,1],[0,0]]=[[0,1],[0,1]]:=ZH
def Ve:ti dS [[1,1],[1,0]]=[[1,0],[1,0]]:=ZH
def A7:bE dS [[0,1],[0,1]]=80:=ZH
def Vf:bE dS [[0,0],[0,0]]=40:=ZH
def Vg:bE dS [[1,0],[1,0]]=80:=ZH
def A8:eM 80 (dS.X ^ dS.C.length)=.agg [aa 10,aa 1]:=ZH
def Vh:eM 40 (dS.X ^ dS.C.length)=.agg [aa 5,aa 1]:=ZH
def Gt:bX dS=16:=ZH
def Gu:bA (aL dS) (5:Nat)=[[0,1],[0,1]]:=ZH
def Vi:∀b:Nat,b<16->b=5\/(b<5/\bE dS (bA (aL dS) (b:Int))<80)\/(5<b/\bE dS (bA (aL dS) (b:Int))<=80):=of_decide_eq_true (ZH)
def Vj (h:nnn dS ((bX dS).toNat-1) b):b=5:=by
 rw[Gt]at h;have hle:=h.le;have h5:bE dS (bA (aL dS) (5:Nat))=80:=by rw[Gu];exact A7
 rcases Vi b (by simp at hle;omega) with e|⟨e1,e2⟩|⟨e1,e2⟩
 ·exact e
 ·have:=h.max 5 ZG;rw[h5]at this;omega
 ·have:=h.first 5 e1;rw[h5]at this;omega
def Gv {q1:List (List Int)}(h:Imp d p q n)(hl:isLocal d q)(h0:¬isLocal d p)(h1:ti d p=q1)(hl1:isLocal d q1):q=q1/\n=1:=by
 have e:n=1:=by
  refine V2 fun hn=>?_;rcases VV n 1 with hlt|hge
  ·have:n=0:=O;subst this;exact h0 (h.same rfl ▸ hl)
  ·exact h.bef 1 O (by show isLocal d (ti d (tj d p 0));rw[show tj d p 0=p from rfl,h1];exact hl1)
 subst e;exact⟨by rw[h.it];exact h1,rfl⟩
theorem Gy:∀x:List Int,¬mb x x
 | []=>fun h=>h
 |a :: l=>fun h=>by
  rcases h with h|⟨_,h⟩
  ·omega
  ·exact Gy l h
theorem Gz:∀ {x y:List Int},mb x y->¬mb y x
 | [],_=>fun h=>h.elim
 |_ :: _,[]=>fun h=>h.elim
 |a :: l,b :: m=>fun h g=>by
  rcases h with h|⟨h,h2⟩
  ·rcases g with g|⟨g,_⟩<;>omega
  ·rcases g with g|⟨_,g2⟩
   ·omega
   ·exact Gz h2 g2
def Vn:∀(l:List (Int × Int)) (p:List (List Int)),wX l p->bZ (bS l) p.flatten:=by
 intro l
 induction l with
 |nil =>
  intro p h;have:p=[]:=VF h.1;subst this;exact⟨rfl,fun k c v h1 _=>by simp[bS]at h1⟩
 |cons a l ih =>
  intro p h;cases p with
  |nil=>have:=h.1;simp at this
  |cons q p =>
   obtain⟨h1,h2⟩:=h.2 0 a q rfl rfl;have hi:=ih p ⟨by have:=h.1;simpa using this,fun k b r e1 e2=>h.2 (k+1) b r (by simpa using e1) (by simpa using e2)⟩;rw[qB,List.flatten_cons];refine⟨by rw[List.length_append,List.length_append,VR,hi.1];omega,fun k c v e1 e2=>?_⟩;rcases VV k q.length with hk|hk
   ·rw[VH (by rw[VR];omega),Wc,VA O]at e1;rw[VH hk]at e2;cases e1;exact h2 v (an e2)
   ·rw[VS (by rw[VR];omega),VR]at e1;rw[VS hk]at e2;refine hi.2 (k-q.length) c v ?_ e2;rw[<- e1];congr 1;omega
def Vo:∀ {a b:List (List Int)},a.length=b.length->(∀(k:Nat) (x y:List Int),a[k]?=some x->b[k]?=some y->x.length=y.length)->a.flatten=b.flatten->a=b:=by
 intro a
 induction a with
 |nil=>intro b h _ _;exact(VF h.symm).symm
 |cons x a ih =>
  intro b h hl he;cases b with
  |nil=>simp at h
  |cons y b =>
   have h0:=hl 0 x y rfl rfl;rw[List.flatten_cons,List.flatten_cons]at he;obtain⟨e1,e2⟩:=List.append_inj he h0;rw[e1,ih (by simpa using h) (fun k u v h1 h2=>hl (k+1) u v (by simpa using h1) (by simpa using h2)) e2]
def GA (hok:ZR d)(hp:ZU d p):∃i,0<=i/\i<bX d/\bA (aL d) i=p:=by
 have hR:=pO.1 hp;have hf:=Vn _ _ hR;have hr:=mS hf;refine⟨bW (cX d) p.flatten,hr.1,hr.2,?_⟩;have hq:=pO.1 (zj hok (bW (cX d) p.flatten));refine Vo (by rw[hq.1,hR.1]) (fun k x y h1 h2=>?_) ?_
 ·obtain⟨a,ha⟩:=ao (l:=aL d) (i:=k) (by have:=aI h2;rw[hR.1]at this;exact this);have e1:=(hq.2 k a x ha h1).1;have e2:=(hR.2 k a y ha h2).1;omega
 ·rw[uj];exact sj hf
def Vp (hok:ZR d){r:List Nat}(hr:Z6 d r){b:Int}(hb:0<=b/\b<bX d)(hmax:∀j,0<=j->j<bX d->bE d (bA (aL d) j)<=bE d (bA (aL d) b))(hfirst:∀j,0<=j->j<b->bE d (bA (aL d) j)<bE d (bA (aL d) b)):
  bA (aL d) b=jl d r/\bE d (bA (aL d) b)=oI d r:=by
 obtain⟨hP,hT,hall⟩:=EU hok hr;obtain⟨i,i0,i1,hi⟩:=GA hok hP;have eP:∀j,bE d (bA (aL d) j)=fI d (fixC (bA (aL d) j)):=fun j=>pL hok (zj hok j);have ei:bE d (bA (aL d) i)=oI d r:=by rw[eP,hi,hT]
 have h1:=hmax i i0 i1;obtain⟨h2,h3⟩:=hall _ (zj hok b);rw[<- eP]at h2 h3;have hS:bE d (bA (aL d) b)=oI d r:=O
 refine⟨?_,hS⟩;rcases h3 hS with h|h
 ·exact h
 ·exfalso;rw[<- hi,uj,uj]at h;have hpos:∀c∈cX d,1<=c:=pA fun p hp=>(kU hok p hp).2.2.1;rcases Int.lt_trichotomy i b with g|g|g
  ·have:=hfirst i i0 g;omega
  ·rw[g]at h;exact Gy _ h
  ·exact Gz h (CK hpos hb.1 g i1)
theorem DK (hok:ZR d)(hq:ZU d q):∀k,k<=(aB d).length->∃b r,Rnd d q k b r
 |0,_=>⟨false,q,.start hq⟩
 |k+1,h=>by
  obtain⟨b,r,hr⟩:=DK hok hq k O;obtain⟨v,hv⟩:=ao (l:=aB d) (i:=k) O;by_cases hb:iW d r v
  ·exact⟨b,r,hr.F7 hv hb⟩
  ·exact⟨true,_,hr.step hok hv hb⟩
def Qs (hok:ZR d)(h6:d.C.length<=6)(hp:ZU d p):∃q n,Imp d p q n/\isLocal d q:=by
 refine V2 fun hno=>?_;have hall:∀n,∃q,Imp d p q n:=by
  intro n
  induction n with
  |zero=>exact⟨p,.start hp⟩
  |succ n ih =>
   obtain⟨q,hq⟩:=ih;obtain⟨b,r,hr⟩:=DK hok hq.ok (aB d).length ZI;cases b with
   |false=>exact absurd ⟨q,n,hq,hr.done.2⟩ hno
   |true=>exact⟨r,hq.round hr⟩
 obtain⟨q,hq⟩:=hall 40000000000000001;have:=hq.bound hok h6;omega
def Qt (hok:ZR d)(hp:ZU d p)(hm:∀q,ZU d q->bE d q<=bE d p):isLocal d p:=by
 refine V2 fun hl=>?_;obtain⟨v,hv⟩:=YD.1 hl;obtain⟨hvm,hb⟩:=YO.1 hv;have hg:=DJ hok hp hvm hb;have ho:=DH hok hp hvm;have h1:=hm _ ho;rw[pL hok ho,pL hok hp]at h1;omega
structure Top (d:ZM)(b:Nat):Prop where
 lt:(b:Int)<bX d
 max:∀q,ZU d q->bE d q<=bE d (bA (aL d) b)
 first:∀j:Int,0<=j->j<b->bE d (bA (aL d) j)<bE d (bA (aL d) b)
def Qu (hok:ZR d)(hn:1<=bX d)(h:nnn d ((bX d).toNat-1) b):Top d b where
 lt:=by have:=h.le;omega
 max q hq:=by
  obtain⟨i,i0,i1,rfl⟩:=GA hok hq;have:=h.max i.toNat O;rw[Yg i0]at this;exact this
 first j j0 j1:=by
  have:=h.first j.toNat O;rw[Yg j0]at this;exact this
def Gw (H:ZJ)(K:ZP->ZJ->Prop)(hK:K (.ret (cM dS)) H):ag prog G0 50 [] H K:=by
  refine ag.Z ⟨_,func50,rfl,rfl⟩ fun hcl=>?_;have e:cM dS=.agg [aa 2,.Q 3 [aa 2,.Q 0 [],.Q 1 [.Q 2 [aa 1,aa 1]],aa 2,.Q 1 [aa 0],.Q 0 [],aa 2,.Q 1 [aa 1],.Q 0 []],.lit (.int .u64 6),.Q 1 [.Q 2 [aa 0,aa 2],.Q 4 [aa 10,aa 0,aa 0,aa 10]]]:=rfl;rw[e]at hK;refine ag.sw (n:=14) (rs:=[.cell 0 38]) func50 ?_;refine W.sq ?_;simp only[go_sem,bf];refine W.sq ?_;simp only[go_sem,bf]
  repeat (refine⟨ZG,?_⟩)
  refine W.vs ?_;simp only[go_sem,bf];refine aq.bC aJ hcl (.ext _ _) (FzL.agg ?_) hK
  repeat (first|exact FzL.nil|refine FzL.cons ?_ ?_|exact Fz.lit _|exact Fz.nil|refine FzL.U O (bH H _ _ ZF) rfl ?_)
def A9 (a1 a2 b1 b2 c1 c2 e1 e2 n m:Int)(mm:Nat)(hmm:m=mm)(hp:ZU dS [[a1,a2],[b1,b2]])(hres:∀q k,Imp dS [[a1,a2],[b1,b2]] q k->isLocal dS q->q=[[c1,c2],[e1,e2]]/\k=mm)
    (hq:eM (bE dS [[c1,c2],[e1,e2]]) (dS.X ^ dS.C.length)=.agg [aa n,aa 1]) (H:ZJ) (K:ZP->ZJ->Prop) (hK:K (.ret (.lit (.bool true))) H):
    ag prog G0 51 [.agg [aa a1,aa a2],.agg [aa b1,aa b2],.agg [aa c1,aa c2],.agg [aa e1,aa e2],aa n,aa m] H K:=by
  refine ag.Z ⟨_,func51,rfl,rfl⟩ fun hcl=>?_;refine ag.sw (n:=47) (rs:=[.tmp 12]) func51 ?_;refine W.sq ?_;simp only[go_sem,bf];obtain⟨R,hR⟩:∃R,R=ext H [.J 0 97 [aa a1,aa a2],.J 0 97 [aa b1,aa b2],.J 0 97 [aa c1,aa c2],.J 0 97 [aa e1,aa e2]]:=⟨_,rfl⟩
  have nR:R.A=H.A+4:=hR▸rfl
  have oR:ZN H R:=hR▸.ext _ _
  have g0:R.get H.A=some (.J 0 97 (ints [a1,a2])):=by rw[hR];exact dA ..
  have g1:R.get (H.A+1)=some (.J 0 97 (ints [b1,b2])):=by rw[hR];exact bH H _ 1 (ZF)
  have g2:R.get (H.A+2)=some (.J 0 97 (ints [c1,c2])):=by rw[hR];exact bH H _ 2 (ZF)
  have g3:R.get (H.A+3)=some (.J 0 97 (ints [e1,e2])):=by rw[hR];exact bH H _ 3 (ZF)
  simp only[aa]at hR;rw[<- hR];clear hR;have l0:=ae g0;have l1:=ae g1;have l2:=ae g2;have l3:=ae g3;refine W.en (fun E=>E 4=aa n /\ E 5=aa m /\ E 6=.M H.A 0 0 /\ E 7=.M (H.A+1) 0 0 /\ E 8=.M (H.A+2) 0 0 /\ E 9=.M (H.A+3) 0 0) (by simp only[go_sem,bf]) fun E ⟨f4,f5,f6,f7,f8,f9⟩=>?_
  have er:List.drop 1 (List.drop 1 (List.replicate 2 (ZK.lit (.slice none 0 0))))=[]:=rfl;have two:∀(X:ZJ) (L i j:Nat) (x1 x2 y1 y2:Int),L<X.A->i<X.A->j<X.A->X.get L=some (.J 0 42 [.U i 0 0 2 1,.U j 0 0 2 1])->X.get i=some (.J 0 97 (ints [x1,x2]))->X.get j=some (.J 0 97 (ints [y1,y2]))->rf X (.U L 0 0 2 1) [[x1,x2],[y1,y2]]:=fun X L i j x1 x2 y1 y2 hL hi hj h0 h1 h2 =>
    .inr ⟨L,0,_,[.U i 0 0 2 1,.U j 0 0 2 1],rfl,hL,h0,rfl,fun k l hk=>match k,hk with
      |0,hk=>by cases hk;exact⟨i,0,_,rfl,hi,h1⟩
      |1,hk=>by cases hk;exact⟨j,0,_,rfl,hj,h2⟩⟩
  have x0:∀b,(ext R [b]).get H.A=R.get H.A:=fun b=>aX O;have x1:∀b,(ext R [b]).get (H.A+1)=R.get (H.A+1):=fun b=>aX O;refine W.seq ?_;refine W.dr 14 [0,0,0,6,15,31,63,63,63,63,0,1151,3327,7679] mixed ?_;simp only[go_sem,f4,f5,f6,f7,f8,f9,l0,l1,er,bf];refine⟨cM dS,[],bL.pure fun H2=>Gw H2 _ ⟨rfl,rfl⟩,?_⟩;simp only[go_sem,f6,f7,er,bf];refine⟨ZG,ZG,.nf [aE [[c1,c2],[e1,e2]],.agg [aa n,aa 1],aa mm,aa 0],[H.A,H.A+1,R.A],bL.mk (fun i hi=>by rw[aM];simp at hi ⊢;omega) fun H2 h2 hn2=>?_,?_⟩
  · rw[aM]at hn2;simp only[Wl]at hn2;refine F9 dS nH ZG [[a1,a2],[b1,b2]] hp H2 (.U R.A 0 0 2 1) (two H2 R.A H.A (H.A+1) a1 a2 b1 b2 O O O ((h2 _ ZF).trans cI) ((h2 _ ZF).trans ((x0 _).trans g0)) ((h2 _ ZF).trans ((x1 _).trans g1))) _ fun q k hI hl=>?_;obtain⟨rfl,rfl⟩:=hres q k hI hl;rw[hq];exact⟨rfl,rfl⟩
  simp only[go_sem,f6,f7,er,bf];refine⟨⟨fun x h=>O,fun x h=>O,fun x h=>O⟩,?_⟩;obtain⟨R2,hR2⟩:∃R2,R2=ext (ext R [.J 0 42 [.U H.A 0 0 2 1,.U (H.A+1) 0 0 2 1]]) [.J 0 50 [.lit (.int .i64 n),.lit (.int .i64 1)]]:=⟨_,rfl⟩
  have nR2:R2.A=R.A+2:=by rw[hR2];rfl
  have r2o:∀id,id<R.A->R2.get id=R.get id:=fun id h=>by rw[hR2,aX (by rw[aM];omega),aX h]
  have q1:R2.get (R.A+1)=some (.J 0 50 [.lit (.int .i64 n),.lit (.int .i64 1)]):=by
    have e:(ext R [.J 0 42 [.U H.A 0 0 2 1,.U (H.A+1) 0 0 2 1]]).A=R.A+1:=(by rw[aM];rfl);rw[hR2,<- e];exact cI
  rw[<- hR2];clear hR2;refine W.en (fun E2=>E2 4=aa n /\ E2 5=aa mm /\ E2 8=.M (H.A+2) 0 0 /\ E2 9=.M (H.A+3) 0 0 /\ E2 13=aE [[c1,c2],[e1,e2]] /\ E2 14=.M (R.A+1) 0 0 /\ E2 15=aa mm /\ E2 16=aa 0) (by simp only[go_sem,f4,bf,f5,hmm,f8,f9]) fun E2 ⟨k4,k5,k8,k9,k13,k14,k15,k16⟩=>?_
  have y2:=ae ((r2o (H.A+2) O).trans g2);have y3:=ae ((r2o (H.A+3) O).trans g3);have yq:=ae q1;have eqQ:∀o1 o2,bI prog .eql 50 o1 o2 (.agg [.lit (.int .i64 n),.lit (.int .i64 1)]) (.agg [.lit (.int .i64 n),.lit (.int .i64 1)])=some (.lit (.bool true)):=fun o1 o2=>by rw[wC];simp
  refine W.seq ?_;refine W.dr 18 [0,1,3,7,7,23,63,127,255,511,511,2047,4095,8191,16383,16383,16383,114687] mixed ?_;simp only[go_sem,k4,k5,k8,k9,k13,k14,k15,k16,y2,y3,yq,eqQ,er,bf];have ovR:ZN H R2:=oR.trans ⟨O,r2o⟩;obtain⟨R3,hR3⟩:∃R3,R3=ext R2 [.J 0 42 [.U (H.A+2) 0 0 2 1,.U (H.A+3) 0 0 2 1]]:=⟨_,rfl⟩
  have nR3:R3.A=R2.A+1:=hR3▸rfl
  have r3o:∀id,id<R2.A->R3.get id=R2.get id:=fun id h=>by rw[hR3,aX h]
  have z0:=de hR3
  rw[<- hR3];clear hR3;have z2:=(r3o (H.A+2) O).trans ((r2o (H.A+2) O).trans g2);have z3:=(r3o (H.A+3) O).trans ((r2o (H.A+3) O).trans g3);refine⟨ZG,ZG,?_⟩;refine au.Z ((ag.frame (H:=R3) (args:=[aE [[c1,c2],[e1,e2]],.U R2.A 0 0 2 1]) (args':=[aE [[c1,c2],[e1,e2]],aE [[c1,c2],[e1,e2]]]) (v':=.lit (.bool (decide ([[c1,c2],[e1,e2]]=[[c1,c2],[e1,e2]])))) aJ rfl (fun i hi _=>match i,hi with
    |0,_=>sy _
    |1,_=>(two R3 R2.A (H.A+2) (H.A+3) c1 c2 e1 e2 O O O z0 z2 z3).fz (.refl _)) (AP [[c1,c2],[e1,e2]] [[c1,c2],[e1,e2]] ZF (fun r hr=>by simp at hr;rcases hr with rfl|rfl<;>simp) cZ _ ⟨_,rfl,.lit _⟩)).mono fun r H' hr=>?_)
  obtain⟨rfl,rfl⟩:=hr;rw[V8 rfl];refine⟨trivial,?_⟩;simp only[go_sem,bf];refine W.vs ?_;simp only[go_sem,bf];exact aq.bC aJ hcl (ovR.trans ⟨O,r3o⟩) (.lit _) hK
def Vk (hn:n<=H.A):Fz (fun id=>n<=id) (ext H [.J 0 e0 (ints a),.J 0 e1 [.U H.A 0 0 a.length 1]]) nx (.U (H.A+1) 0 0 1 1) (aE [a]) :=
  FzL.U O (bH H _ 1 ZF) rfl (.cons (FzL.U hn (dA ..) (by rw[aR,Nat.mul_one]) (Bc a)) .nil)
def Ba (hn:n<=H.A){b:List Int}:Fz (fun id=>n<=id) (ext H [.J 0 e0 (ints a),.J 0 e0 (ints b),.J 0 e1 [.U H.A 0 0 a.length 1,.U (H.A+1) 0 0 b.length 1]]) nx (.U (H.A+2) 0 0 2 1) (aE [a,b]) :=
  FzL.U O (bH H _ 2 ZF) rfl (.cons (FzL.U hn (dA ..) (by rw[aR,Nat.mul_one]) (Bc a)) (.cons (FzL.U O (bH H _ 1 ZF) (by rw[aR,Nat.mul_one]) (Bc b)) .nil))
def Gx (hok:ZR d)(hp:ZU d p):tt d p=decide (isLocal d p):=VA (ow hok hp)
def Vl (H:ZJ)(K:ZP->ZJ->Prop)(hK:K (.ret (.lit (.bool true))) H):ag prog G0 18 [] H K:=by
  refine ag.Z ⟨_,func18,rfl,rfl⟩ fun hcl=>?_;have fS:=uz nH;refine ag.sw (n:=97) (rs:=[.tmp 0]) func18 ?_;refine W.sq ?_;simp only[go_sem,bf];refine W.sq ?_;simp only[go_sem,bf];refine au.Z (Gw _ _ ⟨trivial,?_⟩);simp only[go_sem,fW,bq,bf];obtain⟨H1,hH1⟩:∃H1,H1=ext H [.J 0 38 [.lit (.int .i64 dS.X),.Q dS.C.length (aG dS.C),.lit (.int .u64 (dS.Y:Int)),.Q dS.nn.length (bj dS.nn)]]:=⟨_,rfl⟩
  have g1:=de hH1
  have n1:H1.A=H.A+1:=hH1▸rfl
  have o1:ZN H H1:=hH1▸.ext _ _
  rw[<- hH1];clear hH1;have l1:=ae g1;have p00:ZU dS [[0,0],[0,0]]:=A5 0 0 0 0 ZG;have p10:ZU dS [[0,1],[0,0]]:=A5 0 1 0 0 ZG;have p30:ZU dS [[1,1],[1,0]]:=A5 1 1 1 0 ZG;have fit1:mA [[0,0]]:=⟨ZF,fun r hr=>by simp at hr;subst hr;simp⟩
  refine W.sq ?_;simp only[go_sem,l1,bf]
  repeat (refine⟨ZG,?_⟩)
  refine au.qh aJ (.ext H1 _) (.cons (tq dS) (.cons (Ba (a:=[0,0]) (b:=[0,0]) ZI) .nil)) fun H4 o4=>xW dS fS ZG [[0,0],[0,0]] (qK nH p00) _ _ ⟨trivial,?_⟩;rw[Gx nH p00,V8 A6,ow nH p00];have l1:=ae ((o4.nb _ O).trans g1);simp only[go_sem,bf];refine W.sq ?_;simp only[go_sem,l1,bf]
  repeat (refine⟨ZG,?_⟩)
  refine au.qh aJ (o4.trans (.ext H4 _)) (.cons (tq dS) (.cons (Ba (a:=[0,1]) (b:=[0,0]) o4.A) .nil)) fun H5 o5=>xW dS fS ZG [[0,1],[0,0]] (qK nH p10) _ _ ⟨trivial,?_⟩;rw[Gx nH p10,W2 Gs,ow nH p10];have l1:=ae ((o5.nb _ O).trans g1);simp only[go_sem,bf];refine W.sq ?_;simp only[go_sem,l1,bf];refine au.Z (zy dS fS ZG _ _ (fun h=>absurd (by unfold eQ;rw[ep nH,Gt];rfl) h) fun b _ _ hB=>⟨trivial,?_⟩);obtain rfl:=Vj hB;rw[Gu,A7,A8];simp only[go_sem,bf];obtain⟨H6,hH6⟩:∃H6,H6=ext H5 [.J 0 50 [.lit (.int .i64 10),.lit (.int .i64 1)]]:=⟨_,rfl⟩
  have q1:=de hH6
  have n6:H6.A=H5.A+1:=hH6▸rfl
  have o6:ZN H1 H6:=by rw[hH6];exact o5.trans (.ext _ _)
  rw[<- hH6];clear hH6;have l1:=ae ((o6.nb _ O).trans g1);refine W.sq ?_;simp only[go_sem,l1,bf]
  repeat (refine⟨ZG,?_⟩)
  refine au.qh aJ (.ext H6 _) (.cons (tq dS) (.cons (Vk (a:=[0,0]) ZI) .nil)) fun H7 o7=>xW dS fS ZG [[0,0]] fit1 _ _ ⟨trivial,?_⟩;rw[U9];have lq:=ae ((o7.nb _ O).trans q1);have eqQ:∀o1 o2,bI prog .eql 50 o1 o2 (.agg [.lit (.int .i64 10),.lit (.int .i64 1)]) (.agg [.lit (.int .i64 10),.lit (.int .i64 1)])=some (.lit (.bool true)):=fun o1 o2=>by rw[wC];rfl
  simp only[go_sem,bf];refine W.sq ?_;simp only[go_sem,lq,eqQ,bf]
  repeat (refine⟨ZG,?_⟩)
  refine au.qh aJ (o7.trans (.ext H7 _)) (.cons (sy _) (.cons (Ba (a:=[0,1]) (b:=[0,1]) o7.A) .nil)) fun H8 o8=>AP [[0,1],[0,1]] [[0,1],[0,1]] ZG ZG _ _ ⟨trivial,?_⟩;rw[V8 (rfl:([[0,1],[0,1]]:List (List Int))=[[0,1],[0,1]])];simp only[go_sem,bf];refine W.sq ?_;simp only[go_sem,bf];refine au.Z (A9 0 1 0 0 0 1 0 1 10 1 1 rfl p10 (fun q k hI hl=>Gv hI hl Gs Vd Va) (by rw[A7];exact A8) _ _ ⟨trivial,?_⟩);simp only[go_sem,bf];refine au.Z (A9 0 0 0 0 0 0 0 0 5 0 0 rfl p00 (fun q k hI hl=>⟨hI.same (hI.loc A6),hI.loc A6⟩) (by rw[Vf];exact Vh) _ _ ⟨trivial,?_⟩);simp only[go_sem,bf];refine au.Z (A9 1 1 1 0 1 0 1 0 10 1 1 rfl p30 (fun q k hI hl=>Gv hI hl Vb Ve Vc) (by rw[Vg];exact A8) _ _ ⟨trivial,?_⟩);simp only[go_sem,bf];have oK:ZN H H8:=o1.trans (o6.trans o8)
  first
  |exact aq.bC aJ hcl oK (.lit _) hK
  | (refine W.vs ?_
     simp only[go_sem,bf];exact aq.bC aJ hcl oK (.lit _) hK)
end Go.Proofs
namespace Go.Hx
variable {P:Program} {G:Nat->Option (List ZK)} {all:Array Oper} {tail:St->Prop} {b i:Nat} {bs:List Nat} {acc:List (Nat × FP)} {K:FP->St->Prop} {s:St} {d:Option Tmp} {ty:TypeId} {pos:String} {aft:Array Edge} {g:Option (Nat × Bool)}
variable {H:ZJ}
def Nu (bs:List Nat):Ev.eC P G all tail bs i acc [] s=tail s:=by cases bs<;>rfl
def Nv (op:Op)(rest:List Oper):Ev.eC P G all tail (b :: bs) i acc (⟨d,op,ty,pos,aft,none⟩ :: rest) s =
  Ev.bV P G ⟨d,op,ty,pos,aft,none⟩ (fun f s'=>jU b f acc/\Ev.eC P G all tail bs (i+1) (jc i f acc) rest s') s:=by
 simp[Ev.eC,iu,bG]
def Nw (fv:Operand)(args:Array Operand)(ats:Array TypeId):Ev.bV P G ⟨d,.call ⟨.value fv,args,ats⟩,ty,pos,aft,g⟩ K s =
  ∃v e k f,Ev.rJ P G (ay G s.ρ fv) (args.toList.map (ay G s.ρ)) s.H v e k f/\K f ⟨aW s.ρ d v,⟨Ev.dP e s.H.get,s.H.A+k⟩⟩:=rfl
def Nx (x:Operand):Ev.bV P G ⟨d,.move x,ty,pos,aft,g⟩ K s=bV P G ⟨d,.move x,ty,pos,aft,g⟩ K s:=rfl
def Ny (t:TypeId)(x:Operand):Ev.bV P G ⟨d,.load t x,ty,pos,aft,g⟩ K s=bV P G ⟨d,.load t x,ty,pos,aft,g⟩ K s:=rfl
def Nz (x:Operand):Ev.bV P G ⟨d,.nilCheck x,ty,pos,aft,g⟩ K s=bV P G ⟨d,.nilCheck x,ty,pos,aft,g⟩ K s:=rfl
def NA (t:TypeId)(x:Operand)(f:Nat):Ev.bV P G ⟨d,.fieldAddr t x f,ty,pos,aft,g⟩ K s=bV P G ⟨d,.fieldAddr t x f,ty,pos,aft,g⟩ K s:=rfl
def NB (t:TypeId)(x y:Operand):Ev.bV P G ⟨d,.makeSlice t x y,ty,pos,aft,g⟩ K s=bV P G ⟨d,.makeSlice t x y,ty,pos,aft,g⟩ K s:=rfl
def NC (t:TypeId)(l:Nat)(p:Array (Nat × Operand)):Ev.bV P G ⟨d,.buildSlice t l p,ty,pos,aft,g⟩ K s=bV P G ⟨d,.buildSlice t l p,ty,pos,aft,g⟩ K s:=rfl
def ND (t:TypeId)(p:Array (Nat × Operand)):Ev.bV P G ⟨d,.build t p,ty,pos,aft,g⟩ K s=bV P G ⟨d,.build t p,ty,pos,aft,g⟩ K s:=rfl
def NF (t:TypeId)(x:Operand):Ev.bV P G ⟨d,.box t x,ty,pos,aft,g⟩ K s=bV P G ⟨d,.box t x,ty,pos,aft,g⟩ K s:=rfl
def NG (op:BinOp)(t:TypeId)(x y:Operand)(u:TypeId):Ev.bV P G ⟨d,.binOp op t x y u,ty,pos,aft,g⟩ K s=bV P G ⟨d,.binOp op t x y u,ty,pos,aft,g⟩ K s:=rfl
def CM (f:Builtin)(args:Array Operand)(ats:Array TypeId):Ev.bV P G ⟨d,.call ⟨.builtin f,args,ats⟩,ty,pos,aft,g⟩ K s=bV P G ⟨d,.call ⟨.builtin f,args,ats⟩,ty,pos,aft,g⟩ K s:=rfl
def NH (a:Nat):Ev.rL a (a+1)=[a]:=by
 unfold Ev.rL;rw[XE];simp[Wy]
def NI {bk:ZQ}:(⟨Ev.dP (Ev.ki H.A (H.A+1) (fun _=>true) (ext ⟨fun _=>none,H.A⟩ [bk]).get) H.get,H.A+1⟩:ZJ)=ext H [bk]:=by
 unfold ext;simp only[Wl];congr 1
 funext j
 unfold Ev.dP Ev.ki;by_cases h:H.A<=j/\j<H.A+1
 ·have:j=H.A:=O
  subst this;simp
 ·simp[h]
def aD.NJ {lo k g':Nat}{e e':TypeId}{v:ZK}{cs c:List ZK}(h:aD lo H e v cs)(hk:H.get k=some (.J g' e' c))(hne:e'≠e):∀g n,v≠.U k g 0 n 1:=fun g n hv=>by
 rcases h with ⟨h1,_⟩|⟨i,g2,_,_,h3,h4⟩
 ·rw[h1]at hv;cases hv
 ·rw[h3]at hv;obtain rfl:=(ZK.U.inj hv).1;rw[h4]at hk;cases hk;exact hne rfl
end Go.Hx
namespace Go.Proofs
open Go.Hx Tryz
variable {a:Int}{g k:Nat}{ch:Nat->List Int}{d:ZM}{D:ZS}
def Uj {H:ZJ}{ib m:Nat}(hm:1<=m/\m<2 ^ 30)(hi:ib<H.A)(hg:H.get ib=some (.J 0 3 [aa a])):
  Ev.rJ prog G0 (.Z 95 [] []) [.U ib 0 0 1 1,aa m] H (.U H.A 0 0 m 1) (Ev.ki H.A (H.A+1) (fun _=>true) (ext ⟨fun _=>none,H.A⟩ [.J 0 3 (ints (List.replicate m a))]).get) 1 ⟨Ev.rL H.A (H.A+1),[ib]⟩:=by
 have e:H.A+1-H.A=1:=O
 have hnx:(ext (⟨fun _=>none,H.A⟩:ZJ) [.J 0 3 (ints (List.replicate m a))]).A=H.A+1:=rfl;have:=Ev.rJ.mk (P:=prog) (G:=G0) (H:=H) (f:=95) (first:=[]) (cap:=[]) (args:=[.U ib 0 0 1 1,aa m]) (args':=[ah [a],aa m]) (v:=.U H.A 0 0 m 1) ⟨fun _=>none,H.A⟩ (ext ⟨fun _=>none,H.A⟩ [.J 0 3 (ints (List.replicate m a))]) (fun _=>False) (fun _=>true) [ib] aJ
  (fun r hr=>by rw[List.mem_singleton.1 hr];exact hi) rfl (by rw[hnx];exact XV _) (fun _ h=>h.elim) (fun _ _=>rfl) rfl
  (fun H2 hag i h h'=>match i,h with
   |0,_=>Fz.ints (fun h=>h) ((hag ib ZF).trans hg) rfl (fun j hj=>by
     have:j=0:=(by simp at hj;omega);subst this;rfl)
   |1,_=>.lit _)
  (F3 a m hm ⟨fun _=>none,H.A⟩ _ ⟨rfl,rfl⟩) ?_ ?_
 ·rw[hnx,e]at this;exact this
 ·exact .U (.inr ⟨ZI,by rw[hnx];exact W3 _,rfl⟩)
 ·intro id h1 h2 _;have:id=H.A:=by rw[hnx]at h2;omega
  subst this;exact⟨0,_,_,cI (H:=⟨fun _=>none,H.A⟩),fun i hi=>by simp only[ints,VO];exact .lit _⟩
def cS (l:List Int):Nat:=(l.map Int.natAbs).sum
def uG (a b:List Int):cS (a++b)=cS a+cS b:=by simp[cS]
def qR (x:Int)(l:List Int):cS (x :: l)=x.natAbs+cS l:=by simp[cS]
def Ax (n:Nat):cS (List.replicate n 0)=0:=by simp[cS]
def EV (l:List Int)(i:Nat)(a:Int):cS (l.set i a)<=cS l+(a-l.getD i 0).natAbs:=by
 induction l generalizing i with
 |nil=>simp[cS]
 |cons x l ih =>
  cases i with
  |zero=>simp only[List.set_cons_zero,qR,ZA];omega
  |succ i =>
   have:=ih i;simp only[List.set_cons_succ,qR,ZB];omega
def xy (l:List Int)(i:Nat):(l.getD i 0).natAbs<=cS l:=by
 induction l generalizing i with
 |nil=>simp[cS]
 |cons x l ih =>
  cases i with
  |zero=>simp only[qR,ZA];omega
  |succ i=>have:=ih i;simp only[qR,ZB];omega
def Sn {l:List Int}(h:a∈l):a.natAbs<=cS l:=by
 obtain⟨i,hi⟩:=VG.1 h;have:=xy l i;rw[VB,hi]at this;exact this
def So (l:List Int):(iE l).natAbs<=cS l:=by
 by_cases h:l=[]
 ·subst h;simp[iE]
 ·exact Sn (wQ h)
def Sp (l:List Int)(n:Nat):cS (l.take n)+cS (l.drop n)=cS l:=by rw[<- uG,V5]
def Sq (cs cd:Nat)(ex:List Int):lj (cs+1) cd ex=lj cs cd ex++[iE (jI cd cs ex)]:=by unfold lj;rw[Wy,Wk];rfl
def Ay (cs cd:Nat)(ex:List Int):cS (lj cs cd ex)<=cS (ex.take (cs*cd)):=by
 induction cs with
 |zero=>simp[lj,cS]
 |succ cs ih =>
  rw[Sq,uG,qR];have h1:=So (jI cd cs ex);have h2:ex.take ((cs+1)*cd)=ex.take (cs*cd)++jI cd cs ex:=by
   unfold jI;rw[Wx,XJ,List.take_add]
  have h3:cS []=0:=rfl;rw[h2,uG,h3];omega
def sS (l:List Int)(n:Nat):cS (l.take n)<=cS l:=by have:=Sp l n;omega
def EW (ab be ex:List Int)(n:Nat):cS (eh ab be n ex)<=cS ex+cS (be.take n):=by
 induction n with
 |zero=>simp[eh]
 |succ n ih =>
  rw[xw];have h1:=EV (eh ab be n ex) (ab.getD n 0).toNat ((eh ab be n ex).getD (ab.getD n 0).toNat 0+be.getD n 0);have h2:cS (be.take n)+(be.getD n 0).natAbs<=cS (be.take (n+1)):=by
   by_cases h:n<be.length
   ·obtain⟨x,hx⟩:=ao h;rw[aU hx,uG,qR,VB,hx];show cS (be.take n)+x.natAbs<=_;omega
   ·rw[Vy O,Vy O,VB,VD O];simp
  omega
def EX (hg:∀w,w<D.N->(D.nr w).natAbs<=g)(k:Nat):∀n,n<=D.N->cS (bP D k n)<=g*n:=by
 intro n
 induction n with
 |zero=>intro _;unfold bP;rw[Ax];exact WO _
 |succ n ih =>
  intro hn;have h1:=ih O;have h2:=hg n O;rw[XU,Nat.mul_one];unfold bP;split
  ·have:=EV (bP D k n) (D.br k n) ((bP D k n).getD (D.br k n) 0+D.nr n);omega
  ·omega
def EY (hg:∀w,w<D.N->(D.nr w).natAbs<=g):∀(m k:Nat),k+1+m=D.K->cS (EF D k)<=g*D.N:=by
 intro m
 induction m with
 |zero =>
  intro k hk;rw[At O];exact EX hg k _ (Nat.le_refl _)
 |succ m ih =>
  intro k hk;rw[Au O];have h1:=ih (k+1) O;have h2:=EW (dh D (k+1) D.N) (BF D (k+1)) (bP D k D.N) (D.cs (k+1));have h3:=sS (BF D (k+1)) (D.cs (k+1));have h4:cS (BF D (k+1))<=cS (EF D (k+1)):=Wm (Ay _ _ _) (sS _ _);rw[uE O,Ax]at h2;rw[uE O];omega
def Sr (hg:∀w,w<D.N->(D.nr w).natAbs<=g)(hk:k<D.K)(hk0:0<k)(n:Nat):cS (eh (dh D k D.N) (BF D k) n (bP D (k-1) D.N))<=g*D.N:=by
 have h1:=EY hg (D.K-1-k) k O;have h2:=EW (dh D k D.N) (BF D k) (bP D (k-1) D.N) n;have h3:=sS (BF D k) n;have h4:cS (BF D k)<=cS (EF D k):=Wm (Ay _ _ _) (sS _ _);rw[uE O,Ax]at h2;rw[uE O];omega
def Ss (l:List Int):∀n,(SS n fun c=>l.getD c 0).natAbs<=cS (l.take n):=by
 intro n
 induction n with
 |zero=>rw[oh];simp
 |succ n ih =>
  rw[fH];by_cases h:n<l.length
  ·obtain⟨x,hx⟩:=ao h;rw[aU hx,uG,qR,VB,hx];show _<=cS (l.take n)+(x.natAbs+cS [])
   simp only[Option.getD_some];omega
  ·rw[Vy O]at ih;rw[Vy O,VB,VD O];simp only[Option.getD_none,XP];exact ih
def Su (hg:∀w,w<D.N->(D.nr w).natAbs<=g):∀n,n<=D.N->(SS n D.nr).natAbs<=g*n:=by
 intro n
 induction n with
 |zero=>intro _;rw[oh];simp
 |succ n ih =>
  intro hn;have:=ih O;have:=hg n O;rw[fH,XU,Nat.mul_one];omega
def Sv (hok:ZR d)(h6:d.C.length<=6)(r:List Nat):(∀w,w<(aw d r).N->((aw d r).nr w).natAbs<=18662400000000)/\18662400000000*(aw d r).N<=20000000000000000:=by
 have h1:=(Aa hok.nA).1;rw[xB]at h1;refine⟨fun w _=>?_,by show 18662400000000*bO d.C<=_;omega⟩;have:=tn hok h6 (iV hok w);show (dC d (wv d w)).natAbs<=_;omega
def dW (D:ZS)(ch:Nat->List Int)(j:Nat):ZV:=⟨fun k=>dh D k D.N,fun k=>eK D k D.N,fun k=>if j<=k+1 then EF D k else bP D k D.N,fun k=>if j<=k then BF D k else List.replicate (D.cs k) 0,ch⟩
def q8 (D:ZS):Nat->List Int:=fun k=>List.replicate (D.cs k) 0
def fg (D:ZS):Nat->List Int:=fun k=>List.replicate (D.cs k) (-1)
def ka (D:ZS)(j:Nat):Int:=if D.K=0\/j=0 then sK D else 0
def AJ (hc:∀k,k<D.K->(ch k).length=D.cs k)(j:Nat):(dW D ch j).Len D D.K:=by
 refine⟨fun k _=>pU D k _,fun k _=>qQ D k _,fun k _=>?_,fun k _=>?_,hc⟩
 ·unfold dW;simp only;split
  ·exact As D k
  ·exact nk D k _
 ·unfold dW;simp only;split
  ·exact EJ ..
  ·simp
def Tl (D:ZS)(ch:Nat->List Int):xO D.K (jo D (q8 D) ch D.N) (dW D ch D.K):=fun k j hk=>by
 have e1:(if D.K<=k then BF D k else List.replicate (D.cs k) 0)=List.replicate (D.cs k) 0:=Vx O;have e2:(if D.K<=k+1 then EF D k else bP D k D.N)=bP D k D.N:=by
  split
  ·exact At (O)
  ·rfl
 unfold dO jo dW q8;simp only[e1,e2]
def AK (hk:k<D.K):cU D (dW D ch (k+1)) k=BF D k:=by
 unfold cU BF;have:(dW D ch (k+1)).ex k=EF D k:=VA ZI;rw[this]
def Tm (hk:k<D.K):xO D.K (uW D (dW D ch (k+1)) k) (dW D ch k):=fun k' j hk'=>by
 have hA:=AK (ch:=ch) hk;have e1:fq (dW D ch (k+1)).be k (cU D (dW D ch (k+1)) k) k'=if k<=k' then BF D k' else List.replicate (D.cs k') 0:=by
  by_cases e:k'=k
  ·rw[e,lJ,hA,VA ZI]
  ·rw[j9 e];show (if k+1<=k' then BF D k' else List.replicate (D.cs k') 0)=_;by_cases h:k<=k'
   ·rw[VA h,VA O]
   ·rw[Vx h,Vx O]
 have e2:(if 0<k then fq (dW D ch (k+1)).ex (k-1) (eh ((dW D ch (k+1)).ab k) (cU D (dW D ch (k+1)) k) (D.cs k) ((dW D ch (k+1)).ex (k-1))) else (dW D ch (k+1)).ex) k'=if k<=k'+1 then EF D k' else bP D k' D.N:=by
  by_cases h0:0<k
  ·rw[VA h0,hA];by_cases e:k'=k-1
   ·rw[e,lJ,VA O];have h1:(dW D ch (k+1)).ex (k-1)=bP D (k-1) D.N:=Vx O;have h2:=Au (D:=D) (k:=k-1) O;rw[Nat.sub_add_cancel h0]at h2;rw[h1,h2];rfl
   ·rw[j9 e];show (if k+1<=k'+1 then EF D k' else bP D k' D.N)=_;by_cases h:k<=k'+1
    ·rw[VA h,VA O]
    ·rw[Vx h,Vx O]
  ·rw[Vx h0];show (if k+1<=k'+1 then EF D k' else bP D k' D.N)=_;rw[VA O,VA O]
 unfold dO uW dW at *
 simp only at e1 e2;simp only[e1,e2]
def Tn (hk:k<D.K):ir D (dW D ch (k+1)) k (D.cs k) (ka D (k+1))=ka D k:=by
 have hA:=AK (ch:=ch) hk;have h0:ka D (k+1)=0:=by unfold ka;rw[Vx O]
 unfold ir;rw[h0,hA];by_cases h:0<k
 ·rw[VA h];unfold ka;rw[Vx O]
 ·have:k=0:=O
  subst this;rw[Vx h];unfold ka sK;rw[VA O,Vx O];simp
def FB :∀(f need:Nat) (out r:List Nat),kr d f need out=some r->r.length<=out.length+f:=by
 intro f
 induction f with
 |zero =>
  intro need out r h;unfold kr at h;split at h
  ·cases h;omega
  ·cases h
 |succ f ih =>
  intro need out r h;unfold kr at h;split at h
  ·cases h;omega
  ·split at h
   ·cases h
   ·have:=ih _ _ r h;rw[List.length_append,Wl]at this;omega
def FC (hok:ZR d){r:List Nat}(hr:Z6 d r):∀k,k<r.length->1<=(aw d r).cs k/\(aw d r).cs k<=1024/\1<=(aw d r).cd k/\(aw d r).cd k<=4/\(aw d r).cs k*(aw d r).cd k<=4096:=fun k hk=>by
 obtain⟨v,hv⟩:=ao hk;have hvd:r.getD k 0=v:=gT hv;have hm:=hr.mem v (an hv);obtain⟨x,hx⟩:=ao (fQ.1 hm).1;obtain⟨hrn,hxp,_,_⟩:=tp hok hx;have hxc:=hok.n.L x (an hx);obtain⟨e1',e2'⟩:=jF hx O;have ecs:(aw d r).cs k=bB d.C x:=by show bT d (r.getD k 0)=_;rw[hvd];exact e1'
 have ecd:((aw d r).cd k:Int)=x.L:=by show (cO d (r.getD k 0):Int)=_;rw[hvd];exact e2'
 have hsz0:=hok.nA.size;rw[lF]at hsz0;have:=wW hxp hok.n.L;have h1:=sL hok hr k hk;have a1:(aw d r).cs k<=1024:=O
 have a2:(aw d r).cd k<=4:=O
 exact⟨h1,a1,O,a2,YF a1 a2⟩
end Go.Proofs
