/- Own work: contracts. -/
import Derived.Test.YtebhdkihcdmmjaaGreatConA
set_option linter.all false
set_option maxHeartbeats 8000000
set_option maxRecDepth 100000
namespace Go.Proofs
open Go.Hx Tryz
variable {g:Int}{c:List Int}{ns:List ZM}{D k n v:Nat}{p:Prop}{H H':ZK}{x:ZM}{d:ZN}
def AK:ZL:=.agg [.lit (.int .i64 0),af [],af [],af [],af []]
def AL (g:Int)(ns:List ZM):ZL:=.agg [.lit (.int .i64 g),eQ ns,af (au ns),jk (aB ns),af (aE ((fD (aB ns)).getD []))]
structure RdS (g:Int)(ns:List ZM)(H H':ZK)(c:List Int)(s:List Nat):Prop where
 nx:H.A+5<=H'.A
 ov:ZP H H'
 b0:H'.get H.A=some (.J 0 90 [.lit (.int .i64 g),.Q ns.length (aG ns)])
 b1:H'.get (H.A+1)=some (.J 0 214 [.lit (.int .i64 0),.lit (.slice none 0 0),.lit (.slice none 0 0),.lit (.slice none 0 0),.lit (.slice none 0 0)])
 b2:H'.get (H.A+2)=some (.J 0 3 (ints c))
 b3:H'.get (H.A+3)=some (.J 0 34 (s.map aL))
 b4:H'.get (H.A+4)=some (.J 0 214 [.lit (.int .i64 g),.Q ns.length (aG ns),.U (H.A+2) 0 0 ns.length 1,.U (H.A+3) 0 0 ns.length 1,.lit (.slice none 0 0)])
 cl:c.length=ns.length
 sl:s.length=ns.length
def RdS.over {H2:ZK}{s:List Nat}(h:RdS g ns H H' c s)(o:ZP H' H2):RdS g ns H H2 c s where
 nx:=VM h.nx o.A
 ov:=h.ov.trans o
 b0:=(o.nf _ (by have:=h.nx;omega)).trans h.b0
 b1:=(o.nf _ (by have:=h.nx;omega)).trans h.b1
 b2:=(o.nf _ (by have:=h.nx;omega)).trans h.b2
 b3:=(o.nf _ (by have:=h.nx;omega)).trans h.b3
 b4:=(o.nf _ (by have:=h.nx;omega)).trans h.b4
 cl:=h.cl
 sl:=h.sl
def RdS.Tt {s:List Nat}(h:RdS g ns H H' c s)(hk:k<c.length)(x:Int):RdS g ns H (H'.upd (H.A+2) (.J 0 3 (setAt (ints c) k [.lit (.int .i64 x)]))) (c.set k x) s where
 nx:=h.nx
 ov:=h.ov.upd V _
 b0:=by rw[ah,Vg V];exact h.b0
 b1:=by rw[ah,Vg V];exact h.b1
 b2:=by rw[ah,Vh rfl,iR hk]
 b3:=by rw[ah,Vg V];exact h.b3
 b4:=by rw[ah,Vg V];exact h.b4
 cl:=by simpa using h.cl
 sl:=h.sl
def Tu {l:List Nat}{i:Nat}{x:Nat}(h:i<l.length):setAt (l.map aL) i [.lit (.int .u64 (x:Int))]=(l.set i x).map aL:=by
 rw[iX (by simpa using h)];simp[aL]
def RdS.Tv {s:List Nat}(h:RdS g ns H H' c s)(hk:k<s.length)(x:Nat):RdS g ns H (H'.upd (H.A+3) (.J 0 34 (setAt (s.map aL) k [.lit (.int .u64 (x:Int))]))) c (s.set k x) where
 nx:=h.nx
 ov:=h.ov.upd V _
 b0:=by rw[ah,Vg V];exact h.b0
 b1:=by rw[ah,Vg V];exact h.b1
 b2:=by rw[ah,Vg V];exact h.b2
 b3:=by rw[ah,Vh rfl,Tu hk]
 b4:=by rw[ah,Vg V];exact h.b4
 cl:=h.cl
 sl:=by simpa using h.sl
def RdS.l0 {s:List Nat}(h:RdS g ns H H' c s):H'.na H.A 0=some (90,[.lit (.int .i64 g),.Q ns.length (aG ns)]):=ag h.b0
def RdS.l1 {s:List Nat}(h:RdS g ns H H' c s):H'.na (H.A+1) 0=some (214,[.lit (.int .i64 0),.lit (.slice none 0 0),.lit (.slice none 0 0),.lit (.slice none 0 0),.lit (.slice none 0 0)]):=ag h.b1
def RdS.l2 {s:List Nat}(h:RdS g ns H H' c s):H'.na (H.A+2) 0=some (3,ints c):=ag h.b2
def RdS.l3 {s:List Nat}(h:RdS g ns H H' c s):H'.na (H.A+3) 0=some (34,s.map aL):=ag h.b3
def RdS.l4 {s:List Nat}(h:RdS g ns H H' c s):H'.na (H.A+4) 0=some (214,[.lit (.int .i64 g),.Q ns.length (aG ns),.U (H.A+2) 0 0 ns.length 1,.U (H.A+3) 0 0 ns.length 1,.lit (.slice none 0 0)]):=ag h.b4
def xi {S:Nat->Prop}{nx:Nat}(ns:List ZM):Fz S H nx (.Q ns.length (aG ns)) (.Q ns.length (aG ns)):=by
 refine .Q rfl fun i hi _=>?_;have:∀(l:List ZM) (c:ZL),c∈aG l->Fz S H nx c c:=by
  intro l c hc;unfold aG at hc;obtain⟨r,hr,hc⟩:=XS.1 hc;obtain⟨x,_,rfl⟩:=Vu.1 hr;unfold ZM.cells at hc;simp only[List.mem_cons,List.not_mem_nil,or_false]at hc;rcases hc with rfl|rfl|rfl
  ·exact .lit _
  ·exact .ea _
  ·exact .bb _
 exact this ns _ (We _)
def Tw (g:Int)(hg:1<=g/\g<=60)(ns:List ZM)(sets:List Nat)(x:ZM)(hin:iI x.F ns.length)(hsm:fb (aT ns x))(hx1:(x.nb.length:Int)<2 ^ 38)(hx2:∀r∈x.nb,(r.length:Int)<2 ^ 38)(H:ZK)(ci si:Nat)
  (h2:H.get ci=some (.J 0 3 (ints (au ns)))) (h3:H.get si=some (.J 0 34 (sets.map aL))) (hs:sets.length=ns.length) (K:ZQ->ZK->Prop)
  (hK:K (.ret (.lit (.bool (mw g ns x)))) H):ae prog G0 174 [.agg [.lit (.int .i64 g),.Q ns.length (aG ns),.U ci 0 0 ns.length 1,.U si 0 0 ns.length 1,.lit (.slice none 0 0)],.agg [.lit (.int .i64 x.L),.Q x.F.length (ints x.F),bb x.nb]] H K:=by
 refine(ae.frame (H:=H) (args:=[.agg [.lit (.int .i64 g),.Q ns.length (aG ns),.U ci 0 0 ns.length 1,.U si 0 0 ns.length 1,.lit (.slice none 0 0)],.agg [.lit (.int .i64 x.L),.Q x.F.length (ints x.F),bb x.nb]]) (args':=[.agg [.lit (.int .i64 g),eQ ns,af (au ns),jk sets,.lit (.slice none 0 0)],uc x]) (v':=.lit (.bool (mw g ns x))) aF rfl (fun i hi _=>?_) (Tq g hg ns sets x hin hsm hx1 hx2 cW _ ⟨_,rfl,.lit _⟩)).mono ?_
 ·match i,hi with
  |0,_ =>
   refine .agg rfl fun i hi _=>?_
   match i,hi with
   |0,_=>exact .lit _
   |1,_=>exact xi _
   |2,_ =>
    have:=Fz.ud (nx:=0) h2 (n:=ns.length) (by rw[bD,eU]) (fun c hc=>by
     obtain⟨z,_,rfl⟩:=Vu.1 hc;exact⟨_,rfl⟩)
    show Fz _ _ _ _ (.Q (au ns).length (ints (au ns)));rw[eU];exact this
   |3,_ =>
    have:=Fz.ud (nx:=0) h3 (n:=ns.length) (by simp[hs]) (fun c hc=>by
     obtain⟨z,_,rfl⟩:=Vu.1 hc;exact⟨_,rfl⟩)
    show Fz _ _ _ _ (.Q sets.length (sets.map aL));rw[hs];exact this
   |4,_=>exact .lit _
  |1,_ =>
   refine .agg rfl fun i hi _=>?_
   match i,hi with
   |0,_=>exact .lit _
   |1,_=>exact .ea _
   |2,_=>exact .bb _
 ·rintro r H' ⟨rfl,rfl⟩;exact hK
def Tx (hx:ns[k]?=some x)(h0:∀q∈x.F,0<=q)(hm:(k:Int)∈x.F):¬jR (aB ns):=fun h=>by
 have hk:=aO (kI hx);have:=h k hk;rw[bI (kI hx)]at this;have h1:=rC (aB ns) (aB ns).length (bF x.F) k (by rw[iD h0];exact VD hm);unfold dP at this;rw[h1]at this;cases this
def Ty (g:Int)(ns:List ZM)(hf:xf ns)(H:ZK)(K:ZQ->ZK->Prop)(hK:K (.ret (if qj g ns then .nc [AL g ns,aa 0] else .nc [AK,aa 50])) H):ae prog G0 143 [eZ g ns] H K:=by
 refine ae.X ⟨_,func143,rfl,rfl⟩ fun hcl=>?_;have no:¬Z4 g ns->∀H',ZP H H'->aj prog G0 H K (.nc [.agg [.lit (.int .i64 0),.lit (.slice none 0 0),.lit (.slice none 0 0),.lit (.slice none 0 0),.lit (.slice none 0 0)],.lit (.int .i64 50)]) H':=fun h H' ov=>by
  rw[F3 h]at hK;refine aj.bB (v':=.nc [AK,aa 50]) aF hcl ov (.nc rfl fun i hi _=>?_) hK
  match i,hi with
  |0,_ =>
   refine .agg rfl fun i hi _=>?_
   match i,hi with
   |0,_=>exact .lit _
   |1,_=>exact .nil
   |2,_=>exact .nil
   |3,_=>exact .nil
   |4,_=>exact .nil
  |1,_=>exact .lit _
 refine ae.st (n:=140) (rs:=[.cell 2 214,.tmp 3]) func143 ?_;simp only[go_sem,eZ,eQ];have l1:=ag (cL H (.J 0 90 [.lit (.int .i64 g),.Q ns.length (aG ns)]) [.J 0 214 [.lit (.int .i64 0),.lit (.slice none 0 0),.lit (.slice none 0 0),.lit (.slice none 0 0),.lit (.slice none 0 0)]]);by_cases c1:g<1
 ·simp only[go_sem,c1];exact no (fun h=>by have:=h.g1;omega) _ (.ext _ _)
 by_cases c2:g > 60
 ·simp only[go_sem,l1,c1,c2];exact no (fun h=>by have:=h.g1;omega) _ (.ext _ _)
 by_cases c3:(ns.length:Int)<1
 ·simp only[go_sem,l1,c1,c2,c3];exact no (fun h=>by have:=h.n1;omega) _ (.ext _ _)
 by_cases c4:(ns.length:Int) > 8
 ·simp only[go_sem,l1,c1,c2,c3,c4];exact no (fun h=>by have:=h.n1;omega) _ (.ext _ _)
 simp only[go_sem,l1,c1,c2,c3,c4];refine W.dr 11 [0,0,2,6,14,0,32,96,224,511,0] mixed ?_;simp only[go_sem,l1]
 repeat (refine And.intro (by first|omega|(simp;done)|(simp;omega)|(intros;omega)|exact⟨rfl,V,V,kW _⟩) ?_)
 obtain⟨Hb,hHb⟩:∃Hb,Hb=ext (ext H [.J 0 90 [.lit (.int .i64 g),.Q ns.length (aG ns)],.J 0 214 [.lit (.int .i64 0),.lit (.slice none 0 0),.lit (.slice none 0 0),.lit (.slice none 0 0),.lit (.slice none 0 0)],.J 0 3 (List.replicate ns.length (.lit (.int .i64 0))),.J 0 34 (List.replicate ns.length (.lit (.int .u64 0)))]) [.J 0 214 [.lit (.int .i64 g),.Q ns.length (aG ns),.U (H.A+2) 0 0 ns.length 1,.U (H.A+3) 0 0 ns.length 1,.lit (.slice none 0 0)]]:=⟨_,rfl⟩
 rw[<- hHb];have R0:RdS g ns H Hb (List.replicate ns.length 0) (List.replicate ns.length 0):=by
  rw[hHb,ee];exact⟨by simp[aW],.ext _ _,cL ..,bM H _ 1 ZG,by rw[bM H _ 2 ZG];simp[ints,aa],by rw[bM H _ 3 ZG];simp[aL],bM H _ 4 ZG,ZG,ZG⟩
 have hcard:∀ {k:Nat},(∀x∈ns.take k,1<=x.L/\x.L<=4)->fb ((au ns).take k):=fun {k} h=>se (by simp[au];omega) fun c hc=>by
  rw[show (au ns).take k=au (ns.take k) by simp[au]]at hc;obtain⟨y,hy,rfl⟩:=Vu.1 hc;exact h y hy
 refine W.aS 37778930737057254867176 (by rfl) (fun ρ H'=>∃(k:Nat) (c:List Int),ρ 50=aa k/\k<=ns.length/\ρ 5=aa (aC ((au ns).take k))/\RdS g ns H H' c (List.replicate ns.length 0)/\Hb.A<=H'.A/\c.take k=(au ns).take k/\∀x∈ns.take k,1<=x.L/\x.L<=4) (fun ρ H=>ns.length-(iv (ρ 50)).toNat) ?_ ?_
 ·simp only[go_sem];exact⟨0,_,rfl,V,by simp[iM],R0,ZG⟩
 rintro ρ H' ⟨k,c,h50,hk,h5,R,hn,hc,hall⟩;refine W.vs ?_;have q0:=R.l0;have q1:=R.l1;have q2:=R.l2;have q4:=R.l4;have rn:=R.nx;by_cases hb:(k:Int)<ns.length
 ·obtain⟨x,hx⟩:=ay (l:=ns) (i:=k) V;have hxm:=an hx;have hne:=fQ hx;have e0:=oC hx;have e1:k*3+3<=(aG ns).length:=by rw[kq];omega
  have R2:=R.over (.ext H' [.J 0 76 [.lit (.int .i64 x.L),.Q x.F.length (ints x.F),bb x.nb]]);have p1:=R2.l1;have p2:=R2.l2;have p4:=R2.l4;have nb1:¬H.A+1=H'.A:=V
  have nb2:¬H.A+2=H'.A:=V
  have nb4:¬H.A+4=H'.A:=V
  by_cases d1:x.L<1
  ·simp only[go_sem,h50,p1,hb,hne,e0,e1,d1];exact no (fun h=>by have:=(h.node x hxm).1;omega) _ (R2.ov.upd V _)
  by_cases d2:x.L > 4
  ·simp only[go_sem,h50,p1,hb,hne,e0,e1,d1,d2];exact no (fun h=>by have:=(h.node x hxm).1;omega) _ (R2.ov.upd V _)
  have hall':∀y∈ns.take (k+1),1<=y.L/\y.L<=4:=fun y hy=>by
   rw[bd hx]at hy;rcases VH.1 hy with hy|hy
   ·exact hall y hy
   ·obtain rfl:=List.mem_singleton.1 hy;exact⟨V,V⟩
  have b2:=(hcard hall').prod;rw[bd (cS hx),jh]at b2;have w1:=Vd ((k:Int)+1) V;have w2:=Vd (aC ((au ns).take k)*x.L) V;have hkc:k<c.length:=by rw[R.cl];omega
  have p0:∀b,((ext H' [.J 0 76 [.lit (.int .i64 x.L),.Q x.F.length (ints x.F),bb x.nb]]).upd (H.A+2) b).na H'.A 0=some (76,[.lit (.int .i64 x.L),.Q x.F.length (ints x.F),bb x.nb]):=fun b=>by
   rw[lQ V];exact ag ef
  simp only[go_sem,h50,h5,p2,p4,p0,hb,hne,e0,e1,d1,d2,w1,w2];exact⟨V,by rw[aQ,aW];omega,⟨k+1,_,ZG,V,by rw[bd (cS hx),jh],R2.Tt hkc x.L,by rw[aQ,aW];omega,GB hc hkc (cS hx),fun y hy=>hall' y hy⟩,V⟩
 have ek:k=ns.length:=V
 subst ek;rw[Vi ZJ]at hall;rw[Vi (by rw[eU];omega)]at h5;have ec:c=au ns:=by
  rw[Vi (by rw[R.cl];omega),Vi (by rw[eU];omega)]at hc;exact hc
 subst ec;by_cases c5:aC (au ns) > 1024
 ·simp only[go_sem,h50,h5,q1,hb,c5];exact no (fun h=>by have:=h.size;omega) _ (R.ov.upd V _)
 simp only[go_sem,h50,h5,q4,hb,c5];refine W.aS 340282366920933627760096148915069392648 (by rfl) (fun ρ' H2=>∃(k:Nat) (s:List Nat),ρ' 82=aa k/\k<=ns.length/\RdS g ns H H2 (au ns) s/\H'.A<=H2.A/\s.take k=(aB ns).take k/\(∀j,k<=j->s.getD j 0=0)/\∀x∈ns.take k,bW x.F ns.length/\gF g ns x) (fun ρ' H=>ns.length-(iv (ρ' 82)).toNat) ?_ ?_
 ·simp only[go_sem];refine⟨0,_,rfl,V,R,rfl,fun j _=>?_,ZG⟩;rw[Vj,WJ];split<;>rfl
 rintro ρ' H2 ⟨k,s,h82,hk2,R2,hn2,hs,hs0,hall2⟩;refine W.vs ?_;have r2:=R2.nx;have q4:=R2.l4;by_cases hb2:(k:Int)<ns.length;rotate_left
 ·have es:s=aB ns:=by
   rw[Vi (by rw[R2.sl];omega),Vi (by simp[aB];omega)]at hs;exact hs
  subst es;rw[Vi V]at hall2;have hlt:∀p∈aB ns,p<2 ^ ns.length:=sh fun x hx q hq=>(hall2 x hx).1.2 q hq;have hsl:(aB ns).length=ns.length:=by simp[aB]
  have hlt64:∀p∈aB ns,p<2 ^ 64:=fun p hp=>Vn (hlt p hp) (Vr ZH V);have hto:=we (ps:=aB ns) (by rw[hsl];exact hlt) V;simp only[go_sem,h82,q4,hb2];have fzs:=Fz.ud (nx:=0) R2.b3 (n:=ns.length) (by simp[R2.sl]) (fun c hc=>by
   obtain⟨z,_,rfl⟩:=Vu.1 hc;exact⟨_,rfl⟩)
  refine ak.X (Ts (aB ns) V hlt64 _ _ (by show Fz _ _ _ _ (.Q (aB ns).length _);rw[hsl];exact fzs) _ ⟨trivial,?_⟩);have q1:=R2.l1;cases hso:(fD (aB ns)).isSome
  ·simp only[go_sem,q1];exact no (fun h=>by rw[hto.2 h.nL]at hso;cases hso) _ (R2.ov.upd V _)
  have hok:Z4 g ns:=⟨V,V,fun x hx=>⟨hall x hx,(hall2 x hx).1⟩,V,hto.1 hso,fun x hx=>(hall2 x hx).2⟩
  rw[F2 hok]at hK;have q1b:∀b,(H2.upd (H.A+4) b).na (H.A+1) 0=_:=fun b=>(lQ V).trans q1;simp only[go_sem,q1b,q4];have ovf:ZP H ((H2.upd (H.A+4) (.J 0 214 [.lit (.int .i64 g),.Q ns.length (aG ns),.U (H.A+2) 0 0 ns.length 1,.U (H.A+3) 0 0 ns.length 1,.Q (aE ((fD (aB ns)).getD [])).length (ints (aE ((fD (aB ns)).getD [])))])).upd (H.A+1) (.J 0 214 [.lit (.int .i64 g),.Q ns.length (aG ns),.U (H.A+2) 0 0 ns.length 1,.U (H.A+3) 0 0 ns.length 1,.Q (aE ((fD (aB ns)).getD [])).length (ints (aE ((fD (aB ns)).getD [])))])):=(R2.ov.upd V _).upd V _;refine aj.bB (v':=.nc [AL g ns,aa 0]) aF hcl ovf (.nc rfl fun i hi _=>?_) hK
  match i,hi with
  |1,_=>exact .lit _
  |0,_ =>
   refine .agg rfl fun i hi _=>?_
   match i,hi with
   |0,_=>exact .lit _
   |1,_=>exact xi _
   |2,_ =>
    have hg2:∀b b',((H2.upd (H.A+4) b).upd (H.A+1) b').get (H.A+2)=some (.J 0 3 (ints (au ns))):=fun b b'=>by rw[ah,Vg V,ah,Vg V];exact R2.b2
    show Fz _ _ _ (.U (H.A+2) 0 0 ns.length 1) (.Q (au ns).length (ints (au ns)));rw[<- eU ns];exact .ints (by show H.A<=_;omega) (hg2 _ _) ZG fun i hi=>by simp[gZ,hi]
   |3,_ =>
    have hg3:∀b b',((H2.upd (H.A+4) b).upd (H.A+1) b').get (H.A+3)=some (.J 0 34 ((aB ns).map aL)):=fun b b'=>by rw[ah,Vg V,ah,Vg V];exact R2.b3
    show Fz _ _ _ (.U (H.A+3) 0 0 ns.length 1) (.Q (aB ns).length ((aB ns).map aL));rw[<- hsl];refine .ny (by show H.A<=_;omega) (hg3 _ _) ZG fun j hj h2 h'=>?_;simp only[Nat.zero_add,Vw];exact .lit _
   |4,_=>exact .ea _
 obtain⟨x,hx⟩:=ay (l:=ns) (i:=k) V;have hxm:=an hx;have hne:=fQ hx;have e0:=oC hx;have e1:k*3+3<=(aG ns).length:=by rw[kq];omega
 obtain⟨f1,f2,f3⟩:=hf.2 x hxm;simp only[go_sem,h82,hb2,hne,e0,e1];obtain⟨H3,hH3⟩:∃H3,H3=ext H2 [.J 0 76 [.lit (.int .i64 x.L),.Q x.F.length (ints x.F),bb x.nb]]:=⟨_,rfl⟩
 have R3:RdS g ns H H3 (au ns) s:=by rw[hH3];exact R2.over (.ext _ _)
 have nn:H3.A=H2.A+1:=hH3▸rfl
 have gN:=dh hH3
 rw[<- hH3];have hks:k<s.length:=by rw[R2.sl];omega
 have s0:s.set k 0=s:=by
  apply V3;intro i;rw[W1];split
  ·rename_i h;subst h;have:=hs0 k ZJ;rw[Vj,Vf hks]at this;simp only[Option.getD_some]at this;rw[Vf hks,this]
  ·rfl
 refine W.aS 5316911981901723452329847966222259208 (by rfl) (fun ρ2 H4=>∃(j:Nat) (b:Int),ρ2 90=aa j/\j<=x.F.length/\ρ2 10=aa b/\bW (x.F.take j) ns.length/\(x.F.take j).getLast?.getD (-1)=b/\RdS g ns H H4 (au ns) (s.set k (bF (x.F.take j)))/\H3.A<=H4.A/\H4.get H2.A=some (.J 0 76 [.lit (.int .i64 x.L),.Q x.F.length (ints x.F),bb x.nb])/\¬(k:Int)∈x.F.take j)
  (fun ρ2 H=>x.F.length-(iv (ρ2 90)).toNat) ?_ ?_
 ·simp only[go_sem];exact⟨0,-1,rfl,V,rfl,.nil,rfl,by rw[show bF (x.F.take 0)=0 from rfl,s0];exact R3,gN,ZG⟩
 rintro ρ2 H4 ⟨j,b,h90,hj,h10,hp,hbl,R4,hn4,gN4,hself⟩;refine W.vs ?_;have r4:=R4.nx;have t1:=R4.l1;have t3:=R4.l3;have t4:=R4.l4;have tN:=ag gN4;by_cases hb3:(j:Int)<x.F.length
 ·obtain⟨a,ha⟩:=ay (l:=x.F) (i:=j) V;have ham:=an ha;have hane:=aZ ha;by_cases d1:a<=b
  ·simp only[go_sem,h90,h10,hb3,ha,hane,d1,t1];refine no (fun h=>?_) _ (R4.ov.upd V _);have hpl:=(h.node x hxm).2;have h0:=hpl.2 a ham;rcases Wo j with rfl|hk0
   ·simp at hbl;omega
   ·obtain⟨i,rfl⟩:∃i,j=i+1:=⟨j-1,V⟩
    obtain⟨b',hbj⟩:=ay (l:=x.F) (i:=i) V;rw[xe hbj]at hbl;have:=hpl.lt hbj ha V;simp at hbl;omega
  by_cases d2:a >= ns.length
  ·simp only[go_sem,h90,h10,hb3,ha,hane,d1,d2,t1,t4];exact no (fun h=>by have:=(h.node x hxm).2.2 a ham;omega) _ (R4.ov.upd V _)
  have h0:0<=a:=by
   rcases hg:(x.F.take j).getLast? with _|b'
   ·rw[hg]at hbl;simp at hbl;omega
   ·rw[hg]at hbl;have:=hp.2 b' (Zp hg);simp at hbl;omega
  by_cases d3:a=k
  ·have d1':¬(k:Int)<=b:=V;have d2':¬(k:Int) >= ns.length:=V;simp only[go_sem,h90,h10,hb3,ha,hane,d1',d2',d3,t1,t4];exact no (fun h=>Tx hx (fun q hq=>((h.node x hxm).2.2 q hq).1) (by rw[<- d3];exact ham) h.nL) _ (R4.ov.upd (id:=H.A+1) V _)
  obtain⟨u,rfl⟩:=Vm h0;have w1:=Vd ((j:Int)+1) V;have bm:bF (x.F.take j)<2 ^ 64:=lh fun p hp'=>by have:=hp.2 p hp';omega
  have v1:=fun t x y=>lP (P:=prog) (t:=t) (x:=x) (y:=y) (k':=.i64) (s:=u) V;have v2:=fun t x y=>j5 (P:=prog) (t:=t) (x:=x) (y:=y) (b:=2 ^ u) bm (Ww ZH V);have gs:(s.set k (bF (x.F.take j)))[k]?=some (bF (x.F.take j)):=VB hks;simp only[go_sem,h90,h10,hb3,ha,hane,d1,d2,d3,t4];refine W.dr 7 [0,1,0,7,15,0,32] mixed ?_;simp only[go_sem,h90,hb2,t3,t4,gs,v1,v2,w1]
  repeat (refine And.intro (by first|omega|(simp;done)|(simp;omega)|(intros;omega)|exact⟨rfl,V,V,kW _⟩) ?_)
  have R5:=R4.Tv (k:=k) (by simpa using hks) (bF (x.F.take j) |||2 ^ u);rw[YX]at R5;have esn:bF (x.F.take (j+1))=bF (x.F.take j) |||2 ^ u:=by rw[bd ha,vY];rfl
  refine⟨by rw[aQ];omega,⟨j+1,u,ZG,V,rfl,?_,by rw[xe ha];rfl,by rw[esn];exact R5,by rw[aQ];omega,by rw[ah,Vg V];exact gN4,fun hm=>?_⟩,V⟩
  ·rw[bd ha];exact hp.snoc ⟨V,V⟩ fun b' hb'=>by rw[hb']at hbl;simp at hbl;omega
  ·rw[bd ha]at hm;rcases VH.1 hm with hm|hm
   ·exact hself hm
   ·exact d3 (List.mem_singleton.1 hm).symm
 ·have hb3':=hb3;rw[Vi V]at hp hself R4;simp only[go_sem,h90,hb3,t4,tN];have hin:iI x.F ns.length:=fun q hq=>by have:=hp.2 q hq;omega
  refine ak.X (Tw g ⟨V,V⟩ ns _ x hin (oV V hp hall) f2 f3 _ (H.A+2) (H.A+3) R4.b2 R4.b3 R4.sl _ ⟨trivial,?_⟩);cases hnb:mw g ns x
  ·simp only[go_sem,t1];exact no (fun h=>by rw[F6 (h.nb x hxm)]at hnb;cases hnb) _ (R4.ov.upd V _)
  have w1:=Vd ((k:Int)+1) V;simp only[go_sem,h82,w1];refine⟨V,⟨k+1,_,ZG,V,R4,V,?_,fun i hi=>?_,fun y hy=>?_⟩,V⟩
  ·have h1:=kI hx;rw[bd h1,bd (VB hks),Yg (Nat.le_refl k),hs]
  ·rw[Vj,VP V,<- Vj];exact hs0 i (V)
  ·rw[bd hx]at hy;rcases VH.1 hy with hy|hy
   ·exact hall2 y hy
   ·obtain rfl:=List.mem_singleton.1 hy;exact⟨hp,Tp.1 hnb⟩
def Tz (g:Int)(ns:List ZM)(hf:xf ns)(H:ZK)(K:ZQ->ZK->Prop)(hK:K (.ret (aa (if qj g ns then 0 else 50))) H):ae prog G0 105 [eZ g ns] H K:=by
 refine ae.X ⟨_,func105,rfl,rfl⟩ fun hcl=>?_;refine ae.st (n:=11) (rs:=[.tmp 2]) func105 ?_;simp only[go_sem,eZ,eQ];refine ak.X (Ty g ns hf _ _ ⟨trivial,?_⟩);cases hb:qj g ns
 ·rw[hb]at hK;simp only[go_sem,AK,List.length_nil];exact aj.bB aF hcl (.ext _ _) (.lit _) hK
 ·rw[hb]at hK;simp only[go_sem,AL,eQ];exact aj.bB aF hcl (.ext _ _) (.lit _) hK
def fZ (D v:Nat):List Nat := (List.range v).filter fun v => D.testBit v
def bp (D v:Nat):Nat := (fZ D v).length
def aJ (d:ZN):List Nat := fZ d.nl d.C.length
def zV (D v:Nat):fZ D (v + 1)=if D.testBit v then fZ D v ++ [v] else fZ D v := by
  unfold fZ;rw[VX,WY];cases h:D.testBit v <;> simp[h]
def QO :∀ {n:Nat},v <= n -> ∃r,fZ D n=fZ D v ++ r := by
  intro n
  induction n with
  | zero => intro h; obtain rfl : v = 0 := by omega
            exact⟨[],ZG⟩
  |succ n ih =>
    intro h;by_cases hv:v=n + 1
    · subst hv;exact⟨[],ZG⟩
    · obtain⟨r,hr⟩ := ih V;rw[zV];split
      · exact⟨r ++ [n],by rw[hr,List.append_assoc]⟩
      · exact⟨r,hr⟩
def mj (hv:v < n)(hb:D.testBit v=true):(fZ D n)[bp D v]? = some v := by
  obtain⟨r,hr⟩ := QO (D := D) (v := v + 1) (n := n) hv;rw[hr,zV,Vh hb,List.append_assoc];unfold bp;simp
def wg (D v:Nat):bp D (v + 1)=if D.testBit v then bp D v + 1 else bp D v := by
  unfold bp;rw[zV];split <;> simp
def jz :v ∈ fZ D n ↔ v < n /\ D.testBit v=true := by unfold fZ;simp
def rE (h:(fZ D n)[k]? = some v):v < n /\ D.testBit v=true /\ bp D v=k := by
  have hm := jz.1 (an h);refine⟨hm.1,hm.2,?_⟩;have h2 := mj hm.1 hm.2;have hnd:(fZ D n).Nodup := Xz.filter _;have a := aO h;have b := aO h2;rw[Vf a]at h;rw[Vf b]at h2;have e:(fZ D n)[bp D v]=(fZ D n)[k] := by rw[Option.some.inj h,Option.some.inj h2]
  exact(List.getElem_inj hnd).1 e
def rF :(fZ D n).length <= n := by
  have := YH (fun v => D.testBit v) (List.range n);unfold fZ;simpa using this
def eh (g L x:Int):List Int := (List.replicate L.toNat 0).set x.toNat g
def bZ (ns:List ZM)(x:ZM):Nat := (aC (aT ns x)).toNat
def dG (g:Int)(ns:List ZM)(c:Nat -> Nat -> Int)(p:Nat)(x:ZM):List (List Int) := (List.range (bZ ns x)).map fun r => eh g x.L (c p r)
def gO (d:ZN)(c:Nat -> Nat -> Int)(k v:Nat)(x:ZM):ZM := if d.nl.testBit v=true /\ bp d.nl v < k then { x with nb := x.nb ++ dG d.Z d.C c (bp d.nl v) x } else x
def eo (d:ZN)(c:Nat -> Nat -> Int)(k:Nat):List ZM := d.C.zipIdx.map fun p => gO d c k p.2 p.1
def df (d:ZN)(c:Nat -> Nat -> Int):List ZM := eo d c (aJ d).length
def lj (d:ZN)(c:Nat -> Nat -> Int)(k:Nat):(eo d c k).length=d.C.length := by simp[eo]
def oE {c:Nat -> Nat -> Int}(h:d.C[v]? = some x):(eo d c k)[v]? = some (gO d c k v x) := by
  unfold eo;rw[List.getElem?_map,Xm,h];simp
def QP (d:ZN)(c:Nat -> Nat -> Int):eo d c 0=d.C := by
  apply V3;intro v;cases h:d.C[v]? with
  |none => rw[Vo];rw[lj];exact XQ.1 h
  |some x => rw[oE h];simp[gO]
def QQ {c:Nat -> Nat -> Int}(hd:(aJ d)[k]? = some v)(hx:d.C[v]? = some x):eo d c (k + 1)=(eo d c k).set v { x with nb := x.nb ++ dG d.Z d.C c k x } := by
  obtain⟨h1,h2,h3⟩ := rE hd;apply V3;intro u;rw[W1];split
  · rename_i h;subst h;rw[oE hx,Vh (by rw[lj];exact h1)];unfold gO;rw[Vh ⟨h2,V⟩,h3]
  · rename_i h;cases hu:d.C[u]? with
    |none => rw[Vo (by rw[lj];exact XQ.1 hu),Vo (by rw[lj];exact XQ.1 hu)]
    |some y =>
      rw[oE hu,oE hu];unfold gO;by_cases hb:d.nl.testBit u=true
      · have : bp d.nl u ≠ k := fun e => by
          have h4 := mj (aO hu) hb;rw[e]at h4;have h5:(fZ d.nl d.C.length)[k]? = some v := hd;rw[h4]at h5;exact h (Option.some.inj h5).symm
        have e:(bp d.nl u < k + 1)=(bp d.nl u < k) :=(by apply propext;omega);simp only[e]
      · simp[hb]
def QR {c:Nat -> Nat -> Int}:au (eo d c k)=au d.C := by
  apply V3;intro v;unfold au;rw[List.getElem?_map,List.getElem?_map];cases h:d.C[v]? with
  |none => rw[Vo (by rw[lj];exact XQ.1 h)]
  |some x =>
    rw[oE h];simp only[Option.map_some,gO];split <;> rfl
def iP (d:ZN)(c:Nat -> Nat -> Int)(k v:Nat)(x:ZM):(gO d c k v x).L=x.L /\ (gO d c k v x).F=x.F := by unfold gO;split <;> exact⟨rfl,rfl⟩
def cR (d:ZN):List ZL:=[.lit (.int .i64 d.Z),.Q d.C.length (aG d.C),.lit (.int .u64 (d.nl:Int)),.Q d.Y.length (bA d.Y)]
def gR (d:ZN):da d=.agg (cR d):=rfl
def lH (d:ZN):ZR:=.J 0 38 (cR d)
def nJ (d:ZN):List (List ZL):=(aJ d).zipIdx.map fun p=>[aa p.2,aa p.1]
def wS {x:List ZL}(h:(nJ d)[k]?=some x):∃v,(aJ d)[k]?=some v/\x=[aa k,aa v]:=by
 unfold nJ at h;rw[List.getElem?_map,Xm]at h;cases hr:(aJ d)[k]? with
 |none=>rw[hr]at h;simp at h
 |some r=>rw[hr]at h;simp at h;exact⟨r,rfl,h.symm⟩
def SQ (h:(aJ d)[k]?=some v):(nJ d)[k]?=some [aa k,aa v]:=by
 unfold nJ;rw[List.getElem?_map,Xm,h];simp
def wU (d:ZN):(nJ d).length=(aJ d).length:=by simp[nJ]
def AA :∀x∈nJ d,x.length=2:=fun x hx=>by
 obtain⟨k,hk⟩:=Vl.1 hx;obtain⟨v,_,rfl⟩:=wS hk;rfl
def AB (d:ZN)(hl:(d.C.length:Int)<2 ^ 40)(hD:d.nl<2 ^ 64)(b:Nat):um prog G0 109 [] [.O b 0 0] (nJ d) (fun H=>H.get b=some (lH d)):=by
 intro idy J Stop H K hS hJ0 hY hK hSt;have l0:=ag (hS 0 H hJ0);show ae _ _ _ ([.nk idy]++[.O b 0 0]) _ _;refine ae.st (n:=25) (rs:=[]) func109 ?_;simp only[go_sem,l0,cR];refine W.aS 33554200 (by rfl) (fun ρ H'=>∃v:Nat,ρ 8=aa v/\v<=d.C.length/\ρ 3=aa (bp d.nl v)/\J (bp d.nl v) H'/\H.A<=H'.A) (fun ρ H=>d.C.length-(iv (ρ 8)).toNat) ?_ ?_
 ·simp only[go_sem];exact⟨0,rfl,V,rfl,hJ0⟩
 rintro ρ H' ⟨v,h8,hv,h3,hj,hn⟩;refine W.vs ?_;by_cases hb:(v:Int)<d.C.length
 ·have l1:=ag (hS _ _ hj);have s1:=fun t x y=>jm (P:=prog) (t:=t) (x:=x) (y:=y) (k':=.i64) (s:=v) hD;have s2:=fun t x y=>pf (P:=prog) (t:=t) (x:=x) (y:=y) (s:=v) hD;have w1:=Vd ((v:Int)+1) V;have hp:bp d.nl v<=v:=by
   have:(fZ d.nl v).length<=v:=rF;exact this
  have w2:=Vd ((bp d.nl v:Int)+1) V;cases hbit:d.nl.testBit v
  ·simp only[go_sem,h8,h3,hb,l1,cR,s1,s2,hbit,w1];exact⟨hn,⟨v+1,ZG,V,by rw[wg,hbit];rfl,by rw[wg,hbit];exact hj,hn⟩,V⟩
  ·have hdx:(nJ d)[bp d.nl v]?=some [aa (bp d.nl v),aa v]:=SQ (mj V hbit);simp only[go_sem,h8,h3,hb,l1,cR,s1,s2,hbit];refine hY _ _ H' _ hdx hj hn (fun H2 hj2 hn2=>⟨trivial,?_⟩) (fun H2 hs2 hn2=>⟨trivial,?_⟩)
   ·simp only[go_sem,h8,h3,w1,w2];exact⟨V,⟨v+1,ZG,V,by rw[wg,hbit];simp,by rw[wg,hbit];exact hj2,V⟩,V⟩
   ·simp only[go_sem];exact aj.mk V (hSt H2 hs2 V)
 ·simp only[go_sem,h8,hb];have ek:v=d.C.length:=V
  subst ek;exact aj.mk V (hK H' (by rw[wU];exact hj) hn)
def AC (d:ZN)(H:ZK)(K:ZQ->ZK->Prop)(hK:K (.ret (.X 109 [] [.O H.A 0 0])) (ext H [lH d])):
  ae prog G0 65 [da d] H K:=by
 refine ae.st (n:=4) (rs:=[.tmp 2]) func65 ?_;simp only[go_sem,gR,cR];exact aj.mk (by simp[aW]) hK
def SR {L x:Int}(hc:0<=L)(h:0<=x/\x<L):setAt (ints (List.replicate L.toNat 0)) x.toNat [.lit (.int .i64 g)]=ints (eh g L x):=by
 rw[iR (by simp;omega)];rfl
def SU (g L x:Int)(hc:L<=2 ^ 40)(h:0<=x/\x<L)(H:ZK)(K:ZQ->ZK->Prop)(hK:K (.ret (af (eh g L x))) H):ae prog G0 144 [aa g,aa L,aa x] H K:=by
 refine ae.X ⟨_,func144,rfl,rfl⟩ fun hcl=>?_;obtain⟨n,rfl⟩:=Vm (show 0<=L by omega);obtain⟨k,rfl⟩:=Vm h.1;have h0:((n:Int)) >= 0:=V
 have hk:(k:Int)<n:=h.2;have hk2:k+1<=n:=V
 refine ae.st (n:=15) (rs:=[.tmp 6]) func144 ?_;simp only[go_sem,hk]
 repeat (refine And.intro (by first|omega|(simp;done)|(simp;omega)|(intros;omega)|exact⟨rfl,V,V,kW _⟩) ?_)
 have e:=SR (g:=g) (L:=n) (x:=k) V h;simp only[Int.toNat_natCast]at e;rw[show (List.replicate n (ZL.lit (Value.int IntKind.i64 0)))=ints (List.replicate n 0) by simp[ints,aa],e];refine aj.bB aF hcl (.ext _ _) ?_ hK;exact .ints ZJ (cL ..) (by simp[eh]) fun i hi=>by simp[gZ,hi]
def SV (a b:ZL)(H:ZK)(K:ZQ->ZK->Prop)(hK:K (.ret (aa 0)) H):ae prog G0 107 [a,b] H K:=by
 refine ae.st (n:=5) (rs:=[.tmp 4]) func107 ?_;simp only[go_sem];exact aj.mk ZJ hK
noncomputable def lI (p:Prop):Bool:=@decide p (Classical.propDecidable p)
def mv (h:p):lI p=true:=@decide_eq_true _ (Classical.propDecidable _) h
def oS (h:¬p):lI p=false:=@decide_eq_false _ (Classical.propDecidable _) h
def tY :lI p=true↔p:=@decide_eq_true_iff _ (Classical.propDecidable _)
structure Z7 (d:ZN):Prop where
 n1:1<=d.C.length/\d.C.length<=8
 nl:d.nl >>> d.C.length=0
 L:∀x∈d.C,1<=x.L/\x.L<=4
 dec:∀v x,d.C[v]?=some x->d.nl.testBit v=true->x.nb=[]/\bW x.F d.C.length
structure Z9 (d:ZN):Prop where
 C:xf d.C
 nl:d.nl<2 ^ 64
 Y:(d.Y.length:Int)<2 ^ 38/\∀u∈d.Y,(u.vars.length:Int)<2 ^ 38/\(u.w.length:Int)<2 ^ 38
def SW (d:ZN)(hf:Z9 d)(H:ZK)(K:ZQ->ZK->Prop)(hK:K (.ret (.lit (.bool (lI (Z7 d))))) H):ae prog G0 104 [da d] H K:=by
 refine ae.X ⟨_,func104,rfl,rfl⟩ fun hcl=>?_;have hl:=hf.C.1;have no:¬Z7 d->∀H',ZP H H'->aj prog G0 H K (.lit (.bool false)) H':=fun h H' ov=>aj.bB aF hcl ov (.lit _) (by rw[oS h]at hK;exact hK);refine ae.st (n:=67) (rs:=[.cell 2 4]) func104 ?_;simp only[go_sem,gR,cR];obtain⟨H1,hH1⟩:∃H1,H1=ext H [.J 0 38 (cR d),.J 0 4 [.lit (.bool false)]]:=⟨_,rfl⟩
 have g1:=dh hH1
 have g2:=gE hH1 1 rfl
 have l1:=ag g1;have l2:=ag g2;have n1:H1.A=H.A+2:=hH1▸rfl
 have o1:ZP H H1:=hH1▸.ext _ _
 unfold cR at hH1 l1;rw[<- hH1];have s1:=fun t x y=>jm (P:=prog) (t:=t) (x:=x) (y:=y) (k':=.i64) (s:=d.C.length) hf.nl;by_cases c1:(d.C.length:Int)<1
 ·simp only[go_sem,l2,c1];exact no (fun h=>by have:=h.n1;omega) _ (o1.upd V _)
 by_cases c2:(d.C.length:Int) > 8
 ·simp only[go_sem,l1,l2,c1,c2];exact no (fun h=>by have:=h.n1;omega) _ (o1.upd V _)
 by_cases c3:d.nl >>> d.C.length=0;rotate_left
 ·have c3':¬((d.nl >>> d.C.length:Nat):Int)=0:=V
  simp only[go_sem,l1,l2,c1,c2,c3',s1];exact no (fun h=>c3 h.nl) _ (o1.upd V _)
 have c3':((d.nl >>> d.C.length:Nat):Int)=0:=V
 simp only[go_sem,l1,c1,c2,c3',s1];refine W.aS 4397509640208 (by rfl) (fun ρ H'=>∃k:Nat,ρ 29=aa k/\k<=d.C.length/\ZP H1 H'/\∀x∈d.C.take k,1<=x.L/\x.L<=4) (fun ρ H=>d.C.length-(iv (ρ 29)).toNat) ?_ ?_
 ·simp only[go_sem];exact⟨0,rfl,V,.refl _,ZG⟩
 rintro ρ H' ⟨k,h29,hk,ov,hall⟩;refine W.vs ?_;have ovn:=ov.A;have m1:=(ov.na (g:=0) (by omega:H.A<H1.A)).trans l1;have m2:=(ov.na (g:=0) (by omega:H.A+1<H1.A)).trans l2;by_cases hb:(k:Int)<d.C.length
 ·obtain⟨x,hx⟩:=ay (l:=d.C) (i:=k) V;have hxm:=an hx;have hne:=fQ hx;have e0:=oC hx;have e1:k*3+3<=(aG d.C).length:=by rw[kq];omega
  have nb:¬H.A+1=H'.A:=V
  have m3:∀L,(ext H' L).na (H.A+1) 0=_:=fun L=>(eF V).trans m2;by_cases d1:x.L<1
  ·simp only[go_sem,h29,m3,hb,hne,e0,e1,d1];exact no (fun h=>by have:=h.L x hxm;omega) _ (((o1.trans ov).trans (.ext _ _)).upd V _)
  by_cases d2:x.L > 4
  ·simp only[go_sem,h29,m3,hb,hne,e0,e1,d1,d2];exact no (fun h=>by have:=h.L x hxm;omega) _ (((o1.trans ov).trans (.ext _ _)).upd V _)
  have w1:=Vd ((k:Int)+1) V;simp only[go_sem,h29,hb,hne,e0,e1,d1,d2,w1];exact⟨V,⟨k+1,ZG,V,ov.trans (.ext _ _),fun y hy=>by
   rw[bd hx]at hy;rcases VH.1 hy with hy|hy
   ·exact hall y hy
   ·obtain rfl:=List.mem_singleton.1 hy;exact⟨V,V⟩⟩,V⟩
 rw[Vi V]at hall;simp only[go_sem,h29,hb,m1];refine ak.X (AC d _ _ ⟨trivial,?_⟩);simp only[go_sem];obtain⟨H2,hH2⟩:∃H2,H2=ext H' [lH d]:=⟨_,rfl⟩
 rw[<- hH2];have o2:ZP H' H2:=by rw[hH2];exact .ext _ _
 have n2:H2.A=H'.A+1:=by rw[hH2];rfl
 have hbx:H2.get H'.A=some (lH d):=by rw[hH2];exact ef
 refine W.env fun E hE=>?_;have e1:E 1=.O H.A 0 0:=by rw[hE];simp only[go_sem]
 have e2:E 2=.O (H.A+1) 0 0:=by rw[hE];simp only[go_sem]
 have i1:=(o2.na (g:=0) (by omega:H.A<H'.A)).trans m1;have i2:=(o2.nf _ (by omega:H.A+1<H'.A)).trans ((ov.nf _ V).trans g2);have o02:=(o1.trans ov).trans o2;refine W.sy (f:=109) (first:=[]) (cap:=[.O H'.A 0 0]) (by show E 43=_;rw[hE];rfl) (AB d V hf.nl H'.A)
  (fun k Hx=>ZP H2 Hx/\∀v x,v∈(aJ d).take k->d.C[v]?=some x->x.nb=[]/\bW x.F d.C.length) (fun c Hx=>c=.ret/\ZP H Hx/\H2.A<=Hx.A/\Hx.get (H.A+1)=some (.J 0 4 [.lit (.bool false)])/\¬Z7 d)
  (fun k Hx h=>by rw[h.1.nf _ V];exact hbx) (fun k Hx b h=>⟨h.1.upd ZJ b,h.2⟩) (fun c Hx b h=>⟨h.1,h.2.1.upd V b,h.2.2.1,by rw[ah,Vg V];exact h.2.2.2.1,h.2.2.2.2⟩)
  (fun b=>⟨.ext _ _,ZG⟩) ZH AA (fun _ _ _=>trivial) (fun _ _ _=>trivial) (fun k y Hx B Bb hy hj hn hB hBb=>?_) (fun Hx hj hn=>?_) (fun Hx hs hn=>?_) (fun i Hx hs hn=>by cases hs.1)
 ·obtain⟨v,hv,rfl⟩:=wS hy;obtain⟨v1,v2,v3⟩:=rE hv;obtain⟨x,hx⟩:=ay (l:=d.C) (i:=v) v1;refine W.vs ?_;simp only[go_sem,jL,dq,mE,Wk,XB,WX,W5,hB];obtain⟨H3,hH3⟩:∃H3,H3=Hx.upd H2.A Bb:=⟨_,rfl⟩
  rw[<- hH3];obtain⟨st,pd,n',en,ps',as',bo,hBe⟩:=hBb;have o3:ZP H2 H3:=by rw[hH3];exact hj.1.upd ZJ Bb
  have o4:ZP H H3:=o02.trans o3;have n3:H3.A=Hx.A:=by rw[hH3];rfl
  have j1:=(o3.na (g:=0) (by omega:H.A<H2.A)).trans i1;have j2:=ag ((o3.nf _ (by omega:H.A+1<H2.A)).trans i2);have jB:H3.get H2.A=some Bb:=by rw[hH3,ah,Vh rfl]
  have hxm:=an hx;obtain⟨f1,f2,f3⟩:=hf.C.2 x hxm;have hne:=fQ hx;have e1':=mW hx;have e2':=Ea hx;have hvn:(v:Int)<d.C.length:=V
  have stop:¬Z7 d->(H3.upd (H.A+1) (ZR.J 0 4 [.lit (.bool false)])).get H2.A=some Bb/\Hx.A<=(H3.upd (H.A+1) (ZR.J 0 4 [.lit (.bool false)])).A/\ZP H (H3.upd (H.A+1) (ZR.J 0 4 [.lit (.bool false)])) /\
    H2.A<=(H3.upd (H.A+1) (ZR.J 0 4 [.lit (.bool false)])).A/\(H3.upd (H.A+1) (ZR.J 0 4 [.lit (.bool false)])).get (H.A+1)=some (.J 0 4 [.lit (.bool false)])/\¬Z7 d:=fun h =>
   ⟨by rw[ah,Vg V];exact jB,by rw[aQ];omega,o4.upd V _,by rw[aQ];omega,by rw[ah,Vh rfl],h⟩
  refine W.vs ?_;simp only[go_sem];refine W.dr 18 [0,1,0,7,15,31,63,127,255,511,1023,511,4095,8191,16383,511,33279,98815] mixed ?_;by_cases c4:(x.nb.length:Int) > 0
  ·simp only[go_sem,dq,e1,e2,j1,j2,hvn,hne,e2',c4,bb,im];exact stop fun h=>by have:=(h.dec v x hx v2).1;rw[this]at c4;simp at c4
  simp only[go_sem,dq,e1,j1,hvn,hne,e1',e2',c4,bb];refine ak.X (FX x.F d.C.length V _ _ ⟨⟨_,_,_,_,_,_,_,by rw[jB,hBe]⟩,?_⟩);by_cases c5:bW x.F d.C.length;rotate_left
  ·simp only[go_sem,dq,e2,j2,c5,im];exact stop fun h=>c5 (h.dec v x hx v2).2
  simp only[go_sem,dq,c5,im];refine⟨jB,V,o3,fun u y hu hy2=>?_⟩;rw[bd hv]at hu;rcases VH.1 hu with hu|hu
  ·exact hj.2 u y hu hy2
  ·obtain rfl:=List.mem_singleton.1 hu;rw[hx]at hy2;cases hy2;exact⟨Vp V,c5⟩
 ·have hok:Z7 d:=⟨V,c3,hall,fun v x hx hb=>hj.2 v x (by
   rw[wU,XR];exact jz.2 ⟨aO hx,hb⟩) hx⟩
  rw[mv hok]at hK;have j2:=ag ((hj.1.nf _ (by omega:H.A+1<H2.A)).trans i2);simp only[go_sem,e2,j2];exact aj.bB aF hcl ((o02.trans hj.1).upd V _) (.lit _) hK
 ·obtain⟨_,o4,n4,g4,hno⟩:=hs;have j2:=ag g4;simp only[go_sem,e2,j2];exact no hno _ o4
end Go.Proofs
namespace Go.Hx
variable {P:Program} {G:Nat->Option (List ZL)}
variable {cs:List ZL}{g k lo n nx ob rk z:Nat}{S:Nat->Prop}{e:TypeId}{v:ZL}{b:ZR}
def ZK.fG (H:ZK)(rk ob:Nat)(b:ZR):ZK:=⟨fun id=>if id=rk then none else if id=ob then some b else H.get id,H.A⟩
variable {H:ZK}
def UL (hc:Clo H){cells cells':List ZL}(hob:H.get ob=some (.J g e cells))(hne:ob≠rk)(hl:cells'.length=cells.length)
  (hcell:∀i (h:i<cells.length) (h':i<cells'.length),Fz (fun id=>id=rk) H H.A cells[i] cells'[i]):FzH (fun id=>id=rk) H (H.fG rk ob (.J g e cells')) where
 gone id hs:=by simp[ZK.fG,hs]
 kept id b hs hb:=by
  have hbb:=hc.below id b hb;refine⟨hc.lt id b hb,?_⟩;by_cases h:id=ob
  ·subst h;rw[hob]at hb;cases hb;exact⟨.J g e cells',by simp[ZK.fG,hs],rfl,rfl,hl,hcell⟩
  ·refine⟨b,by simp[ZK.fG,hs,h,hb],?_⟩;cases b with
   |nq=>trivial
   |mp=>rfl
   |J g e cells=>exact⟨rfl,rfl,rfl,fun i h _=>.dead (hbb i h)⟩
   |loop st pend n env ps asg body=>exact⟨rfl,rfl,rfl,rfl,rfl,rfl,rfl,fun t ht=>.dead (hbb t ht)⟩
 none id hs hb:=by
  by_cases h:id=ob
  ·subst h;rw[hob]at hb;cases hb
  ·simp[ZK.fG,hs,h,hb]
theorem eV.fG (hG:fB G){s:St}{cells cells':List ZL}(hob:s.H.get ob=some (.J g e cells))(hne:ob≠rk)(hl:cells'.length=cells.length)
  (hcell:∀i (h:i<cells.length) (h':i<cells'.length),Fz (fun id=>id=rk) s.H s.H.A cells[i] cells'[i]):eV P G s ⟨s.ρ,s.H.fG rk ob (.J g e cells')⟩:=by
 intro n wb Γ a w hs;exact eV.freeze (s:=s) (s':=⟨s.ρ,s.H.fG rk ob (.J g e cells')⟩) hG (UL hs.heap.X hob hne hl hcell) (fun t=>.dead (hs.env t).ta) n wb Γ a w hs
def UM {A B:List ZL}{o o':ZL}(hA:∀v,v∈A->Fz S H nx v v)(ho:Fz S H nx o o')(hB:∀v,v∈B->Fz S H nx v v):
  ∀i (h:i<(A++o :: B).length) (h':i<(A++o' :: B).length),Fz S H nx (A++o :: B)[i] (A++o' :: B)[i]:=by
 induction A with
 |nil =>
  intro i h h';cases i with
  |zero=>exact ho
  |succ i=>exact hB _ (We (l:=B) (by simpa using h))
 |cons a A ih =>
  intro i h h';cases i with
  |zero=>exact hA a (ZG)
  |succ i=>exact ih (fun v hv=>hA v (by simp[hv])) i (by simpa using h) (by simpa using h')
def xF (h:ob≠rk):(H.fG rk ob b).get ob=some b:=by simp[ZK.fG,h]
def mF {id:Nat}(h:id≠rk)(h2:id≠ob):(H.fG rk ob b).get id=H.get id:=by simp[ZK.fG,h,h2]
def A2 {l:List ZL}{i:Nat}{a b:ZL}(hl:∀v,v∈l->Fz S H nx v v)(hab:Fz S H nx a b):∀j (h:j<(l.set i a).length) (h':j<(l.set i b).length),Fz S H nx (l.set i a)[j] (l.set i b)[j]:=by
 intro j h h';rw[Yy,Yy];split
 ·exact hab
 ·exact hl _ (We _)
def W.xG {rd:Option Nat}{Q Q':AX->St->Prop}{c:Code}{s:St}(h:W P G n rd c Q' s)(hw:∀e s2,Q' e s2->∃s3,eV P G s2 s3/\s2.H.A<=s3.H.A/\fI s3.H rd/\Q e s3):W P G n rd c Q s:=by
 intro wb Γ a w rb hs hr;refine wpIn_mono (h wb Γ a w rb hs hr) fun e a' w' hp=>?_;obtain⟨x,s',Γ',hx,hq,hrel,E,hn,hrd,hfr⟩:=hp;obtain⟨s3,hw3,hn3,hri,hq3⟩:=hw x s' hq;obtain⟨Γ3,hs3,E3,hrd3⟩:=hw3 n wb Γ' a' w' hrel;exact⟨x,s3,Γ3,hx,hq3,hs3,E.trans hn E3,VM hn hn3,hrd3 rd rb hrd hri,hfr⟩
def aI.ne (h:aI lo H e v cs)(hk:k<lo):∀g n,v≠.U k g 0 n 1:=fun g n he=>by
 rcases h with ⟨h,_⟩|⟨i2,g2,a1,_,h,_⟩
 ·rw[h]at he;cases he
 ·rw[h]at he;have:=ZL.U.inj he;omega
def fy (lo:Nat)(H:ZK)(e:TypeId)(z:Nat)(v:ZL)(n:Nat)(cs:List ZL):Prop :=
 (v=.lit (.slice none 0 0)/\n=0/\cs=[])\/∃id g,lo<=id/\id<H.A/\v=.U id g 0 n z/\cs.length=n*z/\H.get id=some (.J g e cs)
def fy.nil :fy lo H e z (.lit (.slice none 0 0)) 0 []:=.inl ⟨rfl,rfl,rfl⟩
variable {H':ZK}
def fy.ng (h:fy lo H e z v n cs)(hn:H.A<=H'.A)(hk:∀id g,lo<=id->id<H.A->v=.U id g 0 n z->H'.get id=H.get id):fy lo H' e z v n cs:=by
 rcases h with h|⟨id,g,h1,h2,h3,h4,h5⟩
 ·exact .inl h
 ·exact .inr ⟨id,g,h1,V,h3,h4,(hk id g h1 h2 h3).trans h5⟩
def fy.over (h:fy lo H e z v n cs)(ho:ZP H H'):fy lo H' e z v n cs:=h.ng ho.A fun id _ _ h2 _=>ho.nf id h2
theorem fy.one (h:fy lo H e z v n cs):v.one=true:=by
 rcases h with ⟨rfl,_⟩|⟨_,_,_,_,rfl,_⟩<;>rfl
theorem fy.cells (h:fy lo H e z v n cs):v.cells=[v]:=by
 rcases h with ⟨rfl,_⟩|⟨_,_,_,_,rfl,_⟩<;>rfl
def fy.ne {m:Nat}(h:fy lo H e z v m cs)(hk:k<lo):∀g n,v≠.U k g 0 n z:=fun g n he=>by
 rcases h with ⟨h,_⟩|⟨i2,g2,a1,_,h,_⟩
 ·rw[h]at he;cases he
 ·rw[h]at he;have:=ZL.U.inj he;omega
def GC {t:TypeId}{m:Nat}{xs:List ZL}{zs:List ZL}(ht:P.underlying t=some (.slice e))(hz:P.cellsOf e=z)(hzero:bQ P e=some zs)(hx:xs.all ZL.one=true)(hxl:xs.length=z)
  (hb:(n+1)*P.bytesOf e<=2 ^ 47/\n+1<=2 ^ 47) (ho:fy lo H e z v n cs) (hlo:lo<=H.A) (hn:m=H.A+1):
  ∃v' H',bS P (ext H [.J 0 e xs]) m t t v (.U H.A 0 0 1 z)=some (v',H')/\fy lo H' e z v' (n+1) (cs++xs)/\H.A<=H'.A/\(∀k,k<H.A->(∀g n,v≠.U k g 0 n z)->H'.get k=H.get k):=by
 have hne:(ext H [.J 0 e xs]).A=H.A+1:=rfl;have hsrc:dc (ext H [.J 0 e xs]) z (.U H.A 0 0 1 z)=some (1,xs):=by
  unfold dc;have:=ag (H:=ext H [.J 0 e xs]) (g:=0) (ef (b:=.J 0 e xs));simp[this,<- hxl]
 rcases ho with ⟨rfl,rfl,rfl⟩|⟨i,g,h1,h2,rfl,h4,h5⟩
 ·refine⟨.U m 0 0 1 z,ext (ext H [.J 0 e xs]) [.J 0 e xs],?_,.inr ⟨m,0,V,by rw[aW,hne,hn];simp,ZG,by simp[hxl],?_⟩,by rw[aW,hne];omega,fun k hk _=>?_⟩
  ·unfold bS;rw[ht];simp only[hzero,hz,Option.bind_some];rw[hsrc];simp only[Option.bind_some];rw[Vg ZH,Vh (by simpa using hb),vf (by rw[hn,hne])];rfl
  ·rw[hn,<- hne];exact ef
  ·rw[dz (by rw[hne];omega),dz hk]
 ·have h5':(ext H [.J 0 e xs]).get i=some (.J g e cs):=by rw[dz h2];exact h5
  refine⟨.U i (g+1) 0 (n+1) z,(ext H [.J 0 e xs]).upd i (.J (g+1) e (cs++xs)),?_,.inr ⟨i,g+1,h1,by rw[aQ,hne];omega,rfl,by simp[h4,hxl,VT],by rw[ah,Vh rfl]⟩,by rw[aQ,hne];omega,fun k hk hne2=>?_⟩
  ·unfold bS;rw[ht];have hl:=ag h5';simp only[hzero,hz,Option.bind_some];rw[hsrc];simp only[Option.bind_some,hl];rw[Vh ⟨trivial,trivial,V,hb.1,hb.2,hx⟩];simp
  ·rw[ah,Vg,dz hk];rintro rfl;exact hne2 _ _ rfl
end Go.Hx
namespace Go.Proofs
open Go.Hx Tryz
variable {cs:List ZL}{i n nx v:Nat}{S e:Nat->Prop}{H H':ZK}{d:ZN}
def ie (x:ZM):ZL:=if x.nb=[] then .lit (.slice none 0 0) else bb x.nb
def ZM.gI (x:ZM):List ZL:=[aa x.L,af x.F,ie x]
def bh (l:List ZM):List ZL:=(l.map ZM.gI).flatten
def mZ (l:List ZM):(bh l).length=l.length*3:=mg (f:=ZM.gI) (fun _=>rfl) l
variable {l:List ZM}{x:ZM}
def rG (h:l[i]?=some x):(bh l)[i*3]?=some (aa x.L):=ko (f:=ZM.gI) (z:=3) (fun _=>rfl) l i 0 x h (V)
def rH (h:l[i]?=some x):(bh l)[i*3+1]?=some (af x.F):=ko (f:=ZM.gI) (z:=3) (fun _=>rfl) l i 1 x h (V)
def wh (h:l[i]?=some x):(bh l)[i*3+2]?=some (ie x):=ko (f:=ZM.gI) (z:=3) (fun _=>rfl) l i 2 x h (V)
def QS (l:List ZM)(x:ZM):bh (l++[x])=bh l++[aa x.L,af x.F,ie x]:=by unfold bh;simp[ZM.gI]
def QT (h:l[i]?=some x):¬bh l=[]:=fun e=>by
 have:=rG h;rw[e]at this;simp at this
def QU (l:List (List Int)):bb l=.Q l.length (l.map af):=rfl
def Eh (h:x.nb=[]):ie x=.lit (.slice none 0 0):=Vh h
def zW (h:x.nb≠[]):ie x=bb x.nb:=Vg h
variable {y:ZM}
def Ei (h:l[i]?=some x)(hy:y.L=x.L/\y.F=x.F):bh (l.set i y)=setAt (bh l) (i*3+2) [ie y]:=by
 have hi:=aO h;have hl:=mZ l;rw[iX V];apply V3;intro p;rw[W1];have hp:p=(p / 3)*3+p % 3:=V
 by_cases hb:p / 3<l.length
 ·by_cases hpi:p / 3=i
  ·have e0:(l.set i y)[p / 3]?=some y:=(by rw[hpi,VB hi]);have c3:p % 3=0\/p % 3=1\/p % 3=2:=V;rcases c3 with c|c|c
   ·rw[Vg V,hp,c,Nat.add_zero,rG e0,rG (by rw[hpi];exact h),hy.1]
   ·rw[Vg V,hp,c,rH e0,rH (by rw[hpi];exact h),hy.2]
   ·rw[Vh V,Vh V,hp,c,wh e0]
  ·obtain⟨z,hz⟩:=ay hb;have e0:(l.set i y)[p / 3]?=some z:=(by rw[VP V];exact hz);have c3:p % 3=0\/p % 3=1\/p % 3=2:=V;rcases c3 with c|c|c
   ·rw[Vg V,hp,c,Nat.add_zero,rG e0,rG hz]
   ·rw[Vg V,hp,c,rH e0,rH hz]
   ·rw[Vg V,hp,c,wh e0,wh hz]
 ·rw[Vo (by rw[mZ,VF];omega),Vg V,Vo V]
def QV (x:ZM):Fz S H nx (ie x) (bb x.nb):=by
 unfold ie;split
 ·rename_i h;rw[h];exact .nil
 ·exact .bb _
def QW (x:ZM):Fz S H nx (ie x) (ie x):=by
 unfold ie;split
 ·exact .lit _
 ·exact .bb _
def zX :∀(l:List ZM) (i:Nat) (h:i<(bh l).length) (h':i<(aG l).length),Fz S H nx (bh l)[i] (aG l)[i]:=by
 intro l i h h';have hb:i / 3<l.length:=by rw[mZ]at h;omega
 obtain⟨x,hx⟩:=ay hb;have hp:i=(i / 3)*3+i % 3:=V
 have g1:(bh l)[i]?=some (bh l)[i]:=Vf h;have g2:(aG l)[i]?=some (aG l)[i]:=Vf h';generalize (bh l)[i]=a at g1 ⊢;generalize (aG l)[i]=b at g2 ⊢;have c3:i % 3=0\/i % 3=1\/i % 3=2:=V
 rcases c3 with c|c|c
 ·rw[hp,c,Nat.add_zero,rG hx]at g1;rw[hp,c,Nat.add_zero,mV hx]at g2;cases g1;cases g2;exact .lit _
 ·rw[hp,c,rH hx]at g1;rw[hp,c,mW hx]at g2;cases g1;cases g2;exact .ea _
 ·rw[hp,c,wh hx]at g1;rw[hp,c,Ea hx]at g2;cases g1;cases g2;exact QV x
def zY (l:List ZM):∀c∈bh l,Fz S H nx c c:=by
 intro c hc;unfold bh at hc;obtain⟨r,hr,hc⟩:=XS.1 hc;obtain⟨x,_,rfl⟩:=Vu.1 hr;unfold ZM.gI at hc;simp only[List.mem_cons,List.not_mem_nil,or_false]at hc;rcases hc with rfl|rfl|rfl
 ·exact .lit _
 ·exact .ea _
 ·exact QW x
structure Z5 (e:Nat->Prop)(ns:List ZM)(cs:List ZL):Prop where
 len:cs.length=ns.length*3
 node:∀(v:Nat) (x:ZM),ns[v]?=some x->∃rv,cs[v*3]?=some (aa x.L)/\cs[v*3+1]?=some (af x.F)/\cs[v*3+2]?=some rv/\(rv=bb x.nb\/rv=ie x)/\(e v->rv=ie x)
variable {ns:List ZM}
def Z5.c0 (h:Z5 e ns cs)(hx:ns[v]?=some x):cs[v*3]?=some (aa x.L):=(h.node v x hx).elim fun _ h=>h.1
def Z5.c1 (h:Z5 e ns cs)(hx:ns[v]?=some x):cs[v*3+1]?=some (af x.F):=(h.node v x hx).elim fun _ h=>h.2.1
def Z5.ne (h:Z5 e ns cs)(hx:ns[v]?=some x):¬cs=[]:=fun he=>by
 have:=h.c0 hx;rw[he]at this;simp at this
def Z5.part (h:Z5 e ns cs)(hx:ns[v]?=some x):∃rv,(cs.drop (v*3)).take 3=[aa x.L,af x.F,rv]/\cs[v*3+2]?=some rv/\(rv=bb x.nb\/rv=ie x)/\(e v->rv=ie x):=by
 obtain⟨rv,a,b,c,d,f⟩:=h.node v x hx;refine⟨rv,?_,c,d,f⟩;have h3:=aO c;rw[Wb V,Wb V,Wb V];simp only[List.take_succ_cons,List.take_zero];rw[Vf V]at a b c;rw[Option.some.inj a,Option.some.inj b,Option.some.inj c]
def Z5.nil :Z5 e [] []:=⟨rfl,fun v x hx=>by simp at hx⟩
def Z5.mono {e':Nat->Prop}(h:Z5 e ns cs)(he:∀v,e' v->e v):Z5 e' ns cs:=⟨h.len,fun v x hx=>by
 obtain⟨r,a,b,c,d,f⟩:=h.node v x hx;exact⟨r,a,b,c,d,fun h=>f (he v h)⟩⟩
def ub {α:Type}{l:List α}{x:α}(h:l[i]?=some x):l.set i x=l:=by
 apply V3;intro j;rw[W1];split
 ·rename_i hj;subst hj;rw[Vh (aO h),h]
 ·rfl
structure FiS (d:ZN)(fv:ZL)(H H':ZK)(nh:ZL)(n:Nat)(cs:List ZL):Prop where
 nx:H.A+4<=H'.A
 ov:ZP H H'
 b0:H'.get H.A=some (.J 0 38 [.lit (.int .i64 d.Z),.Q d.C.length (aG d.C),.lit (.int .u64 (d.nl:Int)),.Q d.Y.length (bA d.Y)])
 b1:H'.get (H.A+1)=some (.J 0 180 [fv])
 b2:H'.get (H.A+2)=some (.J 0 90 [.lit (.int .i64 0),.lit (.slice none 0 0)])
 b3:H'.get (H.A+3)=some (.J 0 90 [.lit (.int .i64 d.Z),nh])
 nd:fy (H.A+4) H' 76 3 nh n cs
theorem FiS.over {fv:ZL}{H2:ZK}{nh:ZL}(h:FiS d fv H H' nh n cs)(o:ZP H' H2):FiS d fv H H2 nh n cs where
 nx:=VM h.nx o.A
 ov:=h.ov.trans o
 b0:=(o.nf _ (by have:=h.nx;omega)).trans h.b0
 b1:=(o.nf _ (by have:=h.nx;omega)).trans h.b1
 b2:=(o.nf _ (by have:=h.nx;omega)).trans h.b2
 b3:=(o.nf _ (by have:=h.nx;omega)).trans h.b3
 nd:=h.nd.over o
def S4 {v:ZL}{xs:List ZL}(hx:xs.all ZL.one=true)(hxl:xs.length=3)(hn:n<2 ^ 38)(ho:fy (H.A+4) H' 76 3 v n cs)(hlo:H.A+4<=H'.A):
  ∃v' H2,bS prog (ext H' [.J 0 76 xs]) (H'.A+1) 35 35 v (.U H'.A 0 0 1 3)=some (v',H2)/\fy (H.A+4) H2 76 3 v' (n+1) (cs++xs)/\H'.A<=H2.A/\(∀k,k<H'.A->(∀g n,v≠.U k g 0 n 3)->H2.get k=H'.get k) :=
 GC Tryz.underlying35 Tryz.Dc Tryz.De hx hxl (by rw[Tryz.Dd];omega) ho hlo rfl
def FR {lo:Nat}{v:ZL}{l:List ZL}(x:ZL)(hx:x.one=true)(h:aI lo H' 72 v l)(hlo:lo<=H'.A)(hl:l.length<2 ^ 40):
  ∃v' H2,bS prog (ext H' [.J 0 72 [x]]) (H'.A+1) 74 74 v (.U H'.A 0 0 1 1)=some (v',H2)/\aI lo H2 72 v' (l++[x])/\H'.A<=H2.A/\(∀k,k<H'.A->(∀g n,v≠.U k g 0 n 1)->H2.get k=H'.get k) :=
 jv (P:=prog) (H:=H') (t:=74) (x:=x) (n:=H'.A+1) Tryz.underlying74 Tryz.zr Tryz.zu hx (by rw[Tryz.zt];omega) h hlo rfl
def S5 (d:ZN)(hf:Z9 d)(hR:Z7 d)(c:Nat->Nat->Int)(fv:ZL)(rs:List Nat)(H:ZK)(hrs:∀i∈rs,i<H.A)(hfc:fv.cells=[fv])(hfo:fv.one=true)
  (hfv:∀p r v x H1,(aJ d)[p]?=some v->d.C[v]?=some x->r<bZ d.C x->ZP H H1->(0<=c p r/\c p r<x.L)/\aY prog G0 fv [.lit (.int .i64 p),.lit (.int .i64 r)] H1 (.lit (.int .i64 (c p r))) rs)
  (K:ZQ->ZK->Prop) (hK:K (.ret (eZ d.Z (df d c))) H):ae prog G0 106 [da d,fv] H K:=by
 refine ae.X ⟨_,func106,rfl,rfl⟩ fun hcl=>?_;have hl:=hf.C.1;have hn8:=hR.n1.2;refine ae.st (n:=91) (rs:=[.cell 4 90]) func106 ?_;simp only[go_sem,gR,cR,hfc];obtain⟨Hb,hHb⟩:∃Hb,Hb=ext H [.J 0 38 [.lit (.int .i64 d.Z),.Q d.C.length (aG d.C),.lit (.int .u64 (d.nl:Int)),.Q d.Y.length (bA d.Y)],.J 0 180 [fv],.J 0 90 [.lit (.int .i64 0),.lit (.slice none 0 0)],.J 0 90 [.lit (.int .i64 d.Z),.lit (.slice none 0 0)]]:=⟨_,rfl⟩
 rw[<- hHb];have R0:FiS d fv H Hb (.lit (.slice none 0 0)) 0 []:=by
  rw[hHb];exact⟨by simp[aW],.ext _ _,cL ..,bM H _ 1 ZG,bM H _ 2 ZG,bM H _ 3 ZG,.nil⟩
 have nb:Hb.A=H.A+4:=hHb▸rfl
 refine W.loop 4503599626323328 (by rfl) (fun ρ H'=>∃(k:Nat) (nh:ZL),ρ 20=aa k/\k<=d.C.length/\FiS d fv H H' nh k (bh (d.C.take k))) (fun ρ H=>d.C.length-(iv (ρ 20)).toNat) ?_ ?_
 ·simp only[go_sem];exact⟨0,_,rfl,V,R0⟩
 rintro ρ H' ⟨k,nh,h20,hk,R⟩;refine W.vs ?_;have rn:=R.nx;have q0:=ag R.b0;have q3:=ag R.b3;by_cases hb:(k:Int)<d.C.length
 ·obtain⟨x,hx⟩:=ay (l:=d.C) (i:=k) V;have hxm:=an hx;obtain⟨f1,f2,f3⟩:=hf.C.2 x hxm;have hne:=fQ hx;have e0:=oC hx;have e1:k*3+3<=(aG d.C).length:=by rw[kq];omega
  simp only[go_sem,h20,hb,hne,e0,e1];refine W.dr 7 [0,1,0,4,12,31,0] mixed ?_;simp only[go_sem];refine⟨af x.F,[],aY.pure fun H2=>oU x.F V H2 _ ⟨rfl,rfl⟩,?_⟩;simp only[go_sem,QU]
  repeat (refine And.intro (by first|omega|(simp;done)|(simp;omega)|(intros;omega)|exact⟨rfl,V,V,kW _⟩) ?_)
  obtain⟨H1,hH1⟩:∃H1,H1=ext (ext H' [.J 0 76 [.lit (.int .i64 x.L),.Q x.F.length (ints x.F),.Q x.nb.length (x.nb.map af)]]) [.J 0 76 [.lit (.int .i64 x.L),.Q x.F.length (ints x.F),.lit (.slice none 0 0)]]:=⟨_,rfl⟩
  have n1:H1.A=H'.A+2:=by rw[hH1];rfl
  have gA:H1.get H'.A=some (.J 0 76 [.lit (.int .i64 x.L),.Q x.F.length (ints x.F),.Q x.nb.length (x.nb.map af)]):=by rw[hH1,dz (by simp[aW])];exact ef
  have gB:H1.get (H'.A+1)=some (.J 0 76 [.lit (.int .i64 x.L),.Q x.F.length (ints x.F),.lit (.slice none 0 0)]):=by rw[hH1];exact ef (H:=ext H' [_])
  have o1:ZP H' H1:=by rw[hH1];exact(ZP.ext _ _).trans (.ext _ _)
  have lA:=ag gA;rw[hH1]at lA;simp only[go_sem,lA];rw[<- hH1];refine W.aS 35175782155264 (by rfl) (fun ρ' H2=>∃(j:Nat) (rh:ZL),ρ' 33=aa j/\j<=x.nb.length/\ZP H' H2/\H1.A<=H2.A/\H2.get (H'.A+1)=some (.J 0 76 [.lit (.int .i64 x.L),.Q x.F.length (ints x.F),rh])/\aI (H'.A+2) H2 72 rh ((x.nb.take j).map af)/\(j=0->rh=.lit (.slice none 0 0))) (fun ρ' H=>x.nb.length-(iv (ρ' 33)).toNat) ?_ ?_
  ·simp only[go_sem];exact⟨0,_,rfl,V,o1,gB,.nil,fun _=>rfl⟩
  rintro ρ' H2 ⟨j,rh,h33,hj,o2,hn2,gB2,hrh,hrh0⟩;refine W.vs ?_;have o2n:=o2.A;have lB:=ag gB2;by_cases hb2:(j:Int)<x.nb.length
  ·obtain⟨r,hr⟩:=ay (l:=x.nb) (i:=j) V;have hrm:=an hr;have hrne:=aZ hr;have w1:=Vd ((j:Int)+1) V;simp only[go_sem,h33,hb2,hr,hrne];obtain⟨rh2,H3,hA,hO,hn3,hp⟩:=FR (af r) rfl hrh V (by simp;omega);simp only[af]at hA;have hcells:=hO.cells;have hone:=hO.one;have g3:H3.get (H'.A+1)=some (.J 0 76 [.lit (.int .i64 x.L),.Q x.F.length (ints x.F),rh]):=(hp _ V (hrh.ne V)).trans gB2;have l3:=ag g3;refine W.dr 5 [0,1,0,4,12] mixed ?_;simp only[go_sem,lB];refine⟨af r,[],aY.pure fun H2=>oU r (by have:=f3 r hrm;omega) H2 _ ⟨rfl,rfl⟩,?_⟩;simp only[go_sem,h33,hA,l3,hcells,hone,w1]
   repeat (refine And.intro (by first|omega|(simp;done)|(simp;omega)|(intros;omega)|exact⟨rfl,V,V,kW _⟩) ?_)
   have o3:ZP H' H3:=⟨V,fun id h=>(hp id V (hrh.ne V)).trans (o2.nf id h)⟩
   refine⟨by rw[aQ];omega,⟨j+1,rh2,ZG,V,o3.upd V _,by rw[aQ];omega,by rw[ah,Vh rfl],?_,V⟩,V⟩;have e:(x.nb.take (j+1)).map af=(x.nb.take j).map af++[af r]:=(by rw[bd hr];simp);rw[e];exact hO.ng ZJ (by rw[aQ];omega) fun id g h1 _ _ _=>by rw[ah,Vg V]
  ·rw[Vi V]at hrh;have R2:=R.over o2;have q3b:=ag R2.b3;obtain⟨nh2,H3,hA,hO,hn3,hp⟩:=S4 (H:=H) (H':=H2) (v:=nh) (n:=k) (xs:=[.lit (.int .i64 x.L),.Q x.F.length (ints x.F),rh]) (by rw[List.all_cons,List.all_cons,List.all_cons,hrh.one];rfl) rfl V R2.nd (by have:=R2.nx;omega);have r2n:=R2.nx;have fr:∀id,id<H.A+4->H3.get id=H2.get id:=fun id h=>hp id V (R2.nd.ne h);have g3:H3.na (H.A+3) 0=some (90,[.lit (.int .i64 d.Z),nh]):=ag ((fr _ V).trans R2.b3);have hcells:=hO.cells;have hone:=hO.one;have hrc:=hrh.cells;have hro:=hrh.one;have w1:=Vd ((k:Int)+1) V;simp only[go_sem,h20,h33,hb2,lB,q3b,hA,g3,hcells,hone,w1];obtain⟨H4,hH4⟩:∃H4,H4=H3.upd (H.A+3) (.J 0 90 [.lit (.int .i64 d.Z),nh2]):=⟨_,rfl⟩
   rw[<- hH4];refine(fun (h:∀E:Env,E 20=aa ((k:Int)+1)->∃s₃:St,eV prog G0 ⟨E,H4⟩ s₃/\Hb.A<=s₃.H.A/\(∃(k:Nat) (nh:ZL),s₃.ρ 20=aa k/\k<=d.C.length/\FiS d fv H s₃.H nh k (bh (d.C.take k)))/\d.C.length-(iv (s₃.ρ 20)).toNat<d.C.length-k)=>h _ (by simp only[go_sem])) fun E hE20=>?_;have n4:H4.A=H3.A:=(by rw[hH4];rfl);obtain⟨nb2,gn,b1,b2,rfl,b4,b5⟩:∃id g,H.A+4<=id/\id<H3.A/\nh2=.U id g 0 (k+1) 3/\(bh (d.C.take k)++[.lit (.int .i64 x.L),.Q x.F.length (ints x.F),rh]).length=(k+1)*3/\H3.get id=some (.J g 76 (bh (d.C.take k)++[.lit (.int .i64 x.L),.Q x.F.length (ints x.F),rh])):=by
    rcases hO with ⟨_,h,_⟩|h
    ·omega
    ·exact h
   have c0:∀id,id<H.A+3->H4.get id=H2.get id:=fun id h=>by rw[hH4,ah,Vg V];exact fr id (V)
   have c3:H4.get (H.A+3)=some (.J 0 90 [.lit (.int .i64 d.Z),.U nb2 gn 0 (k+1) 3]):=(by rw[hH4,ah,Vh rfl]);have c5:H4.get nb2=some (.J gn 76 (bh (d.C.take k)++[.lit (.int .i64 x.L),.Q x.F.length (ints x.F),rh])):=(by rw[hH4,ah,Vg V];exact b5);have e5:bh (d.C.take (k+1))=bh (d.C.take k)++[aa x.L,af x.F,ie x]:=(by rw[bd hx,QS]);by_cases hr0:x.nb=[]
   ·have hrn:rh=.lit (.slice none 0 0):=hrh0 (by rw[hr0]at hj;simpa using hj);subst hrn;refine⟨⟨E,H4⟩,eV.refl _,by show Hb.A<=H4.A;omega,⟨k+1,.U nb2 gn 0 (k+1) 3,hE20.trans ZG,V,⟨by show _<=H4.A;omega,⟨by have:=R2.ov.A;show _<=H4.A;omega,fun id h=>(c0 id V).trans (R2.ov.nf id h)⟩,(c0 _ V).trans R2.b0,(c0 _ V).trans R2.b1,(c0 _ V).trans R2.b2,c3,.inr ⟨nb2,gn,b1,by show _<H4.A;omega,rfl,?_,?_⟩⟩⟩,?_⟩
    ·rw[mZ];simp;omega
    ·show H4.get nb2=_;rw[e5,Eh hr0];exact c5
    ·show _-(iv (E 20)).toNat<_;rw[hE20];simp only[aa,bf];omega
   ·obtain⟨rk,gr,r1,r2,rfl,r4⟩:∃id g,H'.A+2<=id/\id<H2.A/\rh=.U id g 0 (x.nb.map af).length 1/\H2.get id=some (.J g 72 (x.nb.map af)):=by
     rcases hrh with ⟨_,h⟩|h
     ·simp at h;exact absurd h hr0
     ·exact h
    have nhne:∀g n,nh≠.U rk g 0 n 3:=fun g n he=>by
     rcases R.nd with ⟨h,_⟩|⟨i,g2,_,h,h2,_⟩
     ·rw[h]at he;cases he
     ·rw[h2]at he;have:=ZL.U.inj he;omega
    have c6:H4.get rk=some (.J gr 72 (x.nb.map af)):=(by rw[hH4,ah,Vg V,hp rk r2 nhne];exact r4);have hne2:nb2≠rk:=by
     rintro rfl;rw[c5]at c6;have:=(ZR.J.inj (Option.some.inj c6)).2.1;exact absurd this (ZH)
    have e6:∀c:ZL,bh (d.C.take k)++[.lit (.int .i64 x.L),.Q x.F.length (ints x.F),c]=(bh (d.C.take k)++[.lit (.int .i64 x.L),.Q x.F.length (ints x.F)])++c :: []:=fun c=>ZG
    rw[e6]at c5;have e7:bh (d.C.take (k+1))=(bh (d.C.take k)++[.lit (.int .i64 x.L),.Q x.F.length (ints x.F)])++bb x.nb :: []:=(by rw[e5,zW hr0,<- e6];rfl);refine⟨⟨E,H4.fG rk nb2 (.J gn 76 ((bh (d.C.take k)++[.lit (.int .i64 x.L),.Q x.F.length (ints x.F)])++bb x.nb :: []))⟩,eV.fG (s:=⟨E,H4⟩) aF c5 hne2 ZG (UM (fun c hc=>?_) ?_ fun c hc=>by cases hc),by show Hb.A<=H4.A;omega,
     ⟨k+1,.U nb2 gn 0 (k+1) 3,hE20.trans ZG,V,⟨by show _<=H4.A;omega,⟨by have:=R2.ov.A;show _<=H4.A;omega,fun id h=>(mF V V).trans ((c0 id V).trans (R2.ov.nf id h))⟩,(mF V V).trans ((c0 _ V).trans R2.b0),(mF V V).trans ((c0 _ V).trans R2.b1),(mF V V).trans ((c0 _ V).trans R2.b2),(mF V V).trans c3,.inr ⟨nb2,gn,b1,by show _<H4.A;omega,rfl,?_,?_⟩⟩⟩,?_⟩
    ·rcases VH.1 hc with hc|hc
     ·exact zY _ c hc
     ·simp only[List.mem_cons,List.not_mem_nil,or_false]at hc;rcases hc with rfl|rfl
      ·exact .lit _
      ·exact .ea _
    ·show Fz (fun id=>id=rk) H4 _ _ _;rw[show bb x.nb=.Q (x.nb.map af).length (x.nb.map af) by simp[bb]];refine .ny (S:=fun id=>id=rk) rfl c6 (by rw[Nat.mul_one]) fun j hj h2 h'=>?_;simp only[Nat.zero_add,Vw];exact .ea _
    ·rw[mZ];simp;omega
    ·rw[e7];exact xF hne2
    ·show _-(iv (E 20)).toNat<_;rw[hE20];simp only[aa,bf];omega
 have ek:k=d.C.length:=V
 subst ek;rw[Vi ZJ]at R;obtain⟨nbk,gn,b1,b2,rfl,b4,b5⟩:∃id g,H.A+4<=id/\id<H'.A/\nh=.U id g 0 d.C.length 3/\(bh d.C).length=d.C.length*3/\H'.get id=some (.J g 76 (bh d.C)):=by
  rcases R.nd with ⟨_,h,_⟩|h
  ·have:=hR.n1.1;omega
  ·exact h
 simp only[go_sem,h20,hb,q0];refine ak.X (AC d _ _ ⟨trivial,?_⟩);simp only[go_sem];obtain⟨H2,hH2⟩:∃H2,H2=ext H' [lH d]:=⟨_,rfl⟩
 rw[<- hH2];have o2:ZP H' H2:=by rw[hH2];exact .ext _ _
 have n2:H2.A=H'.A+1:=by rw[hH2];rfl
 have hbx:H2.get H'.A=some (lH d):=by rw[hH2];exact ef
 refine W.env fun E hE=>?_;have e2:E 2=.O H.A 0 0:=by rw[hE];simp only[go_sem]
 have e3:E 3=.O (H.A+1) 0 0:=by rw[hE];simp only[go_sem]
 have e4:E 4=.O (H.A+2) 0 0:=by rw[hE];simp only[go_sem]
 have e5:E 5=.O (H.A+3) 0 0:=by rw[hE];simp only[go_sem]
 let F:Nat->List ZL->ZK->Prop:=fun lo cs Hx=>lo<=Hx.A/\(∀id,id<H2.A->id≠nbk->Hx.get id=H2.get id)/\Hx.get nbk=some (.J gn 76 cs)
 refine W.sy (f:=109) (first:=[]) (cap:=[.O H'.A 0 0]) (by show E 53=_;rw[hE];rfl) (AB d V hf.nl H'.A)
  (fun k Hx=>F H2.A (bh (eo d c k)) Hx) (fun _ _=>False)
  (fun k Hx h=>by rw[h.2.1 _ V V];exact hbx) (fun k Hx b h=>⟨h.1,fun id h1 h2=>by rw[ah,Vg V];exact h.2.1 id h1 h2,by rw[ah,Vg V];exact h.2.2⟩) (fun _ _ _ h=>h)
  (fun b=>⟨by rw[aW];omega,fun id h1 h2=>dz h1,by rw[dz V,QP];exact(o2.nf _ b2).trans b5⟩) ZH AA (fun _ _ _=>trivial) (fun _ _ _=>trivial) (fun k y Hx B Bb hy hj hn hB hBb=>?_) (fun Hx hj hn=>?_) (fun Hx hs hn=>hs.elim) (fun i Hx hs hn=>hs.elim)
 ·obtain⟨v,hv,rfl⟩:=wS hy;obtain⟨v1,v2,v3⟩:=rE hv;obtain⟨x,hx⟩:=ay (l:=d.C) (i:=v) v1;have hxm:=an hx;obtain⟨x1,x2⟩:=hR.dec v x hx v2;refine W.vs ?_;simp only[go_sem,jL,dq,mE,Wk,XB,WX,W5,hB];obtain⟨H3,hH3⟩:∃H3,H3=Hx.upd H2.A Bb:=⟨_,rfl⟩
  rw[<- hH3];obtain⟨st,pd,n',en,ps',as',bo,hBe⟩:=hBb;have n3:H3.A=Hx.A:=by rw[hH3];rfl
  have hj3:F H2.A (bh (eo d c k)) H3:=by rw[hH3];exact⟨hj.1,fun id h1 h2=>by rw[ah,Vg V];exact hj.2.1 id h1 h2,by rw[ah,Vg V];exact hj.2.2⟩
  have jB:H3.get H2.A=some Bb:=by rw[hH3,ah,Vh rfl]
  refine W.en (fun E1=>E1 2=.O H.A 0 0 /\ E1 3=.O (H.A+1) 0 0 /\ E1 5=.O (H.A+3) 0 0 /\ E1 11=aa k /\ E1 12=aa v) (by simp only[go_sem,dq,e2,e3,e5]) fun E1 ⟨m2,m3,m5,m11,m12⟩=>?_
  have hvn:(v:Int)<d.C.length:=V
  have s2:=R.over o2;have oldH:∀ {Hy:ZK},(∀id,id<H2.A->id≠nbk->Hy.get id=H2.get id)->Hy.na H.A 0=some (38,[.lit (.int .i64 d.Z),.Q d.C.length (aG d.C),.lit (.int .u64 (d.nl:Int)),.Q d.Y.length (bA d.Y)])/\Hy.na (H.A+1) 0=some (180,[fv])/\Hy.na (H.A+3) 0=some (90,[.lit (.int .i64 d.Z),.U nbk gn 0 d.C.length 3]):=fun h =>
   ⟨ag ((h _ V V).trans s2.b0),ag ((h _ V V).trans s2.b1),ag ((h _ V V).trans s2.b3)⟩
  obtain⟨k0,k1,k3⟩:=oldH hj3.2.1;have ps:=oV hn8 x2 hR.L;have hpm:=sf (ns:=d.C) (x:=x) (fun q hq=>by have:=x2.2 q hq;omega) hR.L;have hpp:1<=aC (aT d.C x):=fX fun c hc=>(hpm c hc).1;have hpb:=ps.prod;have hrn:((bZ d.C x:Nat):Int)=aC (aT d.C x):=by unfold bZ;omega
  have hlk:(eo d c k)[v]?=some x:=by rw[oE hx];unfold gO;rw[Vg V]
  have el:=mZ (eo d c k);have hvk:v*3+2<(bh (eo d c k)).length:=by rw[el,lj];omega
  refine W.xG (Q':=fun e s2=>e=.normal/\∃rh,F H3.A (setAt (bh (eo d c k)) (v*3+2) [rh]) s2.H/\s2.H.get H2.A=some Bb/\aI H3.A s2.H 72 rh ((List.range (bZ d.C x)).map fun r=>af (eh d.Z x.L (c k r)))) ?_ ?_;rotate_left
  ·rintro e sx ⟨rfl,rh,hF,jBx,hrh⟩;obtain⟨rk,gr,r1,r2,rfl,r4⟩:∃id g,H3.A<=id/\id<sx.H.A/\rh=.U id g 0 ((List.range (bZ d.C x)).map fun r=>af (eh d.Z x.L (c k r))).length 1/\sx.H.get id=some (.J g 72 ((List.range (bZ d.C x)).map fun r=>af (eh d.Z x.L (c k r)))):=by
    rcases hrh with ⟨_,h⟩|h
    ·have:bZ d.C x=0:=(by simpa using h);omega
    ·exact h
   have hfs:=QQ (c:=c) hv hx;have edr:dG d.Z d.C c k x=(List.range (bZ d.C x)).map fun r=>eh d.Z x.L (c k r):=rfl;have ey:ie { x with nb:=x.nb++dG d.Z d.C c k x }=.Q ((List.range (bZ d.C x)).map fun r=>af (eh d.Z x.L (c k r))).length ((List.range (bZ d.C x)).map fun r=>af (eh d.Z x.L (c k r))):=by
    have hne:x.nb++dG d.Z d.C c k x≠[]:=by
     rw[x1,edr,List.nil_append];intro h;have:bZ d.C x=0:=(by simpa using h);omega
    rw[zW hne];show bb (x.nb++_)=_;rw[x1,edr,List.nil_append];simp[bb,XW,Function.comp_def]
   have hob:=hF.2.2;rw[iX hvk]at hob;have hc2:bh (eo d c (k+1))=(bh (eo d c k)).set (v*3+2) (.Q ((List.range (bZ d.C x)).map fun r=>af (eh d.Z x.L (c k r))).length ((List.range (bZ d.C x)).map fun r=>af (eh d.Z x.L (c k r)))):=by
    rw[hfs,Ei (y:={ x with nb:=x.nb++dG d.Z d.C c k x }) hlk ⟨rfl,rfl⟩,ey,iX hvk]
   have hne2:nbk≠rk:=(by have:=hj3.1;omega);refine⟨⟨sx.ρ,sx.H.fG rk nbk (.J gn 76 (bh (eo d c (k+1))))⟩,eV.fG aF hob hne2 (by rw[hc2,VF,VF]) ?_,ZJ,⟨_,_,_,_,_,_,_,by rw[mF V V,jBx,hBe]⟩,by rw[mF V V];exact jBx,by show Hx.A<=sx.H.A;have:=hF.1;omega,
    ⟨by show H2.A<=sx.H.A;have:=hF.1;omega,fun id h1 h2=>(mF V h2).trans (hF.2.1 id h1 h2),xF hne2⟩⟩
   rw[hc2];refine A2 (zY _) ?_;refine .ny (S:=fun id=>id=rk) rfl r4 (by rw[Nat.mul_one]) fun j hj h2 h'=>?_;simp only[Nat.zero_add,Vw];exact .ea _
  refine W.vs ?_;simp only[go_sem,m2,m12,k0];refine ak.X (FZ d.C v x hx (fun q hq=>by have:=x2.2 q hq;omega) ps _ _ ⟨⟨_,_,_,_,_,_,_,by rw[jB,hBe]⟩,?_⟩);rw[<- hrn];simp only[go_sem];refine W.aS 1237940038132458770292285440 (by rfl) (fun ρ2 H4=>∃(r:Nat) (rh:ZL),ρ2 60=aa r/\r<=bZ d.C x/\F H3.A (setAt (bh (eo d c k)) (v*3+2) [rh]) H4/\H4.get H2.A=some Bb/\aI H3.A H4 72 rh ((List.range r).map fun r=>af (eh d.Z x.L (c k r)))/\(r=0->rh=.lit (.slice none 0 0)))
   (fun ρ2 H=>bZ d.C x-(iv (ρ2 60)).toNat) ?_ ?_
  ·simp only[go_sem];refine⟨0,.lit (.slice none 0 0),rfl,V,⟨ZJ,hj3.2.1,?_⟩,jB,.nil,fun _=>rfl⟩;rw[show setAt (bh (eo d c k)) (v*3+2) [.lit (.slice none 0 0)]=bh (eo d c k) from by
    have:=Ei (y:=x) hlk ⟨rfl,rfl⟩;rw[Eh x1]at this;rw[<- this];congr 1;exact ub hlk]
   exact hj3.2.2
  rintro ρ2 H4 ⟨r,rh,h60,hr,hF,jB4,hrh,hrh0⟩;refine W.en (fun E2=>E2 2=.O H.A 0 0 /\ E2 3=.O (H.A+1) 0 0 /\ E2 5=.O (H.A+3) 0 0 /\ E2 11=aa k /\ E2 12=aa v /\ E2 59=aa (bZ d.C x) /\ E2 60=aa r) (by simp only[go_sem,m2,m3,m5,m11,m12,h60]) fun E2 ⟨i2,i3,i5,i11,i12,i59,i60⟩=>?_
  refine W.vs ?_;by_cases hb2:(r:Int)<bZ d.C x
  ·obtain⟨k0,k1,k3⟩:=oldH hF.2.1;have kn:=ag hF.2.2;have hne:=fQ hx;have ec:=mV hx;have w1:=Vd ((r:Int)+1) V;obtain⟨cb,hpc⟩:=hfv k r v x H4 hv hx V ⟨V,fun id h=>(hF.2.1 id V V).trans (s2.ov.nf id h)⟩;have hs:(setAt (bh (eo d c k)) (v*3+2) [rh])[v*3+2]?=some rh:=(by rw[iX hvk,VB hvk]);obtain⟨rh2,H5,hA,hO,hn5,hp⟩:=FR (af (eh d.Z x.L (c k r))) rfl hrh hF.1 (by rw[VA,WT];omega);simp only[af]at hA;have hcells:=hO.cells;have hone:=hO.one;have hpr:aY prog G0 (.X 144 [] []) [.lit (.int .i64 d.Z),.lit (.int .i64 x.L),.lit (.int .i64 (c k r))] H4 (af (eh d.Z x.L (c k r))) []:=aY.pure fun H2=>SU d.Z x.L (c k r) (by have:=hR.L x hxm;omega) cb H2 _ ⟨rfl,rfl⟩;have hrhs:rh=.lit (.slice none 0 0)\/∃i g n,rh=.U i g 0 n 1/\H3.A<=i/\i<H4.A:=by
    rcases hrh with ⟨h,_⟩|⟨i,g,h1,h2,h3,_⟩
    ·exact .inl h
    ·exact .inr ⟨i,g,_,h3,h1,h2⟩
   have hset:∀a b,setAt (setAt (bh (eo d c k)) (v*3+2) [a]) (v*3+2) [b]=setAt (bh (eo d c k)) (v*3+2) [b]:=fun a b=>by rw[iX hvk,iX (by rw[VF];exact hvk),iX hvk,YX]
   have hslen:∀a,(setAt (bh (eo d c k)) (v*3+2) [a]).length=(bh (eo d c k)).length:=fun a=>by rw[iX hvk,VF]
   have hg5:H5.get nbk=some (.J gn 76 (setAt (bh (eo d c k)) (v*3+2) [rh])):=(hp _ (by have:=hF.1;omega) (hrh.ne V)).trans hF.2.2;have kn5:=ag hg5;have ho5:∀id,id<H2.A->id≠nbk->H5.get id=H2.get id:=fun id h1 h2=>(hp _ (by have:=hF.1;omega) (hrh.ne V)).trans (hF.2.1 id h1 h2);have jB5:H5.get H2.A=some Bb:=(hp _ (by have:=hF.1;omega) (hrh.ne V)).trans jB4;obtain⟨hn34,-,-⟩:=hF;rcases rs with _|⟨b0,rs⟩<;>rcases hrhs with rfl|⟨i,g,n,rfl,hi1,hi2⟩
   all_goals
    simp only[go_sem,i60,i59,hb2];refine W.dr 24 [0,1,0,0,8,0,56,120,248,0,512,0,2048,0,14336,30720,63488,0,0,0,917504,2096640,4193792,8388600] mixed ?_;simp only[go_sem,i2,i3,i5,i11,i12,k0,k1,k3,kn,hvn,hne,ec,hs];refine⟨.lit (.int .i64 (c k r)),_,hpc,af (eh d.Z x.L (c k r)),[],hpr,?_⟩;simp only[go_sem,i2,i3,i5,i11,i12,i60,hvn,kn5,hA,hcells,hone,w1];refine⟨by repeat' (first|refine And.intro ?_ ?_|(intro x hx;omega)),by repeat' (first|refine And.intro ?_ ?_|(intro x hx;omega)),by rw[hslen];omega,by rw[aQ];omega,⟨_,_,_,_,_,_,_,by rw[ah,Vg V,jB5,hBe]⟩,
     ⟨r+1,rh2,ZG,V,⟨by rw[aQ];omega,fun id h1 h2=>by rw[ah,Vg h2];exact ho5 id h1 h2,by rw[ah,Vh rfl,hset]⟩,by rw[ah,Vg V];exact jB5,?_,V⟩,by rw[h60];simp only[aa,bf];omega⟩
    have e:((List.range (r+1)).map fun r=>af (eh d.Z x.L (c k r)))=((List.range r).map fun r=>af (eh d.Z x.L (c k r)))++[af (eh d.Z x.L (c k r))]:=(by rw[VX];simp);show aI _ _ _ _ ((List.range (r+1)).map fun r=>af (eh d.Z x.L (c k r)));rw[e];exact hO.ng ZJ (by rw[aQ];omega) fun id g h1 _ _ _=>by rw[ah,Vg V]
  ·have er:r=bZ d.C x:=V;subst er;simp only[go_sem,i59,i60,hb2];exact⟨rh,hF,jB4,hrh⟩
 ·have s2:=R.over o2;have f4:=ag ((hj.2.1 _ V V).trans s2.b2);have f5:=ag ((hj.2.1 _ V V).trans s2.b3);simp only[go_sem,e4,e5,f4,f5];have ovx:ZP H Hx:=⟨V,fun id h=>(hj.2.1 id V V).trans (s2.ov.nf id h)⟩
  refine aj.bB (v':=eZ d.Z (df d c)) aF hcl (ovx.upd V _) (.agg rfl fun i hi _=>?_) hK
  match i,hi with
  |0,_=>exact .lit _
  |1,_ =>
   have hg:∀b,(Hx.upd (H.A+2) b).get nbk=some (.J gn 76 (bh (df d c))):=fun b=>by
    rw[ah,Vg V];have:=hj.2.2;rw[wU]at this;exact this
   show Fz _ _ _ (.U nbk gn 0 d.C.length 3) (.Q (df d c).length (aG (df d c)));rw[show (df d c).length=d.C.length from lj _ _ _];refine .ny (by show H.A<=_;omega) (hg _) (by rw[kq];congr 1;exact lj _ _ _) fun j hj h2 h'=>?_;simp only[Nat.zero_add];exact zX _ j _ _
structure nnl (ns:List ZM)(u:ZY):Prop where
 vars:bW u.vars ns.length
 size:(u.w.length:Int)=aC (aK (au ns) u.vars)
 w:∀x∈u.w,-100<=x/\x<=100
def xa (d:ZN):Prop:=d.Y.length<=4/\∀u∈d.Y,nnl d.C u
def xb {vars:List Int}(h8:ns.length<=8)(hp:bW vars ns.length)(hc:∀y∈ns,1<=y.L/\y.L<=4):fb (aK (au ns) vars) :=
 oV (x:=⟨0,vars,[]⟩) h8 hp hc
def S6 (d:ZN)(hf:Z9 d)(h8:d.C.length<=8)(hc:∀y∈d.C,1<=y.L/\y.L<=4)(H:ZK)(K:ZQ->ZK->Prop)(hK:K (.ret (.lit (.bool (lI (xa d))))) H):ae prog G0 108 [da d] H K:=by
 refine ae.X ⟨_,func108,rfl,rfl⟩ fun hcl=>?_;have hul:=hf.Y.1;have no:¬xa d->∀H',ZP H H'->aj prog G0 H K (.lit (.bool false)) H':=fun h H' ov=>aj.bB aF hcl ov (.lit _) (by rw[oS h]at hK;exact hK);refine ae.st (n:=74) (rs:=[.tmp 2]) func108 ?_;simp only[go_sem,gR,cR];obtain⟨H1,hH1⟩:∃H1,H1=ext H [.J 0 38 [.lit (.int .i64 d.Z),.Q d.C.length (aG d.C),.lit (.int .u64 (d.nl:Int)),.Q d.Y.length (bA d.Y)]]:=⟨_,rfl⟩
 have l1:H1.na H.A 0=some (38,[.lit (.int .i64 d.Z),.Q d.C.length (aG d.C),.lit (.int .u64 (d.nl:Int)),.Q d.Y.length (bA d.Y)]):=by rw[hH1];exact ag (cL ..)
 have n1:H1.A=H.A+1:=hH1▸rfl
 have o1:ZP H H1:=hH1▸.ext _ _
 rw[<- hH1];refine W.aS 9444732965739290166632 (by rfl) (fun ρ H'=>∃k:Nat,ρ 18=aa k/\k<=d.Y.length/\ZP H1 H'/\ρ 3=.lit (.bool (decide ((d.Y.length:Int)<=4)))/\(0<k->d.Y.length<=4)/\∀u∈d.Y.take k,nnl d.C u) (fun ρ H=>d.Y.length-(iv (ρ 18)).toNat) ?_ ?_
 ·simp only[go_sem];exact⟨0,rfl,V,.refl _,V,ZG⟩
 rintro ρ H' ⟨k,h18,hk,ov,h3,hk4,hall⟩;refine W.en (fun E=>E 1=.O H.A 0 0 /\ E 3=.lit (.bool (decide ((d.Y.length:Int)<=4))) /\ E 16=.Q d.Y.length (bA d.Y) /\ E 17=aa d.Y.length /\ E 18=aa k) (by simp only[go_sem,h3,h18]) fun E ⟨e1,e3,e16,e17,e18⟩=>?_
 refine W.vs ?_;have ovn:=ov.A;have l2:=(ov.na (g:=0) (by omega:H.A<H1.A)).trans l1;by_cases hb:(k:Int)<d.Y.length;rotate_left
 ·rw[Vi V]at hall;by_cases h4:(d.Y.length:Int)<=4
  ·simp only[go_sem,e3,e17,e18,hb,h4];rw[mv ⟨V,hall⟩]at hK;exact aj.bB aF hcl (o1.trans ov) (.lit _) hK
  ·simp only[go_sem,e3,e17,e18,hb,h4];exact no (fun h=>by have:=h.1;omega) _ (o1.trans ov)
 obtain⟨u,hu⟩:=ay (l:=d.Y) (i:=k) V;have hum:=an hu;obtain⟨f1,f2⟩:=hf.Y.2 u hum;have hne:=zL hu;have p0:=zK hu;have p1:k*2+2<=(bA d.Y).length:=by rw[zJ];omega
 have ove:∀L,ZP H (ext H' L):=fun L=>(o1.trans ov).trans (.ext _ _);by_cases h4:(d.Y.length:Int)<=4;rotate_left
 ·simp only[go_sem,e3,e16,e17,e18,hb,h4,hne,p0,p1];exact no (fun h=>by have:=h.1;omega) _ (ove _)
 have l3:∀L,(ext H' L).na H.A 0=_:=fun L=>(eF V).trans l2;simp only[go_sem,e1,e3,e16,e17,e18,hb,h4,hne,p0,p1,l3];obtain⟨H2,hH2⟩:∃H2,H2=ext H' [.J 0 87 [.Q u.vars.length (ints u.vars),.Q u.w.length (ints u.w)]]:=⟨_,rfl⟩
 have m1:H2.na H'.A 0=some (87,[.Q u.vars.length (ints u.vars),.Q u.w.length (ints u.w)]):=by rw[hH2];exact ag ef
 have m2:=l3 [.J 0 87 [.Q u.vars.length (ints u.vars),.Q u.w.length (ints u.w)]];rw[<- hH2]at m2;have n2:H2.A=H'.A+1:=by rw[hH2];rfl
 have ov2:ZP H H2:=by rw[hH2];exact ove _
 rw[<- hH2];refine ak.X (FX u.vars d.C.length V _ _ ⟨trivial,?_⟩);by_cases c1:bW u.vars d.C.length;rotate_left
 ·simp only[go_sem,c1];exact no (fun h=>c1 (h.2 u hum).vars) _ ov2
 have sm:=xb h8 c1 hc;have pl:(aK (au d.C) u.vars).length=u.vars.length:=jj _ _;have v8:=c1.len;simp only[go_sem,c1,m1];refine W.aS 562881233944896 (by rfl) (fun ρ' H3=>H3=H2/\∃j:Nat,ρ' 36=aa j/\j<=u.vars.length/\ρ' 6=aa (aC ((aK (au d.C) u.vars).take j))) (fun ρ' H=>u.vars.length-(iv (ρ' 36)).toNat) ?_ ?_
 ·simp only[go_sem];exact⟨0,rfl,V,by simp[iM]⟩
 rintro ρ' H3 ⟨rfl,j,h36,hj,h6⟩;refine W.vs ?_;by_cases hb2:(j:Int)<u.vars.length
 ·obtain⟨q,hq⟩:=ay (l:=u.vars) (i:=j) V;obtain⟨i,rfl,y,hy⟩:=mX (l:=d.C) (c1.2 q (an hq)).1 (c1.2 q (an hq)).2;have hne2:=aZ hq;have hne3:=fQ hy;have ey:=mV hy;have hi:(i:Int)<d.C.length:=by have:=aO hy;omega
  have pk:(aK (au d.C) u.vars)[j]?=some y.L:=by rw[jY hq,Int.toNat_natCast,bI (cS hy)]
  have b1:=(sm.take (j+1)).prod;rw[bd pk,jh]at b1;have w1:=Vd ((j:Int)+1) V;have w2:=Vd (aC ((aK (au d.C) u.vars).take j)*y.L) V;simp only[go_sem,h36,h6,e1,m2,hb2,hq,hne2,hne3,hi,ey,w1,w2];exact⟨⟨j+1,ZG,V,by rw[bd pk,jh]⟩,V⟩
 rw[Vi V]at h6;by_cases c2:(u.w.length:Int)=aC (aK (au d.C) u.vars);rotate_left
 ·simp only[go_sem,h36,h6,m1,hb2,c2];exact no (fun h=>c2 (h.2 u hum).size) _ ov2
 simp only[go_sem,h36,h6,m1,hb2,c2];refine W.aS 4721790022117341791240 (by rfl) (fun ρ2 H4=>H4=H3/\∃i:Nat,ρ2 59=aa i/\i<=u.w.length/\ρ2 3=.lit (.bool true)/\∀w∈u.w.take i,-100<=w/\w<=100) (fun ρ2 H=>u.w.length-(iv (ρ2 59)).toNat) ?_ ?_
 ·simp only[go_sem];exact⟨0,rfl,V,ZG⟩
 rintro ρ2 H4 ⟨rfl,i,h59,hi,h3',hw⟩;refine W.vs ?_;have hpr:=sm.prod;by_cases hb3:(i:Int)<u.w.length<;>have hb3':=hb3<;>rw[c2]at hb3'
 ·obtain⟨a,ha⟩:=ay (l:=u.w) (i:=i) V;have ham:=an ha;have hane:=aZ ha;by_cases d1:a >= -100;rotate_left
  ·simp only[go_sem,h59,h3',hb3,hb3',ha,hane,d1];exact no (fun h=>by have:=(h.2 u hum).w a ham;omega) _ ov2
  by_cases d2:a<=100;rotate_left
  ·simp only[go_sem,h59,h3',hb3,hb3',ha,hane,d1,d2];exact no (fun h=>by have:=(h.2 u hum).w a ham;omega) _ ov2
  have w1:=Vd ((i:Int)+1) V;simp only[go_sem,h59,h3',hb3,hb3',ha,hane,d1,d2,w1];refine⟨⟨i+1,ZG,V,fun w hw'=>?_⟩,V⟩;rw[bd ha]at hw';rcases VH.1 hw' with hw'|hw'
  ·exact hw w hw'
  ·obtain rfl:=List.mem_singleton.1 hw';exact⟨V,V⟩
 ·have w1:=Vd ((k:Int)+1) V;rw[Vi V]at hw;simp only[go_sem,h59,h3',e18,hb3',w1];refine⟨V,⟨k+1,ZG,V,by rw[hH2];exact ov.trans (.ext _ _),fun _=>V,fun y hy=>?_⟩,by rw[h18];simp only[aa,bf];omega⟩;rw[bd hu]at hy;rcases VH.1 hy with hy|hy
  ·exact hall y hy
  ·obtain rfl:=List.mem_singleton.1 hy;exact⟨c1,c2,hw⟩
structure ZS (d:ZN):Prop where
 n:Z7 d
 nB:Z4 d.Z (df d fun _ _=>0)
 Y:xa d
def FS (g L x:Int):(eh g L x).length=L.toNat:=by simp[eh]
def qh {c:Nat->Nat->Int}(h:y∈df d c):∃v x,d.C[v]?=some x/\y=gO d c (aJ d).length v x:=by
 obtain⟨v,hv⟩:=Vl.1 h;have hl:=aO hv;rw[show (df d c).length=d.C.length from lj _ _ _]at hl;obtain⟨x,hx⟩:=ay hl;have:=oE (c:=c) (k:=(aJ d).length) hx;rw[show eo d c (aJ d).length=df d c from rfl,hv]at this;exact⟨v,x,hx,Option.some.inj this⟩
def S7 (hf:Z9 d)(hR:Z7 d)(c:Nat->Nat->Int):xf (df d c):=by
 refine⟨by rw[show (df d c).length=d.C.length from lj _ _ _];exact hf.C.1,fun y hy=>?_⟩;obtain⟨v,x,hx,rfl⟩:=qh hy;have hxm:=an hx;obtain⟨f1,f2,f3⟩:=hf.C.2 x hxm;unfold gO;split
 ·rename_i h;obtain⟨x1,x2⟩:=hR.dec v x hx h.1;have ps:=(oV hR.n1.2 x2 hR.L).prod;have hc:=hR.L x hxm;refine⟨f1,?_,fun r hr=>?_⟩
  ·show ((x.nb++dG d.Z d.C c (bp d.nl v) x).length:Int)<_;rw[x1];simp only[dG,List.nil_append,VA,WT,bZ];omega
  ·rw[show ({ x with nb:=x.nb++dG d.Z d.C c (bp d.nl v) x }:ZM).nb=x.nb++dG d.Z d.C c (bp d.nl v) x from rfl,x1,List.nil_append]at hr;obtain⟨i,_,rfl⟩:=Vu.1 hr;rw[FS];omega
 ·exact⟨f1,f2,f3⟩
def S8 (d:ZN)(hf:Z9 d)(H:ZK)(K:ZQ->ZK->Prop)(hK:K (.ret (aa (if lI (ZS d) then 0 else 200))) H):ae prog G0 64 [da d] H K:=by
 refine ae.X ⟨_,func64,rfl,rfl⟩ fun hcl=>?_;have no:¬ZS d->∀H',ZP H H'->aj prog G0 H K (.lit (.int .i64 200)) H':=fun h H' ov=>aj.bB aF hcl ov (.lit _) (by rw[oS h]at hK;exact hK);have hg:ZS d->1<=d.Z/\d.Z<=60:=fun h=>h.nB.g1;refine ae.st (n:=25) (rs:=[.tmp 2]) func64 ?_;simp only[go_sem,gR,cR];obtain⟨H1,hH1⟩:∃H1,H1=ext H [.J 0 38 [.lit (.int .i64 d.Z),.Q d.C.length (aG d.C),.lit (.int .u64 (d.nl:Int)),.Q d.Y.length (bA d.Y)]]:=⟨_,rfl⟩
 have l1:H1.na H.A 0=some (38,[.lit (.int .i64 d.Z),.Q d.C.length (aG d.C),.lit (.int .u64 (d.nl:Int)),.Q d.Y.length (bA d.Y)]):=by rw[hH1];exact ag (cL ..)
 have o1:ZP H H1:=hH1▸.ext _ _
 rw[<- hH1];by_cases c1:d.Z<1
 ·simp only[go_sem,c1];exact no (fun h=>by have:=hg h;omega) _ o1
 by_cases c2:d.Z > 60
 ·simp only[go_sem,l1,c1,c2];exact no (fun h=>by have:=hg h;omega) _ o1
 simp only[go_sem,l1,c1,c2];refine ak.X (SW d hf _ _ ⟨trivial,?_⟩);by_cases c3:Z7 d;rotate_left
 ·rw[oS c3];simp only[go_sem];exact no (fun h=>c3 h.n) _ o1
 rw[mv c3];simp only[go_sem,l1];refine ak.X (S5 d hf c3 (fun _ _=>0) _ [] _ (fun i h=>by cases h) rfl rfl (fun p r v x H2 _ hx _ _=>⟨⟨Int.le_refl 0,by have:=c3.L x (an hx);omega⟩,aY.pure fun H3=>SV _ _ H3 _ ⟨rfl,rfl⟩⟩) _ ⟨trivial,?_⟩);simp only[go_sem];refine ak.X (Tz d.Z _ (S7 hf c3 _) _ _ ⟨trivial,?_⟩);by_cases c4:Z4 d.Z (df d fun _ _=>0);rotate_left
 ·rw[F3 c4];simp only[go_sem];exact no (fun h=>c4 h.nB) _ o1
 rw[F2 c4];simp only[go_sem,l1];refine ak.X (S6 d hf c3.n1.2 c3.L _ _ ⟨trivial,?_⟩);by_cases c5:xa d;rotate_left
 ·rw[oS c5];simp only[go_sem];exact no (fun h=>c5 h.Y) _ o1
 rw[mv c5];simp only[go_sem];rw[mv (⟨c3,c4,c5⟩:ZS d)]at hK;exact aj.bB aF hcl o1 (.lit _) hK
structure Z2 (d:ZN)(p:List (List Int)):Prop where
 len:p.length=(aJ d).length
 row:∀(k v:Nat) (x:ZM) (l:List Int),(aJ d)[k]?=some v->d.C[v]?=some x->p[k]?=some l->l.length=bZ d.C x/\∀a∈l,0<=a/\a<x.L
noncomputable def S9 (d:ZN)(p:List (List Int)):Int:=if lI (ZS d) then (if lI (Z2 d p) then 0 else 201) else 200
def fixC (p:List (List Int))(k r:Nat):Int:=(p.getD k []).getD r 0
def Ta {p:List (List Int)}(h:Z2 d p){k r:Nat}(hv:(aJ d)[k]?=some v)(hx:d.C[v]?=some x)(hr:r<bZ d.C x):
  ∃l a,p[k]?=some l/\l[r]?=some a/\fixC p k r=a/\0<=a/\a<x.L:=by
 obtain⟨l,hl⟩:=ay (l:=p) (i:=k) (by rw[h.len];exact aO hv);obtain⟨h1,h2⟩:=h.row k v x l hv hx hl;obtain⟨a,ha⟩:=ay (l:=l) (i:=r) V;exact⟨l,a,hl,ha,by unfold fixC;rw[bI hl,bI ha],h2 a (an ha)⟩
end Go.Proofs
namespace Go.Hx
variable {P:Program} {G:Nat->Option (List ZL)} {n:Nat} {rd:Option Nat} {Q:AX->St->Prop}
def xH (N:Nat)(H1 H2:ZK):Prop:=H1.A<=H2.A/\∀id,id≠N->id<H1.A->H2.get id=H1.get id
def GE (P:Program)(G:Nat->Option (List ZL))(f:FuncId)(first cap:List ZL)(xs:List (List ZL))(N:Nat)(S0:ZK->Prop)(S:Nat->ZK->Prop):Prop :=
 ∀(idy:Nat) (J:Nat->ZK->Prop) (Stop:ZK->Prop) (H:ZK) (K:ZQ->ZK->Prop),H.A=N ->
  (∀k H1,J k H1->S0 H1)->(∀k H1 H2,J k H1->xH N H1 H2->J k H2)->J 0 H ->
  (∀k x H1 K1,xs[k]?=some x->J k H1->S k H1->N<H1.A->(∀H',J (k+1) H'->S k H'->H1.A<=H'.A->K1 (.ret (.lit (.bool true))) H')->(∀H',Stop H'->H1.A<=H'.A->K1 (.ret (.lit (.bool false))) H')->ak P G (.nk idy) x H1 K1) ->
  (∀H',J xs.length H'->N<=H'.A->K (.ret (.nc [])) H') ->
  (∀H',Stop H'->N<=H'.A->K (.ret (.nc [])) H') ->
  ae P G f (first++[.nk idy]++cap) H K
def W.GF {g:Operand}{ps:Array Tmp}{asg body:Code}{ρ:Env}{H:ZK}{f:FuncId}{first cap:List ZL}{xs:List (List ZL)}{S0:ZK->Prop}{S:Nat->ZK->Prop}(hg:ar G ρ g=.X f first cap)
  (hit:GE P G f first cap xs (H.A+1) S0 S) (J:Nat->ZK->Prop) (Stop:AX->ZK->Prop) (hS:∀k H1,J k H1->S0 H1) (hJw:∀k H1 H2,J k H1->xH (H.A+1) H1 H2->J k H2) (hlow:∀k H1,J k H1->H.A<H1.A)
  (hJu:∀k H1 b,J k H1->J k (H1.upd H.A b)) (hSu:∀c H1 b,Stop c H1->Stop c (H1.upd H.A b)) (hSk:∀k H1 b,S k H1->S k (H1.upd H.A b))
  (hJ0:∀b,J 0 (ext H [b])) (hps:ps.toList.all (fun t=>decide (t<n))=true) (hxl:∀x∈xs,x.length=ps.size)
  (hrd:∀k H1,J k H1->fI H1 rd) (hrd2:∀c H1,Stop c H1->fI H1 rd)
  (hround:∀k x H1 B Bb,xs[k]?=some x->J k H1->S k H1->H.A+1<H1.A->H1.get H.A=some B->(∃st pd n' en ps' as' bo,Bb=ZR.loop st pd n' en ps' as' bo) ->
   W P G n (some H.A) asg (mE P G n H.A B Bb H1.A body (fun H'=>J (k+1) H'/\S k H') Stop) ⟨jL (dq ρ n) (ps.toList.zip x),H1⟩)
  (hend:∀H',J xs.length H'->H.A+1<=H'.A->Q .normal ⟨ρ,H'⟩)
  (hret:∀H',Stop .ret H'->H.A+1<=H'.A->Q .ret ⟨ρ,H'⟩) (hexit:∀i H',Stop (.exit i) H'->H.A+1<=H'.A->Q (.exit i) ⟨ρ,H'⟩):
  W P G n rd (.rangeFunc g ps asg body) Q ⟨ρ,H⟩:=by
 refine W.rangeFunc (s:=⟨ρ,H⟩) hg ⟨_,uT _ _,?_⟩;obtain⟨B,hB⟩:∃B,B=ZR.loop .ready none n ρ ps asg body:=⟨_,rfl⟩
 obtain⟨Bb,hBb⟩:∃B,B=ZR.loop .busy none n ρ ps asg body:=⟨_,rfl⟩
 have nx:(ext H [B]).A=H.A+1:=rfl;show ae P G f (first++[.nk H.A]++cap) (ext H [ZR.loop .ready none n ρ ps asg body]) (yL rd Q ρ H.A);rw[<- hB];refine hit H.A (fun k H1=>H1.get H.A=some B/\J k H1) (fun H1=>∃c pend,H1.get H.A=some (.loop .done (some pend) n ρ ps asg body)/\Stop c H1/\((c=.ret/\pend=.ret)\/∃i,c=.exit i/\pend=.exit i)) _ _ nx
  (fun k H1 h=>hS k H1 h.2) (fun k H1 H2 h hw=>⟨(hw.2 _ V (hlow _ _ h.2)).trans h.1,hJw _ _ _ h.2 hw⟩) ⟨ef,hJ0 B⟩ (fun k x H1 K1 hx hj hs hn hgo hst=>?_) (fun H' hj hn=>?_) (fun H' hj hn=>?_)
 ·have hxm:=hxl x (an hx);refine ak.nk (hj.1.trans (congrArg some hB)) hxm hps ?_;refine(hround k x H1 B Bb hx hj.2 hs hn hj.1 ⟨_,_,_,_,_,_,_,hBb⟩).mono fun e s1 h1=>?_;cases e with
  |normal =>
   obtain⟨a1,a2⟩:=h1;refine⟨Bb,by rw[a1,hB,hBb];rfl,?_⟩;refine a2.mono fun e2 s2 h2=>?_;cases e2 with
   |normal =>
    obtain⟨b1,b2,b3,b4⟩:=h2;exact⟨B,by rw[b1,hB,hBb];rfl,hgo _ ⟨by rw[ah,Vh rfl],hJu _ _ _ b3⟩ (hSk _ _ _ b4) b2⟩
   |ret =>
    obtain⟨b1,b2,b3⟩:=h2;exact⟨.loop .done (some .ret) n ρ ps asg body,by rw[b1,hBb];rfl,hst _ ⟨.ret,.ret,by rw[ah,Vh rfl],hSu _ _ _ b3,.inl ⟨rfl,rfl⟩⟩ b2⟩
   |exit i =>
    obtain⟨b1,b2,b3⟩:=h2;exact⟨.loop .done (some (.exit i)) n ρ ps asg body,by rw[b1,hBb];rfl,hst _ ⟨.exit i,.exit i,by rw[ah,Vh rfl],hSu _ _ _ b3,.inr ⟨i,rfl,rfl⟩⟩ b2⟩
   |_=>exact h2.elim
  |_=>exact h1.elim
 ·refine⟨hrd _ _ hj.2,(none,.loop .exhausted none n ρ ps asg body),by rw[hj.1,hB];rfl,?_⟩;exact hend _ (hJu _ _ _ hj.2) hn
 ·obtain⟨c,pend,h1,h2,h3⟩:=hj;refine⟨hrd2 _ _ h2,(some pend,.loop .exhausted (some pend) n ρ ps asg body),by rw[h1];rfl,?_⟩;rcases h3 with ⟨rfl,rfl⟩|⟨i,rfl,rfl⟩
  ·exact hret _ (hSu _ _ _ h2) hn
  ·exact hexit i _ (hSu _ _ _ h2) hn
end Go.Hx
namespace Go.Proofs
open Go.Hx Tryz
variable {g:Int}{vals:List Int}{ns:List ZM}{N k v:Nat}{c:Nat->Nat->Int}{x:ZM}{d:ZN}
def Tb:∀ {cs vs:List Int} {k:Nat} {c v:Int},vs.length=cs.length->cs[k]?=some c->vs[k]?=some v->v+1<c->(∀(j:Nat) (a b:Int),k<j->cs[j]?=some a->vs[j]?=some b->b=a-1) ->
  lg cs vs=some (vs.take k++(v+1) :: (cs.drop (k+1)).map fun _=>0):=by
 have none_of:∀ {cs vs:List Int},vs.length=cs.length->(∀(j:Nat) (a b:Int),cs[j]?=some a->vs[j]?=some b->b=a-1)->lg cs vs=none:=by
  intro cs
  induction cs with
  |nil=>intro vs _ _;cases vs<;>rfl
  |cons c cs ih =>
   intro vs hl h;cases vs with
   |nil=>rfl
   |cons v vs =>
    have h1:=ih (vs:=vs) (by simpa using hl) fun j a b ha hb=>h (j+1) a b (by simpa using ha) (by simpa using hb);have h2:=h 0 c v rfl rfl;simp only[lg,h1];rw[Vg V]
 intro cs
 induction cs with
 |nil=>intro vs k c v _ h;simp at h
 |cons x cs ih =>
  intro vs k c v hl hc hv hlt hmax;cases vs with
  |nil=>simp at hv
  |cons y vs =>
   cases k with
   |zero =>
    simp only[List.getElem?_cons_zero,Option.some.injEq]at hc hv;subst hc;subst hv;have h1:=none_of (cs:=cs) (vs:=vs) (by simpa using hl) fun j a b ha hb=>hmax (j+1) a b V (by simpa using ha) (by simpa using hb);simp only[lg,h1];rw[Vh hlt];simp
   |succ k =>
    have h1:=ih (vs:=vs) (k:=k) (by simpa using hl) (by simpa using hc) (by simpa using hv) hlt fun j a b hj ha hb=>hmax (j+1) a b V (by simpa using ha) (by simpa using hb);simp only[lg,h1];simp
def Tc:∀ {cs vs:List Int},vs.length=cs.length->(∀(j:Nat) (a b:Int),cs[j]?=some a->vs[j]?=some b->b=a-1)->lg cs vs=none:=by
 intro cs
 induction cs with
 |nil=>intro vs _ _;cases vs<;>rfl
 |cons c cs ih =>
  intro vs hl h;cases vs with
  |nil=>rfl
  |cons v vs =>
   have h1:=ih (vs:=vs) (by simpa using hl) fun j a b ha hb=>h (j+1) a b (by simpa using ha) (by simpa using hb);have h2:=h 0 c v rfl rfl;simp only[lg,h1];rw[Vg V]
def nK (nz:List Int)(N:Nat):List (List ZL):=(List.range (aC nz).toNat).map fun (i:Nat)=>[aa (i:Int),.U N 0 0 nz.length 1]
def xc {nz:List Int}{x:List ZL}(h:(nK nz N)[k]?=some x):k<(aC nz).toNat/\x=[aa k,.U N 0 0 nz.length 1]:=by
 unfold nK at h;rw[List.getElem?_map]at h;have hk:k<(aC nz).toNat:=by
  rcases VC k (aC nz).toNat with h1|h1
  ·exact h1
  ·rw[Vo (by simpa using h1)]at h;simp at h
 rw[VR hk]at h;simp at h;exact⟨hk,h.symm⟩
def Td {nz:List Int}(h:k<(aC nz).toNat):(nK nz N)[k]?=some [aa k,.U N 0 0 nz.length 1]:=by
 unfold nK;rw[List.getElem?_map,VR h];rfl
def AF (nz:List Int)(N:Nat):(nK nz N).length=(aC nz).toNat:=by simp[nK]
def sd (nz:List Int)(N k:Nat)(H:ZK):Prop:=H.get N=some (.J 0 3 (ints (bU nz k)))
def FT (nz:List Int)(hc1:∀c∈nz,1<=c)(hs:fb nz)(b N:Nat)(hbN:b<N):
  GE prog G0 176 [] [.O b 0 0] (nK nz N) N (fun H=>H.get b=some (.J 0 72 [af nz])) (sd nz N):=by
 intro idy J Stop H K hN hS0 hJw hJ0 hY hK hSt;have l0:=ag (hS0 0 H hJ0);have h12:=hs.1;have hpp:=hs.prod;have hp1:=fX hc1;show ae _ _ _ ([.nk idy]++[.O b 0 0]) _ _;refine ae.st (n:=45) (rs:=[]) func176 ?_;simp only[go_sem,l0];refine⟨V,?_⟩;have fitI:∀i:Nat,cJ nz (bU nz i):=fun i=>tL hc1 _;have fP:∀i:Nat,i<(aC nz).toNat->bL nz (bU nz i)=i:=fun i hi=>zQ hc1 V V;subst hN;refine W.aS 35184372088368 (by rfl) (fun ρ H'=>∃i:Nat,ρ 4=aa i/\i<(aC nz).toNat/\J i H'/\sd nz H.A i H'/\H.A+1<=H'.A) (fun ρ H=>(aC nz).toNat-(iv (ρ 4)).toNat) ?_ ?_
 ·simp only[go_sem];refine⟨0,rfl,V,hJw 0 H _ hJ0 ⟨by rw[aW];omega,fun id _ h=>c9 _ _ _ h⟩,?_⟩;show (ext H _).get H.A=_;rw[cL];have:bU nz ((0:Nat):Int)=List.replicate nz.length 0:=by
   rw[show ((0:Nat):Int)=0 from rfl,Ec hc1];exact List.map_const' ..
  rw[this];simp[ints,aa]
 rintro ρ H' ⟨i,h4,hi,hj,hcs,hn⟩;refine W.en (fun E=>E 1=.O b 0 0 /\ E 0=.nk idy /\ E 3=.U H.A 0 0 nz.length 1 /\ E 4=aa i) (by simp only[go_sem,h4]) fun E ⟨e1,e0,e3,e4⟩=>?_
 refine W.vs ?_;simp only[go_sem,e0,e3,e4];refine hY i [aa i,.U H.A 0 0 nz.length 1] H' _ (Td hi) hj hcs V (fun H2 hj2 hcs2 hn2=>⟨trivial,?_⟩) (fun H2 hs2 hn2=>⟨trivial,?_⟩);rotate_left
 ·simp only[go_sem];exact aj.mk V (hSt H2 hs2 V)
 have hb2:=hS0 _ _ hj2;have lb:=ag hb2;have w0:=Vd ((nz.length:Int)-1) V;obtain⟨vs,hvs⟩:∃vs,vs=bU nz i:=⟨_,rfl⟩
 have hvl:vs.length=nz.length:=by rw[hvs,vV]
 have hfit:cJ nz vs:=by rw[hvs];exact fitI i
 have hsucc:=QE hfit;rw[show bL nz vs=i from by rw[hvs];exact fP i hi]at hsucc;simp only[go_sem,e1,lb,w0];refine W.aS 137438691360 (by rfl) (fun ρ2 H4=>∃m:Nat,ρ2 5=aa ((m:Int)-1)/\m<=nz.length/\xH H.A H2 H4/\H4.get H.A=some (.J 0 3 (ints (vs.take m++(nz.drop m).map fun _=>0)))/\(∀(j:Nat) (a b:Int),m<=j->nz[j]?=some a->vs[j]?=some b->b=a-1))
  (fun ρ2 H=>(iv (ρ2 5)+1).toNat) ?_ ?_
 ·simp only[go_sem];refine⟨nz.length,rfl,V,⟨ZJ,fun _ _ _=>rfl⟩,?_,fun j a b hm ha=>?_⟩
  ·have hg:H2.get H.A=_:=hcs2;rw[<- hvs]at hg;rw[hg,Vi V,YA V];simp
  ·have:=aO ha;omega
 rintro ρ2 H4 ⟨m,h5,hm,hw,hg,hmax⟩;refine W.en (fun E2=>E2 1=.O b 0 0 /\ E2 3=.U H.A 0 0 nz.length 1 /\ E2 4=aa i /\ E2 5=aa ((m:Int)-1)) (by simp only[go_sem,e1,e3,e4,h5]) fun E2 ⟨f1,f3,f4,f5⟩=>?_
 refine W.vs ?_;have hw1:=hw.1;have lN:=ag hg;have lb4:=ag ((hw.2 b V V).trans hb2);have hj4:J (i+1) H4:=hJw _ _ _ hj2 hw;have clen:(vs.take m++(nz.drop m).map fun _=>(0:Int)).length=nz.length:=by simp;omega
 by_cases hm0:m=0
 ·subst hm0;have f5':E2 5=aa (-1):=f5;have hnone:=Tc hvl fun j a b ha hb=>hmax j a b (WK _) ha hb;rw[hnone]at hsucc;have htot:¬(i:Int)+1<aC nz:=fun h=>by rw[Vh h]at hsucc;cases hsucc
  have hti:i+1=(nK nz H.A).length:=by rw[AF];omega
  simp only[go_sem];refine W.dr 12 [0,1,3,7,7,31,63,7,7,391,903,1927] mixed ?_;simp only[go_sem,f5'];exact aj.mk V (hK H4 (by rw[<- hti];exact hj4) V)
 obtain⟨k,rfl⟩:∃k,m=k+1:=⟨m-1,V⟩
 have f5':E2 5=aa k:=by rw[f5];congr 1;omega
 obtain⟨c,hck⟩:=ay (l:=nz) (i:=k) V;obtain⟨v,hvk⟩:=ay (l:=vs) (i:=k) V;have hne:=aZ hck;have hr:=hfit.2 k c v hck hvk;have hcs8:=hs.2 c (an hck);have hvk':(vs.take (k+1)++(nz.drop (k+1)).map fun _=>(0:Int))[k]?=some v:=by
  rw[Vx (by simp;omega),Vz V];exact hvk
 have hk0:(k:Int) >= 0:=V
 have hkc:(k:Int)<nz.length:=V
 have w1:=Vd (c-1) V;have w2:=Vd ((k:Int)-1) V;have w3:=Vd (v+1) V;have w4:=Vd ((i:Int)+1) V;have hk1:¬(k:Int)<0:=V
 by_cases hv:v=c-1
 ·simp only[go_sem];refine W.dr 12 [0,1,3,7,7,31,63,7,7,391,903,1927] mixed ?_;simp only[go_sem,f1,f3,f5',hk0,hkc,lN,lb4,hvk',hck,hne,w1,w2,hv];refine⟨by rw[<- List.length_append,clen];omega,by rw[aQ];omega,⟨k,rfl,V,⟨by rw[aQ];exact hw.1,fun id h1 h2=>by rw[ah,Vg h1];exact hw.2 id h1 h2⟩,?_,fun j a b hj ha hb=>?_⟩,?_⟩
  ·rw[ah,Vh rfl,iR (by rw[clen];omega)];congr 3;rw[bd hvk,List.append_assoc,WC _ _ (by simp;omega),QB hck];simp;rw[show k-min k vs.length=0 by omega];rfl
  ·rcases VC k j with h|h
   ·exact hmax j a b V ha hb
   ·obtain rfl:j=k:=V;rw[hck]at ha;rw[hvk]at hb;cases ha;cases hb;exact hv
  ·rw[h5];simp only[aa,bf];omega
 ·simp only[go_sem];refine W.dr 12 [0,1,3,7,7,31,63,7,7,391,903,1927] mixed ?_;simp only[go_sem,f1,f3,f4,f5',hk0,hk1,hkc,lN,lb4,hvk',hck,hne,w1,w3,w4,hv];have hat:=Tb hvl hck hvk V fun j a b hj ha hb=>hmax j a b V ha hb;rw[hat]at hsucc;have hlt:(i:Int)+1<aC nz:=by
   refine VZ fun h=>?_;rw[Vg h]at hsucc;cases hsucc
  rw[Vh hlt]at hsucc;have hw5:xH H.A H2 (H4.upd H.A (.J 0 3 (setAt (ints (vs.take (k+1)++(nz.drop (k+1)).map fun _=>(0:Int))) k [.lit (.int .i64 (v+1))]))):=⟨by rw[aQ];exact hw.1,fun id h1 h2=>by rw[ah,Vg h1];exact hw.2 id h1 h2⟩
  refine⟨by rw[<- List.length_append,clen];omega,by rw[aQ];omega,⟨i+1,ZG,V,hJw _ _ _ hj2 hw5,?_,by rw[aQ];omega⟩,?_⟩
  ·show (H4.upd H.A _).get H.A=_;rw[ah,Vh rfl,iR (by rw[clen];omega)];congr 3;have e:bU nz ((i+1:Nat):Int)=vs.take k++(v+1) :: (nz.drop (k+1)).map fun _=>0:=by
    have:=Option.some.inj hsucc;rw[show ((i+1:Nat):Int)=(i:Int)+1 by omega];exact this.symm
   rw[e,bd hvk,List.append_assoc,WC _ _ (by simp;omega)];simp;rw[show k-min k vs.length=0 by omega];rfl
  ·rw[h4];simp only[aa,bf];omega
def FU (nz:List Int)(H:ZK)(K:ZQ->ZK->Prop)(hK:K (.ret (.X 176 [] [.O H.A 0 0])) (ext H [.J 0 72 [af nz]])):
  ae prog G0 146 [af nz] H K:=by
 refine ae.st (n:=4) (rs:=[.tmp 2]) func146 ?_;simp only[go_sem];exact aj.mk (by simp[aW]) hK
def jA (ns:List ZM)(x:ZM)(vals:List Int):List Int:=x.nb.getD (bL (aT ns x) (aK vals x.F)).toNat []
def gf (ns:List ZM)(vals:List Int)(v:Nat):Int:=match ns[v]? with
 |some x=>(jA ns x vals).getD (vals.getD v 0).toNat 0
 |none=>1
def rI (ns:List ZM)(vals:List Int):List Int:=(List.range ns.length).map (gf ns vals)
def weight (ns:List ZM)(vals:List Int):Int:=aC (rI ns vals)
def cH (ns:List ZM):Nat:=(aC (au ns)).toNat
def oF (ns:List ZM)(vals:List Int)(u:ZY):Int:=u.w.getD (bL (aK (au ns) u.vars) (aK vals u.vars)).toNat 0
def cX (ns:List ZM)(us:List ZY)(vals:List Int):Int:=(us.map (oF ns vals)).sum
def lk (ns:List ZM)(us:List ZY)(k:Nat):Int:=((List.range k).map fun (i:Nat)=>weight ns (bU (au ns) i)*cX ns us (bU (au ns) i)).sum
def QX (ns:List ZM)(us:List ZY)(k:Nat):lk ns us (k+1)=lk ns us k+weight ns (bU (au ns) k)*cX ns us (bU (au ns) k):=by
 unfold lk;rw[VX];simp
def QY (ns:List ZM)(vals:List Int):(rI ns vals).length=ns.length:=by simp[rI]
def qi (hin:iI x.F ns.length)(hf:cJ (au ns) vals):cJ (aT ns x) (aK vals x.F):=by
 refine⟨by unfold aT;rw[jj,jj],fun k c v h1 h2=>?_⟩;obtain⟨q,hq⟩:=ay (l:=x.F) (i:=k) (by have:=aO h2;rw[jj]at this;exact this);obtain⟨j,rfl,y,hy⟩:=mX (l:=ns) (hin q (an hq)).1 (hin q (an hq)).2;obtain⟨b,hb⟩:=ay (l:=vals) (i:=j) (by rw[hf.1,eU];exact aO hy);have e1:(aT ns x)[k]?=some y.L:=by rw[show (aT ns x)[k]?=_ from jY hq,Int.toNat_natCast,bI (cS hy)]
 have e2:(aK vals x.F)[k]?=some b:=by rw[jY hq,Int.toNat_natCast,bI hb]
 rw[h1]at e1;rw[h2]at e2;cases e1;cases e2;exact hf.2 j y.L _ (cS hy) hb
structure RowAtW (g:Int)(ns:List ZM)(x:ZM)(vals:List Int)(v:Nat)(i:Nat)(r:List Int)(a w:Int):Prop where
 idx:bL (aT ns x) (aK vals x.F)=i
 row:x.nb[i]?=some r
 val:vals[v]?=some a
 a0:0<=a
 hw:r[a.toNat]?=some w
 wb:0<=w/\w<=g
 eq:gf ns vals v=w
 rv:jA ns x vals=r
 len:(r.length:Int)=x.L
 al:a<r.length
def FV (h:Z4 g ns)(hx:ns[v]?=some x)(hf:cJ (au ns) vals):∃i r a w,RowAtW g ns x vals v i r a w:=by
 have hxm:=an hx;have hin:iI x.F ns.length:=fun q hq=>by have:=(h.node x hxm).2.2 q hq;omega
 have hr:=oD (qi hin hf);obtain⟨r1,r2⟩:=h.nb x hxm;obtain⟨i,hi⟩:=Vm hr.1;obtain⟨r,hrr⟩:=ay (l:=x.nb) (i:=i) (by rw[<- r1,hi]at hr;omega);obtain⟨s1,s2,s3⟩:=r2 r (an hrr);obtain⟨a,ha⟩:=ay (l:=vals) (i:=v) (by rw[hf.1,eU];exact aO hx);have hb:=hf.2 v x.L a (cS hx) ha;obtain⟨w,hw⟩:=ay (l:=r) (i:=a.toNat) V;have rv:jA ns x vals=r:=by unfold jA;rw[hi,Int.toNat_natCast,bI hrr]
 exact⟨i,r,a,w,hi,hrr,ha,hb.1,hw,s2 w (an hw),by unfold gf;rw[hx];simp only;rw[rv,bI ha,bI hw],rv,s1,V⟩
def AG (k:Nat)(h:k<=8):(60:Int) ^ k<=167961600000000:=by
 have h1:(60:Nat) ^ k<=60 ^ 8:=Vr ZH h;have h2:(60:Nat) ^ 8=167961600000000:=ZH
 rw[h2]at h1;have h3:=Int.ofNat_le.2 h1;rw[Int.natCast_pow]at h3;exact h3
def FW (ns:List ZM)(v:Nat)(x:ZM)(vals:List Int)(hx:ns[v]?=some x)(hin:iI x.F ns.length)(hs:fb (aT ns x))(hf:cJ (au ns) vals)(H:ZK)(N n:Nat)(hN:N<H.A)
  (hg:H.get N=some (.J 0 3 (ints vals))) (hn:n=vals.length):aY prog G0 (.X 147 [] []) [.Q ns.length (aG ns),.lit (.int .i64 v),.U N 0 0 n 1] H (.lit (.int .i64 (bL (aT ns x) (aK vals x.F)))) [N]:=by
 subst hn;refine aY.mk (fun i hi=>by obtain rfl:=List.mem_singleton.1 hi;exact hN) fun H2 h2 _=>?_;refine(ae.frame (H:=H2) (args:=[.Q ns.length (aG ns),.lit (.int .i64 v),.U N 0 0 vals.length 1]) (args':=[eQ ns,.lit (.int .i64 v),af vals]) (v':=.lit (.int .i64 (bL (aT ns x) (aK vals x.F)))) aF rfl (fun i hi _=>?_) (Th ns v x vals hx hin hs hf cW _ ⟨_,rfl,.lit _⟩))
 match i,hi with
 |0,_=>exact xi _
 |1,_=>exact .lit _
 |2,_=>exact Fz.ud ((h2 N ZG).trans hg) (by rw[bD]) fun c hc=>by obtain⟨z,_,rfl⟩:=Vu.1 hc;exact⟨_,rfl⟩
def xd {us:List ZY}(hu:∀u∈us,nnl ns u)(h4:us.length<=4)(vals:List Int)(k:Nat):-400<=cX ns (us.take k) vals/\cX ns (us.take k) vals<=400:=by
 have key:∀l:List ZY,(∀u∈l,nnl ns u)->-(100*l.length:Int)<=cX ns l vals/\cX ns l vals<=100*l.length:=by
  intro l
  induction l with
  |nil=>intro _;simp[cX]
  |cons u l ih =>
   intro h;have h1:=ih fun u hu=>h u (by simp[hu]);have h2:-100<=oF ns vals u/\oF ns vals u<=100:=by
    unfold oF;rw[Vj];cases hg:u.w[(bL (aK (au ns) u.vars) (aK vals u.vars)).toNat]? with
    |none=>simp
    |some w=>exact(h u ZG).w w (an hg)
   simp only[cX,List.map_cons,WI,List.length_cons]at h1 ⊢
   push_cast
   omega
 have:=key (us.take k) fun u hk=>hu u (VE hk);have h5:(us.take k).length<=4:=by simp;omega
 omega
def zd (x y:Int)(hx:0<=x)(hy:0<=y):Int.gcd y (x % y)=Int.gcd y x:=by
 obtain⟨a,rfl⟩:=Vm hx;obtain⟨b,rfl⟩:=Vm hy;rw[<- Int.natCast_emod];show Nat.gcd b (a % b)=Nat.gcd b a;rw[XV b (a % b),<- Y3]
def SX (g:Int)(n:Nat)(hg:1<=g/\g<=60)(hn:n<=8)(H:ZK)(K:ZQ->ZK->Prop)(hK:K (.ret (aa (g ^ n))) H):ae prog G0 118 [aa g,aa n] H K:=by
 refine ae.st (n:=14) (rs:=[.tmp 4]) func118 ?_;simp only[go_sem];refine W.aS 8096 (by rfl) (fun ρ H'=>H'=H/\∃k:Nat,ρ 7=aa k/\k<=n/\ρ 5=aa (g ^ k)) (fun ρ H=>n-(iv (ρ 7)).toNat) ?_ ?_
 ·simp only[go_sem];exact⟨0,rfl,V,by rw[Int.pow_zero]⟩
 rintro ρ H' ⟨rfl,k,h7,hk,h5⟩;refine W.vs ?_;have hpow:∀k:Nat,0<=g ^ k/\g ^ k<=60 ^ k:=fun k=>by
  induction k with
  |zero=>simp
  |succ k ih =>
   rw[Xt,Xt];exact⟨W2 ih.1 V,WV ih.2 hg.2 V (by have:=Y6 (n:=60) (m:=k) ZH;omega)⟩
 by_cases hb:(k:Int)<n
 ·have h1:=hpow (k+1);have h2:=AG (k+1) V;rw[Xt]at h1;have w1:=Vd (g ^ k*g) V;have w2:=Vd ((k:Int)+1) V;simp only[go_sem,h7,h5,hb,w1,w2];exact⟨⟨k+1,rfl,V,by rw[Xt]⟩,V⟩
 ·have e:k=n:=V
  subst e;simp only[go_sem,h7,h5,hb];exact aj.mk ZJ hK
def eA (n d:Int):ZL:=.agg [.lit (.int .i64 (n.tdiv (Int.gcd n d:Int))),.lit (.int .i64 (d.tdiv (Int.gcd n d:Int)))]
def SY (n d:Int)(hn:-4611686018427387904<=n/\n<=4611686018427387904)(hd:1<=d/\d<=4611686018427387904)(H:ZK)(K:ZQ->ZK->Prop)(hK:K (.ret (eA n d)) H):ae prog G0 117 [aa n,aa d] H K:=by
 refine ae.X ⟨_,func117,rfl,rfl⟩ fun hcl=>?_;have w1:=Vd (0-n) V;have w2:(if 0-n > n then 0-n else n)=(n.natAbs:Int):=by split<;>omega
 have w3:(if n<0-n then 0-n else n)=(n.natAbs:Int):=w2;refine ae.st (n:=25) (rs:=[.cell 4 58]) func117 ?_;simp only[go_sem,w1,w2];refine W.aS 258144 (by rfl) (fun ρ H'=>H'=ext H [.J 0 58 [.lit (.int .i64 0),.lit (.int .i64 0)]]/\∃x y:Int,ρ 5=aa x/\ρ 6=aa y/\0<=x/\0<=y/\Int.gcd x y=Int.gcd n d) (fun ρ H=>(iv (ρ 6)).toNat) ?_ ?_
 ·simp only[go_sem];exact⟨n.natAbs,d,rfl,rfl,V,V,by simp[Int.gcd]⟩
 rintro ρ H' ⟨rfl,x,y,h5,h6,hx,hy,hg⟩;refine W.en (fun E=>E 0=aa n /\ E 1=aa d /\ E 4=.O H.A 0 0 /\ E 5=aa x /\ E 6=aa y) (by simp only[go_sem,h5,h6]) fun E ⟨e0,e1,e4,e5,e6⟩=>?_
 refine W.vs ?_;by_cases hz:y=0
 ·subst hz;have e:x=(Int.gcd n d:Int):=by rw[<- hg,Int.gcd_zero_right];omega
  have g0:0<Int.gcd n d:=W8 _ V;have hxz:¬x=0:=V
  have hgn:(Int.gcd n d:Int)≠0:=V
  simp only[go_sem,e6];refine W.dr 6 [0,0,3,0,0,24] mixed ?_;have b1:-4611686018427387904<=n.tdiv x/\n.tdiv x<=4611686018427387904:=by
   have h2:(n.tdiv x).natAbs<=n.natAbs:=(by rw[Y8];exact WO _ _);omega
  have b2:-4611686018427387904<=d.tdiv x/\d.tdiv x<=4611686018427387904:=by
   have h2:(d.tdiv x).natAbs<=d.natAbs:=(by rw[Y8];exact WO _ _);omega
  have u1:=Vd (n.tdiv x) V;have u2:=Vd (d.tdiv x) V;simp only[go_sem,e0,e1,e4,e5,hxz,u1,u2];refine aj.drop aF hcl (v':=eA n d) ?_ hK;rw[e];refine .agg rfl fun i hi _=>?_
  match i,hi with
  |0,_=>exact .lit _
  |1,_=>exact .lit _
 ·have m1:x.tmod y=x % y:=VV hx;have m2:=Yj x hz;have m3:=XI x (show 0<y by omega);simp only[go_sem,e6,hz];refine W.dr 5 [0,0,0,6,3] mixed ?_;simp only[go_sem,e5,e6,hz,m1];refine⟨⟨y,x % y,rfl,rfl,hy,m2,?_⟩,by rw[h6];simp only[aa,bf];omega⟩;rw[<- hg,Int.gcd_comm x y];exact zd x y hx (V)
def AD {L a:Int}(hg:0<=g)(ha:0<=a/\a<L):kJ g L (eh g L a):=by
 refine⟨by rw[FS];omega,fun w hw=>?_,?_⟩
 ·unfold eh at hw;rcases Wa hw with h|h
  ·have:=WU h;omega
  ·omega
 ·unfold eh;have key:∀(n i:Nat),i<n->((List.replicate n (0:Int)).set i g).sum=g:=by
   intro n
   induction n with
   |zero=>intro i h;omega
   |succ n ih =>
    intro i h;cases i with
    |zero=>simp[W0]
    |succ i=>rw[W0,List.set_cons_succ,WI,ih i V];omega
  exact key _ _ (V)
def jX (d:ZN)(c:Nat->Nat->Int):au (df d c)=au d.C:=QR
def ik (d:ZN)(c:Nat->Nat->Int):(df d c).length=d.C.length:=lj _ _ _
def jG (h:d.C[v]?=some x):(df d c)[v]?=some (gO d c (aJ d).length v x):=oE h
def rZ (d:ZN)(c:Nat->Nat->Int)(x:ZM):aT (df d c) x=aT d.C x:=by unfold aT;rw[jX]
def tZ (d:ZN)(c:Nat->Nat->Int):aB (df d c)=aB d.C:=by
 apply V3;intro v;unfold aB;rw[List.getElem?_map,List.getElem?_map];rcases VC v d.C.length with h|h
 ·obtain⟨x,hx⟩:=ay h;rw[jG hx,hx];simp only[Option.map_some,(iP d c _ v x).2]
 ·rw[Vo (by rw[ik];exact h),Vo h]
def ua (hx:d.C[v]?=some x)(hb:d.nl.testBit v=true):(aJ d)[bp d.nl v]?=some v:=mj (aO hx) hb
def wV (hx:d.C[v]?=some x)(hb:d.nl.testBit v=true):gO d c (aJ d).length v x={ x with nb:=x.nb++dG d.Z d.C c (bp d.nl v) x } :=
 Vh ⟨hb,aO (ua hx hb)⟩
def oT (hb:¬d.nl.testBit v=true):gO d c k v x=x:=Vg fun h=>hb h.1
def r8 (d:ZN)(c:Nat->Nat->Int):Prop:=∀(k v r:Nat) (x:ZM),(aJ d)[k]?=some v->d.C[v]?=some x->r<bZ d.C x->0<=c k r/\c k r<x.L
def FO (h:ZS d)(hc:r8 d c):Z4 d.Z (df d c):=by
 have h0:=h.nB;refine⟨h0.g1,by rw[ik];exact h.n.n1,fun y hy=>?_,by have:=h0.size;rw[jX]at this ⊢;exact this,by have:=h0.nL;rw[tZ]at this ⊢;exact this,fun y hy=>?_⟩
 ·obtain⟨v,x,hx,rfl⟩:=qh hy;have:=h0.node _ (an (jG (c:=fun _ _=>0) hx));rw[(iP ..).1,(iP ..).2,ik]at this ⊢;exact this
 ·obtain⟨v,x,hx,rfl⟩:=qh hy;have h1:=h0.nb _ (an (jG (c:=fun _ _=>0) hx));unfold gF at h1 ⊢;rw[rZ]at h1 ⊢;by_cases hb:d.nl.testBit v=true
  ·rw[wV hx hb]at h1 ⊢;have x1:=(h.n.dec v x hx hb).1;refine⟨?_,fun r hr=>?_⟩
   ·have:=h1.1;rw[show ({ x with nb:=x.nb++dG d.Z d.C (fun _ _=>0) (bp d.nl v) x }:ZM).nb.length=bZ d.C x by simp[x1,dG]]at this;rw[show ({ x with nb:=x.nb++dG d.Z d.C c (bp d.nl v) x }:ZM).nb.length=bZ d.C x by simp[x1,dG]];exact this
   ·rw[show ({ x with nb:=x.nb++dG d.Z d.C c (bp d.nl v) x }:ZM).nb=x.nb++dG d.Z d.C c (bp d.nl v) x from rfl,x1,List.nil_append]at hr;unfold dG at hr;obtain⟨i,hi,rfl⟩:=Vu.1 hr;have:=h0.g1;exact AD V (hc _ _ _ x (ua hx hb) hx (Vs.1 hi))
  ·rw[oT hb]at h1 ⊢;exact h1
def SZ {u:ZY}(h:nnl d.C u):nnl (df d c) u:=⟨by rw[ik];exact h.vars,by rw[jX];exact h.size,h.w⟩
def wW {p:List (List Int)}(h:Z2 d p):r8 d (fixC p):=fun k v r x hv hx hr=>by
 obtain⟨l,a,hl,ha,he,hb⟩:=Ta h hv hx hr;rw[he];exact hb
def AE (d:ZN)(p:List (List Int)):Int:=lk (df d (fixC p)) d.Y (cH d.C)
noncomputable def rR (d:ZN)(p:List (List Int)):ZL:=if S9 d p=0 then eA (AE d p) (d.Z ^ d.C.length) else .agg [.lit (.int .i64 0),.lit (.int .i64 0)]
def FQ (d:ZN)(c:Nat->Nat->Int):cH (df d c)=cH d.C:=by unfold cH;rw[jX]
def S3 (d:ZN)(p:List (List Int)):Prop:=ZS d->Z2 d p->∀k,k<=cH d.C->-1000000000000000000<=lk (df d (fixC p)) d.Y k/\lk (df d (fixC p)) d.Y k<=1000000000000000000
end Go.Proofs
