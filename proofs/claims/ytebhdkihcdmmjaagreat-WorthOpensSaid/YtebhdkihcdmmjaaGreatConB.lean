/- Own work: contracts. -/
import Derived.Test.YtebhdkihcdmmjaaGreatConA
set_option linter.all false
set_option maxHeartbeats 8000000
set_option maxRecDepth 100000
namespace Go.Proofs
open Go.Hx Tryz
variable {g:Int}{c:List Int}{ns:List nna}{D k n v:Nat}{p:Prop}{x:nna}{d:nnb}{H H':nnl}
def A2:nnn:=.agg [.lit (.int .i64 0),ah [],ah [],ah [],ah []]
def A3 (g:Int)(ns:List nna):nnn:=.agg [.lit (.int .i64 g),di ns,ah (aE ns),fY (aq ns),ah (av ((eM (aq ns)).getD []))]
structure RdS (g:Int)(ns:List nna)(H H':nnl)(c:List Int)(s:List Nat):Prop where
 nx:H.C+5<=H'.C
 ov:nnd H H'
 b0:H'.get H.C=some (.O 0 90 [.lit (.int .i64 g),.L ns.length (aG ns)])
 b1:H'.get (H.C+1)=some (.O 0 214 [.lit (.int .i64 0),.lit (.slice none 0 0),.lit (.slice none 0 0),.lit (.slice none 0 0),.lit (.slice none 0 0)])
 b2:H'.get (H.C+2)=some (.O 0 3 (ints c))
 b3:H'.get (H.C+3)=some (.O 0 34 (s.map az))
 b4:H'.get (H.C+4)=some (.O 0 214 [.lit (.int .i64 g),.L ns.length (aG ns),.Z (H.C+2) 0 0 ns.length 1,.Z (H.C+3) 0 0 ns.length 1,.lit (.slice none 0 0)])
 cl:c.length=ns.length
 sl:s.length=ns.length
def RdS.over {H2:nnl}{s:List Nat}(h:RdS g ns H H' c s)(o:nnd H' H2):RdS g ns H H2 c s where
 nx:=XN h.nx o.C
 ov:=h.ov.trans o
 b0:=(o.ng _ (by have:=h.nx;omega)).trans h.b0
 b1:=(o.ng _ (by have:=h.nx;omega)).trans h.b1
 b2:=(o.ng _ (by have:=h.nx;omega)).trans h.b2
 b3:=(o.ng _ (by have:=h.nx;omega)).trans h.b3
 b4:=(o.ng _ (by have:=h.nx;omega)).trans h.b4
 cl:=h.cl
 sl:=h.sl
def RdS.UQ {s:List Nat}(h:RdS g ns H H' c s)(hk:k<c.length)(x:Int):RdS g ns H (H'.upd (H.C+2) (.O 0 3 (setAt (ints c) k [.lit (.int .i64 x)]))) (c.set k x) s where
 nx:=h.nx
 ov:=h.ov.upd U _
 b0:=by rw[ae,W7 U];exact h.b0
 b1:=by rw[ae,W7 U];exact h.b1
 b2:=by rw[ae,W8 rfl,ki hk]
 b3:=by rw[ae,W7 U];exact h.b3
 b4:=by rw[ae,W7 U];exact h.b4
 cl:=by simpa using h.cl
 sl:=h.sl
def UR {l:List Nat}{i:Nat}{x:Nat}(h:i<l.length):setAt (l.map az) i [.lit (.int .u64 (x:Int))]=(l.set i x).map az:=by
 rw[dQ (by simpa using h)];simp[az]
def RdS.US {s:List Nat}(h:RdS g ns H H' c s)(hk:k<s.length)(x:Nat):RdS g ns H (H'.upd (H.C+3) (.O 0 34 (setAt (s.map az) k [.lit (.int .u64 (x:Int))]))) c (s.set k x) where
 nx:=h.nx
 ov:=h.ov.upd U _
 b0:=by rw[ae,W7 U];exact h.b0
 b1:=by rw[ae,W7 U];exact h.b1
 b2:=by rw[ae,W7 U];exact h.b2
 b3:=by rw[ae,W8 rfl,UR hk]
 b4:=by rw[ae,W7 U];exact h.b4
 cl:=h.cl
 sl:=by simpa using h.sl
def RdS.l0 {s:List Nat}(h:RdS g ns H H' c s):H'.na H.C 0=some (90,[.lit (.int .i64 g),.L ns.length (aG ns)]):=ag h.b0
def RdS.l1 {s:List Nat}(h:RdS g ns H H' c s):H'.na (H.C+1) 0=some (214,[.lit (.int .i64 0),.lit (.slice none 0 0),.lit (.slice none 0 0),.lit (.slice none 0 0),.lit (.slice none 0 0)]):=ag h.b1
def RdS.l2 {s:List Nat}(h:RdS g ns H H' c s):H'.na (H.C+2) 0=some (3,ints c):=ag h.b2
def RdS.l3 {s:List Nat}(h:RdS g ns H H' c s):H'.na (H.C+3) 0=some (34,s.map az):=ag h.b3
def RdS.l4 {s:List Nat}(h:RdS g ns H H' c s):H'.na (H.C+4) 0=some (214,[.lit (.int .i64 g),.L ns.length (aG ns),.Z (H.C+2) 0 0 ns.length 1,.Z (H.C+3) 0 0 ns.length 1,.lit (.slice none 0 0)]):=ag h.b4
def A4 {S:Nat->Prop}{nx:Nat}(ns:List nna):Fz S H nx (.L ns.length (aG ns)) (.L ns.length (aG ns)):=by
 refine .L rfl fun i hi _=>?_;have:∀(l:List nna) (c:nnn),c∈aG l->Fz S H nx c c:=by
  intro l c hc;unfold aG at hc;obtain⟨r,hr,hc⟩:=Y2.1 hc;obtain⟨x,_,rfl⟩:=Xx.1 hr;unfold nna.cells at hc;simp only[List.mem_cons,List.not_mem_nil,or_false]at hc;rcases hc with rfl|rfl|rfl
  ·exact .lit _
  ·exact .df _
  ·exact .aD _
 exact this ns _ (XA _)
def UT (g:Int)(hg:1<=g/\g<=60)(ns:List nna)(sets:List Nat)(x:nna)(hin:jt x.J ns.length)(hsm:fh (aW ns x))(hx1:(x.X.length:Int)<2 ^ 38)(hx2:∀r∈x.X,(r.length:Int)<2 ^ 38)(H:nnl)(ci si:Nat)
  (h2:H.get ci=some (.O 0 3 (ints (aE ns)))) (h3:H.get si=some (.O 0 34 (sets.map az))) (hs:sets.length=ns.length) (K:nnf->nnl->Prop)
  (hK:K (.ret (.lit (.bool (lg g ns x)))) H):af prog G0 174 [.agg [.lit (.int .i64 g),.L ns.length (aG ns),.Z ci 0 0 ns.length 1,.Z si 0 0 ns.length 1,.lit (.slice none 0 0)],.agg [.lit (.int .i64 x.Q),.L x.J.length (ints x.J),aD x.X]] H K:=by
 refine(af.frame (H:=H) (args:=[.agg [.lit (.int .i64 g),.L ns.length (aG ns),.Z ci 0 0 ns.length 1,.Z si 0 0 ns.length 1,.lit (.slice none 0 0)],.agg [.lit (.int .i64 x.Q),.L x.J.length (ints x.J),aD x.X]]) (args':=[.agg [.lit (.int .i64 g),di ns,ah (aE ns),fY sets,.lit (.slice none 0 0)],tw x]) (v':=.lit (.bool (lg g ns x))) aO rfl (fun i hi _=>?_) (UN g hg ns sets x hin hsm hx1 hx2 cw _ ⟨_,rfl,.lit _⟩)).mono ?_
 ·match i,hi with
  |0,_ =>
   refine .agg rfl fun i hi _=>?_
   match i,hi with
   |0,_=>exact .lit _
   |1,_=>exact A4 _
   |2,_ =>
    have:=Fz.wV (nx:=0) h2 (n:=ns.length) (by rw[aZ,gL]) (fun c hc=>by
     obtain⟨z,_,rfl⟩:=Xx.1 hc;exact⟨_,rfl⟩)
    show Fz _ _ _ _ (.L (aE ns).length (ints (aE ns)));rw[gL];exact this
   |3,_ =>
    have:=Fz.wV (nx:=0) h3 (n:=ns.length) (by simp[hs]) (fun c hc=>by
     obtain⟨z,_,rfl⟩:=Xx.1 hc;exact⟨_,rfl⟩)
    show Fz _ _ _ _ (.L sets.length (sets.map az));rw[hs];exact this
   |4,_=>exact .lit _
  |1,_ =>
   refine .agg rfl fun i hi _=>?_
   match i,hi with
   |0,_=>exact .lit _
   |1,_=>exact .df _
   |2,_=>exact .aD _
 ·rintro r H' ⟨rfl,rfl⟩;exact hK
def UU (hx:ns[k]?=some x)(h0:∀q∈x.J,0<=q)(hm:(k:Int)∈x.J):¬jY (aq ns):=fun h=>by
 have hk:=get_lt (lf hx);have:=h k hk;rw[cP (lf hx)]at this;have h1:=oL (aq ns) (aq ns).length (bc x.J) k (by rw[fU h0];exact Xy hm);unfold bT at this;rw[h1]at this;cases this
def UV (g:Int)(ns:List nna)(hf:pe ns)(H:nnl)(K:nnf->nnl->Prop)(hK:K (.ret (if nA g ns then .nc [A3 g ns,aa 0] else .nc [A2,aa 50])) H):af prog G0 143 [bS g ns] H K:=by
 refine af.nb ⟨_,func143,rfl,rfl⟩ fun hcl=>?_;have no:¬nnw g ns->∀H',nnd H H'->ar prog G0 H K (.nc [.agg [.lit (.int .i64 0),.lit (.slice none 0 0),.lit (.slice none 0 0),.lit (.slice none 0 0),.lit (.slice none 0 0)],.lit (.int .i64 50)]) H':=fun h H' ov=>by
  rw[tu h]at hK;refine ar.bw (v':=.nc [A2,aa 50]) aO hcl ov (.nc rfl fun i hi _=>?_) hK
  match i,hi with
  |0,_ =>
   refine .agg rfl fun i hi _=>?_
   match i,hi with
   |0,_=>exact .lit _
   |1,_=>exact .nil
   |2,_=>exact .nil
   |3,_=>exact .nil
   |4,_=>exact .nil
  |1,_=>exact .lit _
 refine af.st (n:=140) (rs:=[.cell 2 214,.tmp 3]) func143 ?_;simp only[go_sem,bS,di];have l1:=ag (bY H (.O 0 90 [.lit (.int .i64 g),.L ns.length (aG ns)]) [.O 0 214 [.lit (.int .i64 0),.lit (.slice none 0 0),.lit (.slice none 0 0),.lit (.slice none 0 0),.lit (.slice none 0 0)]]);by_cases c1:g<1
 ·simp only[go_sem,c1];exact no (fun h=>by have:=h.g1;omega) _ (.ext _ _)
 by_cases c2:g > 60
 ·simp only[go_sem,l1,c1,c2];exact no (fun h=>by have:=h.g1;omega) _ (.ext _ _)
 by_cases c3:(ns.length:Int)<1
 ·simp only[go_sem,l1,c1,c2,c3];exact no (fun h=>by have:=h.n1;omega) _ (.ext _ _)
 by_cases c4:(ns.length:Int) > 8
 ·simp only[go_sem,l1,c1,c2,c3,c4];exact no (fun h=>by have:=h.n1;omega) _ (.ext _ _)
 simp only[go_sem,l1,c1,c2,c3,c4];refine W.dr 11 [0,0,2,6,14,0,32,96,224,511,0] mixed ?_;simp only[go_sem,l1]
 repeat (refine And.intro (by first|omega|(simp;done)|(simp;omega)|(intros;omega)|exact⟨rfl,U,U,kI _⟩) ?_)
 obtain⟨Hb,hHb⟩:∃Hb,Hb=ext (ext H [.O 0 90 [.lit (.int .i64 g),.L ns.length (aG ns)],.O 0 214 [.lit (.int .i64 0),.lit (.slice none 0 0),.lit (.slice none 0 0),.lit (.slice none 0 0),.lit (.slice none 0 0)],.O 0 3 (List.replicate ns.length (.lit (.int .i64 0))),.O 0 34 (List.replicate ns.length (.lit (.int .u64 0)))]) [.O 0 214 [.lit (.int .i64 g),.L ns.length (aG ns),.Z (H.C+2) 0 0 ns.length 1,.Z (H.C+3) 0 0 ns.length 1,.lit (.slice none 0 0)]]:=⟨_,rfl⟩
 rw[<- hHb];have R0:RdS g ns H Hb (List.replicate ns.length 0) (List.replicate ns.length 0):=by
  rw[hHb,eT];exact⟨by simp[bu],.ext _ _,bY ..,cO H _ 1 aaw,by rw[cO H _ 2 aaw];simp[ints,aa],by rw[cO H _ 3 aaw];simp[az],cO H _ 4 aaw,aaw,aaw⟩
 have hcard:∀ {k:Nat},(∀x∈ns.take k,1<=x.Q/\x.Q<=4)->fh ((aE ns).take k):=fun {k} h=>tv (by simp[aE];omega) fun c hc=>by
  rw[show (aE ns).take k=aE (ns.take k) by simp[aE]]at hc;obtain⟨y,hy,rfl⟩:=Xx.1 hc;exact h y hy
 refine W.aM 37778930737057254867176 (by rfl) (fun ρ H'=>∃(k:Nat) (c:List Int),ρ 50=aa k/\k<=ns.length/\ρ 5=aa (aL ((aE ns).take k))/\RdS g ns H H' c (List.replicate ns.length 0)/\Hb.C<=H'.C/\c.take k=(aE ns).take k/\∀x∈ns.take k,1<=x.Q/\x.Q<=4) (fun ρ H=>ns.length-(iv (ρ 50)).toNat) ?_ ?_
 ·simp only[go_sem];exact⟨0,_,rfl,U,by simp[l9],R0,aaw⟩
 rintro ρ H' ⟨k,c,h50,hk,h5,R,hn,hc,hall⟩;refine W.vs ?_;have q0:=R.l0;have q1:=R.l1;have q2:=R.l2;have q4:=R.l4;have rn:=R.nx;by_cases hb:(k:Int)<ns.length
 ·obtain⟨x,hx⟩:=get_of_lt (l:=ns) (i:=k) U;have hxm:=an hx;have hne:=eC hx;have e0:=lZ hx;have e1:k*3+3<=(aG ns).length:=by rw[fJ];omega
  have R2:=R.over (.ext H' [.O 0 76 [.lit (.int .i64 x.Q),.L x.J.length (ints x.J),aD x.X]]);have p1:=R2.l1;have p2:=R2.l2;have p4:=R2.l4;have nb1:¬H.C+1=H'.C:=U
  have nb2:¬H.C+2=H'.C:=U
  have nb4:¬H.C+4=H'.C:=U
  by_cases d1:x.Q<1
  ·simp only[go_sem,h50,p1,hb,hne,e0,e1,d1];exact no (fun h=>by have:=(h.node x hxm).1;omega) _ (R2.ov.upd U _)
  by_cases d2:x.Q > 4
  ·simp only[go_sem,h50,p1,hb,hne,e0,e1,d1,d2];exact no (fun h=>by have:=(h.node x hxm).1;omega) _ (R2.ov.upd U _)
  have hall':∀y∈ns.take (k+1),1<=y.Q/\y.Q<=4:=fun y hy=>by
   rw[aQ hx]at hy;rcases Xt.1 hy with hy|hy
   ·exact hall y hy
   ·obtain rfl:=List.mem_singleton.1 hy;exact⟨U,U⟩
  have b2:=(hcard hall').prod;rw[aQ (dK hx),gX]at b2;have w1:=W6 ((k:Int)+1) U;have w2:=W6 (aL ((aE ns).take k)*x.Q) U;have hkc:k<c.length:=by rw[R.cl];omega
  have p0:∀b,((ext H' [.O 0 76 [.lit (.int .i64 x.Q),.L x.J.length (ints x.J),aD x.X]]).upd (H.C+2) b).na H'.C 0=some (76,[.lit (.int .i64 x.Q),.L x.J.length (ints x.J),aD x.X]):=fun b=>by
   rw[jA U];exact ag bV
  simp only[go_sem,h50,h5,p2,p4,p0,hb,hne,e0,e1,d1,d2,w1,w2];exact⟨U,by rw[aw,bu];omega,⟨k+1,_,aaw,U,by rw[aQ (dK hx),gX],R2.UQ hkc x.Q,by rw[aw,bu];omega,Vt hc hkc (dK hx),fun y hy=>hall' y hy⟩,U⟩
 have ek:k=ns.length:=U
 subst ek;rw[W9 aaz]at hall;rw[W9 (by rw[gL];omega)]at h5;have ec:c=aE ns:=by
  rw[W9 (by rw[R.cl];omega),W9 (by rw[gL];omega)]at hc;exact hc
 subst ec;by_cases c5:aL (aE ns) > 1024
 ·simp only[go_sem,h50,h5,q1,hb,c5];exact no (fun h=>by have:=h.size;omega) _ (R.ov.upd U _)
 simp only[go_sem,h50,h5,q4,hb,c5];refine W.aM 340282366920933627760096148915069392648 (by rfl) (fun ρ' H2=>∃(k:Nat) (s:List Nat),ρ' 82=aa k/\k<=ns.length/\RdS g ns H H2 (aE ns) s/\H'.C<=H2.C/\s.take k=(aq ns).take k/\(∀j,k<=j->s.getD j 0=0)/\∀x∈ns.take k,bB x.J ns.length/\fK g ns x) (fun ρ' H=>ns.length-(iv (ρ' 82)).toNat) ?_ ?_
 ·simp only[go_sem];refine⟨0,_,rfl,U,R,rfl,fun j _=>?_,aaw⟩;rw[Xh,ZF];split<;>rfl
 rintro ρ' H2 ⟨k,s,h82,hk2,R2,hn2,hs,hs0,hall2⟩;refine W.vs ?_;have r2:=R2.nx;have q4:=R2.l4;by_cases hb2:(k:Int)<ns.length;rotate_left
 ·have es:s=aq ns:=by
   rw[W9 (by rw[R2.sl];omega),W9 (by simp[aq];omega)]at hs;exact hs
  subst es;rw[W9 U]at hall2;have hlt:∀p∈aq ns,p<2 ^ ns.length:=wT fun x hx q hq=>(hall2 x hx).1.2 q hq;have hsl:(aq ns).length=ns.length:=by simp[aq]
  have hlt64:∀p∈aq ns,p<2 ^ 64:=fun p hp=>Xd (hlt p hp) (Xq aax U);have hto:=ER (ps:=aq ns) (by rw[hsl];exact hlt) U;simp only[go_sem,h82,q4,hb2];have fzs:=Fz.wV (nx:=0) R2.b3 (n:=ns.length) (by simp[R2.sl]) (fun c hc=>by
   obtain⟨z,_,rfl⟩:=Xx.1 hc;exact⟨_,rfl⟩)
  refine aC.nb (UP (aq ns) U hlt64 _ _ (by show Fz _ _ _ _ (.L (aq ns).length _);rw[hsl];exact fzs) _ ⟨trivial,?_⟩);have q1:=R2.l1;cases hso:(eM (aq ns)).isSome
  ·simp only[go_sem,q1];exact no (fun h=>by rw[hto.2 h.acyc]at hso;cases hso) _ (R2.ov.upd U _)
  have hok:nnw g ns:=⟨U,U,fun x hx=>⟨hall x hx,(hall2 x hx).1⟩,U,hto.1 hso,fun x hx=>(hall2 x hx).2⟩
  rw[tt hok]at hK;have q1b:∀b,(H2.upd (H.C+4) b).na (H.C+1) 0=_:=fun b=>(jA U).trans q1;simp only[go_sem,q1b,q4];have ovf:nnd H ((H2.upd (H.C+4) (.O 0 214 [.lit (.int .i64 g),.L ns.length (aG ns),.Z (H.C+2) 0 0 ns.length 1,.Z (H.C+3) 0 0 ns.length 1,.L (av ((eM (aq ns)).getD [])).length (ints (av ((eM (aq ns)).getD [])))])).upd (H.C+1) (.O 0 214 [.lit (.int .i64 g),.L ns.length (aG ns),.Z (H.C+2) 0 0 ns.length 1,.Z (H.C+3) 0 0 ns.length 1,.L (av ((eM (aq ns)).getD [])).length (ints (av ((eM (aq ns)).getD [])))])):=(R2.ov.upd U _).upd U _;refine ar.bw (v':=.nc [A3 g ns,aa 0]) aO hcl ovf (.nc rfl fun i hi _=>?_) hK
  match i,hi with
  |1,_=>exact .lit _
  |0,_ =>
   refine .agg rfl fun i hi _=>?_
   match i,hi with
   |0,_=>exact .lit _
   |1,_=>exact A4 _
   |2,_ =>
    have hg2:∀b b',((H2.upd (H.C+4) b).upd (H.C+1) b').get (H.C+2)=some (.O 0 3 (ints (aE ns))):=fun b b'=>by rw[ae,W7 U,ae,W7 U];exact R2.b2
    show Fz _ _ _ (.Z (H.C+2) 0 0 ns.length 1) (.L (aE ns).length (ints (aE ns)));rw[<- gL ns];exact .ints (by show H.C<=_;omega) (hg2 _ _) aaw fun i hi=>by simp[gR,hi]
   |3,_ =>
    have hg3:∀b b',((H2.upd (H.C+4) b).upd (H.C+1) b').get (H.C+3)=some (.O 0 34 ((aq ns).map az)):=fun b b'=>by rw[ae,W7 U,ae,W7 U];exact R2.b3
    show Fz _ _ _ (.Z (H.C+3) 0 0 ns.length 1) (.L (aq ns).length ((aq ns).map az));rw[<- hsl];refine .nq (by show H.C<=_;omega) (hg3 _ _) aaw fun j hj h2 h'=>?_;simp only[Nat.zero_add,Xi];exact .lit _
   |4,_=>exact .df _
 obtain⟨x,hx⟩:=get_of_lt (l:=ns) (i:=k) U;have hxm:=an hx;have hne:=eC hx;have e0:=lZ hx;have e1:k*3+3<=(aG ns).length:=by rw[fJ];omega
 obtain⟨f1,f2,f3⟩:=hf.2 x hxm;simp only[go_sem,h82,hb2,hne,e0,e1];obtain⟨H3,hH3⟩:∃H3,H3=ext H2 [.O 0 76 [.lit (.int .i64 x.Q),.L x.J.length (ints x.J),aD x.X]]:=⟨_,rfl⟩
 have R3:RdS g ns H H3 (aE ns) s:=by rw[hH3];exact R2.over (.ext _ _)
 have nn:H3.C=H2.C+1:=hH3▸rfl
 have gN:=de hH3
 rw[<- hH3];have hks:k<s.length:=by rw[R2.sl];omega
 have s0:s.set k 0=s:=by
  apply XQ;intro i;rw[YZ];split
  ·rename_i h;subst h;have:=hs0 k aaz;rw[Xh,W5 hks]at this;simp only[Option.getD_some]at this;rw[W5 hks,this]
  ·rfl
 refine W.aM 5316911981901723452329847966222259208 (by rfl) (fun ρ2 H4=>∃(j:Nat) (b:Int),ρ2 90=aa j/\j<=x.J.length/\ρ2 10=aa b/\bB (x.J.take j) ns.length/\(x.J.take j).getLast?.getD (-1)=b/\RdS g ns H H4 (aE ns) (s.set k (bc (x.J.take j)))/\H3.C<=H4.C/\H4.get H2.C=some (.O 0 76 [.lit (.int .i64 x.Q),.L x.J.length (ints x.J),aD x.X])/\¬(k:Int)∈x.J.take j)
  (fun ρ2 H=>x.J.length-(iv (ρ2 90)).toNat) ?_ ?_
 ·simp only[go_sem];exact⟨0,-1,rfl,U,rfl,.nil,rfl,by rw[show bc (x.J.take 0)=0 from rfl,s0];exact R3,gN,aaw⟩
 rintro ρ2 H4 ⟨j,b,h90,hj,h10,hp,hbl,R4,hn4,gN4,hself⟩;refine W.vs ?_;have r4:=R4.nx;have t1:=R4.l1;have t3:=R4.l3;have t4:=R4.l4;have tN:=ag gN4;by_cases hb3:(j:Int)<x.J.length
 ·obtain⟨a,ha⟩:=get_of_lt (l:=x.J) (i:=j) U;have ham:=an ha;have hane:=aS ha;by_cases d1:a<=b
  ·simp only[go_sem,h90,h10,hb3,ha,hane,d1,t1];refine no (fun h=>?_) _ (R4.ov.upd U _);have hpl:=(h.node x hxm).2;have h0:=hpl.2 a ham;rcases Yp j with rfl|hk0
   ·simp at hbl;omega
   ·obtain⟨i,rfl⟩:∃i,j=i+1:=⟨j-1,U⟩
    obtain⟨b',hbj⟩:=get_of_lt (l:=x.J) (i:=i) U;rw[tp hbj]at hbl;have:=hpl.lt hbj ha U;simp at hbl;omega
  by_cases d2:a >= ns.length
  ·simp only[go_sem,h90,h10,hb3,ha,hane,d1,d2,t1,t4];exact no (fun h=>by have:=(h.node x hxm).2.2 a ham;omega) _ (R4.ov.upd U _)
  have h0:0<=a:=by
   rcases hg:(x.J.take j).getLast? with _|b'
   ·rw[hg]at hbl;simp at hbl;omega
   ·rw[hg]at hbl;have:=hp.2 b' (aaq hg);simp at hbl;omega
  by_cases d3:a=k
  ·have d1':¬(k:Int)<=b:=U;have d2':¬(k:Int) >= ns.length:=U;simp only[go_sem,h90,h10,hb3,ha,hane,d1',d2',d3,t1,t4];exact no (fun h=>UU hx (fun q hq=>((h.node x hxm).2.2 q hq).1) (by rw[<- d3];exact ham) h.acyc) _ (R4.ov.upd (id:=H.C+1) U _)
  obtain⟨u,rfl⟩:=Xn h0;have w1:=W6 ((j:Int)+1) U;have bm:bc (x.J.take j)<2 ^ 64:=kW fun p hp'=>by have:=hp.2 p hp';omega
  have v1:=fun t x y=>fZ (P:=prog) (t:=t) (x:=x) (y:=y) (k':=.i64) (s:=u) U;have v2:=fun t x y=>fj (P:=prog) (t:=t) (x:=x) (y:=y) (b:=2 ^ u) bm (XG aax U);have gs:(s.set k (bc (x.J.take j)))[k]?=some (bc (x.J.take j)):=Xj hks;simp only[go_sem,h90,h10,hb3,ha,hane,d1,d2,d3,t4];refine W.dr 7 [0,1,0,7,15,0,32] mixed ?_;simp only[go_sem,h90,hb2,t3,t4,gs,v1,v2,w1]
  repeat (refine And.intro (by first|omega|(simp;done)|(simp;omega)|(intros;omega)|exact⟨rfl,U,U,kI _⟩) ?_)
  have R5:=R4.US (k:=k) (by simpa using hks) (bc (x.J.take j) |||2 ^ u);rw[Zh]at R5;have esn:bc (x.J.take (j+1))=bc (x.J.take j) |||2 ^ u:=by rw[aQ ha,vW];rfl
  refine⟨by rw[aw];omega,⟨j+1,u,aaw,U,rfl,?_,by rw[tp ha];rfl,by rw[esn];exact R5,by rw[aw];omega,by rw[ae,W7 U];exact gN4,fun hm=>?_⟩,U⟩
  ·rw[aQ ha];exact hp.snoc ⟨U,U⟩ fun b' hb'=>by rw[hb']at hbl;simp at hbl;omega
  ·rw[aQ ha]at hm;rcases Xt.1 hm with hm|hm
   ·exact hself hm
   ·exact d3 (List.mem_singleton.1 hm).symm
 ·have hb3':=hb3;rw[W9 U]at hp hself R4;simp only[go_sem,h90,hb3,t4,tN];have hin:jt x.J ns.length:=fun q hq=>by have:=hp.2 q hq;omega
  refine aC.nb (UT g ⟨U,U⟩ ns _ x hin (nC U hp hall) f2 f3 _ (H.C+2) (H.C+3) R4.b2 R4.b3 R4.sl _ ⟨trivial,?_⟩);cases hnb:lg g ns x
  ·simp only[go_sem,t1];exact no (fun h=>by rw[F2 (h.X x hxm)]at hnb;cases hnb) _ (R4.ov.upd U _)
  have w1:=W6 ((k:Int)+1) U;simp only[go_sem,h82,w1];refine⟨U,⟨k+1,_,aaw,U,R4,U,?_,fun i hi=>?_,fun y hy=>?_⟩,U⟩
  ·have h1:=lf hx;rw[aQ h1,aQ (Xj hks),Zv (Nat.le_refl k),hs]
  ·rw[Xh,Xs U,<- Xh];exact hs0 i (U)
  ·rw[aQ hx]at hy;rcases Xt.1 hy with hy|hy
   ·exact hall2 y hy
   ·obtain rfl:=List.mem_singleton.1 hy;exact⟨hp,UM.1 hnb⟩
def UW (g:Int)(ns:List nna)(hf:pe ns)(H:nnl)(K:nnf->nnl->Prop)(hK:K (.ret (aa (if nA g ns then 0 else 50))) H):af prog G0 105 [bS g ns] H K:=by
 refine af.nb ⟨_,func105,rfl,rfl⟩ fun hcl=>?_;refine af.st (n:=11) (rs:=[.tmp 2]) func105 ?_;simp only[go_sem,bS,di];refine aC.nb (UV g ns hf _ _ ⟨trivial,?_⟩);cases hb:nA g ns
 ·rw[hb]at hK;simp only[go_sem,A2,List.length_nil];exact ar.bw aO hcl (.ext _ _) (.lit _) hK
 ·rw[hb]at hK;simp only[go_sem,A3,di];exact ar.bw aO hcl (.ext _ _) (.lit _) hK
def dZ (D v:Nat):List Nat := (List.range v).filter fun v => D.testBit v
def cY (D v:Nat):Nat := (dZ D v).length
def ay (d:nnb):List Nat := dZ d.nl d.F.length
def vX (D v:Nat):dZ D (v + 1)=if D.testBit v then dZ D v ++ [v] else dZ D v := by
  unfold dZ;rw[Yj,Y6];cases h:D.testBit v <;> simp[h]
def Tc :∀ {n:Nat},v <= n -> ∃r,dZ D n=dZ D v ++ r := by
  intro n
  induction n with
  | zero => intro h; obtain rfl : v = 0 := by omega
            exact⟨[],aaw⟩
  |succ n ih =>
    intro h;by_cases hv:v=n + 1
    · subst hv;exact⟨[],aaw⟩
    · obtain⟨r,hr⟩ := ih U;rw[vX];split
      · exact⟨r ++ [n],by rw[hr,List.append_assoc]⟩
      · exact⟨r,hr⟩
def vY (hv:v < n)(hb:D.testBit v=true):(dZ D n)[cY D v]? = some v := by
  obtain⟨r,hr⟩ := Tc (D := D) (v := v + 1) (n := n) hv;rw[hr,vX,W8 hb,List.append_assoc];unfold cY;simp
def vZ (D v:Nat):cY D (v + 1)=if D.testBit v then cY D v + 1 else cY D v := by
  unfold cY;rw[vX];split <;> simp
def Ay :v ∈ dZ D n ↔ v < n /\ D.testBit v=true := by unfold dZ;simp
def qU (h:(dZ D n)[k]? = some v):v < n /\ D.testBit v=true /\ cY D v=k := by
  have hm := Ay.1 (an h);refine⟨hm.1,hm.2,?_⟩;have h2 := vY hm.1 hm.2;have hnd:(dZ D n).Nodup := Zr.filter _;have a := get_lt h;have b := get_lt h2;rw[W5 a]at h;rw[W5 b]at h2;have e:(dZ D n)[cY D v]=(dZ D n)[k] := by rw[Option.some.inj h,Option.some.inj h2]
  exact(List.getElem_inj hnd).1 e
def mb :(dZ D n).length <= n := by
  have := Zp (fun v => D.testBit v) (List.range n);unfold dZ;simpa using this
def aY (g Q x:Int):List Int := (List.replicate Q.toNat 0).set x.toNat g
def dk (ns:List nna)(x:nna):Nat := (aL (aW ns x)).toNat
def ei (g:Int)(ns:List nna)(c:Nat -> Nat -> Int)(p:Nat)(x:nna):List (List Int) := (List.range (dk ns x)).map fun r => aY g x.Q (c p r)
def gZ (d:nnb)(c:Nat -> Nat -> Int)(k v:Nat)(x:nna):nna := if d.nl.testBit v=true /\ cY d.nl v < k then { x with X := x.X ++ ei d.nn d.F c (cY d.nl v) x } else x
def dz (d:nnb)(c:Nat -> Nat -> Int)(k:Nat):List nna := d.F.zipIdx.map fun p => gZ d c k p.2 p.1
def eZ (d:nnb)(c:Nat -> Nat -> Int):List nna := dz d c (ay d).length
def j9 (d:nnb)(c:Nat -> Nat -> Int)(k:Nat):(dz d c k).length=d.F.length := by simp[dz]
def ni {d:nnb}{c:Nat -> Nat -> Int}{k v:Nat}{x:nna}(h:d.F[v]? = some x):(dz d c k)[v]? = some (gZ d c k v x) := by
  unfold dz;rw[List.getElem?_map,YK,h];simp
def Td (d:nnb)(c:Nat -> Nat -> Int):dz d c 0=d.F := by
  apply XQ;intro v;cases h:d.F[v]? with
  |none => rw[Xf];rw[j9];exact YC.1 h
  |some x => rw[ni h];simp[gZ]
def Te {c:Nat -> Nat -> Int}(hd:(ay d)[k]? = some v)(hx:d.F[v]? = some x):dz d c (k + 1)=(dz d c k).set v { x with X := x.X ++ ei d.nn d.F c k x } := by
  obtain⟨h1,h2,h3⟩ := qU hd;apply XQ;intro u;rw[YZ];split
  · rename_i h;subst h;rw[ni hx,W8 (by rw[j9];exact h1)];unfold gZ;rw[W8 ⟨h2,U⟩,h3]
  · rename_i h;cases hu:d.F[u]? with
    |none => rw[Xf (by rw[j9];exact YC.1 hu),Xf (by rw[j9];exact YC.1 hu)]
    |some y =>
      rw[ni hu,ni hu];unfold gZ;by_cases hb:d.nl.testBit u=true
      · have : cY d.nl u ≠ k := fun e => by
          have h4 := vY (get_lt hu) hb;rw[e]at h4;have h5:(dZ d.nl d.F.length)[k]? = some v := hd;rw[h4]at h5;exact h (Option.some.inj h5).symm
        have e:(cY d.nl u < k + 1)=(cY d.nl u < k) :=(by apply propext;omega);simp only[e]
      · simp[hb]
def Tf {c:Nat -> Nat -> Int}:aE (dz d c k)=aE d.F := by
  apply XQ;intro v;unfold aE;rw[List.getElem?_map,List.getElem?_map];cases h:d.F[v]? with
  |none => rw[Xf (by rw[j9];exact YC.1 h)]
  |some x =>
    rw[ni h];simp only[Option.map_some,gZ];split <;> rfl
def jm (d:nnb)(c:Nat -> Nat -> Int)(k v:Nat)(x:nna):(gZ d c k v x).Q=x.Q /\ (gZ d c k v x).J=x.J := by unfold gZ;split <;> exact⟨rfl,rfl⟩
def dm (d:nnb):List nnn:=[.lit (.int .i64 d.nn),.L d.F.length (aG d.F),.lit (.int .u64 (d.nl:Int)),.L d.V.length (aH d.V)]
def hJ (d:nnb):cM d=.agg (dm d):=rfl
def ko (d:nnb):Blk:=.O 0 38 (dm d)
def mh (d:nnb):List (List nnn):=(ay d).zipIdx.map fun p=>[aa p.2,aa p.1]
def wJ {x:List nnn}(h:(mh d)[k]?=some x):∃v,(ay d)[k]?=some v/\x=[aa k,aa v]:=by
 unfold mh at h;rw[List.getElem?_map,YK]at h;cases hr:(ay d)[k]? with
 |none=>rw[hr]at h;simp at h
 |some r=>rw[hr]at h;simp at h;exact⟨r,rfl,h.symm⟩
def Us (h:(ay d)[k]?=some v):(mh d)[k]?=some [aa k,aa v]:=by
 unfold mh;rw[List.getElem?_map,YK,h];simp
def wK (d:nnb):(mh d).length=(ay d).length:=by simp[mh]
def AR :∀x∈mh d,x.length=2:=fun x hx=>by
 obtain⟨k,hk⟩:=Xg.1 hx;obtain⟨v,_,rfl⟩:=wJ hk;rfl
def AS (d:nnb)(hl:(d.F.length:Int)<2 ^ 40)(hD:d.nl<2 ^ 64)(b:Nat):A9 prog G0 109 [] [.Y b 0 0] (mh d) (fun H=>H.get b=some (ko d)):=by
 intro idy J Stop H K hS hJ0 hY hK hSt;have l0:=ag (hS 0 H hJ0);show af _ _ _ ([.nk idy]++[.Y b 0 0]) _ _;refine af.st (n:=25) (rs:=[]) func109 ?_;simp only[go_sem,l0,dm];refine W.aM 33554200 (by rfl) (fun ρ H'=>∃v:Nat,ρ 8=aa v/\v<=d.F.length/\ρ 3=aa (cY d.nl v)/\J (cY d.nl v) H'/\H.C<=H'.C) (fun ρ H=>d.F.length-(iv (ρ 8)).toNat) ?_ ?_
 ·simp only[go_sem];exact⟨0,rfl,U,rfl,hJ0⟩
 rintro ρ H' ⟨v,h8,hv,h3,hj,hn⟩;refine W.vs ?_;by_cases hb:(v:Int)<d.F.length
 ·have l1:=ag (hS _ _ hj);have s1:=fun t x y=>lh (P:=prog) (t:=t) (x:=x) (y:=y) (k':=.i64) (s:=v) hD;have s2:=fun t x y=>pr (P:=prog) (t:=t) (x:=x) (y:=y) (s:=v) hD;have w1:=W6 ((v:Int)+1) U;have hp:cY d.nl v<=v:=by
   have:(dZ d.nl v).length<=v:=mb;exact this
  have w2:=W6 ((cY d.nl v:Int)+1) U;cases hbit:d.nl.testBit v
  ·simp only[go_sem,h8,h3,hb,l1,dm,s1,s2,hbit,w1];exact⟨hn,⟨v+1,aaw,U,by rw[vZ,hbit];rfl,by rw[vZ,hbit];exact hj,hn⟩,U⟩
  ·have hdx:(mh d)[cY d.nl v]?=some [aa (cY d.nl v),aa v]:=Us (vY U hbit);simp only[go_sem,h8,h3,hb,l1,dm,s1,s2,hbit];refine hY _ _ H' _ hdx hj hn (fun H2 hj2 hn2=>⟨trivial,?_⟩) (fun H2 hs2 hn2=>⟨trivial,?_⟩)
   ·simp only[go_sem,h8,h3,w1,w2];exact⟨U,⟨v+1,aaw,U,by rw[vZ,hbit];simp,by rw[vZ,hbit];exact hj2,U⟩,U⟩
   ·simp only[go_sem];exact ar.mk U (hSt H2 hs2 U)
 ·simp only[go_sem,h8,hb];have ek:v=d.F.length:=U
  subst ek;exact ar.mk U (hK H' (by rw[wK];exact hj) hn)
def AT (d:nnb)(H:nnl)(K:nnf->nnl->Prop)(hK:K (.ret (.nb 109 [] [.Y H.C 0 0])) (ext H [ko d])):
  af prog G0 65 [cM d] H K:=by
 refine af.st (n:=4) (rs:=[.tmp 2]) func65 ?_;simp only[go_sem,hJ,dm];exact ar.mk (by simp[bu]) hK
def Ut {Q x:Int}(hc:0<=Q)(h:0<=x/\x<Q):setAt (ints (List.replicate Q.toNat 0)) x.toNat [.lit (.int .i64 g)]=ints (aY g Q x):=by
 rw[ki (by simp;omega)];rfl
def Uu (g Q x:Int)(hc:Q<=2 ^ 40)(h:0<=x/\x<Q)(H:nnl)(K:nnf->nnl->Prop)(hK:K (.ret (ah (aY g Q x))) H):af prog G0 144 [aa g,aa Q,aa x] H K:=by
 refine af.nb ⟨_,func144,rfl,rfl⟩ fun hcl=>?_;obtain⟨n,rfl⟩:=Xn (show 0<=Q by omega);obtain⟨k,rfl⟩:=Xn h.1;have h0:((n:Int)) >= 0:=U
 have hk:(k:Int)<n:=h.2;have hk2:k+1<=n:=U
 refine af.st (n:=15) (rs:=[.tmp 6]) func144 ?_;simp only[go_sem,hk]
 repeat (refine And.intro (by first|omega|(simp;done)|(simp;omega)|(intros;omega)|exact⟨rfl,U,U,kI _⟩) ?_)
 have e:=Ut (g:=g) (Q:=n) (x:=k) U h;simp only[Int.toNat_natCast]at e;rw[show (List.replicate n (nnn.lit (Value.int IntKind.i64 0)))=ints (List.replicate n 0) by simp[ints,aa],e];refine ar.bw aO hcl (.ext _ _) ?_ hK;exact .ints aaz (bY ..) (by simp[aY]) fun i hi=>by simp[gR,hi]
def Uv (a b:nnn)(H:nnl)(K:nnf->nnl->Prop)(hK:K (.ret (aa 0)) H):af prog G0 107 [a,b] H K:=by
 refine af.st (n:=5) (rs:=[.tmp 4]) func107 ?_;simp only[go_sem];exact ar.mk aaz hK
noncomputable def jr (p:Prop):Bool:=@decide p (Classical.propDecidable p)
def eO (h:p):jr p=true:=@decide_eq_true _ (Classical.propDecidable _) h
def fX (h:¬p):jr p=false:=@decide_eq_false _ (Classical.propDecidable _) h
structure nnq (d:nnb):Prop where
 n1:1<=d.F.length/\d.F.length<=8
 nl:d.nl >>> d.F.length=0
 Q:∀x∈d.F,1<=x.Q/\x.Q<=4
 dec:∀v x,d.F[v]?=some x->d.nl.testBit v=true->x.X=[]/\bB x.J d.F.length
structure nnm (d:nnb):Prop where
 F:pe d.F
 nl:d.nl<2 ^ 64
 V:(d.V.length:Int)<2 ^ 38/\∀u∈d.V,(u.vars.length:Int)<2 ^ 38/\(u.w.length:Int)<2 ^ 38
def Uw (d:nnb)(hf:nnm d)(H:nnl)(K:nnf->nnl->Prop)(hK:K (.ret (.lit (.bool (jr (nnq d))))) H):af prog G0 104 [cM d] H K:=by
 refine af.nb ⟨_,func104,rfl,rfl⟩ fun hcl=>?_;have hl:=hf.F.1;have no:¬nnq d->∀H',nnd H H'->ar prog G0 H K (.lit (.bool false)) H':=fun h H' ov=>ar.bw aO hcl ov (.lit _) (by rw[fX h]at hK;exact hK);refine af.st (n:=67) (rs:=[.cell 2 4]) func104 ?_;simp only[go_sem,hJ,dm];obtain⟨H1,hH1⟩:∃H1,H1=ext H [.O 0 38 (dm d),.O 0 4 [.lit (.bool false)]]:=⟨_,rfl⟩
 have g1:=de hH1
 have g2:=gE hH1 1 rfl
 have l1:=ag g1;have l2:=ag g2;have n1:H1.C=H.C+2:=hH1▸rfl
 have o1:nnd H H1:=hH1▸.ext _ _
 unfold dm at hH1 l1;rw[<- hH1];have s1:=fun t x y=>lh (P:=prog) (t:=t) (x:=x) (y:=y) (k':=.i64) (s:=d.F.length) hf.nl;by_cases c1:(d.F.length:Int)<1
 ·simp only[go_sem,l2,c1];exact no (fun h=>by have:=h.n1;omega) _ (o1.upd U _)
 by_cases c2:(d.F.length:Int) > 8
 ·simp only[go_sem,l1,l2,c1,c2];exact no (fun h=>by have:=h.n1;omega) _ (o1.upd U _)
 by_cases c3:d.nl >>> d.F.length=0;rotate_left
 ·have c3':¬((d.nl >>> d.F.length:Nat):Int)=0:=U
  simp only[go_sem,l1,l2,c1,c2,c3',s1];exact no (fun h=>c3 h.nl) _ (o1.upd U _)
 have c3':((d.nl >>> d.F.length:Nat):Int)=0:=U
 simp only[go_sem,l1,c1,c2,c3',s1];refine W.aM 4397509640208 (by rfl) (fun ρ H'=>∃k:Nat,ρ 29=aa k/\k<=d.F.length/\nnd H1 H'/\∀x∈d.F.take k,1<=x.Q/\x.Q<=4) (fun ρ H=>d.F.length-(iv (ρ 29)).toNat) ?_ ?_
 ·simp only[go_sem];exact⟨0,rfl,U,.refl _,aaw⟩
 rintro ρ H' ⟨k,h29,hk,ov,hall⟩;refine W.vs ?_;have ovn:=ov.C;have m1:=(ov.na (g:=0) (by omega:H.C<H1.C)).trans l1;have m2:=(ov.na (g:=0) (by omega:H.C+1<H1.C)).trans l2;by_cases hb:(k:Int)<d.F.length
 ·obtain⟨x,hx⟩:=get_of_lt (l:=d.F) (i:=k) U;have hxm:=an hx;have hne:=eC hx;have e0:=lZ hx;have e1:k*3+3<=(aG d.F).length:=by rw[fJ];omega
  have nb:¬H.C+1=H'.C:=U
  have m3:∀L,(ext H' L).na (H.C+1) 0=_:=fun L=>(cB U).trans m2;by_cases d1:x.Q<1
  ·simp only[go_sem,h29,m3,hb,hne,e0,e1,d1];exact no (fun h=>by have:=h.Q x hxm;omega) _ (((o1.trans ov).trans (.ext _ _)).upd U _)
  by_cases d2:x.Q > 4
  ·simp only[go_sem,h29,m3,hb,hne,e0,e1,d1,d2];exact no (fun h=>by have:=h.Q x hxm;omega) _ (((o1.trans ov).trans (.ext _ _)).upd U _)
  have w1:=W6 ((k:Int)+1) U;simp only[go_sem,h29,hb,hne,e0,e1,d1,d2,w1];exact⟨U,⟨k+1,aaw,U,ov.trans (.ext _ _),fun y hy=>by
   rw[aQ hx]at hy;rcases Xt.1 hy with hy|hy
   ·exact hall y hy
   ·obtain rfl:=List.mem_singleton.1 hy;exact⟨U,U⟩⟩,U⟩
 rw[W9 U]at hall;simp only[go_sem,h29,hb,m1];refine aC.nb (AT d _ _ ⟨trivial,?_⟩);simp only[go_sem];obtain⟨H2,hH2⟩:∃H2,H2=ext H' [ko d]:=⟨_,rfl⟩
 rw[<- hH2];have o2:nnd H' H2:=by rw[hH2];exact .ext _ _
 have n2:H2.C=H'.C+1:=by rw[hH2];rfl
 have hbx:H2.get H'.C=some (ko d):=by rw[hH2];exact bV
 refine W.env fun E hE=>?_;have e1:E 1=.Y H.C 0 0:=by rw[hE];simp only[go_sem]
 have e2:E 2=.Y (H.C+1) 0 0:=by rw[hE];simp only[go_sem]
 have i1:=(o2.na (g:=0) (by omega:H.C<H'.C)).trans m1;have i2:=(o2.ng _ (by omega:H.C+1<H'.C)).trans ((ov.ng _ U).trans g2);have o02:=(o1.trans ov).trans o2;refine W.xb (f:=109) (first:=[]) (cap:=[.Y H'.C 0 0]) (by show E 43=_;rw[hE];rfl) (AS d U hf.nl H'.C)
  (fun k Hx=>nnd H2 Hx/\∀v x,v∈(ay d).take k->d.F[v]?=some x->x.X=[]/\bB x.J d.F.length) (fun c Hx=>c=.ret/\nnd H Hx/\H2.C<=Hx.C/\Hx.get (H.C+1)=some (.O 0 4 [.lit (.bool false)])/\¬nnq d)
  (fun k Hx h=>by rw[h.1.ng _ U];exact hbx) (fun k Hx b h=>⟨h.1.upd aaz b,h.2⟩) (fun c Hx b h=>⟨h.1,h.2.1.upd U b,h.2.2.1,by rw[ae,W7 U];exact h.2.2.2.1,h.2.2.2.2⟩)
  (fun b=>⟨.ext _ _,aaw⟩) aax AR (fun _ _ _=>trivial) (fun _ _ _=>trivial) (fun k y Hx B Bb hy hj hn hB hBb=>?_) (fun Hx hj hn=>?_) (fun Hx hs hn=>?_) (fun i Hx hs hn=>by cases hs.1)
 ·obtain⟨v,hv,rfl⟩:=wJ hy;obtain⟨v1,v2,v3⟩:=qU hv;obtain⟨x,hx⟩:=get_of_lt (l:=d.F) (i:=v) v1;refine W.vs ?_;simp only[go_sem,lO,dT,tA,Ys,ZO,Zm,ZB,hB];obtain⟨H3,hH3⟩:∃H3,H3=Hx.upd H2.C Bb:=⟨_,rfl⟩
  rw[<- hH3];obtain⟨st,pd,n',en,ps',as',bo,hBe⟩:=hBb;have o3:nnd H2 H3:=by rw[hH3];exact hj.1.upd aaz Bb
  have o4:nnd H H3:=o02.trans o3;have n3:H3.C=Hx.C:=by rw[hH3];rfl
  have j1:=(o3.na (g:=0) (by omega:H.C<H2.C)).trans i1;have j2:=ag ((o3.ng _ (by omega:H.C+1<H2.C)).trans i2);have jB:H3.get H2.C=some Bb:=by rw[hH3,ae,W8 rfl]
  have hxm:=an hx;obtain⟨f1,f2,f3⟩:=hf.F.2 x hxm;have hne:=eC hx;have e1':=jW hx;have e2':=vU hx;have hvn:(v:Int)<d.F.length:=U
  have stop:¬nnq d->(H3.upd (H.C+1) (Blk.O 0 4 [.lit (.bool false)])).get H2.C=some Bb/\Hx.C<=(H3.upd (H.C+1) (Blk.O 0 4 [.lit (.bool false)])).C/\nnd H (H3.upd (H.C+1) (Blk.O 0 4 [.lit (.bool false)])) /\
    H2.C<=(H3.upd (H.C+1) (Blk.O 0 4 [.lit (.bool false)])).C/\(H3.upd (H.C+1) (Blk.O 0 4 [.lit (.bool false)])).get (H.C+1)=some (.O 0 4 [.lit (.bool false)])/\¬nnq d:=fun h =>
   ⟨by rw[ae,W7 U];exact jB,by rw[aw];omega,o4.upd U _,by rw[aw];omega,by rw[ae,W8 rfl],h⟩
  refine W.vs ?_;simp only[go_sem];refine W.dr 18 [0,1,0,7,15,31,63,127,255,511,1023,511,4095,8191,16383,511,33279,98815] mixed ?_;by_cases c4:(x.X.length:Int) > 0
  ·simp only[go_sem,dT,e1,e2,j1,j2,hvn,hne,e2',c4,aD,iX];exact stop fun h=>by have:=(h.dec v x hx v2).1;rw[this]at c4;simp at c4
  simp only[go_sem,dT,e1,j1,hvn,hne,e1',e2',c4,aD];refine aC.nb (FS x.J d.F.length U _ _ ⟨⟨_,_,_,_,_,_,_,by rw[jB,hBe]⟩,?_⟩);by_cases c5:bB x.J d.F.length;rotate_left
  ·simp only[go_sem,dT,e2,j2,c5,iX];exact stop fun h=>c5 (h.dec v x hx v2).2
  simp only[go_sem,dT,c5,iX];refine⟨jB,U,o3,fun u y hu hy2=>?_⟩;rw[aQ hv]at hu;rcases Xt.1 hu with hu|hu
  ·exact hj.2 u y hu hy2
  ·obtain rfl:=List.mem_singleton.1 hu;rw[hx]at hy2;cases hy2;exact⟨Xc U,c5⟩
 ·have hok:nnq d:=⟨U,c3,hall,fun v x hx hb=>hj.2 v x (by
   rw[wK,Yl];exact Ay.2 ⟨get_lt hx,hb⟩) hx⟩
  rw[eO hok]at hK;have j2:=ag ((hj.1.ng _ (by omega:H.C+1<H2.C)).trans i2);simp only[go_sem,e2,j2];exact ar.bw aO hcl ((o02.trans hj.1).upd U _) (.lit _) hK
 ·obtain⟨_,o4,n4,g4,hno⟩:=hs;have j2:=ag g4;simp only[go_sem,e2,j2];exact no hno _ o4
end Go.Proofs
namespace Go.Hx
variable {P:Program} {G:Nat->Option (List nnn)}
variable {b:Blk}{cs:List nnn}{g k n nx ob rk z:Nat}{S:Nat->Prop}{e:TypeId}{v:nnn}
def nnl.eF (H:nnl)(rk ob:Nat)(b:Blk):nnl:=⟨fun id=>if id=rk then none else if id=ob then some b else H.get id,H.C⟩
variable {H:nnl}
def Vu (hc:Clo H){cells cells':List nnn}(hob:H.get ob=some (.O g e cells))(hne:ob≠rk)(hl:cells'.length=cells.length)
  (hcell:∀i (h:i<cells.length) (h':i<cells'.length),Fz (fun id=>id=rk) H H.C cells[i] cells'[i]):FzH (fun id=>id=rk) H (H.eF rk ob (.O g e cells')) where
 gone id hs:=by simp[nnl.eF,hs]
 kept id b hs hb:=by
  have hbb:=hc.below id b hb;refine⟨hc.lt id b hb,?_⟩;by_cases h:id=ob
  ·subst h;rw[hob]at hb;cases hb;exact⟨.O g e cells',by simp[nnl.eF,hs],rfl,rfl,hl,hcell⟩
  ·refine⟨b,by simp[nnl.eF,hs,h,hb],?_⟩;cases b with
   |nj=>trivial
   |mp=>rfl
   |O g e cells=>exact⟨rfl,rfl,rfl,fun i h _=>.dead (hbb i h)⟩
   |loop st pend n env ps asg body=>exact⟨rfl,rfl,rfl,rfl,rfl,rfl,rfl,fun t ht=>.dead (hbb t ht)⟩
 none id hs hb:=by
  by_cases h:id=ob
  ·subst h;rw[hob]at hb;cases hb
  ·simp[nnl.eF,hs,h,hb]
theorem cF.eF (hG:dS G){s:St}{cells cells':List nnn}(hob:s.H.get ob=some (.O g e cells))(hne:ob≠rk)(hl:cells'.length=cells.length)
  (hcell:∀i (h:i<cells.length) (h':i<cells'.length),Fz (fun id=>id=rk) s.H s.H.C cells[i] cells'[i]):cF P G s ⟨s.ρ,s.H.eF rk ob (.O g e cells')⟩:=by
 intro n wb Γ a w hs;exact cF.freeze (s:=s) (s':=⟨s.ρ,s.H.eF rk ob (.O g e cells')⟩) hG (Vu hs.heap.nb hob hne hl hcell) (fun t=>.dead (hs.env t).qj) n wb Γ a w hs
def Vv {A B:List nnn}{o o':nnn}(hA:∀v,v∈A->Fz S H nx v v)(ho:Fz S H nx o o')(hB:∀v,v∈B->Fz S H nx v v):
  ∀i (h:i<(A++o :: B).length) (h':i<(A++o' :: B).length),Fz S H nx (A++o :: B)[i] (A++o' :: B)[i]:=by
 induction A with
 |nil =>
  intro i h h';cases i with
  |zero=>exact ho
  |succ i=>exact hB _ (XA (l:=B) (by simpa using h))
 |cons a A ih =>
  intro i h h';cases i with
  |zero=>exact hA a (aaw)
  |succ i=>exact ih (fun v hv=>hA v (by simp[hv])) i (by simpa using h) (by simpa using h')
def xc (h:ob≠rk):(H.eF rk ob b).get ob=some b:=by simp[nnl.eF,h]
def lj {id:Nat}(h:id≠rk)(h2:id≠ob):(H.eF rk ob b).get id=H.get id:=by simp[nnl.eF,h,h2]
def Ba {l:List nnn}{i:Nat}{a b:nnn}(hl:∀v,v∈l->Fz S H nx v v)(hab:Fz S H nx a b):∀j (h:j<(l.set i a).length) (h':j<(l.set i b).length),Fz S H nx (l.set i a)[j] (l.set i b)[j]:=by
 intro j h h';rw[YH,YH];split
 ·exact hab
 ·exact hl _ (XA _)
def W.mi {rd:Option Nat}{Q Q':AX->St->Prop}{c:Code}{s:St}(h:W P G n rd c Q' s)(hw:∀e s2,Q' e s2->∃s3,cF P G s2 s3/\s2.H.C<=s3.H.C/\eS s3.H rd/\Q e s3):W P G n rd c Q s:=by
 intro wb Γ a w rb hs hr;refine wpIn_mono (h wb Γ a w rb hs hr) fun e a' w' hp=>?_;obtain⟨x,s',Γ',hx,hq,hrel,E,hn,hrd,hfr⟩:=hp;obtain⟨s3,hw3,hn3,hri,hq3⟩:=hw x s' hq;obtain⟨Γ3,hs3,E3,hrd3⟩:=hw3 n wb Γ' a' w' hrel;exact⟨x,s3,Γ3,hx,hq3,hs3,E.trans hn E3,XN hn hn3,hrd3 rd rb hrd hri,hfr⟩
def aB.ne {lo:Nat}(h:aB lo H e v cs)(hk:k<lo):∀g n,v≠.Z k g 0 n 1:=fun g n he=>by
 rcases h with ⟨h,_⟩|⟨i2,g2,a1,_,h,_⟩
 ·rw[h]at he;cases he
 ·rw[h]at he;have:=nnn.Z.inj he;omega
def bI (lo:Nat)(H:nnl)(e:TypeId)(z:Nat)(v:nnn)(n:Nat)(cs:List nnn):Prop :=
 (v=.lit (.slice none 0 0)/\n=0/\cs=[])\/∃id g,lo<=id/\id<H.C/\v=.Z id g 0 n z/\cs.length=n*z/\H.get id=some (.O g e cs)
def bI.nil {lo:Nat}:bI lo H e z (.lit (.slice none 0 0)) 0 []:=.inl ⟨rfl,rfl,rfl⟩
variable {H':nnl}
def bI.nf {lo:Nat}(h:bI lo H e z v n cs)(hn:H.C<=H'.C)(hk:∀id g,lo<=id->id<H.C->v=.Z id g 0 n z->H'.get id=H.get id):bI lo H' e z v n cs:=by
 rcases h with h|⟨id,g,h1,h2,h3,h4,h5⟩
 ·exact .inl h
 ·exact .inr ⟨id,g,h1,U,h3,h4,(hk id g h1 h2 h3).trans h5⟩
def bI.over {lo:Nat}(h:bI lo H e z v n cs)(ho:nnd H H'):bI lo H' e z v n cs:=h.nf ho.C fun id _ _ h2 _=>ho.ng id h2
theorem bI.one {lo:Nat}(h:bI lo H e z v n cs):v.one=true:=by
 rcases h with ⟨rfl,_⟩|⟨_,_,_,_,rfl,_⟩<;>rfl
theorem bI.cells {lo:Nat}(h:bI lo H e z v n cs):v.cells=[v]:=by
 rcases h with ⟨rfl,_⟩|⟨_,_,_,_,rfl,_⟩<;>rfl
def bI.ne {lo:Nat}{m:Nat}(h:bI lo H e z v m cs)(hk:k<lo):∀g n,v≠.Z k g 0 n z:=fun g n he=>by
 rcases h with ⟨h,_⟩|⟨i2,g2,a1,_,h,_⟩
 ·rw[h]at he;cases he
 ·rw[h]at he;have:=nnn.Z.inj he;omega
def mj {t:TypeId}{lo m:Nat}{xs:List nnn}{zs:List nnn}(ht:P.underlying t=some (.slice e))(hz:P.cellsOf e=z)(hzero:bC P e=some zs)(hx:xs.all nnn.one=true)(hxl:xs.length=z)
  (hb:(n+1)*P.bytesOf e<=2 ^ 47/\n+1<=2 ^ 47) (ho:bI lo H e z v n cs) (hlo:lo<=H.C) (hn:m=H.C+1):
  ∃v' H',bh P (ext H [.O 0 e xs]) m t t v (.Z H.C 0 0 1 z)=some (v',H')/\bI lo H' e z v' (n+1) (cs++xs)/\H.C<=H'.C/\(∀k,k<H.C->(∀g n,v≠.Z k g 0 n z)->H'.get k=H.get k):=by
 have hne:(ext H [.O 0 e xs]).C=H.C+1:=rfl;have hsrc:bU (ext H [.O 0 e xs]) z (.Z H.C 0 0 1 z)=some (1,xs):=by
  unfold bU;have:=ag (H:=ext H [.O 0 e xs]) (g:=0) (bV (b:=.O 0 e xs));simp[this,<- hxl]
 rcases ho with ⟨rfl,rfl,rfl⟩|⟨i,g,h1,h2,rfl,h4,h5⟩
 ·refine⟨.Z m 0 0 1 z,ext (ext H [.O 0 e xs]) [.O 0 e xs],?_,.inr ⟨m,0,U,by rw[bu,hne,hn];simp,aaw,by simp[hxl],?_⟩,by rw[bu,hne];omega,fun k hk _=>?_⟩
  ·unfold bh;rw[ht];simp only[hzero,hz,Option.bind_some];rw[hsrc];simp only[Option.bind_some];rw[W7 aax,W8 (by simpa using hb),sh (by rw[hn,hne])];rfl
  ·rw[hn,<- hne];exact bV
  ·rw[cH (by rw[hne];omega),cH hk]
 ·have h5':(ext H [.O 0 e xs]).get i=some (.O g e cs):=by rw[cH h2];exact h5
  refine⟨.Z i (g+1) 0 (n+1) z,(ext H [.O 0 e xs]).upd i (.O (g+1) e (cs++xs)),?_,.inr ⟨i,g+1,h1,by rw[aw,hne];omega,rfl,by simp[h4,hxl,Yz],by rw[ae,W8 rfl]⟩,by rw[aw,hne];omega,fun k hk hne2=>?_⟩
  ·unfold bh;rw[ht];have hl:=ag h5';simp only[hzero,hz,Option.bind_some];rw[hsrc];simp only[Option.bind_some,hl];rw[W8 ⟨trivial,trivial,U,hb.1,hb.2,hx⟩];simp
  ·rw[ae,W7,cH hk];rintro rfl;exact hne2 _ _ rfl
end Go.Hx
namespace Go.Proofs
open Go.Hx Tryz
variable {cs:List nnn}{i n nx v:Nat}{S e:Nat->Prop}{d:nnb}{H H':nnl}
def aR (x:nna):nnn:=if x.X=[] then .lit (.slice none 0 0) else aD x.X
def nna.fo (x:nna):List nnn:=[aa x.Q,ah x.J,aR x]
def aP (l:List nna):List nnn:=(l.map nna.fo).flatten
def fa (l:List nna):(aP l).length=l.length*3:=kU (f:=nna.fo) (fun _=>rfl) l
variable {l:List nna}{x:nna}
def iR (h:l[i]?=some x):(aP l)[i*3]?=some (aa x.Q):=iO (f:=nna.fo) (z:=3) (fun _=>rfl) l i 0 x h (U)
def jn (h:l[i]?=some x):(aP l)[i*3+1]?=some (ah x.J):=iO (f:=nna.fo) (z:=3) (fun _=>rfl) l i 1 x h (U)
def ka (h:l[i]?=some x):(aP l)[i*3+2]?=some (aR x):=iO (f:=nna.fo) (z:=3) (fun _=>rfl) l i 2 x h (U)
def Az (l:List nna)(x:nna):aP (l++[x])=aP l++[aa x.Q,ah x.J,aR x]:=by unfold aP;simp[nna.fo]
def Tg (h:l[i]?=some x):¬aP l=[]:=fun e=>by
 have:=iR h;rw[e]at this;simp at this
def Th (l:List (List Int)):aD l=.L l.length (l.map ah):=rfl
def ES (h:x.X=[]):aR x=.lit (.slice none 0 0):=W8 h
def qV (h:x.X≠[]):aR x=aD x.X:=W7 h
variable {y:nna}
def ET (h:l[i]?=some x)(hy:y.Q=x.Q/\y.J=x.J):aP (l.set i y)=setAt (aP l) (i*3+2) [aR y]:=by
 have hi:=get_lt h;have hl:=fa l;rw[dQ U];apply XQ;intro p;rw[YZ];have hp:p=(p / 3)*3+p % 3:=U
 by_cases hb:p / 3<l.length
 ·by_cases hpi:p / 3=i
  ·have e0:(l.set i y)[p / 3]?=some y:=(by rw[hpi,Xj hi]);have c3:p % 3=0\/p % 3=1\/p % 3=2:=U;rcases c3 with c|c|c
   ·rw[W7 U,hp,c,Nat.add_zero,iR e0,iR (by rw[hpi];exact h),hy.1]
   ·rw[W7 U,hp,c,jn e0,jn (by rw[hpi];exact h),hy.2]
   ·rw[W8 U,W8 U,hp,c,ka e0]
  ·obtain⟨z,hz⟩:=get_of_lt hb;have e0:(l.set i y)[p / 3]?=some z:=(by rw[Xs U];exact hz);have c3:p % 3=0\/p % 3=1\/p % 3=2:=U;rcases c3 with c|c|c
   ·rw[W7 U,hp,c,Nat.add_zero,iR e0,iR hz]
   ·rw[W7 U,hp,c,jn e0,jn hz]
   ·rw[W7 U,hp,c,ka e0,ka hz]
 ·rw[Xf (by rw[fa,Xb];omega),W7 U,Xf U]
def EU (x:nna):Fz S H nx (aR x) (aD x.X):=by
 unfold aR;split
 ·rename_i h;rw[h];exact .nil
 ·exact .aD _
def EV (x:nna):Fz S H nx (aR x) (aR x):=by
 unfold aR;split
 ·exact .lit _
 ·exact .aD _
def EW :∀(l:List nna) (i:Nat) (h:i<(aP l).length) (h':i<(aG l).length),Fz S H nx (aP l)[i] (aG l)[i]:=by
 intro l i h h';have hb:i / 3<l.length:=by rw[fa]at h;omega
 obtain⟨x,hx⟩:=get_of_lt hb;have hp:i=(i / 3)*3+i % 3:=U
 have g1:(aP l)[i]?=some (aP l)[i]:=W5 h;have g2:(aG l)[i]?=some (aG l)[i]:=W5 h';generalize (aP l)[i]=a at g1 ⊢;generalize (aG l)[i]=b at g2 ⊢;have c3:i % 3=0\/i % 3=1\/i % 3=2:=U
 rcases c3 with c|c|c
 ·rw[hp,c,Nat.add_zero,iR hx]at g1;rw[hp,c,Nat.add_zero,lY hx]at g2;cases g1;cases g2;exact .lit _
 ·rw[hp,c,jn hx]at g1;rw[hp,c,jW hx]at g2;cases g1;cases g2;exact .df _
 ·rw[hp,c,ka hx]at g1;rw[hp,c,vU hx]at g2;cases g1;cases g2;exact EU x
def v9 (l:List nna):∀c∈aP l,Fz S H nx c c:=by
 intro c hc;unfold aP at hc;obtain⟨r,hr,hc⟩:=Y2.1 hc;obtain⟨x,_,rfl⟩:=Xx.1 hr;unfold nna.fo at hc;simp only[List.mem_cons,List.not_mem_nil,or_false]at hc;rcases hc with rfl|rfl|rfl
 ·exact .lit _
 ·exact .df _
 ·exact EV x
structure nnh (e:Nat->Prop)(ns:List nna)(cs:List nnn):Prop where
 len:cs.length=ns.length*3
 node:∀(v:Nat) (x:nna),ns[v]?=some x->∃rv,cs[v*3]?=some (aa x.Q)/\cs[v*3+1]?=some (ah x.J)/\cs[v*3+2]?=some rv/\(rv=aD x.X\/rv=aR x)/\(e v->rv=aR x)
def EX (e:Nat->Prop)(ns:List nna):nnh e ns (aP ns):=⟨fa ns,fun v x hx=>⟨_,iR hx,jn hx,ka hx,.inr rfl,fun _=>rfl⟩⟩
variable {ns:List nna}
def nnh.c0 (h:nnh e ns cs)(hx:ns[v]?=some x):cs[v*3]?=some (aa x.Q):=(h.node v x hx).elim fun _ h=>h.1
def nnh.c1 (h:nnh e ns cs)(hx:ns[v]?=some x):cs[v*3+1]?=some (ah x.J):=(h.node v x hx).elim fun _ h=>h.2.1
def nnh.ne (h:nnh e ns cs)(hx:ns[v]?=some x):¬cs=[]:=fun he=>by
 have:=h.c0 hx;rw[he]at this;simp at this
def nnh.part (h:nnh e ns cs)(hx:ns[v]?=some x):∃rv,(cs.drop (v*3)).take 3=[aa x.Q,ah x.J,rv]/\cs[v*3+2]?=some rv/\(rv=aD x.X\/rv=aR x)/\(e v->rv=aR x):=by
 obtain⟨rv,a,b,c,d,f⟩:=h.node v x hx;refine⟨rv,?_,c,d,f⟩;have h3:=get_lt c;rw[XS U,XS U,XS U];simp only[List.take_succ_cons,List.take_zero];rw[W5 U]at a b c;rw[Option.some.inj a,Option.some.inj b,Option.some.inj c]
def nnh.nil :nnh e [] []:=⟨rfl,fun v x hx=>by simp at hx⟩
def nnh.snoc (h:nnh e ns cs){rv:nnn}(h1:rv=aD x.X\/rv=aR x)(h2:e ns.length->rv=aR x):nnh e (ns++[x]) (cs++[aa x.Q,ah x.J,rv]):=by
 have hl:=h.len;refine⟨by simp[hl];omega,fun v y hy=>?_⟩;by_cases hv:v<ns.length
 ·rw[Xe hv]at hy;obtain⟨r,a,b,c,d⟩:=h.node v y hy;exact⟨r,by rw[Xe U];exact a,by rw[Xe U];exact b,by rw[Xe U];exact c,d⟩
 ·have:v=ns.length:=by have:=get_lt hy;simp at this;omega
  subst this;rw[Xp U,Y7]at hy;cases hy;refine⟨rv,?_,?_,?_,h1,h2⟩
  ·rw[Xp U,show ns.length*3-cs.length=0 by omega];rfl
  ·rw[Xp U,show ns.length*3+1-cs.length=1 by omega];rfl
  ·rw[Xp U,show ns.length*3+2-cs.length=2 by omega];rfl
def nnh.mono {e':Nat->Prop}(h:nnh e ns cs)(he:∀v,e' v->e v):nnh e' ns cs:=⟨h.len,fun v x hx=>by
 obtain⟨r,a,b,c,d,f⟩:=h.node v x hx;exact⟨r,a,b,c,d,fun h=>f (he v h)⟩⟩
def nnh.qX (h:nnh e ns cs):∀(i:Nat) (h1:i<cs.length) (h2:i<(aG ns).length),Fz S H nx cs[i] (aG ns)[i]:=by
 intro i h1 h2;have hb:i / 3<ns.length:=by rw[h.len]at h1;omega
 obtain⟨x,hx⟩:=get_of_lt hb;obtain⟨rv,a,b,c,d,_⟩:=h.node _ x hx;have hp:i=(i / 3)*3+i % 3:=U
 have g1:cs[i]?=some cs[i]:=W5 h1;have g2:(aG ns)[i]?=some (aG ns)[i]:=W5 h2;generalize cs[i]=u at g1 ⊢;generalize (aG ns)[i]=w at g2 ⊢;have c3:i % 3=0\/i % 3=1\/i % 3=2:=U
 rcases c3 with c0|c0|c0
 ·rw[hp,c0,Nat.add_zero,a]at g1;rw[hp,c0,Nat.add_zero,lY hx]at g2;cases g1;cases g2;exact .lit _
 ·rw[hp,c0,b]at g1;rw[hp,c0,jW hx]at g2;cases g1;cases g2;exact .df _
 ·rw[hp,c0,c]at g1;rw[hp,c0,vU hx]at g2;cases g1;cases g2;rcases d with d|d<;>rw[d]
  ·exact .aD _
  ·exact EU x
def iV {α:Type}{l:List α}{x:α}(h:l[i]?=some x):l.set i x=l:=by
 apply XQ;intro j;rw[YZ];split
 ·rename_i hj;subst hj;rw[W8 (get_lt h),h]
 ·rfl
structure FiS (d:nnb)(fv:nnn)(H H':nnl)(nh:nnn)(n:Nat)(cs:List nnn):Prop where
 nx:H.C+4<=H'.C
 ov:nnd H H'
 b0:H'.get H.C=some (.O 0 38 [.lit (.int .i64 d.nn),.L d.F.length (aG d.F),.lit (.int .u64 (d.nl:Int)),.L d.V.length (aH d.V)])
 b1:H'.get (H.C+1)=some (.O 0 180 [fv])
 b2:H'.get (H.C+2)=some (.O 0 90 [.lit (.int .i64 0),.lit (.slice none 0 0)])
 b3:H'.get (H.C+3)=some (.O 0 90 [.lit (.int .i64 d.nn),nh])
 nd:bI (H.C+4) H' 76 3 nh n cs
theorem FiS.over {fv:nnn}{H2:nnl}{nh:nnn}(h:FiS d fv H H' nh n cs)(o:nnd H' H2):FiS d fv H H2 nh n cs where
 nx:=XN h.nx o.C
 ov:=h.ov.trans o
 b0:=(o.ng _ (by have:=h.nx;omega)).trans h.b0
 b1:=(o.ng _ (by have:=h.nx;omega)).trans h.b1
 b2:=(o.ng _ (by have:=h.nx;omega)).trans h.b2
 b3:=(o.ng _ (by have:=h.nx;omega)).trans h.b3
 nd:=h.nd.over o
def Uy {v:nnn}{xs:List nnn}(hx:xs.all nnn.one=true)(hxl:xs.length=3)(hn:n<2 ^ 38)(ho:bI (H.C+4) H' 76 3 v n cs)(hlo:H.C+4<=H'.C):
  ∃v' H2,bh prog (ext H' [.O 0 76 xs]) (H'.C+1) 35 35 v (.Z H'.C 0 0 1 3)=some (v',H2)/\bI (H.C+4) H2 76 3 v' (n+1) (cs++xs)/\H'.C<=H2.C/\(∀k,k<H'.C->(∀g n,v≠.Z k g 0 n 3)->H2.get k=H'.get k) :=
 mj Tryz.underlying35 Tryz.oD Tryz.oF hx hxl (by rw[Tryz.oE];omega) ho hlo rfl
def FO {lo:Nat}{v:nnn}{l:List nnn}(x:nnn)(hx:x.one=true)(h:aB lo H' 72 v l)(hlo:lo<=H'.C)(hl:l.length<2 ^ 40):
  ∃v' H2,bh prog (ext H' [.O 0 72 [x]]) (H'.C+1) 74 74 v (.Z H'.C 0 0 1 1)=some (v',H2)/\aB lo H2 72 v' (l++[x])/\H'.C<=H2.C/\(∀k,k<H'.C->(∀g n,v≠.Z k g 0 n 1)->H2.get k=H'.get k) :=
 gf (P:=prog) (H:=H') (t:=74) (x:=x) (n:=H'.C+1) Tryz.underlying74 Tryz.mU Tryz.mW hx (by rw[Tryz.mV];omega) h hlo rfl
def Uz (d:nnb)(hf:nnm d)(hR:nnq d)(c:Nat->Nat->Int)(fv:nnn)(rs:List Nat)(H:nnl)(hrs:∀i∈rs,i<H.C)(hfc:fv.cells=[fv])(hfo:fv.one=true)
  (hfv:∀p r v x H1,(ay d)[p]?=some v->d.F[v]?=some x->r<dk d.F x->nnd H H1->(0<=c p r/\c p r<x.Q)/\cz prog G0 fv [.lit (.int .i64 p),.lit (.int .i64 r)] H1 (.lit (.int .i64 (c p r))) rs)
  (K:nnf->nnl->Prop) (hK:K (.ret (bS d.nn (eZ d c))) H):af prog G0 106 [cM d,fv] H K:=by
 refine af.nb ⟨_,func106,rfl,rfl⟩ fun hcl=>?_;have hl:=hf.F.1;have hn8:=hR.n1.2;refine af.st (n:=91) (rs:=[.cell 4 90]) func106 ?_;simp only[go_sem,hJ,dm,hfc];obtain⟨Hb,hHb⟩:∃Hb,Hb=ext H [.O 0 38 [.lit (.int .i64 d.nn),.L d.F.length (aG d.F),.lit (.int .u64 (d.nl:Int)),.L d.V.length (aH d.V)],.O 0 180 [fv],.O 0 90 [.lit (.int .i64 0),.lit (.slice none 0 0)],.O 0 90 [.lit (.int .i64 d.nn),.lit (.slice none 0 0)]]:=⟨_,rfl⟩
 rw[<- hHb];have R0:FiS d fv H Hb (.lit (.slice none 0 0)) 0 []:=by
  rw[hHb];exact⟨by simp[bu],.ext _ _,bY ..,cO H _ 1 aaw,cO H _ 2 aaw,cO H _ 3 aaw,.nil⟩
 have nb:Hb.C=H.C+4:=hHb▸rfl
 refine W.loop 4503599626323328 (by rfl) (fun ρ H'=>∃(k:Nat) (nh:nnn),ρ 20=aa k/\k<=d.F.length/\FiS d fv H H' nh k (aP (d.F.take k))) (fun ρ H=>d.F.length-(iv (ρ 20)).toNat) ?_ ?_
 ·simp only[go_sem];exact⟨0,_,rfl,U,R0⟩
 rintro ρ H' ⟨k,nh,h20,hk,R⟩;refine W.vs ?_;have rn:=R.nx;have q0:=ag R.b0;have q3:=ag R.b3;by_cases hb:(k:Int)<d.F.length
 ·obtain⟨x,hx⟩:=get_of_lt (l:=d.F) (i:=k) U;have hxm:=an hx;obtain⟨f1,f2,f3⟩:=hf.F.2 x hxm;have hne:=eC hx;have e0:=lZ hx;have e1:k*3+3<=(aG d.F).length:=by rw[fJ];omega
  simp only[go_sem,h20,hb,hne,e0,e1];refine W.dr 7 [0,1,0,4,12,31,0] mixed ?_;simp only[go_sem];refine⟨ah x.J,[],cz.pure fun H2=>nu x.J U H2 _ ⟨rfl,rfl⟩,?_⟩;simp only[go_sem,Th]
  repeat (refine And.intro (by first|omega|(simp;done)|(simp;omega)|(intros;omega)|exact⟨rfl,U,U,kI _⟩) ?_)
  obtain⟨H1,hH1⟩:∃H1,H1=ext (ext H' [.O 0 76 [.lit (.int .i64 x.Q),.L x.J.length (ints x.J),.L x.X.length (x.X.map ah)]]) [.O 0 76 [.lit (.int .i64 x.Q),.L x.J.length (ints x.J),.lit (.slice none 0 0)]]:=⟨_,rfl⟩
  have n1:H1.C=H'.C+2:=by rw[hH1];rfl
  have gA:H1.get H'.C=some (.O 0 76 [.lit (.int .i64 x.Q),.L x.J.length (ints x.J),.L x.X.length (x.X.map ah)]):=by rw[hH1,cH (by simp[bu])];exact bV
  have gB:H1.get (H'.C+1)=some (.O 0 76 [.lit (.int .i64 x.Q),.L x.J.length (ints x.J),.lit (.slice none 0 0)]):=by rw[hH1];exact bV (H:=ext H' [_])
  have o1:nnd H' H1:=by rw[hH1];exact(nnd.ext _ _).trans (.ext _ _)
  have lA:=ag gA;rw[hH1]at lA;simp only[go_sem,lA];rw[<- hH1];refine W.aM 35175782155264 (by rfl) (fun ρ' H2=>∃(j:Nat) (rh:nnn),ρ' 33=aa j/\j<=x.X.length/\nnd H' H2/\H1.C<=H2.C/\H2.get (H'.C+1)=some (.O 0 76 [.lit (.int .i64 x.Q),.L x.J.length (ints x.J),rh])/\aB (H'.C+2) H2 72 rh ((x.X.take j).map ah)/\(j=0->rh=.lit (.slice none 0 0))) (fun ρ' H=>x.X.length-(iv (ρ' 33)).toNat) ?_ ?_
  ·simp only[go_sem];exact⟨0,_,rfl,U,o1,gB,.nil,fun _=>rfl⟩
  rintro ρ' H2 ⟨j,rh,h33,hj,o2,hn2,gB2,hrh,hrh0⟩;refine W.vs ?_;have o2n:=o2.C;have lB:=ag gB2;by_cases hb2:(j:Int)<x.X.length
  ·obtain⟨r,hr⟩:=get_of_lt (l:=x.X) (i:=j) U;have hrm:=an hr;have hrne:=aS hr;have w1:=W6 ((j:Int)+1) U;simp only[go_sem,h33,hb2,hr,hrne];obtain⟨rh2,H3,hA,hO,hn3,hp⟩:=FO (ah r) rfl hrh U (by simp;omega);simp only[ah]at hA;have hcells:=hO.cells;have hone:=hO.one;have g3:H3.get (H'.C+1)=some (.O 0 76 [.lit (.int .i64 x.Q),.L x.J.length (ints x.J),rh]):=(hp _ U (hrh.ne U)).trans gB2;have l3:=ag g3;refine W.dr 5 [0,1,0,4,12] mixed ?_;simp only[go_sem,lB];refine⟨ah r,[],cz.pure fun H2=>nu r (by have:=f3 r hrm;omega) H2 _ ⟨rfl,rfl⟩,?_⟩;simp only[go_sem,h33,hA,l3,hcells,hone,w1]
   repeat (refine And.intro (by first|omega|(simp;done)|(simp;omega)|(intros;omega)|exact⟨rfl,U,U,kI _⟩) ?_)
   have o3:nnd H' H3:=⟨U,fun id h=>(hp id U (hrh.ne U)).trans (o2.ng id h)⟩
   refine⟨by rw[aw];omega,⟨j+1,rh2,aaw,U,o3.upd U _,by rw[aw];omega,by rw[ae,W8 rfl],?_,U⟩,U⟩;have e:(x.X.take (j+1)).map ah=(x.X.take j).map ah++[ah r]:=(by rw[aQ hr];simp);rw[e];exact hO.nf aaz (by rw[aw];omega) fun id g h1 _ _ _=>by rw[ae,W7 U]
  ·rw[W9 U]at hrh;have R2:=R.over o2;have q3b:=ag R2.b3;obtain⟨nh2,H3,hA,hO,hn3,hp⟩:=Uy (H:=H) (H':=H2) (v:=nh) (n:=k) (xs:=[.lit (.int .i64 x.Q),.L x.J.length (ints x.J),rh]) (by rw[List.all_cons,List.all_cons,List.all_cons,hrh.one];rfl) rfl U R2.nd (by have:=R2.nx;omega);have r2n:=R2.nx;have fr:∀id,id<H.C+4->H3.get id=H2.get id:=fun id h=>hp id U (R2.nd.ne h);have g3:H3.na (H.C+3) 0=some (90,[.lit (.int .i64 d.nn),nh]):=ag ((fr _ U).trans R2.b3);have hcells:=hO.cells;have hone:=hO.one;have hrc:=hrh.cells;have hro:=hrh.one;have w1:=W6 ((k:Int)+1) U;simp only[go_sem,h20,h33,hb2,lB,q3b,hA,g3,hcells,hone,w1];obtain⟨H4,hH4⟩:∃H4,H4=H3.upd (H.C+3) (.O 0 90 [.lit (.int .i64 d.nn),nh2]):=⟨_,rfl⟩
   rw[<- hH4];refine(fun (h:∀E:Env,E 20=aa ((k:Int)+1)->∃s₃:St,cF prog G0 ⟨E,H4⟩ s₃/\Hb.C<=s₃.H.C/\(∃(k:Nat) (nh:nnn),s₃.ρ 20=aa k/\k<=d.F.length/\FiS d fv H s₃.H nh k (aP (d.F.take k)))/\d.F.length-(iv (s₃.ρ 20)).toNat<d.F.length-k)=>h _ (by simp only[go_sem])) fun E hE20=>?_;have n4:H4.C=H3.C:=(by rw[hH4];rfl);obtain⟨nb2,gn,b1,b2,rfl,b4,b5⟩:∃id g,H.C+4<=id/\id<H3.C/\nh2=.Z id g 0 (k+1) 3/\(aP (d.F.take k)++[.lit (.int .i64 x.Q),.L x.J.length (ints x.J),rh]).length=(k+1)*3/\H3.get id=some (.O g 76 (aP (d.F.take k)++[.lit (.int .i64 x.Q),.L x.J.length (ints x.J),rh])):=by
    rcases hO with ⟨_,h,_⟩|h
    ·omega
    ·exact h
   have c0:∀id,id<H.C+3->H4.get id=H2.get id:=fun id h=>by rw[hH4,ae,W7 U];exact fr id (U)
   have c3:H4.get (H.C+3)=some (.O 0 90 [.lit (.int .i64 d.nn),.Z nb2 gn 0 (k+1) 3]):=(by rw[hH4,ae,W8 rfl]);have c5:H4.get nb2=some (.O gn 76 (aP (d.F.take k)++[.lit (.int .i64 x.Q),.L x.J.length (ints x.J),rh])):=(by rw[hH4,ae,W7 U];exact b5);have e5:aP (d.F.take (k+1))=aP (d.F.take k)++[aa x.Q,ah x.J,aR x]:=(by rw[aQ hx,Az]);by_cases hr0:x.X=[]
   ·have hrn:rh=.lit (.slice none 0 0):=hrh0 (by rw[hr0]at hj;simpa using hj);subst hrn;refine⟨⟨E,H4⟩,cF.refl _,by show Hb.C<=H4.C;omega,⟨k+1,.Z nb2 gn 0 (k+1) 3,hE20.trans aaw,U,⟨by show _<=H4.C;omega,⟨by have:=R2.ov.C;show _<=H4.C;omega,fun id h=>(c0 id U).trans (R2.ov.ng id h)⟩,(c0 _ U).trans R2.b0,(c0 _ U).trans R2.b1,(c0 _ U).trans R2.b2,c3,.inr ⟨nb2,gn,b1,by show _<H4.C;omega,rfl,?_,?_⟩⟩⟩,?_⟩
    ·rw[fa];simp;omega
    ·show H4.get nb2=_;rw[e5,ES hr0];exact c5
    ·show _-(iv (E 20)).toNat<_;rw[hE20];simp only[aa,aI];omega
   ·obtain⟨rk,gr,r1,r2,rfl,r4⟩:∃id g,H'.C+2<=id/\id<H2.C/\rh=.Z id g 0 (x.X.map ah).length 1/\H2.get id=some (.O g 72 (x.X.map ah)):=by
     rcases hrh with ⟨_,h⟩|h
     ·simp at h;exact absurd h hr0
     ·exact h
    have nhne:∀g n,nh≠.Z rk g 0 n 3:=fun g n he=>by
     rcases R.nd with ⟨h,_⟩|⟨i,g2,_,h,h2,_⟩
     ·rw[h]at he;cases he
     ·rw[h2]at he;have:=nnn.Z.inj he;omega
    have c6:H4.get rk=some (.O gr 72 (x.X.map ah)):=(by rw[hH4,ae,W7 U,hp rk r2 nhne];exact r4);have hne2:nb2≠rk:=by
     rintro rfl;rw[c5]at c6;have:=(Blk.O.inj (Option.some.inj c6)).2.1;exact absurd this (aax)
    have e6:∀c:nnn,aP (d.F.take k)++[.lit (.int .i64 x.Q),.L x.J.length (ints x.J),c]=(aP (d.F.take k)++[.lit (.int .i64 x.Q),.L x.J.length (ints x.J)])++c :: []:=fun c=>aaw
    rw[e6]at c5;have e7:aP (d.F.take (k+1))=(aP (d.F.take k)++[.lit (.int .i64 x.Q),.L x.J.length (ints x.J)])++aD x.X :: []:=(by rw[e5,qV hr0,<- e6];rfl);refine⟨⟨E,H4.eF rk nb2 (.O gn 76 ((aP (d.F.take k)++[.lit (.int .i64 x.Q),.L x.J.length (ints x.J)])++aD x.X :: []))⟩,cF.eF (s:=⟨E,H4⟩) aO c5 hne2 aaw (Vv (fun c hc=>?_) ?_ fun c hc=>by cases hc),by show Hb.C<=H4.C;omega,
     ⟨k+1,.Z nb2 gn 0 (k+1) 3,hE20.trans aaw,U,⟨by show _<=H4.C;omega,⟨by have:=R2.ov.C;show _<=H4.C;omega,fun id h=>(lj U U).trans ((c0 id U).trans (R2.ov.ng id h))⟩,(lj U U).trans ((c0 _ U).trans R2.b0),(lj U U).trans ((c0 _ U).trans R2.b1),(lj U U).trans ((c0 _ U).trans R2.b2),(lj U U).trans c3,.inr ⟨nb2,gn,b1,by show _<H4.C;omega,rfl,?_,?_⟩⟩⟩,?_⟩
    ·rcases Xt.1 hc with hc|hc
     ·exact v9 _ c hc
     ·simp only[List.mem_cons,List.not_mem_nil,or_false]at hc;rcases hc with rfl|rfl
      ·exact .lit _
      ·exact .df _
    ·show Fz (fun id=>id=rk) H4 _ _ _;rw[show aD x.X=.L (x.X.map ah).length (x.X.map ah) by simp[aD]];refine .nq (S:=fun id=>id=rk) rfl c6 (by rw[Nat.mul_one]) fun j hj h2 h'=>?_;simp only[Nat.zero_add,Xi];exact .df _
    ·rw[fa];simp;omega
    ·rw[e7];exact xc hne2
    ·show _-(iv (E 20)).toNat<_;rw[hE20];simp only[aa,aI];omega
 have ek:k=d.F.length:=U
 subst ek;rw[W9 aaz]at R;obtain⟨nbk,gn,b1,b2,rfl,b4,b5⟩:∃id g,H.C+4<=id/\id<H'.C/\nh=.Z id g 0 d.F.length 3/\(aP d.F).length=d.F.length*3/\H'.get id=some (.O g 76 (aP d.F)):=by
  rcases R.nd with ⟨_,h,_⟩|h
  ·have:=hR.n1.1;omega
  ·exact h
 simp only[go_sem,h20,hb,q0];refine aC.nb (AT d _ _ ⟨trivial,?_⟩);simp only[go_sem];obtain⟨H2,hH2⟩:∃H2,H2=ext H' [ko d]:=⟨_,rfl⟩
 rw[<- hH2];have o2:nnd H' H2:=by rw[hH2];exact .ext _ _
 have n2:H2.C=H'.C+1:=by rw[hH2];rfl
 have hbx:H2.get H'.C=some (ko d):=by rw[hH2];exact bV
 refine W.env fun E hE=>?_;have e2:E 2=.Y H.C 0 0:=by rw[hE];simp only[go_sem]
 have e3:E 3=.Y (H.C+1) 0 0:=by rw[hE];simp only[go_sem]
 have e4:E 4=.Y (H.C+2) 0 0:=by rw[hE];simp only[go_sem]
 have e5:E 5=.Y (H.C+3) 0 0:=by rw[hE];simp only[go_sem]
 let F:Nat->List nnn->nnl->Prop:=fun lo cs Hx=>lo<=Hx.C/\(∀id,id<H2.C->id≠nbk->Hx.get id=H2.get id)/\Hx.get nbk=some (.O gn 76 cs)
 refine W.xb (f:=109) (first:=[]) (cap:=[.Y H'.C 0 0]) (by show E 53=_;rw[hE];rfl) (AS d U hf.nl H'.C)
  (fun k Hx=>F H2.C (aP (dz d c k)) Hx) (fun _ _=>False)
  (fun k Hx h=>by rw[h.2.1 _ U U];exact hbx) (fun k Hx b h=>⟨h.1,fun id h1 h2=>by rw[ae,W7 U];exact h.2.1 id h1 h2,by rw[ae,W7 U];exact h.2.2⟩) (fun _ _ _ h=>h)
  (fun b=>⟨by rw[bu];omega,fun id h1 h2=>cH h1,by rw[cH U,Td];exact(o2.ng _ b2).trans b5⟩) aax AR (fun _ _ _=>trivial) (fun _ _ _=>trivial) (fun k y Hx B Bb hy hj hn hB hBb=>?_) (fun Hx hj hn=>?_) (fun Hx hs hn=>hs.elim) (fun i Hx hs hn=>hs.elim)
 ·obtain⟨v,hv,rfl⟩:=wJ hy;obtain⟨v1,v2,v3⟩:=qU hv;obtain⟨x,hx⟩:=get_of_lt (l:=d.F) (i:=v) v1;have hxm:=an hx;obtain⟨x1,x2⟩:=hR.dec v x hx v2;refine W.vs ?_;simp only[go_sem,lO,dT,tA,Ys,ZO,Zm,ZB,hB];obtain⟨H3,hH3⟩:∃H3,H3=Hx.upd H2.C Bb:=⟨_,rfl⟩
  rw[<- hH3];obtain⟨st,pd,n',en,ps',as',bo,hBe⟩:=hBb;have n3:H3.C=Hx.C:=by rw[hH3];rfl
  have hj3:F H2.C (aP (dz d c k)) H3:=by rw[hH3];exact⟨hj.1,fun id h1 h2=>by rw[ae,W7 U];exact hj.2.1 id h1 h2,by rw[ae,W7 U];exact hj.2.2⟩
  have jB:H3.get H2.C=some Bb:=by rw[hH3,ae,W8 rfl]
  refine W.en (fun E1=>E1 2=.Y H.C 0 0 /\ E1 3=.Y (H.C+1) 0 0 /\ E1 5=.Y (H.C+3) 0 0 /\ E1 11=aa k /\ E1 12=aa v) (by simp only[go_sem,dT,e2,e3,e5]) fun E1 ⟨m2,m3,m5,m11,m12⟩=>?_
  have hvn:(v:Int)<d.F.length:=U
  have s2:=R.over o2;have oldH:∀ {Hy:nnl},(∀id,id<H2.C->id≠nbk->Hy.get id=H2.get id)->Hy.na H.C 0=some (38,[.lit (.int .i64 d.nn),.L d.F.length (aG d.F),.lit (.int .u64 (d.nl:Int)),.L d.V.length (aH d.V)])/\Hy.na (H.C+1) 0=some (180,[fv])/\Hy.na (H.C+3) 0=some (90,[.lit (.int .i64 d.nn),.Z nbk gn 0 d.F.length 3]):=fun h =>
   ⟨ag ((h _ U U).trans s2.b0),ag ((h _ U U).trans s2.b1),ag ((h _ U U).trans s2.b3)⟩
  obtain⟨k0,k1,k3⟩:=oldH hj3.2.1;have ps:=nC hn8 x2 hR.Q;have hpm:=pf (ns:=d.F) (x:=x) (fun q hq=>by have:=x2.2 q hq;omega) hR.Q;have hpp:1<=aL (aW d.F x):=jX fun c hc=>(hpm c hc).1;have hpb:=ps.prod;have hrn:((dk d.F x:Nat):Int)=aL (aW d.F x):=by unfold dk;omega
  have hlk:(dz d c k)[v]?=some x:=by rw[ni hx];unfold gZ;rw[W7 U]
  have el:=fa (dz d c k);have hvk:v*3+2<(aP (dz d c k)).length:=by rw[el,j9];omega
  refine W.mi (Q':=fun e s2=>e=.normal/\∃rh,F H3.C (setAt (aP (dz d c k)) (v*3+2) [rh]) s2.H/\s2.H.get H2.C=some Bb/\aB H3.C s2.H 72 rh ((List.range (dk d.F x)).map fun r=>ah (aY d.nn x.Q (c k r)))) ?_ ?_;rotate_left
  ·rintro e sx ⟨rfl,rh,hF,jBx,hrh⟩;obtain⟨rk,gr,r1,r2,rfl,r4⟩:∃id g,H3.C<=id/\id<sx.H.C/\rh=.Z id g 0 ((List.range (dk d.F x)).map fun r=>ah (aY d.nn x.Q (c k r))).length 1/\sx.H.get id=some (.O g 72 ((List.range (dk d.F x)).map fun r=>ah (aY d.nn x.Q (c k r)))):=by
    rcases hrh with ⟨_,h⟩|h
    ·have:dk d.F x=0:=(by simpa using h);omega
    ·exact h
   have hfs:=Te (c:=c) hv hx;have edr:ei d.nn d.F c k x=(List.range (dk d.F x)).map fun r=>aY d.nn x.Q (c k r):=rfl;have ey:aR { x with X:=x.X++ei d.nn d.F c k x }=.L ((List.range (dk d.F x)).map fun r=>ah (aY d.nn x.Q (c k r))).length ((List.range (dk d.F x)).map fun r=>ah (aY d.nn x.Q (c k r))):=by
    have hne:x.X++ei d.nn d.F c k x≠[]:=by
     rw[x1,edr,List.nil_append];intro h;have:dk d.F x=0:=(by simpa using h);omega
    rw[qV hne];show aD (x.X++_)=_;rw[x1,edr,List.nil_append];simp[aD,List.map_map,Function.comp_def]
   have hob:=hF.2.2;rw[dQ hvk]at hob;have hc2:aP (dz d c (k+1))=(aP (dz d c k)).set (v*3+2) (.L ((List.range (dk d.F x)).map fun r=>ah (aY d.nn x.Q (c k r))).length ((List.range (dk d.F x)).map fun r=>ah (aY d.nn x.Q (c k r)))):=by
    rw[hfs,ET (y:={ x with X:=x.X++ei d.nn d.F c k x }) hlk ⟨rfl,rfl⟩,ey,dQ hvk]
   have hne2:nbk≠rk:=(by have:=hj3.1;omega);refine⟨⟨sx.ρ,sx.H.eF rk nbk (.O gn 76 (aP (dz d c (k+1))))⟩,cF.eF aO hob hne2 (by rw[hc2,Xb,Xb]) ?_,aaz,⟨_,_,_,_,_,_,_,by rw[lj U U,jBx,hBe]⟩,by rw[lj U U];exact jBx,by show Hx.C<=sx.H.C;have:=hF.1;omega,
    ⟨by show H2.C<=sx.H.C;have:=hF.1;omega,fun id h1 h2=>(lj U h2).trans (hF.2.1 id h1 h2),xc hne2⟩⟩
   rw[hc2];refine Ba (v9 _) ?_;refine .nq (S:=fun id=>id=rk) rfl r4 (by rw[Nat.mul_one]) fun j hj h2 h'=>?_;simp only[Nat.zero_add,Xi];exact .df _
  refine W.vs ?_;simp only[go_sem,m2,m12,k0];refine aC.nb (UE d.F v x hx (fun q hq=>by have:=x2.2 q hq;omega) ps _ _ ⟨⟨_,_,_,_,_,_,_,by rw[jB,hBe]⟩,?_⟩);rw[<- hrn];simp only[go_sem];refine W.aM 1237940038132458770292285440 (by rfl) (fun ρ2 H4=>∃(r:Nat) (rh:nnn),ρ2 60=aa r/\r<=dk d.F x/\F H3.C (setAt (aP (dz d c k)) (v*3+2) [rh]) H4/\H4.get H2.C=some Bb/\aB H3.C H4 72 rh ((List.range r).map fun r=>ah (aY d.nn x.Q (c k r)))/\(r=0->rh=.lit (.slice none 0 0)))
   (fun ρ2 H=>dk d.F x-(iv (ρ2 60)).toNat) ?_ ?_
  ·simp only[go_sem];refine⟨0,.lit (.slice none 0 0),rfl,U,⟨aaz,hj3.2.1,?_⟩,jB,.nil,fun _=>rfl⟩;rw[show setAt (aP (dz d c k)) (v*3+2) [.lit (.slice none 0 0)]=aP (dz d c k) from by
    have:=ET (y:=x) hlk ⟨rfl,rfl⟩;rw[ES x1]at this;rw[<- this];congr 1;exact iV hlk]
   exact hj3.2.2
  rintro ρ2 H4 ⟨r,rh,h60,hr,hF,jB4,hrh,hrh0⟩;refine W.en (fun E2=>E2 2=.Y H.C 0 0 /\ E2 3=.Y (H.C+1) 0 0 /\ E2 5=.Y (H.C+3) 0 0 /\ E2 11=aa k /\ E2 12=aa v /\ E2 59=aa (dk d.F x) /\ E2 60=aa r) (by simp only[go_sem,m2,m3,m5,m11,m12,h60]) fun E2 ⟨i2,i3,i5,i11,i12,i59,i60⟩=>?_
  refine W.vs ?_;by_cases hb2:(r:Int)<dk d.F x
  ·obtain⟨k0,k1,k3⟩:=oldH hF.2.1;have kn:=ag hF.2.2;have hne:=eC hx;have ec:=lY hx;have w1:=W6 ((r:Int)+1) U;obtain⟨cb,hpc⟩:=hfv k r v x H4 hv hx U ⟨U,fun id h=>(hF.2.1 id U U).trans (s2.ov.ng id h)⟩;have hs:(setAt (aP (dz d c k)) (v*3+2) [rh])[v*3+2]?=some rh:=(by rw[dQ hvk,Xj hvk]);obtain⟨rh2,H5,hA,hO,hn5,hp⟩:=FO (ah (aY d.nn x.Q (c k r))) rfl hrh hF.1 (by rw[Xl,Ym];omega);simp only[ah]at hA;have hcells:=hO.cells;have hone:=hO.one;have hpr:cz prog G0 (.nb 144 [] []) [.lit (.int .i64 d.nn),.lit (.int .i64 x.Q),.lit (.int .i64 (c k r))] H4 (ah (aY d.nn x.Q (c k r))) []:=cz.pure fun H2=>Uu d.nn x.Q (c k r) (by have:=hR.Q x hxm;omega) cb H2 _ ⟨rfl,rfl⟩;have hrhs:rh=.lit (.slice none 0 0)\/∃i g n,rh=.Z i g 0 n 1/\H3.C<=i/\i<H4.C:=by
    rcases hrh with ⟨h,_⟩|⟨i,g,h1,h2,h3,_⟩
    ·exact .inl h
    ·exact .inr ⟨i,g,_,h3,h1,h2⟩
   have hset:∀a b,setAt (setAt (aP (dz d c k)) (v*3+2) [a]) (v*3+2) [b]=setAt (aP (dz d c k)) (v*3+2) [b]:=fun a b=>by rw[dQ hvk,dQ (by rw[Xb];exact hvk),dQ hvk,Zh]
   have hslen:∀a,(setAt (aP (dz d c k)) (v*3+2) [a]).length=(aP (dz d c k)).length:=fun a=>by rw[dQ hvk,Xb]
   have hg5:H5.get nbk=some (.O gn 76 (setAt (aP (dz d c k)) (v*3+2) [rh])):=(hp _ (by have:=hF.1;omega) (hrh.ne U)).trans hF.2.2;have kn5:=ag hg5;have ho5:∀id,id<H2.C->id≠nbk->H5.get id=H2.get id:=fun id h1 h2=>(hp _ (by have:=hF.1;omega) (hrh.ne U)).trans (hF.2.1 id h1 h2);have jB5:H5.get H2.C=some Bb:=(hp _ (by have:=hF.1;omega) (hrh.ne U)).trans jB4;obtain⟨hn34,-,-⟩:=hF;rcases rs with _|⟨b0,rs⟩<;>rcases hrhs with rfl|⟨i,g,n,rfl,hi1,hi2⟩
   all_goals
    simp only[go_sem,i60,i59,hb2];refine W.dr 24 [0,1,0,0,8,0,56,120,248,0,512,0,2048,0,14336,30720,63488,0,0,0,917504,2096640,4193792,8388600] mixed ?_;simp only[go_sem,i2,i3,i5,i11,i12,k0,k1,k3,kn,hvn,hne,ec,hs];refine⟨.lit (.int .i64 (c k r)),_,hpc,ah (aY d.nn x.Q (c k r)),[],hpr,?_⟩;simp only[go_sem,i2,i3,i5,i11,i12,i60,hvn,kn5,hA,hcells,hone,w1];refine⟨by repeat' (first|refine And.intro ?_ ?_|(intro x hx;omega)),by repeat' (first|refine And.intro ?_ ?_|(intro x hx;omega)),by rw[hslen];omega,by rw[aw];omega,⟨_,_,_,_,_,_,_,by rw[ae,W7 U,jB5,hBe]⟩,
     ⟨r+1,rh2,aaw,U,⟨by rw[aw];omega,fun id h1 h2=>by rw[ae,W7 h2];exact ho5 id h1 h2,by rw[ae,W8 rfl,hset]⟩,by rw[ae,W7 U];exact jB5,?_,U⟩,by rw[h60];simp only[aa,aI];omega⟩
    have e:((List.range (r+1)).map fun r=>ah (aY d.nn x.Q (c k r)))=((List.range r).map fun r=>ah (aY d.nn x.Q (c k r)))++[ah (aY d.nn x.Q (c k r))]:=(by rw[Yj];simp);show aB _ _ _ _ ((List.range (r+1)).map fun r=>ah (aY d.nn x.Q (c k r)));rw[e];exact hO.nf aaz (by rw[aw];omega) fun id g h1 _ _ _=>by rw[ae,W7 U]
  ·have er:r=dk d.F x:=U;subst er;simp only[go_sem,i59,i60,hb2];exact⟨rh,hF,jB4,hrh⟩
 ·have s2:=R.over o2;have f4:=ag ((hj.2.1 _ U U).trans s2.b2);have f5:=ag ((hj.2.1 _ U U).trans s2.b3);simp only[go_sem,e4,e5,f4,f5];have ovx:nnd H Hx:=⟨U,fun id h=>(hj.2.1 id U U).trans (s2.ov.ng id h)⟩
  refine ar.bw (v':=bS d.nn (eZ d c)) aO hcl (ovx.upd U _) (.agg rfl fun i hi _=>?_) hK
  match i,hi with
  |0,_=>exact .lit _
  |1,_ =>
   have hg:∀b,(Hx.upd (H.C+2) b).get nbk=some (.O gn 76 (aP (eZ d c))):=fun b=>by
    rw[ae,W7 U];have:=hj.2.2;rw[wK]at this;exact this
   show Fz _ _ _ (.Z nbk gn 0 d.F.length 3) (.L (eZ d c).length (aG (eZ d c)));rw[show (eZ d c).length=d.F.length from j9 _ _ _];refine .nq (by show H.C<=_;omega) (hg _) (by rw[fJ];congr 1;exact j9 _ _ _) fun j hj h2 h'=>?_;simp only[Nat.zero_add];exact EW _ j _ _
structure nnx (ns:List nna)(u:nni):Prop where
 vars:bB u.vars ns.length
 size:(u.w.length:Int)=aL (bb (aE ns) u.vars)
 w:∀x∈u.w,-100<=x/\x<=100
def wN (d:nnb):Prop:=d.V.length<=4/\∀u∈d.V,nnx d.F u
def wO {vars:List Int}(h8:ns.length<=8)(hp:bB vars ns.length)(hc:∀y∈ns,1<=y.Q/\y.Q<=4):fh (bb (aE ns) vars) :=
 nC (x:=⟨0,vars,[]⟩) h8 hp hc
def UA (d:nnb)(hf:nnm d)(h8:d.F.length<=8)(hc:∀y∈d.F,1<=y.Q/\y.Q<=4)(H:nnl)(K:nnf->nnl->Prop)(hK:K (.ret (.lit (.bool (jr (wN d))))) H):af prog G0 108 [cM d] H K:=by
 refine af.nb ⟨_,func108,rfl,rfl⟩ fun hcl=>?_;have hul:=hf.V.1;have no:¬wN d->∀H',nnd H H'->ar prog G0 H K (.lit (.bool false)) H':=fun h H' ov=>ar.bw aO hcl ov (.lit _) (by rw[fX h]at hK;exact hK);refine af.st (n:=74) (rs:=[.tmp 2]) func108 ?_;simp only[go_sem,hJ,dm];obtain⟨H1,hH1⟩:∃H1,H1=ext H [.O 0 38 [.lit (.int .i64 d.nn),.L d.F.length (aG d.F),.lit (.int .u64 (d.nl:Int)),.L d.V.length (aH d.V)]]:=⟨_,rfl⟩
 have l1:H1.na H.C 0=some (38,[.lit (.int .i64 d.nn),.L d.F.length (aG d.F),.lit (.int .u64 (d.nl:Int)),.L d.V.length (aH d.V)]):=by rw[hH1];exact ag (bY ..)
 have n1:H1.C=H.C+1:=hH1▸rfl
 have o1:nnd H H1:=hH1▸.ext _ _
 rw[<- hH1];refine W.aM 9444732965739290166632 (by rfl) (fun ρ H'=>∃k:Nat,ρ 18=aa k/\k<=d.V.length/\nnd H1 H'/\ρ 3=.lit (.bool (decide ((d.V.length:Int)<=4)))/\(0<k->d.V.length<=4)/\∀u∈d.V.take k,nnx d.F u) (fun ρ H=>d.V.length-(iv (ρ 18)).toNat) ?_ ?_
 ·simp only[go_sem];exact⟨0,rfl,U,.refl _,U,aaw⟩
 rintro ρ H' ⟨k,h18,hk,ov,h3,hk4,hall⟩;refine W.en (fun E=>E 1=.Y H.C 0 0 /\ E 3=.lit (.bool (decide ((d.V.length:Int)<=4))) /\ E 16=.L d.V.length (aH d.V) /\ E 17=aa d.V.length /\ E 18=aa k) (by simp only[go_sem,h3,h18]) fun E ⟨e1,e3,e16,e17,e18⟩=>?_
 refine W.vs ?_;have ovn:=ov.C;have l2:=(ov.na (g:=0) (by omega:H.C<H1.C)).trans l1;by_cases hb:(k:Int)<d.V.length;rotate_left
 ·rw[W9 U]at hall;by_cases h4:(d.V.length:Int)<=4
  ·simp only[go_sem,e3,e17,e18,hb,h4];rw[eO ⟨U,hall⟩]at hK;exact ar.bw aO hcl (o1.trans ov) (.lit _) hK
  ·simp only[go_sem,e3,e17,e18,hb,h4];exact no (fun h=>by have:=h.1;omega) _ (o1.trans ov)
 obtain⟨u,hu⟩:=get_of_lt (l:=d.V) (i:=k) U;have hum:=an hu;obtain⟨f1,f2⟩:=hf.V.2 u hum;have hne:=qR hu;have p0:=vV hu;have p1:k*2+2<=(aH d.V).length:=by rw[kV];omega
 have ove:∀L,nnd H (ext H' L):=fun L=>(o1.trans ov).trans (.ext _ _);by_cases h4:(d.V.length:Int)<=4;rotate_left
 ·simp only[go_sem,e3,e16,e17,e18,hb,h4,hne,p0,p1];exact no (fun h=>by have:=h.1;omega) _ (ove _)
 have l3:∀L,(ext H' L).na H.C 0=_:=fun L=>(cB U).trans l2;simp only[go_sem,e1,e3,e16,e17,e18,hb,h4,hne,p0,p1,l3];obtain⟨H2,hH2⟩:∃H2,H2=ext H' [.O 0 87 [.L u.vars.length (ints u.vars),.L u.w.length (ints u.w)]]:=⟨_,rfl⟩
 have m1:H2.na H'.C 0=some (87,[.L u.vars.length (ints u.vars),.L u.w.length (ints u.w)]):=by rw[hH2];exact ag bV
 have m2:=l3 [.O 0 87 [.L u.vars.length (ints u.vars),.L u.w.length (ints u.w)]];rw[<- hH2]at m2;have n2:H2.C=H'.C+1:=by rw[hH2];rfl
 have ov2:nnd H H2:=by rw[hH2];exact ove _
 rw[<- hH2];refine aC.nb (FS u.vars d.F.length U _ _ ⟨trivial,?_⟩);by_cases c1:bB u.vars d.F.length;rotate_left
 ·simp only[go_sem,c1];exact no (fun h=>c1 (h.2 u hum).vars) _ ov2
 have sm:=wO h8 c1 hc;have pl:(bb (aE d.F) u.vars).length=u.vars.length:=jv _ _;have v8:=c1.len;simp only[go_sem,c1,m1];refine W.aM 562881233944896 (by rfl) (fun ρ' H3=>H3=H2/\∃j:Nat,ρ' 36=aa j/\j<=u.vars.length/\ρ' 6=aa (aL ((bb (aE d.F) u.vars).take j))) (fun ρ' H=>u.vars.length-(iv (ρ' 36)).toNat) ?_ ?_
 ·simp only[go_sem];exact⟨0,rfl,U,by simp[l9]⟩
 rintro ρ' H3 ⟨rfl,j,h36,hj,h6⟩;refine W.vs ?_;by_cases hb2:(j:Int)<u.vars.length
 ·obtain⟨q,hq⟩:=get_of_lt (l:=u.vars) (i:=j) U;obtain⟨i,rfl,y,hy⟩:=oK (l:=d.F) (c1.2 q (an hq)).1 (c1.2 q (an hq)).2;have hne2:=aS hq;have hne3:=eC hy;have ey:=lY hy;have hi:(i:Int)<d.F.length:=by have:=get_lt hy;omega
  have pk:(bb (aE d.F) u.vars)[j]?=some y.Q:=by rw[pa hq,Int.toNat_natCast,cP (dK hy)]
  have b1:=(sm.take (j+1)).prod;rw[aQ pk,gX]at b1;have w1:=W6 ((j:Int)+1) U;have w2:=W6 (aL ((bb (aE d.F) u.vars).take j)*y.Q) U;simp only[go_sem,h36,h6,e1,m2,hb2,hq,hne2,hne3,hi,ey,w1,w2];exact⟨⟨j+1,aaw,U,by rw[aQ pk,gX]⟩,U⟩
 rw[W9 U]at h6;by_cases c2:(u.w.length:Int)=aL (bb (aE d.F) u.vars);rotate_left
 ·simp only[go_sem,h36,h6,m1,hb2,c2];exact no (fun h=>c2 (h.2 u hum).size) _ ov2
 simp only[go_sem,h36,h6,m1,hb2,c2];refine W.aM 4721790022117341791240 (by rfl) (fun ρ2 H4=>H4=H3/\∃i:Nat,ρ2 59=aa i/\i<=u.w.length/\ρ2 3=.lit (.bool true)/\∀w∈u.w.take i,-100<=w/\w<=100) (fun ρ2 H=>u.w.length-(iv (ρ2 59)).toNat) ?_ ?_
 ·simp only[go_sem];exact⟨0,rfl,U,aaw⟩
 rintro ρ2 H4 ⟨rfl,i,h59,hi,h3',hw⟩;refine W.vs ?_;have hpr:=sm.prod;by_cases hb3:(i:Int)<u.w.length<;>have hb3':=hb3<;>rw[c2]at hb3'
 ·obtain⟨a,ha⟩:=get_of_lt (l:=u.w) (i:=i) U;have ham:=an ha;have hane:=aS ha;by_cases d1:a >= -100;rotate_left
  ·simp only[go_sem,h59,h3',hb3,hb3',ha,hane,d1];exact no (fun h=>by have:=(h.2 u hum).w a ham;omega) _ ov2
  by_cases d2:a<=100;rotate_left
  ·simp only[go_sem,h59,h3',hb3,hb3',ha,hane,d1,d2];exact no (fun h=>by have:=(h.2 u hum).w a ham;omega) _ ov2
  have w1:=W6 ((i:Int)+1) U;simp only[go_sem,h59,h3',hb3,hb3',ha,hane,d1,d2,w1];refine⟨⟨i+1,aaw,U,fun w hw'=>?_⟩,U⟩;rw[aQ ha]at hw';rcases Xt.1 hw' with hw'|hw'
  ·exact hw w hw'
  ·obtain rfl:=List.mem_singleton.1 hw';exact⟨U,U⟩
 ·have w1:=W6 ((k:Int)+1) U;rw[W9 U]at hw;simp only[go_sem,h59,h3',e18,hb3',w1];refine⟨U,⟨k+1,aaw,U,by rw[hH2];exact ov.trans (.ext _ _),fun _=>U,fun y hy=>?_⟩,by rw[h18];simp only[aa,aI];omega⟩;rw[aQ hu]at hy;rcases Xt.1 hy with hy|hy
  ·exact hall y hy
  ·obtain rfl:=List.mem_singleton.1 hy;exact⟨c1,c2,hw⟩
structure nnj (d:nnb):Prop where
 n:nnq d
 nC:nnw d.nn (eZ d fun _ _=>0)
 V:wN d
def tj (g Q x:Int):(aY g Q x).length=Q.toNat:=by simp[aY]
def tn {c:Nat->Nat->Int}(h:y∈eZ d c):∃v x,d.F[v]?=some x/\y=gZ d c (ay d).length v x:=by
 obtain⟨v,hv⟩:=Xg.1 h;have hl:=get_lt hv;rw[show (eZ d c).length=d.F.length from j9 _ _ _]at hl;obtain⟨x,hx⟩:=get_of_lt hl;have:=ni (c:=c) (k:=(ay d).length) hx;rw[show dz d c (ay d).length=eZ d c from rfl,hv]at this;exact⟨v,x,hx,Option.some.inj this⟩
def UB (hf:nnm d)(hR:nnq d)(c:Nat->Nat->Int):pe (eZ d c):=by
 refine⟨by rw[show (eZ d c).length=d.F.length from j9 _ _ _];exact hf.F.1,fun y hy=>?_⟩;obtain⟨v,x,hx,rfl⟩:=tn hy;have hxm:=an hx;obtain⟨f1,f2,f3⟩:=hf.F.2 x hxm;unfold gZ;split
 ·rename_i h;obtain⟨x1,x2⟩:=hR.dec v x hx h.1;have ps:=(nC hR.n1.2 x2 hR.Q).prod;have hc:=hR.Q x hxm;refine⟨f1,?_,fun r hr=>?_⟩
  ·show ((x.X++ei d.nn d.F c (cY d.nl v) x).length:Int)<_;rw[x1];simp only[ei,List.nil_append,Xl,Ym,dk];omega
  ·rw[show ({ x with X:=x.X++ei d.nn d.F c (cY d.nl v) x }:nna).X=x.X++ei d.nn d.F c (cY d.nl v) x from rfl,x1,List.nil_append]at hr;obtain⟨i,_,rfl⟩:=Xx.1 hr;rw[tj];omega
 ·exact⟨f1,f2,f3⟩
def UC (d:nnb)(hf:nnm d)(H:nnl)(K:nnf->nnl->Prop)(hK:K (.ret (aa (if jr (nnj d) then 0 else 200))) H):af prog G0 64 [cM d] H K:=by
 refine af.nb ⟨_,func64,rfl,rfl⟩ fun hcl=>?_;have no:¬nnj d->∀H',nnd H H'->ar prog G0 H K (.lit (.int .i64 200)) H':=fun h H' ov=>ar.bw aO hcl ov (.lit _) (by rw[fX h]at hK;exact hK);have hg:nnj d->1<=d.nn/\d.nn<=60:=fun h=>h.nC.g1;refine af.st (n:=25) (rs:=[.tmp 2]) func64 ?_;simp only[go_sem,hJ,dm];obtain⟨H1,hH1⟩:∃H1,H1=ext H [.O 0 38 [.lit (.int .i64 d.nn),.L d.F.length (aG d.F),.lit (.int .u64 (d.nl:Int)),.L d.V.length (aH d.V)]]:=⟨_,rfl⟩
 have l1:H1.na H.C 0=some (38,[.lit (.int .i64 d.nn),.L d.F.length (aG d.F),.lit (.int .u64 (d.nl:Int)),.L d.V.length (aH d.V)]):=by rw[hH1];exact ag (bY ..)
 have o1:nnd H H1:=hH1▸.ext _ _
 rw[<- hH1];by_cases c1:d.nn<1
 ·simp only[go_sem,c1];exact no (fun h=>by have:=hg h;omega) _ o1
 by_cases c2:d.nn > 60
 ·simp only[go_sem,l1,c1,c2];exact no (fun h=>by have:=hg h;omega) _ o1
 simp only[go_sem,l1,c1,c2];refine aC.nb (Uw d hf _ _ ⟨trivial,?_⟩);by_cases c3:nnq d;rotate_left
 ·rw[fX c3];simp only[go_sem];exact no (fun h=>c3 h.n) _ o1
 rw[eO c3];simp only[go_sem,l1];refine aC.nb (Uz d hf c3 (fun _ _=>0) _ [] _ (fun i h=>by cases h) rfl rfl (fun p r v x H2 _ hx _ _=>⟨⟨Int.le_refl 0,by have:=c3.Q x (an hx);omega⟩,cz.pure fun H3=>Uv _ _ H3 _ ⟨rfl,rfl⟩⟩) _ ⟨trivial,?_⟩);simp only[go_sem];refine aC.nb (UW d.nn _ (UB hf c3 _) _ _ ⟨trivial,?_⟩);by_cases c4:nnw d.nn (eZ d fun _ _=>0);rotate_left
 ·rw[tu c4];simp only[go_sem];exact no (fun h=>c4 h.nC) _ o1
 rw[tt c4];simp only[go_sem,l1];refine aC.nb (UA d hf c3.n1.2 c3.Q _ _ ⟨trivial,?_⟩);by_cases c5:wN d;rotate_left
 ·rw[fX c5];simp only[go_sem];exact no (fun h=>c5 h.V) _ o1
 rw[eO c5];simp only[go_sem];rw[eO (⟨c3,c4,c5⟩:nnj d)]at hK;exact ar.bw aO hcl o1 (.lit _) hK
structure PolOk (d:nnb)(p:List (List Int)):Prop where
 len:p.length=(ay d).length
 row:∀(k v:Nat) (x:nna) (l:List Int),(ay d)[k]?=some v->d.F[v]?=some x->p[k]?=some l->l.length=dk d.F x/\∀a∈l,0<=a/\a<x.Q
def fixC (p:List (List Int))(k r:Nat):Int:=(p.getD k []).getD r 0
end Go.Proofs
namespace Go.Hx
variable {P:Program} {G:Nat->Option (List nnn)} {n:Nat} {rd:Option Nat} {Q:AX->St->Prop}
end Go.Hx
namespace Go.Proofs
open Go.Hx Tryz
variable {v:Nat}{c:Nat->Nat->Int}{x:nna}{d:nnb}
def AA (ns:List nna)(x:nna)(vals:List Int):List Int:=x.X.getD (gH (aW ns x) (bb vals x.J)).toNat []
def AB (ns:List nna)(vals:List Int)(v:Nat):Int:=match ns[v]? with
 |some x=>(AA ns x vals).getD (vals.getD v 0).toNat 0
 |none=>1
def mX (ns:List nna):Nat:=(aL (aE ns)).toNat
def EY (ns:List nna)(vals:List Int)(u:nni):Int:=u.w.getD (gH (bb (aE ns) u.vars) (bb vals u.vars)).toNat 0
def EZ (ns:List nna)(us:List nni)(vals:List Int):Int:=(us.map (EY ns vals)).sum
def AV {ns:List nna}{vals:List Int}(hin:jt x.J ns.length)(hf:gI (aE ns) vals):gI (aW ns x) (bb vals x.J):=by
 refine⟨by unfold aW;rw[jv,jv],fun k c v h1 h2=>?_⟩;obtain⟨q,hq⟩:=get_of_lt (l:=x.J) (i:=k) (by have:=get_lt h2;rw[jv]at this;exact this);obtain⟨j,rfl,y,hy⟩:=oK (l:=ns) (hin q (an hq)).1 (hin q (an hq)).2;obtain⟨b,hb⟩:=get_of_lt (l:=vals) (i:=j) (by rw[hf.1,gL];exact get_lt hy);have e1:(aW ns x)[k]?=some y.Q:=by rw[show (aW ns x)[k]?=_ from pa hq,Int.toNat_natCast,cP (dK hy)]
 have e2:(bb vals x.J)[k]?=some b:=by rw[pa hq,Int.toNat_natCast,cP hb]
 rw[h1]at e1;rw[h2]at e2;cases e1;cases e2;exact hf.2 j y.Q _ (dK hy) hb
structure RowAtW (g:Int)(ns:List nna)(x:nna)(vals:List Int)(v:Nat)(i:Nat)(r:List Int)(a w:Int):Prop where
 idx:gH (aW ns x) (bb vals x.J)=i
 row:x.X[i]?=some r
 val:vals[v]?=some a
 a0:0<=a
 hw:r[a.toNat]?=some w
 wb:0<=w/\w<=g
 eq:AB ns vals v=w
 rv:AA ns x vals=r
 len:(r.length:Int)=x.Q
 al:a<r.length
def FN {g Q a:Int}(hg:0<=g)(ha:0<=a/\a<Q):jx g Q (aY g Q a):=by
 refine⟨by rw[tj];omega,fun w hw=>?_,?_⟩
 ·unfold aY at hw;rcases XI hw with h|h
  ·have:=XW h;omega
  ·omega
 ·unfold aY;have key:∀(n i:Nat),i<n->((List.replicate n (0:Int)).set i g).sum=g:=by
   intro n
   induction n with
   |zero=>intro i h;omega
   |succ n ih =>
    intro i h;cases i with
    |zero=>simp[YB]
    |succ i=>rw[YB,List.set_cons_succ,Y9,ih i U];omega
  exact key _ _ (U)
def ti (d:nnb)(c:Nat->Nat->Int):aE (eZ d c)=aE d.F:=Tf
def js (d:nnb)(c:Nat->Nat->Int):(eZ d c).length=d.F.length:=j9 _ _ _
def kq (h:d.F[v]?=some x):(eZ d c)[v]?=some (gZ d c (ay d).length v x):=ni h
def wL (d:nnb)(c:Nat->Nat->Int)(x:nna):aW (eZ d c) x=aW d.F x:=by unfold aW;rw[ti]
def AU (d:nnb)(c:Nat->Nat->Int):aq (eZ d c)=aq d.F:=by
 apply XQ;intro v;unfold aq;rw[List.getElem?_map,List.getElem?_map];rcases Xu v d.F.length with h|h
 ·obtain⟨x,hx⟩:=get_of_lt h;rw[kq hx,hx];simp only[Option.map_some,(jm d c _ v x).2]
 ·rw[Xf (by rw[js];exact h),Xf h]
def Ux (hx:d.F[v]?=some x)(hb:d.nl.testBit v=true):(ay d)[cY d.nl v]?=some v:=vY (get_lt hx) hb
def wM (hx:d.F[v]?=some x)(hb:d.nl.testBit v=true):gZ d c (ay d).length v x={ x with X:=x.X++ei d.nn d.F c (cY d.nl v) x } :=
 W8 ⟨hb,get_lt (Ux hx hb)⟩
def o9 {k:Nat}(hb:¬d.nl.testBit v=true):gZ d c k v x=x:=W7 fun h=>hb h.1
end Go.Proofs
namespace Go.Proofs.R01
open Go.Hx Tryz
section
variable {P:Program} {t:TypeId} {x y:Operand} {k k':IntKind} {a b:Int}
def pureRun_bind {α β:Type}{s:Sem α}{f:α->Sem β}{a:α}(h:cE P s=some a):cE P (s >>= f)=cE P (f a):=by
 induction s with
 |pure b=>simp only[cE,Option.some.injEq]at h;subst h;rfl
 |program k ih=>exact ih P h
 |mark m k ih=>exact ih h
 |_=>simp[cE]at h
end
section
variable {P:Program} {G:Nat->Option (List nnn)}
end
end Go.Proofs.R01
namespace Go.Proofs.R01
open Go.Hx Tryz
def val:List Int -> Nat
  | [] => 0
  |a :: l => a.toNat + 10000 * val l
end Go.Proofs.R01
namespace Go.Proofs.R01
open Go.Hx Tryz
def oX {H H' H2:nnl}{v:nnn}{cs:List nnn}{e:TypeId}(ov:nnd H H')(h:aB H.C H' e v cs)(hn:H'.C <= H2.C)(hp:∀k,k < H'.C -> (∀g n,v ≠ .Z k g 0 n 1) -> H2.get k=H'.get k):nnd H H2 :=
  ⟨by have := ov.C;omega,fun id hid => by
    rw[hp id (by have := ov.C;omega) fun g n he => ?_,ov.ng id hid]
    rcases h with ⟨h,_⟩ |⟨i2,g2,a1,_,h,_⟩
    · rw[h]at he;cases he
    · rw[h]at he;have := nnn.Z.inj he;omega⟩
end Go.Proofs.R01
namespace Go.Proofs.R01
open Go.Hx Tryz
end Go.Proofs.R01
namespace Go.Proofs.R01
open Go.Hx Tryz
def ki {l:List Int}{k:Nat}(v:Int)(h:k<l.length):setAt (ints l) k [.lit (.int .i64 v)]=ints (l.set k v):=by
 unfold setAt ints;rw[Zo,ZT,W8 (by simpa using h)];simp[aa]
end Go.Proofs.R01
namespace Go.Proofs.R01
open Go.Hx Tryz
end Go.Proofs.R01
namespace Go.Proofs.R01
open Go.Hx Tryz
end Go.Proofs.R01
namespace Go.Proofs.R01
open Go.Hx Tryz
end Go.Proofs.R01
namespace Go.Proofs.R01
open Go.Hx Tryz
end Go.Proofs.R01
namespace Go.Proofs
open Go.Hx Tryz
def bQ (l:List Int):List nnn:=l.map fun n=>.lit (.int .u8 n)
def vE {l:List Int}{k:Nat}{a:Int}(h:l[k]?=some a):(bQ l)[k]?=some (.lit (.int .u8 a)):=by unfold bQ;rw[List.getElem?_map,h];rfl
end Go.Proofs
namespace Go.Hx
variable {P:Program} {H H':nnl}
def ra {t e:TypeId}{lo n m:Nat}{v x:nnn}{cs src:List nnn}{z:List nnn}(ht:P.underlying t=some (.slice e))(hz:P.cellsOf e=1)(hzero:bC P e=some z)(hsrc:bU H 1 x=some (m,src))(hm:src.length=m)(hx:src.all nnn.one=true)
  (hb:(cs.length+m)*P.bytesOf e<=2 ^ 47/\cs.length+m<=2 ^ 47) (ho:aB lo H e v cs) (hlo:lo<=H.C) (hn:n=H.C):
  ∃v' H',bh P H n t t v x=some (v',H')/\aB lo H' e v' (cs++src)/\H.C<=H'.C/\(∀k,k<H.C->(∀g n,v≠.Z k g 0 n 1)->H'.get k=H.get k):=by
 subst hm;obtain⟨v',H',hA,h2⟩:=ux (H:=H) (n:=n) ht hz hzero hx hb ho hlo hn;refine⟨v',H',?_,h2⟩;rw[<- hA];have e2:bU H 1 (.L src.length src)=some (src.length,src):=by unfold bU;simp
 unfold bh;rw[ht];simp only[hz,hsrc,e2]
end Go.Hx
namespace Go.Proofs
open Go.Hx Tryz
def U8 (n:Int):Prop:=0<=n/\n<256
def To (n:Nat)(hn:n<=5)(ord:List Int)(H:nnl)(K:nnf->nnl->Prop)(hK:K (.ret (ah (List.replicate n 1))) H):
  af prog G0 120 [.agg [.L n (bQ (List.replicate n 0)),(.lit (.int .u16 0)),.L ord.length (bQ ord)]] H K:=by
 refine af.nb ⟨_,func120,rfl,rfl⟩ fun hcl=>?_;refine af.st (n:=28) (rs:=[.tmp 2]) func120 ?_;simp only[go_sem];obtain⟨H1,hH1⟩:∃H1,H1=ext H [.O 0 145 [.L n (bQ (List.replicate n 0)),.lit (.int .u16 0),.L ord.length (bQ ord)]]:=⟨_,rfl⟩
 have l1:=ag (show H1.get H.C=some (.O 0 145 [.L n (bQ (List.replicate n 0)),.lit (.int .u16 0),.L ord.length (bQ ord)]) by rw[hH1];exact bY ..);have n1:H1.C=H.C+1:=hH1▸rfl
 have o1:nnd H H1:=hH1▸.ext _ _
 rw[<- hH1];refine W.aM 134217720 (by rfl) (fun ρ H'=>∃k:Nat,ρ 4=aa k/\k<=n/\nnd H1 H'/\aB H1.C H' 3 (ρ 3) (ints (List.replicate k 1))) (fun ρ H=>n-(iv (ρ 4)).toNat) ?_ ?_
 ·simp only[go_sem];exact⟨0,rfl,U,.refl _,.nil⟩
 rintro ρ H' ⟨k,h4,hk,ov,h3⟩;refine W.en (fun E=>E 1=.Y H.C 0 0 /\ E 3=ρ 3 /\ E 4=aa k) (by simp only[go_sem,h4]) fun E ⟨e1,e3,e4⟩=>?_
 refine W.vs ?_;have l2:=(ov.na (g:=0) (by omega:H.C<H1.C)).trans l1;by_cases hb:(k:Int)<n
 ·have h5:(k:Int)<5:=U
  have hg:(bQ (List.replicate n 0))[k]?=some (.lit (.int .u8 0)):=vE (by rw[ZF,W8 U]);have hne:=aS hg;obtain⟨v',H2,hA,ov2,hO,hn2,_⟩:=iW 1 ov h3 (by simp;omega);have w1:=W6 ((k:Int)+1) U;have hk0:(k:Int) >= 0:=U
  have w5:IntKind.i64.wrap (1+IntKind.i64.wrap (Int.tmod 0 4))=1:=aax
  simp only[go_sem,e1,e3,e4,l2,hb,h5,hk0,hg,hne,w1,w5,hA];refine⟨by have:=ov2.C;omega,⟨k+1,rfl,U,ov2,?_⟩,by rw[h4];simp only[aa,aI];omega⟩;rw[ZL];exact hO
 ·simp only[go_sem,e1,e3,e4,l2,hb];obtain rfl:k=n:=U
  exact ar.bw aO hcl (o1.trans ov) (h3.ep fun i hi=>U) hK
structure nnH (n:Nat)(p:List Int):Prop where
 len:p.length=n
 nd:p.Nodup
 np:∀x∈p,0<=x/\x<n
def Tp {n:Nat}{p:List Int}(h:nnH n p)(at':Nat)(ha:at'<=n):nnH (n+1) (p.take at'++(n:Int) :: p.drop at'):=by
 have hperm:(p.take at'++(n:Int) :: p.drop at').Perm ((n:Int) :: p):=by
  have:=List.perm_middle (a:=(n:Int)) (l₁:=p.take at') (l₂:=p.drop at')
  rwa [XO]at this
 refine⟨by rw[hperm.length_eq];simp[h.len],(hperm.nodup_iff).2 (YW.2 ⟨fun hm=>?_,h.nd⟩),fun x hx=>?_⟩
 ·have:=h.np _ hm;omega
 ·rcases List.mem_cons.1 (hperm.mem_iff.1 hx) with rfl|h2
  ·omega
  ·have:=h.np x h2;omega
def mc (ord:List Int)(k:Nat):Nat:=if k<ord.length then (ord.getD k 0 % ((k:Int)+1)).toNat else 0
def fC (ord:List Int):Nat->List Int
 |0=>[]
 |k+1=>(fC ord k).take (mc ord k)++(k:Int) :: (fC ord k).drop (mc ord k)
def Tq (ord:List Int)(k:Nat):mc ord k<=k:=by
 unfold mc;split
 ·have:=YF (ord.getD k 0) (show 0<(k:Int)+1 by omega);omega
 ·omega
theorem AE (ord:List Int):∀n:Nat,nnH n (fC ord n)
 |0=>⟨rfl,by simp[fC],by simp[fC]⟩
 |n+1=>Tp (AE ord n) _ (Tq ord n)
def Tr (n:Nat)(hn:n<=5)(ord:List Int)(hol:(ord.length:Int)<2 ^ 63)(ho8:∀x∈ord,U8 x)(H:nnl)(K:nnf->nnl->Prop)(hK:∀v H',nnd H H'->aB H.C H' 3 v (ints (fC ord n))->K (.ret v) H'):
  af prog G0 74 [.agg [.L n (bQ (List.replicate n 0)),.lit (.int .u16 0),.L ord.length (bQ ord)]] H K:=by
 refine af.nb ⟨_,func74,rfl,rfl⟩ fun hcl=>?_;refine af.st (n:=42) (rs:=[.tmp 2]) func74 ?_;simp only[go_sem];obtain⟨H1,hH1⟩:∃H1,H1=ext H [.O 0 145 [.L n (bQ (List.replicate n 0)),.lit (.int .u16 0),.L ord.length (bQ ord)]]:=⟨_,rfl⟩
 have l1:=ag (show H1.get H.C=some (.O 0 145 [.L n (bQ (List.replicate n 0)),.lit (.int .u16 0),.L ord.length (bQ ord)]) by rw[hH1];exact bY ..);have n1:H1.C=H.C+1:=hH1▸rfl
 have o1:nnd H H1:=hH1▸.ext _ _
 rw[<- hH1];refine W.aM 2199023255544 (by rfl) (fun ρ H'=>∃(k:Nat) (p:List Int),ρ 4=aa k/\k<=n/\p=fC ord k/\nnd H1 H'/\aB H1.C H' 3 (ρ 3) (ints p)) (fun ρ H=>n-(iv (ρ 4)).toNat) ?_ ?_
 ·simp only[go_sem];exact⟨0,[],rfl,U,rfl,.refl _,.nil⟩
 rintro ρ H' ⟨k,p,h4,hk,hpe,ov,h3⟩;have hp:nnH k p:=by rw[hpe];exact AE ord k
 refine W.en (fun E=>E 1=.Y H.C 0 0 /\ E 3=ρ 3 /\ E 4=aa k) (by simp only[go_sem,h4]) fun E ⟨e1,e3,e4⟩=>?_
 refine W.vs ?_;have l2:=(ov.na (g:=0) (by omega:H.C<H1.C)).trans l1;simp only[go_sem,e1,l2];refine aC.nb (To n hn ord _ _ ⟨trivial,?_⟩);by_cases hb:(k:Int)<n;rotate_left
 ·simp only[go_sem,XH,e3,e4,hb];obtain rfl:k=n:=U
  exact ar.mk (o1.trans ov).C (hK _ _ (o1.trans ov) (by rw[<- hpe];exact h3.nf U aaz fun _ _ _ _ _ _=>rfl))
  -- the place
 rcases h3 with ⟨h3n,hpn⟩|⟨oi,og,hoi1,hoi2,h3o,hog⟩
 ·have p0:p=[]:=by cases p with
   |nil=>rfl
   |cons a l=>simp[ints]at hpn
  have pl:=hp.len;rw[p0]at pl;obtain rfl:k=0:=by simpa using pl.symm
  rw[h3n]at e3;have e4':E 4=aa 0:=e4;have hb':(0:Int)<n:=hb;by_cases ho:(0:Int)<ord.length
  ·obtain⟨b,hbg⟩:=get_of_lt (l:=ord) (i:=0) U;have b8:=ho8 b (an hbg);have hbg':=vE hbg;have hbne:=aS hbg';have w2:IntKind.i64.wrap b=b:=W6 b (by have:=b8.1;have:=b8.2;omega);have w1:IntKind.i64.wrap 1=1:=aax;have m1:b.tmod 1=0:=aaw;obtain⟨v2,Hb,hA2,ovB,hO2,hn2,hp2⟩:=iW (H:=H') (H':=H') (l:=[]) (v:=.lit (.slice none 0 0)) (0:Int) (.refl _) aB.nil aaw;obtain⟨v3,Hc,hA3,hO3,hn3,hp3⟩:=ra (P:=prog) (H:=Hb) (t:=72) (n:=Hb.C) (m:=0) (v:=v2) (x:=.lit (.slice none 0 0)) (src:=[]) Tryz.underlying72 Tryz.dY Tryz.eh rfl rfl rfl (by rw[Tryz.eV];exact⟨aax,aax⟩) hO2 ovB.C rfl;have ovC:nnd H' Hc:=oX ovB hO2 hn3 hp3;have hA1:bh prog H' H'.C 72 72 (.lit (.slice none 0 0)) (.lit (.slice none 0 0))=some (.lit (.slice none 0 0),H'):=by
    unfold bh;rw[Tryz.underlying72];simp only[Tryz.eh,Tryz.dY,Option.bind_some,yR,if_true]
   have hO3':aB H1.C Hc 3 v3 (ints [0]):=by
    rw[List.append_nil]at hO3;exact hO3.nf ov.C aaz fun _ _ _ _ _ _=>rfl
   simp only[go_sem,XH,e1,e3,e4',l2,hb',ho,hbg',hbne,w1,w2,m1,hA1,hA2,hA3];refine⟨by have:=ovC.C;have:=ov.C;omega,⟨1,[0],rfl,U,by simp[fC],ov.trans ovC,hO3'⟩,by rw[h4];simp only[aa,aI];omega⟩
  ·have w1:IntKind.i64.wrap 1=1:=aax;obtain⟨v2,Hb,hA2,ovB,hO2,hn2,hp2⟩:=iW (H:=H') (H':=H') (l:=[]) (v:=.lit (.slice none 0 0)) (0:Int) (.refl _) aB.nil aaw;obtain⟨v3,Hc,hA3,hO3,hn3,hp3⟩:=ra (P:=prog) (H:=Hb) (t:=72) (n:=Hb.C) (m:=0) (v:=v2) (x:=.lit (.slice none 0 0)) (src:=[]) Tryz.underlying72 Tryz.dY Tryz.eh rfl rfl rfl (by rw[Tryz.eV];exact⟨aax,aax⟩) hO2 ovB.C rfl;have ovC:nnd H' Hc:=oX ovB hO2 hn3 hp3;have hA1:bh prog H' H'.C 72 72 (.lit (.slice none 0 0)) (.lit (.slice none 0 0))=some (.lit (.slice none 0 0),H'):=by
    unfold bh;rw[Tryz.underlying72];simp only[Tryz.eh,Tryz.dY,Option.bind_some,yR,if_true]
   have hO3':aB H1.C Hc 3 v3 (ints [0]):=by
    rw[List.append_nil]at hO3;exact hO3.nf ov.C aaz fun _ _ _ _ _ _=>rfl
   simp only[go_sem,XH,e1,e3,e4',l2,hb',ho,w1,hA1,hA2,hA3];refine⟨by have:=ovC.C;have:=ov.C;omega,⟨1,[0],rfl,U,by simp[fC],ov.trans ovC,hO3'⟩,by rw[h4];simp only[aa,aI];omega⟩
 rw[h3o]at e3;have lo:=ag hog;by_cases ho:(k:Int)<ord.length
 ·obtain⟨b,hbg⟩:=get_of_lt (l:=ord) (i:=k) U;have b8:=ho8 b (an hbg);have hbg':=vE hbg;have hbne:=aS hbg';have w0:=W6 ((k:Int)+1) U;have w1:=w0;have w2:IntKind.i64.wrap b=b:=W6 b (by have:=b8.1;have:=b8.2;omega);have m1:b.tmod ((k:Int)+1)=b % ((k:Int)+1):=XF b8.1;have m2:=YN b (show (k:Int)+1≠0 by omega);have m3:=YF b (show 0<(k:Int)+1 by omega);have hz:¬(k:Int)+1=0:=U
  obtain⟨a,hat⟩:=Xn m2;have ha:a<=k:=U
  have hac:(0:Int)<=(a:Int):=U
  have hap:(a:Int)<=(p.length:Int):=by rw[hp.len];omega
  have hak:(0:Int)<=(a:Int)/\(a:Int)<=(p.length:Int):=⟨hac,hap⟩
  have pl:p.length=k:=hp.len;obtain⟨v1,Ha,hA1,hO1,hn1,hp1⟩:=ra (P:=prog) (H:=H') (t:=72) (n:=H'.C) (m:=a) (v:=.lit (.slice none 0 0)) (x:=.Z oi og 0 a 1) (src:=(ints p).take a) Tryz.underlying72 Tryz.dY Tryz.eh
   (by rw[sf,W8 rfl,lo];simp) (by simp[aZ]<;>omega) (XK.2 fun c hc=>by
    obtain⟨z,_,rfl⟩:=Xx.1 (Xz hc);rfl) (by rw[Tryz.eV];simp<;>omega) aB.nil aaz rfl
  have ovA:nnd H' Ha:=⟨hn1,fun id hi=>hp1 id hi fun g n h=>by cases h⟩
  rw[List.nil_append,F9]at hO1;obtain⟨v2,Hb,hA2,ovB,hO2,hn2,hp2⟩:=iW (k:Int) ovA hO1 (by simp<;>omega);have hcl2:(ints (p.take a++[(k:Int)])).length<=k+1:=by rw[aZ,List.length_append,Xm];simp<;>omega
  have hlb:Hb.na oi og=some (3,ints p):=(ovB.na hoi2).trans lo;obtain⟨v3,Hc,hA3,hO3,hn3,hp3⟩:=ra (P:=prog) (H:=Hb) (t:=72) (n:=Hb.C) (m:=p.length-a) (v:=v2) (x:=.Z oi og a (p.length-a) 1) (src:=(ints p).drop a) Tryz.underlying72 Tryz.dY Tryz.eh
   (by rw[sf,W8 rfl,hlb];simp[W9,aZ]) (by simp[aZ]) (XK.2 fun c hc=>by
    obtain⟨z,_,rfl⟩:=Xx.1 (YJ hc);rfl) (by rw[Tryz.eV];omega) hO2 ovB.C rfl
  have ovC:nnd H' Hc:=oX ovB hO2 hn3 hp3;have hla:Ha.na oi og=some (3,ints p):=(ovA.na hoi2).trans lo;rw[Ga]at hO3;have hO3':aB H1.C Hc 3 v3 (ints (p.take a++(k:Int) :: p.drop a)):=by
   have:ints (p.take a++[(k:Int)])++ints (p.drop a)=ints (p.take a++(k:Int) :: p.drop a):=(by simp[ints]);rw[this]at hO3;exact hO3.nf ov.C aaz fun _ _ _ _ _ _=>rfl
  simp only[go_sem,XH,e1,e3,e4,l2,hb,ho,hbg',hbne,w0,w2,m1,hz,hat,hac,hap,Int.toNat_natCast,lo,hlb,hA1,hA2,hA3];refine⟨by have:=ovC.C;omega,⟨k+1,_,rfl,U,by rw[fC,<- hpe,show mc ord k=a by unfold mc;rw[W8 U,cP hbg,hat];rfl],ov.trans ovC,hO3'⟩,by rw[h4];simp only[aa,aI];omega⟩
 ·have w0:=W6 ((k:Int)+1) U;have pl:p.length=k:=hp.len;obtain⟨v1,Ha,hA1,hO1,hn1,hp1⟩:=ra (P:=prog) (H:=H') (t:=72) (n:=H'.C) (m:=0) (v:=.lit (.slice none 0 0)) (x:=.Z oi og 0 0 1) (src:=(ints p).take 0) Tryz.underlying72 Tryz.dY Tryz.eh
   (by rw[sf,W8 rfl,lo];simp) (by simp[aZ]<;>omega) (XK.2 fun c hc=>by
    obtain⟨z,_,rfl⟩:=Xx.1 (Xz hc);rfl) (by rw[Tryz.eV];simp<;>omega) aB.nil aaz rfl
  have ovA:nnd H' Ha:=⟨hn1,fun id hi=>hp1 id hi fun g n h=>by cases h⟩
  rw[List.nil_append,F9]at hO1;obtain⟨v2,Hb,hA2,ovB,hO2,hn2,hp2⟩:=iW (k:Int) ovA hO1 (by simp<;>omega);have hcl2:(ints (p.take 0++[(k:Int)])).length<=k+1:=by rw[aZ,List.length_append,Xm];simp<;>omega
  have hlb:Hb.na oi og=some (3,ints p):=(ovB.na hoi2).trans lo;obtain⟨v3,Hc,hA3,hO3,hn3,hp3⟩:=ra (P:=prog) (H:=Hb) (t:=72) (n:=Hb.C) (m:=p.length) (v:=v2) (x:=.Z oi og 0 (p.length) 1) (src:=(ints p).drop 0) Tryz.underlying72 Tryz.dY Tryz.eh
   (by rw[sf,W8 rfl,hlb];simp[W9,aZ]) (by simp[aZ]) (XK.2 fun c hc=>by
    obtain⟨z,_,rfl⟩:=Xx.1 (YJ hc);rfl) (by rw[Tryz.eV];omega) hO2 ovB.C rfl
  have ovC:nnd H' Hc:=oX ovB hO2 hn3 hp3;have hla:Ha.na oi og=some (3,ints p):=(ovA.na hoi2).trans lo;rw[Ga]at hO3;have hO3':aB H1.C Hc 3 v3 (ints (p.take 0++(k:Int) :: p.drop 0)):=by
   have:ints (p.take 0++[(k:Int)])++ints (p.drop 0)=ints (p.take 0++(k:Int) :: p.drop 0):=(by simp[ints]);rw[this]at hO3;exact hO3.nf ov.C aaz fun _ _ _ _ _ _=>rfl
  simp only[go_sem,XH,e1,e3,e4,l2,hb,ho,w0,lo,hlb,hA1,hA2,hA3];refine⟨by have:=ovC.C;omega,⟨k+1,_,rfl,U,by rw[fC,<- hpe,show mc ord k=0 by unfold mc;rw[W7 U]],ov.trans ovC,hO3'⟩,by rw[h4];simp only[aa,aI];omega⟩
end Go.Proofs
