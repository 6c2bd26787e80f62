/- Own work: contracts. -/
import Derived.Test.YtjhbjbninamhnaaGreatConA
set_option linter.all false
set_option maxHeartbeats 8000000
set_option maxRecDepth 100000
namespace Go.Proofs
open Go.Hx Tryz
variable {g:Int}{c:List Int}{ns:List Xl}{D k n v:Nat}{p:Prop}{d:Xa}{x:Xl}{H H':Xn}
def zj:W9:=.agg [.lit (.int .i64 0),ah [],ah [],ah [],ah []]
def zk (g:Int)(ns:List Xl):W9:=.agg [.lit (.int .i64 g),dL ns,ah (aj ns),iW (aR ns),ah (bf ((fw (aR ns)).getD []))]
structure XH (g:Int)(ns:List Xl)(H H':Xn)(c:List Int)(s:List Nat):Prop where
 nx:H.A+5<=H'.A
 ov:Xb H H'
 b0:H'.get H.A=some (.J 0 103 [.lit (.int .i64 g),.M ns.length (aE ns)])
 b1:H'.get (H.A+1)=some (.J 0 209 [.lit (.int .i64 0),.lit (.slice none 0 0),.lit (.slice none 0 0),.lit (.slice none 0 0),.lit (.slice none 0 0)])
 b2:H'.get (H.A+2)=some (.J 0 3 (ints c))
 b3:H'.get (H.A+3)=some (.J 0 35 (s.map bJ))
 b4:H'.get (H.A+4)=some (.J 0 209 [.lit (.int .i64 g),.M ns.length (aE ns),.Q (H.A+2) 0 0 ns.length 1,.Q (H.A+3) 0 0 ns.length 1,.lit (.slice none 0 0)])
 cl:c.length=ns.length
 sl:s.length=ns.length
def XH.over {H2:Xn}{s:List Nat}(h:XH g ns H H' c s)(o:Xb H' H2):XH g ns H H2 c s where
 nx:=Tw h.nx o.A
 ov:=h.ov.trans o
 b0:=(o.nl _ (by have:=h.nx;omega)).trans h.b0
 b1:=(o.nl _ (by have:=h.nx;omega)).trans h.b1
 b2:=(o.nl _ (by have:=h.nx;omega)).trans h.b2
 b3:=(o.nl _ (by have:=h.nx;omega)).trans h.b3
 b4:=(o.nl _ (by have:=h.nx;omega)).trans h.b4
 cl:=h.cl
 sl:=h.sl
def XH.Qd {s:List Nat}(h:XH g ns H H' c s)(hk:k<c.length)(x:Int):XH g ns H (H'.upd (H.A+2) (.J 0 3 (setAt (ints c) k [.lit (.int .i64 x)]))) (c.set k x) s where
 nx:=h.nx
 ov:=h.ov.upd O _
 b0:=by rw[ag,SQ O];exact h.b0
 b1:=by rw[ag,SQ O];exact h.b1
 b2:=by rw[ag,SU rfl,gU hk]
 b3:=by rw[ag,SQ O];exact h.b3
 b4:=by rw[ag,SQ O];exact h.b4
 cl:=by simpa using h.cl
 sl:=h.sl
def Qe {l:List Nat}{i:Nat}{x:Nat}(h:i<l.length):setAt (l.map bJ) i [.lit (.int .u64 (x:Int))]=(l.set i x).map bJ:=by
 rw[iw (by simpa using h)];simp[bJ]
def XH.Qf {s:List Nat}(h:XH g ns H H' c s)(hk:k<s.length)(x:Nat):XH g ns H (H'.upd (H.A+3) (.J 0 35 (setAt (s.map bJ) k [.lit (.int .u64 (x:Int))]))) c (s.set k x) where
 nx:=h.nx
 ov:=h.ov.upd O _
 b0:=by rw[ag,SQ O];exact h.b0
 b1:=by rw[ag,SQ O];exact h.b1
 b2:=by rw[ag,SQ O];exact h.b2
 b3:=by rw[ag,SU rfl,Qe hk]
 b4:=by rw[ag,SQ O];exact h.b4
 cl:=h.cl
 sl:=by simpa using h.sl
def XH.l0 {s:List Nat}(h:XH g ns H H' c s):H'.X H.A 0=some (103,[.lit (.int .i64 g),.M ns.length (aE ns)]):=af h.b0
def XH.l1 {s:List Nat}(h:XH g ns H H' c s):H'.X (H.A+1) 0=some (209,[.lit (.int .i64 0),.lit (.slice none 0 0),.lit (.slice none 0 0),.lit (.slice none 0 0),.lit (.slice none 0 0)]):=af h.b1
def XH.l2 {s:List Nat}(h:XH g ns H H' c s):H'.X (H.A+2) 0=some (3,ints c):=af h.b2
def XH.l3 {s:List Nat}(h:XH g ns H H' c s):H'.X (H.A+3) 0=some (35,s.map bJ):=af h.b3
def XH.l4 {s:List Nat}(h:XH g ns H H' c s):H'.X (H.A+4) 0=some (209,[.lit (.int .i64 g),.M ns.length (aE ns),.Q (H.A+2) 0 0 ns.length 1,.Q (H.A+3) 0 0 ns.length 1,.lit (.slice none 0 0)]):=af h.b4
def q8 {S:Nat->Prop}{nx:Nat}(ns:List Xl):Fz S H nx (.M ns.length (aE ns)) (.M ns.length (aE ns)):=by
 refine .M rfl fun i hi _=>?_;have:∀(l:List Xl) (c:W9),c∈aE l->Fz S H nx c c:=by
  intro l c hc;unfold aE at hc;obtain⟨r,hr,hc⟩:=UW.1 hc;obtain⟨x,_,rfl⟩:=S4.1 hr;unfold Xl.cells at hc;simp only[List.mem_cons,List.not_mem_nil,or_false]at hc;rcases hc with rfl|rfl|rfl
  ·exact .lit _
  ·exact .dC _
  ·exact .aO _
 exact this ns _ (TC _)
def Qg (g:Int)(hg:1<=g/\g<=60)(ns:List Xl)(sets:List Nat)(x:Xl)(hin:fR x.F ns.length)(hsm:dR (aV ns x))(hx1:(x.nn.length:Int)<2 ^ 38)(hx2:∀r∈x.nn,(r.length:Int)<2 ^ 38)(H:Xn)(ci si:Nat)
  (h2:H.get ci=some (.J 0 3 (ints (aj ns)))) (h3:H.get si=some (.J 0 35 (sets.map bJ))) (hs:sets.length=ns.length) (K:Xd->Xn->Prop)
  (hK:K (.ret (.lit (.bool (mg g ns x)))) H):ae prog G0 161 [.agg [.lit (.int .i64 g),.M ns.length (aE ns),.Q ci 0 0 ns.length 1,.Q si 0 0 ns.length 1,.lit (.slice none 0 0)],.agg [.lit (.int .i64 x.L),.M x.F.length (ints x.F),aO x.nn]] H K:=by
 refine(ae.frame (H:=H) (args:=[.agg [.lit (.int .i64 g),.M ns.length (aE ns),.Q ci 0 0 ns.length 1,.Q si 0 0 ns.length 1,.lit (.slice none 0 0)],.agg [.lit (.int .i64 x.L),.M x.F.length (ints x.F),aO x.nn]]) (args':=[.agg [.lit (.int .i64 g),dL ns,ah (aj ns),iW sets,.lit (.slice none 0 0)],sW x]) (v':=.lit (.bool (mg g ns x))) aH rfl (fun i hi _=>?_) (Qa g hg ns sets x hin hsm hx1 hx2 dp _ ⟨_,rfl,.lit _⟩)).mono ?_
 ·match i,hi with
  |0,_ =>
   refine .agg rfl fun i hi _=>?_
   match i,hi with
   |0,_=>exact .lit _
   |1,_=>exact q8 _
   |2,_ =>
    have:=Fz.qZ (nx:=0) h2 (n:=ns.length) (by rw[aS,cZ]) (fun c hc=>by
     obtain⟨z,_,rfl⟩:=S4.1 hc;exact⟨_,rfl⟩)
    show Fz _ _ _ _ (.M (aj ns).length (ints (aj ns)));rw[cZ];exact this
   |3,_ =>
    have:=Fz.qZ (nx:=0) h3 (n:=ns.length) (by simp[hs]) (fun c hc=>by
     obtain⟨z,_,rfl⟩:=S4.1 hc;exact⟨_,rfl⟩)
    show Fz _ _ _ _ (.M sets.length (sets.map bJ));rw[hs];exact this
   |4,_=>exact .lit _
  |1,_ =>
   refine .agg rfl fun i hi _=>?_
   match i,hi with
   |0,_=>exact .lit _
   |1,_=>exact .dC _
   |2,_=>exact .aO _
 ·rintro r H' ⟨rfl,rfl⟩;exact hK
def Qh (hx:ns[k]?=some x)(h0:∀q∈x.F,0<=q)(hm:(k:Int)∈x.F):¬kR (aR ns):=fun h=>by
 have hk:=aI (lu hx);have:=h k hk;rw[bq (lu hx)]at this;have h1:=yl (aR ns) (aR ns).length (bV x.F) k (by rw[kP h0];exact Ty hm);unfold kQ at this;rw[h1]at this;cases this
def Qi (g:Int)(ns:List Xl)(hf:vJ ns)(H:Xn)(K:Xd->Xn->Prop)(hK:K (.ret (if pF g ns then .na [zk g ns,aa 0] else .na [zj,aa 50])) H):ae prog G0 147 [dk g ns] H K:=by
 refine ae.Z ⟨_,func147,rfl,rfl⟩ fun hcl=>?_;have no:¬Xq g ns->∀H',Xb H H'->ar prog G0 H K (.na [.agg [.lit (.int .i64 0),.lit (.slice none 0 0),.lit (.slice none 0 0),.lit (.slice none 0 0),.lit (.slice none 0 0)],.lit (.int .i64 50)]) H':=fun h H' ov=>by
  rw[Du h]at hK;refine ar.bE (v':=.na [zj,aa 50]) aH hcl ov (.na rfl fun i hi _=>?_) hK
  match i,hi with
  |0,_ =>
   refine .agg rfl fun i hi _=>?_
   match i,hi with
   |0,_=>exact .lit _
   |1,_=>exact .nil
   |2,_=>exact .nil
   |3,_=>exact .nil
   |4,_=>exact .nil
  |1,_=>exact .lit _
 refine ae.st (n:=140) (rs:=[.cell 2 209,.tmp 3]) func147 ?_;simp only[go_sem,dk,dL];have l1:=af (cV H (.J 0 103 [.lit (.int .i64 g),.M ns.length (aE ns)]) [.J 0 209 [.lit (.int .i64 0),.lit (.slice none 0 0),.lit (.slice none 0 0),.lit (.slice none 0 0),.lit (.slice none 0 0)]]);by_cases c1:g<1
 ·simp only[go_sem,c1];exact no (fun h=>by have:=h.g1;omega) _ (.ext _ _)
 by_cases c2:g > 60
 ·simp only[go_sem,l1,c1,c2];exact no (fun h=>by have:=h.g1;omega) _ (.ext _ _)
 by_cases c3:(ns.length:Int)<1
 ·simp only[go_sem,l1,c1,c2,c3];exact no (fun h=>by have:=h.n1;omega) _ (.ext _ _)
 by_cases c4:(ns.length:Int) > 8
 ·simp only[go_sem,l1,c1,c2,c3,c4];exact no (fun h=>by have:=h.n1;omega) _ (.ext _ _)
 simp only[go_sem,l1,c1,c2,c3,c4];refine W.dr 11 [0,0,2,6,14,0,32,96,224,511,0] mixed ?_;simp only[go_sem,l1]
 repeat (refine And.intro (by first|omega|(simp;done)|(simp;omega)|(intros;omega)|exact⟨rfl,O,O,lK _⟩) ?_)
 obtain⟨Hb,hHb⟩:∃Hb,Hb=ext (ext H [.J 0 103 [.lit (.int .i64 g),.M ns.length (aE ns)],.J 0 209 [.lit (.int .i64 0),.lit (.slice none 0 0),.lit (.slice none 0 0),.lit (.slice none 0 0),.lit (.slice none 0 0)],.J 0 3 (List.replicate ns.length (.lit (.int .i64 0))),.J 0 35 (List.replicate ns.length (.lit (.int .u64 0)))]) [.J 0 209 [.lit (.int .i64 g),.M ns.length (aE ns),.Q (H.A+2) 0 0 ns.length 1,.Q (H.A+3) 0 0 ns.length 1,.lit (.slice none 0 0)]]:=⟨_,rfl⟩
 rw[<- hHb];have R0:XH g ns H Hb (List.replicate ns.length 0) (List.replicate ns.length 0):=by
  rw[hHb,dD];exact⟨by simp[aX],.ext _ _,cV ..,bL H _ 1 W5,by rw[bL H _ 2 W5];simp[ints,aa],by rw[bL H _ 3 W5];simp[bJ],bL H _ 4 W5,W5,W5⟩
 have hcard:∀ {k:Nat},(∀x∈ns.take k,1<=x.L/\x.L<=4)->dR ((aj ns).take k):=fun {k} h=>mU (by simp[aj];omega) fun c hc=>by
  rw[show (aj ns).take k=aj (ns.take k) by simp[aj]]at hc;obtain⟨y,hy,rfl⟩:=S4.1 hc;exact h y hy
 refine W.aP 37778930737057254867176 (by rfl) (fun ρ H'=>∃(k:Nat) (c:List Int),ρ 50=aa k/\k<=ns.length/\ρ 5=aa (aA ((aj ns).take k))/\XH g ns H H' c (List.replicate ns.length 0)/\Hb.A<=H'.A/\c.take k=(aj ns).take k/\∀x∈ns.take k,1<=x.L/\x.L<=4) (fun ρ H=>ns.length-(iv (ρ 50)).toNat) ?_ ?_
 ·simp only[go_sem];exact⟨0,_,rfl,O,by simp[gQ],R0,W5⟩
 rintro ρ H' ⟨k,c,h50,hk,h5,R,hn,hc,hall⟩;refine W.vs ?_;have q0:=R.l0;have q1:=R.l1;have q2:=R.l2;have q4:=R.l4;have rn:=R.nx;by_cases hb:(k:Int)<ns.length
 ·obtain⟨x,hx⟩:=aq (l:=ns) (i:=k) O;have hxm:=an hx;have hne:=eV hx;have e0:=oY hx;have e1:k*3+3<=(aE ns).length:=by rw[kL];omega
  have R2:=R.over (.ext H' [.J 0 73 [.lit (.int .i64 x.L),.M x.F.length (ints x.F),aO x.nn]]);have p1:=R2.l1;have p2:=R2.l2;have p4:=R2.l4;have nb1:¬H.A+1=H'.A:=O
  have nb2:¬H.A+2=H'.A:=O
  have nb4:¬H.A+4=H'.A:=O
  by_cases d1:x.L<1
  ·simp only[go_sem,h50,p1,hb,hne,e0,e1,d1];exact no (fun h=>by have:=(h.node x hxm).1;omega) _ (R2.ov.upd O _)
  by_cases d2:x.L > 4
  ·simp only[go_sem,h50,p1,hb,hne,e0,e1,d1,d2];exact no (fun h=>by have:=(h.node x hxm).1;omega) _ (R2.ov.upd O _)
  have hall':∀y∈ns.take (k+1),1<=y.L/\y.L<=4:=fun y hy=>by
   rw[aU hx]at hy;rcases Tk.1 hy with hy|hy
   ·exact hall y hy
   ·obtain rfl:=List.mem_singleton.1 hy;exact⟨O,O⟩
  have b2:=(hcard hall').prod;rw[aU (cC hx),fZ]at b2;have w1:=SN ((k:Int)+1) O;have w2:=SN (aA ((aj ns).take k)*x.L) O;have hkc:k<c.length:=by rw[R.cl];omega
  have p0:∀b,((ext H' [.J 0 73 [.lit (.int .i64 x.L),.M x.F.length (ints x.F),aO x.nn]]).upd (H.A+2) b).X H'.A 0=some (73,[.lit (.int .i64 x.L),.M x.F.length (ints x.F),aO x.nn]):=fun b=>by
   rw[kx O];exact af da
  simp only[go_sem,h50,h5,p2,p4,p0,hb,hne,e0,e1,d1,d2,w1,w2];exact⟨O,by rw[aF,aX];omega,⟨k+1,_,W5,O,by rw[aU (cC hx),fZ],R2.Qd hkc x.L,by rw[aF,aX];omega,Ei hc hkc (cC hx),fun y hy=>hall' y hy⟩,O⟩
 have ek:k=ns.length:=O
 subst ek;rw[SR W8]at hall;rw[SR (by rw[cZ];omega)]at h5;have ec:c=aj ns:=by
  rw[SR (by rw[R.cl];omega),SR (by rw[cZ];omega)]at hc;exact hc
 subst ec;by_cases c5:aA (aj ns) > 1024
 ·simp only[go_sem,h50,h5,q1,hb,c5];exact no (fun h=>by have:=h.size;omega) _ (R.ov.upd O _)
 simp only[go_sem,h50,h5,q4,hb,c5];refine W.aP 340282366920933627760096148915069392648 (by rfl) (fun ρ' H2=>∃(k:Nat) (s:List Nat),ρ' 82=aa k/\k<=ns.length/\XH g ns H H2 (aj ns) s/\H'.A<=H2.A/\s.take k=(aR ns).take k/\(∀j,k<=j->s.getD j 0=0)/\∀x∈ns.take k,cw x.F ns.length/\gI g ns x) (fun ρ' H=>ns.length-(iv (ρ' 82)).toNat) ?_ ?_
 ·simp only[go_sem];refine⟨0,_,rfl,O,R,rfl,fun j _=>?_,W5⟩;rw[SV,TH];split<;>rfl
 rintro ρ' H2 ⟨k,s,h82,hk2,R2,hn2,hs,hs0,hall2⟩;refine W.vs ?_;have r2:=R2.nx;have q4:=R2.l4;by_cases hb2:(k:Int)<ns.length;rotate_left
 ·have es:s=aR ns:=by
   rw[SR (by rw[R2.sl];omega),SR (by simp[aR];omega)]at hs;exact hs
  subst es;rw[SR O]at hall2;have hlt:∀p∈aR ns,p<2 ^ ns.length:=qY fun x hx q hq=>(hall2 x hx).1.2 q hq;have hsl:(aR ns).length=ns.length:=by simp[aR]
  have hlt64:∀p∈aR ns,p<2 ^ 64:=fun p hp=>SZ (hlt p hp) (Ti W6 O);have hto:=uQ (ps:=aR ns) (by rw[hsl];exact hlt) O;simp only[go_sem,h82,q4,hb2];have fzs:=Fz.qZ (nx:=0) R2.b3 (n:=ns.length) (by simp[R2.sl]) (fun c hc=>by
   obtain⟨z,_,rfl⟩:=S4.1 hc;exact⟨_,rfl⟩)
  refine az.Z (Qc (aR ns) O hlt64 _ _ (by show Fz _ _ _ _ (.M (aR ns).length _);rw[hsl];exact fzs) _ ⟨trivial,?_⟩);have q1:=R2.l1;cases hso:(fw (aR ns)).isSome
  ·simp only[go_sem,q1];exact no (fun h=>by rw[hto.2 h.nH]at hso;cases hso) _ (R2.ov.upd O _)
  have hok:Xq g ns:=⟨O,O,fun x hx=>⟨hall x hx,(hall2 x hx).1⟩,O,hto.1 hso,fun x hx=>(hall2 x hx).2⟩
  rw[Ds hok]at hK;have q1b:∀b,(H2.upd (H.A+4) b).X (H.A+1) 0=_:=fun b=>(kx O).trans q1;simp only[go_sem,q1b,q4];have ovf:Xb H ((H2.upd (H.A+4) (.J 0 209 [.lit (.int .i64 g),.M ns.length (aE ns),.Q (H.A+2) 0 0 ns.length 1,.Q (H.A+3) 0 0 ns.length 1,.M (bf ((fw (aR ns)).getD [])).length (ints (bf ((fw (aR ns)).getD [])))])).upd (H.A+1) (.J 0 209 [.lit (.int .i64 g),.M ns.length (aE ns),.Q (H.A+2) 0 0 ns.length 1,.Q (H.A+3) 0 0 ns.length 1,.M (bf ((fw (aR ns)).getD [])).length (ints (bf ((fw (aR ns)).getD [])))])):=(R2.ov.upd O _).upd O _;refine ar.bE (v':=.na [zk g ns,aa 0]) aH hcl ovf (.na rfl fun i hi _=>?_) hK
  match i,hi with
  |1,_=>exact .lit _
  |0,_ =>
   refine .agg rfl fun i hi _=>?_
   match i,hi with
   |0,_=>exact .lit _
   |1,_=>exact q8 _
   |2,_ =>
    have hg2:∀b b',((H2.upd (H.A+4) b).upd (H.A+1) b').get (H.A+2)=some (.J 0 3 (ints (aj ns))):=fun b b'=>by rw[ag,SQ O,ag,SQ O];exact R2.b2
    show Fz _ _ _ (.Q (H.A+2) 0 0 ns.length 1) (.M (aj ns).length (ints (aj ns)));rw[<- cZ ns];exact .ints (by show H.A<=_;omega) (hg2 _ _) W5 fun i hi=>by simp[eG,hi]
   |3,_ =>
    have hg3:∀b b',((H2.upd (H.A+4) b).upd (H.A+1) b').get (H.A+3)=some (.J 0 35 ((aR ns).map bJ)):=fun b b'=>by rw[ag,SQ O,ag,SQ O];exact R2.b3
    show Fz _ _ _ (.Q (H.A+3) 0 0 ns.length 1) (.M (aR ns).length ((aR ns).map bJ));rw[<- hsl];refine .ny (by show H.A<=_;omega) (hg3 _ _) W5 fun j hj h2 h'=>?_;simp only[Nat.zero_add,S9];exact .lit _
   |4,_=>exact .dC _
 obtain⟨x,hx⟩:=aq (l:=ns) (i:=k) O;have hxm:=an hx;have hne:=eV hx;have e0:=oY hx;have e1:k*3+3<=(aE ns).length:=by rw[kL];omega
 obtain⟨f1,f2,f3⟩:=hf.2 x hxm;simp only[go_sem,h82,hb2,hne,e0,e1];obtain⟨H3,hH3⟩:∃H3,H3=ext H2 [.J 0 73 [.lit (.int .i64 x.L),.M x.F.length (ints x.F),aO x.nn]]:=⟨_,rfl⟩
 have R3:XH g ns H H3 (aj ns) s:=by rw[hH3];exact R2.over (.ext _ _)
 have nn:H3.A=H2.A+1:=hH3▸rfl
 have gN:=dv hH3
 rw[<- hH3];have hks:k<s.length:=by rw[R2.sl];omega
 have s0:s.set k 0=s:=by
  apply Ts;intro i;rw[Ug];split
  ·rename_i h;subst h;have:=hs0 k W8;rw[SV,SP hks]at this;simp only[Option.getD_some]at this;rw[SP hks,this]
  ·rfl
 refine W.aP 5316911981901723452329847966222259208 (by rfl) (fun ρ2 H4=>∃(j:Nat) (b:Int),ρ2 90=aa j/\j<=x.F.length/\ρ2 10=aa b/\cw (x.F.take j) ns.length/\(x.F.take j).getLast?.getD (-1)=b/\XH g ns H H4 (aj ns) (s.set k (bV (x.F.take j)))/\H3.A<=H4.A/\H4.get H2.A=some (.J 0 73 [.lit (.int .i64 x.L),.M x.F.length (ints x.F),aO x.nn])/\¬(k:Int)∈x.F.take j)
  (fun ρ2 H=>x.F.length-(iv (ρ2 90)).toNat) ?_ ?_
 ·simp only[go_sem];exact⟨0,-1,rfl,O,rfl,.nil,rfl,by rw[show bV (x.F.take 0)=0 from rfl,s0];exact R3,gN,W5⟩
 rintro ρ2 H4 ⟨j,b,h90,hj,h10,hp,hbl,R4,hn4,gN4,hself⟩;refine W.vs ?_;have r4:=R4.nx;have t1:=R4.l1;have t3:=R4.l3;have t4:=R4.l4;have tN:=af gN4;by_cases hb3:(j:Int)<x.F.length
 ·obtain⟨a,ha⟩:=aq (l:=x.F) (i:=j) O;have ham:=an ha;have hane:=aM ha;by_cases d1:a<=b
  ·simp only[go_sem,h90,h10,hb3,ha,hane,d1,t1];refine no (fun h=>?_) _ (R4.ov.upd O _);have hpl:=(h.node x hxm).2;have h0:=hpl.2 a ham;rcases T7 j with rfl|hk0
   ·simp at hbl;omega
   ·obtain⟨i,rfl⟩:∃i,j=i+1:=⟨j-1,O⟩
    obtain⟨b',hbj⟩:=aq (l:=x.F) (i:=i) O;rw[vG hbj]at hbl;have:=hpl.lt hbj ha O;simp at hbl;omega
  by_cases d2:a >= ns.length
  ·simp only[go_sem,h90,h10,hb3,ha,hane,d1,d2,t1,t4];exact no (fun h=>by have:=(h.node x hxm).2.2 a ham;omega) _ (R4.ov.upd O _)
  have h0:0<=a:=by
   rcases hg:(x.F.take j).getLast? with _|b'
   ·rw[hg]at hbl;simp at hbl;omega
   ·rw[hg]at hbl;have:=hp.2 b' (WM hg);simp at hbl;omega
  by_cases d3:a=k
  ·have d1':¬(k:Int)<=b:=O;have d2':¬(k:Int) >= ns.length:=O;simp only[go_sem,h90,h10,hb3,ha,hane,d1',d2',d3,t1,t4];exact no (fun h=>Qh hx (fun q hq=>((h.node x hxm).2.2 q hq).1) (by rw[<- d3];exact ham) h.nH) _ (R4.ov.upd (id:=H.A+1) O _)
  obtain⟨u,rfl⟩:=S5 h0;have w1:=SN ((j:Int)+1) O;have bm:bV (x.F.take j)<2 ^ 64:=nV fun p hp'=>by have:=hp.2 p hp';omega
  have v1:=fun t x y=>ni (P:=prog) (t:=t) (x:=x) (y:=y) (k':=.i64) (s:=u) O;have v2:=fun t x y=>kv (P:=prog) (t:=t) (x:=x) (y:=y) (b:=2 ^ u) bm (Ui W6 O);have gs:(s.set k (bV (x.F.take j)))[k]?=some (bV (x.F.take j)):=Te hks;simp only[go_sem,h90,h10,hb3,ha,hane,d1,d2,d3,t4];refine W.dr 7 [0,1,0,7,15,0,32] mixed ?_;simp only[go_sem,h90,hb2,t3,t4,gs,v1,v2,w1]
  repeat (refine And.intro (by first|omega|(simp;done)|(simp;omega)|(intros;omega)|exact⟨rfl,O,O,lK _⟩) ?_)
  have R5:=R4.Qf (k:=k) (by simpa using hks) (bV (x.F.take j) |||2 ^ u);rw[VW]at R5;have esn:bV (x.F.take (j+1))=bV (x.F.take j) |||2 ^ u:=by rw[aU ha,uN];rfl
  refine⟨by rw[aF];omega,⟨j+1,u,W5,O,rfl,?_,by rw[vG ha];rfl,by rw[esn];exact R5,by rw[aF];omega,by rw[ag,SQ O];exact gN4,fun hm=>?_⟩,O⟩
  ·rw[aU ha];exact hp.snoc ⟨O,O⟩ fun b' hb'=>by rw[hb']at hbl;simp at hbl;omega
  ·rw[aU ha]at hm;rcases Tk.1 hm with hm|hm
   ·exact hself hm
   ·exact d3 (List.mem_singleton.1 hm).symm
 ·have hb3':=hb3;rw[SR O]at hp hself R4;simp only[go_sem,h90,hb3,t4,tN];have hin:fR x.F ns.length:=fun q hq=>by have:=hp.2 q hq;omega
  refine az.Z (Qg g ⟨O,O⟩ ns _ x hin (mf O hp hall) f2 f3 _ (H.A+2) (H.A+3) R4.b2 R4.b3 R4.sl _ ⟨trivial,?_⟩);cases hnb:mg g ns x
  ·simp only[go_sem,t1];exact no (fun h=>by rw[Dx (h.nn x hxm)]at hnb;cases hnb) _ (R4.ov.upd O _)
  have w1:=SN ((k:Int)+1) O;simp only[go_sem,h82,w1];refine⟨O,⟨k+1,_,W5,O,R4,O,?_,fun i hi=>?_,fun y hy=>?_⟩,O⟩
  ·have h1:=lu hx;rw[aU h1,aU (Te hks),VE (Nat.le_refl k),hs]
  ·rw[SV,To O,<- SV];exact hs0 i (O)
  ·rw[aU hx]at hy;rcases Tk.1 hy with hy|hy
   ·exact hall2 y hy
   ·obtain rfl:=List.mem_singleton.1 hy;exact⟨hp,P9.1 hnb⟩
def Qj (g:Int)(ns:List Xl)(hf:vJ ns)(H:Xn)(K:Xd->Xn->Prop)(hK:K (.ret (aa (if pF g ns then 0 else 50))) H):ae prog G0 128 [dk g ns] H K:=by
 refine ae.Z ⟨_,func128,rfl,rfl⟩ fun hcl=>?_;refine ae.st (n:=11) (rs:=[.tmp 2]) func128 ?_;simp only[go_sem,dk,dL];refine az.Z (Qi g ns hf _ _ ⟨trivial,?_⟩);cases hb:pF g ns
 ·rw[hb]at hK;simp only[go_sem,zj,List.length_nil];exact ar.bE aH hcl (.ext _ _) (.lit _) hK
 ·rw[hb]at hK;simp only[go_sem,zk,dL];exact ar.bE aH hcl (.ext _ _) (.lit _) hK
def eY (D v:Nat):List Nat := (List.range v).filter fun v => D.testBit v
def bd (D v:Nat):Nat := (eY D v).length
def aK (d:Xa):List Nat := eY d.U d.C.length
def yn (D v:Nat):eY D (v + 1)=if D.testBit v then eY D v ++ [v] else eY D v := by
  unfold eY;rw[TP,List.filter_append];cases h:D.testBit v <;> simp[h]
def Nz :∀ {n:Nat},v <= n -> ∃r,eY D n=eY D v ++ r := by
  intro n
  induction n with
  | zero => intro h; obtain rfl : v = 0 := by omega
            exact⟨[],W5⟩
  |succ n ih =>
    intro h;by_cases hv:v=n + 1
    · subst hv;exact⟨[],W5⟩
    · obtain⟨r,hr⟩ := ih O;rw[yn];split
      · exact⟨r ++ [n],by rw[hr,List.append_assoc]⟩
      · exact⟨r,hr⟩
def nX (hv:v < n)(hb:D.testBit v=true):(eY D n)[bd D v]? = some v := by
  obtain⟨r,hr⟩ := Nz (D := D) (v := v + 1) (n := n) hv;rw[hr,yn,SU hb,List.append_assoc];unfold bd;simp
def pe (D v:Nat):bd D (v + 1)=if D.testBit v then bd D v + 1 else bd D v := by
  unfold bd;rw[yn];split <;> simp
def gS :v ∈ eY D n ↔ v < n /\ D.testBit v=true := by unfold eY;simp
def nY (h:(eY D n)[k]? = some v):v < n /\ D.testBit v=true /\ bd D v=k := by
  have hm := gS.1 (an h);refine⟨hm.1,hm.2,?_⟩;have h2 := nX hm.1 hm.2;have hnd:(eY D n).Nodup := Uy.filter _;have a := aI h;have b := aI h2;rw[SP a]at h;rw[SP b]at h2;have e:(eY D n)[bd D v]=(eY D n)[k] := by rw[Option.some.inj h,Option.some.inj h2]
  exact(List.getElem_inj hnd).1 e
def nZ :(eY D n).length <= n := by
  have := WE (fun v => D.testBit v) (List.range n);unfold eY;simpa using this
def dM (g L x:Int):List Int := (List.replicate L.toNat 0).set x.toNat g
def bM (ns:List Xl)(x:Xl):Nat := (aA (aV ns x)).toNat
def ee (g:Int)(ns:List Xl)(c:Nat -> Nat -> Int)(p:Nat)(x:Xl):List (List Int) := (List.range (bM ns x)).map fun r => dM g x.L (c p r)
def gC (d:Xa)(c:Nat -> Nat -> Int)(k v:Nat)(x:Xl):Xl := if d.U.testBit v=true /\ bd d.U v < k then { x with nn := x.nn ++ ee d.Y d.C c (bd d.U v) x } else x
def dO (d:Xa)(c:Nat -> Nat -> Int)(k:Nat):List Xl := d.C.zipIdx.map fun p => gC d c k p.2 p.1
def cz (d:Xa)(c:Nat -> Nat -> Int):List Xl := dO d c (aK d).length
def kS (d:Xa)(c:Nat -> Nat -> Int)(k:Nat):(dO d c k).length=d.C.length := by simp[dO]
def oa {c:Nat -> Nat -> Int}(h:d.C[v]? = some x):(dO d c k)[v]? = some (gC d c k v x) := by
  unfold dO;rw[List.getElem?_map,Vf,h];simp
def NA (d:Xa)(c:Nat -> Nat -> Int):dO d c 0=d.C := by
  apply Ts;intro v;cases h:d.C[v]? with
  |none => rw[SX];rw[kS];exact Vg.1 h
  |some x => rw[oa h];simp[gC]
def NB {c:Nat -> Nat -> Int}(hd:(aK d)[k]? = some v)(hx:d.C[v]? = some x):dO d c (k + 1)=(dO d c k).set v { x with nn := x.nn ++ ee d.Y d.C c k x } := by
  obtain⟨h1,h2,h3⟩ := nY hd;apply Ts;intro u;rw[Ug];split
  · rename_i h;subst h;rw[oa hx,SU (by rw[kS];exact h1)];unfold gC;rw[SU ⟨h2,O⟩,h3]
  · rename_i h;cases hu:d.C[u]? with
    |none => rw[SX (by rw[kS];exact Vg.1 hu),SX (by rw[kS];exact Vg.1 hu)]
    |some y =>
      rw[oa hu,oa hu];unfold gC;by_cases hb:d.U.testBit u=true
      · have : bd d.U u ≠ k := fun e => by
          have h4 := nX (aI hu) hb;rw[e]at h4;have h5:(eY d.U d.C.length)[k]? = some v := hd;rw[h4]at h5;exact h (Option.some.inj h5).symm
        have e:(bd d.U u < k + 1)=(bd d.U u < k) :=(by apply propext;omega);simp only[e]
      · simp[hb]
def NC {c:Nat -> Nat -> Int}:aj (dO d c k)=aj d.C := by
  apply Ts;intro v;unfold aj;rw[List.getElem?_map,List.getElem?_map];cases h:d.C[v]? with
  |none => rw[SX (by rw[kS];exact Vg.1 h)]
  |some x =>
    rw[oa h];simp only[Option.map_some,gC];split <;> rfl
def jx (d:Xa)(c:Nat -> Nat -> Int)(k v:Nat)(x:Xl):(gC d c k v x).L=x.L /\ (gC d c k v x).F=x.F := by unfold gC;split <;> exact⟨rfl,rfl⟩
def cu (d:Xa):List W9:=[.lit (.int .i64 d.Y),.M d.C.length (aE d.C),.lit (.int .u64 (d.U:Int)),.M d.V.length (aZ d.V)]
def iI (d:Xa):eC d=.agg (cu d):=rfl
def kg (d:Xa):Xe:=.J 0 38 (cu d)
def mT (d:Xa):List (List W9):=(aK d).zipIdx.map fun p=>[aa p.2,aa p.1]
def sH {x:List W9}(h:(mT d)[k]?=some x):∃v,(aK d)[k]?=some v/\x=[aa k,aa v]:=by
 unfold mT at h;rw[List.getElem?_map,Vf]at h;cases hr:(aK d)[k]? with
 |none=>rw[hr]at h;simp at h
 |some r=>rw[hr]at h;simp at h;exact⟨r,rfl,h.symm⟩
def Ps (h:(aK d)[k]?=some v):(mT d)[k]?=some [aa k,aa v]:=by
 unfold mT;rw[List.getElem?_map,Vf,h];simp
def sI (d:Xa):(mT d).length=(aK d).length:=by simp[mT]
def vA :∀x∈mT d,x.length=2:=fun x hx=>by
 obtain⟨k,hk⟩:=SY.1 hx;obtain⟨v,_,rfl⟩:=sH hk;rfl
def vB (d:Xa)(hl:(d.C.length:Int)<2 ^ 40)(hD:d.U<2 ^ 64)(b:Nat):wA prog G0 131 [] [.R b 0 0] (mT d) (fun H=>H.get b=some (kg d)):=by
 intro idy J Stop H K hS hJ0 hY hK hSt;have l0:=af (hS 0 H hJ0);show ae _ _ _ ([.ni idy]++[.R b 0 0]) _ _;refine ae.st (n:=25) (rs:=[]) func131 ?_;simp only[go_sem,l0,cu];refine W.aP 33554200 (by rfl) (fun ρ H'=>∃v:Nat,ρ 8=aa v/\v<=d.C.length/\ρ 3=aa (bd d.U v)/\J (bd d.U v) H'/\H.A<=H'.A) (fun ρ H=>d.C.length-(iv (ρ 8)).toNat) ?_ ?_
 ·simp only[go_sem];exact⟨0,rfl,O,rfl,hJ0⟩
 rintro ρ H' ⟨v,h8,hv,h3,hj,hn⟩;refine W.vs ?_;by_cases hb:(v:Int)<d.C.length
 ·have l1:=af (hS _ _ hj);have s1:=fun t x y=>mi (P:=prog) (t:=t) (x:=x) (y:=y) (k':=.i64) (s:=v) hD;have s2:=fun t x y=>nj (P:=prog) (t:=t) (x:=x) (y:=y) (s:=v) hD;have w1:=SN ((v:Int)+1) O;have hp:bd d.U v<=v:=by
   have:(eY d.U v).length<=v:=nZ;exact this
  have w2:=SN ((bd d.U v:Int)+1) O;cases hbit:d.U.testBit v
  ·simp only[go_sem,h8,h3,hb,l1,cu,s1,s2,hbit,w1];exact⟨hn,⟨v+1,W5,O,by rw[pe,hbit];rfl,by rw[pe,hbit];exact hj,hn⟩,O⟩
  ·have hdx:(mT d)[bd d.U v]?=some [aa (bd d.U v),aa v]:=Ps (nX O hbit);simp only[go_sem,h8,h3,hb,l1,cu,s1,s2,hbit];refine hY _ _ H' _ hdx hj hn (fun H2 hj2 hn2=>⟨trivial,?_⟩) (fun H2 hs2 hn2=>⟨trivial,?_⟩)
   ·simp only[go_sem,h8,h3,w1,w2];exact⟨O,⟨v+1,W5,O,by rw[pe,hbit];simp,by rw[pe,hbit];exact hj2,O⟩,O⟩
   ·simp only[go_sem];exact ar.mk O (hSt H2 hs2 O)
 ·simp only[go_sem,h8,hb];have ek:v=d.C.length:=O
  subst ek;exact ar.mk O (hK H' (by rw[sI];exact hj) hn)
def vC (d:Xa)(H:Xn)(K:Xd->Xn->Prop)(hK:K (.ret (.Z 131 [] [.R H.A 0 0])) (ext H [kg d])):
  ae prog G0 96 [eC d] H K:=by
 refine ae.st (n:=4) (rs:=[.tmp 2]) func96 ?_;simp only[go_sem,iI,cu];exact ar.mk (by simp[aX]) hK
def Pt {L x:Int}(hc:0<=L)(h:0<=x/\x<L):setAt (ints (List.replicate L.toNat 0)) x.toNat [.lit (.int .i64 g)]=ints (dM g L x):=by
 rw[gU (by simp;omega)];rfl
def Pu (g L x:Int)(hc:L<=2 ^ 40)(h:0<=x/\x<L)(H:Xn)(K:Xd->Xn->Prop)(hK:K (.ret (ah (dM g L x))) H):ae prog G0 144 [aa g,aa L,aa x] H K:=by
 refine ae.Z ⟨_,func144,rfl,rfl⟩ fun hcl=>?_;obtain⟨n,rfl⟩:=S5 (show 0<=L by omega);obtain⟨k,rfl⟩:=S5 h.1;have h0:((n:Int)) >= 0:=O
 have hk:(k:Int)<n:=h.2;have hk2:k+1<=n:=O
 refine ae.st (n:=15) (rs:=[.tmp 6]) func144 ?_;simp only[go_sem,hk]
 repeat (refine And.intro (by first|omega|(simp;done)|(simp;omega)|(intros;omega)|exact⟨rfl,O,O,lK _⟩) ?_)
 have e:=Pt (g:=g) (L:=n) (x:=k) O h;simp only[Int.toNat_natCast]at e;rw[show (List.replicate n (W9.lit (Value.int IntKind.i64 0)))=ints (List.replicate n 0) by simp[ints,aa],e];refine ar.bE aH hcl (.ext _ _) ?_ hK;exact .ints W8 (cV ..) (by simp[dM]) fun i hi=>by simp[eG,hi]
def Pv (a b:W9)(H:Xn)(K:Xd->Xn->Prop)(hK:K (.ret (aa 0)) H):ae prog G0 129 [a,b] H K:=by
 refine ae.st (n:=5) (rs:=[.tmp 4]) func129 ?_;simp only[go_sem];exact ar.mk W8 hK
noncomputable def lh (p:Prop):Bool:=@decide p (Classical.propDecidable p)
def eI (h:p):lh p=true:=@decide_eq_true _ (Classical.propDecidable _) h
def jI (h:¬p):lh p=false:=@decide_eq_false _ (Classical.propDecidable _) h
def sJ :lh p=true↔p:=@decide_eq_true_iff _ (Classical.propDecidable _)
structure XA (d:Xa):Prop where
 n1:1<=d.C.length/\d.C.length<=8
 U:d.U >>> d.C.length=0
 L:∀x∈d.C,1<=x.L/\x.L<=4
 dec:∀v x,d.C[v]?=some x->d.U.testBit v=true->x.nn=[]/\cw x.F d.C.length
structure Xv (d:Xa):Prop where
 C:vJ d.C
 U:d.U<2 ^ 64
 V:(d.V.length:Int)<2 ^ 38/\∀u∈d.V,(u.vars.length:Int)<2 ^ 38/\(u.w.length:Int)<2 ^ 38
def Pw (d:Xa)(hf:Xv d)(H:Xn)(K:Xd->Xn->Prop)(hK:K (.ret (.lit (.bool (lh (XA d))))) H):ae prog G0 127 [eC d] H K:=by
 refine ae.Z ⟨_,func127,rfl,rfl⟩ fun hcl=>?_;have hl:=hf.C.1;have no:¬XA d->∀H',Xb H H'->ar prog G0 H K (.lit (.bool false)) H':=fun h H' ov=>ar.bE aH hcl ov (.lit _) (by rw[jI h]at hK;exact hK);refine ae.st (n:=67) (rs:=[.cell 2 4]) func127 ?_;simp only[go_sem,iI,cu];obtain⟨H1,hH1⟩:∃H1,H1=ext H [.J 0 38 (cu d),.J 0 4 [.lit (.bool false)]]:=⟨_,rfl⟩
 have g1:=dv hH1
 have g2:=gE hH1 1 rfl
 have l1:=af g1;have l2:=af g2;have n1:H1.A=H.A+2:=hH1▸rfl
 have o1:Xb H H1:=hH1▸.ext _ _
 unfold cu at hH1 l1;rw[<- hH1];have s1:=fun t x y=>mi (P:=prog) (t:=t) (x:=x) (y:=y) (k':=.i64) (s:=d.C.length) hf.U;by_cases c1:(d.C.length:Int)<1
 ·simp only[go_sem,l2,c1];exact no (fun h=>by have:=h.n1;omega) _ (o1.upd O _)
 by_cases c2:(d.C.length:Int) > 8
 ·simp only[go_sem,l1,l2,c1,c2];exact no (fun h=>by have:=h.n1;omega) _ (o1.upd O _)
 by_cases c3:d.U >>> d.C.length=0;rotate_left
 ·have c3':¬((d.U >>> d.C.length:Nat):Int)=0:=O
  simp only[go_sem,l1,l2,c1,c2,c3',s1];exact no (fun h=>c3 h.U) _ (o1.upd O _)
 have c3':((d.U >>> d.C.length:Nat):Int)=0:=O
 simp only[go_sem,l1,c1,c2,c3',s1];refine W.aP 4397509640208 (by rfl) (fun ρ H'=>∃k:Nat,ρ 29=aa k/\k<=d.C.length/\Xb H1 H'/\∀x∈d.C.take k,1<=x.L/\x.L<=4) (fun ρ H=>d.C.length-(iv (ρ 29)).toNat) ?_ ?_
 ·simp only[go_sem];exact⟨0,rfl,O,.refl _,W5⟩
 rintro ρ H' ⟨k,h29,hk,ov,hall⟩;refine W.vs ?_;have ovn:=ov.A;have m1:=(ov.X (g:=0) (by omega:H.A<H1.A)).trans l1;have m2:=(ov.X (g:=0) (by omega:H.A+1<H1.A)).trans l2;by_cases hb:(k:Int)<d.C.length
 ·obtain⟨x,hx⟩:=aq (l:=d.C) (i:=k) O;have hxm:=an hx;have hne:=eV hx;have e0:=oY hx;have e1:k*3+3<=(aE d.C).length:=by rw[kL];omega
  have nb:¬H.A+1=H'.A:=O
  have m3:∀L,(ext H' L).X (H.A+1) 0=_:=fun L=>(c9 O).trans m2;by_cases d1:x.L<1
  ·simp only[go_sem,h29,m3,hb,hne,e0,e1,d1];exact no (fun h=>by have:=h.L x hxm;omega) _ (((o1.trans ov).trans (.ext _ _)).upd O _)
  by_cases d2:x.L > 4
  ·simp only[go_sem,h29,m3,hb,hne,e0,e1,d1,d2];exact no (fun h=>by have:=h.L x hxm;omega) _ (((o1.trans ov).trans (.ext _ _)).upd O _)
  have w1:=SN ((k:Int)+1) O;simp only[go_sem,h29,hb,hne,e0,e1,d1,d2,w1];exact⟨O,⟨k+1,W5,O,ov.trans (.ext _ _),fun y hy=>by
   rw[aU hx]at hy;rcases Tk.1 hy with hy|hy
   ·exact hall y hy
   ·obtain rfl:=List.mem_singleton.1 hy;exact⟨O,O⟩⟩,O⟩
 rw[SR O]at hall;simp only[go_sem,h29,hb,m1];refine az.Z (vC d _ _ ⟨trivial,?_⟩);simp only[go_sem];obtain⟨H2,hH2⟩:∃H2,H2=ext H' [kg d]:=⟨_,rfl⟩
 rw[<- hH2];have o2:Xb H' H2:=by rw[hH2];exact .ext _ _
 have n2:H2.A=H'.A+1:=by rw[hH2];rfl
 have hbx:H2.get H'.A=some (kg d):=by rw[hH2];exact da
 refine W.env fun E hE=>?_;have e1:E 1=.R H.A 0 0:=by rw[hE];simp only[go_sem]
 have e2:E 2=.R (H.A+1) 0 0:=by rw[hE];simp only[go_sem]
 have i1:=(o2.X (g:=0) (by omega:H.A<H'.A)).trans m1;have i2:=(o2.nl _ (by omega:H.A+1<H'.A)).trans ((ov.nl _ O).trans g2);have o02:=(o1.trans ov).trans o2;refine W.pK (f:=131) (first:=[]) (cap:=[.R H'.A 0 0]) (by show E 43=_;rw[hE];rfl) (vB d O hf.U H'.A)
  (fun k Hx=>Xb H2 Hx/\∀v x,v∈(aK d).take k->d.C[v]?=some x->x.nn=[]/\cw x.F d.C.length) (fun c Hx=>c=.ret/\Xb H Hx/\H2.A<=Hx.A/\Hx.get (H.A+1)=some (.J 0 4 [.lit (.bool false)])/\¬XA d)
  (fun k Hx h=>by rw[h.1.nl _ O];exact hbx) (fun k Hx b h=>⟨h.1.upd W8 b,h.2⟩) (fun c Hx b h=>⟨h.1,h.2.1.upd O b,h.2.2.1,by rw[ag,SQ O];exact h.2.2.2.1,h.2.2.2.2⟩)
  (fun b=>⟨.ext _ _,W5⟩) W6 vA (fun _ _ _=>trivial) (fun _ _ _=>trivial) (fun k y Hx B Bb hy hj hn hB hBb=>?_) (fun Hx hj hn=>?_) (fun Hx hs hn=>?_) (fun i Hx hs hn=>by cases hs.1)
 ·obtain⟨v,hv,rfl⟩:=sH hy;obtain⟨v1,v2,v3⟩:=nY hv;obtain⟨x,hx⟩:=aq (l:=d.C) (i:=v) v1;refine W.vs ?_;simp only[go_sem,ic,cG,jn,TF,Ur,TV,T1,hB];obtain⟨H3,hH3⟩:∃H3,H3=Hx.upd H2.A Bb:=⟨_,rfl⟩
  rw[<- hH3];obtain⟨st,pd,n',en,ps',as',bo,hBe⟩:=hBb;have o3:Xb H2 H3:=by rw[hH3];exact hj.1.upd W8 Bb
  have o4:Xb H H3:=o02.trans o3;have n3:H3.A=Hx.A:=by rw[hH3];rfl
  have j1:=(o3.X (g:=0) (by omega:H.A<H2.A)).trans i1;have j2:=af ((o3.nl _ (by omega:H.A+1<H2.A)).trans i2);have jB:H3.get H2.A=some Bb:=by rw[hH3,ag,SU rfl]
  have hxm:=an hx;obtain⟨f1,f2,f3⟩:=hf.C.2 x hxm;have hne:=eV hx;have e1':=mB hx;have e2':=BH hx;have hvn:(v:Int)<d.C.length:=O
  have stop:¬XA d->(H3.upd (H.A+1) (Xe.J 0 4 [.lit (.bool false)])).get H2.A=some Bb/\Hx.A<=(H3.upd (H.A+1) (Xe.J 0 4 [.lit (.bool false)])).A/\Xb H (H3.upd (H.A+1) (Xe.J 0 4 [.lit (.bool false)])) /\
    H2.A<=(H3.upd (H.A+1) (Xe.J 0 4 [.lit (.bool false)])).A/\(H3.upd (H.A+1) (Xe.J 0 4 [.lit (.bool false)])).get (H.A+1)=some (.J 0 4 [.lit (.bool false)])/\¬XA d:=fun h =>
   ⟨by rw[ag,SQ O];exact jB,by rw[aF];omega,o4.upd O _,by rw[aF];omega,by rw[ag,SU rfl],h⟩
  refine W.vs ?_;simp only[go_sem];refine W.dr 18 [0,1,0,7,15,31,63,127,255,511,1023,511,4095,8191,16383,511,33279,98815] mixed ?_;by_cases c4:(x.nn.length:Int) > 0
  ·simp only[go_sem,cG,e1,e2,j1,j2,hvn,hne,e2',c4,aO,eM];exact stop fun h=>by have:=(h.dec v x hx v2).1;rw[this]at c4;simp at c4
  simp only[go_sem,cG,e1,j1,hvn,hne,e1',e2',c4,aO];refine az.Z (Dq x.F d.C.length O _ _ ⟨⟨_,_,_,_,_,_,_,by rw[jB,hBe]⟩,?_⟩);by_cases c5:cw x.F d.C.length;rotate_left
  ·simp only[go_sem,cG,e2,j2,c5,eM];exact stop fun h=>c5 (h.dec v x hx v2).2
  simp only[go_sem,cG,c5,eM];refine⟨jB,O,o3,fun u y hu hy2=>?_⟩;rw[aU hv]at hu;rcases Tk.1 hu with hu|hu
  ·exact hj.2 u y hu hy2
  ·obtain rfl:=List.mem_singleton.1 hu;rw[hx]at hy2;cases hy2;exact⟨S3 O,c5⟩
 ·have hok:XA d:=⟨O,c3,hall,fun v x hx hb=>hj.2 v x (by
   rw[sI,Vi];exact gS.2 ⟨aI hx,hb⟩) hx⟩
  rw[eI hok]at hK;have j2:=af ((hj.1.nl _ (by omega:H.A+1<H2.A)).trans i2);simp only[go_sem,e2,j2];exact ar.bE aH hcl ((o02.trans hj.1).upd O _) (.lit _) hK
 ·obtain⟨_,o4,n4,g4,hno⟩:=hs;have j2:=af g4;simp only[go_sem,e2,j2];exact no hno _ o4
end Go.Proofs
namespace Go.Hx
variable {P:Program} {G:Nat->Option (List W9)}
variable {cs:List W9}{g i k lo n nx ob rk z:Nat}{S:Nat->Prop}{e:TypeId}{o o' v:W9}{b:Xe}
def Xn.fC (H:Xn)(rk ob:Nat)(b:Xe):Xn:=⟨fun id=>if id=rk then none else if id=ob then some b else H.get id,H.A⟩
variable {H:Xn}
def RJ (hc:XN H){cells cells':List W9}(hob:H.get ob=some (.J g e cells))(hne:ob≠rk)(hl:cells'.length=cells.length)
  (hcell:∀i (h:i<cells.length) (h':i<cells'.length),Fz (fun id=>id=rk) H H.A cells[i] cells'[i]):XM (fun id=>id=rk) H (H.fC rk ob (.J g e cells')) where
 gone id hs:=by simp[Xn.fC,hs]
 kept id b hs hb:=by
  have hbb:=hc.below id b hb;refine⟨hc.lt id b hb,?_⟩;by_cases h:id=ob
  ·subst h;rw[hob]at hb;cases hb;exact⟨.J g e cells',by simp[Xn.fC,hs],rfl,rfl,hl,hcell⟩
  ·refine⟨b,by simp[Xn.fC,hs,h,hb],?_⟩;cases b with
   |nm=>trivial
   |mp=>rfl
   |J g e cells=>exact⟨rfl,rfl,rfl,fun i h _=>.dead (hbb i h)⟩
   |loop st pend n env ps asg body=>exact⟨rfl,rfl,rfl,rfl,rfl,rfl,rfl,fun t ht=>.dead (hbb t ht)⟩
 none id hs hb:=by
  by_cases h:id=ob
  ·subst h;rw[hob]at hb;cases hb
  ·simp[Xn.fC,hs,h,hb]
theorem eA.fC (hG:fK G){s:St}{cells cells':List W9}(hob:s.H.get ob=some (.J g e cells))(hne:ob≠rk)(hl:cells'.length=cells.length)
  (hcell:∀i (h:i<cells.length) (h':i<cells'.length),Fz (fun id=>id=rk) s.H s.H.A cells[i] cells'[i]):eA P G s ⟨s.ρ,s.H.fC rk ob (.J g e cells')⟩:=by
 intro n wb Γ a w hs;exact eA.freeze (s:=s) (s':=⟨s.ρ,s.H.fC rk ob (.J g e cells')⟩) hG (RJ hs.heap.Z hob hne hl hcell) (fun t=>.dead (hs.env t).rX) n wb Γ a w hs
def RK {A B:List W9}(hA:∀v,v∈A->Fz S H nx v v)(ho:Fz S H nx o o')(hB:∀v,v∈B->Fz S H nx v v):
  ∀i (h:i<(A++o :: B).length) (h':i<(A++o' :: B).length),Fz S H nx (A++o :: B)[i] (A++o' :: B)[i]:=by
 induction A with
 |nil =>
  intro i h h';cases i with
  |zero=>exact ho
  |succ i=>exact hB _ (TC (l:=B) (by simpa using h))
 |cons a A ih =>
  intro i h h';cases i with
  |zero=>exact hA a (W5)
  |succ i=>exact ih (fun v hv=>hA v (by simp[hv])) i (by simpa using h) (by simpa using h')
def RL {A B:List W9}(h:A.length=i):setAt (A++o :: B) i [o']=A++o' :: B:=by
 subst h;simp[setAt]
def wB (h:ob≠rk):(H.fC rk ob b).get ob=some b:=by simp[Xn.fC,h]
def ml {id:Nat}(h:id≠rk)(h2:id≠ob):(H.fC rk ob b).get id=H.get id:=by simp[Xn.fC,h,h2]
def zH {l:List W9}{a b:W9}(hl:∀v,v∈l->Fz S H nx v v)(hab:Fz S H nx a b):∀j (h:j<(l.set i a).length) (h':j<(l.set i b).length),Fz S H nx (l.set i a)[j] (l.set i b)[j]:=by
 intro j h h';rw[VS,VS];split
 ·exact hab
 ·exact hl _ (TC _)
def W.tx {rd:Option Nat}{Q Q':AX->St->Prop}{c:Code}{s:St}(h:W P G n rd c Q' s)(hw:∀e s2,Q' e s2->∃s3,eA P G s2 s3/\s2.H.A<=s3.H.A/\fD s3.H rd/\Q e s3):W P G n rd c Q s:=by
 intro wb Γ a w rb hs hr;refine wpIn_mono (h wb Γ a w rb hs hr) fun e a' w' hp=>?_;obtain⟨x,s',Γ',hx,hq,hrel,E,hn,hrd,hfr⟩:=hp;obtain⟨s3,hw3,hn3,hri,hq3⟩:=hw x s' hq;obtain⟨Γ3,hs3,E3,hrd3⟩:=hw3 n wb Γ' a' w' hrel;exact⟨x,s3,Γ3,hx,hq3,hs3,E.trans hn E3,Tw hn hn3,hrd3 rd rb hrd hri,hfr⟩
def aD.ne (h:aD lo H e v cs)(hk:k<lo):∀g n,v≠.Q k g 0 n 1:=fun g n he=>by
 rcases h with ⟨h,_⟩|⟨i2,g2,a1,_,h,_⟩
 ·rw[h]at he;cases he
 ·rw[h]at he;have:=W9.Q.inj he;omega
def fT (lo:Nat)(H:Xn)(e:TypeId)(z:Nat)(v:W9)(n:Nat)(cs:List W9):Prop :=
 (v=.lit (.slice none 0 0)/\n=0/\cs=[])\/∃id g,lo<=id/\id<H.A/\v=.Q id g 0 n z/\cs.length=n*z/\H.get id=some (.J g e cs)
def fT.nil :fT lo H e z (.lit (.slice none 0 0)) 0 []:=.inl ⟨rfl,rfl,rfl⟩
variable {H':Xn}
def fT.nb (h:fT lo H e z v n cs)(hn:H.A<=H'.A)(hk:∀id g,lo<=id->id<H.A->v=.Q id g 0 n z->H'.get id=H.get id):fT lo H' e z v n cs:=by
 rcases h with h|⟨id,g,h1,h2,h3,h4,h5⟩
 ·exact .inl h
 ·exact .inr ⟨id,g,h1,O,h3,h4,(hk id g h1 h2 h3).trans h5⟩
def fT.over (h:fT lo H e z v n cs)(ho:Xb H H'):fT lo H' e z v n cs:=h.nb ho.A fun id _ _ h2 _=>ho.nl id h2
theorem fT.one (h:fT lo H e z v n cs):v.one=true:=by
 rcases h with ⟨rfl,_⟩|⟨_,_,_,_,rfl,_⟩<;>rfl
theorem fT.cells (h:fT lo H e z v n cs):v.cells=[v]:=by
 rcases h with ⟨rfl,_⟩|⟨_,_,_,_,rfl,_⟩<;>rfl
def fT.ne {m:Nat}(h:fT lo H e z v m cs)(hk:k<lo):∀g n,v≠.Q k g 0 n z:=fun g n he=>by
 rcases h with ⟨h,_⟩|⟨i2,g2,a1,_,h,_⟩
 ·rw[h]at he;cases he
 ·rw[h]at he;have:=W9.Q.inj he;omega
def Ej {t:TypeId}{m:Nat}{xs:List W9}{zs:List W9}(ht:P.underlying t=some (.slice e))(hz:P.cellsOf e=z)(hzero:bU P e=some zs)(hx:xs.all W9.one=true)(hxl:xs.length=z)
  (hb:(n+1)*P.bytesOf e<=2 ^ 47/\n+1<=2 ^ 47) (ho:fT lo H e z v n cs) (hlo:lo<=H.A) (hn:m=H.A+1):
  ∃v' H',bT P (ext H [.J 0 e xs]) m t t v (.Q H.A 0 0 1 z)=some (v',H')/\fT lo H' e z v' (n+1) (cs++xs)/\H.A<=H'.A/\(∀k,k<H.A->(∀g n,v≠.Q k g 0 n z)->H'.get k=H.get k):=by
 have hne:(ext H [.J 0 e xs]).A=H.A+1:=rfl;have hsrc:cX (ext H [.J 0 e xs]) z (.Q H.A 0 0 1 z)=some (1,xs):=by
  unfold cX;have:=af (H:=ext H [.J 0 e xs]) (g:=0) (da (b:=.J 0 e xs));simp[this,<- hxl]
 rcases ho with ⟨rfl,rfl,rfl⟩|⟨i,g,h1,h2,rfl,h4,h5⟩
 ·refine⟨.Q m 0 0 1 z,ext (ext H [.J 0 e xs]) [.J 0 e xs],?_,.inr ⟨m,0,O,by rw[aX,hne,hn];simp,W5,by simp[hxl],?_⟩,by rw[aX,hne];omega,fun k hk _=>?_⟩
  ·unfold bT;rw[ht];simp only[hzero,hz,Option.bind_some];rw[hsrc];simp only[Option.bind_some];rw[SQ W6,SU (by simpa using hb),sg (by rw[hn,hne])];rfl
  ·rw[hn,<- hne];exact da
  ·rw[bQ (by rw[hne];omega),bQ hk]
 ·have h5':(ext H [.J 0 e xs]).get i=some (.J g e cs):=by rw[bQ h2];exact h5
  refine⟨.Q i (g+1) 0 (n+1) z,(ext H [.J 0 e xs]).upd i (.J (g+1) e (cs++xs)),?_,.inr ⟨i,g+1,h1,by rw[aF,hne];omega,rfl,by simp[h4,hxl,TJ],by rw[ag,SU rfl]⟩,by rw[aF,hne];omega,fun k hk hne2=>?_⟩
  ·unfold bT;rw[ht];have hl:=af h5';simp only[hzero,hz,Option.bind_some];rw[hsrc];simp only[Option.bind_some,hl];rw[SU ⟨trivial,trivial,O,hb.1,hb.2,hx⟩];simp
  ·rw[ag,SQ,bQ hk];rintro rfl;exact hne2 _ _ rfl
end Go.Hx
namespace Go.Proofs
open Go.Hx Tryz
variable {p:List (List Int)}{cs:List W9}{i n nx v:Nat}{S e:Nat->Prop}{d:Xa}{H H':Xn}
def gT (x:Xl):W9:=if x.nn=[] then .lit (.slice none 0 0) else aO x.nn
def Xl.fX (x:Xl):List W9:=[aa x.L,ah x.F,gT x]
def aW (l:List Xl):List W9:=(l.map Xl.fX).flatten
def mD (l:List Xl):(aW l).length=l.length*3:=kK (f:=Xl.fX) (fun _=>rfl) l
variable {l:List Xl}{x:Xl}
def qz (h:l[i]?=some x):(aW l)[i*3]?=some (aa x.L):=jU (f:=Xl.fX) (z:=3) (fun _=>rfl) l i 0 x h (O)
def qA (h:l[i]?=some x):(aW l)[i*3+1]?=some (ah x.F):=jU (f:=Xl.fX) (z:=3) (fun _=>rfl) l i 1 x h (O)
def uR (h:l[i]?=some x):(aW l)[i*3+2]?=some (gT x):=jU (f:=Xl.fX) (z:=3) (fun _=>rfl) l i 2 x h (O)
def ND (l:List Xl)(x:Xl):aW (l++[x])=aW l++[aa x.L,ah x.F,gT x]:=by unfold aW;simp[Xl.fX]
def NF (h:l[i]?=some x):¬aW l=[]:=fun e=>by
 have:=qz h;rw[e]at this;simp at this
def NG (l:List (List Int)):aO l=.M l.length (l.map ah):=rfl
def BO (h:x.nn=[]):gT x=.lit (.slice none 0 0):=SU h
def yo (h:x.nn≠[]):gT x=aO x.nn:=SQ h
variable {y:Xl}
def BP (h:l[i]?=some x)(hy:y.L=x.L/\y.F=x.F):aW (l.set i y)=setAt (aW l) (i*3+2) [gT y]:=by
 have hi:=aI h;have hl:=mD l;rw[iw O];apply Ts;intro p;rw[Ug];have hp:p=(p / 3)*3+p % 3:=O
 by_cases hb:p / 3<l.length
 ·by_cases hpi:p / 3=i
  ·have e0:(l.set i y)[p / 3]?=some y:=(by rw[hpi,Te hi]);have c3:p % 3=0\/p % 3=1\/p % 3=2:=O;rcases c3 with c|c|c
   ·rw[SQ O,hp,c,Nat.add_zero,qz e0,qz (by rw[hpi];exact h),hy.1]
   ·rw[SQ O,hp,c,qA e0,qA (by rw[hpi];exact h),hy.2]
   ·rw[SU O,SU O,hp,c,uR e0]
  ·obtain⟨z,hz⟩:=aq hb;have e0:(l.set i y)[p / 3]?=some z:=(by rw[To O];exact hz);have c3:p % 3=0\/p % 3=1\/p % 3=2:=O;rcases c3 with c|c|c
   ·rw[SQ O,hp,c,Nat.add_zero,qz e0,qz hz]
   ·rw[SQ O,hp,c,qA e0,qA hz]
   ·rw[SQ O,hp,c,uR e0,uR hz]
 ·rw[SX (by rw[mD,Tl];omega),SQ O,SX O]
def NH (x:Xl):Fz S H nx (gT x) (aO x.nn):=by
 unfold gT;split
 ·rename_i h;rw[h];exact .nil
 ·exact .aO _
def NI (x:Xl):Fz S H nx (gT x) (gT x):=by
 unfold gT;split
 ·exact .lit _
 ·exact .aO _
def yp :∀(l:List Xl) (i:Nat) (h:i<(aW l).length) (h':i<(aE l).length),Fz S H nx (aW l)[i] (aE l)[i]:=by
 intro l i h h';have hb:i / 3<l.length:=by rw[mD]at h;omega
 obtain⟨x,hx⟩:=aq hb;have hp:i=(i / 3)*3+i % 3:=O
 have g1:(aW l)[i]?=some (aW l)[i]:=SP h;have g2:(aE l)[i]?=some (aE l)[i]:=SP h';generalize (aW l)[i]=a at g1 ⊢;generalize (aE l)[i]=b at g2 ⊢;have c3:i % 3=0\/i % 3=1\/i % 3=2:=O
 rcases c3 with c|c|c
 ·rw[hp,c,Nat.add_zero,qz hx]at g1;rw[hp,c,Nat.add_zero,jV hx]at g2;cases g1;cases g2;exact .lit _
 ·rw[hp,c,qA hx]at g1;rw[hp,c,mB hx]at g2;cases g1;cases g2;exact .dC _
 ·rw[hp,c,uR hx]at g1;rw[hp,c,BH hx]at g2;cases g1;cases g2;exact NH x
def yq (l:List Xl):∀c∈aW l,Fz S H nx c c:=by
 intro c hc;unfold aW at hc;obtain⟨r,hr,hc⟩:=UW.1 hc;obtain⟨x,_,rfl⟩:=S4.1 hr;unfold Xl.fX at hc;simp only[List.mem_cons,List.not_mem_nil,or_false]at hc;rcases hc with rfl|rfl|rfl
 ·exact .lit _
 ·exact .dC _
 ·exact NI x
structure Xz (e:Nat->Prop)(ns:List Xl)(cs:List W9):Prop where
 len:cs.length=ns.length*3
 node:∀(v:Nat) (x:Xl),ns[v]?=some x->∃rv,cs[v*3]?=some (aa x.L)/\cs[v*3+1]?=some (ah x.F)/\cs[v*3+2]?=some rv/\(rv=aO x.nn\/rv=gT x)/\(e v->rv=gT x)
variable {ns:List Xl}
def Xz.c0 (h:Xz e ns cs)(hx:ns[v]?=some x):cs[v*3]?=some (aa x.L):=(h.node v x hx).elim fun _ h=>h.1
def Xz.c1 (h:Xz e ns cs)(hx:ns[v]?=some x):cs[v*3+1]?=some (ah x.F):=(h.node v x hx).elim fun _ h=>h.2.1
def Xz.ne (h:Xz e ns cs)(hx:ns[v]?=some x):¬cs=[]:=fun he=>by
 have:=h.c0 hx;rw[he]at this;simp at this
def Xz.part (h:Xz e ns cs)(hx:ns[v]?=some x):∃rv,(cs.drop (v*3)).take 3=[aa x.L,ah x.F,rv]/\cs[v*3+2]?=some rv/\(rv=aO x.nn\/rv=gT x)/\(e v->rv=gT x):=by
 obtain⟨rv,a,b,c,d,f⟩:=h.node v x hx;refine⟨rv,?_,c,d,f⟩;have h3:=aI c;rw[TI O,TI O,TI O];simp only[List.take_succ_cons,List.take_zero];rw[SP O]at a b c;rw[Option.some.inj a,Option.some.inj b,Option.some.inj c]
def Xz.nil :Xz e [] []:=⟨rfl,fun v x hx=>by simp at hx⟩
def Xz.mono {e':Nat->Prop}(h:Xz e ns cs)(he:∀v,e' v->e v):Xz e' ns cs:=⟨h.len,fun v x hx=>by
 obtain⟨r,a,b,c,d,f⟩:=h.node v x hx;exact⟨r,a,b,c,d,fun h=>f (he v h)⟩⟩
def sL {α:Type}{l:List α}{x:α}(h:l[i]?=some x):l.set i x=l:=by
 apply Ts;intro j;rw[Ug];split
 ·rename_i hj;subst hj;rw[SU (aI h),h]
 ·rfl
structure FiS (d:Xa)(fv:W9)(H H':Xn)(nh:W9)(n:Nat)(cs:List W9):Prop where
 nx:H.A+4<=H'.A
 ov:Xb H H'
 b0:H'.get H.A=some (.J 0 38 [.lit (.int .i64 d.Y),.M d.C.length (aE d.C),.lit (.int .u64 (d.U:Int)),.M d.V.length (aZ d.V)])
 b1:H'.get (H.A+1)=some (.J 0 150 [fv])
 b2:H'.get (H.A+2)=some (.J 0 103 [.lit (.int .i64 0),.lit (.slice none 0 0)])
 b3:H'.get (H.A+3)=some (.J 0 103 [.lit (.int .i64 d.Y),nh])
 nd:fT (H.A+4) H' 73 3 nh n cs
theorem FiS.over {fv:W9}{H2:Xn}{nh:W9}(h:FiS d fv H H' nh n cs)(o:Xb H' H2):FiS d fv H H2 nh n cs where
 nx:=Tw h.nx o.A
 ov:=h.ov.trans o
 b0:=(o.nl _ (by have:=h.nx;omega)).trans h.b0
 b1:=(o.nl _ (by have:=h.nx;omega)).trans h.b1
 b2:=(o.nl _ (by have:=h.nx;omega)).trans h.b2
 b3:=(o.nl _ (by have:=h.nx;omega)).trans h.b3
 nd:=h.nd.over o
def PC {v:W9}{xs:List W9}(hx:xs.all W9.one=true)(hxl:xs.length=3)(hn:n<2 ^ 38)(ho:fT (H.A+4) H' 73 3 v n cs)(hlo:H.A+4<=H'.A):
  ∃v' H2,bT prog (ext H' [.J 0 73 xs]) (H'.A+1) 34 34 v (.Q H'.A 0 0 1 3)=some (v',H2)/\fT (H.A+4) H2 73 3 v' (n+1) (cs++xs)/\H'.A<=H2.A/\(∀k,k<H'.A->(∀g n,v≠.Q k g 0 n 3)->H2.get k=H'.get k) :=
 Ej Tryz.underlying34 Tryz.Bu Tryz.Bw hx hxl (by rw[Tryz.Bv];omega) ho hlo rfl
def Dj {lo:Nat}{v:W9}{l:List W9}(x:W9)(hx:x.one=true)(h:aD lo H' 46 v l)(hlo:lo<=H'.A)(hl:l.length<2 ^ 40):
  ∃v' H2,bT prog (ext H' [.J 0 46 [x]]) (H'.A+1) 33 33 v (.Q H'.A 0 0 1 1)=some (v',H2)/\aD lo H2 46 v' (l++[x])/\H'.A<=H2.A/\(∀k,k<H'.A->(∀g n,v≠.Q k g 0 n 1)->H2.get k=H'.get k) :=
 iT (P:=prog) (H:=H') (t:=33) (x:=x) (n:=H'.A+1) Tryz.underlying33 Tryz.uH Tryz.uJ hx (by rw[Tryz.uI];omega) h hlo rfl
def Dk (d:Xa)(hf:Xv d)(hR:XA d)(c:Nat->Nat->Int)(fv:W9)(rs:List Nat)(H:Xn)(hrs:∀i∈rs,i<H.A)(hfc:fv.cells=[fv])(hfo:fv.one=true)
  (hfv:∀p r v x H1,(aK d)[p]?=some v->d.C[v]?=some x->r<bM d.C x->Xb H H1->(0<=c p r/\c p r<x.L)/\bp prog G0 fv [.lit (.int .i64 p),.lit (.int .i64 r)] H1 (.lit (.int .i64 (c p r))) rs)
  (K:Xd->Xn->Prop) (hK:K (.ret (dk d.Y (cz d c))) H):ae prog G0 120 [eC d,fv] H K:=by
 refine ae.Z ⟨_,func120,rfl,rfl⟩ fun hcl=>?_;have hl:=hf.C.1;have hn8:=hR.n1.2;refine ae.st (n:=91) (rs:=[.cell 4 103]) func120 ?_;simp only[go_sem,iI,cu,hfc];obtain⟨Hb,hHb⟩:∃Hb,Hb=ext H [.J 0 38 [.lit (.int .i64 d.Y),.M d.C.length (aE d.C),.lit (.int .u64 (d.U:Int)),.M d.V.length (aZ d.V)],.J 0 150 [fv],.J 0 103 [.lit (.int .i64 0),.lit (.slice none 0 0)],.J 0 103 [.lit (.int .i64 d.Y),.lit (.slice none 0 0)]]:=⟨_,rfl⟩
 rw[<- hHb];have R0:FiS d fv H Hb (.lit (.slice none 0 0)) 0 []:=by
  rw[hHb];exact⟨by simp[aX],.ext _ _,cV ..,bL H _ 1 W5,bL H _ 2 W5,bL H _ 3 W5,.nil⟩
 have nb:Hb.A=H.A+4:=hHb▸rfl
 refine W.loop 4503599626323328 (by rfl) (fun ρ H'=>∃(k:Nat) (nh:W9),ρ 20=aa k/\k<=d.C.length/\FiS d fv H H' nh k (aW (d.C.take k))) (fun ρ H=>d.C.length-(iv (ρ 20)).toNat) ?_ ?_
 ·simp only[go_sem];exact⟨0,_,rfl,O,R0⟩
 rintro ρ H' ⟨k,nh,h20,hk,R⟩;refine W.vs ?_;have rn:=R.nx;have q0:=af R.b0;have q3:=af R.b3;by_cases hb:(k:Int)<d.C.length
 ·obtain⟨x,hx⟩:=aq (l:=d.C) (i:=k) O;have hxm:=an hx;obtain⟨f1,f2,f3⟩:=hf.C.2 x hxm;have hne:=eV hx;have e0:=oY hx;have e1:k*3+3<=(aE d.C).length:=by rw[kL];omega
  simp only[go_sem,h20,hb,hne,e0,e1];refine W.dr 7 [0,1,0,4,12,31,0] mixed ?_;simp only[go_sem];refine⟨ah x.F,[],bp.pure fun H2=>Dp x.F O H2 _ ⟨rfl,rfl⟩,?_⟩;simp only[go_sem,NG]
  repeat (refine And.intro (by first|omega|(simp;done)|(simp;omega)|(intros;omega)|exact⟨rfl,O,O,lK _⟩) ?_)
  obtain⟨H1,hH1⟩:∃H1,H1=ext (ext H' [.J 0 73 [.lit (.int .i64 x.L),.M x.F.length (ints x.F),.M x.nn.length (x.nn.map ah)]]) [.J 0 73 [.lit (.int .i64 x.L),.M x.F.length (ints x.F),.lit (.slice none 0 0)]]:=⟨_,rfl⟩
  have n1:H1.A=H'.A+2:=by rw[hH1];rfl
  have gA:H1.get H'.A=some (.J 0 73 [.lit (.int .i64 x.L),.M x.F.length (ints x.F),.M x.nn.length (x.nn.map ah)]):=by rw[hH1,bQ (by simp[aX])];exact da
  have gB:H1.get (H'.A+1)=some (.J 0 73 [.lit (.int .i64 x.L),.M x.F.length (ints x.F),.lit (.slice none 0 0)]):=by rw[hH1];exact da (H:=ext H' [_])
  have o1:Xb H' H1:=by rw[hH1];exact(Xb.ext _ _).trans (.ext _ _)
  have lA:=af gA;rw[hH1]at lA;simp only[go_sem,lA];rw[<- hH1];refine W.aP 35175782155264 (by rfl) (fun ρ' H2=>∃(j:Nat) (rh:W9),ρ' 33=aa j/\j<=x.nn.length/\Xb H' H2/\H1.A<=H2.A/\H2.get (H'.A+1)=some (.J 0 73 [.lit (.int .i64 x.L),.M x.F.length (ints x.F),rh])/\aD (H'.A+2) H2 46 rh ((x.nn.take j).map ah)/\(j=0->rh=.lit (.slice none 0 0))) (fun ρ' H=>x.nn.length-(iv (ρ' 33)).toNat) ?_ ?_
  ·simp only[go_sem];exact⟨0,_,rfl,O,o1,gB,.nil,fun _=>rfl⟩
  rintro ρ' H2 ⟨j,rh,h33,hj,o2,hn2,gB2,hrh,hrh0⟩;refine W.vs ?_;have o2n:=o2.A;have lB:=af gB2;by_cases hb2:(j:Int)<x.nn.length
  ·obtain⟨r,hr⟩:=aq (l:=x.nn) (i:=j) O;have hrm:=an hr;have hrne:=aM hr;have w1:=SN ((j:Int)+1) O;simp only[go_sem,h33,hb2,hr,hrne];obtain⟨rh2,H3,hA,hO,hn3,hp⟩:=Dj (ah r) rfl hrh O (by simp;omega);simp only[ah]at hA;have hcells:=hO.cells;have hone:=hO.one;have g3:H3.get (H'.A+1)=some (.J 0 73 [.lit (.int .i64 x.L),.M x.F.length (ints x.F),rh]):=(hp _ O (hrh.ne O)).trans gB2;have l3:=af g3;refine W.dr 5 [0,1,0,4,12] mixed ?_;simp only[go_sem,lB];refine⟨ah r,[],bp.pure fun H2=>Dp r (by have:=f3 r hrm;omega) H2 _ ⟨rfl,rfl⟩,?_⟩;simp only[go_sem,h33,hA,l3,hcells,hone,w1]
   repeat (refine And.intro (by first|omega|(simp;done)|(simp;omega)|(intros;omega)|exact⟨rfl,O,O,lK _⟩) ?_)
   have o3:Xb H' H3:=⟨O,fun id h=>(hp id O (hrh.ne O)).trans (o2.nl id h)⟩
   refine⟨by rw[aF];omega,⟨j+1,rh2,W5,O,o3.upd O _,by rw[aF];omega,by rw[ag,SU rfl],?_,O⟩,O⟩;have e:(x.nn.take (j+1)).map ah=(x.nn.take j).map ah++[ah r]:=(by rw[aU hr];simp);rw[e];exact hO.nb W8 (by rw[aF];omega) fun id g h1 _ _ _=>by rw[ag,SQ O]
  ·rw[SR O]at hrh;have R2:=R.over o2;have q3b:=af R2.b3;obtain⟨nh2,H3,hA,hO,hn3,hp⟩:=PC (H:=H) (H':=H2) (v:=nh) (n:=k) (xs:=[.lit (.int .i64 x.L),.M x.F.length (ints x.F),rh]) (by rw[List.all_cons,List.all_cons,List.all_cons,hrh.one];rfl) rfl O R2.nd (by have:=R2.nx;omega);have r2n:=R2.nx;have fr:∀id,id<H.A+4->H3.get id=H2.get id:=fun id h=>hp id O (R2.nd.ne h);have g3:H3.X (H.A+3) 0=some (103,[.lit (.int .i64 d.Y),nh]):=af ((fr _ O).trans R2.b3);have hcells:=hO.cells;have hone:=hO.one;have hrc:=hrh.cells;have hro:=hrh.one;have w1:=SN ((k:Int)+1) O;simp only[go_sem,h20,h33,hb2,lB,q3b,hA,g3,hcells,hone,w1];obtain⟨H4,hH4⟩:∃H4,H4=H3.upd (H.A+3) (.J 0 103 [.lit (.int .i64 d.Y),nh2]):=⟨_,rfl⟩
   rw[<- hH4];refine(fun (h:∀E:Env,E 20=aa ((k:Int)+1)->∃s₃:St,eA prog G0 ⟨E,H4⟩ s₃/\Hb.A<=s₃.H.A/\(∃(k:Nat) (nh:W9),s₃.ρ 20=aa k/\k<=d.C.length/\FiS d fv H s₃.H nh k (aW (d.C.take k)))/\d.C.length-(iv (s₃.ρ 20)).toNat<d.C.length-k)=>h _ (by simp only[go_sem])) fun E hE20=>?_;have n4:H4.A=H3.A:=(by rw[hH4];rfl);obtain⟨nb2,gn,b1,b2,rfl,b4,b5⟩:∃id g,H.A+4<=id/\id<H3.A/\nh2=.Q id g 0 (k+1) 3/\(aW (d.C.take k)++[.lit (.int .i64 x.L),.M x.F.length (ints x.F),rh]).length=(k+1)*3/\H3.get id=some (.J g 73 (aW (d.C.take k)++[.lit (.int .i64 x.L),.M x.F.length (ints x.F),rh])):=by
    rcases hO with ⟨_,h,_⟩|h
    ·omega
    ·exact h
   have c0:∀id,id<H.A+3->H4.get id=H2.get id:=fun id h=>by rw[hH4,ag,SQ O];exact fr id (O)
   have c3:H4.get (H.A+3)=some (.J 0 103 [.lit (.int .i64 d.Y),.Q nb2 gn 0 (k+1) 3]):=(by rw[hH4,ag,SU rfl]);have c5:H4.get nb2=some (.J gn 73 (aW (d.C.take k)++[.lit (.int .i64 x.L),.M x.F.length (ints x.F),rh])):=(by rw[hH4,ag,SQ O];exact b5);have e5:aW (d.C.take (k+1))=aW (d.C.take k)++[aa x.L,ah x.F,gT x]:=(by rw[aU hx,ND]);by_cases hr0:x.nn=[]
   ·have hrn:rh=.lit (.slice none 0 0):=hrh0 (by rw[hr0]at hj;simpa using hj);subst hrn;refine⟨⟨E,H4⟩,eA.refl _,by show Hb.A<=H4.A;omega,⟨k+1,.Q nb2 gn 0 (k+1) 3,hE20.trans W5,O,⟨by show _<=H4.A;omega,⟨by have:=R2.ov.A;show _<=H4.A;omega,fun id h=>(c0 id O).trans (R2.ov.nl id h)⟩,(c0 _ O).trans R2.b0,(c0 _ O).trans R2.b1,(c0 _ O).trans R2.b2,c3,.inr ⟨nb2,gn,b1,by show _<H4.A;omega,rfl,?_,?_⟩⟩⟩,?_⟩
    ·rw[mD];simp;omega
    ·show H4.get nb2=_;rw[e5,BO hr0];exact c5
    ·show _-(iv (E 20)).toNat<_;rw[hE20];simp only[aa,bj];omega
   ·obtain⟨rk,gr,r1,r2,rfl,r4⟩:∃id g,H'.A+2<=id/\id<H2.A/\rh=.Q id g 0 (x.nn.map ah).length 1/\H2.get id=some (.J g 46 (x.nn.map ah)):=by
     rcases hrh with ⟨_,h⟩|h
     ·simp at h;exact absurd h hr0
     ·exact h
    have nhne:∀g n,nh≠.Q rk g 0 n 3:=fun g n he=>by
     rcases R.nd with ⟨h,_⟩|⟨i,g2,_,h,h2,_⟩
     ·rw[h]at he;cases he
     ·rw[h2]at he;have:=W9.Q.inj he;omega
    have c6:H4.get rk=some (.J gr 46 (x.nn.map ah)):=(by rw[hH4,ag,SQ O,hp rk r2 nhne];exact r4);have hne2:nb2≠rk:=by
     rintro rfl;rw[c5]at c6;have:=(Xe.J.inj (Option.some.inj c6)).2.1;exact absurd this (W6)
    have e6:∀c:W9,aW (d.C.take k)++[.lit (.int .i64 x.L),.M x.F.length (ints x.F),c]=(aW (d.C.take k)++[.lit (.int .i64 x.L),.M x.F.length (ints x.F)])++c :: []:=fun c=>W5
    rw[e6]at c5;have e7:aW (d.C.take (k+1))=(aW (d.C.take k)++[.lit (.int .i64 x.L),.M x.F.length (ints x.F)])++aO x.nn :: []:=(by rw[e5,yo hr0,<- e6];rfl);refine⟨⟨E,H4.fC rk nb2 (.J gn 73 ((aW (d.C.take k)++[.lit (.int .i64 x.L),.M x.F.length (ints x.F)])++aO x.nn :: []))⟩,eA.fC (s:=⟨E,H4⟩) aH c5 hne2 W5 (RK (fun c hc=>?_) ?_ fun c hc=>by cases hc),by show Hb.A<=H4.A;omega,
     ⟨k+1,.Q nb2 gn 0 (k+1) 3,hE20.trans W5,O,⟨by show _<=H4.A;omega,⟨by have:=R2.ov.A;show _<=H4.A;omega,fun id h=>(ml O O).trans ((c0 id O).trans (R2.ov.nl id h))⟩,(ml O O).trans ((c0 _ O).trans R2.b0),(ml O O).trans ((c0 _ O).trans R2.b1),(ml O O).trans ((c0 _ O).trans R2.b2),(ml O O).trans c3,.inr ⟨nb2,gn,b1,by show _<H4.A;omega,rfl,?_,?_⟩⟩⟩,?_⟩
    ·rcases Tk.1 hc with hc|hc
     ·exact yq _ c hc
     ·simp only[List.mem_cons,List.not_mem_nil,or_false]at hc;rcases hc with rfl|rfl
      ·exact .lit _
      ·exact .dC _
    ·show Fz (fun id=>id=rk) H4 _ _ _;rw[show aO x.nn=.M (x.nn.map ah).length (x.nn.map ah) by simp[aO]];refine .ny (S:=fun id=>id=rk) rfl c6 (by rw[Nat.mul_one]) fun j hj h2 h'=>?_;simp only[Nat.zero_add,S9];exact .dC _
    ·rw[mD];simp;omega
    ·rw[e7];exact wB hne2
    ·show _-(iv (E 20)).toNat<_;rw[hE20];simp only[aa,bj];omega
 have ek:k=d.C.length:=O
 subst ek;rw[SR W8]at R;obtain⟨nbk,gn,b1,b2,rfl,b4,b5⟩:∃id g,H.A+4<=id/\id<H'.A/\nh=.Q id g 0 d.C.length 3/\(aW d.C).length=d.C.length*3/\H'.get id=some (.J g 73 (aW d.C)):=by
  rcases R.nd with ⟨_,h,_⟩|h
  ·have:=hR.n1.1;omega
  ·exact h
 simp only[go_sem,h20,hb,q0];refine az.Z (vC d _ _ ⟨trivial,?_⟩);simp only[go_sem];obtain⟨H2,hH2⟩:∃H2,H2=ext H' [kg d]:=⟨_,rfl⟩
 rw[<- hH2];have o2:Xb H' H2:=by rw[hH2];exact .ext _ _
 have n2:H2.A=H'.A+1:=by rw[hH2];rfl
 have hbx:H2.get H'.A=some (kg d):=by rw[hH2];exact da
 refine W.env fun E hE=>?_;have e2:E 2=.R H.A 0 0:=by rw[hE];simp only[go_sem]
 have e3:E 3=.R (H.A+1) 0 0:=by rw[hE];simp only[go_sem]
 have e4:E 4=.R (H.A+2) 0 0:=by rw[hE];simp only[go_sem]
 have e5:E 5=.R (H.A+3) 0 0:=by rw[hE];simp only[go_sem]
 let F:Nat->List W9->Xn->Prop:=fun lo cs Hx=>lo<=Hx.A/\(∀id,id<H2.A->id≠nbk->Hx.get id=H2.get id)/\Hx.get nbk=some (.J gn 73 cs)
 refine W.pK (f:=131) (first:=[]) (cap:=[.R H'.A 0 0]) (by show E 53=_;rw[hE];rfl) (vB d O hf.U H'.A)
  (fun k Hx=>F H2.A (aW (dO d c k)) Hx) (fun _ _=>False)
  (fun k Hx h=>by rw[h.2.1 _ O O];exact hbx) (fun k Hx b h=>⟨h.1,fun id h1 h2=>by rw[ag,SQ O];exact h.2.1 id h1 h2,by rw[ag,SQ O];exact h.2.2⟩) (fun _ _ _ h=>h)
  (fun b=>⟨by rw[aX];omega,fun id h1 h2=>bQ h1,by rw[bQ O,NA];exact(o2.nl _ b2).trans b5⟩) W6 vA (fun _ _ _=>trivial) (fun _ _ _=>trivial) (fun k y Hx B Bb hy hj hn hB hBb=>?_) (fun Hx hj hn=>?_) (fun Hx hs hn=>hs.elim) (fun i Hx hs hn=>hs.elim)
 ·obtain⟨v,hv,rfl⟩:=sH hy;obtain⟨v1,v2,v3⟩:=nY hv;obtain⟨x,hx⟩:=aq (l:=d.C) (i:=v) v1;have hxm:=an hx;obtain⟨x1,x2⟩:=hR.dec v x hx v2;refine W.vs ?_;simp only[go_sem,ic,cG,jn,TF,Ur,TV,T1,hB];obtain⟨H3,hH3⟩:∃H3,H3=Hx.upd H2.A Bb:=⟨_,rfl⟩
  rw[<- hH3];obtain⟨st,pd,n',en,ps',as',bo,hBe⟩:=hBb;have n3:H3.A=Hx.A:=by rw[hH3];rfl
  have hj3:F H2.A (aW (dO d c k)) H3:=by rw[hH3];exact⟨hj.1,fun id h1 h2=>by rw[ag,SQ O];exact hj.2.1 id h1 h2,by rw[ag,SQ O];exact hj.2.2⟩
  have jB:H3.get H2.A=some Bb:=by rw[hH3,ag,SU rfl]
  refine W.en (fun E1=>E1 2=.R H.A 0 0 /\ E1 3=.R (H.A+1) 0 0 /\ E1 5=.R (H.A+3) 0 0 /\ E1 11=aa k /\ E1 12=aa v) (by simp only[go_sem,cG,e2,e3,e5]) fun E1 ⟨m2,m3,m5,m11,m12⟩=>?_
  have hvn:(v:Int)<d.C.length:=O
  have s2:=R.over o2;have oldH:∀ {Hy:Xn},(∀id,id<H2.A->id≠nbk->Hy.get id=H2.get id)->Hy.X H.A 0=some (38,[.lit (.int .i64 d.Y),.M d.C.length (aE d.C),.lit (.int .u64 (d.U:Int)),.M d.V.length (aZ d.V)])/\Hy.X (H.A+1) 0=some (150,[fv])/\Hy.X (H.A+3) 0=some (103,[.lit (.int .i64 d.Y),.Q nbk gn 0 d.C.length 3]):=fun h =>
   ⟨af ((h _ O O).trans s2.b0),af ((h _ O O).trans s2.b1),af ((h _ O O).trans s2.b3)⟩
  obtain⟨k0,k1,k3⟩:=oldH hj3.2.1;have ps:=mf hn8 x2 hR.L;have hpm:=qX (ns:=d.C) (x:=x) (fun q hq=>by have:=x2.2 q hq;omega) hR.L;have hpp:1<=aA (aV d.C x):=fu fun c hc=>(hpm c hc).1;have hpb:=ps.prod;have hrn:((bM d.C x:Nat):Int)=aA (aV d.C x):=by unfold bM;omega
  have hlk:(dO d c k)[v]?=some x:=by rw[oa hx];unfold gC;rw[SQ O]
  have el:=mD (dO d c k);have hvk:v*3+2<(aW (dO d c k)).length:=by rw[el,kS];omega
  refine W.tx (Q':=fun e s2=>e=.normal/\∃rh,F H3.A (setAt (aW (dO d c k)) (v*3+2) [rh]) s2.H/\s2.H.get H2.A=some Bb/\aD H3.A s2.H 46 rh ((List.range (bM d.C x)).map fun r=>ah (dM d.Y x.L (c k r)))) ?_ ?_;rotate_left
  ·rintro e sx ⟨rfl,rh,hF,jBx,hrh⟩;obtain⟨rk,gr,r1,r2,rfl,r4⟩:∃id g,H3.A<=id/\id<sx.H.A/\rh=.Q id g 0 ((List.range (bM d.C x)).map fun r=>ah (dM d.Y x.L (c k r))).length 1/\sx.H.get id=some (.J g 46 ((List.range (bM d.C x)).map fun r=>ah (dM d.Y x.L (c k r)))):=by
    rcases hrh with ⟨_,h⟩|h
    ·have:bM d.C x=0:=(by simpa using h);omega
    ·exact h
   have hfs:=NB (c:=c) hv hx;have edr:ee d.Y d.C c k x=(List.range (bM d.C x)).map fun r=>dM d.Y x.L (c k r):=rfl;have ey:gT { x with nn:=x.nn++ee d.Y d.C c k x }=.M ((List.range (bM d.C x)).map fun r=>ah (dM d.Y x.L (c k r))).length ((List.range (bM d.C x)).map fun r=>ah (dM d.Y x.L (c k r))):=by
    have hne:x.nn++ee d.Y d.C c k x≠[]:=by
     rw[x1,edr,List.nil_append];intro h;have:bM d.C x=0:=(by simpa using h);omega
    rw[yo hne];show aO (x.nn++_)=_;rw[x1,edr,List.nil_append];simp[aO,Us,Function.comp_def]
   have hob:=hF.2.2;rw[iw hvk]at hob;have hc2:aW (dO d c (k+1))=(aW (dO d c k)).set (v*3+2) (.M ((List.range (bM d.C x)).map fun r=>ah (dM d.Y x.L (c k r))).length ((List.range (bM d.C x)).map fun r=>ah (dM d.Y x.L (c k r)))):=by
    rw[hfs,BP (y:={ x with nn:=x.nn++ee d.Y d.C c k x }) hlk ⟨rfl,rfl⟩,ey,iw hvk]
   have hne2:nbk≠rk:=(by have:=hj3.1;omega);refine⟨⟨sx.ρ,sx.H.fC rk nbk (.J gn 73 (aW (dO d c (k+1))))⟩,eA.fC aH hob hne2 (by rw[hc2,Tl,Tl]) ?_,W8,⟨_,_,_,_,_,_,_,by rw[ml O O,jBx,hBe]⟩,by rw[ml O O];exact jBx,by show Hx.A<=sx.H.A;have:=hF.1;omega,
    ⟨by show H2.A<=sx.H.A;have:=hF.1;omega,fun id h1 h2=>(ml O h2).trans (hF.2.1 id h1 h2),wB hne2⟩⟩
   rw[hc2];refine zH (yq _) ?_;refine .ny (S:=fun id=>id=rk) rfl r4 (by rw[Nat.mul_one]) fun j hj h2 h'=>?_;simp only[Nat.zero_add,S9];exact .dC _
  refine W.vs ?_;simp only[go_sem,m2,m12,k0];refine az.Z (vI d.C v x hx (fun q hq=>by have:=x2.2 q hq;omega) ps _ _ ⟨⟨_,_,_,_,_,_,_,by rw[jB,hBe]⟩,?_⟩);rw[<- hrn];simp only[go_sem];refine W.aP 1237940038132458770292285440 (by rfl) (fun ρ2 H4=>∃(r:Nat) (rh:W9),ρ2 60=aa r/\r<=bM d.C x/\F H3.A (setAt (aW (dO d c k)) (v*3+2) [rh]) H4/\H4.get H2.A=some Bb/\aD H3.A H4 46 rh ((List.range r).map fun r=>ah (dM d.Y x.L (c k r)))/\(r=0->rh=.lit (.slice none 0 0)))
   (fun ρ2 H=>bM d.C x-(iv (ρ2 60)).toNat) ?_ ?_
  ·simp only[go_sem];refine⟨0,.lit (.slice none 0 0),rfl,O,⟨W8,hj3.2.1,?_⟩,jB,.nil,fun _=>rfl⟩;rw[show setAt (aW (dO d c k)) (v*3+2) [.lit (.slice none 0 0)]=aW (dO d c k) from by
    have:=BP (y:=x) hlk ⟨rfl,rfl⟩;rw[BO x1]at this;rw[<- this];congr 1;exact sL hlk]
   exact hj3.2.2
  rintro ρ2 H4 ⟨r,rh,h60,hr,hF,jB4,hrh,hrh0⟩;refine W.en (fun E2=>E2 2=.R H.A 0 0 /\ E2 3=.R (H.A+1) 0 0 /\ E2 5=.R (H.A+3) 0 0 /\ E2 11=aa k /\ E2 12=aa v /\ E2 59=aa (bM d.C x) /\ E2 60=aa r) (by simp only[go_sem,m2,m3,m5,m11,m12,h60]) fun E2 ⟨i2,i3,i5,i11,i12,i59,i60⟩=>?_
  refine W.vs ?_;by_cases hb2:(r:Int)<bM d.C x
  ·obtain⟨k0,k1,k3⟩:=oldH hF.2.1;have kn:=af hF.2.2;have hne:=eV hx;have ec:=jV hx;have w1:=SN ((r:Int)+1) O;obtain⟨cb,hpc⟩:=hfv k r v x H4 hv hx O ⟨O,fun id h=>(hF.2.1 id O O).trans (s2.ov.nl id h)⟩;have hs:(setAt (aW (dO d c k)) (v*3+2) [rh])[v*3+2]?=some rh:=(by rw[iw hvk,Te hvk]);obtain⟨rh2,H5,hA,hO,hn5,hp⟩:=Dj (ah (dM d.Y x.L (c k r))) rfl hrh hF.1 (by rw[S8,TU];omega);simp only[ah]at hA;have hcells:=hO.cells;have hone:=hO.one;have hpr:bp prog G0 (.Z 144 [] []) [.lit (.int .i64 d.Y),.lit (.int .i64 x.L),.lit (.int .i64 (c k r))] H4 (ah (dM d.Y x.L (c k r))) []:=bp.pure fun H2=>Pu d.Y x.L (c k r) (by have:=hR.L x hxm;omega) cb H2 _ ⟨rfl,rfl⟩;have hrhs:rh=.lit (.slice none 0 0)\/∃i g n,rh=.Q i g 0 n 1/\H3.A<=i/\i<H4.A:=by
    rcases hrh with ⟨h,_⟩|⟨i,g,h1,h2,h3,_⟩
    ·exact .inl h
    ·exact .inr ⟨i,g,_,h3,h1,h2⟩
   have hset:∀a b,setAt (setAt (aW (dO d c k)) (v*3+2) [a]) (v*3+2) [b]=setAt (aW (dO d c k)) (v*3+2) [b]:=fun a b=>by rw[iw hvk,iw (by rw[Tl];exact hvk),iw hvk,VW]
   have hslen:∀a,(setAt (aW (dO d c k)) (v*3+2) [a]).length=(aW (dO d c k)).length:=fun a=>by rw[iw hvk,Tl]
   have hg5:H5.get nbk=some (.J gn 73 (setAt (aW (dO d c k)) (v*3+2) [rh])):=(hp _ (by have:=hF.1;omega) (hrh.ne O)).trans hF.2.2;have kn5:=af hg5;have ho5:∀id,id<H2.A->id≠nbk->H5.get id=H2.get id:=fun id h1 h2=>(hp _ (by have:=hF.1;omega) (hrh.ne O)).trans (hF.2.1 id h1 h2);have jB5:H5.get H2.A=some Bb:=(hp _ (by have:=hF.1;omega) (hrh.ne O)).trans jB4;obtain⟨hn34,-,-⟩:=hF;rcases rs with _|⟨b0,rs⟩<;>rcases hrhs with rfl|⟨i,g,n,rfl,hi1,hi2⟩
   all_goals
    simp only[go_sem,i60,i59,hb2];refine W.dr 24 [0,1,0,0,8,0,56,120,248,0,512,0,2048,0,14336,30720,63488,0,0,0,917504,2096640,4193792,8388600] mixed ?_;simp only[go_sem,i2,i3,i5,i11,i12,k0,k1,k3,kn,hvn,hne,ec,hs];refine⟨.lit (.int .i64 (c k r)),_,hpc,ah (dM d.Y x.L (c k r)),[],hpr,?_⟩;simp only[go_sem,i2,i3,i5,i11,i12,i60,hvn,kn5,hA,hcells,hone,w1];refine⟨by repeat' (first|refine And.intro ?_ ?_|(intro x hx;omega)),by repeat' (first|refine And.intro ?_ ?_|(intro x hx;omega)),by rw[hslen];omega,by rw[aF];omega,⟨_,_,_,_,_,_,_,by rw[ag,SQ O,jB5,hBe]⟩,
     ⟨r+1,rh2,W5,O,⟨by rw[aF];omega,fun id h1 h2=>by rw[ag,SQ h2];exact ho5 id h1 h2,by rw[ag,SU rfl,hset]⟩,by rw[ag,SQ O];exact jB5,?_,O⟩,by rw[h60];simp only[aa,bj];omega⟩
    have e:((List.range (r+1)).map fun r=>ah (dM d.Y x.L (c k r)))=((List.range r).map fun r=>ah (dM d.Y x.L (c k r)))++[ah (dM d.Y x.L (c k r))]:=(by rw[TP];simp);show aD _ _ _ _ ((List.range (r+1)).map fun r=>ah (dM d.Y x.L (c k r)));rw[e];exact hO.nb W8 (by rw[aF];omega) fun id g h1 _ _ _=>by rw[ag,SQ O]
  ·have er:r=bM d.C x:=O;subst er;simp only[go_sem,i59,i60,hb2];exact⟨rh,hF,jB4,hrh⟩
 ·have s2:=R.over o2;have f4:=af ((hj.2.1 _ O O).trans s2.b2);have f5:=af ((hj.2.1 _ O O).trans s2.b3);simp only[go_sem,e4,e5,f4,f5];have ovx:Xb H Hx:=⟨O,fun id h=>(hj.2.1 id O O).trans (s2.ov.nl id h)⟩
  refine ar.bE (v':=dk d.Y (cz d c)) aH hcl (ovx.upd O _) (.agg rfl fun i hi _=>?_) hK
  match i,hi with
  |0,_=>exact .lit _
  |1,_ =>
   have hg:∀b,(Hx.upd (H.A+2) b).get nbk=some (.J gn 73 (aW (cz d c))):=fun b=>by
    rw[ag,SQ O];have:=hj.2.2;rw[sI]at this;exact this
   show Fz _ _ _ (.Q nbk gn 0 d.C.length 3) (.M (cz d c).length (aE (cz d c)));rw[show (cz d c).length=d.C.length from kS _ _ _];refine .ny (by show H.A<=_;omega) (hg _) (by rw[kL];congr 1;exact kS _ _ _) fun j hj h2 h'=>?_;simp only[Nat.zero_add];exact yp _ j _ _
structure Xy (ns:List Xl)(u:Xm):Prop where
 vars:cw u.vars ns.length
 size:(u.w.length:Int)=aA (aB (aj ns) u.vars)
 w:∀x∈u.w,-100<=x/\x<=100
def vE (d:Xa):Prop:=d.V.length<=4/\∀u∈d.V,Xy d.C u
def sM {vars:List Int}(h8:ns.length<=8)(hp:cw vars ns.length)(hc:∀y∈ns,1<=y.L/\y.L<=4):dR (aB (aj ns) vars) :=
 mf (x:=⟨0,vars,[]⟩) h8 hp hc
def PD (d:Xa)(hf:Xv d)(h8:d.C.length<=8)(hc:∀y∈d.C,1<=y.L/\y.L<=4)(H:Xn)(K:Xd->Xn->Prop)(hK:K (.ret (.lit (.bool (lh (vE d))))) H):ae prog G0 130 [eC d] H K:=by
 refine ae.Z ⟨_,func130,rfl,rfl⟩ fun hcl=>?_;have hul:=hf.V.1;have no:¬vE d->∀H',Xb H H'->ar prog G0 H K (.lit (.bool false)) H':=fun h H' ov=>ar.bE aH hcl ov (.lit _) (by rw[jI h]at hK;exact hK);refine ae.st (n:=74) (rs:=[.tmp 2]) func130 ?_;simp only[go_sem,iI,cu];obtain⟨H1,hH1⟩:∃H1,H1=ext H [.J 0 38 [.lit (.int .i64 d.Y),.M d.C.length (aE d.C),.lit (.int .u64 (d.U:Int)),.M d.V.length (aZ d.V)]]:=⟨_,rfl⟩
 have l1:H1.X H.A 0=some (38,[.lit (.int .i64 d.Y),.M d.C.length (aE d.C),.lit (.int .u64 (d.U:Int)),.M d.V.length (aZ d.V)]):=by rw[hH1];exact af (cV ..)
 have n1:H1.A=H.A+1:=hH1▸rfl
 have o1:Xb H H1:=hH1▸.ext _ _
 rw[<- hH1];refine W.aP 9444732965739290166632 (by rfl) (fun ρ H'=>∃k:Nat,ρ 18=aa k/\k<=d.V.length/\Xb H1 H'/\ρ 3=.lit (.bool (decide ((d.V.length:Int)<=4)))/\(0<k->d.V.length<=4)/\∀u∈d.V.take k,Xy d.C u) (fun ρ H=>d.V.length-(iv (ρ 18)).toNat) ?_ ?_
 ·simp only[go_sem];exact⟨0,rfl,O,.refl _,O,W5⟩
 rintro ρ H' ⟨k,h18,hk,ov,h3,hk4,hall⟩;refine W.en (fun E=>E 1=.R H.A 0 0 /\ E 3=.lit (.bool (decide ((d.V.length:Int)<=4))) /\ E 16=.M d.V.length (aZ d.V) /\ E 17=aa d.V.length /\ E 18=aa k) (by simp only[go_sem,h3,h18]) fun E ⟨e1,e3,e16,e17,e18⟩=>?_
 refine W.vs ?_;have ovn:=ov.A;have l2:=(ov.X (g:=0) (by omega:H.A<H1.A)).trans l1;by_cases hb:(k:Int)<d.V.length;rotate_left
 ·rw[SR O]at hall;by_cases h4:(d.V.length:Int)<=4
  ·simp only[go_sem,e3,e17,e18,hb,h4];rw[eI ⟨O,hall⟩]at hK;exact ar.bE aH hcl (o1.trans ov) (.lit _) hK
  ·simp only[go_sem,e3,e17,e18,hb,h4];exact no (fun h=>by have:=h.1;omega) _ (o1.trans ov)
 obtain⟨u,hu⟩:=aq (l:=d.V) (i:=k) O;have hum:=an hu;obtain⟨f1,f2⟩:=hf.V.2 u hum;have hne:=yg hu;have p0:=ye hu;have p1:k*2+2<=(aZ d.V).length:=by rw[yd];omega
 have ove:∀L,Xb H (ext H' L):=fun L=>(o1.trans ov).trans (.ext _ _);by_cases h4:(d.V.length:Int)<=4;rotate_left
 ·simp only[go_sem,e3,e16,e17,e18,hb,h4,hne,p0,p1];exact no (fun h=>by have:=h.1;omega) _ (ove _)
 have l3:∀L,(ext H' L).X H.A 0=_:=fun L=>(c9 O).trans l2;simp only[go_sem,e1,e3,e16,e17,e18,hb,h4,hne,p0,p1,l3];obtain⟨H2,hH2⟩:∃H2,H2=ext H' [.J 0 82 [.M u.vars.length (ints u.vars),.M u.w.length (ints u.w)]]:=⟨_,rfl⟩
 have m1:H2.X H'.A 0=some (82,[.M u.vars.length (ints u.vars),.M u.w.length (ints u.w)]):=by rw[hH2];exact af da
 have m2:=l3 [.J 0 82 [.M u.vars.length (ints u.vars),.M u.w.length (ints u.w)]];rw[<- hH2]at m2;have n2:H2.A=H'.A+1:=by rw[hH2];rfl
 have ov2:Xb H H2:=by rw[hH2];exact ove _
 rw[<- hH2];refine az.Z (Dq u.vars d.C.length O _ _ ⟨trivial,?_⟩);by_cases c1:cw u.vars d.C.length;rotate_left
 ·simp only[go_sem,c1];exact no (fun h=>c1 (h.2 u hum).vars) _ ov2
 have sm:=sM h8 c1 hc;have pl:(aB (aj d.C) u.vars).length=u.vars.length:=iq _ _;have v8:=c1.len;simp only[go_sem,c1,m1];refine W.aP 562881233944896 (by rfl) (fun ρ' H3=>H3=H2/\∃j:Nat,ρ' 36=aa j/\j<=u.vars.length/\ρ' 6=aa (aA ((aB (aj d.C) u.vars).take j))) (fun ρ' H=>u.vars.length-(iv (ρ' 36)).toNat) ?_ ?_
 ·simp only[go_sem];exact⟨0,rfl,O,by simp[gQ]⟩
 rintro ρ' H3 ⟨rfl,j,h36,hj,h6⟩;refine W.vs ?_;by_cases hb2:(j:Int)<u.vars.length
 ·obtain⟨q,hq⟩:=aq (l:=u.vars) (i:=j) O;obtain⟨i,rfl,y,hy⟩:=lP (l:=d.C) (c1.2 q (an hq)).1 (c1.2 q (an hq)).2;have hne2:=aM hq;have hne3:=eV hy;have ey:=jV hy;have hi:(i:Int)<d.C.length:=by have:=aI hy;omega
  have pk:(aB (aj d.C) u.vars)[j]?=some y.L:=by rw[jJ hq,Int.toNat_natCast,bq (cC hy)]
  have b1:=(sm.take (j+1)).prod;rw[aU pk,fZ]at b1;have w1:=SN ((j:Int)+1) O;have w2:=SN (aA ((aB (aj d.C) u.vars).take j)*y.L) O;simp only[go_sem,h36,h6,e1,m2,hb2,hq,hne2,hne3,hi,ey,w1,w2];exact⟨⟨j+1,W5,O,by rw[aU pk,fZ]⟩,O⟩
 rw[SR O]at h6;by_cases c2:(u.w.length:Int)=aA (aB (aj d.C) u.vars);rotate_left
 ·simp only[go_sem,h36,h6,m1,hb2,c2];exact no (fun h=>c2 (h.2 u hum).size) _ ov2
 simp only[go_sem,h36,h6,m1,hb2,c2];refine W.aP 4721790022117341791240 (by rfl) (fun ρ2 H4=>H4=H3/\∃i:Nat,ρ2 59=aa i/\i<=u.w.length/\ρ2 3=.lit (.bool true)/\∀w∈u.w.take i,-100<=w/\w<=100) (fun ρ2 H=>u.w.length-(iv (ρ2 59)).toNat) ?_ ?_
 ·simp only[go_sem];exact⟨0,rfl,O,W5⟩
 rintro ρ2 H4 ⟨rfl,i,h59,hi,h3',hw⟩;refine W.vs ?_;have hpr:=sm.prod;by_cases hb3:(i:Int)<u.w.length<;>have hb3':=hb3<;>rw[c2]at hb3'
 ·obtain⟨a,ha⟩:=aq (l:=u.w) (i:=i) O;have ham:=an ha;have hane:=aM ha;by_cases d1:a >= -100;rotate_left
  ·simp only[go_sem,h59,h3',hb3,hb3',ha,hane,d1];exact no (fun h=>by have:=(h.2 u hum).w a ham;omega) _ ov2
  by_cases d2:a<=100;rotate_left
  ·simp only[go_sem,h59,h3',hb3,hb3',ha,hane,d1,d2];exact no (fun h=>by have:=(h.2 u hum).w a ham;omega) _ ov2
  have w1:=SN ((i:Int)+1) O;simp only[go_sem,h59,h3',hb3,hb3',ha,hane,d1,d2,w1];refine⟨⟨i+1,W5,O,fun w hw'=>?_⟩,O⟩;rw[aU ha]at hw';rcases Tk.1 hw' with hw'|hw'
  ·exact hw w hw'
  ·obtain rfl:=List.mem_singleton.1 hw';exact⟨O,O⟩
 ·have w1:=SN ((k:Int)+1) O;rw[SR O]at hw;simp only[go_sem,h59,h3',e18,hb3',w1];refine⟨O,⟨k+1,W5,O,by rw[hH2];exact ov.trans (.ext _ _),fun _=>O,fun y hy=>?_⟩,by rw[h18];simp only[aa,bj];omega⟩;rw[aU hu]at hy;rcases Tk.1 hy with hy|hy
  ·exact hall y hy
  ·obtain rfl:=List.mem_singleton.1 hy;exact⟨c1,c2,hw⟩
structure Xf (d:Xa):Prop where
 n:XA d
 nu:Xq d.Y (cz d fun _ _=>0)
 V:vE d
def Dl (g L x:Int):(dM g L x).length=L.toNat:=by simp[dM]
def sN {c:Nat->Nat->Int}(h:y∈cz d c):∃v x,d.C[v]?=some x/\y=gC d c (aK d).length v x:=by
 obtain⟨v,hv⟩:=SY.1 h;have hl:=aI hv;rw[show (cz d c).length=d.C.length from kS _ _ _]at hl;obtain⟨x,hx⟩:=aq hl;have:=oa (c:=c) (k:=(aK d).length) hx;rw[show dO d c (aK d).length=cz d c from rfl,hv]at this;exact⟨v,x,hx,Option.some.inj this⟩
def PE (hf:Xv d)(hR:XA d)(c:Nat->Nat->Int):vJ (cz d c):=by
 refine⟨by rw[show (cz d c).length=d.C.length from kS _ _ _];exact hf.C.1,fun y hy=>?_⟩;obtain⟨v,x,hx,rfl⟩:=sN hy;have hxm:=an hx;obtain⟨f1,f2,f3⟩:=hf.C.2 x hxm;unfold gC;split
 ·rename_i h;obtain⟨x1,x2⟩:=hR.dec v x hx h.1;have ps:=(mf hR.n1.2 x2 hR.L).prod;have hc:=hR.L x hxm;refine⟨f1,?_,fun r hr=>?_⟩
  ·show ((x.nn++ee d.Y d.C c (bd d.U v) x).length:Int)<_;rw[x1];simp only[ee,List.nil_append,S8,TU,bM];omega
  ·rw[show ({ x with nn:=x.nn++ee d.Y d.C c (bd d.U v) x }:Xl).nn=x.nn++ee d.Y d.C c (bd d.U v) x from rfl,x1,List.nil_append]at hr;obtain⟨i,_,rfl⟩:=S4.1 hr;rw[Dl];omega
 ·exact⟨f1,f2,f3⟩
def Dm (d:Xa)(hf:Xv d)(H:Xn)(K:Xd->Xn->Prop)(hK:K (.ret (aa (if lh (Xf d) then 0 else 200))) H):ae prog G0 95 [eC d] H K:=by
 refine ae.Z ⟨_,func95,rfl,rfl⟩ fun hcl=>?_;have no:¬Xf d->∀H',Xb H H'->ar prog G0 H K (.lit (.int .i64 200)) H':=fun h H' ov=>ar.bE aH hcl ov (.lit _) (by rw[jI h]at hK;exact hK);have hg:Xf d->1<=d.Y/\d.Y<=60:=fun h=>h.nu.g1;refine ae.st (n:=25) (rs:=[.tmp 2]) func95 ?_;simp only[go_sem,iI,cu];obtain⟨H1,hH1⟩:∃H1,H1=ext H [.J 0 38 [.lit (.int .i64 d.Y),.M d.C.length (aE d.C),.lit (.int .u64 (d.U:Int)),.M d.V.length (aZ d.V)]]:=⟨_,rfl⟩
 have l1:H1.X H.A 0=some (38,[.lit (.int .i64 d.Y),.M d.C.length (aE d.C),.lit (.int .u64 (d.U:Int)),.M d.V.length (aZ d.V)]):=by rw[hH1];exact af (cV ..)
 have o1:Xb H H1:=hH1▸.ext _ _
 rw[<- hH1];by_cases c1:d.Y<1
 ·simp only[go_sem,c1];exact no (fun h=>by have:=hg h;omega) _ o1
 by_cases c2:d.Y > 60
 ·simp only[go_sem,l1,c1,c2];exact no (fun h=>by have:=hg h;omega) _ o1
 simp only[go_sem,l1,c1,c2];refine az.Z (Pw d hf _ _ ⟨trivial,?_⟩);by_cases c3:XA d;rotate_left
 ·rw[jI c3];simp only[go_sem];exact no (fun h=>c3 h.n) _ o1
 rw[eI c3];simp only[go_sem,l1];refine az.Z (Dk d hf c3 (fun _ _=>0) _ [] _ (fun i h=>by cases h) rfl rfl (fun p r v x H2 _ hx _ _=>⟨⟨Int.le_refl 0,by have:=c3.L x (an hx);omega⟩,bp.pure fun H3=>Pv _ _ H3 _ ⟨rfl,rfl⟩⟩) _ ⟨trivial,?_⟩);simp only[go_sem];refine az.Z (Qj d.Y _ (PE hf c3 _) _ _ ⟨trivial,?_⟩);by_cases c4:Xq d.Y (cz d fun _ _=>0);rotate_left
 ·rw[Du c4];simp only[go_sem];exact no (fun h=>c4 h.nu) _ o1
 rw[Ds c4];simp only[go_sem,l1];refine az.Z (PD d hf c3.n1.2 c3.L _ _ ⟨trivial,?_⟩);by_cases c5:vE d;rotate_left
 ·rw[jI c5];simp only[go_sem];exact no (fun h=>c5 h.V) _ o1
 rw[eI c5];simp only[go_sem];rw[eI (⟨c3,c4,c5⟩:Xf d)]at hK;exact ar.bE aH hcl o1 (.lit _) hK
structure Xo (d:Xa)(p:List (List Int)):Prop where
 len:p.length=(aK d).length
 row:∀(k v:Nat) (x:Xl) (l:List Int),(aK d)[k]?=some v->d.C[v]?=some x->p[k]?=some l->l.length=bM d.C x/\∀a∈l,0<=a/\a<x.L
def pC (p:List (List Int)):Prop:=(p.length:Int)<2 ^ 38/\∀r∈p,(r.length:Int)<2 ^ 38
noncomputable def eJ (d:Xa)(p:List (List Int)):Int:=if lh (Xf d) then (if lh (Xo d p) then 0 else 201) else 200
def zd (d:Xa)(hf:Xv d)(p:List (List Int))(hp:pC p)(H:Xn)(K:Xd->Xn->Prop)(hK:K (.ret (aa (eJ d p))) H):ae prog G0 64 [eC d,aO p] H K:=by
 refine ae.Z ⟨_,func64,rfl,rfl⟩ fun hcl=>?_;refine ae.st (n:=64) (rs:=[.cell 4 42]) func64 ?_;simp only[go_sem,iI,cu];obtain⟨H1,hH1⟩:∃H1,H1=ext H [.J 0 38 (cu d),.J 0 33 [aO p],.J 0 42 [.lit (.int .i64 0)]]:=⟨_,rfl⟩
 have g1:=dv hH1
 have g2:=gE hH1 1 rfl
 have g3:=gE hH1 2 rfl
 have l1:=af g1;have l3:=af g3;have n1:H1.A=H.A+3:=hH1▸rfl
 have o1:Xb H H1:=hH1▸.ext _ _
 unfold cu at hH1 l1;rw[<- hH1];refine az.Z (Dm d hf _ _ ⟨trivial,?_⟩);by_cases hok:Xf d;rotate_left
 ·rw[jI hok];simp only[go_sem,l3];unfold eJ at hK;rw[jI hok]at hK;exact ar.bE aH hcl (o1.upd O _) (.lit _) hK
 rw[eI hok];have hR:=hok.n;have no:¬Xo d p->∀H',Xb H H'->ar prog G0 H K (.lit (.int .i64 201)) H':=fun h H' ov=>ar.bE aH hcl ov (.lit _) (by unfold eJ at hK;rw[eI hok,jI h]at hK;exact hK);have nb0:H.A≠H1.A:=O
 have l1e:∀L,(ext H1 L).X H.A 0=_:=fun L=>(c9 O).trans l1;simp only[go_sem,l1e];refine az.Z (vC d _ _ ⟨trivial,?_⟩);simp only[go_sem];obtain⟨H2,hH2⟩:∃H2,H2=ext (ext H1 [.J 0 3 [.lit (.int .i64 0)]]) [kg d]:=⟨_,rfl⟩
 rw[<- hH2];have o2:Xb H1 H2:=by rw[hH2];exact(Xb.ext _ _).trans (.ext _ _)
 have n2:H2.A=H.A+5:=by rw[hH2,aX,aX,n1];rfl
 have hbx:H2.get (H.A+4)=some (kg d):=by rw[hH2,show H.A+4=(ext H1 [.J 0 3 [.lit (.int .i64 0)]]).A by rw[aX,n1];rfl];exact da
 have g6:H2.get (H.A+3)=some (.J 0 3 [.lit (.int .i64 0)]):=by rw[hH2,cP _ _ _ (by rw[aX,n1];simp),show H.A+3=H1.A by omega];exact da
 have o02:=o1.trans o2;refine W.env fun E hE=>?_;have e2:E 2=.R H.A 0 0:=by rw[hE];simp only[go_sem]
 have e3:E 3=.R (H.A+1) 0 0:=by rw[hE];simp only[go_sem]
 have e4:E 4=.R (H.A+2) 0 0:=by rw[hE];simp only[go_sem]
 have e6:E 6=.R (H.A+3) 0 0:=by rw[hE,<- n1];simp only[go_sem]
 have eN:(ext H1 [.J 0 3 [.lit (.int .i64 0)]]).A=H.A+4:=by rw[aX,n1];rfl
 have e17:E 17=.Z 131 [] [.R (H.A+4) 0 0]:=by rw[hE,<- eN];rfl
 clear hE
  -- what stays as it is
 let S:Xn->Prop:=fun Hx=>H2.A<=Hx.A/\∀id,id<H2.A->id≠H.A+3->id≠H.A+2->Hx.get id=H2.get id
 have ovS:∀ {Hx},S Hx->Xb H Hx:=fun h=>⟨by have:=h.1;omega,fun id hi=>(h.2 id O O O).trans (o02.nl id hi)⟩
 refine W.pK (f:=131) (first:=[]) (cap:=[.R (H.A+4) 0 0]) (by show E 17=_;exact e17) (vB d (by have:=hf.C.1;omega) hf.U (H.A+4))
  (fun k Hx=>S Hx/\Hx.get (H.A+2)=some (.J 0 42 [.lit (.int .i64 0)])/\Hx.get (H.A+3)=some (.J 0 3 [.lit (.int .i64 k)])/\∀j v x,j<k->(aK d)[j]?=some v->d.C[v]?=some x->∃l,p[j]?=some l/\l.length=bM d.C x/\∀a∈l,0<=a/\a<x.L)
  (fun c Hx=>c=.ret/\S Hx/\Hx.get (H.A+2)=some (.J 0 42 [.lit (.int .i64 201)])/\¬Xo d p)
  (fun k Hx h=>by rw[h.1.2 _ O O O];exact hbx)
  (fun k Hx b h=>⟨⟨h.1.1,fun id h1 h2 h3=>by rw[ag,SQ O];exact h.1.2 id h1 h2 h3⟩,by rw[ag,SQ O];exact h.2.1,by rw[ag,SQ O];exact h.2.2.1,h.2.2.2⟩)
  (fun c Hx b h=>⟨h.1,⟨h.2.1.1,fun id h1 h2 h3=>by rw[ag,SQ O];exact h.2.1.2 id h1 h2 h3⟩,by rw[ag,SQ O];exact h.2.2.1,h.2.2.2⟩)
  (fun b=>⟨⟨by rw[aX];omega,fun id h1 h2 h3=>bQ h1⟩,by rw[bQ O,o2.nl _ O];exact g3,by rw[bQ O];exact g6,fun j v x h=>absurd h (Tb _)⟩)
  W6 vA (fun _ _ _=>trivial) (fun _ _ _=>trivial) (fun k y Hx B Bb hy hj hn hB hBb=>?_) (fun Hx hj hn=>?_) (fun Hx hs hn=>?_) (fun i Hx hs hn=>by cases hs.1)
 ·obtain⟨v,hv,rfl⟩:=sH hy;obtain⟨v1,v2,v3⟩:=nY hv;obtain⟨x,hx⟩:=aq (l:=d.C) (i:=v) v1;obtain⟨x1,x2⟩:=hR.dec v x hx v2;refine W.vs ?_;simp only[go_sem,ic,cG,jn,TF,Ur,TV,T1,hB];obtain⟨H3,hH3⟩:∃H3,H3=Hx.upd H2.A Bb:=⟨_,rfl⟩
  rw[<- hH3];obtain⟨st,pd,n',en,ps',as',bo,hBe⟩:=hBb;have n3:H3.A=Hx.A:=by rw[hH3];rfl
  have o3:∀id,id≠H2.A->H3.get id=Hx.get id:=fun id h=>by rw[hH3,ag,SQ h]
  have jB:H3.get H2.A=some Bb:=by rw[hH3,ag,SU rfl]
  have hS3:S H3:=⟨by rw[n3];exact hj.1.1,fun id h1 h2 h3=>(o3 id O).trans (hj.1.2 id h1 h2 h3)⟩
  have j1:=af ((hS3.2 _ O O O).trans ((o2.nl _ O).trans g1));have j2:=af ((hS3.2 _ O O O).trans ((o2.nl _ O).trans g2));have j4:=af ((o3 _ O).trans hj.2.1);have j6:=af ((o3 _ O).trans hj.2.2.1);unfold cu at j1;have ps:=mf hR.n1.2 x2 hR.L;have hin:fR x.F d.C.length:=fun q hq=>by have:=x2.2 q hq;omega
  have hpp:1<=aA (aV d.C x):=fu fun c hc=>(qX hin hR.L c hc).1;have hpb:=ps.prod;have hrn:((bM d.C x:Nat):Int)=aA (aV d.C x):=by unfold bM;omega
  have hvn:(v:Int)<d.C.length:=O
  have hne:=eV hx;have ec:=jV hx;have hkl:=aI hv;have hk8:k<8:=by
   have h1:=nZ (D:=d.U) (n:=d.C.length);have h2:=hR.n1.2;have h3:k<(eY d.U d.C.length).length:=hkl;omega
  refine W.en (fun E1=>E1 2=.R H.A 0 0 /\ E1 3=.R (H.A+1) 0 0 /\ E1 4=.R (H.A+2) 0 0 /\ E1 6=.R (H.A+3) 0 0 /\ E1 7=aa k /\ E1 8=aa v) (by simp only[go_sem,cG,e2,e3,e4,e6]) fun E1 ⟨m2,m3,m4,m6,m7,m8⟩=>?_
  have stop:¬Xo d p->(H3.upd (H.A+2) (Xe.J 0 42 [.lit (.int .i64 201)])).get H2.A=some Bb/\Hx.A<=(H3.upd (H.A+2) (Xe.J 0 42 [.lit (.int .i64 201)])).A/\S (H3.upd (H.A+2) (Xe.J 0 42 [.lit (.int .i64 201)])) /\
    (H3.upd (H.A+2) (Xe.J 0 42 [.lit (.int .i64 201)])).get (H.A+2)=some (.J 0 42 [.lit (.int .i64 201)])/\¬Xo d p:=fun h =>
   ⟨by rw[ag,SQ O];exact jB,by rw[aF];omega,⟨by rw[aF];exact hS3.1,fun id h1 h2 h3=>by rw[ag,SQ h3];exact hS3.2 id h1 h2 h3⟩,by rw[ag,SU rfl],h⟩
  refine W.vs ?_;simp only[go_sem];refine W.dr 14 [0,0,2,7,15,31,31,127,255,511,31,1055,31,7199] mixed ?_;by_cases c1:(k:Int) >= p.length
  ·simp only[go_sem,m3,m4,m7,j2,j4,c1,aO,eM];exact stop fun h=>by have:=h.len;omega
  obtain⟨l,hl⟩:=aq (l:=p) (i:=k) O;have hlm:=an hl;have hlne:=aM hl;have hkp:(k:Int)<p.length:=O
  have hll:=hp.2 l hlm;simp only[go_sem,m2,m3,m7,m8,j1,j2,c1,hkp,hl,hlne,aO];refine⟨.lit (.int .i64 (bM d.C x:Nat)),[],bp.pure fun H2=>vI d.C v x hx hin ps H2 _ ⟨by rw[hrn];rfl,rfl⟩,?_⟩;by_cases c2:(l.length:Int)=bM d.C x;rotate_left
  ·simp only[go_sem,c2,m4,j4,eM];exact stop fun h=>c2 (by have:=(h.row k v x l hv hx hl).1;omega)
  simp only[go_sem,c2,m3,m7,j2,hkp,hl,hlne,aO];refine W.aP 288228177128457216 (by rfl) (fun ρ2 H4=>H4=H3/\∃i:Nat,ρ2 41=aa i/\i<=l.length/\∀a∈l.take i,0<=a/\a<x.L) (fun ρ2 H=>l.length-(iv (ρ2 41)).toNat) ?_ ?_
  ·simp only[go_sem];exact⟨0,rfl,O,W5⟩
  rintro ρ2 H4 ⟨rfl,i,h41,hi,hw⟩;refine W.vs ?_;by_cases hb2:(i:Int)<l.length<;>have hb2':=hb2<;>rw[c2]at hb2'
  ·obtain⟨a,ha⟩:=aq (l:=l) (i:=i) O;have ham:=an ha;have hane:=aM ha;by_cases d1:a<0
   ·simp only[go_sem,h41,hb2,hb2',ha,hane,d1,m4,j4,eM];exact stop fun h=>by have:=(h.row k v x l hv hx hl).2 a ham;omega
   by_cases d2:a >= x.L
   ·simp only[go_sem,h41,hb2,hb2',ha,hane,d1,d2,m2,m4,m8,j1,j4,hvn,hne,ec,eM];exact stop fun h=>by have:=(h.row k v x l hv hx hl).2 a ham;omega
   have w1:=SN ((i:Int)+1) O;simp only[go_sem,h41,hb2,hb2',ha,hane,d1,d2,w1,m2,m8,j1,hvn,hne,ec];refine⟨⟨_,_,_,_,_,_,_,by rw[jB,hBe]⟩,⟨i+1,W5,O,fun w hw'=>?_⟩,O⟩;rw[aU ha]at hw';rcases Tk.1 hw' with hw'|hw'
   ·exact hw w hw'
   ·obtain rfl:=List.mem_singleton.1 hw';exact⟨O,O⟩
  ·rw[SR O]at hw;have w1:=SN ((k:Int)+1) O;simp only[go_sem,h41,hb2',m6,j6,w1,eM];refine⟨by rw[ag,SQ O];exact jB,by rw[aF];omega,⟨by rw[aF];exact hS3.1,fun id h1 h2 h3=>by rw[ag,SQ h2];exact hS3.2 id h1 h2 h3⟩,by rw[ag,SQ O,o3 _ O];exact hj.2.1,by rw[ag,SU rfl];simp,fun j u z hj2 hu hz=>?_⟩;rcases Tg j k with hjk|hjk
   ·exact hj.2.2.2 j u z hjk hu hz
   ·obtain rfl:j=k:=O;rw[hv]at hu;cases hu;rw[hx]at hz;cases hz;exact⟨l,hl,O,hw⟩
 ·rw[sI]at hj;have j2:=af ((hj.1.2 _ O O O).trans ((o2.nl _ O).trans g2));have j4:=af hj.2.1;have j6:=af hj.2.2.1;by_cases c3:(p.length:Int)=(aK d).length;rotate_left
  ·simp only[go_sem,e3,e4,e6,j2,j4,j6,c3,aO];exact no (fun h=>c3 (by have:=h.len;omega)) _ ((ovS hj.1).upd O _)
  have hpo:Xo d p:=⟨O,fun k v x l h1 h2 h3=>by
   obtain⟨l',h4,h5⟩:=hj.2.2.2 k v x (aI h1) h1 h2;rw[h3]at h4;cases h4;exact h5⟩
  simp only[go_sem,e3,e4,e6,j2,j4,j6,c3,aO];unfold eJ at hK;rw[eI hok,eI hpo]at hK;exact ar.bE aH hcl ((ovS hj.1).upd O _) (.lit _) hK
 ·obtain⟨_,hS,h4,hno⟩:=hs;have j4:=af h4;simp only[go_sem,e4,j4];exact no hno _ (ovS hS)
def fixC (p:List (List Int))(k r:Nat):Int:=(p.getD k []).getD r 0
def PF (p:List (List Int))(k r b:Nat)(l:List Int)(a:Int)(hl:p[k]?=some l)(ha:l[r]?=some a)(H:Xn)(hb:H.get b=some (.J 0 33 [aO p]))(K:Xd->Xn->Prop)(hK:K (.ret (.lit (.int .i64 a))) H):
  ae prog G0 121 [.lit (.int .i64 k),.lit (.int .i64 r),.R b 0 0] H K:=by
 have l0:=af hb;have h1:(k:Int)<p.length:=by have:=aI hl;omega
 have h2:(r:Int)<l.length:=by have:=aI ha;omega
 have n1:=aM hl;have n2:=aM ha;refine ae.st (n:=13) (rs:=[.tmp 5]) func121 ?_;simp only[go_sem,l0,aO,h1,h2,hl,ha,n1,n2];exact ar.mk W8 hK
def PG (p:List (List Int))(k r b:Nat)(l:List Int)(a:Int)(hl:p[k]?=some l)(ha:l[r]?=some a)(H:Xn)(hlt:b<H.A)(hb:H.get b=some (.J 0 33 [aO p])):
  bp prog G0 (.Z 121 [] [.R b 0 0]) [.lit (.int .i64 k),.lit (.int .i64 r)] H (.lit (.int .i64 a)) [b] :=
 bp.mk (fun i hi=>by obtain rfl:=List.mem_singleton.1 hi;exact hlt) fun H2 h2 _=>PF p k r b l a hl ha H2 ((h2 b W5).trans hb) _ ⟨rfl,rfl⟩
def Dn (h:Xo d p){k r:Nat}(hv:(aK d)[k]?=some v)(hx:d.C[v]?=some x)(hr:r<bM d.C x):
  ∃l a,p[k]?=some l/\l[r]?=some a/\fixC p k r=a/\0<=a/\a<x.L:=by
 obtain⟨l,hl⟩:=aq (l:=p) (i:=k) (by rw[h.len];exact aI hv);obtain⟨h1,h2⟩:=h.row k v x l hv hx hl;obtain⟨a,ha⟩:=aq (l:=l) (i:=r) O;exact⟨l,a,hl,ha,by unfold fixC;rw[bq hl,bq ha],h2 a (an ha)⟩
def sO:W9:=.agg [.lit (.int .i64 0),.M 0 []]
noncomputable def sP (d:Xa)(p:List (List Int)):W9:=if eJ d p=0 then dk d.Y (cz d (fixC p)) else sO
def ze :eJ d p=0↔Xf d/\Xo d p:=by
 unfold eJ;by_cases h1:Xf d
 ·by_cases h2:Xo d p
  ·rw[eI h1,eI h2];exact⟨fun _=>⟨h1,h2⟩,fun _=>rfl⟩
  ·rw[eI h1,jI h2];exact⟨fun h=>by simp at h,fun h=>absurd h.2 h2⟩
 ·rw[jI h1];exact⟨fun h=>by simp at h,fun h=>absurd h.1 h1⟩
def PH (d:Xa)(hf:Xv d)(p:List (List Int))(hp:pC p)(H:Xn)(K:Xd->Xn->Prop)(hK:K (.ret (.na [sP d p,aa (eJ d p)])) H):ae prog G0 80 [eC d,aO p] H K:=by
 refine ae.Z ⟨_,func80,rfl,rfl⟩ fun hcl=>?_;refine ae.st (n:=17) (rs:=[.cell 4 103,.tmp 5]) func80 ?_;simp only[go_sem,iI,cu];obtain⟨H1,hH1⟩:∃H1,H1=ext H [.J 0 38 [.lit (.int .i64 d.Y),.M d.C.length (aE d.C),.lit (.int .u64 (d.U:Int)),.M d.V.length (aZ d.V)],.J 0 33 [aO p],.J 0 103 [.lit (.int .i64 0),.lit (.slice none 0 0)]]:=⟨_,rfl⟩
 have g1:=dv hH1
 have g2:=gE hH1 1 rfl
 have g3:=gE hH1 2 rfl
 have l1:=af g1;have l2:=af g2;have l3:=af g3;have n1:H1.A=H.A+3:=hH1▸rfl
 have o1:Xb H H1:=hH1▸.ext _ _
 rw[<- hH1];refine az.Z (zd d hf p hp _ _ ⟨trivial,?_⟩);by_cases hz:eJ d p=0;rotate_left
 ·have hcell:(W9.lit (.int .i64 (eJ d p))).cells=[.lit (.int .i64 (eJ d p))]:=rfl;simp only[go_sem,hz,l3];have ef:sP d p=sO:=SQ hz;rw[ef]at hK;refine ar.bE (v':=.na [sO,aa (eJ d p)]) aH hcl (o1.upd O _) (.na rfl fun i hi _=>?_) hK
  match i,hi with
  |0,_ =>
   refine .agg rfl fun i hi _=>?_
   match i,hi with
   |0,_=>exact .lit _
   |1,_=>exact .nil
  |1,_=>exact .lit _
 obtain⟨hok,hpo⟩:=ze.1 hz;rw[hz]at hK ⊢;simp only[go_sem,l1];refine az.Z (Dk d hf hok.n (fixC p) _ [H.A+1] _ (fun i hi=>by obtain rfl:=List.mem_singleton.1 hi;omega) rfl rfl (fun k r v x H2 hv hx hr ov=>?_) _ ⟨trivial,?_⟩)
 ·obtain⟨l,a,hl,ha,he,hb⟩:=Dn hpo hv hx hr;rw[he];exact⟨hb,PG p k r (H.A+1) l a hl ha H2 (by have:=ov.A;omega) ((ov.nl _ O).trans g2)⟩
 ·simp only[go_sem,l3,dk,dL];have ef:sP d p=dk d.Y (cz d (fixC p)):=SU hz;rw[ef]at hK;refine ar.bE (v':=.na [dk d.Y (cz d (fixC p)),aa 0]) aH hcl (o1.upd O _) (.na rfl fun i hi _=>?_) hK
  match i,hi with
  |0,_ =>
   refine .agg rfl fun i hi _=>?_
   match i,hi with
   |0,_=>exact .lit _
   |1,_=>exact q8 _
  |1,_=>exact .lit _
end Go.Proofs
namespace Go.Hx
variable {P:Program} {G:Nat->Option (List W9)} {n:Nat} {rd:Option Nat} {Q:AX->St->Prop}
def wC (N:Nat)(H1 H2:Xn):Prop:=H1.A<=H2.A/\∀id,id≠N->id<H1.A->H2.get id=H1.get id
def Ek (P:Program)(G:Nat->Option (List W9))(f:FuncId)(first cap:List W9)(xs:List (List W9))(N:Nat)(S0:Xn->Prop)(S:Nat->Xn->Prop):Prop :=
 ∀(idy:Nat) (J:Nat->Xn->Prop) (Stop:Xn->Prop) (H:Xn) (K:Xd->Xn->Prop),H.A=N ->
  (∀k H1,J k H1->S0 H1)->(∀k H1 H2,J k H1->wC N H1 H2->J k H2)->J 0 H ->
  (∀k x H1 K1,xs[k]?=some x->J k H1->S k H1->N<H1.A->(∀H',J (k+1) H'->S k H'->H1.A<=H'.A->K1 (.ret (.lit (.bool true))) H')->(∀H',Stop H'->H1.A<=H'.A->K1 (.ret (.lit (.bool false))) H')->az P G (.ni idy) x H1 K1) ->
  (∀H',J xs.length H'->N<=H'.A->K (.ret (.na [])) H') ->
  (∀H',Stop H'->N<=H'.A->K (.ret (.na [])) H') ->
  ae P G f (first++[.ni idy]++cap) H K
def W.tz {g:Operand}{ps:Array Tmp}{asg body:Code}{ρ:Env}{H:Xn}{f:FuncId}{first cap:List W9}{xs:List (List W9)}{S0:Xn->Prop}{S:Nat->Xn->Prop}(hg:aw G ρ g=.Z f first cap)
  (hit:Ek P G f first cap xs (H.A+1) S0 S) (J:Nat->Xn->Prop) (Stop:AX->Xn->Prop) (hS:∀k H1,J k H1->S0 H1) (hJw:∀k H1 H2,J k H1->wC (H.A+1) H1 H2->J k H2) (hlow:∀k H1,J k H1->H.A<H1.A)
  (hJu:∀k H1 b,J k H1->J k (H1.upd H.A b)) (hSu:∀c H1 b,Stop c H1->Stop c (H1.upd H.A b)) (hSk:∀k H1 b,S k H1->S k (H1.upd H.A b))
  (hJ0:∀b,J 0 (ext H [b])) (hps:ps.toList.all (fun t=>decide (t<n))=true) (hxl:∀x∈xs,x.length=ps.size)
  (hrd:∀k H1,J k H1->fD H1 rd) (hrd2:∀c H1,Stop c H1->fD H1 rd)
  (hround:∀k x H1 B Bb,xs[k]?=some x->J k H1->S k H1->H.A+1<H1.A->H1.get H.A=some B->(∃st pd n' en ps' as' bo,Bb=Xe.loop st pd n' en ps' as' bo) ->
   W P G n (some H.A) asg (jn P G n H.A B Bb H1.A body (fun H'=>J (k+1) H'/\S k H') Stop) ⟨ic (cG ρ n) (ps.toList.zip x),H1⟩)
  (hend:∀H',J xs.length H'->H.A+1<=H'.A->Q .normal ⟨ρ,H'⟩)
  (hret:∀H',Stop .ret H'->H.A+1<=H'.A->Q .ret ⟨ρ,H'⟩) (hexit:∀i H',Stop (.exit i) H'->H.A+1<=H'.A->Q (.exit i) ⟨ρ,H'⟩):
  W P G n rd (.rangeFunc g ps asg body) Q ⟨ρ,H⟩:=by
 refine W.rangeFunc (s:=⟨ρ,H⟩) hg ⟨_,uk _ _,?_⟩;obtain⟨B,hB⟩:∃B,B=Xe.loop .ready none n ρ ps asg body:=⟨_,rfl⟩
 obtain⟨Bb,hBb⟩:∃B,B=Xe.loop .busy none n ρ ps asg body:=⟨_,rfl⟩
 have nx:(ext H [B]).A=H.A+1:=rfl;show ae P G f (first++[.ni H.A]++cap) (ext H [Xe.loop .ready none n ρ ps asg body]) (xO rd Q ρ H.A);rw[<- hB];refine hit H.A (fun k H1=>H1.get H.A=some B/\J k H1) (fun H1=>∃c pend,H1.get H.A=some (.loop .done (some pend) n ρ ps asg body)/\Stop c H1/\((c=.ret/\pend=.ret)\/∃i,c=.exit i/\pend=.exit i)) _ _ nx
  (fun k H1 h=>hS k H1 h.2) (fun k H1 H2 h hw=>⟨(hw.2 _ O (hlow _ _ h.2)).trans h.1,hJw _ _ _ h.2 hw⟩) ⟨da,hJ0 B⟩ (fun k x H1 K1 hx hj hs hn hgo hst=>?_) (fun H' hj hn=>?_) (fun H' hj hn=>?_)
 ·have hxm:=hxl x (an hx);refine az.ni (hj.1.trans (congrArg some hB)) hxm hps ?_;refine(hround k x H1 B Bb hx hj.2 hs hn hj.1 ⟨_,_,_,_,_,_,_,hBb⟩).mono fun e s1 h1=>?_;cases e with
  |normal =>
   obtain⟨a1,a2⟩:=h1;refine⟨Bb,by rw[a1,hB,hBb];rfl,?_⟩;refine a2.mono fun e2 s2 h2=>?_;cases e2 with
   |normal =>
    obtain⟨b1,b2,b3,b4⟩:=h2;exact⟨B,by rw[b1,hB,hBb];rfl,hgo _ ⟨by rw[ag,SU rfl],hJu _ _ _ b3⟩ (hSk _ _ _ b4) b2⟩
   |ret =>
    obtain⟨b1,b2,b3⟩:=h2;exact⟨.loop .done (some .ret) n ρ ps asg body,by rw[b1,hBb];rfl,hst _ ⟨.ret,.ret,by rw[ag,SU rfl],hSu _ _ _ b3,.inl ⟨rfl,rfl⟩⟩ b2⟩
   |exit i =>
    obtain⟨b1,b2,b3⟩:=h2;exact⟨.loop .done (some (.exit i)) n ρ ps asg body,by rw[b1,hBb];rfl,hst _ ⟨.exit i,.exit i,by rw[ag,SU rfl],hSu _ _ _ b3,.inr ⟨i,rfl,rfl⟩⟩ b2⟩
   |_=>exact h2.elim
  |_=>exact h1.elim
 ·refine⟨hrd _ _ hj.2,(none,.loop .exhausted none n ρ ps asg body),by rw[hj.1,hB];rfl,?_⟩;exact hend _ (hJu _ _ _ hj.2) hn
 ·obtain⟨c,pend,h1,h2,h3⟩:=hj;refine⟨hrd2 _ _ h2,(some pend,.loop .exhausted (some pend) n ρ ps asg body),by rw[h1];rfl,?_⟩;rcases h3 with ⟨rfl,rfl⟩|⟨i,rfl,rfl⟩
  ·exact hret _ (hSu _ _ _ h2) hn
  ·exact hexit i _ (hSu _ _ _ h2) hn
end Go.Hx
namespace Go.Proofs
open Go.Hx Tryz
variable {nA:List Int}{N k:Nat}
def PI:∀ {cs vs:List Int} {k:Nat} {c v:Int},vs.length=cs.length->cs[k]?=some c->vs[k]?=some v->v+1<c->(∀(j:Nat) (a b:Int),k<j->cs[j]?=some a->vs[j]?=some b->b=a-1) ->
  kO cs vs=some (vs.take k++(v+1) :: (cs.drop (k+1)).map fun _=>0):=by
 have none_of:∀ {cs vs:List Int},vs.length=cs.length->(∀(j:Nat) (a b:Int),cs[j]?=some a->vs[j]?=some b->b=a-1)->kO cs vs=none:=by
  intro cs
  induction cs with
  |nil=>intro vs _ _;cases vs<;>rfl
  |cons c cs ih =>
   intro vs hl h;cases vs with
   |nil=>rfl
   |cons v vs =>
    have h1:=ih (vs:=vs) (by simpa using hl) fun j a b ha hb=>h (j+1) a b (by simpa using ha) (by simpa using hb);have h2:=h 0 c v rfl rfl;simp only[kO,h1];rw[SQ O]
 intro cs
 induction cs with
 |nil=>intro vs k c v _ h;simp at h
 |cons x cs ih =>
  intro vs k c v hl hc hv hlt hmax;cases vs with
  |nil=>simp at hv
  |cons y vs =>
   cases k with
   |zero =>
    simp only[List.getElem?_cons_zero,Option.some.injEq]at hc hv;subst hc;subst hv;have h1:=none_of (cs:=cs) (vs:=vs) (by simpa using hl) fun j a b ha hb=>hmax (j+1) a b O (by simpa using ha) (by simpa using hb);simp only[kO,h1];rw[SU hlt];simp
   |succ k =>
    have h1:=ih (vs:=vs) (k:=k) (by simpa using hl) (by simpa using hc) (by simpa using hv) hlt fun j a b hj ha hb=>hmax (j+1) a b O (by simpa using ha) (by simpa using hb);simp only[kO,h1];simp
def PJ:∀ {cs vs:List Int},vs.length=cs.length->(∀(j:Nat) (a b:Int),cs[j]?=some a->vs[j]?=some b->b=a-1)->kO cs vs=none:=by
 intro cs
 induction cs with
 |nil=>intro vs _ _;cases vs<;>rfl
 |cons c cs ih =>
  intro vs hl h;cases vs with
  |nil=>rfl
  |cons v vs =>
   have h1:=ih (vs:=vs) (by simpa using hl) fun j a b ha hb=>h (j+1) a b (by simpa using ha) (by simpa using hb);have h2:=h 0 c v rfl rfl;simp only[kO,h1];rw[SQ O]
def mc (nA:List Int)(N:Nat):List (List W9):=(List.range (aA nA).toNat).map fun (i:Nat)=>[aa (i:Int),.Q N 0 0 nA.length 1]
def me {x:List W9}(h:(mc nA N)[k]?=some x):k<(aA nA).toNat/\x=[aa k,.Q N 0 0 nA.length 1]:=by
 unfold mc at h;rw[List.getElem?_map]at h;have hk:k<(aA nA).toNat:=by
  rcases Tg k (aA nA).toNat with h1|h1
  ·exact h1
  ·rw[SX (by simpa using h1)]at h;simp at h
 rw[Th hk]at h;simp at h;exact⟨hk,h.symm⟩
def PK (h:k<(aA nA).toNat):(mc nA N)[k]?=some [aa k,.Q N 0 0 nA.length 1]:=by
 unfold mc;rw[List.getElem?_map,Th h];rfl
def qW (nA:List Int)(N:Nat):(mc nA N).length=(aA nA).toNat:=by simp[mc]
def lj (nA:List Int)(N k:Nat)(H:Xn):Prop:=H.get N=some (.J 0 3 (ints (bH nA k)))
def sQ (nA:List Int)(hc1:∀c∈nA,1<=c)(hs:dR nA)(b N:Nat)(hbN:b<N):
  Ek prog G0 143 [] [.R b 0 0] (mc nA N) N (fun H=>H.get b=some (.J 0 46 [ah nA])) (lj nA N):=by
 intro idy J Stop H K hN hS0 hJw hJ0 hY hK hSt;have l0:=af (hS0 0 H hJ0);have h12:=hs.1;have hpp:=hs.prod;have hp1:=fu hc1;show ae _ _ _ ([.ni idy]++[.R b 0 0]) _ _;refine ae.st (n:=45) (rs:=[]) func143 ?_;simp only[go_sem,l0];refine⟨O,?_⟩;have fitI:∀i:Nat,bI nA (bH nA i):=fun i=>oZ hc1 _;have idxI:∀i:Nat,i<(aA nA).toNat->bG nA (bH nA i)=i:=fun i hi=>yi hc1 O O;subst hN;refine W.aP 35184372088368 (by rfl) (fun ρ H'=>∃i:Nat,ρ 4=aa i/\i<(aA nA).toNat/\J i H'/\lj nA H.A i H'/\H.A+1<=H'.A) (fun ρ H=>(aA nA).toNat-(iv (ρ 4)).toNat) ?_ ?_
 ·simp only[go_sem];refine⟨0,rfl,O,hJw 0 H _ hJ0 ⟨by rw[aX];omega,fun id _ h=>cP _ _ _ h⟩,?_⟩;show (ext H _).get H.A=_;rw[cV];have:bH nA ((0:Nat):Int)=List.replicate nA.length 0:=by
   rw[show ((0:Nat):Int)=0 from rfl,BJ hc1];exact Wm ..
  rw[this];simp[ints,aa]
 rintro ρ H' ⟨i,h4,hi,hj,hcs,hn⟩;refine W.en (fun E=>E 1=.R b 0 0 /\ E 0=.ni idy /\ E 3=.Q H.A 0 0 nA.length 1 /\ E 4=aa i) (by simp only[go_sem,h4]) fun E ⟨e1,e0,e3,e4⟩=>?_
 refine W.vs ?_;simp only[go_sem,e0,e3,e4];refine hY i [aa i,.Q H.A 0 0 nA.length 1] H' _ (PK hi) hj hcs O (fun H2 hj2 hcs2 hn2=>⟨trivial,?_⟩) (fun H2 hs2 hn2=>⟨trivial,?_⟩);rotate_left
 ·simp only[go_sem];exact ar.mk O (hSt H2 hs2 O)
 have hb2:=hS0 _ _ hj2;have lb:=af hb2;have w0:=SN ((nA.length:Int)-1) O;obtain⟨vs,hvs⟩:∃vs,vs=bH nA i:=⟨_,rfl⟩
 have hvl:vs.length=nA.length:=by rw[hvs,uM]
 have hfit:bI nA vs:=by rw[hvs];exact fitI i
 have hsucc:=Np hfit;rw[show bG nA vs=i from by rw[hvs];exact idxI i hi]at hsucc;simp only[go_sem,e1,lb,w0];refine W.aP 137438691360 (by rfl) (fun ρ2 H4=>∃m:Nat,ρ2 5=aa ((m:Int)-1)/\m<=nA.length/\wC H.A H2 H4/\H4.get H.A=some (.J 0 3 (ints (vs.take m++(nA.drop m).map fun _=>0)))/\(∀(j:Nat) (a b:Int),m<=j->nA[j]?=some a->vs[j]?=some b->b=a-1))
  (fun ρ2 H=>(iv (ρ2 5)+1).toNat) ?_ ?_
 ·simp only[go_sem];refine⟨nA.length,rfl,O,⟨W8,fun _ _ _=>rfl⟩,?_,fun j a b hm ha=>?_⟩
  ·have hg:H2.get H.A=_:=hcs2;rw[<- hvs]at hg;rw[hg,SR O,WC O];simp
  ·have:=aI ha;omega
 rintro ρ2 H4 ⟨m,h5,hm,hw,hg,hmax⟩;refine W.en (fun E2=>E2 1=.R b 0 0 /\ E2 3=.Q H.A 0 0 nA.length 1 /\ E2 4=aa i /\ E2 5=aa ((m:Int)-1)) (by simp only[go_sem,e1,e3,e4,h5]) fun E2 ⟨f1,f3,f4,f5⟩=>?_
 refine W.vs ?_;have hw1:=hw.1;have lN:=af hg;have lb4:=af ((hw.2 b O O).trans hb2);have hj4:J (i+1) H4:=hJw _ _ _ hj2 hw;have clen:(vs.take m++(nA.drop m).map fun _=>(0:Int)).length=nA.length:=by simp;omega
 by_cases hm0:m=0
 ·subst hm0;have f5':E2 5=aa (-1):=f5;have hnone:=PJ hvl fun j a b ha hb=>hmax j a b (Uh _) ha hb;rw[hnone]at hsucc;have htot:¬(i:Int)+1<aA nA:=fun h=>by rw[SU h]at hsucc;cases hsucc
  have hti:i+1=(mc nA H.A).length:=by rw[qW];omega
  simp only[go_sem];refine W.dr 12 [0,1,3,7,7,31,63,7,7,391,903,1927] mixed ?_;simp only[go_sem,f5'];exact ar.mk O (hK H4 (by rw[<- hti];exact hj4) O)
 obtain⟨k,rfl⟩:∃k,m=k+1:=⟨m-1,O⟩
 have f5':E2 5=aa k:=by rw[f5];congr 1;omega
 obtain⟨c,hck⟩:=aq (l:=nA) (i:=k) O;obtain⟨v,hvk⟩:=aq (l:=vs) (i:=k) O;have hne:=aM hck;have hr:=hfit.2 k c v hck hvk;have hcs8:=hs.2 c (an hck);have hvk':(vs.take (k+1)++(nA.drop (k+1)).map fun _=>(0:Int))[k]?=some v:=by
  rw[Ta (by simp;omega),TL O];exact hvk
 have hk0:(k:Int) >= 0:=O
 have hkc:(k:Int)<nA.length:=O
 have w1:=SN (c-1) O;have w2:=SN ((k:Int)-1) O;have w3:=SN (v+1) O;have w4:=SN ((i:Int)+1) O;have hk1:¬(k:Int)<0:=O
 by_cases hv:v=c-1
 ·simp only[go_sem];refine W.dr 12 [0,1,3,7,7,31,63,7,7,391,903,1927] mixed ?_;simp only[go_sem,f1,f3,f5',hk0,hkc,lN,lb4,hvk',hck,hne,w1,w2,hv];refine⟨by rw[<- List.length_append,clen];omega,by rw[aF];omega,⟨k,rfl,O,⟨by rw[aF];exact hw.1,fun id h1 h2=>by rw[ag,SQ h1];exact hw.2 id h1 h2⟩,?_,fun j a b hj ha hb=>?_⟩,?_⟩
  ·rw[ag,SU rfl,gU (by rw[clen];omega)];congr 3;rw[aU hvk,List.append_assoc,Ue _ _ (by simp;omega),Nk hck];simp;rw[show k-min k vs.length=0 by omega];rfl
  ·rcases Tg k j with h|h
   ·exact hmax j a b O ha hb
   ·obtain rfl:j=k:=O;rw[hck]at ha;rw[hvk]at hb;cases ha;cases hb;exact hv
  ·rw[h5];simp only[aa,bj];omega
 ·simp only[go_sem];refine W.dr 12 [0,1,3,7,7,31,63,7,7,391,903,1927] mixed ?_;simp only[go_sem,f1,f3,f4,f5',hk0,hk1,hkc,lN,lb4,hvk',hck,hne,w1,w3,w4,hv];have hat:=PI hvl hck hvk O fun j a b hj ha hb=>hmax j a b O ha hb;rw[hat]at hsucc;have hlt:(i:Int)+1<aA nA:=by
   refine TS fun h=>?_;rw[SQ h]at hsucc;cases hsucc
  rw[SU hlt]at hsucc;have hw5:wC H.A H2 (H4.upd H.A (.J 0 3 (setAt (ints (vs.take (k+1)++(nA.drop (k+1)).map fun _=>(0:Int))) k [.lit (.int .i64 (v+1))]))):=⟨by rw[aF];exact hw.1,fun id h1 h2=>by rw[ag,SQ h1];exact hw.2 id h1 h2⟩
  refine⟨by rw[<- List.length_append,clen];omega,by rw[aF];omega,⟨i+1,W5,O,hJw _ _ _ hj2 hw5,?_,by rw[aF];omega⟩,?_⟩
  ·show (H4.upd H.A _).get H.A=_;rw[ag,SU rfl,gU (by rw[clen];omega)];congr 3;have e:bH nA ((i+1:Nat):Int)=vs.take k++(v+1) :: (nA.drop (k+1)).map fun _=>0:=by
    have:=Option.some.inj hsucc;rw[show ((i+1:Nat):Int)=(i:Int)+1 by omega];exact this.symm
   rw[e,aU hvk,List.append_assoc,Ue _ _ (by simp;omega)];simp;rw[show k-min k vs.length=0 by omega];rfl
  ·rw[h4];simp only[aa,bj];omega
def sR (nA:List Int)(H:Xn)(K:Xd->Xn->Prop)(hK:K (.ret (.Z 143 [] [.R H.A 0 0])) (ext H [.J 0 46 [ah nA]])):
  ae prog G0 118 [ah nA] H K:=by
 refine ae.st (n:=4) (rs:=[.tmp 2]) func118 ?_;simp only[go_sem];exact ar.mk (by simp[aX]) hK
def jy (ns:List Xl)(x:Xl)(vals:List Int):List Int:=x.nn.getD (bG (aV ns x) (aB vals x.F)).toNat []
def fP (ns:List Xl)(vals:List Int)(v:Nat):Int:=match ns[v]? with
 |some x=>(jy ns x vals).getD (vals.getD v 0).toNat 0
 |none=>1
def gD (ns:List Xl)(vals:List Int):List Int:=(List.range ns.length).map (fP ns vals)
def weight (ns:List Xl)(vals:List Int):Int:=aA (gD ns vals)
def bD (ns:List Xl):Nat:=(aA (aj ns)).toNat
def fy (ns:List Xl):List Int:=(List.range (bD ns)).map fun (i:Nat)=>weight ns (bH (aj ns) (i:Int))
def lS (ns:List Xl)(vals:List Int)(u:Xm):Int:=u.w.getD (bG (aB (aj ns) u.vars) (aB vals u.vars)).toNat 0
def bB (ns:List Xl)(us:List Xm)(vals:List Int):Int:=(us.map (lS ns vals)).sum
def ig (ns:List Xl)(us:List Xm)(k:Nat):Int:=((List.range k).map fun (i:Nat)=>weight ns (bH (aj ns) i)*bB ns us (bH (aj ns) i)).sum
def BQ (ns:List Xl)(us:List Xm)(k:Nat):ig ns us (k+1)=ig ns us k+weight ns (bH (aj ns) k)*bB ns us (bH (aj ns) k):=by
 unfold ig;rw[TP];simp
def uS (ns:List Xl)(vals:List Int):(gD ns vals).length=ns.length:=by simp[gD]
def BR {ns:List Xl}{vals:List Int}{v:Nat}(h:v<ns.length):(gD ns vals)[v]?=some (fP ns vals v):=by
 unfold gD;rw[List.getElem?_map,Th h];rfl
end Go.Proofs
