/- Own work: contracts. -/
import Derived.Test.YteolcdbjdgimhaaGreatConA
set_option linter.all false
set_option maxHeartbeats 8000000
set_option maxRecDepth 100000
namespace Go.Proofs
open Go.Hx Tryz
variable {g:Int}{c:List Int}{ns:List ZL}{D k n v:Nat}{p:Prop}{H H':ZJ}{x:ZL}{d:ZM}
def AH:ZK:=.agg [.lit (.int .i64 0),ah [],ah [],ah [],ah []]
def AI (g:Int)(ns:List ZL):ZK:=.agg [.lit (.int .i64 g),dX ns,ah (ak ns),jJ (bF ns),ah (bp ((gI (bF ns)).getD []))]
structure RdS (g:Int)(ns:List ZL)(H H':ZJ)(c:List Int)(s:List Nat):Prop where
 nx:H.A+5<=H'.A
 ov:ZN H H'
 b0:H'.get H.A=some (.J 0 81 [.lit (.int .i64 g),.Q ns.length (aG ns)])
 b1:H'.get (H.A+1)=some (.J 0 201 [.lit (.int .i64 0),.lit (.slice none 0 0),.lit (.slice none 0 0),.lit (.slice none 0 0),.lit (.slice none 0 0)])
 b2:H'.get (H.A+2)=some (.J 0 3 (ints c))
 b3:H'.get (H.A+3)=some (.J 0 35 (s.map bY))
 b4:H'.get (H.A+4)=some (.J 0 201 [.lit (.int .i64 g),.Q ns.length (aG ns),.U (H.A+2) 0 0 ns.length 1,.U (H.A+3) 0 0 ns.length 1,.lit (.slice none 0 0)])
 cl:c.length=ns.length
 sl:s.length=ns.length
def RdS.over {H2:ZJ}{s:List Nat}(h:RdS g ns H H' c s)(o:ZN H' H2):RdS g ns H H2 c s where
 nx:=Wm h.nx o.A
 ov:=h.ov.trans o
 b0:=(o.nb _ (by have:=h.nx;omega)).trans h.b0
 b1:=(o.nb _ (by have:=h.nx;omega)).trans h.b1
 b2:=(o.nb _ (by have:=h.nx;omega)).trans h.b2
 b3:=(o.nb _ (by have:=h.nx;omega)).trans h.b3
 b4:=(o.nb _ (by have:=h.nx;omega)).trans h.b4
 cl:=h.cl
 sl:=h.sl
def RdS.Tb {s:List Nat}(h:RdS g ns H H' c s)(hk:k<c.length)(x:Int):RdS g ns H (H'.upd (H.A+2) (.J 0 3 (setAt (ints c) k [.lit (.int .i64 x)]))) (c.set k x) s where
 nx:=h.nx
 ov:=h.ov.upd O _
 b0:=by rw[af,Vx O];exact h.b0
 b1:=by rw[af,Vx O];exact h.b1
 b2:=by rw[af,VA rfl,gJ hk]
 b3:=by rw[af,Vx O];exact h.b3
 b4:=by rw[af,Vx O];exact h.b4
 cl:=by simpa using h.cl
 sl:=h.sl
def Td {l:List Nat}{i:Nat}{x:Nat}(h:i<l.length):setAt (l.map bY) i [.lit (.int .u64 (x:Int))]=(l.set i x).map bY:=by
 rw[iK (by simpa using h)];simp[bY]
def RdS.Te {s:List Nat}(h:RdS g ns H H' c s)(hk:k<s.length)(x:Nat):RdS g ns H (H'.upd (H.A+3) (.J 0 35 (setAt (s.map bY) k [.lit (.int .u64 (x:Int))]))) c (s.set k x) where
 nx:=h.nx
 ov:=h.ov.upd O _
 b0:=by rw[af,Vx O];exact h.b0
 b1:=by rw[af,Vx O];exact h.b1
 b2:=by rw[af,Vx O];exact h.b2
 b3:=by rw[af,VA rfl,Td hk]
 b4:=by rw[af,Vx O];exact h.b4
 cl:=h.cl
 sl:=by simpa using h.sl
def RdS.l0 {s:List Nat}(h:RdS g ns H H' c s):H'.V H.A 0=some (81,[.lit (.int .i64 g),.Q ns.length (aG ns)]):=ae h.b0
def RdS.l1 {s:List Nat}(h:RdS g ns H H' c s):H'.V (H.A+1) 0=some (201,[.lit (.int .i64 0),.lit (.slice none 0 0),.lit (.slice none 0 0),.lit (.slice none 0 0),.lit (.slice none 0 0)]):=ae h.b1
def RdS.l2 {s:List Nat}(h:RdS g ns H H' c s):H'.V (H.A+2) 0=some (3,ints c):=ae h.b2
def RdS.l3 {s:List Nat}(h:RdS g ns H H' c s):H'.V (H.A+3) 0=some (35,s.map bY):=ae h.b3
def RdS.l4 {s:List Nat}(h:RdS g ns H H' c s):H'.V (H.A+4) 0=some (201,[.lit (.int .i64 g),.Q ns.length (aG ns),.U (H.A+2) 0 0 ns.length 1,.U (H.A+3) 0 0 ns.length 1,.lit (.slice none 0 0)]):=ae h.b4
def sZ {S:Nat->Prop}{nx:Nat}(ns:List ZL):Fz S H nx (.Q ns.length (aG ns)) (.Q ns.length (aG ns)):=by
 refine .Q rfl fun i hi _=>?_;have:∀(l:List ZL) (c:ZK),c∈aG l->Fz S H nx c c:=by
  intro l c hc;unfold aG at hc;obtain⟨r,hr,hc⟩:=Xc.1 hc;obtain⟨x,_,rfl⟩:=VI.1 hr;unfold ZL.cells at hc;simp only[List.mem_cons,List.not_mem_nil,or_false]at hc;rcases hc with rfl|rfl|rfl
  ·exact .lit _
  ·exact .dK _
  ·exact .aE _
 exact this ns _ (Wo _)
def Tf (g:Int)(hg:1<=g/\g<=60)(ns:List ZL)(sets:List Nat)(x:ZL)(hin:fm x.F ns.length)(hsm:dV (aV ns x))(hx1:(x.na.length:Int)<2 ^ 38)(hx2:∀r∈x.na,(r.length:Int)<2 ^ 38)(H:ZJ)(ci si:Nat)
  (h2:H.get ci=some (.J 0 3 (ints (ak ns)))) (h3:H.get si=some (.J 0 35 (sets.map bY))) (hs:sets.length=ns.length) (K:ZP->ZJ->Prop)
  (hK:K (.ret (.lit (.bool (ny g ns x)))) H):ag prog G0 146 [.agg [.lit (.int .i64 g),.Q ns.length (aG ns),.U ci 0 0 ns.length 1,.U si 0 0 ns.length 1,.lit (.slice none 0 0)],.agg [.lit (.int .i64 x.L),.Q x.F.length (ints x.F),aE x.na]] H K:=by
 refine(ag.frame (H:=H) (args:=[.agg [.lit (.int .i64 g),.Q ns.length (aG ns),.U ci 0 0 ns.length 1,.U si 0 0 ns.length 1,.lit (.slice none 0 0)],.agg [.lit (.int .i64 x.L),.Q x.F.length (ints x.F),aE x.na]]) (args':=[.agg [.lit (.int .i64 g),dX ns,ah (ak ns),jJ sets,.lit (.slice none 0 0)],uR x]) (v':=.lit (.bool (ny g ns x))) aJ rfl (fun i hi _=>?_) (S8 g hg ns sets x hin hsm hx1 hx2 cZ _ ⟨_,rfl,.lit _⟩)).mono ?_
 ·match i,hi with
  |0,_ =>
   refine .agg rfl fun i hi _=>?_
   match i,hi with
   |0,_=>exact .lit _
   |1,_=>exact sZ _
   |2,_ =>
    have:=Fz.pZ (nx:=0) h2 (n:=ns.length) (by rw[aR,dk]) (fun c hc=>by
     obtain⟨z,_,rfl⟩:=VI.1 hc;exact⟨_,rfl⟩)
    show Fz _ _ _ _ (.Q (ak ns).length (ints (ak ns)));rw[dk];exact this
   |3,_ =>
    have:=Fz.pZ (nx:=0) h3 (n:=ns.length) (by simp[hs]) (fun c hc=>by
     obtain⟨z,_,rfl⟩:=VI.1 hc;exact⟨_,rfl⟩)
    show Fz _ _ _ _ (.Q sets.length (sets.map bY));rw[hs];exact this
   |4,_=>exact .lit _
  |1,_ =>
   refine .agg rfl fun i hi _=>?_
   match i,hi with
   |0,_=>exact .lit _
   |1,_=>exact .dK _
   |2,_=>exact .aE _
 ·rintro r H' ⟨rfl,rfl⟩;exact hK
def Tg (hx:ns[k]?=some x)(h0:∀q∈x.F,0<=q)(hm:(k:Int)∈x.F):¬mV (bF ns):=fun h=>by
 have hk:=aI (oJ hx);have:=h k hk;rw[bM (oJ hx)]at this;have h1:=zI (bF ns) (bF ns).length (cJ x.F) k (by rw[mT h0];exact V8 hm);unfold ml at this;rw[h1]at this;cases this
def Th (g:Int)(ns:List ZL)(hf:xG ns)(H:ZJ)(K:ZP->ZJ->Prop)(hK:K (.ret (if q7 g ns then .nf [AI g ns,aa 0] else .nf [AH,aa 50])) H):ag prog G0 133 [dJ g ns] H K:=by
 refine ag.Z ⟨_,func133,rfl,rfl⟩ fun hcl=>?_;have no:¬Z5 g ns->∀H',ZN H H'->aq prog G0 H K (.nf [.agg [.lit (.int .i64 0),.lit (.slice none 0 0),.lit (.slice none 0 0),.lit (.slice none 0 0),.lit (.slice none 0 0)],.lit (.int .i64 50)]) H':=fun h H' ov=>by
  rw[Fs h]at hK;refine aq.bC (v':=.nf [AH,aa 50]) aJ hcl ov (.nf rfl fun i hi _=>?_) hK
  match i,hi with
  |0,_ =>
   refine .agg rfl fun i hi _=>?_
   match i,hi with
   |0,_=>exact .lit _
   |1,_=>exact .nil
   |2,_=>exact .nil
   |3,_=>exact .nil
   |4,_=>exact .nil
  |1,_=>exact .lit _
 refine ag.st (n:=140) (rs:=[.cell 2 201,.tmp 3]) func133 ?_;simp only[go_sem,dJ,dX];have l1:=ae (dA H (.J 0 81 [.lit (.int .i64 g),.Q ns.length (aG ns)]) [.J 0 201 [.lit (.int .i64 0),.lit (.slice none 0 0),.lit (.slice none 0 0),.lit (.slice none 0 0),.lit (.slice none 0 0)]]);by_cases c1:g<1
 ·simp only[go_sem,c1];exact no (fun h=>by have:=h.g1;omega) _ (.ext _ _)
 by_cases c2:g > 60
 ·simp only[go_sem,l1,c1,c2];exact no (fun h=>by have:=h.g1;omega) _ (.ext _ _)
 by_cases c3:(ns.length:Int)<1
 ·simp only[go_sem,l1,c1,c2,c3];exact no (fun h=>by have:=h.n1;omega) _ (.ext _ _)
 by_cases c4:(ns.length:Int) > 8
 ·simp only[go_sem,l1,c1,c2,c3,c4];exact no (fun h=>by have:=h.n1;omega) _ (.ext _ _)
 simp only[go_sem,l1,c1,c2,c3,c4];refine W.dr 11 [0,0,2,6,14,0,32,96,224,511,0] mixed ?_;simp only[go_sem,l1]
 repeat (refine And.intro (by first|omega|(simp;done)|(simp;omega)|(intros;omega)|exact⟨rfl,O,O,ko _⟩) ?_)
 obtain⟨Hb,hHb⟩:∃Hb,Hb=ext (ext H [.J 0 81 [.lit (.int .i64 g),.Q ns.length (aG ns)],.J 0 201 [.lit (.int .i64 0),.lit (.slice none 0 0),.lit (.slice none 0 0),.lit (.slice none 0 0),.lit (.slice none 0 0)],.J 0 3 (List.replicate ns.length (.lit (.int .i64 0))),.J 0 35 (List.replicate ns.length (.lit (.int .u64 0)))]) [.J 0 201 [.lit (.int .i64 g),.Q ns.length (aG ns),.U (H.A+2) 0 0 ns.length 1,.U (H.A+3) 0 0 ns.length 1,.lit (.slice none 0 0)]]:=⟨_,rfl⟩
 rw[<- hHb];have R0:RdS g ns H Hb (List.replicate ns.length 0) (List.replicate ns.length 0):=by
  rw[hHb,cW];exact⟨by simp[aM],.ext _ _,dA ..,bH H _ 1 ZF,by rw[bH H _ 2 ZF];simp[ints,aa],by rw[bH H _ 3 ZF];simp[bY],bH H _ 4 ZF,ZF,ZF⟩
 have hcard:∀ {k:Nat},(∀x∈ns.take k,1<=x.L/\x.L<=4)->dV ((ak ns).take k):=fun {k} h=>nu (by simp[ak];omega) fun c hc=>by
  rw[show (ak ns).take k=ak (ns.take k) by simp[ak]]at hc;obtain⟨y,hy,rfl⟩:=VI.1 hc;exact h y hy
 refine W.aP 37778930737057254867176 (by rfl) (fun ρ H'=>∃(k:Nat) (c:List Int),ρ 50=aa k/\k<=ns.length/\ρ 5=aa (aj ((ak ns).take k))/\RdS g ns H H' c (List.replicate ns.length 0)/\Hb.A<=H'.A/\c.take k=(ak ns).take k/\∀x∈ns.take k,1<=x.L/\x.L<=4) (fun ρ H=>ns.length-(iv (ρ 50)).toNat) ?_ ?_
 ·simp only[go_sem];exact⟨0,_,rfl,O,by simp[iT],R0,ZF⟩
 rintro ρ H' ⟨k,c,h50,hk,h5,R,hn,hc,hall⟩;refine W.vs ?_;have q0:=R.l0;have q1:=R.l1;have q2:=R.l2;have q4:=R.l4;have rn:=R.nx;by_cases hb:(k:Int)<ns.length
 ·obtain⟨x,hx⟩:=ao (l:=ns) (i:=k) O;have hxm:=an hx;have hne:=eT hx;have e0:=qE hx;have e1:k*3+3<=(aG ns).length:=by rw[kV];omega
  have R2:=R.over (.ext H' [.J 0 87 [.lit (.int .i64 x.L),.Q x.F.length (ints x.F),aE x.na]]);have p1:=R2.l1;have p2:=R2.l2;have p4:=R2.l4;have nb1:¬H.A+1=H'.A:=O
  have nb2:¬H.A+2=H'.A:=O
  have nb4:¬H.A+4=H'.A:=O
  by_cases d1:x.L<1
  ·simp only[go_sem,h50,p1,hb,hne,e0,e1,d1];exact no (fun h=>by have:=(h.node x hxm).1;omega) _ (R2.ov.upd O _)
  by_cases d2:x.L > 4
  ·simp only[go_sem,h50,p1,hb,hne,e0,e1,d1,d2];exact no (fun h=>by have:=(h.node x hxm).1;omega) _ (R2.ov.upd O _)
  have hall':∀y∈ns.take (k+1),1<=y.L/\y.L<=4:=fun y hy=>by
   rw[aU hx]at hy;rcases V3.1 hy with hy|hy
   ·exact hall y hy
   ·obtain rfl:=List.mem_singleton.1 hy;exact⟨O,O⟩
  have b2:=(hcard hall').prod;rw[aU (dw hx),gQ]at b2;have w1:=Vv ((k:Int)+1) O;have w2:=Vv (aj ((ak ns).take k)*x.L) O;have hkc:k<c.length:=by rw[R.cl];omega
  have p0:∀b,((ext H' [.J 0 87 [.lit (.int .i64 x.L),.Q x.F.length (ints x.F),aE x.na]]).upd (H.A+2) b).V H'.A 0=some (87,[.lit (.int .i64 x.L),.Q x.F.length (ints x.F),aE x.na]):=fun b=>by
   rw[cH O];exact ae cI
  simp only[go_sem,h50,h5,p2,p4,p0,hb,hne,e0,e1,d1,d2,w1,w2];exact⟨O,by rw[aA,aM];omega,⟨k+1,_,ZF,O,by rw[aU (dw hx),gQ],R2.Tb hkc x.L,by rw[aA,aM];omega,Gq hc hkc (dw hx),fun y hy=>hall' y hy⟩,O⟩
 have ek:k=ns.length:=O
 subst ek;rw[Vy ZI]at hall;rw[Vy (by rw[dk];omega)]at h5;have ec:c=ak ns:=by
  rw[Vy (by rw[R.cl];omega),Vy (by rw[dk];omega)]at hc;exact hc
 subst ec;by_cases c5:aj (ak ns) > 1024
 ·simp only[go_sem,h50,h5,q1,hb,c5];exact no (fun h=>by have:=h.size;omega) _ (R.ov.upd O _)
 simp only[go_sem,h50,h5,q4,hb,c5];refine W.aP 340282366920933627760096148915069392648 (by rfl) (fun ρ' H2=>∃(k:Nat) (s:List Nat),ρ' 82=aa k/\k<=ns.length/\RdS g ns H H2 (ak ns) s/\H'.A<=H2.A/\s.take k=(bF ns).take k/\(∀j,k<=j->s.getD j 0=0)/\∀x∈ns.take k,cQ x.F ns.length/\im g ns x) (fun ρ' H=>ns.length-(iv (ρ' 82)).toNat) ?_ ?_
 ·simp only[go_sem];refine⟨0,_,rfl,O,R,rfl,fun j _=>?_,ZF⟩;rw[VB,Wc];split<;>rfl
 rintro ρ' H2 ⟨k,s,h82,hk2,R2,hn2,hs,hs0,hall2⟩;refine W.vs ?_;have r2:=R2.nx;have q4:=R2.l4;by_cases hb2:(k:Int)<ns.length;rotate_left
 ·have es:s=bF ns:=by
   rw[Vy (by rw[R2.sl];omega),Vy (by simp[bF];omega)]at hs;exact hs
  subst es;rw[Vy O]at hall2;have hlt:∀p∈bF ns,p<2 ^ ns.length:=AD fun x hx q hq=>(hall2 x hx).1.2 q hq;have hsl:(bF ns).length=ns.length:=by simp[bF]
  have hlt64:∀p∈bF ns,p<2 ^ 64:=fun p hp=>VM (hlt p hp) (V0 ZG O);have hto:=Ds (ps:=bF ns) (by rw[hsl];exact hlt) O;simp only[go_sem,h82,q4,hb2];have fzs:=Fz.pZ (nx:=0) R2.b3 (n:=ns.length) (by simp[R2.sl]) (fun c hc=>by
   obtain⟨z,_,rfl⟩:=VI.1 hc;exact⟨_,rfl⟩)
  refine au.Z (Ta (bF ns) O hlt64 _ _ (by show Fz _ _ _ _ (.Q (bF ns).length _);rw[hsl];exact fzs) _ ⟨trivial,?_⟩);have q1:=R2.l1;cases hso:(gI (bF ns)).isSome
  ·simp only[go_sem,q1];exact no (fun h=>by rw[hto.2 h.acyc]at hso;cases hso) _ (R2.ov.upd O _)
  have hok:Z5 g ns:=⟨O,O,fun x hx=>⟨hall x hx,(hall2 x hx).1⟩,O,hto.1 hso,fun x hx=>(hall2 x hx).2⟩
  rw[Fq hok]at hK;have q1b:∀b,(H2.upd (H.A+4) b).V (H.A+1) 0=_:=fun b=>(cH O).trans q1;simp only[go_sem,q1b,q4];have ovf:ZN H ((H2.upd (H.A+4) (.J 0 201 [.lit (.int .i64 g),.Q ns.length (aG ns),.U (H.A+2) 0 0 ns.length 1,.U (H.A+3) 0 0 ns.length 1,.Q (bp ((gI (bF ns)).getD [])).length (ints (bp ((gI (bF ns)).getD [])))])).upd (H.A+1) (.J 0 201 [.lit (.int .i64 g),.Q ns.length (aG ns),.U (H.A+2) 0 0 ns.length 1,.U (H.A+3) 0 0 ns.length 1,.Q (bp ((gI (bF ns)).getD [])).length (ints (bp ((gI (bF ns)).getD [])))])):=(R2.ov.upd O _).upd O _;refine aq.bC (v':=.nf [AI g ns,aa 0]) aJ hcl ovf (.nf rfl fun i hi _=>?_) hK
  match i,hi with
  |1,_=>exact .lit _
  |0,_ =>
   refine .agg rfl fun i hi _=>?_
   match i,hi with
   |0,_=>exact .lit _
   |1,_=>exact sZ _
   |2,_ =>
    have hg2:∀b b',((H2.upd (H.A+4) b).upd (H.A+1) b').get (H.A+2)=some (.J 0 3 (ints (ak ns))):=fun b b'=>by rw[af,Vx O,af,Vx O];exact R2.b2
    show Fz _ _ _ (.U (H.A+2) 0 0 ns.length 1) (.Q (ak ns).length (ints (ak ns)));rw[<- dk ns];exact .ints (by show H.A<=_;omega) (hg2 _ _) ZF fun i hi=>by simp[fa,hi]
   |3,_ =>
    have hg3:∀b b',((H2.upd (H.A+4) b).upd (H.A+1) b').get (H.A+3)=some (.J 0 35 ((bF ns).map bY)):=fun b b'=>by rw[af,Vx O,af,Vx O];exact R2.b3
    show Fz _ _ _ (.U (H.A+3) 0 0 ns.length 1) (.Q (bF ns).length ((bF ns).map bY));rw[<- hsl];refine .nz (by show H.A<=_;omega) (hg3 _ _) ZF fun j hj h2 h'=>?_;simp only[Nat.zero_add,VO];exact .lit _
   |4,_=>exact .dK _
 obtain⟨x,hx⟩:=ao (l:=ns) (i:=k) O;have hxm:=an hx;have hne:=eT hx;have e0:=qE hx;have e1:k*3+3<=(aG ns).length:=by rw[kV];omega
 obtain⟨f1,f2,f3⟩:=hf.2 x hxm;simp only[go_sem,h82,hb2,hne,e0,e1];obtain⟨H3,hH3⟩:∃H3,H3=ext H2 [.J 0 87 [.lit (.int .i64 x.L),.Q x.F.length (ints x.F),aE x.na]]:=⟨_,rfl⟩
 have R3:RdS g ns H H3 (ak ns) s:=by rw[hH3];exact R2.over (.ext _ _)
 have nn:H3.A=H2.A+1:=hH3▸rfl
 have gN:=de hH3
 rw[<- hH3];have hks:k<s.length:=by rw[R2.sl];omega
 have s0:s.set k 0=s:=by
  apply V9;intro i;rw[WU];split
  ·rename_i h;subst h;have:=hs0 k ZI;rw[VB,Vz hks]at this;simp only[Option.getD_some]at this;rw[Vz hks,this]
  ·rfl
 refine W.aP 5316911981901723452329847966222259208 (by rfl) (fun ρ2 H4=>∃(j:Nat) (b:Int),ρ2 90=aa j/\j<=x.F.length/\ρ2 10=aa b/\cQ (x.F.take j) ns.length/\(x.F.take j).getLast?.getD (-1)=b/\RdS g ns H H4 (ak ns) (s.set k (cJ (x.F.take j)))/\H3.A<=H4.A/\H4.get H2.A=some (.J 0 87 [.lit (.int .i64 x.L),.Q x.F.length (ints x.F),aE x.na])/\¬(k:Int)∈x.F.take j)
  (fun ρ2 H=>x.F.length-(iv (ρ2 90)).toNat) ?_ ?_
 ·simp only[go_sem];exact⟨0,-1,rfl,O,rfl,.nil,rfl,by rw[show cJ (x.F.take 0)=0 from rfl,s0];exact R3,gN,ZF⟩
 rintro ρ2 H4 ⟨j,b,h90,hj,h10,hp,hbl,R4,hn4,gN4,hself⟩;refine W.vs ?_;have r4:=R4.nx;have t1:=R4.l1;have t3:=R4.l3;have t4:=R4.l4;have tN:=ae gN4;by_cases hb3:(j:Int)<x.F.length
 ·obtain⟨a,ha⟩:=ao (l:=x.F) (i:=j) O;have ham:=an ha;have hane:=aO ha;by_cases d1:a<=b
  ·simp only[go_sem,h90,h10,hb3,ha,hane,d1,t1];refine no (fun h=>?_) _ (R4.ov.upd O _);have hpl:=(h.node x hxm).2;have h0:=hpl.2 a ham;rcases WM j with rfl|hk0
   ·simp at hbl;omega
   ·obtain⟨i,rfl⟩:∃i,j=i+1:=⟨j-1,O⟩
    obtain⟨b',hbj⟩:=ao (l:=x.F) (i:=i) O;rw[xF hbj]at hbl;have:=hpl.lt hbj ha O;simp at hbl;omega
  by_cases d2:a >= ns.length
  ·simp only[go_sem,h90,h10,hb3,ha,hane,d1,d2,t1,t4];exact no (fun h=>by have:=(h.node x hxm).2.2 a ham;omega) _ (R4.ov.upd O _)
  have h0:0<=a:=by
   rcases hg:(x.F.take j).getLast? with _|b'
   ·rw[hg]at hbl;simp at hbl;omega
   ·rw[hg]at hbl;have:=hp.2 b' (Zq hg);simp at hbl;omega
  by_cases d3:a=k
  ·have d1':¬(k:Int)<=b:=O;have d2':¬(k:Int) >= ns.length:=O;simp only[go_sem,h90,h10,hb3,ha,hane,d1',d2',d3,t1,t4];exact no (fun h=>Tg hx (fun q hq=>((h.node x hxm).2.2 q hq).1) (by rw[<- d3];exact ham) h.acyc) _ (R4.ov.upd (id:=H.A+1) O _)
  obtain⟨u,rfl⟩:=VE h0;have w1:=Vv ((j:Int)+1) O;have bm:cJ (x.F.take j)<2 ^ 64:=pG fun p hp'=>by have:=hp.2 p hp';omega
  have v1:=fun t x y=>oU (P:=prog) (t:=t) (x:=x) (y:=y) (k':=.i64) (s:=u) O;have v2:=fun t x y=>lO (P:=prog) (t:=t) (x:=x) (y:=y) (b:=2 ^ u) bm (WY ZG O);have gs:(s.set k (cJ (x.F.take j)))[k]?=some (cJ (x.F.take j)):=VQ hks;simp only[go_sem,h90,h10,hb3,ha,hane,d1,d2,d3,t4];refine W.dr 7 [0,1,0,7,15,0,32] mixed ?_;simp only[go_sem,h90,hb2,t3,t4,gs,v1,v2,w1]
  repeat (refine And.intro (by first|omega|(simp;done)|(simp;omega)|(intros;omega)|exact⟨rfl,O,O,ko _⟩) ?_)
  have R5:=R4.Te (k:=k) (by simpa using hks) (cJ (x.F.take j) |||2 ^ u);rw[Ym]at R5;have esn:cJ (x.F.take (j+1))=cJ (x.F.take j) |||2 ^ u:=by rw[aU ha,wL];rfl
  refine⟨by rw[aA];omega,⟨j+1,u,ZF,O,rfl,?_,by rw[xF ha];rfl,by rw[esn];exact R5,by rw[aA];omega,by rw[af,Vx O];exact gN4,fun hm=>?_⟩,O⟩
  ·rw[aU ha];exact hp.snoc ⟨O,O⟩ fun b' hb'=>by rw[hb']at hbl;simp at hbl;omega
  ·rw[aU ha]at hm;rcases V3.1 hm with hm|hm
   ·exact hself hm
   ·exact d3 (List.mem_singleton.1 hm).symm
 ·have hb3':=hb3;rw[Vy O]at hp hself R4;simp only[go_sem,h90,hb3,t4,tN];have hin:fm x.F ns.length:=fun q hq=>by have:=hp.2 q hq;omega
  refine au.Z (Tf g ⟨O,O⟩ ns _ x hin (jK O hp hall) f2 f3 _ (H.A+2) (H.A+3) R4.b2 R4.b3 R4.sl _ ⟨trivial,?_⟩);cases hnb:ny g ns x
  ·simp only[go_sem,t1];exact no (fun h=>by rw[Fv (h.na x hxm)]at hnb;cases hnb) _ (R4.ov.upd O _)
  have w1:=Vv ((k:Int)+1) O;simp only[go_sem,h82,w1];refine⟨O,⟨k+1,_,ZF,O,R4,O,?_,fun i hi=>?_,fun y hy=>?_⟩,O⟩
  ·have h1:=oJ hx;rw[aU h1,aU (VQ hks),Ye (Nat.le_refl k),hs]
  ·rw[VB,Wa O,<- VB];exact hs0 i (O)
  ·rw[aU hx]at hy;rcases V3.1 hy with hy|hy
   ·exact hall2 y hy
   ·obtain rfl:=List.mem_singleton.1 hy;exact⟨hp,S7.1 hnb⟩
def Ti (g:Int)(ns:List ZL)(hf:xG ns)(H:ZJ)(K:ZP->ZJ->Prop)(hK:K (.ret (aa (if q7 g ns then 0 else 50))) H):ag prog G0 100 [dJ g ns] H K:=by
 refine ag.Z ⟨_,func100,rfl,rfl⟩ fun hcl=>?_;refine ag.st (n:=11) (rs:=[.tmp 2]) func100 ?_;simp only[go_sem,dJ,dX];refine au.Z (Th g ns hf _ _ ⟨trivial,?_⟩);cases hb:q7 g ns
 ·rw[hb]at hK;simp only[go_sem,AH,List.length_nil];exact aq.bC aJ hcl (.ext _ _) (.lit _) hK
 ·rw[hb]at hK;simp only[go_sem,AI,dX];exact aq.bC aJ hcl (.ext _ _) (.lit _) hK
def eH (D v:Nat):List Nat := (List.range v).filter fun v => D.testBit v
def aY (D v:Nat):Nat := (eH D v).length
def aB (d:ZM):List Nat := eH d.Y d.C.length
def wN (D v:Nat):eH D (v + 1)=if D.testBit v then eH D v ++ [v] else eH D v := by
  unfold eH;rw[Wy,List.filter_append];cases h:D.testBit v <;> simp[h]
def P0 :∀ {n:Nat},v <= n -> ∃r,eH D n=eH D v ++ r := by
  intro n
  induction n with
  | zero => intro h; obtain rfl : v = 0 := by omega
            exact⟨[],ZF⟩
  |succ n ih =>
    intro h;by_cases hv:v=n + 1
    · subst hv;exact⟨[],ZF⟩
    · obtain⟨r,hr⟩ := ih O;rw[wN];split
      · exact⟨r ++ [n],by rw[hr,List.append_assoc]⟩
      · exact⟨r,hr⟩
def od (hv:v < n)(hb:D.testBit v=true):(eH D n)[aY D v]? = some v := by
  obtain⟨r,hr⟩ := P0 (D := D) (v := v + 1) (n := n) hv;rw[hr,wN,VA hb,List.append_assoc];unfold aY;simp
def mo (D v:Nat):aY D (v + 1)=if D.testBit v then aY D v + 1 else aY D v := by
  unfold aY;rw[wN];split <;> simp
def fR :v ∈ eH D n ↔ v < n /\ D.testBit v=true := by unfold eH;simp
def fw (h:(eH D n)[k]? = some v):v < n /\ D.testBit v=true /\ aY D v=k := by
  have hm := fR.1 (an h);refine⟨hm.1,hm.2,?_⟩;have h2 := od hm.1 hm.2;have hnd:(eH D n).Nodup := Xp.filter _;have a := aI h;have b := aI h2;rw[Vz a]at h;rw[Vz b]at h2;have e:(eH D n)[aY D v]=(eH D n)[k] := by rw[Option.some.inj h,Option.some.inj h2]
  exact(List.getElem_inj hnd).1 e
def ia :(eH D n).length <= n := by
  have := Zj (fun v => D.testBit v) (List.range n);unfold eH;simpa using this
def cz (g L x:Int):List Int := (List.replicate L.toNat 0).set x.toNat g
def bB (ns:List ZL)(x:ZL):Nat := (aj (aV ns x)).toNat
def eI (g:Int)(ns:List ZL)(c:Nat -> Nat -> Int)(p:Nat)(x:ZL):List (List Int) := (List.range (bB ns x)).map fun r => cz g x.L (c p r)
def fT (d:ZM)(c:Nat -> Nat -> Int)(k v:Nat)(x:ZL):ZL := if d.Y.testBit v=true /\ aY d.Y v < k then { x with na := x.na ++ eI d.X d.C c (aY d.Y v) x } else x
def eJ (d:ZM)(c:Nat -> Nat -> Int)(k:Nat):List ZL := d.C.zipIdx.map fun p => fT d c k p.2 p.1
def cR (d:ZM)(c:Nat -> Nat -> Int):List ZL := eJ d c (aB d).length
def mq (d:ZM)(c:Nat -> Nat -> Int)(k:Nat):(eJ d c k).length=d.C.length := by simp[eJ]
def pJ {c:Nat -> Nat -> Int}(h:d.C[v]? = some x):(eJ d c k)[v]? = some (fT d c k v x) := by
  unfold eJ;rw[List.getElem?_map,Xw,h];simp
def P8 (d:ZM)(c:Nat -> Nat -> Int):eJ d c 0=d.C := by
  apply V9;intro v;cases h:d.C[v]? with
  |none => rw[VD];rw[mq];exact Xs.1 h
  |some x => rw[pJ h];simp[fT]
def P9 {c:Nat -> Nat -> Int}(hd:(aB d)[k]? = some v)(hx:d.C[v]? = some x):eJ d c (k + 1)=(eJ d c k).set v { x with na := x.na ++ eI d.X d.C c k x } := by
  obtain⟨h1,h2,h3⟩ := fw hd;apply V9;intro u;rw[WU];split
  · rename_i h;subst h;rw[pJ hx,VA (by rw[mq];exact h1)];unfold fT;rw[VA ⟨h2,O⟩,h3]
  · rename_i h;cases hu:d.C[u]? with
    |none => rw[VD (by rw[mq];exact Xs.1 hu),VD (by rw[mq];exact Xs.1 hu)]
    |some y =>
      rw[pJ hu,pJ hu];unfold fT;by_cases hb:d.Y.testBit u=true
      · have : aY d.Y u ≠ k := fun e => by
          have h4 := od (aI hu) hb;rw[e]at h4;have h5:(eH d.Y d.C.length)[k]? = some v := hd;rw[h4]at h5;exact h (Option.some.inj h5).symm
        have e:(aY d.Y u < k + 1)=(aY d.Y u < k) :=(by apply propext;omega);simp only[e]
      · simp[hb]
def Qa {c:Nat -> Nat -> Int}:ak (eJ d c k)=ak d.C := by
  apply V9;intro v;unfold ak;rw[List.getElem?_map,List.getElem?_map];cases h:d.C[v]? with
  |none => rw[VD (by rw[mq];exact Xs.1 h)]
  |some x =>
    rw[pJ h];simp only[Option.map_some,fT];split <;> rfl
def jD (d:ZM)(c:Nat -> Nat -> Int)(k v:Nat)(x:ZL):(fT d c k v x).L=x.L /\ (fT d c k v x).F=x.F := by unfold fT;split <;> exact⟨rfl,rfl⟩
def bq (d:ZM):List ZK:=[.lit (.int .i64 d.X),.Q d.C.length (aG d.C),.lit (.int .u64 (d.Y:Int)),.Q d.nn.length (bj d.nn)]
def fW (d:ZM):cM d=.agg (bq d):=rfl
def dU (d:ZM):ZQ:=.J 0 38 (bq d)
def mz (d:ZM):List (List ZK):=(aB d).zipIdx.map fun p=>[aa p.2,aa p.1]
def kE {x:List ZK}(h:(mz d)[k]?=some x):∃v,(aB d)[k]?=some v/\x=[aa k,aa v]:=by
 unfold mz at h;rw[List.getElem?_map,Xw]at h;cases hr:(aB d)[k]? with
 |none=>rw[hr]at h;simp at h
 |some r=>rw[hr]at h;simp at h;exact⟨r,rfl,h.symm⟩
def EZ (h:(aB d)[k]?=some v):(mz d)[k]?=some [aa k,aa v]:=by
 unfold mz;rw[List.getElem?_map,Xw,h];simp
def jZ (d:ZM):(mz d).length=(aB d).length:=by simp[mz]
def lD :∀x∈mz d,x.length=2:=fun x hx=>by
 obtain⟨k,hk⟩:=VG.1 hx;obtain⟨v,_,rfl⟩:=kE hk;rfl
def qS (d:ZM)(hl:(d.C.length:Int)<2 ^ 40)(hD:d.Y<2 ^ 64)(b:Nat):vo prog G0 104 [] [.M b 0 0] (mz d) (fun H=>H.get b=some (dU d)):=by
 intro idy J Stop H K hS hJ0 hY hK hSt;have l0:=ae (hS 0 H hJ0);show ag _ _ _ ([.np idy]++[.M b 0 0]) _ _;refine ag.st (n:=25) (rs:=[]) func104 ?_;simp only[go_sem,l0,bq];refine W.aP 33554200 (by rfl) (fun ρ H'=>∃v:Nat,ρ 8=aa v/\v<=d.C.length/\ρ 3=aa (aY d.Y v)/\J (aY d.Y v) H'/\H.A<=H'.A) (fun ρ H=>d.C.length-(iv (ρ 8)).toNat) ?_ ?_
 ·simp only[go_sem];exact⟨0,rfl,O,rfl,hJ0⟩
 rintro ρ H' ⟨v,h8,hv,h3,hj,hn⟩;refine W.vs ?_;by_cases hb:(v:Int)<d.C.length
 ·have l1:=ae (hS _ _ hj);have s1:=fun t x y=>nE (P:=prog) (t:=t) (x:=x) (y:=y) (k':=.i64) (s:=v) hD;have s2:=fun t x y=>oV (P:=prog) (t:=t) (x:=x) (y:=y) (s:=v) hD;have w1:=Vv ((v:Int)+1) O;have hp:aY d.Y v<=v:=by
   have:(eH d.Y v).length<=v:=ia;exact this
  have w2:=Vv ((aY d.Y v:Int)+1) O;cases hbit:d.Y.testBit v
  ·simp only[go_sem,h8,h3,hb,l1,bq,s1,s2,hbit,w1];exact⟨hn,⟨v+1,ZF,O,by rw[mo,hbit];rfl,by rw[mo,hbit];exact hj,hn⟩,O⟩
  ·have hdx:(mz d)[aY d.Y v]?=some [aa (aY d.Y v),aa v]:=EZ (od O hbit);simp only[go_sem,h8,h3,hb,l1,bq,s1,s2,hbit];refine hY _ _ H' _ hdx hj hn (fun H2 hj2 hn2=>⟨trivial,?_⟩) (fun H2 hs2 hn2=>⟨trivial,?_⟩)
   ·simp only[go_sem,h8,h3,w1,w2];exact⟨O,⟨v+1,ZF,O,by rw[mo,hbit];simp,by rw[mo,hbit];exact hj2,O⟩,O⟩
   ·simp only[go_sem];exact aq.mk O (hSt H2 hs2 O)
 ·simp only[go_sem,h8,hb];have ek:v=d.C.length:=O
  subst ek;exact aq.mk O (hK H' (by rw[jZ];exact hj) hn)
def qT (d:ZM)(H:ZJ)(K:ZP->ZJ->Prop)(hK:K (.ret (.Z 104 [] [.M H.A 0 0])) (ext H [dU d])):
  ag prog G0 60 [cM d] H K:=by
 refine ag.st (n:=4) (rs:=[.tmp 2]) func60 ?_;simp only[go_sem,fW,bq];exact aq.mk (by simp[aM]) hK
def Sw {L x:Int}(hc:0<=L)(h:0<=x/\x<L):setAt (ints (List.replicate L.toNat 0)) x.toNat [.lit (.int .i64 g)]=ints (cz g L x):=by
 rw[gJ (by simp;omega)];rfl
def Sx (g L x:Int)(hc:L<=2 ^ 40)(h:0<=x/\x<L)(H:ZJ)(K:ZP->ZJ->Prop)(hK:K (.ret (ah (cz g L x))) H):ag prog G0 134 [aa g,aa L,aa x] H K:=by
 refine ag.Z ⟨_,func134,rfl,rfl⟩ fun hcl=>?_;obtain⟨n,rfl⟩:=VE (show 0<=L by omega);obtain⟨k,rfl⟩:=VE h.1;have h0:((n:Int)) >= 0:=O
 have hk:(k:Int)<n:=h.2;have hk2:k+1<=n:=O
 refine ag.st (n:=15) (rs:=[.tmp 6]) func134 ?_;simp only[go_sem,hk]
 repeat (refine And.intro (by first|omega|(simp;done)|(simp;omega)|(intros;omega)|exact⟨rfl,O,O,ko _⟩) ?_)
 have e:=Sw (g:=g) (L:=n) (x:=k) O h;simp only[Int.toNat_natCast]at e;rw[show (List.replicate n (ZK.lit (Value.int IntKind.i64 0)))=ints (List.replicate n 0) by simp[ints,aa],e];refine aq.bC aJ hcl (.ext _ _) ?_ hK;exact .ints ZI (dA ..) (by simp[cz]) fun i hi=>by simp[fa,hi]
def Sy (a b:ZK)(H:ZJ)(K:ZP->ZJ->Prop)(hK:K (.ret (aa 0)) H):ag prog G0 102 [a,b] H K:=by
 refine ag.st (n:=5) (rs:=[.tmp 4]) func102 ?_;simp only[go_sem];exact aq.mk ZI hK
noncomputable def lE (p:Prop):Bool:=@decide p (Classical.propDecidable p)
def ep (h:p):lE p=true:=@decide_eq_true _ (Classical.propDecidable _) h
def gU (h:¬p):lE p=false:=@decide_eq_false _ (Classical.propDecidable _) h
def uH :lE p=true↔p:=@decide_eq_true_iff _ (Classical.propDecidable _)
structure Z9 (d:ZM):Prop where
 n1:1<=d.C.length/\d.C.length<=8
 Y:d.Y >>> d.C.length=0
 L:∀x∈d.C,1<=x.L/\x.L<=4
 dec:∀v x,d.C[v]?=some x->d.Y.testBit v=true->x.na=[]/\cQ x.F d.C.length
structure Z1 (d:ZM):Prop where
 C:xG d.C
 Y:d.Y<2 ^ 64
 nn:(d.nn.length:Int)<2 ^ 38/\∀u∈d.nn,(u.vars.length:Int)<2 ^ 38/\(u.w.length:Int)<2 ^ 38
def Sz (d:ZM)(hf:Z1 d)(H:ZJ)(K:ZP->ZJ->Prop)(hK:K (.ret (.lit (.bool (lE (Z9 d))))) H):ag prog G0 99 [cM d] H K:=by
 refine ag.Z ⟨_,func99,rfl,rfl⟩ fun hcl=>?_;have hl:=hf.C.1;have no:¬Z9 d->∀H',ZN H H'->aq prog G0 H K (.lit (.bool false)) H':=fun h H' ov=>aq.bC aJ hcl ov (.lit _) (by rw[gU h]at hK;exact hK);refine ag.st (n:=67) (rs:=[.cell 2 4]) func99 ?_;simp only[go_sem,fW,bq];obtain⟨H1,hH1⟩:∃H1,H1=ext H [.J 0 38 (bq d),.J 0 4 [.lit (.bool false)]]:=⟨_,rfl⟩
 have g1:=de hH1
 have g2:=gE hH1 1 rfl
 have l1:=ae g1;have l2:=ae g2;have n1:H1.A=H.A+2:=hH1▸rfl
 have o1:ZN H H1:=hH1▸.ext _ _
 unfold bq at hH1 l1;rw[<- hH1];have s1:=fun t x y=>nE (P:=prog) (t:=t) (x:=x) (y:=y) (k':=.i64) (s:=d.C.length) hf.Y;by_cases c1:(d.C.length:Int)<1
 ·simp only[go_sem,l2,c1];exact no (fun h=>by have:=h.n1;omega) _ (o1.upd O _)
 by_cases c2:(d.C.length:Int) > 8
 ·simp only[go_sem,l1,l2,c1,c2];exact no (fun h=>by have:=h.n1;omega) _ (o1.upd O _)
 by_cases c3:d.Y >>> d.C.length=0;rotate_left
 ·have c3':¬((d.Y >>> d.C.length:Nat):Int)=0:=O
  simp only[go_sem,l1,l2,c1,c2,c3',s1];exact no (fun h=>c3 h.Y) _ (o1.upd O _)
 have c3':((d.Y >>> d.C.length:Nat):Int)=0:=O
 simp only[go_sem,l1,c1,c2,c3',s1];refine W.aP 4397509640208 (by rfl) (fun ρ H'=>∃k:Nat,ρ 29=aa k/\k<=d.C.length/\ZN H1 H'/\∀x∈d.C.take k,1<=x.L/\x.L<=4) (fun ρ H=>d.C.length-(iv (ρ 29)).toNat) ?_ ?_
 ·simp only[go_sem];exact⟨0,rfl,O,.refl _,ZF⟩
 rintro ρ H' ⟨k,h29,hk,ov,hall⟩;refine W.vs ?_;have ovn:=ov.A;have m1:=(ov.V (g:=0) (by omega:H.A<H1.A)).trans l1;have m2:=(ov.V (g:=0) (by omega:H.A+1<H1.A)).trans l2;by_cases hb:(k:Int)<d.C.length
 ·obtain⟨x,hx⟩:=ao (l:=d.C) (i:=k) O;have hxm:=an hx;have hne:=eT hx;have e0:=qE hx;have e1:k*3+3<=(aG d.C).length:=by rw[kV];omega
  have nb:¬H.A+1=H'.A:=O
  have m3:∀L,(ext H' L).V (H.A+1) 0=_:=fun L=>(ea O).trans m2;by_cases d1:x.L<1
  ·simp only[go_sem,h29,m3,hb,hne,e0,e1,d1];exact no (fun h=>by have:=h.L x hxm;omega) _ (((o1.trans ov).trans (.ext _ _)).upd O _)
  by_cases d2:x.L > 4
  ·simp only[go_sem,h29,m3,hb,hne,e0,e1,d1,d2];exact no (fun h=>by have:=h.L x hxm;omega) _ (((o1.trans ov).trans (.ext _ _)).upd O _)
  have w1:=Vv ((k:Int)+1) O;simp only[go_sem,h29,hb,hne,e0,e1,d1,d2,w1];exact⟨O,⟨k+1,ZF,O,ov.trans (.ext _ _),fun y hy=>by
   rw[aU hx]at hy;rcases V3.1 hy with hy|hy
   ·exact hall y hy
   ·obtain rfl:=List.mem_singleton.1 hy;exact⟨O,O⟩⟩,O⟩
 rw[Vy O]at hall;simp only[go_sem,h29,hb,m1];refine au.Z (qT d _ _ ⟨trivial,?_⟩);simp only[go_sem];obtain⟨H2,hH2⟩:∃H2,H2=ext H' [dU d]:=⟨_,rfl⟩
 rw[<- hH2];have o2:ZN H' H2:=by rw[hH2];exact .ext _ _
 have n2:H2.A=H'.A+1:=by rw[hH2];rfl
 have hbx:H2.get H'.A=some (dU d):=by rw[hH2];exact cI
 refine W.env fun E hE=>?_;have e1:E 1=.M H.A 0 0:=by rw[hE];simp only[go_sem]
 have e2:E 2=.M (H.A+1) 0 0:=by rw[hE];simp only[go_sem]
 have i1:=(o2.V (g:=0) (by omega:H.A<H'.A)).trans m1;have i2:=(o2.nb _ (by omega:H.A+1<H'.A)).trans ((ov.nb _ O).trans g2);have o02:=(o1.trans ov).trans o2;refine W.jN (f:=104) (first:=[]) (cap:=[.M H'.A 0 0]) (by show E 43=_;rw[hE];rfl) (qS d O hf.Y H'.A)
  (fun k Hx=>ZN H2 Hx/\∀v x,v∈(aB d).take k->d.C[v]?=some x->x.na=[]/\cQ x.F d.C.length) (fun c Hx=>c=.ret/\ZN H Hx/\H2.A<=Hx.A/\Hx.get (H.A+1)=some (.J 0 4 [.lit (.bool false)])/\¬Z9 d)
  (fun k Hx h=>by rw[h.1.nb _ O];exact hbx) (fun k Hx b h=>⟨h.1.upd ZI b,h.2⟩) (fun c Hx b h=>⟨h.1,h.2.1.upd O b,h.2.2.1,by rw[af,Vx O];exact h.2.2.2.1,h.2.2.2.2⟩)
  (fun b=>⟨.ext _ _,ZF⟩) ZG lD (fun _ _ _=>trivial) (fun _ _ _=>trivial) (fun k y Hx B Bb hy hj hn hB hBb=>?_) (fun Hx hj hn=>?_) (fun Hx hs hn=>?_) (fun i Hx hs hn=>by cases hs.1)
 ·obtain⟨v,hv,rfl⟩:=kE hy;obtain⟨v1,v2,v3⟩:=fw hv;obtain⟨x,hx⟩:=ao (l:=d.C) (i:=v) v1;refine W.vs ?_;simp only[go_sem,eZ,bb,fO,V6,Ws,V7,Wb,hB];obtain⟨H3,hH3⟩:∃H3,H3=Hx.upd H2.A Bb:=⟨_,rfl⟩
  rw[<- hH3];obtain⟨st,pd,n',en,ps',as',bo,hBe⟩:=hBb;have o3:ZN H2 H3:=by rw[hH3];exact hj.1.upd ZI Bb
  have o4:ZN H H3:=o02.trans o3;have n3:H3.A=Hx.A:=by rw[hH3];rfl
  have j1:=(o3.V (g:=0) (by omega:H.A<H2.A)).trans i1;have j2:=ae ((o3.nb _ (by omega:H.A+1<H2.A)).trans i2);have jB:H3.get H2.A=some Bb:=by rw[hH3,af,VA rfl]
  have hxm:=an hx;obtain⟨f1,f2,f3⟩:=hf.C.2 x hxm;have hne:=eT hx;have e1':=mR hx;have e2':=wK hx;have hvn:(v:Int)<d.C.length:=O
  have stop:¬Z9 d->(H3.upd (H.A+1) (ZQ.J 0 4 [.lit (.bool false)])).get H2.A=some Bb/\Hx.A<=(H3.upd (H.A+1) (ZQ.J 0 4 [.lit (.bool false)])).A/\ZN H (H3.upd (H.A+1) (ZQ.J 0 4 [.lit (.bool false)])) /\
    H2.A<=(H3.upd (H.A+1) (ZQ.J 0 4 [.lit (.bool false)])).A/\(H3.upd (H.A+1) (ZQ.J 0 4 [.lit (.bool false)])).get (H.A+1)=some (.J 0 4 [.lit (.bool false)])/\¬Z9 d:=fun h =>
   ⟨by rw[af,Vx O];exact jB,by rw[aA];omega,o4.upd O _,by rw[aA];omega,by rw[af,VA rfl],h⟩
  refine W.vs ?_;simp only[go_sem];refine W.dr 18 [0,1,0,7,15,31,63,127,255,511,1023,511,4095,8191,16383,511,33279,98815] mixed ?_;by_cases c4:(x.na.length:Int) > 0
  ·simp only[go_sem,bb,e1,e2,j1,j2,hvn,hne,e2',c4,aE,dE];exact stop fun h=>by have:=(h.dec v x hx v2).1;rw[this]at c4;simp at c4
  simp only[go_sem,bb,e1,j1,hvn,hne,e1',e2',c4,aE];refine au.Z (Fo x.F d.C.length O _ _ ⟨⟨_,_,_,_,_,_,_,by rw[jB,hBe]⟩,?_⟩);by_cases c5:cQ x.F d.C.length;rotate_left
  ·simp only[go_sem,bb,e2,j2,c5,dE];exact stop fun h=>c5 (h.dec v x hx v2).2
  simp only[go_sem,bb,c5,dE];refine⟨jB,O,o3,fun u y hu hy2=>?_⟩;rw[aU hv]at hu;rcases V3.1 hu with hu|hu
  ·exact hj.2 u y hu hy2
  ·obtain rfl:=List.mem_singleton.1 hu;rw[hx]at hy2;cases hy2;exact⟨VF O,c5⟩
 ·have hok:Z9 d:=⟨O,c3,hall,fun v x hx hb=>hj.2 v x (by
   rw[jZ,XG];exact fR.2 ⟨aI hx,hb⟩) hx⟩
  rw[ep hok]at hK;have j2:=ae ((hj.1.nb _ (by omega:H.A+1<H2.A)).trans i2);simp only[go_sem,e2,j2];exact aq.bC aJ hcl ((o02.trans hj.1).upd O _) (.lit _) hK
 ·obtain⟨_,o4,n4,g4,hno⟩:=hs;have j2:=ae g4;simp only[go_sem,e2,j2];exact no hno _ o4
end Go.Proofs
namespace Go.Hx
variable {P:Program} {G:Nat->Option (List ZK)}
variable {cs:List ZK}{g i k lo n nx ob rk z:Nat}{S:Nat->Prop}{e:TypeId}{o o' v:ZK}{b:ZQ}
def ZJ.fY (H:ZJ)(rk ob:Nat)(b:ZQ):ZJ:=⟨fun id=>if id=rk then none else if id=ob then some b else H.get id,H.A⟩
variable {H:ZJ}
def U1 (hc:Clo H){cells cells':List ZK}(hob:H.get ob=some (.J g e cells))(hne:ob≠rk)(hl:cells'.length=cells.length)
  (hcell:∀i (h:i<cells.length) (h':i<cells'.length),Fz (fun id=>id=rk) H H.A cells[i] cells'[i]):FzH (fun id=>id=rk) H (H.fY rk ob (.J g e cells')) where
 gone id hs:=by simp[ZJ.fY,hs]
 kept id b hs hb:=by
  have hbb:=hc.below id b hb;refine⟨hc.lt id b hb,?_⟩;by_cases h:id=ob
  ·subst h;rw[hob]at hb;cases hb;exact⟨.J g e cells',by simp[ZJ.fY,hs],rfl,rfl,hl,hcell⟩
  ·refine⟨b,by simp[ZJ.fY,hs,h,hb],?_⟩;cases b with
   |nt=>trivial
   |mp=>rfl
   |J g e cells=>exact⟨rfl,rfl,rfl,fun i h _=>.dead (hbb i h)⟩
   |loop st pend n env ps asg body=>exact⟨rfl,rfl,rfl,rfl,rfl,rfl,rfl,fun t ht=>.dead (hbb t ht)⟩
 none id hs hb:=by
  by_cases h:id=ob
  ·subst h;rw[hob]at hb;cases hb
  ·simp[ZJ.fY,hs,h,hb]
theorem eF.fY (hG:gD G){s:St}{cells cells':List ZK}(hob:s.H.get ob=some (.J g e cells))(hne:ob≠rk)(hl:cells'.length=cells.length)
  (hcell:∀i (h:i<cells.length) (h':i<cells'.length),Fz (fun id=>id=rk) s.H s.H.A cells[i] cells'[i]):eF P G s ⟨s.ρ,s.H.fY rk ob (.J g e cells')⟩:=by
 intro n wb Γ a w hs;exact eF.freeze (s:=s) (s':=⟨s.ρ,s.H.fY rk ob (.J g e cells')⟩) hG (U1 hs.heap.Z hob hne hl hcell) (fun t=>.dead (hs.env t).r8) n wb Γ a w hs
def U2 {A B:List ZK}(hA:∀v,v∈A->Fz S H nx v v)(ho:Fz S H nx o o')(hB:∀v,v∈B->Fz S H nx v v):
  ∀i (h:i<(A++o :: B).length) (h':i<(A++o' :: B).length),Fz S H nx (A++o :: B)[i] (A++o' :: B)[i]:=by
 induction A with
 |nil =>
  intro i h h';cases i with
  |zero=>exact ho
  |succ i=>exact hB _ (Wo (l:=B) (by simpa using h))
 |cons a A ih =>
  intro i h h';cases i with
  |zero=>exact hA a (ZF)
  |succ i=>exact ih (fun v hv=>hA v (by simp[hv])) i (by simpa using h) (by simpa using h')
def U3 {A B:List ZK}(h:A.length=i):setAt (A++o :: B) i [o']=A++o' :: B:=by
 subst h;simp[setAt]
def x8 (h:ob≠rk):(H.fY rk ob b).get ob=some b:=by simp[ZJ.fY,h]
def nG {id:Nat}(h:id≠rk)(h2:id≠ob):(H.fY rk ob b).get id=H.get id:=by simp[ZJ.fY,h,h2]
def A2 {l:List ZK}{a b:ZK}(hl:∀v,v∈l->Fz S H nx v v)(hab:Fz S H nx a b):∀j (h:j<(l.set i a).length) (h':j<(l.set i b).length),Fz S H nx (l.set i a)[j] (l.set i b)[j]:=by
 intro j h h';rw[Yv,Yv];split
 ·exact hab
 ·exact hl _ (Wo _)
def W.vp {rd:Option Nat}{Q Q':AX->St->Prop}{c:Code}{s:St}(h:W P G n rd c Q' s)(hw:∀e s2,Q' e s2->∃s3,eF P G s2 s3/\s2.H.A<=s3.H.A/\fZ s3.H rd/\Q e s3):W P G n rd c Q s:=by
 intro wb Γ a w rb hs hr;refine wpIn_mono (h wb Γ a w rb hs hr) fun e a' w' hp=>?_;obtain⟨x,s',Γ',hx,hq,hrel,E,hn,hrd,hfr⟩:=hp;obtain⟨s3,hw3,hn3,hri,hq3⟩:=hw x s' hq;obtain⟨Γ3,hs3,E3,hrd3⟩:=hw3 n wb Γ' a' w' hrel;exact⟨x,s3,Γ3,hx,hq3,hs3,E.trans hn E3,Wm hn hn3,hrd3 rd rb hrd hri,hfr⟩
def aD.ne (h:aD lo H e v cs)(hk:k<lo):∀g n,v≠.U k g 0 n 1:=fun g n he=>by
 rcases h with ⟨h,_⟩|⟨i2,g2,a1,_,h,_⟩
 ·rw[h]at he;cases he
 ·rw[h]at he;have:=ZK.U.inj he;omega
def eO (lo:Nat)(H:ZJ)(e:TypeId)(z:Nat)(v:ZK)(n:Nat)(cs:List ZK):Prop :=
 (v=.lit (.slice none 0 0)/\n=0/\cs=[])\/∃id g,lo<=id/\id<H.A/\v=.U id g 0 n z/\cs.length=n*z/\H.get id=some (.J g e cs)
def eO.nil :eO lo H e z (.lit (.slice none 0 0)) 0 []:=.inl ⟨rfl,rfl,rfl⟩
variable {H':ZJ}
def eO.nc (h:eO lo H e z v n cs)(hn:H.A<=H'.A)(hk:∀id g,lo<=id->id<H.A->v=.U id g 0 n z->H'.get id=H.get id):eO lo H' e z v n cs:=by
 rcases h with h|⟨id,g,h1,h2,h3,h4,h5⟩
 ·exact .inl h
 ·exact .inr ⟨id,g,h1,O,h3,h4,(hk id g h1 h2 h3).trans h5⟩
def eO.over (h:eO lo H e z v n cs)(ho:ZN H H'):eO lo H' e z v n cs:=h.nc ho.A fun id _ _ h2 _=>ho.nb id h2
theorem eO.one (h:eO lo H e z v n cs):v.one=true:=by
 rcases h with ⟨rfl,_⟩|⟨_,_,_,_,rfl,_⟩<;>rfl
theorem eO.cells (h:eO lo H e z v n cs):v.cells=[v]:=by
 rcases h with ⟨rfl,_⟩|⟨_,_,_,_,rfl,_⟩<;>rfl
def eO.ne {m:Nat}(h:eO lo H e z v m cs)(hk:k<lo):∀g n,v≠.U k g 0 n z:=fun g n he=>by
 rcases h with ⟨h,_⟩|⟨i2,g2,a1,_,h,_⟩
 ·rw[h]at he;cases he
 ·rw[h]at he;have:=ZK.U.inj he;omega
def vr {t:TypeId}{m:Nat}{xs:List ZK}{zs:List ZK}(ht:P.underlying t=some (.slice e))(hz:P.cellsOf e=z)(hzero:cw P e=some zs)(hx:xs.all ZK.one=true)(hxl:xs.length=z)
  (hb:(n+1)*P.bytesOf e<=2 ^ 46/\n+1<=2 ^ 46) (ho:eO lo H e z v n cs) (hlo:lo<=H.A) (hn:m=H.A+1):
  ∃v' H',cr P (ext H [.J 0 e xs]) m t t v (.U H.A 0 0 1 z)=some (v',H')/\eO lo H' e z v' (n+1) (cs++xs)/\H.A<=H'.A/\(∀k,k<H.A->(∀g n,v≠.U k g 0 n z)->H'.get k=H.get k):=by
 have hne:(ext H [.J 0 e xs]).A=H.A+1:=rfl;have hsrc:dH (ext H [.J 0 e xs]) z (.U H.A 0 0 1 z)=some (1,xs):=by
  unfold dH;have:=ae (H:=ext H [.J 0 e xs]) (g:=0) (cI (b:=.J 0 e xs));simp[this,<- hxl]
 rcases ho with ⟨rfl,rfl,rfl⟩|⟨i,g,h1,h2,rfl,h4,h5⟩
 ·refine⟨.U m 0 0 1 z,ext (ext H [.J 0 e xs]) [.J 0 e xs],?_,.inr ⟨m,0,O,by rw[aM,hne,hn];simp,ZF,by simp[hxl],?_⟩,by rw[aM,hne];omega,fun k hk _=>?_⟩
  ·unfold cr;rw[ht];simp only[hzero,hz,Option.bind_some];rw[hsrc];simp only[Option.bind_some];rw[Vx ZG,VA (by simpa using hb),wB (by rw[hn,hne])];rfl
  ·rw[hn,<- hne];exact cI
  ·rw[aX (by rw[hne];omega),aX hk]
 ·have h5':(ext H [.J 0 e xs]).get i=some (.J g e cs):=by rw[aX h2];exact h5
  refine⟨.U i (g+1) 0 (n+1) z,(ext H [.J 0 e xs]).upd i (.J (g+1) e (cs++xs)),?_,.inr ⟨i,g+1,h1,by rw[aA,hne];omega,rfl,by simp[h4,hxl,Wx],by rw[af,VA rfl]⟩,by rw[aA,hne];omega,fun k hk hne2=>?_⟩
  ·unfold cr;rw[ht];have hl:=ae h5';simp only[hzero,hz,Option.bind_some];rw[hsrc];simp only[Option.bind_some,hl];rw[VA ⟨trivial,trivial,O,hb.1,hb.2,hx⟩];simp
  ·rw[af,Vx,aX hk];rintro rfl;exact hne2 _ _ rfl
end Go.Hx
namespace Go.Proofs
open Go.Hx Tryz
variable {p:List (List Int)}{cs:List ZK}{i n nx v:Nat}{S e:Nat->Prop}{H H':ZJ}{d:ZM}
def eU (x:ZL):ZK:=if x.na=[] then .lit (.slice none 0 0) else aE x.na
def ZL.gZ (x:ZL):List ZK:=[aa x.L,ah x.F,eU x]
def bD (l:List ZL):List ZK:=(l.map ZL.gZ).flatten
def mW (l:List ZL):(bD l).length=l.length*3:=mh (f:=ZL.gZ) (fun _=>rfl) l
variable {l:List ZL}{x:ZL}
def qF (h:l[i]?=some x):(bD l)[i*3]?=some (aa x.L):=jW (f:=ZL.gZ) (z:=3) (fun _=>rfl) l i 0 x h (O)
def qG (h:l[i]?=some x):(bD l)[i*3+1]?=some (ah x.F):=jW (f:=ZL.gZ) (z:=3) (fun _=>rfl) l i 1 x h (O)
def ur (h:l[i]?=some x):(bD l)[i*3+2]?=some (eU x):=jW (f:=ZL.gZ) (z:=3) (fun _=>rfl) l i 2 x h (O)
def Qb (l:List ZL)(x:ZL):bD (l++[x])=bD l++[aa x.L,ah x.F,eU x]:=by unfold bD;simp[ZL.gZ]
def Qc (h:l[i]?=some x):¬bD l=[]:=fun e=>by
 have:=qF h;rw[e]at this;simp at this
def Qd (l:List (List Int)):aE l=.Q l.length (l.map ah):=rfl
def Du (h:x.na=[]):eU x=.lit (.slice none 0 0):=VA h
def zK (h:x.na≠[]):eU x=aE x.na:=Vx h
variable {y:ZL}
def Dv (h:l[i]?=some x)(hy:y.L=x.L/\y.F=x.F):bD (l.set i y)=setAt (bD l) (i*3+2) [eU y]:=by
 have hi:=aI h;have hl:=mW l;rw[iK O];apply V9;intro p;rw[WU];have hp:p=(p / 3)*3+p % 3:=O
 by_cases hb:p / 3<l.length
 ·by_cases hpi:p / 3=i
  ·have e0:(l.set i y)[p / 3]?=some y:=(by rw[hpi,VQ hi]);have c3:p % 3=0\/p % 3=1\/p % 3=2:=O;rcases c3 with c|c|c
   ·rw[Vx O,hp,c,Nat.add_zero,qF e0,qF (by rw[hpi];exact h),hy.1]
   ·rw[Vx O,hp,c,qG e0,qG (by rw[hpi];exact h),hy.2]
   ·rw[VA O,VA O,hp,c,ur e0]
  ·obtain⟨z,hz⟩:=ao hb;have e0:(l.set i y)[p / 3]?=some z:=(by rw[Wa O];exact hz);have c3:p % 3=0\/p % 3=1\/p % 3=2:=O;rcases c3 with c|c|c
   ·rw[Vx O,hp,c,Nat.add_zero,qF e0,qF hz]
   ·rw[Vx O,hp,c,qG e0,qG hz]
   ·rw[Vx O,hp,c,ur e0,ur hz]
 ·rw[VD (by rw[mW,VW];omega),Vx O,VD O]
def Dw (x:ZL):Fz S H nx (eU x) (aE x.na):=by
 unfold eU;split
 ·rename_i h;rw[h];exact .nil
 ·exact .aE _
def Qe (x:ZL):Fz S H nx (eU x) (eU x):=by
 unfold eU;split
 ·exact .lit _
 ·exact .aE _
def zL :∀(l:List ZL) (i:Nat) (h:i<(bD l).length) (h':i<(aG l).length),Fz S H nx (bD l)[i] (aG l)[i]:=by
 intro l i h h';have hb:i / 3<l.length:=by rw[mW]at h;omega
 obtain⟨x,hx⟩:=ao hb;have hp:i=(i / 3)*3+i % 3:=O
 have g1:(bD l)[i]?=some (bD l)[i]:=Vz h;have g2:(aG l)[i]?=some (aG l)[i]:=Vz h';generalize (bD l)[i]=a at g1 ⊢;generalize (aG l)[i]=b at g2 ⊢;have c3:i % 3=0\/i % 3=1\/i % 3=2:=O
 rcases c3 with c|c|c
 ·rw[hp,c,Nat.add_zero,qF hx]at g1;rw[hp,c,Nat.add_zero,iS hx]at g2;cases g1;cases g2;exact .lit _
 ·rw[hp,c,qG hx]at g1;rw[hp,c,mR hx]at g2;cases g1;cases g2;exact .dK _
 ·rw[hp,c,ur hx]at g1;rw[hp,c,wK hx]at g2;cases g1;cases g2;exact Dw x
def zM (l:List ZL):∀c∈bD l,Fz S H nx c c:=by
 intro c hc;unfold bD at hc;obtain⟨r,hr,hc⟩:=Xc.1 hc;obtain⟨x,_,rfl⟩:=VI.1 hr;unfold ZL.gZ at hc;simp only[List.mem_cons,List.not_mem_nil,or_false]at hc;rcases hc with rfl|rfl|rfl
 ·exact .lit _
 ·exact .dK _
 ·exact Qe x
structure ZZ (e:Nat->Prop)(ns:List ZL)(cs:List ZK):Prop where
 len:cs.length=ns.length*3
 node:∀(v:Nat) (x:ZL),ns[v]?=some x->∃rv,cs[v*3]?=some (aa x.L)/\cs[v*3+1]?=some (ah x.F)/\cs[v*3+2]?=some rv/\(rv=aE x.na\/rv=eU x)/\(e v->rv=eU x)
def Qf (e:Nat->Prop)(ns:List ZL):ZZ e ns (bD ns):=⟨mW ns,fun v x hx=>⟨_,qF hx,qG hx,ur hx,.inr rfl,fun _=>rfl⟩⟩
variable {ns:List ZL}
def ZZ.c0 (h:ZZ e ns cs)(hx:ns[v]?=some x):cs[v*3]?=some (aa x.L):=(h.node v x hx).elim fun _ h=>h.1
def ZZ.c1 (h:ZZ e ns cs)(hx:ns[v]?=some x):cs[v*3+1]?=some (ah x.F):=(h.node v x hx).elim fun _ h=>h.2.1
def ZZ.ne (h:ZZ e ns cs)(hx:ns[v]?=some x):¬cs=[]:=fun he=>by
 have:=h.c0 hx;rw[he]at this;simp at this
def ZZ.part (h:ZZ e ns cs)(hx:ns[v]?=some x):∃rv,(cs.drop (v*3)).take 3=[aa x.L,ah x.F,rv]/\cs[v*3+2]?=some rv/\(rv=aE x.na\/rv=eU x)/\(e v->rv=eU x):=by
 obtain⟨rv,a,b,c,d,f⟩:=h.node v x hx;refine⟨rv,?_,c,d,f⟩;have h3:=aI c;rw[Wt O,Wt O,Wt O];simp only[List.take_succ_cons,List.take_zero];rw[Vz O]at a b c;rw[Option.some.inj a,Option.some.inj b,Option.some.inj c]
def ZZ.nil :ZZ e [] []:=⟨rfl,fun v x hx=>by simp at hx⟩
def ZZ.snoc (h:ZZ e ns cs){rv:ZK}(h1:rv=aE x.na\/rv=eU x)(h2:e ns.length->rv=eU x):ZZ e (ns++[x]) (cs++[aa x.L,ah x.F,rv]):=by
 have hl:=h.len;refine⟨by simp[hl];omega,fun v y hy=>?_⟩;by_cases hv:v<ns.length
 ·rw[VH hv]at hy;obtain⟨r,a,b,c,d⟩:=h.node v y hy;exact⟨r,by rw[VH O];exact a,by rw[VH O];exact b,by rw[VH O];exact c,d⟩
 ·have:v=ns.length:=by have:=aI hy;simp at this;omega
  subst this;rw[VS O,XC]at hy;cases hy;refine⟨rv,?_,?_,?_,h1,h2⟩
  ·rw[VS O,show ns.length*3-cs.length=0 by omega];rfl
  ·rw[VS O,show ns.length*3+1-cs.length=1 by omega];rfl
  ·rw[VS O,show ns.length*3+2-cs.length=2 by omega];rfl
def ZZ.mono {e':Nat->Prop}(h:ZZ e ns cs)(he:∀v,e' v->e v):ZZ e' ns cs:=⟨h.len,fun v x hx=>by
 obtain⟨r,a,b,c,d,f⟩:=h.node v x hx;exact⟨r,a,b,c,d,fun h=>f (he v h)⟩⟩
def ZZ.Qg (h:ZZ e ns cs):∀(i:Nat) (h1:i<cs.length) (h2:i<(aG ns).length),Fz S H nx cs[i] (aG ns)[i]:=by
 intro i h1 h2;have hb:i / 3<ns.length:=by rw[h.len]at h1;omega
 obtain⟨x,hx⟩:=ao hb;obtain⟨rv,a,b,c,d,_⟩:=h.node _ x hx;have hp:i=(i / 3)*3+i % 3:=O
 have g1:cs[i]?=some cs[i]:=Vz h1;have g2:(aG ns)[i]?=some (aG ns)[i]:=Vz h2;generalize cs[i]=u at g1 ⊢;generalize (aG ns)[i]=w at g2 ⊢;have c3:i % 3=0\/i % 3=1\/i % 3=2:=O
 rcases c3 with c0|c0|c0
 ·rw[hp,c0,Nat.add_zero,a]at g1;rw[hp,c0,Nat.add_zero,iS hx]at g2;cases g1;cases g2;exact .lit _
 ·rw[hp,c0,b]at g1;rw[hp,c0,mR hx]at g2;cases g1;cases g2;exact .dK _
 ·rw[hp,c0,c]at g1;rw[hp,c0,wK hx]at g2;cases g1;cases g2;rcases d with d|d<;>rw[d]
  ·exact .aE _
  ·exact Dw x
def uK {α:Type}{l:List α}{x:α}(h:l[i]?=some x):l.set i x=l:=by
 apply V9;intro j;rw[WU];split
 ·rename_i hj;subst hj;rw[VA (aI h),h]
 ·rfl
structure FiS (d:ZM)(fv:ZK)(H H':ZJ)(nh:ZK)(n:Nat)(cs:List ZK):Prop where
 nx:H.A+4<=H'.A
 ov:ZN H H'
 b0:H'.get H.A=some (.J 0 38 [.lit (.int .i64 d.X),.Q d.C.length (aG d.C),.lit (.int .u64 (d.Y:Int)),.Q d.nn.length (bj d.nn)])
 b1:H'.get (H.A+1)=some (.J 0 122 [fv])
 b2:H'.get (H.A+2)=some (.J 0 81 [.lit (.int .i64 0),.lit (.slice none 0 0)])
 b3:H'.get (H.A+3)=some (.J 0 81 [.lit (.int .i64 d.X),nh])
 nd:eO (H.A+4) H' 87 3 nh n cs
theorem FiS.over {fv:ZK}{H2:ZJ}{nh:ZK}(h:FiS d fv H H' nh n cs)(o:ZN H' H2):FiS d fv H H2 nh n cs where
 nx:=Wm h.nx o.A
 ov:=h.ov.trans o
 b0:=(o.nb _ (by have:=h.nx;omega)).trans h.b0
 b1:=(o.nb _ (by have:=h.nx;omega)).trans h.b1
 b2:=(o.nb _ (by have:=h.nx;omega)).trans h.b2
 b3:=(o.nb _ (by have:=h.nx;omega)).trans h.b3
 nd:=h.nd.over o
def SF {v:ZK}{xs:List ZK}(hx:xs.all ZK.one=true)(hxl:xs.length=3)(hn:n<2 ^ 38)(ho:eO (H.A+4) H' 87 3 v n cs)(hlo:H.A+4<=H'.A):
  ∃v' H2,cr prog (ext H' [.J 0 87 xs]) (H'.A+1) 34 34 v (.U H'.A 0 0 1 3)=some (v',H2)/\eO (H.A+4) H2 87 3 v' (n+1) (cs++xs)/\H'.A<=H2.A/\(∀k,k<H'.A->(∀g n,v≠.U k g 0 n 3)->H2.get k=H'.get k) :=
 vr Tryz.underlying34 Tryz.zn Tryz.zp hx hxl (by rw[Tryz.zo];omega) ho hlo rfl
def Fg {lo:Nat}{v:ZK}{l:List ZK}(x:ZK)(hx:x.one=true)(h:aD lo H' 42 v l)(hlo:lo<=H'.A)(hl:l.length<2 ^ 40):
  ∃v' H2,cr prog (ext H' [.J 0 42 [x]]) (H'.A+1) 33 33 v (.U H'.A 0 0 1 1)=some (v',H2)/\aD lo H2 42 v' (l++[x])/\H'.A<=H2.A/\(∀k,k<H'.A->(∀g n,v≠.U k g 0 n 1)->H2.get k=H'.get k) :=
 iR (P:=prog) (H:=H') (t:=33) (x:=x) (n:=H'.A+1) Tryz.underlying33 Tryz.nW Tryz.nY hx (by rw[Tryz.nX];omega) h hlo rfl
def Fh (d:ZM)(hf:Z1 d)(hR:Z9 d)(c:Nat->Nat->Int)(fv:ZK)(rs:List Nat)(H:ZJ)(hrs:∀i∈rs,i<H.A)(hfc:fv.cells=[fv])(hfo:fv.one=true)
  (hfv:∀p r v x H1,(aB d)[p]?=some v->d.C[v]?=some x->r<bB d.C x->ZN H H1->(0<=c p r/\c p r<x.L)/\bL prog G0 fv [.lit (.int .i64 p),.lit (.int .i64 r)] H1 (.lit (.int .i64 (c p r))) rs)
  (K:ZP->ZJ->Prop) (hK:K (.ret (dJ d.X (cR d c))) H):ag prog G0 101 [cM d,fv] H K:=by
 refine ag.Z ⟨_,func101,rfl,rfl⟩ fun hcl=>?_;have hl:=hf.C.1;have hn8:=hR.n1.2;refine ag.st (n:=91) (rs:=[.cell 4 81]) func101 ?_;simp only[go_sem,fW,bq,hfc];obtain⟨Hb,hHb⟩:∃Hb,Hb=ext H [.J 0 38 [.lit (.int .i64 d.X),.Q d.C.length (aG d.C),.lit (.int .u64 (d.Y:Int)),.Q d.nn.length (bj d.nn)],.J 0 122 [fv],.J 0 81 [.lit (.int .i64 0),.lit (.slice none 0 0)],.J 0 81 [.lit (.int .i64 d.X),.lit (.slice none 0 0)]]:=⟨_,rfl⟩
 rw[<- hHb];have R0:FiS d fv H Hb (.lit (.slice none 0 0)) 0 []:=by
  rw[hHb];exact⟨by simp[aM],.ext _ _,dA ..,bH H _ 1 ZF,bH H _ 2 ZF,bH H _ 3 ZF,.nil⟩
 have nb:Hb.A=H.A+4:=hHb▸rfl
 refine W.loop 4503599626323328 (by rfl) (fun ρ H'=>∃(k:Nat) (nh:ZK),ρ 20=aa k/\k<=d.C.length/\FiS d fv H H' nh k (bD (d.C.take k))) (fun ρ H=>d.C.length-(iv (ρ 20)).toNat) ?_ ?_
 ·simp only[go_sem];exact⟨0,_,rfl,O,R0⟩
 rintro ρ H' ⟨k,nh,h20,hk,R⟩;refine W.vs ?_;have rn:=R.nx;have q0:=ae R.b0;have q3:=ae R.b3;by_cases hb:(k:Int)<d.C.length
 ·obtain⟨x,hx⟩:=ao (l:=d.C) (i:=k) O;have hxm:=an hx;obtain⟨f1,f2,f3⟩:=hf.C.2 x hxm;have hne:=eT hx;have e0:=qE hx;have e1:k*3+3<=(aG d.C).length:=by rw[kV];omega
  simp only[go_sem,h20,hb,hne,e0,e1];refine W.dr 7 [0,1,0,4,12,31,0] mixed ?_;simp only[go_sem];refine⟨ah x.F,[],bL.pure fun H2=>sX x.F O H2 _ ⟨rfl,rfl⟩,?_⟩;simp only[go_sem,Qd]
  repeat (refine And.intro (by first|omega|(simp;done)|(simp;omega)|(intros;omega)|exact⟨rfl,O,O,ko _⟩) ?_)
  obtain⟨H1,hH1⟩:∃H1,H1=ext (ext H' [.J 0 87 [.lit (.int .i64 x.L),.Q x.F.length (ints x.F),.Q x.na.length (x.na.map ah)]]) [.J 0 87 [.lit (.int .i64 x.L),.Q x.F.length (ints x.F),.lit (.slice none 0 0)]]:=⟨_,rfl⟩
  have n1:H1.A=H'.A+2:=by rw[hH1];rfl
  have gA:H1.get H'.A=some (.J 0 87 [.lit (.int .i64 x.L),.Q x.F.length (ints x.F),.Q x.na.length (x.na.map ah)]):=by rw[hH1,aX (by simp[aM])];exact cI
  have gB:H1.get (H'.A+1)=some (.J 0 87 [.lit (.int .i64 x.L),.Q x.F.length (ints x.F),.lit (.slice none 0 0)]):=by rw[hH1];exact cI (H:=ext H' [_])
  have o1:ZN H' H1:=by rw[hH1];exact(ZN.ext _ _).trans (.ext _ _)
  have lA:=ae gA;rw[hH1]at lA;simp only[go_sem,lA];rw[<- hH1];refine W.aP 35175782155264 (by rfl) (fun ρ' H2=>∃(j:Nat) (rh:ZK),ρ' 33=aa j/\j<=x.na.length/\ZN H' H2/\H1.A<=H2.A/\H2.get (H'.A+1)=some (.J 0 87 [.lit (.int .i64 x.L),.Q x.F.length (ints x.F),rh])/\aD (H'.A+2) H2 42 rh ((x.na.take j).map ah)/\(j=0->rh=.lit (.slice none 0 0))) (fun ρ' H=>x.na.length-(iv (ρ' 33)).toNat) ?_ ?_
  ·simp only[go_sem];exact⟨0,_,rfl,O,o1,gB,.nil,fun _=>rfl⟩
  rintro ρ' H2 ⟨j,rh,h33,hj,o2,hn2,gB2,hrh,hrh0⟩;refine W.vs ?_;have o2n:=o2.A;have lB:=ae gB2;by_cases hb2:(j:Int)<x.na.length
  ·obtain⟨r,hr⟩:=ao (l:=x.na) (i:=j) O;have hrm:=an hr;have hrne:=aO hr;have w1:=Vv ((j:Int)+1) O;simp only[go_sem,h33,hb2,hr,hrne];obtain⟨rh2,H3,hA,hO,hn3,hp⟩:=Fg (ah r) rfl hrh O (by simp;omega);simp only[ah]at hA;have hcells:=hO.cells;have hone:=hO.one;have g3:H3.get (H'.A+1)=some (.J 0 87 [.lit (.int .i64 x.L),.Q x.F.length (ints x.F),rh]):=(hp _ O (hrh.ne O)).trans gB2;have l3:=ae g3;refine W.dr 5 [0,1,0,4,12] mixed ?_;simp only[go_sem,lB];refine⟨ah r,[],bL.pure fun H2=>sX r (by have:=f3 r hrm;omega) H2 _ ⟨rfl,rfl⟩,?_⟩;simp only[go_sem,h33,hA,l3,hcells,hone,w1]
   repeat (refine And.intro (by first|omega|(simp;done)|(simp;omega)|(intros;omega)|exact⟨rfl,O,O,ko _⟩) ?_)
   have o3:ZN H' H3:=⟨O,fun id h=>(hp id O (hrh.ne O)).trans (o2.nb id h)⟩
   refine⟨by rw[aA];omega,⟨j+1,rh2,ZF,O,o3.upd O _,by rw[aA];omega,by rw[af,VA rfl],?_,O⟩,O⟩;have e:(x.na.take (j+1)).map ah=(x.na.take j).map ah++[ah r]:=(by rw[aU hr];simp);rw[e];exact hO.nc ZI (by rw[aA];omega) fun id g h1 _ _ _=>by rw[af,Vx O]
  ·rw[Vy O]at hrh;have R2:=R.over o2;have q3b:=ae R2.b3;obtain⟨nh2,H3,hA,hO,hn3,hp⟩:=SF (H:=H) (H':=H2) (v:=nh) (n:=k) (xs:=[.lit (.int .i64 x.L),.Q x.F.length (ints x.F),rh]) (by rw[List.all_cons,List.all_cons,List.all_cons,hrh.one];rfl) rfl O R2.nd (by have:=R2.nx;omega);have r2n:=R2.nx;have fr:∀id,id<H.A+4->H3.get id=H2.get id:=fun id h=>hp id O (R2.nd.ne h);have g3:H3.V (H.A+3) 0=some (81,[.lit (.int .i64 d.X),nh]):=ae ((fr _ O).trans R2.b3);have hcells:=hO.cells;have hone:=hO.one;have hrc:=hrh.cells;have hro:=hrh.one;have w1:=Vv ((k:Int)+1) O;simp only[go_sem,h20,h33,hb2,lB,q3b,hA,g3,hcells,hone,w1];obtain⟨H4,hH4⟩:∃H4,H4=H3.upd (H.A+3) (.J 0 81 [.lit (.int .i64 d.X),nh2]):=⟨_,rfl⟩
   rw[<- hH4];refine(fun (h:∀E:Env,E 20=aa ((k:Int)+1)->∃s₃:St,eF prog G0 ⟨E,H4⟩ s₃/\Hb.A<=s₃.H.A/\(∃(k:Nat) (nh:ZK),s₃.ρ 20=aa k/\k<=d.C.length/\FiS d fv H s₃.H nh k (bD (d.C.take k)))/\d.C.length-(iv (s₃.ρ 20)).toNat<d.C.length-k)=>h _ (by simp only[go_sem])) fun E hE20=>?_;have n4:H4.A=H3.A:=(by rw[hH4];rfl);obtain⟨nb2,gn,b1,b2,rfl,b4,b5⟩:∃id g,H.A+4<=id/\id<H3.A/\nh2=.U id g 0 (k+1) 3/\(bD (d.C.take k)++[.lit (.int .i64 x.L),.Q x.F.length (ints x.F),rh]).length=(k+1)*3/\H3.get id=some (.J g 87 (bD (d.C.take k)++[.lit (.int .i64 x.L),.Q x.F.length (ints x.F),rh])):=by
    rcases hO with ⟨_,h,_⟩|h
    ·omega
    ·exact h
   have c0:∀id,id<H.A+3->H4.get id=H2.get id:=fun id h=>by rw[hH4,af,Vx O];exact fr id (O)
   have c3:H4.get (H.A+3)=some (.J 0 81 [.lit (.int .i64 d.X),.U nb2 gn 0 (k+1) 3]):=(by rw[hH4,af,VA rfl]);have c5:H4.get nb2=some (.J gn 87 (bD (d.C.take k)++[.lit (.int .i64 x.L),.Q x.F.length (ints x.F),rh])):=(by rw[hH4,af,Vx O];exact b5);have e5:bD (d.C.take (k+1))=bD (d.C.take k)++[aa x.L,ah x.F,eU x]:=(by rw[aU hx,Qb]);by_cases hr0:x.na=[]
   ·have hrn:rh=.lit (.slice none 0 0):=hrh0 (by rw[hr0]at hj;simpa using hj);subst hrn;refine⟨⟨E,H4⟩,eF.refl _,by show Hb.A<=H4.A;omega,⟨k+1,.U nb2 gn 0 (k+1) 3,hE20.trans ZF,O,⟨by show _<=H4.A;omega,⟨by have:=R2.ov.A;show _<=H4.A;omega,fun id h=>(c0 id O).trans (R2.ov.nb id h)⟩,(c0 _ O).trans R2.b0,(c0 _ O).trans R2.b1,(c0 _ O).trans R2.b2,c3,.inr ⟨nb2,gn,b1,by show _<H4.A;omega,rfl,?_,?_⟩⟩⟩,?_⟩
    ·rw[mW];simp;omega
    ·show H4.get nb2=_;rw[e5,Du hr0];exact c5
    ·show _-(iv (E 20)).toNat<_;rw[hE20];simp only[aa,aZ];omega
   ·obtain⟨rk,gr,r1,r2,rfl,r4⟩:∃id g,H'.A+2<=id/\id<H2.A/\rh=.U id g 0 (x.na.map ah).length 1/\H2.get id=some (.J g 42 (x.na.map ah)):=by
     rcases hrh with ⟨_,h⟩|h
     ·simp at h;exact absurd h hr0
     ·exact h
    have nhne:∀g n,nh≠.U rk g 0 n 3:=fun g n he=>by
     rcases R.nd with ⟨h,_⟩|⟨i,g2,_,h,h2,_⟩
     ·rw[h]at he;cases he
     ·rw[h2]at he;have:=ZK.U.inj he;omega
    have c6:H4.get rk=some (.J gr 42 (x.na.map ah)):=(by rw[hH4,af,Vx O,hp rk r2 nhne];exact r4);have hne2:nb2≠rk:=by
     rintro rfl;rw[c5]at c6;have:=(ZQ.J.inj (Option.some.inj c6)).2.1;exact absurd this (ZG)
    have e6:∀c:ZK,bD (d.C.take k)++[.lit (.int .i64 x.L),.Q x.F.length (ints x.F),c]=(bD (d.C.take k)++[.lit (.int .i64 x.L),.Q x.F.length (ints x.F)])++c :: []:=fun c=>ZF
    rw[e6]at c5;have e7:bD (d.C.take (k+1))=(bD (d.C.take k)++[.lit (.int .i64 x.L),.Q x.F.length (ints x.F)])++aE x.na :: []:=(by rw[e5,zK hr0,<- e6];rfl);refine⟨⟨E,H4.fY rk nb2 (.J gn 87 ((bD (d.C.take k)++[.lit (.int .i64 x.L),.Q x.F.length (ints x.F)])++aE x.na :: []))⟩,eF.fY (s:=⟨E,H4⟩) aJ c5 hne2 ZF (U2 (fun c hc=>?_) ?_ fun c hc=>by cases hc),by show Hb.A<=H4.A;omega,
     ⟨k+1,.U nb2 gn 0 (k+1) 3,hE20.trans ZF,O,⟨by show _<=H4.A;omega,⟨by have:=R2.ov.A;show _<=H4.A;omega,fun id h=>(nG O O).trans ((c0 id O).trans (R2.ov.nb id h))⟩,(nG O O).trans ((c0 _ O).trans R2.b0),(nG O O).trans ((c0 _ O).trans R2.b1),(nG O O).trans ((c0 _ O).trans R2.b2),(nG O O).trans c3,.inr ⟨nb2,gn,b1,by show _<H4.A;omega,rfl,?_,?_⟩⟩⟩,?_⟩
    ·rcases V3.1 hc with hc|hc
     ·exact zM _ c hc
     ·simp only[List.mem_cons,List.not_mem_nil,or_false]at hc;rcases hc with rfl|rfl
      ·exact .lit _
      ·exact .dK _
    ·show Fz (fun id=>id=rk) H4 _ _ _;rw[show aE x.na=.Q (x.na.map ah).length (x.na.map ah) by simp[aE]];refine .nz (S:=fun id=>id=rk) rfl c6 (by rw[Nat.mul_one]) fun j hj h2 h'=>?_;simp only[Nat.zero_add,VO];exact .dK _
    ·rw[mW];simp;omega
    ·rw[e7];exact x8 hne2
    ·show _-(iv (E 20)).toNat<_;rw[hE20];simp only[aa,aZ];omega
 have ek:k=d.C.length:=O
 subst ek;rw[Vy ZI]at R;obtain⟨nbk,gn,b1,b2,rfl,b4,b5⟩:∃id g,H.A+4<=id/\id<H'.A/\nh=.U id g 0 d.C.length 3/\(bD d.C).length=d.C.length*3/\H'.get id=some (.J g 87 (bD d.C)):=by
  rcases R.nd with ⟨_,h,_⟩|h
  ·have:=hR.n1.1;omega
  ·exact h
 simp only[go_sem,h20,hb,q0];refine au.Z (qT d _ _ ⟨trivial,?_⟩);simp only[go_sem];obtain⟨H2,hH2⟩:∃H2,H2=ext H' [dU d]:=⟨_,rfl⟩
 rw[<- hH2];have o2:ZN H' H2:=by rw[hH2];exact .ext _ _
 have n2:H2.A=H'.A+1:=by rw[hH2];rfl
 have hbx:H2.get H'.A=some (dU d):=by rw[hH2];exact cI
 refine W.env fun E hE=>?_;have e2:E 2=.M H.A 0 0:=by rw[hE];simp only[go_sem]
 have e3:E 3=.M (H.A+1) 0 0:=by rw[hE];simp only[go_sem]
 have e4:E 4=.M (H.A+2) 0 0:=by rw[hE];simp only[go_sem]
 have e5:E 5=.M (H.A+3) 0 0:=by rw[hE];simp only[go_sem]
 let F:Nat->List ZK->ZJ->Prop:=fun lo cs Hx=>lo<=Hx.A/\(∀id,id<H2.A->id≠nbk->Hx.get id=H2.get id)/\Hx.get nbk=some (.J gn 87 cs)
 refine W.jN (f:=104) (first:=[]) (cap:=[.M H'.A 0 0]) (by show E 53=_;rw[hE];rfl) (qS d O hf.Y H'.A)
  (fun k Hx=>F H2.A (bD (eJ d c k)) Hx) (fun _ _=>False)
  (fun k Hx h=>by rw[h.2.1 _ O O];exact hbx) (fun k Hx b h=>⟨h.1,fun id h1 h2=>by rw[af,Vx O];exact h.2.1 id h1 h2,by rw[af,Vx O];exact h.2.2⟩) (fun _ _ _ h=>h)
  (fun b=>⟨by rw[aM];omega,fun id h1 h2=>aX h1,by rw[aX O,P8];exact(o2.nb _ b2).trans b5⟩) ZG lD (fun _ _ _=>trivial) (fun _ _ _=>trivial) (fun k y Hx B Bb hy hj hn hB hBb=>?_) (fun Hx hj hn=>?_) (fun Hx hs hn=>hs.elim) (fun i Hx hs hn=>hs.elim)
 ·obtain⟨v,hv,rfl⟩:=kE hy;obtain⟨v1,v2,v3⟩:=fw hv;obtain⟨x,hx⟩:=ao (l:=d.C) (i:=v) v1;have hxm:=an hx;obtain⟨x1,x2⟩:=hR.dec v x hx v2;refine W.vs ?_;simp only[go_sem,eZ,bb,fO,V6,Ws,V7,Wb,hB];obtain⟨H3,hH3⟩:∃H3,H3=Hx.upd H2.A Bb:=⟨_,rfl⟩
  rw[<- hH3];obtain⟨st,pd,n',en,ps',as',bo,hBe⟩:=hBb;have n3:H3.A=Hx.A:=by rw[hH3];rfl
  have hj3:F H2.A (bD (eJ d c k)) H3:=by rw[hH3];exact⟨hj.1,fun id h1 h2=>by rw[af,Vx O];exact hj.2.1 id h1 h2,by rw[af,Vx O];exact hj.2.2⟩
  have jB:H3.get H2.A=some Bb:=by rw[hH3,af,VA rfl]
  refine W.en (fun E1=>E1 2=.M H.A 0 0 /\ E1 3=.M (H.A+1) 0 0 /\ E1 5=.M (H.A+3) 0 0 /\ E1 11=aa k /\ E1 12=aa v) (by simp only[go_sem,bb,e2,e3,e5]) fun E1 ⟨m2,m3,m5,m11,m12⟩=>?_
  have hvn:(v:Int)<d.C.length:=O
  have s2:=R.over o2;have oldH:∀ {Hy:ZJ},(∀id,id<H2.A->id≠nbk->Hy.get id=H2.get id)->Hy.V H.A 0=some (38,[.lit (.int .i64 d.X),.Q d.C.length (aG d.C),.lit (.int .u64 (d.Y:Int)),.Q d.nn.length (bj d.nn)])/\Hy.V (H.A+1) 0=some (122,[fv])/\Hy.V (H.A+3) 0=some (81,[.lit (.int .i64 d.X),.U nbk gn 0 d.C.length 3]):=fun h =>
   ⟨ae ((h _ O O).trans s2.b0),ae ((h _ O O).trans s2.b1),ae ((h _ O O).trans s2.b3)⟩
  obtain⟨k0,k1,k3⟩:=oldH hj3.2.1;have ps:=jK hn8 x2 hR.L;have hpm:=oL (ns:=d.C) (x:=x) (fun q hq=>by have:=x2.2 q hq;omega) hR.L;have hpp:1<=aj (aV d.C x):=dY fun c hc=>(hpm c hc).1;have hpb:=ps.prod;have hrn:((bB d.C x:Nat):Int)=aj (aV d.C x):=by unfold bB;omega
  have hlk:(eJ d c k)[v]?=some x:=by rw[pJ hx];unfold fT;rw[Vx O]
  have el:=mW (eJ d c k);have hvk:v*3+2<(bD (eJ d c k)).length:=by rw[el,mq];omega
  refine W.vp (Q':=fun e s2=>e=.normal/\∃rh,F H3.A (setAt (bD (eJ d c k)) (v*3+2) [rh]) s2.H/\s2.H.get H2.A=some Bb/\aD H3.A s2.H 42 rh ((List.range (bB d.C x)).map fun r=>ah (cz d.X x.L (c k r)))) ?_ ?_;rotate_left
  ·rintro e sx ⟨rfl,rh,hF,jBx,hrh⟩;obtain⟨rk,gr,r1,r2,rfl,r4⟩:∃id g,H3.A<=id/\id<sx.H.A/\rh=.U id g 0 ((List.range (bB d.C x)).map fun r=>ah (cz d.X x.L (c k r))).length 1/\sx.H.get id=some (.J g 42 ((List.range (bB d.C x)).map fun r=>ah (cz d.X x.L (c k r)))):=by
    rcases hrh with ⟨_,h⟩|h
    ·have:bB d.C x=0:=(by simpa using h);omega
    ·exact h
   have hfs:=P9 (c:=c) hv hx;have edr:eI d.X d.C c k x=(List.range (bB d.C x)).map fun r=>cz d.X x.L (c k r):=rfl;have ey:eU { x with na:=x.na++eI d.X d.C c k x }=.Q ((List.range (bB d.C x)).map fun r=>ah (cz d.X x.L (c k r))).length ((List.range (bB d.C x)).map fun r=>ah (cz d.X x.L (c k r))):=by
    have hne:x.na++eI d.X d.C c k x≠[]:=by
     rw[x1,edr,List.nil_append];intro h;have:bB d.C x=0:=(by simpa using h);omega
    rw[zK hne];show aE (x.na++_)=_;rw[x1,edr,List.nil_append];simp[aE,Xg,Function.comp_def]
   have hob:=hF.2.2;rw[iK hvk]at hob;have hc2:bD (eJ d c (k+1))=(bD (eJ d c k)).set (v*3+2) (.Q ((List.range (bB d.C x)).map fun r=>ah (cz d.X x.L (c k r))).length ((List.range (bB d.C x)).map fun r=>ah (cz d.X x.L (c k r)))):=by
    rw[hfs,Dv (y:={ x with na:=x.na++eI d.X d.C c k x }) hlk ⟨rfl,rfl⟩,ey,iK hvk]
   have hne2:nbk≠rk:=(by have:=hj3.1;omega);refine⟨⟨sx.ρ,sx.H.fY rk nbk (.J gn 87 (bD (eJ d c (k+1))))⟩,eF.fY aJ hob hne2 (by rw[hc2,VW,VW]) ?_,ZI,⟨_,_,_,_,_,_,_,by rw[nG O O,jBx,hBe]⟩,by rw[nG O O];exact jBx,by show Hx.A<=sx.H.A;have:=hF.1;omega,
    ⟨by show H2.A<=sx.H.A;have:=hF.1;omega,fun id h1 h2=>(nG O h2).trans (hF.2.1 id h1 h2),x8 hne2⟩⟩
   rw[hc2];refine A2 (zM _) ?_;refine .nz (S:=fun id=>id=rk) rfl r4 (by rw[Nat.mul_one]) fun j hj h2 h'=>?_;simp only[Nat.zero_add,VO];exact .dK _
  refine W.vs ?_;simp only[go_sem,m2,m12,k0];refine au.Z (pX d.C v x hx (fun q hq=>by have:=x2.2 q hq;omega) ps _ _ ⟨⟨_,_,_,_,_,_,_,by rw[jB,hBe]⟩,?_⟩);rw[<- hrn];simp only[go_sem];refine W.aP 1237940038132458770292285440 (by rfl) (fun ρ2 H4=>∃(r:Nat) (rh:ZK),ρ2 60=aa r/\r<=bB d.C x/\F H3.A (setAt (bD (eJ d c k)) (v*3+2) [rh]) H4/\H4.get H2.A=some Bb/\aD H3.A H4 42 rh ((List.range r).map fun r=>ah (cz d.X x.L (c k r)))/\(r=0->rh=.lit (.slice none 0 0)))
   (fun ρ2 H=>bB d.C x-(iv (ρ2 60)).toNat) ?_ ?_
  ·simp only[go_sem];refine⟨0,.lit (.slice none 0 0),rfl,O,⟨ZI,hj3.2.1,?_⟩,jB,.nil,fun _=>rfl⟩;rw[show setAt (bD (eJ d c k)) (v*3+2) [.lit (.slice none 0 0)]=bD (eJ d c k) from by
    have:=Dv (y:=x) hlk ⟨rfl,rfl⟩;rw[Du x1]at this;rw[<- this];congr 1;exact uK hlk]
   exact hj3.2.2
  rintro ρ2 H4 ⟨r,rh,h60,hr,hF,jB4,hrh,hrh0⟩;refine W.en (fun E2=>E2 2=.M H.A 0 0 /\ E2 3=.M (H.A+1) 0 0 /\ E2 5=.M (H.A+3) 0 0 /\ E2 11=aa k /\ E2 12=aa v /\ E2 59=aa (bB d.C x) /\ E2 60=aa r) (by simp only[go_sem,m2,m3,m5,m11,m12,h60]) fun E2 ⟨i2,i3,i5,i11,i12,i59,i60⟩=>?_
  refine W.vs ?_;by_cases hb2:(r:Int)<bB d.C x
  ·obtain⟨k0,k1,k3⟩:=oldH hF.2.1;have kn:=ae hF.2.2;have hne:=eT hx;have ec:=iS hx;have w1:=Vv ((r:Int)+1) O;obtain⟨cb,hpc⟩:=hfv k r v x H4 hv hx O ⟨O,fun id h=>(hF.2.1 id O O).trans (s2.ov.nb id h)⟩;have hs:(setAt (bD (eJ d c k)) (v*3+2) [rh])[v*3+2]?=some rh:=(by rw[iK hvk,VQ hvk]);obtain⟨rh2,H5,hA,hO,hn5,hp⟩:=Fg (ah (cz d.X x.L (c k r))) rfl hrh hF.1 (by rw[VJ,WG];omega);simp only[ah]at hA;have hcells:=hO.cells;have hone:=hO.one;have hpr:bL prog G0 (.Z 134 [] []) [.lit (.int .i64 d.X),.lit (.int .i64 x.L),.lit (.int .i64 (c k r))] H4 (ah (cz d.X x.L (c k r))) []:=bL.pure fun H2=>Sx d.X x.L (c k r) (by have:=hR.L x hxm;omega) cb H2 _ ⟨rfl,rfl⟩;have hrhs:rh=.lit (.slice none 0 0)\/∃i g n,rh=.U i g 0 n 1/\H3.A<=i/\i<H4.A:=by
    rcases hrh with ⟨h,_⟩|⟨i,g,h1,h2,h3,_⟩
    ·exact .inl h
    ·exact .inr ⟨i,g,_,h3,h1,h2⟩
   have hset:∀a b,setAt (setAt (bD (eJ d c k)) (v*3+2) [a]) (v*3+2) [b]=setAt (bD (eJ d c k)) (v*3+2) [b]:=fun a b=>by rw[iK hvk,iK (by rw[VW];exact hvk),iK hvk,Ym]
   have hslen:∀a,(setAt (bD (eJ d c k)) (v*3+2) [a]).length=(bD (eJ d c k)).length:=fun a=>by rw[iK hvk,VW]
   have hg5:H5.get nbk=some (.J gn 87 (setAt (bD (eJ d c k)) (v*3+2) [rh])):=(hp _ (by have:=hF.1;omega) (hrh.ne O)).trans hF.2.2;have kn5:=ae hg5;have ho5:∀id,id<H2.A->id≠nbk->H5.get id=H2.get id:=fun id h1 h2=>(hp _ (by have:=hF.1;omega) (hrh.ne O)).trans (hF.2.1 id h1 h2);have jB5:H5.get H2.A=some Bb:=(hp _ (by have:=hF.1;omega) (hrh.ne O)).trans jB4;obtain⟨hn34,-,-⟩:=hF;rcases rs with _|⟨b0,rs⟩<;>rcases hrhs with rfl|⟨i,g,n,rfl,hi1,hi2⟩
   all_goals
    simp only[go_sem,i60,i59,hb2];refine W.dr 24 [0,1,0,0,8,0,56,120,248,0,512,0,2048,0,14336,30720,63488,0,0,0,917504,2096640,4193792,8388600] mixed ?_;simp only[go_sem,i2,i3,i5,i11,i12,k0,k1,k3,kn,hvn,hne,ec,hs];refine⟨.lit (.int .i64 (c k r)),_,hpc,ah (cz d.X x.L (c k r)),[],hpr,?_⟩;simp only[go_sem,i2,i3,i5,i11,i12,i60,hvn,kn5,hA,hcells,hone,w1];refine⟨by repeat' (first|refine And.intro ?_ ?_|(intro x hx;omega)),by repeat' (first|refine And.intro ?_ ?_|(intro x hx;omega)),by rw[hslen];omega,by rw[aA];omega,⟨_,_,_,_,_,_,_,by rw[af,Vx O,jB5,hBe]⟩,
     ⟨r+1,rh2,ZF,O,⟨by rw[aA];omega,fun id h1 h2=>by rw[af,Vx h2];exact ho5 id h1 h2,by rw[af,VA rfl,hset]⟩,by rw[af,Vx O];exact jB5,?_,O⟩,by rw[h60];simp only[aa,aZ];omega⟩
    have e:((List.range (r+1)).map fun r=>ah (cz d.X x.L (c k r)))=((List.range r).map fun r=>ah (cz d.X x.L (c k r)))++[ah (cz d.X x.L (c k r))]:=(by rw[Wy];simp);show aD _ _ _ _ ((List.range (r+1)).map fun r=>ah (cz d.X x.L (c k r)));rw[e];exact hO.nc ZI (by rw[aA];omega) fun id g h1 _ _ _=>by rw[af,Vx O]
  ·have er:r=bB d.C x:=O;subst er;simp only[go_sem,i59,i60,hb2];exact⟨rh,hF,jB4,hrh⟩
 ·have s2:=R.over o2;have f4:=ae ((hj.2.1 _ O O).trans s2.b2);have f5:=ae ((hj.2.1 _ O O).trans s2.b3);simp only[go_sem,e4,e5,f4,f5];have ovx:ZN H Hx:=⟨O,fun id h=>(hj.2.1 id O O).trans (s2.ov.nb id h)⟩
  refine aq.bC (v':=dJ d.X (cR d c)) aJ hcl (ovx.upd O _) (.agg rfl fun i hi _=>?_) hK
  match i,hi with
  |0,_=>exact .lit _
  |1,_ =>
   have hg:∀b,(Hx.upd (H.A+2) b).get nbk=some (.J gn 87 (bD (cR d c))):=fun b=>by
    rw[af,Vx O];have:=hj.2.2;rw[jZ]at this;exact this
   show Fz _ _ _ (.U nbk gn 0 d.C.length 3) (.Q (cR d c).length (aG (cR d c)));rw[show (cR d c).length=d.C.length from mq _ _ _];refine .nz (by show H.A<=_;omega) (hg _) (by rw[kV];congr 1;exact mq _ _ _) fun j hj h2 h'=>?_;simp only[Nat.zero_add];exact zL _ j _ _
structure Z8 (ns:List ZL)(u:ZY):Prop where
 vars:cQ u.vars ns.length
 size:(u.w.length:Int)=aj (aK (ak ns) u.vars)
 w:∀x∈u.w,-100<=x/\x<=100
def xC (d:ZM):Prop:=d.nn.length<=4/\∀u∈d.nn,Z8 d.C u
def uL {vars:List Int}(h8:ns.length<=8)(hp:cQ vars ns.length)(hc:∀y∈ns,1<=y.L/\y.L<=4):dV (aK (ak ns) vars) :=
 jK (x:=⟨0,vars,[]⟩) h8 hp hc
def SG (d:ZM)(hf:Z1 d)(h8:d.C.length<=8)(hc:∀y∈d.C,1<=y.L/\y.L<=4)(H:ZJ)(K:ZP->ZJ->Prop)(hK:K (.ret (.lit (.bool (lE (xC d))))) H):ag prog G0 103 [cM d] H K:=by
 refine ag.Z ⟨_,func103,rfl,rfl⟩ fun hcl=>?_;have hul:=hf.nn.1;have no:¬xC d->∀H',ZN H H'->aq prog G0 H K (.lit (.bool false)) H':=fun h H' ov=>aq.bC aJ hcl ov (.lit _) (by rw[gU h]at hK;exact hK);refine ag.st (n:=74) (rs:=[.tmp 2]) func103 ?_;simp only[go_sem,fW,bq];obtain⟨H1,hH1⟩:∃H1,H1=ext H [.J 0 38 [.lit (.int .i64 d.X),.Q d.C.length (aG d.C),.lit (.int .u64 (d.Y:Int)),.Q d.nn.length (bj d.nn)]]:=⟨_,rfl⟩
 have l1:H1.V H.A 0=some (38,[.lit (.int .i64 d.X),.Q d.C.length (aG d.C),.lit (.int .u64 (d.Y:Int)),.Q d.nn.length (bj d.nn)]):=by rw[hH1];exact ae (dA ..)
 have n1:H1.A=H.A+1:=hH1▸rfl
 have o1:ZN H H1:=hH1▸.ext _ _
 rw[<- hH1];refine W.aP 9444732965739290166632 (by rfl) (fun ρ H'=>∃k:Nat,ρ 18=aa k/\k<=d.nn.length/\ZN H1 H'/\ρ 3=.lit (.bool (decide ((d.nn.length:Int)<=4)))/\(0<k->d.nn.length<=4)/\∀u∈d.nn.take k,Z8 d.C u) (fun ρ H=>d.nn.length-(iv (ρ 18)).toNat) ?_ ?_
 ·simp only[go_sem];exact⟨0,rfl,O,.refl _,O,ZF⟩
 rintro ρ H' ⟨k,h18,hk,ov,h3,hk4,hall⟩;refine W.en (fun E=>E 1=.M H.A 0 0 /\ E 3=.lit (.bool (decide ((d.nn.length:Int)<=4))) /\ E 16=.Q d.nn.length (bj d.nn) /\ E 17=aa d.nn.length /\ E 18=aa k) (by simp only[go_sem,h3,h18]) fun E ⟨e1,e3,e16,e17,e18⟩=>?_
 refine W.vs ?_;have ovn:=ov.A;have l2:=(ov.V (g:=0) (by omega:H.A<H1.A)).trans l1;by_cases hb:(k:Int)<d.nn.length;rotate_left
 ·rw[Vy O]at hall;by_cases h4:(d.nn.length:Int)<=4
  ·simp only[go_sem,e3,e17,e18,hb,h4];rw[ep ⟨O,hall⟩]at hK;exact aq.bC aJ hcl (o1.trans ov) (.lit _) hK
  ·simp only[go_sem,e3,e17,e18,hb,h4];exact no (fun h=>by have:=h.1;omega) _ (o1.trans ov)
 obtain⟨u,hu⟩:=ao (l:=d.nn) (i:=k) O;have hum:=an hu;obtain⟨f1,f2⟩:=hf.nn.2 u hum;have hne:=zD hu;have p0:=zC hu;have p1:k*2+2<=(bj d.nn).length:=by rw[zB];omega
 have ove:∀L,ZN H (ext H' L):=fun L=>(o1.trans ov).trans (.ext _ _);by_cases h4:(d.nn.length:Int)<=4;rotate_left
 ·simp only[go_sem,e3,e16,e17,e18,hb,h4,hne,p0,p1];exact no (fun h=>by have:=h.1;omega) _ (ove _)
 have l3:∀L,(ext H' L).V H.A 0=_:=fun L=>(ea O).trans l2;simp only[go_sem,e1,e3,e16,e17,e18,hb,h4,hne,p0,p1,l3];obtain⟨H2,hH2⟩:∃H2,H2=ext H' [.J 0 90 [.Q u.vars.length (ints u.vars),.Q u.w.length (ints u.w)]]:=⟨_,rfl⟩
 have m1:H2.V H'.A 0=some (90,[.Q u.vars.length (ints u.vars),.Q u.w.length (ints u.w)]):=by rw[hH2];exact ae cI
 have m2:=l3 [.J 0 90 [.Q u.vars.length (ints u.vars),.Q u.w.length (ints u.w)]];rw[<- hH2]at m2;have n2:H2.A=H'.A+1:=by rw[hH2];rfl
 have ov2:ZN H H2:=by rw[hH2];exact ove _
 rw[<- hH2];refine au.Z (Fo u.vars d.C.length O _ _ ⟨trivial,?_⟩);by_cases c1:cQ u.vars d.C.length;rotate_left
 ·simp only[go_sem,c1];exact no (fun h=>c1 (h.2 u hum).vars) _ ov2
 have sm:=uL h8 c1 hc;have pl:(aK (ak d.C) u.vars).length=u.vars.length:=iG _ _;have v8:=c1.len;simp only[go_sem,c1,m1];refine W.aP 562881233944896 (by rfl) (fun ρ' H3=>H3=H2/\∃j:Nat,ρ' 36=aa j/\j<=u.vars.length/\ρ' 6=aa (aj ((aK (ak d.C) u.vars).take j))) (fun ρ' H=>u.vars.length-(iv (ρ' 36)).toNat) ?_ ?_
 ·simp only[go_sem];exact⟨0,rfl,O,by simp[iT]⟩
 rintro ρ' H3 ⟨rfl,j,h36,hj,h6⟩;refine W.vs ?_;by_cases hb2:(j:Int)<u.vars.length
 ·obtain⟨q,hq⟩:=ao (l:=u.vars) (i:=j) O;obtain⟨i,rfl,y,hy⟩:=n9 (l:=d.C) (c1.2 q (an hq)).1 (c1.2 q (an hq)).2;have hne2:=aO hq;have hne3:=eT hy;have ey:=iS hy;have hi:(i:Int)<d.C.length:=by have:=aI hy;omega
  have pk:(aK (ak d.C) u.vars)[j]?=some y.L:=by rw[kF hq,Int.toNat_natCast,bM (dw hy)]
  have b1:=(sm.take (j+1)).prod;rw[aU pk,gQ]at b1;have w1:=Vv ((j:Int)+1) O;have w2:=Vv (aj ((aK (ak d.C) u.vars).take j)*y.L) O;simp only[go_sem,h36,h6,e1,m2,hb2,hq,hne2,hne3,hi,ey,w1,w2];exact⟨⟨j+1,ZF,O,by rw[aU pk,gQ]⟩,O⟩
 rw[Vy O]at h6;by_cases c2:(u.w.length:Int)=aj (aK (ak d.C) u.vars);rotate_left
 ·simp only[go_sem,h36,h6,m1,hb2,c2];exact no (fun h=>c2 (h.2 u hum).size) _ ov2
 simp only[go_sem,h36,h6,m1,hb2,c2];refine W.aP 4721790022117341791240 (by rfl) (fun ρ2 H4=>H4=H3/\∃i:Nat,ρ2 59=aa i/\i<=u.w.length/\ρ2 3=.lit (.bool true)/\∀w∈u.w.take i,-100<=w/\w<=100) (fun ρ2 H=>u.w.length-(iv (ρ2 59)).toNat) ?_ ?_
 ·simp only[go_sem];exact⟨0,rfl,O,ZF⟩
 rintro ρ2 H4 ⟨rfl,i,h59,hi,h3',hw⟩;refine W.vs ?_;have hpr:=sm.prod;by_cases hb3:(i:Int)<u.w.length<;>have hb3':=hb3<;>rw[c2]at hb3'
 ·obtain⟨a,ha⟩:=ao (l:=u.w) (i:=i) O;have ham:=an ha;have hane:=aO ha;by_cases d1:a >= -100;rotate_left
  ·simp only[go_sem,h59,h3',hb3,hb3',ha,hane,d1];exact no (fun h=>by have:=(h.2 u hum).w a ham;omega) _ ov2
  by_cases d2:a<=100;rotate_left
  ·simp only[go_sem,h59,h3',hb3,hb3',ha,hane,d1,d2];exact no (fun h=>by have:=(h.2 u hum).w a ham;omega) _ ov2
  have w1:=Vv ((i:Int)+1) O;simp only[go_sem,h59,h3',hb3,hb3',ha,hane,d1,d2,w1];refine⟨⟨i+1,ZF,O,fun w hw'=>?_⟩,O⟩;rw[aU ha]at hw';rcases V3.1 hw' with hw'|hw'
  ·exact hw w hw'
  ·obtain rfl:=List.mem_singleton.1 hw';exact⟨O,O⟩
 ·have w1:=Vv ((k:Int)+1) O;rw[Vy O]at hw;simp only[go_sem,h59,h3',e18,hb3',w1];refine⟨O,⟨k+1,ZF,O,by rw[hH2];exact ov.trans (.ext _ _),fun _=>O,fun y hy=>?_⟩,by rw[h18];simp only[aa,aZ];omega⟩;rw[aU hu]at hy;rcases V3.1 hy with hy|hy
  ·exact hall y hy
  ·obtain rfl:=List.mem_singleton.1 hy;exact⟨c1,c2,hw⟩
structure ZR (d:ZM):Prop where
 n:Z9 d
 nA:Z5 d.X (cR d fun _ _=>0)
 nn:xC d
def AB (g L x:Int):(cz g L x).length=L.toNat:=by simp[cz]
def uM {c:Nat->Nat->Int}(h:y∈cR d c):∃v x,d.C[v]?=some x/\y=fT d c (aB d).length v x:=by
 obtain⟨v,hv⟩:=VG.1 h;have hl:=aI hv;rw[show (cR d c).length=d.C.length from mq _ _ _]at hl;obtain⟨x,hx⟩:=ao hl;have:=pJ (c:=c) (k:=(aB d).length) hx;rw[show eJ d c (aB d).length=cR d c from rfl,hv]at this;exact⟨v,x,hx,Option.some.inj this⟩
def SH (hf:Z1 d)(hR:Z9 d)(c:Nat->Nat->Int):xG (cR d c):=by
 refine⟨by rw[show (cR d c).length=d.C.length from mq _ _ _];exact hf.C.1,fun y hy=>?_⟩;obtain⟨v,x,hx,rfl⟩:=uM hy;have hxm:=an hx;obtain⟨f1,f2,f3⟩:=hf.C.2 x hxm;unfold fT;split
 ·rename_i h;obtain⟨x1,x2⟩:=hR.dec v x hx h.1;have ps:=(jK hR.n1.2 x2 hR.L).prod;have hc:=hR.L x hxm;refine⟨f1,?_,fun r hr=>?_⟩
  ·show ((x.na++eI d.X d.C c (aY d.Y v) x).length:Int)<_;rw[x1];simp only[eI,List.nil_append,VJ,WG,bB];omega
  ·rw[show ({ x with na:=x.na++eI d.X d.C c (aY d.Y v) x }:ZL).na=x.na++eI d.X d.C c (aY d.Y v) x from rfl,x1,List.nil_append]at hr;obtain⟨i,_,rfl⟩:=VI.1 hr;rw[AB];omega
 ·exact⟨f1,f2,f3⟩
def AC (d:ZM)(hf:Z1 d)(H:ZJ)(K:ZP->ZJ->Prop)(hK:K (.ret (aa (if lE (ZR d) then 0 else 200))) H):ag prog G0 59 [cM d] H K:=by
 refine ag.Z ⟨_,func59,rfl,rfl⟩ fun hcl=>?_;have no:¬ZR d->∀H',ZN H H'->aq prog G0 H K (.lit (.int .i64 200)) H':=fun h H' ov=>aq.bC aJ hcl ov (.lit _) (by rw[gU h]at hK;exact hK);have hg:ZR d->1<=d.X/\d.X<=60:=fun h=>h.nA.g1;refine ag.st (n:=25) (rs:=[.tmp 2]) func59 ?_;simp only[go_sem,fW,bq];obtain⟨H1,hH1⟩:∃H1,H1=ext H [.J 0 38 [.lit (.int .i64 d.X),.Q d.C.length (aG d.C),.lit (.int .u64 (d.Y:Int)),.Q d.nn.length (bj d.nn)]]:=⟨_,rfl⟩
 have l1:H1.V H.A 0=some (38,[.lit (.int .i64 d.X),.Q d.C.length (aG d.C),.lit (.int .u64 (d.Y:Int)),.Q d.nn.length (bj d.nn)]):=by rw[hH1];exact ae (dA ..)
 have o1:ZN H H1:=hH1▸.ext _ _
 rw[<- hH1];by_cases c1:d.X<1
 ·simp only[go_sem,c1];exact no (fun h=>by have:=hg h;omega) _ o1
 by_cases c2:d.X > 60
 ·simp only[go_sem,l1,c1,c2];exact no (fun h=>by have:=hg h;omega) _ o1
 simp only[go_sem,l1,c1,c2];refine au.Z (Sz d hf _ _ ⟨trivial,?_⟩);by_cases c3:Z9 d;rotate_left
 ·rw[gU c3];simp only[go_sem];exact no (fun h=>c3 h.n) _ o1
 rw[ep c3];simp only[go_sem,l1];refine au.Z (Fh d hf c3 (fun _ _=>0) _ [] _ (fun i h=>by cases h) rfl rfl (fun p r v x H2 _ hx _ _=>⟨⟨Int.le_refl 0,by have:=c3.L x (an hx);omega⟩,bL.pure fun H3=>Sy _ _ H3 _ ⟨rfl,rfl⟩⟩) _ ⟨trivial,?_⟩);simp only[go_sem];refine au.Z (Ti d.X _ (SH hf c3 _) _ _ ⟨trivial,?_⟩);by_cases c4:Z5 d.X (cR d fun _ _=>0);rotate_left
 ·rw[Fs c4];simp only[go_sem];exact no (fun h=>c4 h.nA) _ o1
 rw[Fq c4];simp only[go_sem,l1];refine au.Z (SG d hf c3.n1.2 c3.L _ _ ⟨trivial,?_⟩);by_cases c5:xC d;rotate_left
 ·rw[gU c5];simp only[go_sem];exact no (fun h=>c5 h.nn) _ o1
 rw[ep c5];simp only[go_sem];rw[ep (⟨c3,c4,c5⟩:ZR d)]at hK;exact aq.bC aJ hcl o1 (.lit _) hK
structure ZU (d:ZM)(p:List (List Int)):Prop where
 len:p.length=(aB d).length
 row:∀(k v:Nat) (x:ZL) (l:List Int),(aB d)[k]?=some v->d.C[v]?=some x->p[k]?=some l->l.length=bB d.C x/\∀a∈l,0<=a/\a<x.L
def mA (p:List (List Int)):Prop:=(p.length:Int)<2 ^ 38/\∀r∈p,(r.length:Int)<2 ^ 38
noncomputable def eA (d:ZM)(p:List (List Int)):Int:=if lE (ZR d) then (if lE (ZU d p) then 0 else 201) else 200
def xD (d:ZM)(hf:Z1 d)(p:List (List Int))(hp:mA p)(H:ZJ)(K:ZP->ZJ->Prop)(hK:K (.ret (aa (eA d p))) H):ag prog G0 38 [cM d,aE p] H K:=by
 refine ag.Z ⟨_,func38,rfl,rfl⟩ fun hcl=>?_;refine ag.st (n:=64) (rs:=[.cell 4 46]) func38 ?_;simp only[go_sem,fW,bq];obtain⟨H1,hH1⟩:∃H1,H1=ext H [.J 0 38 (bq d),.J 0 33 [aE p],.J 0 46 [.lit (.int .i64 0)]]:=⟨_,rfl⟩
 have g1:=de hH1
 have g2:=gE hH1 1 rfl
 have g3:=gE hH1 2 rfl
 have l1:=ae g1;have l3:=ae g3;have n1:H1.A=H.A+3:=hH1▸rfl
 have o1:ZN H H1:=hH1▸.ext _ _
 unfold bq at hH1 l1;rw[<- hH1];refine au.Z (AC d hf _ _ ⟨trivial,?_⟩);by_cases hok:ZR d;rotate_left
 ·rw[gU hok];simp only[go_sem,l3];unfold eA at hK;rw[gU hok]at hK;exact aq.bC aJ hcl (o1.upd O _) (.lit _) hK
 rw[ep hok];have hR:=hok.n;have no:¬ZU d p->∀H',ZN H H'->aq prog G0 H K (.lit (.int .i64 201)) H':=fun h H' ov=>aq.bC aJ hcl ov (.lit _) (by unfold eA at hK;rw[ep hok,gU h]at hK;exact hK);have nb0:H.A≠H1.A:=O
 have l1e:∀L,(ext H1 L).V H.A 0=_:=fun L=>(ea O).trans l1;simp only[go_sem,l1e];refine au.Z (qT d _ _ ⟨trivial,?_⟩);simp only[go_sem];obtain⟨H2,hH2⟩:∃H2,H2=ext (ext H1 [.J 0 3 [.lit (.int .i64 0)]]) [dU d]:=⟨_,rfl⟩
 rw[<- hH2];have o2:ZN H1 H2:=by rw[hH2];exact(ZN.ext _ _).trans (.ext _ _)
 have n2:H2.A=H.A+5:=by rw[hH2,aM,aM,n1];rfl
 have hbx:H2.get (H.A+4)=some (dU d):=by rw[hH2,show H.A+4=(ext H1 [.J 0 3 [.lit (.int .i64 0)]]).A by rw[aM,n1];rfl];exact cI
 have g6:H2.get (H.A+3)=some (.J 0 3 [.lit (.int .i64 0)]):=by rw[hH2,dM _ _ _ (by rw[aM,n1];simp),show H.A+3=H1.A by omega];exact cI
 have o02:=o1.trans o2;refine W.env fun E hE=>?_;have e2:E 2=.M H.A 0 0:=by rw[hE];simp only[go_sem]
 have e3:E 3=.M (H.A+1) 0 0:=by rw[hE];simp only[go_sem]
 have e4:E 4=.M (H.A+2) 0 0:=by rw[hE];simp only[go_sem]
 have e6:E 6=.M (H.A+3) 0 0:=by rw[hE,<- n1];simp only[go_sem]
 have eN:(ext H1 [.J 0 3 [.lit (.int .i64 0)]]).A=H.A+4:=by rw[aM,n1];rfl
 have e17:E 17=.Z 104 [] [.M (H.A+4) 0 0]:=by rw[hE,<- eN];rfl
 clear hE
  -- what stays as it is
 let S:ZJ->Prop:=fun Hx=>H2.A<=Hx.A/\∀id,id<H2.A->id≠H.A+3->id≠H.A+2->Hx.get id=H2.get id
 have ovS:∀ {Hx},S Hx->ZN H Hx:=fun h=>⟨by have:=h.1;omega,fun id hi=>(h.2 id O O O).trans (o02.nb id hi)⟩
 refine W.jN (f:=104) (first:=[]) (cap:=[.M (H.A+4) 0 0]) (by show E 17=_;exact e17) (qS d (by have:=hf.C.1;omega) hf.Y (H.A+4))
  (fun k Hx=>S Hx/\Hx.get (H.A+2)=some (.J 0 46 [.lit (.int .i64 0)])/\Hx.get (H.A+3)=some (.J 0 3 [.lit (.int .i64 k)])/\∀j v x,j<k->(aB d)[j]?=some v->d.C[v]?=some x->∃l,p[j]?=some l/\l.length=bB d.C x/\∀a∈l,0<=a/\a<x.L)
  (fun c Hx=>c=.ret/\S Hx/\Hx.get (H.A+2)=some (.J 0 46 [.lit (.int .i64 201)])/\¬ZU d p)
  (fun k Hx h=>by rw[h.1.2 _ O O O];exact hbx)
  (fun k Hx b h=>⟨⟨h.1.1,fun id h1 h2 h3=>by rw[af,Vx O];exact h.1.2 id h1 h2 h3⟩,by rw[af,Vx O];exact h.2.1,by rw[af,Vx O];exact h.2.2.1,h.2.2.2⟩)
  (fun c Hx b h=>⟨h.1,⟨h.2.1.1,fun id h1 h2 h3=>by rw[af,Vx O];exact h.2.1.2 id h1 h2 h3⟩,by rw[af,Vx O];exact h.2.2.1,h.2.2.2⟩)
  (fun b=>⟨⟨by rw[aM];omega,fun id h1 h2 h3=>aX h1⟩,by rw[aX O,o2.nb _ O];exact g3,by rw[aX O];exact g6,fun j v x h=>absurd h (VN _)⟩)
  ZG lD (fun _ _ _=>trivial) (fun _ _ _=>trivial) (fun k y Hx B Bb hy hj hn hB hBb=>?_) (fun Hx hj hn=>?_) (fun Hx hs hn=>?_) (fun i Hx hs hn=>by cases hs.1)
 ·obtain⟨v,hv,rfl⟩:=kE hy;obtain⟨v1,v2,v3⟩:=fw hv;obtain⟨x,hx⟩:=ao (l:=d.C) (i:=v) v1;obtain⟨x1,x2⟩:=hR.dec v x hx v2;refine W.vs ?_;simp only[go_sem,eZ,bb,fO,V6,Ws,V7,Wb,hB];obtain⟨H3,hH3⟩:∃H3,H3=Hx.upd H2.A Bb:=⟨_,rfl⟩
  rw[<- hH3];obtain⟨st,pd,n',en,ps',as',bo,hBe⟩:=hBb;have n3:H3.A=Hx.A:=by rw[hH3];rfl
  have o3:∀id,id≠H2.A->H3.get id=Hx.get id:=fun id h=>by rw[hH3,af,Vx h]
  have jB:H3.get H2.A=some Bb:=by rw[hH3,af,VA rfl]
  have hS3:S H3:=⟨by rw[n3];exact hj.1.1,fun id h1 h2 h3=>(o3 id O).trans (hj.1.2 id h1 h2 h3)⟩
  have j1:=ae ((hS3.2 _ O O O).trans ((o2.nb _ O).trans g1));have j2:=ae ((hS3.2 _ O O O).trans ((o2.nb _ O).trans g2));have j4:=ae ((o3 _ O).trans hj.2.1);have j6:=ae ((o3 _ O).trans hj.2.2.1);unfold bq at j1;have ps:=jK hR.n1.2 x2 hR.L;have hin:fm x.F d.C.length:=fun q hq=>by have:=x2.2 q hq;omega
  have hpp:1<=aj (aV d.C x):=dY fun c hc=>(oL hin hR.L c hc).1;have hpb:=ps.prod;have hrn:((bB d.C x:Nat):Int)=aj (aV d.C x):=by unfold bB;omega
  have hvn:(v:Int)<d.C.length:=O
  have hne:=eT hx;have ec:=iS hx;have hkl:=aI hv;have hk8:k<8:=by
   have h1:=ia (D:=d.Y) (n:=d.C.length);have h2:=hR.n1.2;have h3:k<(eH d.Y d.C.length).length:=hkl;omega
  refine W.en (fun E1=>E1 2=.M H.A 0 0 /\ E1 3=.M (H.A+1) 0 0 /\ E1 4=.M (H.A+2) 0 0 /\ E1 6=.M (H.A+3) 0 0 /\ E1 7=aa k /\ E1 8=aa v) (by simp only[go_sem,bb,e2,e3,e4,e6]) fun E1 ⟨m2,m3,m4,m6,m7,m8⟩=>?_
  have stop:¬ZU d p->(H3.upd (H.A+2) (ZQ.J 0 46 [.lit (.int .i64 201)])).get H2.A=some Bb/\Hx.A<=(H3.upd (H.A+2) (ZQ.J 0 46 [.lit (.int .i64 201)])).A/\S (H3.upd (H.A+2) (ZQ.J 0 46 [.lit (.int .i64 201)])) /\
    (H3.upd (H.A+2) (ZQ.J 0 46 [.lit (.int .i64 201)])).get (H.A+2)=some (.J 0 46 [.lit (.int .i64 201)])/\¬ZU d p:=fun h =>
   ⟨by rw[af,Vx O];exact jB,by rw[aA];omega,⟨by rw[aA];exact hS3.1,fun id h1 h2 h3=>by rw[af,Vx h3];exact hS3.2 id h1 h2 h3⟩,by rw[af,VA rfl],h⟩
  refine W.vs ?_;simp only[go_sem];refine W.dr 14 [0,0,2,7,15,31,31,127,255,511,31,1055,31,7199] mixed ?_;by_cases c1:(k:Int) >= p.length
  ·simp only[go_sem,m3,m4,m7,j2,j4,c1,aE,dE];exact stop fun h=>by have:=h.len;omega
  obtain⟨l,hl⟩:=ao (l:=p) (i:=k) O;have hlm:=an hl;have hlne:=aO hl;have hkp:(k:Int)<p.length:=O
  have hll:=hp.2 l hlm;simp only[go_sem,m2,m3,m7,m8,j1,j2,c1,hkp,hl,hlne,aE];refine⟨.lit (.int .i64 (bB d.C x:Nat)),[],bL.pure fun H2=>pX d.C v x hx hin ps H2 _ ⟨by rw[hrn];rfl,rfl⟩,?_⟩;by_cases c2:(l.length:Int)=bB d.C x;rotate_left
  ·simp only[go_sem,c2,m4,j4,dE];exact stop fun h=>c2 (by have:=(h.row k v x l hv hx hl).1;omega)
  simp only[go_sem,c2,m3,m7,j2,hkp,hl,hlne,aE];refine W.aP 288228177128457216 (by rfl) (fun ρ2 H4=>H4=H3/\∃i:Nat,ρ2 41=aa i/\i<=l.length/\∀a∈l.take i,0<=a/\a<x.L) (fun ρ2 H=>l.length-(iv (ρ2 41)).toNat) ?_ ?_
  ·simp only[go_sem];exact⟨0,rfl,O,ZF⟩
  rintro ρ2 H4 ⟨rfl,i,h41,hi,hw⟩;refine W.vs ?_;by_cases hb2:(i:Int)<l.length<;>have hb2':=hb2<;>rw[c2]at hb2'
  ·obtain⟨a,ha⟩:=ao (l:=l) (i:=i) O;have ham:=an ha;have hane:=aO ha;by_cases d1:a<0
   ·simp only[go_sem,h41,hb2,hb2',ha,hane,d1,m4,j4,dE];exact stop fun h=>by have:=(h.row k v x l hv hx hl).2 a ham;omega
   by_cases d2:a >= x.L
   ·simp only[go_sem,h41,hb2,hb2',ha,hane,d1,d2,m2,m4,m8,j1,j4,hvn,hne,ec,dE];exact stop fun h=>by have:=(h.row k v x l hv hx hl).2 a ham;omega
   have w1:=Vv ((i:Int)+1) O;simp only[go_sem,h41,hb2,hb2',ha,hane,d1,d2,w1,m2,m8,j1,hvn,hne,ec];refine⟨⟨_,_,_,_,_,_,_,by rw[jB,hBe]⟩,⟨i+1,ZF,O,fun w hw'=>?_⟩,O⟩;rw[aU ha]at hw';rcases V3.1 hw' with hw'|hw'
   ·exact hw w hw'
   ·obtain rfl:=List.mem_singleton.1 hw';exact⟨O,O⟩
  ·rw[Vy O]at hw;have w1:=Vv ((k:Int)+1) O;simp only[go_sem,h41,hb2',m6,j6,w1,dE];refine⟨by rw[af,Vx O];exact jB,by rw[aA];omega,⟨by rw[aA];exact hS3.1,fun id h1 h2 h3=>by rw[af,Vx h2];exact hS3.2 id h1 h2 h3⟩,by rw[af,Vx O,o3 _ O];exact hj.2.1,by rw[af,VA rfl];simp,fun j u z hj2 hu hz=>?_⟩;rcases VV j k with hjk|hjk
   ·exact hj.2.2.2 j u z hjk hu hz
   ·obtain rfl:j=k:=O;rw[hv]at hu;cases hu;rw[hx]at hz;cases hz;exact⟨l,hl,O,hw⟩
 ·rw[jZ]at hj;have j2:=ae ((hj.1.2 _ O O O).trans ((o2.nb _ O).trans g2));have j4:=ae hj.2.1;have j6:=ae hj.2.2.1;by_cases c3:(p.length:Int)=(aB d).length;rotate_left
  ·simp only[go_sem,e3,e4,e6,j2,j4,j6,c3,aE];exact no (fun h=>c3 (by have:=h.len;omega)) _ ((ovS hj.1).upd O _)
  have hpo:ZU d p:=⟨O,fun k v x l h1 h2 h3=>by
   obtain⟨l',h4,h5⟩:=hj.2.2.2 k v x (aI h1) h1 h2;rw[h3]at h4;cases h4;exact h5⟩
  simp only[go_sem,e3,e4,e6,j2,j4,j6,c3,aE];unfold eA at hK;rw[ep hok,ep hpo]at hK;exact aq.bC aJ hcl ((ovS hj.1).upd O _) (.lit _) hK
 ·obtain⟨_,hS,h4,hno⟩:=hs;have j4:=ae h4;simp only[go_sem,e4,j4];exact no hno _ (ovS hS)
def fixC (p:List (List Int))(k r:Nat):Int:=(p.getD k []).getD r 0
def SI (p:List (List Int))(k r b:Nat)(l:List Int)(a:Int)(hl:p[k]?=some l)(ha:l[r]?=some a)(H:ZJ)(hb:H.get b=some (.J 0 33 [aE p]))(K:ZP->ZJ->Prop)(hK:K (.ret (.lit (.int .i64 a))) H):
  ag prog G0 105 [.lit (.int .i64 k),.lit (.int .i64 r),.M b 0 0] H K:=by
 have l0:=ae hb;have h1:(k:Int)<p.length:=by have:=aI hl;omega
 have h2:(r:Int)<l.length:=by have:=aI ha;omega
 have n1:=aO hl;have n2:=aO ha;refine ag.st (n:=13) (rs:=[.tmp 5]) func105 ?_;simp only[go_sem,l0,aE,h1,h2,hl,ha,n1,n2];exact aq.mk ZI hK
def SJ (p:List (List Int))(k r b:Nat)(l:List Int)(a:Int)(hl:p[k]?=some l)(ha:l[r]?=some a)(H:ZJ)(hlt:b<H.A)(hb:H.get b=some (.J 0 33 [aE p])):
  bL prog G0 (.Z 105 [] [.M b 0 0]) [.lit (.int .i64 k),.lit (.int .i64 r)] H (.lit (.int .i64 a)) [b] :=
 bL.mk (fun i hi=>by obtain rfl:=List.mem_singleton.1 hi;exact hlt) fun H2 h2 _=>SI p k r b l a hl ha H2 ((h2 b ZF).trans hb) _ ⟨rfl,rfl⟩
def Fi (h:ZU d p){k r:Nat}(hv:(aB d)[k]?=some v)(hx:d.C[v]?=some x)(hr:r<bB d.C x):
  ∃l a,p[k]?=some l/\l[r]?=some a/\fixC p k r=a/\0<=a/\a<x.L:=by
 obtain⟨l,hl⟩:=ao (l:=p) (i:=k) (by rw[h.len];exact aI hv);obtain⟨h1,h2⟩:=h.row k v x l hv hx hl;obtain⟨a,ha⟩:=ao (l:=l) (i:=r) O;exact⟨l,a,hl,ha,by unfold fixC;rw[bM hl,bM ha],h2 a (an ha)⟩
def uN:ZK:=.agg [.lit (.int .i64 0),.Q 0 []]
noncomputable def uO (d:ZM)(p:List (List Int)):ZK:=if eA d p=0 then dJ d.X (cR d (fixC p)) else uN
def Fj :eA d p=0↔ZR d/\ZU d p:=by
 unfold eA;by_cases h1:ZR d
 ·by_cases h2:ZU d p
  ·rw[ep h1,ep h2];exact⟨fun _=>⟨h1,h2⟩,fun _=>rfl⟩
  ·rw[ep h1,gU h2];exact⟨fun h=>by simp at h,fun h=>absurd h.2 h2⟩
 ·rw[gU h1];exact⟨fun h=>by simp at h,fun h=>absurd h.1 h1⟩
def SK (d:ZM)(hf:Z1 d)(p:List (List Int))(hp:mA p)(H:ZJ)(K:ZP->ZJ->Prop)(hK:K (.ret (.nf [uO d p,aa (eA d p)])) H):ag prog G0 61 [cM d,aE p] H K:=by
 refine ag.Z ⟨_,func61,rfl,rfl⟩ fun hcl=>?_;refine ag.st (n:=17) (rs:=[.cell 4 81,.tmp 5]) func61 ?_;simp only[go_sem,fW,bq];obtain⟨H1,hH1⟩:∃H1,H1=ext H [.J 0 38 [.lit (.int .i64 d.X),.Q d.C.length (aG d.C),.lit (.int .u64 (d.Y:Int)),.Q d.nn.length (bj d.nn)],.J 0 33 [aE p],.J 0 81 [.lit (.int .i64 0),.lit (.slice none 0 0)]]:=⟨_,rfl⟩
 have g1:=de hH1
 have g2:=gE hH1 1 rfl
 have g3:=gE hH1 2 rfl
 have l1:=ae g1;have l2:=ae g2;have l3:=ae g3;have n1:H1.A=H.A+3:=hH1▸rfl
 have o1:ZN H H1:=hH1▸.ext _ _
 rw[<- hH1];refine au.Z (xD d hf p hp _ _ ⟨trivial,?_⟩);by_cases hz:eA d p=0;rotate_left
 ·have hcell:(ZK.lit (.int .i64 (eA d p))).cells=[.lit (.int .i64 (eA d p))]:=rfl;simp only[go_sem,hz,l3];have ef:uO d p=uN:=Vx hz;rw[ef]at hK;refine aq.bC (v':=.nf [uN,aa (eA d p)]) aJ hcl (o1.upd O _) (.nf rfl fun i hi _=>?_) hK
  match i,hi with
  |0,_ =>
   refine .agg rfl fun i hi _=>?_
   match i,hi with
   |0,_=>exact .lit _
   |1,_=>exact .nil
  |1,_=>exact .lit _
 obtain⟨hok,hpo⟩:=Fj.1 hz;rw[hz]at hK ⊢;simp only[go_sem,l1];refine au.Z (Fh d hf hok.n (fixC p) _ [H.A+1] _ (fun i hi=>by obtain rfl:=List.mem_singleton.1 hi;omega) rfl rfl (fun k r v x H2 hv hx hr ov=>?_) _ ⟨trivial,?_⟩)
 ·obtain⟨l,a,hl,ha,he,hb⟩:=Fi hpo hv hx hr;rw[he];exact⟨hb,SJ p k r (H.A+1) l a hl ha H2 (by have:=ov.A;omega) ((ov.nb _ O).trans g2)⟩
 ·simp only[go_sem,l3,dJ,dX];have ef:uO d p=dJ d.X (cR d (fixC p)):=VA hz;rw[ef]at hK;refine aq.bC (v':=.nf [dJ d.X (cR d (fixC p)),aa 0]) aJ hcl (o1.upd O _) (.nf rfl fun i hi _=>?_) hK
  match i,hi with
  |0,_ =>
   refine .agg rfl fun i hi _=>?_
   match i,hi with
   |0,_=>exact .lit _
   |1,_=>exact sZ _
  |1,_=>exact .lit _
end Go.Proofs
namespace Go.Hx
variable {P:Program} {G:Nat->Option (List ZK)} {n:Nat} {rd:Option Nat} {Q:AX->St->Prop}
def x9 (N:Nat)(H1 H2:ZJ):Prop:=H1.A<=H2.A/\∀id,id≠N->id<H1.A->H2.get id=H1.get id
def Gr (P:Program)(G:Nat->Option (List ZK))(f:FuncId)(first cap:List ZK)(xs:List (List ZK))(N:Nat)(S0:ZJ->Prop)(S:Nat->ZJ->Prop):Prop :=
 ∀(idy:Nat) (J:Nat->ZJ->Prop) (Stop:ZJ->Prop) (H:ZJ) (K:ZP->ZJ->Prop),H.A=N ->
  (∀k H1,J k H1->S0 H1)->(∀k H1 H2,J k H1->x9 N H1 H2->J k H2)->J 0 H ->
  (∀k x H1 K1,xs[k]?=some x->J k H1->S k H1->N<H1.A->(∀H',J (k+1) H'->S k H'->H1.A<=H'.A->K1 (.ret (.lit (.bool true))) H')->(∀H',Stop H'->H1.A<=H'.A->K1 (.ret (.lit (.bool false))) H')->au P G (.np idy) x H1 K1) ->
  (∀H',J xs.length H'->N<=H'.A->K (.ret (.nf [])) H') ->
  (∀H',Stop H'->N<=H'.A->K (.ret (.nf [])) H') ->
  ag P G f (first++[.np idy]++cap) H K
def W.tu {g:Operand}{ps:Array Tmp}{asg body:Code}{ρ:Env}{H:ZJ}{f:FuncId}{first cap:List ZK}{xs:List (List ZK)}{S0:ZJ->Prop}{S:Nat->ZJ->Prop}(hg:ay G ρ g=.Z f first cap)
  (hit:Gr P G f first cap xs (H.A+1) S0 S) (J:Nat->ZJ->Prop) (Stop:AX->ZJ->Prop) (hS:∀k H1,J k H1->S0 H1) (hJw:∀k H1 H2,J k H1->x9 (H.A+1) H1 H2->J k H2) (hlow:∀k H1,J k H1->H.A<H1.A)
  (hJu:∀k H1 b,J k H1->J k (H1.upd H.A b)) (hSu:∀c H1 b,Stop c H1->Stop c (H1.upd H.A b)) (hSk:∀k H1 b,S k H1->S k (H1.upd H.A b))
  (hJ0:∀b,J 0 (ext H [b])) (hps:ps.toList.all (fun t=>decide (t<n))=true) (hxl:∀x∈xs,x.length=ps.size)
  (hrd:∀k H1,J k H1->fZ H1 rd) (hrd2:∀c H1,Stop c H1->fZ H1 rd)
  (hround:∀k x H1 B Bb,xs[k]?=some x->J k H1->S k H1->H.A+1<H1.A->H1.get H.A=some B->(∃st pd n' en ps' as' bo,Bb=ZQ.loop st pd n' en ps' as' bo) ->
   W P G n (some H.A) asg (fO P G n H.A B Bb H1.A body (fun H'=>J (k+1) H'/\S k H') Stop) ⟨eZ (bb ρ n) (ps.toList.zip x),H1⟩)
  (hend:∀H',J xs.length H'->H.A+1<=H'.A->Q .normal ⟨ρ,H'⟩)
  (hret:∀H',Stop .ret H'->H.A+1<=H'.A->Q .ret ⟨ρ,H'⟩) (hexit:∀i H',Stop (.exit i) H'->H.A+1<=H'.A->Q (.exit i) ⟨ρ,H'⟩):
  W P G n rd (.rangeFunc g ps asg body) Q ⟨ρ,H⟩:=by
 refine W.rangeFunc (s:=⟨ρ,H⟩) hg ⟨_,tR _ _,?_⟩;obtain⟨B,hB⟩:∃B,B=ZQ.loop .ready none n ρ ps asg body:=⟨_,rfl⟩
 obtain⟨Bb,hBb⟩:∃B,B=ZQ.loop .busy none n ρ ps asg body:=⟨_,rfl⟩
 have nx:(ext H [B]).A=H.A+1:=rfl;show ag P G f (first++[.np H.A]++cap) (ext H [ZQ.loop .ready none n ρ ps asg body]) (yW rd Q ρ H.A);rw[<- hB];refine hit H.A (fun k H1=>H1.get H.A=some B/\J k H1) (fun H1=>∃c pend,H1.get H.A=some (.loop .done (some pend) n ρ ps asg body)/\Stop c H1/\((c=.ret/\pend=.ret)\/∃i,c=.exit i/\pend=.exit i)) _ _ nx
  (fun k H1 h=>hS k H1 h.2) (fun k H1 H2 h hw=>⟨(hw.2 _ O (hlow _ _ h.2)).trans h.1,hJw _ _ _ h.2 hw⟩) ⟨cI,hJ0 B⟩ (fun k x H1 K1 hx hj hs hn hgo hst=>?_) (fun H' hj hn=>?_) (fun H' hj hn=>?_)
 ·have hxm:=hxl x (an hx);refine au.np (hj.1.trans (congrArg some hB)) hxm hps ?_;refine(hround k x H1 B Bb hx hj.2 hs hn hj.1 ⟨_,_,_,_,_,_,_,hBb⟩).mono fun e s1 h1=>?_;cases e with
  |normal =>
   obtain⟨a1,a2⟩:=h1;refine⟨Bb,by rw[a1,hB,hBb];rfl,?_⟩;refine a2.mono fun e2 s2 h2=>?_;cases e2 with
   |normal =>
    obtain⟨b1,b2,b3,b4⟩:=h2;exact⟨B,by rw[b1,hB,hBb];rfl,hgo _ ⟨by rw[af,VA rfl],hJu _ _ _ b3⟩ (hSk _ _ _ b4) b2⟩
   |ret =>
    obtain⟨b1,b2,b3⟩:=h2;exact⟨.loop .done (some .ret) n ρ ps asg body,by rw[b1,hBb];rfl,hst _ ⟨.ret,.ret,by rw[af,VA rfl],hSu _ _ _ b3,.inl ⟨rfl,rfl⟩⟩ b2⟩
   |exit i =>
    obtain⟨b1,b2,b3⟩:=h2;exact⟨.loop .done (some (.exit i)) n ρ ps asg body,by rw[b1,hBb];rfl,hst _ ⟨.exit i,.exit i,by rw[af,VA rfl],hSu _ _ _ b3,.inr ⟨i,rfl,rfl⟩⟩ b2⟩
   |_=>exact h2.elim
  |_=>exact h1.elim
 ·refine⟨hrd _ _ hj.2,(none,.loop .exhausted none n ρ ps asg body),by rw[hj.1,hB];rfl,?_⟩;exact hend _ (hJu _ _ _ hj.2) hn
 ·obtain⟨c,pend,h1,h2,h3⟩:=hj;refine⟨hrd2 _ _ h2,(some pend,.loop .exhausted (some pend) n ρ ps asg body),by rw[h1];rfl,?_⟩;rcases h3 with ⟨rfl,rfl⟩|⟨i,rfl,rfl⟩
  ·exact hret _ (hSu _ _ _ h2) hn
  ·exact hexit i _ (hSu _ _ _ h2) hn
end Go.Hx
