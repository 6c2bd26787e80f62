/- Own work: contracts. -/
import Derived.Test.YtcccmbeolcjacaaConA
set_option linter.all false
set_option maxHeartbeats 8000000
set_option maxRecDepth 100000
namespace Go.Proofs
open Go.Hx Try
variable {g:Int}{c:List Int}{ns:List TA}{D k n v:Nat}{p:Prop}{x:TA}{d:TD}{H H':Tz}
def xo:Ty:=.agg [.lit (.int .i64 0),ag [],ag [],ag [],ag []]
def xq (g:Int)(ns:List TA):Ty:=.agg [.lit (.int .i64 g),cz ns,ag (aA ns),fj (aX ns),ag (bf ((dO (aX ns)).getD []))]
structure T5 (g:Int)(ns:List TA)(H H':Tz)(c:List Int)(s:List Nat):Prop where
 nx:H.C+5<=H'.C
 ov:TC H H'
 b0:H'.get H.C=some (.L 0 64 [.lit (.int .i64 g),.M ns.length (aI ns)])
 b1:H'.get (H.C+1)=some (.L 0 148 [.lit (.int .i64 0),.lit (.slice none 0 0),.lit (.slice none 0 0),.lit (.slice none 0 0),.lit (.slice none 0 0)])
 b2:H'.get (H.C+2)=some (.L 0 3 (ints c))
 b3:H'.get (H.C+3)=some (.L 0 36 (s.map bj))
 b4:H'.get (H.C+4)=some (.L 0 148 [.lit (.int .i64 g),.M ns.length (aI ns),.V (H.C+2) 0 0 ns.length 1,.V (H.C+3) 0 0 ns.length 1,.lit (.slice none 0 0)])
 cl:c.length=ns.length
 sl:s.length=ns.length
def T5.over {H2:Tz}{s:List Nat}(h:T5 g ns H H' c s)(o:TC H' H2):T5 g ns H H2 c s where
 nx:=QH h.nx o.C
 ov:=h.ov.trans o
 b0:=(o.nb _ (by have:=h.nx;omega)).trans h.b0
 b1:=(o.nb _ (by have:=h.nx;omega)).trans h.b1
 b2:=(o.nb _ (by have:=h.nx;omega)).trans h.b2
 b3:=(o.nb _ (by have:=h.nx;omega)).trans h.b3
 b4:=(o.nb _ (by have:=h.nx;omega)).trans h.b4
 cl:=h.cl
 sl:=h.sl
def T5.OZ {s:List Nat}(h:T5 g ns H H' c s)(hk:k<c.length)(x:Int):T5 g ns H (H'.upd (H.C+2) (.L 0 3 (setAt (ints c) k [.lit (.int .i64 x)]))) (c.set k x) s where
 nx:=h.nx
 ov:=h.ov.upd U _
 b0:=by rw[ab,PX U];exact h.b0
 b1:=by rw[ab,PX U];exact h.b1
 b2:=by rw[ab,PZ rfl,ij hk]
 b3:=by rw[ab,PX U];exact h.b3
 b4:=by rw[ab,PX U];exact h.b4
 cl:=by simpa using h.cl
 sl:=h.sl
def O0 {l:List Nat}{i:Nat}{x:Nat}(h:i<l.length):setAt (l.map bj) i [.lit (.int .u64 (x:Int))]=(l.set i x).map bj:=by
 rw[dm (by simpa using h)];simp[bj]
def T5.O1 {s:List Nat}(h:T5 g ns H H' c s)(hk:k<s.length)(x:Nat):T5 g ns H (H'.upd (H.C+3) (.L 0 36 (setAt (s.map bj) k [.lit (.int .u64 (x:Int))]))) c (s.set k x) where
 nx:=h.nx
 ov:=h.ov.upd U _
 b0:=by rw[ab,PX U];exact h.b0
 b1:=by rw[ab,PX U];exact h.b1
 b2:=by rw[ab,PX U];exact h.b2
 b3:=by rw[ab,PZ rfl,O0 hk]
 b4:=by rw[ab,PX U];exact h.b4
 cl:=h.cl
 sl:=by simpa using h.sl
def T5.l0 {s:List Nat}(h:T5 g ns H H' c s):H'.Z H.C 0=some (64,[.lit (.int .i64 g),.M ns.length (aI ns)]):=ae h.b0
def T5.l1 {s:List Nat}(h:T5 g ns H H' c s):H'.Z (H.C+1) 0=some (148,[.lit (.int .i64 0),.lit (.slice none 0 0),.lit (.slice none 0 0),.lit (.slice none 0 0),.lit (.slice none 0 0)]):=ae h.b1
def T5.l2 {s:List Nat}(h:T5 g ns H H' c s):H'.Z (H.C+2) 0=some (3,ints c):=ae h.b2
def T5.l3 {s:List Nat}(h:T5 g ns H H' c s):H'.Z (H.C+3) 0=some (36,s.map bj):=ae h.b3
def T5.l4 {s:List Nat}(h:T5 g ns H H' c s):H'.Z (H.C+4) 0=some (148,[.lit (.int .i64 g),.M ns.length (aI ns),.V (H.C+2) 0 0 ns.length 1,.V (H.C+3) 0 0 ns.length 1,.lit (.slice none 0 0)]):=ae h.b4
def Cf {S:Nat->Prop}{nx:Nat}(ns:List TA):Fz S H nx (.M ns.length (aI ns)) (.M ns.length (aI ns)):=by
 refine .M rfl fun i hi _=>?_;have:∀(l:List TA) (c:Ty),c∈aI l->Fz S H nx c c:=by
  intro l c hc;unfold aI at hc;obtain⟨r,hr,hc⟩:=Rj.1 hc;obtain⟨x,_,rfl⟩:=Qm.1 hr;unfold TA.cells at hc;simp only[List.mem_cons,List.not_mem_nil,or_false]at hc;rcases hc with rfl|rfl|rfl
  ·exact .lit _
  ·exact .cK _
  ·exact .av _
 exact this ns _ (Qn _)
def O2 (g:Int)(hg:1<=g/\g<=60)(ns:List TA)(sets:List Nat)(x:TA)(hin:jq x.F ns.length)(hsm:eH (aY ns x))(hx1:(x.O.length:Int)<2 ^ 38)(hx2:∀r∈x.O,(r.length:Int)<2 ^ 38)(H:Tz)(ci si:Nat)
  (h2:H.get ci=some (.L 0 3 (ints (aA ns)))) (h3:H.get si=some (.L 0 36 (sets.map bj))) (hs:sets.length=ns.length) (K:TF->Tz->Prop)
  (hK:K (.ret (.lit (.bool (jr g ns x)))) H):af prog G0 102 [.agg [.lit (.int .i64 g),.M ns.length (aI ns),.V ci 0 0 ns.length 1,.V si 0 0 ns.length 1,.lit (.slice none 0 0)],.agg [.lit (.int .i64 x.J),.M x.F.length (ints x.F),av x.O]] H K:=by
 refine(af.frame (H:=H) (args:=[.agg [.lit (.int .i64 g),.M ns.length (aI ns),.V ci 0 0 ns.length 1,.V si 0 0 ns.length 1,.lit (.slice none 0 0)],.agg [.lit (.int .i64 x.J),.M x.F.length (ints x.F),av x.O]]) (args':=[.agg [.lit (.int .i64 g),cz ns,ag (aA ns),fj sets,.lit (.slice none 0 0)],qw x]) (v':=.lit (.bool (jr g ns x))) aT rfl (fun i hi _=>?_) (OW g hg ns sets x hin hsm hx1 hx2 cj _ ⟨_,rfl,.lit _⟩)).mono ?_
 ·match i,hi with
  |0,_ =>
   refine .agg rfl fun i hi _=>?_
   match i,hi with
   |0,_=>exact .lit _
   |1,_=>exact Cf _
   |2,_ =>
    have:=Fz.tK (nx:=0) h2 (n:=ns.length) (by rw[aR,fS]) (fun c hc=>by
     obtain⟨z,_,rfl⟩:=Qm.1 hc;exact⟨_,rfl⟩)
    show Fz _ _ _ _ (.M (aA ns).length (ints (aA ns)));rw[fS];exact this
   |3,_ =>
    have:=Fz.tK (nx:=0) h3 (n:=ns.length) (by simp[hs]) (fun c hc=>by
     obtain⟨z,_,rfl⟩:=Qm.1 hc;exact⟨_,rfl⟩)
    show Fz _ _ _ _ (.M sets.length (sets.map bj));rw[hs];exact this
   |4,_=>exact .lit _
  |1,_ =>
   refine .agg rfl fun i hi _=>?_
   match i,hi with
   |0,_=>exact .lit _
   |1,_=>exact .cK _
   |2,_=>exact .av _
 ·rintro r H' ⟨rfl,rfl⟩;exact hK
def O3 (hx:ns[k]?=some x)(h0:∀q∈x.F,0<=q)(hm:(k:Int)∈x.F):¬jX (aX ns):=fun h=>by
 have hk:=aG (kh hx);have:=h k hk;rw[cB (kh hx)]at this;have h1:=wO (aX ns) (aX ns).length (bV x.F) k (by rw[jW h0];exact Rx hm);unfold fC at this;rw[h1]at this;cases this
def O4 (g:Int)(ns:List TA)(hf:nZ ns)(H:Tz)(K:TF->Tz->Prop)(hK:K (.ret (if lb g ns then .nf [xq g ns,aa 0] else .nf [xo,aa 50])) H):af prog G0 87 [bR g ns] H K:=by
 refine af.nl ⟨_,func87,rfl,rfl⟩ fun hcl=>?_;have no:¬TX g ns->∀H',TC H H'->aw prog G0 H K (.nf [.agg [.lit (.int .i64 0),.lit (.slice none 0 0),.lit (.slice none 0 0),.lit (.slice none 0 0),.lit (.slice none 0 0)],.lit (.int .i64 50)]) H':=fun h H' ov=>by
  rw[qu h]at hK;refine aw.bJ (v':=.nf [xo,aa 50]) aT hcl ov (.nf rfl fun i hi _=>?_) hK
  match i,hi with
  |0,_ =>
   refine .agg rfl fun i hi _=>?_
   match i,hi with
   |0,_=>exact .lit _
   |1,_=>exact .nil
   |2,_=>exact .nil
   |3,_=>exact .nil
   |4,_=>exact .nil
  |1,_=>exact .lit _
 refine af.st (n:=140) (rs:=[.cell 2 148,.tmp 3]) func87 ?_;simp only[go_sem,bR,cz];have l1:=ae (cW H (.L 0 64 [.lit (.int .i64 g),.M ns.length (aI ns)]) [.L 0 148 [.lit (.int .i64 0),.lit (.slice none 0 0),.lit (.slice none 0 0),.lit (.slice none 0 0),.lit (.slice none 0 0)]]);by_cases c1:g<1
 ·simp only[go_sem,c1];exact no (fun h=>by have:=h.g1;omega) _ (.ext _ _)
 by_cases c2:g > 60
 ·simp only[go_sem,l1,c1,c2];exact no (fun h=>by have:=h.g1;omega) _ (.ext _ _)
 by_cases c3:(ns.length:Int)<1
 ·simp only[go_sem,l1,c1,c2,c3];exact no (fun h=>by have:=h.n1;omega) _ (.ext _ _)
 by_cases c4:(ns.length:Int) > 8
 ·simp only[go_sem,l1,c1,c2,c3,c4];exact no (fun h=>by have:=h.n1;omega) _ (.ext _ _)
 simp only[go_sem,l1,c1,c2,c3,c4];refine W.dr 11 [0,0,2,6,14,0,32,96,224,511,0] mixed ?_;simp only[go_sem,l1]
 repeat (refine And.intro (by first|omega|(simp;done)|(simp;omega)|(intros;omega)|exact⟨rfl,U,U,jJ _⟩) ?_)
 obtain⟨Hb,hHb⟩:∃Hb,Hb=ext (ext H [.L 0 64 [.lit (.int .i64 g),.M ns.length (aI ns)],.L 0 148 [.lit (.int .i64 0),.lit (.slice none 0 0),.lit (.slice none 0 0),.lit (.slice none 0 0),.lit (.slice none 0 0)],.L 0 3 (List.replicate ns.length (.lit (.int .i64 0))),.L 0 36 (List.replicate ns.length (.lit (.int .u64 0)))]) [.L 0 148 [.lit (.int .i64 g),.M ns.length (aI ns),.V (H.C+2) 0 0 ns.length 1,.V (H.C+3) 0 0 ns.length 1,.lit (.slice none 0 0)]]:=⟨_,rfl⟩
 rw[<- hHb];have R0:T5 g ns H Hb (List.replicate ns.length 0) (List.replicate ns.length 0):=by
  rw[hHb,jL];exact⟨by simp[bh],.ext _ _,cW ..,dV H _ 1 Tu,by rw[dV H _ 2 Tu];simp[ints,aa],by rw[dV H _ 3 Tu];simp[bj],dV H _ 4 Tu,Tu,Tu⟩
 have hcard:∀ {k:Nat},(∀x∈ns.take k,1<=x.J/\x.J<=4)->eH ((aA ns).take k):=fun {k} h=>qv (by simp[aA];omega) fun c hc=>by
  rw[show (aA ns).take k=aA (ns.take k) by simp[aA]]at hc;obtain⟨y,hy,rfl⟩:=Qm.1 hc;exact h y hy
 refine W.aM 37778930737057254867176 (by rfl) (fun ρ H'=>∃(k:Nat) (c:List Int),ρ 50=aa k/\k<=ns.length/\ρ 5=aa (au ((aA ns).take k))/\T5 g ns H H' c (List.replicate ns.length 0)/\Hb.C<=H'.C/\c.take k=(aA ns).take k/\∀x∈ns.take k,1<=x.J/\x.J<=4) (fun ρ H=>ns.length-(iv (ρ 50)).toNat) ?_ ?_
 ·simp only[go_sem];exact⟨0,_,rfl,U,by simp[jV],R0,Tu⟩
 rintro ρ H' ⟨k,c,h50,hk,h5,R,hn,hc,hall⟩;refine W.vs ?_;have q0:=R.l0;have q1:=R.l1;have q2:=R.l2;have q4:=R.l4;have rn:=R.nx;by_cases hb:(k:Int)<ns.length
 ·obtain⟨x,hx⟩:=az (l:=ns) (i:=k) U;have hxm:=an hx;have hne:=dN hx;have e0:=nO hx;have e1:k*3+3<=(aI ns).length:=by rw[gM];omega
  have R2:=R.over (.ext H' [.L 0 83 [.lit (.int .i64 x.J),.M x.F.length (ints x.F),av x.O]]);have p1:=R2.l1;have p2:=R2.l2;have p4:=R2.l4;have nb1:¬H.C+1=H'.C:=U
  have nb2:¬H.C+2=H'.C:=U
  have nb4:¬H.C+4=H'.C:=U
  by_cases d1:x.J<1
  ·simp only[go_sem,h50,p1,hb,hne,e0,e1,d1];exact no (fun h=>by have:=(h.node x hxm).1;omega) _ (R2.ov.upd U _)
  by_cases d2:x.J > 4
  ·simp only[go_sem,h50,p1,hb,hne,e0,e1,d1,d2];exact no (fun h=>by have:=(h.node x hxm).1;omega) _ (R2.ov.upd U _)
  have hall':∀y∈ns.take (k+1),1<=y.J/\y.J<=4:=fun y hy=>by
   rw[aO hx]at hy;rcases Qe.1 hy with hy|hy
   ·exact hall y hy
   ·obtain rfl:=List.mem_singleton.1 hy;exact⟨U,U⟩
  have b2:=(hcard hall').prod;rw[aO (dk hx),fO]at b2;have w1:=PW ((k:Int)+1) U;have w2:=PW (au ((aA ns).take k)*x.J) U;have hkc:k<c.length:=by rw[R.cl];omega
  have p0:∀b,((ext H' [.L 0 83 [.lit (.int .i64 x.J),.M x.F.length (ints x.F),av x.O]]).upd (H.C+2) b).Z H'.C 0=some (83,[.lit (.int .i64 x.J),.M x.F.length (ints x.F),av x.O]):=fun b=>by
   rw[eS U];exact ae bX
  simp only[go_sem,h50,h5,p2,p4,p0,hb,hne,e0,e1,d1,d2,w1,w2];exact⟨U,by rw[aq,bh];omega,⟨k+1,_,Tu,U,by rw[aO (dk hx),fO],R2.OZ hkc x.J,by rw[aq,bh];omega,Pm hc hkc (dk hx),fun y hy=>hall' y hy⟩,U⟩
 have ek:k=ns.length:=U
 subst ek;rw[PY Tx]at hall;rw[PY (by rw[fS];omega)]at h5;have ec:c=aA ns:=by
  rw[PY (by rw[R.cl];omega),PY (by rw[fS];omega)]at hc;exact hc
 subst ec;by_cases c5:au (aA ns) > 1024
 ·simp only[go_sem,h50,h5,q1,hb,c5];exact no (fun h=>by have:=h.size;omega) _ (R.ov.upd U _)
 simp only[go_sem,h50,h5,q4,hb,c5];refine W.aM 340282366920933627760096148915069392648 (by rfl) (fun ρ' H2=>∃(k:Nat) (s:List Nat),ρ' 82=aa k/\k<=ns.length/\T5 g ns H H2 (aA ns) s/\H'.C<=H2.C/\s.take k=(aX ns).take k/\(∀j,k<=j->s.getD j 0=0)/\∀x∈ns.take k,bI x.F ns.length/\fk g ns x) (fun ρ' H=>ns.length-(iv (ρ' 82)).toNat) ?_ ?_
 ·simp only[go_sem];refine⟨0,_,rfl,U,R,rfl,fun j _=>?_,Tu⟩;rw[QD,RH];split<;>rfl
 rintro ρ' H2 ⟨k,s,h82,hk2,R2,hn2,hs,hs0,hall2⟩;refine W.vs ?_;have r2:=R2.nx;have q4:=R2.l4;by_cases hb2:(k:Int)<ns.length;rotate_left
 ·have es:s=aX ns:=by
   rw[PY (by rw[R2.sl];omega),PY (by simp[aX];omega)]at hs;exact hs
  subst es;rw[PY U]at hall2;have hlt:∀p∈aX ns,p<2 ^ ns.length:=tI fun x hx q hq=>(hall2 x hx).1.2 q hq;have hsl:(aX ns).length=ns.length:=by simp[aX]
  have hlt64:∀p∈aX ns,p<2 ^ 64:=fun p hp=>P5 (hlt p hp) (Qu Tv U);have hto:=Bd (ps:=aX ns) (by rw[hsl];exact hlt) U;simp only[go_sem,h82,q4,hb2];have fzs:=Fz.tK (nx:=0) R2.b3 (n:=ns.length) (by simp[R2.sl]) (fun c hc=>by
   obtain⟨z,_,rfl⟩:=Qm.1 hc;exact⟨_,rfl⟩)
  refine aE.nl (OY (aX ns) U hlt64 _ _ (by show Fz _ _ _ _ (.M (aX ns).length _);rw[hsl];exact fzs) _ ⟨trivial,?_⟩);have q1:=R2.l1;cases hso:(dO (aX ns)).isSome
  ·simp only[go_sem,q1];exact no (fun h=>by rw[hto.2 h.acyc]at hso;cases hso) _ (R2.ov.upd U _)
  have hok:TX g ns:=⟨U,U,fun x hx=>⟨hall x hx,(hall2 x hx).1⟩,U,hto.1 hso,fun x hx=>(hall2 x hx).2⟩
  rw[qt hok]at hK;have q1b:∀b,(H2.upd (H.C+4) b).Z (H.C+1) 0=_:=fun b=>(eS U).trans q1;simp only[go_sem,q1b,q4];have ovf:TC H ((H2.upd (H.C+4) (.L 0 148 [.lit (.int .i64 g),.M ns.length (aI ns),.V (H.C+2) 0 0 ns.length 1,.V (H.C+3) 0 0 ns.length 1,.M (bf ((dO (aX ns)).getD [])).length (ints (bf ((dO (aX ns)).getD [])))])).upd (H.C+1) (.L 0 148 [.lit (.int .i64 g),.M ns.length (aI ns),.V (H.C+2) 0 0 ns.length 1,.V (H.C+3) 0 0 ns.length 1,.M (bf ((dO (aX ns)).getD [])).length (ints (bf ((dO (aX ns)).getD [])))])):=(R2.ov.upd U _).upd U _;refine aw.bJ (v':=.nf [xq g ns,aa 0]) aT hcl ovf (.nf rfl fun i hi _=>?_) hK
  match i,hi with
  |1,_=>exact .lit _
  |0,_ =>
   refine .agg rfl fun i hi _=>?_
   match i,hi with
   |0,_=>exact .lit _
   |1,_=>exact Cf _
   |2,_ =>
    have hg2:∀b b',((H2.upd (H.C+4) b).upd (H.C+1) b').get (H.C+2)=some (.L 0 3 (ints (aA ns))):=fun b b'=>by rw[ab,PX U,ab,PX U];exact R2.b2
    show Fz _ _ _ (.V (H.C+2) 0 0 ns.length 1) (.M (aA ns).length (ints (aA ns)));rw[<- fS ns];exact .ints (by show H.C<=_;omega) (hg2 _ _) Tu fun i hi=>by simp[gF,hi]
   |3,_ =>
    have hg3:∀b b',((H2.upd (H.C+4) b).upd (H.C+1) b').get (H.C+3)=some (.L 0 36 ((aX ns).map bj)):=fun b b'=>by rw[ab,PX U,ab,PX U];exact R2.b3
    show Fz _ _ _ (.V (H.C+3) 0 0 ns.length 1) (.M (aX ns).length ((aX ns).map bj));rw[<- hsl];refine .np (by show H.C<=_;omega) (hg3 _ _) Tu fun j hj h2 h'=>?_;simp only[Nat.zero_add,P4];exact .lit _
   |4,_=>exact .cK _
 obtain⟨x,hx⟩:=az (l:=ns) (i:=k) U;have hxm:=an hx;have hne:=dN hx;have e0:=nO hx;have e1:k*3+3<=(aI ns).length:=by rw[gM];omega
 obtain⟨f1,f2,f3⟩:=hf.2 x hxm;simp only[go_sem,h82,hb2,hne,e0,e1];obtain⟨H3,hH3⟩:∃H3,H3=ext H2 [.L 0 83 [.lit (.int .i64 x.J),.M x.F.length (ints x.F),av x.O]]:=⟨_,rfl⟩
 have R3:T5 g ns H H3 (aA ns) s:=by rw[hH3];exact R2.over (.ext _ _)
 have nn:H3.C=H2.C+1:=hH3▸rfl
 have gN:=dA hH3
 rw[<- hH3];have hks:k<s.length:=by rw[R2.sl];omega
 have s0:s.set k 0=s:=by
  apply QC;intro i;rw[RV];split
  ·rename_i h;subst h;have:=hs0 k Tx;rw[QD,PV hks]at this;simp only[Option.getD_some]at this;rw[PV hks,this]
  ·rfl
 refine W.aM 5316911981901723452329847966222259208 (by rfl) (fun ρ2 H4=>∃(j:Nat) (b:Int),ρ2 90=aa j/\j<=x.F.length/\ρ2 10=aa b/\bI (x.F.take j) ns.length/\(x.F.take j).getLast?.getD (-1)=b/\T5 g ns H H4 (aA ns) (s.set k (bV (x.F.take j)))/\H3.C<=H4.C/\H4.get H2.C=some (.L 0 83 [.lit (.int .i64 x.J),.M x.F.length (ints x.F),av x.O])/\¬(k:Int)∈x.F.take j)
  (fun ρ2 H=>x.F.length-(iv (ρ2 90)).toNat) ?_ ?_
 ·simp only[go_sem];exact⟨0,-1,rfl,U,rfl,.nil,rfl,by rw[show bV (x.F.take 0)=0 from rfl,s0];exact R3,gN,Tu⟩
 rintro ρ2 H4 ⟨j,b,h90,hj,h10,hp,hbl,R4,hn4,gN4,hself⟩;refine W.vs ?_;have r4:=R4.nx;have t1:=R4.l1;have t3:=R4.l3;have t4:=R4.l4;have tN:=ae gN4;by_cases hb3:(j:Int)<x.F.length
 ·obtain⟨a,ha⟩:=az (l:=x.F) (i:=j) U;have ham:=an ha;have hane:=bb ha;by_cases d1:a<=b
  ·simp only[go_sem,h90,h10,hb3,ha,hane,d1,t1];refine no (fun h=>?_) _ (R4.ov.upd U _);have hpl:=(h.node x hxm).2;have h0:=hpl.2 a ham;rcases Q6 j with rfl|hk0
   ·simp at hbl;omega
   ·obtain⟨i,rfl⟩:∃i,j=i+1:=⟨j-1,U⟩
    obtain⟨b',hbj⟩:=az (l:=x.F) (i:=i) U;rw[qp hbj]at hbl;have:=hpl.lt hbj ha U;simp at hbl;omega
  by_cases d2:a >= ns.length
  ·simp only[go_sem,h90,h10,hb3,ha,hane,d1,d2,t1,t4];exact no (fun h=>by have:=(h.node x hxm).2.2 a ham;omega) _ (R4.ov.upd U _)
  have h0:0<=a:=by
   rcases hg:(x.F.take j).getLast? with _|b'
   ·rw[hg]at hbl;simp at hbl;omega
   ·rw[hg]at hbl;have:=hp.2 b' (Tl hg);simp at hbl;omega
  by_cases d3:a=k
  ·have d1':¬(k:Int)<=b:=U;have d2':¬(k:Int) >= ns.length:=U;simp only[go_sem,h90,h10,hb3,ha,hane,d1',d2',d3,t1,t4];exact no (fun h=>O3 hx (fun q hq=>((h.node x hxm).2.2 q hq).1) (by rw[<- d3];exact ham) h.acyc) _ (R4.ov.upd (id:=H.C+1) U _)
  obtain⟨u,rfl⟩:=Qb h0;have w1:=PW ((j:Int)+1) U;have bm:bV (x.F.take j)<2 ^ 64:=pW fun p hp'=>by have:=hp.2 p hp';omega
  have v1:=fun t x y=>mh (P:=prog) (t:=t) (x:=x) (y:=y) (k':=.i64) (s:=u) U;have v2:=fun t x y=>js (P:=prog) (t:=t) (x:=x) (y:=y) (b:=2 ^ u) bm (Ra Tv U);have gs:(s.set k (bV (x.F.take j)))[k]?=some (bV (x.F.take j)):=Qa hks;simp only[go_sem,h90,h10,hb3,ha,hane,d1,d2,d3,t4];refine W.dr 7 [0,1,0,7,15,0,32] mixed ?_;simp only[go_sem,h90,hb2,t3,t4,gs,v1,v2,w1]
  repeat (refine And.intro (by first|omega|(simp;done)|(simp;omega)|(intros;omega)|exact⟨rfl,U,U,jJ _⟩) ?_)
  have R5:=R4.O1 (k:=k) (by simpa using hks) (bV (x.F.take j) |||2 ^ u);rw[R9]at R5;have esn:bV (x.F.take (j+1))=bV (x.F.take j) |||2 ^ u:=by rw[aO ha,wL];rfl
  refine⟨by rw[aq];omega,⟨j+1,u,Tu,U,rfl,?_,by rw[qp ha];rfl,by rw[esn];exact R5,by rw[aq];omega,by rw[ab,PX U];exact gN4,fun hm=>?_⟩,U⟩
  ·rw[aO ha];exact hp.snoc ⟨U,U⟩ fun b' hb'=>by rw[hb']at hbl;simp at hbl;omega
  ·rw[aO ha]at hm;rcases Qe.1 hm with hm|hm
   ·exact hself hm
   ·exact d3 (List.mem_singleton.1 hm).symm
 ·have hb3':=hb3;rw[PY U]at hp hself R4;simp only[go_sem,h90,hb3,t4,tN];have hin:jq x.F ns.length:=fun q hq=>by have:=hp.2 q hq;omega
  refine aE.nl (O2 g ⟨U,U⟩ ns _ x hin (ki U hp hall) f2 f3 _ (H.C+2) (H.C+3) R4.b2 R4.b3 R4.sl _ ⟨trivial,?_⟩);cases hnb:jr g ns x
  ·simp only[go_sem,t1];exact no (fun h=>by rw[Cc (h.O x hxm)]at hnb;cases hnb) _ (R4.ov.upd U _)
  have w1:=PW ((k:Int)+1) U;simp only[go_sem,h82,w1];refine⟨U,⟨k+1,_,Tu,U,R4,U,?_,fun i hi=>?_,fun y hy=>?_⟩,U⟩
  ·have h1:=kh hx;rw[aO h1,aO (Qa hks),Sl (Nat.le_refl k),hs]
  ·rw[QD,Qh U,<- QD];exact hs0 i (U)
  ·rw[aO hx]at hy;rcases Qe.1 hy with hy|hy
   ·exact hall2 y hy
   ·obtain rfl:=List.mem_singleton.1 hy;exact⟨hp,OV.1 hnb⟩
def O5 (g:Int)(ns:List TA)(hf:nZ ns)(H:Tz)(K:TF->Tz->Prop)(hK:K (.ret (aa (if lb g ns then 0 else 50))) H):af prog G0 47 [bR g ns] H K:=by
 refine af.nl ⟨_,func47,rfl,rfl⟩ fun hcl=>?_;refine af.st (n:=11) (rs:=[.tmp 2]) func47 ?_;simp only[go_sem,bR,cz];refine aE.nl (O4 g ns hf _ _ ⟨trivial,?_⟩);cases hb:lb g ns
 ·rw[hb]at hK;simp only[go_sem,xo,List.length_nil];exact aw.bJ aT hcl (.ext _ _) (.lit _) hK
 ·rw[hb]at hK;simp only[go_sem,xq,cz];exact aw.bJ aT hcl (.ext _ _) (.lit _) hK
def dx (D v:Nat):List Nat := (List.range v).filter fun v => D.testBit v
def cN (D v:Nat):Nat := (dx D v).length
def aV (d:TD):List Nat := dx d.nn d.I.length
def ta (D v:Nat):dx D (v + 1)=if D.testBit v then dx D v ++ [v] else dx D v := by
  unfold dx;rw[Rg,List.filter_append];cases h:D.testBit v <;> simp[h]
def M7 :∀ {n:Nat},v <= n -> ∃r,dx D n=dx D v ++ r := by
  intro n
  induction n with
  | zero => intro h; obtain rfl : v = 0 := by omega
            exact⟨[],Tu⟩
  |succ n ih =>
    intro h;by_cases hv:v=n + 1
    · subst hv;exact⟨[],Tu⟩
    · obtain⟨r,hr⟩ := ih U;rw[ta];split
      · exact⟨r ++ [n],by rw[hr,List.append_assoc]⟩
      · exact⟨r,hr⟩
def td (hv:v < n)(hb:D.testBit v=true):(dx D n)[cN D v]? = some v := by
  obtain⟨r,hr⟩ := M7 (D := D) (v := v + 1) (n := n) hv;rw[hr,ta,PZ hb,List.append_assoc];unfold cN;simp
def te (D v:Nat):cN D (v + 1)=if D.testBit v then cN D v + 1 else cN D v := by
  unfold cN;rw[ta];split <;> simp
def tf :v ∈ dx D n ↔ v < n /\ D.testBit v=true := by unfold dx;simp
def jk (h:(dx D n)[k]? = some v):v < n /\ D.testBit v=true /\ cN D v=k := by
  have hm := tf.1 (an h);refine⟨hm.1,hm.2,?_⟩;have h2 := td hm.1 hm.2;have hnd:(dx D n).Nodup := SZ.filter _;have a := aG h;have b := aG h2;rw[PV a]at h;rw[PV b]at h2;have e:(dx D n)[cN D v]=(dx D n)[k] := by rw[Option.some.inj h,Option.some.inj h2]
  exact(List.getElem_inj hnd).1 e
def kY :(dx D n).length <= n := by
  have := Th (fun v => D.testBit v) (List.range n);unfold dx;simpa using this
def aQ (g J x:Int):List Int := (List.replicate J.toNat 0).set x.toNat g
def bB (ns:List TA)(x:TA):Nat := (au (aY ns x)).toNat
def ef (g:Int)(ns:List TA)(c:Nat -> Nat -> Int)(p:Nat)(x:TA):List (List Int) := (List.range (bB ns x)).map fun r => aQ g x.J (c p r)
def dP (d:TD)(c:Nat -> Nat -> Int)(k v:Nat)(x:TA):TA := if d.nn.testBit v=true /\ cN d.nn v < k then { x with O := x.O ++ ef d.X d.I c (cN d.nn v) x } else x
def cO (d:TD)(c:Nat -> Nat -> Int)(k:Nat):List TA := d.I.zipIdx.map fun p => dP d c k p.2 p.1
def cP (d:TD)(c:Nat -> Nat -> Int):List TA := cO d c (aV d).length
def iM (d:TD)(c:Nat -> Nat -> Int)(k:Nat):(cO d c k).length=d.I.length := by simp[cO]
def kZ {c:Nat -> Nat -> Int}(h:d.I[v]? = some x):(cO d c k)[v]? = some (dP d c k v x) := by
  unfold cO;rw[List.getElem?_map,RB,h];simp
def M8 (d:TD)(c:Nat -> Nat -> Int):cO d c 0=d.I := by
  apply QC;intro v;cases h:d.I[v]? with
  |none => rw[P7];rw[iM];exact Q3.1 h
  |some x => rw[kZ h];simp[dP]
def M9 {c:Nat -> Nat -> Int}(hd:(aV d)[k]? = some v)(hx:d.I[v]? = some x):cO d c (k + 1)=(cO d c k).set v { x with O := x.O ++ ef d.X d.I c k x } := by
  obtain⟨h1,h2,h3⟩ := jk hd;apply QC;intro u;rw[RV];split
  · rename_i h;subst h;rw[kZ hx,PZ (by rw[iM];exact h1)];unfold dP;rw[PZ ⟨h2,U⟩,h3]
  · rename_i h;cases hu:d.I[u]? with
    |none => rw[P7 (by rw[iM];exact Q3.1 hu),P7 (by rw[iM];exact Q3.1 hu)]
    |some y =>
      rw[kZ hu,kZ hu];unfold dP;by_cases hb:d.nn.testBit u=true
      · have : cN d.nn u ≠ k := fun e => by
          have h4 := td (aG hu) hb;rw[e]at h4;have h5:(dx d.nn d.I.length)[k]? = some v := hd;rw[h4]at h5;exact h (Option.some.inj h5).symm
        have e:(cN d.nn u < k + 1)=(cN d.nn u < k) :=(by apply propext;omega);simp only[e]
      · simp[hb]
def Na {c:Nat -> Nat -> Int}:aA (cO d c k)=aA d.I := by
  apply QC;intro v;unfold aA;rw[List.getElem?_map,List.getElem?_map];cases h:d.I[v]? with
  |none => rw[P7 (by rw[iM];exact Q3.1 h)]
  |some x =>
    rw[kZ h];simp only[Option.map_some,dP];split <;> rfl
def lY (d:TD)(c:Nat -> Nat -> Int)(k v:Nat)(x:TA):(dP d c k v x).J=x.J /\ (dP d c k v x).F=x.F := by unfold dP;split <;> exact⟨rfl,rfl⟩
def cV (d:TD):List Ty:=[.lit (.int .i64 d.X),.M d.I.length (aI d.I),.lit (.int .u64 (d.nn:Int)),.M d.Q.length (aL d.Q)]
def mc (d:TD):gh d=.agg (cV d):=rfl
def iR (d:TD):TE:=.L 0 39 (cV d)
def ka (d:TD):List (List Ty):=(aV d).zipIdx.map fun p=>[aa p.2,aa p.1]
def nX {x:List Ty}(h:(ka d)[k]?=some x):∃v,(aV d)[k]?=some v/\x=[aa k,aa v]:=by
 unfold ka at h;rw[List.getElem?_map,RB]at h;cases hr:(aV d)[k]? with
 |none=>rw[hr]at h;simp at h
 |some r=>rw[hr]at h;simp at h;exact⟨r,rfl,h.symm⟩
def OA (h:(aV d)[k]?=some v):(ka d)[k]?=some [aa k,aa v]:=by
 unfold ka;rw[List.getElem?_map,RB,h];simp
def nY (d:TD):(ka d).length=(aV d).length:=by simp[ka]
def qg :∀x∈ka d,x.length=2:=fun x hx=>by
 obtain⟨k,hk⟩:=Qd.1 hx;obtain⟨v,_,rfl⟩:=nX hk;rfl
def qh (d:TD)(hl:(d.I.length:Int)<2 ^ 40)(hD:d.nn<2 ^ 64)(b:Nat):xy prog G0 89 [] [.Y b 0 0] (ka d) (fun H=>H.get b=some (iR d)):=by
 intro idy J Stop H K hS hJ0 hY hK hSt;have l0:=ae (hS 0 H hJ0);show af _ _ _ ([.ng idy]++[.Y b 0 0]) _ _;refine af.st (n:=25) (rs:=[]) func89 ?_;simp only[go_sem,l0,cV];refine W.aM 33554200 (by rfl) (fun ρ H'=>∃v:Nat,ρ 8=aa v/\v<=d.I.length/\ρ 3=aa (cN d.nn v)/\J (cN d.nn v) H'/\H.C<=H'.C) (fun ρ H=>d.I.length-(iv (ρ 8)).toNat) ?_ ?_
 ·simp only[go_sem];exact⟨0,rfl,U,rfl,hJ0⟩
 rintro ρ H' ⟨v,h8,hv,h3,hj,hn⟩;refine W.vs ?_;by_cases hb:(v:Int)<d.I.length
 ·have l1:=ae (hS _ _ hj);have s1:=fun t x y=>mg (P:=prog) (t:=t) (x:=x) (y:=y) (k':=.i64) (s:=v) hD;have s2:=fun t x y=>tO (P:=prog) (t:=t) (x:=x) (y:=y) (s:=v) hD;have w1:=PW ((v:Int)+1) U;have hp:cN d.nn v<=v:=by
   have:(dx d.nn v).length<=v:=kY;exact this
  have w2:=PW ((cN d.nn v:Int)+1) U;cases hbit:d.nn.testBit v
  ·simp only[go_sem,h8,h3,hb,l1,cV,s1,s2,hbit,w1];exact⟨hn,⟨v+1,Tu,U,by rw[te,hbit];rfl,by rw[te,hbit];exact hj,hn⟩,U⟩
  ·have hdx:(ka d)[cN d.nn v]?=some [aa (cN d.nn v),aa v]:=OA (td U hbit);simp only[go_sem,h8,h3,hb,l1,cV,s1,s2,hbit];refine hY _ _ H' _ hdx hj hn (fun H2 hj2 hn2=>⟨trivial,?_⟩) (fun H2 hs2 hn2=>⟨trivial,?_⟩)
   ·simp only[go_sem,h8,h3,w1,w2];exact⟨U,⟨v+1,Tu,U,by rw[te,hbit];simp,by rw[te,hbit];exact hj2,U⟩,U⟩
   ·simp only[go_sem];exact aw.mk U (hSt H2 hs2 U)
 ·simp only[go_sem,h8,hb];have ek:v=d.I.length:=U
  subst ek;exact aw.mk U (hK H' (by rw[nY];exact hj) hn)
def qi (d:TD)(H:Tz)(K:TF->Tz->Prop)(hK:K (.ret (.nl 89 [] [.Y H.C 0 0])) (ext H [iR d])):
  af prog G0 51 [gh d] H K:=by
 refine af.st (n:=4) (rs:=[.tmp 2]) func51 ?_;simp only[go_sem,mc,cV];exact aw.mk (by simp[bh]) hK
def OB {J x:Int}(hc:0<=J)(h:0<=x/\x<J):setAt (ints (List.replicate J.toNat 0)) x.toNat [.lit (.int .i64 g)]=ints (aQ g J x):=by
 rw[ij (by simp;omega)];rfl
def OC (g J x:Int)(hc:J<=2 ^ 40)(h:0<=x/\x<J)(H:Tz)(K:TF->Tz->Prop)(hK:K (.ret (ag (aQ g J x))) H):af prog G0 88 [aa g,aa J,aa x] H K:=by
 refine af.nl ⟨_,func88,rfl,rfl⟩ fun hcl=>?_;obtain⟨n,rfl⟩:=Qb (show 0<=J by omega);obtain⟨k,rfl⟩:=Qb h.1;have h0:((n:Int)) >= 0:=U
 have hk:(k:Int)<n:=h.2;have hk2:k+1<=n:=U
 refine af.st (n:=15) (rs:=[.tmp 6]) func88 ?_;simp only[go_sem,hk]
 repeat (refine And.intro (by first|omega|(simp;done)|(simp;omega)|(intros;omega)|exact⟨rfl,U,U,jJ _⟩) ?_)
 have e:=OB (g:=g) (J:=n) (x:=k) U h;simp only[Int.toNat_natCast]at e;rw[show (List.replicate n (Ty.lit (Value.int IntKind.i64 0)))=ints (List.replicate n 0) by simp[ints,aa],e];refine aw.bJ aT hcl (.ext _ _) ?_ hK;exact .ints Tx (cW ..) (by simp[aQ]) fun i hi=>by simp[gF,hi]
def OD (a b:Ty)(H:Tz)(K:TF->Tz->Prop)(hK:K (.ret (aa 0)) H):af prog G0 49 [a,b] H K:=by
 refine af.st (n:=5) (rs:=[.tmp 4]) func49 ?_;simp only[go_sem];exact aw.mk Tx hK
noncomputable def iS (p:Prop):Bool:=@decide p (Classical.propDecidable p)
def fG (h:p):iS p=true:=@decide_eq_true _ (Classical.propDecidable _) h
def fR (h:¬p):iS p=false:=@decide_eq_false _ (Classical.propDecidable _) h
structure TT (d:TD):Prop where
 n1:1<=d.I.length/\d.I.length<=8
 nn:d.nn >>> d.I.length=0
 J:∀x∈d.I,1<=x.J/\x.J<=4
 dec:∀v x,d.I[v]?=some x->d.nn.testBit v=true->x.O=[]/\bI x.F d.I.length
structure TO (d:TD):Prop where
 I:nZ d.I
 nn:d.nn<2 ^ 64
 Q:(d.Q.length:Int)<2 ^ 38/\∀u∈d.Q,(u.vars.length:Int)<2 ^ 38/\(u.w.length:Int)<2 ^ 38
def OE (d:TD)(hf:TO d)(H:Tz)(K:TF->Tz->Prop)(hK:K (.ret (.lit (.bool (iS (TT d))))) H):af prog G0 46 [gh d] H K:=by
 refine af.nl ⟨_,func46,rfl,rfl⟩ fun hcl=>?_;have hl:=hf.I.1;have no:¬TT d->∀H',TC H H'->aw prog G0 H K (.lit (.bool false)) H':=fun h H' ov=>aw.bJ aT hcl ov (.lit _) (by rw[fR h]at hK;exact hK);refine af.st (n:=67) (rs:=[.cell 2 4]) func46 ?_;simp only[go_sem,mc,cV];obtain⟨H1,hH1⟩:∃H1,H1=ext H [.L 0 39 (cV d),.L 0 4 [.lit (.bool false)]]:=⟨_,rfl⟩
 have g1:=dA hH1
 have g2:=gE hH1 1 rfl
 have l1:=ae g1;have l2:=ae g2;have n1:H1.C=H.C+2:=hH1▸rfl
 have o1:TC H H1:=hH1▸.ext _ _
 unfold cV at hH1 l1;rw[<- hH1];have s1:=fun t x y=>mg (P:=prog) (t:=t) (x:=x) (y:=y) (k':=.i64) (s:=d.I.length) hf.nn;by_cases c1:(d.I.length:Int)<1
 ·simp only[go_sem,l2,c1];exact no (fun h=>by have:=h.n1;omega) _ (o1.upd U _)
 by_cases c2:(d.I.length:Int) > 8
 ·simp only[go_sem,l1,l2,c1,c2];exact no (fun h=>by have:=h.n1;omega) _ (o1.upd U _)
 by_cases c3:d.nn >>> d.I.length=0;rotate_left
 ·have c3':¬((d.nn >>> d.I.length:Nat):Int)=0:=U
  simp only[go_sem,l1,l2,c1,c2,c3',s1];exact no (fun h=>c3 h.nn) _ (o1.upd U _)
 have c3':((d.nn >>> d.I.length:Nat):Int)=0:=U
 simp only[go_sem,l1,c1,c2,c3',s1];refine W.aM 4397509640208 (by rfl) (fun ρ H'=>∃k:Nat,ρ 29=aa k/\k<=d.I.length/\TC H1 H'/\∀x∈d.I.take k,1<=x.J/\x.J<=4) (fun ρ H=>d.I.length-(iv (ρ 29)).toNat) ?_ ?_
 ·simp only[go_sem];exact⟨0,rfl,U,.refl _,Tu⟩
 rintro ρ H' ⟨k,h29,hk,ov,hall⟩;refine W.vs ?_;have ovn:=ov.C;have m1:=(ov.Z (g:=0) (by omega:H.C<H1.C)).trans l1;have m2:=(ov.Z (g:=0) (by omega:H.C+1<H1.C)).trans l2;by_cases hb:(k:Int)<d.I.length
 ·obtain⟨x,hx⟩:=az (l:=d.I) (i:=k) U;have hxm:=an hx;have hne:=dN hx;have e0:=nO hx;have e1:k*3+3<=(aI d.I).length:=by rw[gM];omega
  have nb:¬H.C+1=H'.C:=U
  have m3:∀L,(ext H' L).Z (H.C+1) 0=_:=fun L=>(dB U).trans m2;by_cases d1:x.J<1
  ·simp only[go_sem,h29,m3,hb,hne,e0,e1,d1];exact no (fun h=>by have:=h.J x hxm;omega) _ (((o1.trans ov).trans (.ext _ _)).upd U _)
  by_cases d2:x.J > 4
  ·simp only[go_sem,h29,m3,hb,hne,e0,e1,d1,d2];exact no (fun h=>by have:=h.J x hxm;omega) _ (((o1.trans ov).trans (.ext _ _)).upd U _)
  have w1:=PW ((k:Int)+1) U;simp only[go_sem,h29,hb,hne,e0,e1,d1,d2,w1];exact⟨U,⟨k+1,Tu,U,ov.trans (.ext _ _),fun y hy=>by
   rw[aO hx]at hy;rcases Qe.1 hy with hy|hy
   ·exact hall y hy
   ·obtain rfl:=List.mem_singleton.1 hy;exact⟨U,U⟩⟩,U⟩
 rw[PY U]at hall;simp only[go_sem,h29,hb,m1];refine aE.nl (qi d _ _ ⟨trivial,?_⟩);simp only[go_sem];obtain⟨H2,hH2⟩:∃H2,H2=ext H' [iR d]:=⟨_,rfl⟩
 rw[<- hH2];have o2:TC H' H2:=by rw[hH2];exact .ext _ _
 have n2:H2.C=H'.C+1:=by rw[hH2];rfl
 have hbx:H2.get H'.C=some (iR d):=by rw[hH2];exact bX
 refine W.env fun E hE=>?_;have e1:E 1=.Y H.C 0 0:=by rw[hE];simp only[go_sem]
 have e2:E 2=.Y (H.C+1) 0 0:=by rw[hE];simp only[go_sem]
 have i1:=(o2.Z (g:=0) (by omega:H.C<H'.C)).trans m1;have i2:=(o2.nb _ (by omega:H.C+1<H'.C)).trans ((ov.nb _ U).trans g2);have o02:=(o1.trans ov).trans o2;refine W.oh (f:=89) (first:=[]) (cap:=[.Y H'.C 0 0]) (by show E 43=_;rw[hE];rfl) (qh d U hf.nn H'.C)
  (fun k Hx=>TC H2 Hx/\∀v x,v∈(aV d).take k->d.I[v]?=some x->x.O=[]/\bI x.F d.I.length) (fun c Hx=>c=.ret/\TC H Hx/\H2.C<=Hx.C/\Hx.get (H.C+1)=some (.L 0 4 [.lit (.bool false)])/\¬TT d)
  (fun k Hx h=>by rw[h.1.nb _ U];exact hbx) (fun k Hx b h=>⟨h.1.upd Tx b,h.2⟩) (fun c Hx b h=>⟨h.1,h.2.1.upd U b,h.2.2.1,by rw[ab,PX U];exact h.2.2.2.1,h.2.2.2.2⟩)
  (fun b=>⟨.ext _ _,Tu⟩) Tv qg (fun _ _ _=>trivial) (fun _ _ _=>trivial) (fun k y Hx B Bb hy hj hn hB hBb=>?_) (fun Hx hj hn=>?_) (fun Hx hs hn=>?_) (fun i Hx hs hn=>by cases hs.1)
 ·obtain⟨v,hv,rfl⟩:=nX hy;obtain⟨v1,v2,v3⟩:=jk hv;obtain⟨x,hx⟩:=az (l:=d.I) (i:=v) v1;refine W.vs ?_;simp only[go_sem,iE,cr,mi,Q9,Sg,Rw,RJ,hB];obtain⟨H3,hH3⟩:∃H3,H3=Hx.upd H2.C Bb:=⟨_,rfl⟩
  rw[<- hH3];obtain⟨st,pd,n',en,ps',as',bo,hBe⟩:=hBb;have o3:TC H2 H3:=by rw[hH3];exact hj.1.upd Tx Bb
  have o4:TC H H3:=o02.trans o3;have n3:H3.C=Hx.C:=by rw[hH3];rfl
  have j1:=(o3.Z (g:=0) (by omega:H.C<H2.C)).trans i1;have j2:=ae ((o3.nb _ (by omega:H.C+1<H2.C)).trans i2);have jB:H3.get H2.C=some Bb:=by rw[hH3,ab,PZ rfl]
  have hxm:=an hx;obtain⟨f1,f2,f3⟩:=hf.I.2 x hxm;have hne:=dN hx;have e1':=jT hx;have e2':=nM hx;have hvn:(v:Int)<d.I.length:=U
  have stop:¬TT d->(H3.upd (H.C+1) (TE.L 0 4 [.lit (.bool false)])).get H2.C=some Bb/\Hx.C<=(H3.upd (H.C+1) (TE.L 0 4 [.lit (.bool false)])).C/\TC H (H3.upd (H.C+1) (TE.L 0 4 [.lit (.bool false)])) /\
    H2.C<=(H3.upd (H.C+1) (TE.L 0 4 [.lit (.bool false)])).C/\(H3.upd (H.C+1) (TE.L 0 4 [.lit (.bool false)])).get (H.C+1)=some (.L 0 4 [.lit (.bool false)])/\¬TT d:=fun h =>
   ⟨by rw[ab,PX U];exact jB,by rw[aq];omega,o4.upd U _,by rw[aq];omega,by rw[ab,PZ rfl],h⟩
  refine W.vs ?_;simp only[go_sem];refine W.dr 18 [0,1,0,7,15,31,63,127,255,511,1023,511,4095,8191,16383,511,33279,98815] mixed ?_;by_cases c4:(x.O.length:Int) > 0
  ·simp only[go_sem,cr,e1,e2,j1,j2,hvn,hne,e2',c4,av,gV];exact stop fun h=>by have:=(h.dec v x hx v2).1;rw[this]at c4;simp at c4
  simp only[go_sem,cr,e1,j1,hvn,hne,e1',e2',c4,av];refine aE.nl (B3 x.F d.I.length U _ _ ⟨⟨_,_,_,_,_,_,_,by rw[jB,hBe]⟩,?_⟩);by_cases c5:bI x.F d.I.length;rotate_left
  ·simp only[go_sem,cr,e2,j2,c5,gV];exact stop fun h=>c5 (h.dec v x hx v2).2
  simp only[go_sem,cr,c5,gV];refine⟨jB,U,o3,fun u y hu hy2=>?_⟩;rw[aO hv]at hu;rcases Qe.1 hu with hu|hu
  ·exact hj.2 u y hu hy2
  ·obtain rfl:=List.mem_singleton.1 hu;rw[hx]at hy2;cases hy2;exact⟨P1 U,c5⟩
 ·have hok:TT d:=⟨U,c3,hall,fun v x hx hb=>hj.2 v x (by
   rw[nY,Rb];exact tf.2 ⟨aG hx,hb⟩) hx⟩
  rw[fG hok]at hK;have j2:=ae ((hj.1.nb _ (by omega:H.C+1<H2.C)).trans i2);simp only[go_sem,e2,j2];exact aw.bJ aT hcl ((o02.trans hj.1).upd U _) (.lit _) hK
 ·obtain⟨_,o4,n4,g4,hno⟩:=hs;have j2:=ae g4;simp only[go_sem,e2,j2];exact no hno _ o4
end Go.Proofs
namespace Go.Hx
variable {P:Program} {G:Nat->Option (List Ty)}
variable {A B cs:List Ty}{g i k lo n nx ob rk z:Nat}{S:Nat->Prop}{b:TE}{o o' v:Ty}{e:TypeId}
def Tz.dF (H:Tz)(rk ob:Nat)(b:TE):Tz:=⟨fun id=>if id=rk then none else if id=ob then some b else H.get id,H.C⟩
variable {H:Tz}
def Pn (hc:Ue H){cells cells':List Ty}(hob:H.get ob=some (.L g e cells))(hne:ob≠rk)(hl:cells'.length=cells.length)
  (hcell:∀i (h:i<cells.length) (h':i<cells'.length),Fz (fun id=>id=rk) H H.C cells[i] cells'[i]):T8 (fun id=>id=rk) H (H.dF rk ob (.L g e cells')) where
 gone id hs:=by simp[Tz.dF,hs]
 kept id b hs hb:=by
  have hbb:=hc.below id b hb;refine⟨hc.lt id b hb,?_⟩;by_cases h:id=ob
  ·subst h;rw[hob]at hb;cases hb;exact⟨.L g e cells',by simp[Tz.dF,hs],rfl,rfl,hl,hcell⟩
  ·refine⟨b,by simp[Tz.dF,hs,h,hb],?_⟩;cases b with
   |ni=>trivial
   |mp=>rfl
   |L g e cells=>exact⟨rfl,rfl,rfl,fun i h _=>.dead (hbb i h)⟩
   |loop st pend n env ps asg body=>exact⟨rfl,rfl,rfl,rfl,rfl,rfl,rfl,fun t ht=>.dead (hbb t ht)⟩
 none id hs hb:=by
  by_cases h:id=ob
  ·subst h;rw[hob]at hb;cases hb
  ·simp[Tz.dF,hs,h,hb]
theorem cq.dF (hG:dJ G){s:St}{cells cells':List Ty}(hob:s.H.get ob=some (.L g e cells))(hne:ob≠rk)(hl:cells'.length=cells.length)
  (hcell:∀i (h:i<cells.length) (h':i<cells'.length),Fz (fun id=>id=rk) s.H s.H.C cells[i] cells'[i]):cq P G s ⟨s.ρ,s.H.dF rk ob (.L g e cells')⟩:=by
 intro n wb Γ a w hs;exact cq.freeze (s:=s) (s':=⟨s.ρ,s.H.dF rk ob (.L g e cells')⟩) hG (Pn hs.heap.nl hob hne hl hcell) (fun t=>.dead (hs.env t).mU) n wb Γ a w hs
def Co (hA:∀v,v∈A->Fz S H nx v v)(ho:Fz S H nx o o')(hB:∀v,v∈B->Fz S H nx v v):
  ∀i (h:i<(A++o :: B).length) (h':i<(A++o' :: B).length),Fz S H nx (A++o :: B)[i] (A++o' :: B)[i]:=by
 induction A with
 |nil =>
  intro i h h';cases i with
  |zero=>exact ho
  |succ i=>exact hB _ (Qn (l:=B) (by simpa using h))
 |cons a A ih =>
  intro i h h';cases i with
  |zero=>exact hA a (Tu)
  |succ i=>exact ih (fun v hv=>hA v (by simp[hv])) i (by simpa using h) (by simpa using h')
def Po (h:A.length=i):setAt (A++o :: B) i [o']=A++o' :: B:=by
 subst h;simp[setAt]
def tQ (h:ob≠rk):(H.dF rk ob b).get ob=some b:=by simp[Tz.dF,h]
def jt {id:Nat}(h:id≠rk)(h2:id≠ob):(H.dF rk ob b).get id=H.get id:=by simp[Tz.dF,h,h2]
def xz {l:List Ty}{a b:Ty}(hl:∀v,v∈l->Fz S H nx v v)(hab:Fz S H nx a b):∀j (h:j<(l.set i a).length) (h':j<(l.set i b).length),Fz S H nx (l.set i a)[j] (l.set i b)[j]:=by
 intro j h h';rw[Rk,Rk];split
 ·exact hab
 ·exact hl _ (Qn _)
def W.kj {rd:Option Nat}{Q Q':AX->St->Prop}{c:Code}{s:St}(h:W P G n rd c Q' s)(hw:∀e s2,Q' e s2->∃s3,cq P G s2 s3/\s2.H.C<=s3.H.C/\dT s3.H rd/\Q e s3):W P G n rd c Q s:=by
 intro wb Γ a w rb hs hr;refine wpIn_mono (h wb Γ a w rb hs hr) fun e a' w' hp=>?_;obtain⟨x,s',Γ',hx,hq,hrel,E,hn,hrd,hfr⟩:=hp;obtain⟨s3,hw3,hn3,hri,hq3⟩:=hw x s' hq;obtain⟨Γ3,hs3,E3,hrd3⟩:=hw3 n wb Γ' a' w' hrel;exact⟨x,s3,Γ3,hx,hq3,hs3,E.trans hn E3,QH hn hn3,hrd3 rd rb hrd hri,hfr⟩
def ay.ne (h:ay lo H e v cs)(hk:k<lo):∀g n,v≠.V k g 0 n 1:=fun g n he=>by
 rcases h with ⟨h,_⟩|⟨i2,g2,a1,_,h,_⟩
 ·rw[h]at he;cases he
 ·rw[h]at he;have:=Ty.V.inj he;omega
def bE (lo:Nat)(H:Tz)(e:TypeId)(z:Nat)(v:Ty)(n:Nat)(cs:List Ty):Prop :=
 (v=.lit (.slice none 0 0)/\n=0/\cs=[])\/∃id g,lo<=id/\id<H.C/\v=.V id g 0 n z/\cs.length=n*z/\H.get id=some (.L g e cs)
def bE.nil :bE lo H e z (.lit (.slice none 0 0)) 0 []:=.inl ⟨rfl,rfl,rfl⟩
variable {H':Tz}
def bE.na (h:bE lo H e z v n cs)(hn:H.C<=H'.C)(hk:∀id g,lo<=id->id<H.C->v=.V id g 0 n z->H'.get id=H.get id):bE lo H' e z v n cs:=by
 rcases h with h|⟨id,g,h1,h2,h3,h4,h5⟩
 ·exact .inl h
 ·exact .inr ⟨id,g,h1,U,h3,h4,(hk id g h1 h2 h3).trans h5⟩
def bE.over (h:bE lo H e z v n cs)(ho:TC H H'):bE lo H' e z v n cs:=h.na ho.C fun id _ _ h2 _=>ho.nb id h2
theorem bE.one (h:bE lo H e z v n cs):v.one=true:=by
 rcases h with ⟨rfl,_⟩|⟨_,_,_,_,rfl,_⟩<;>rfl
theorem bE.cells (h:bE lo H e z v n cs):v.cells=[v]:=by
 rcases h with ⟨rfl,_⟩|⟨_,_,_,_,rfl,_⟩<;>rfl
def bE.ne {m:Nat}(h:bE lo H e z v m cs)(hk:k<lo):∀g n,v≠.V k g 0 n z:=fun g n he=>by
 rcases h with ⟨h,_⟩|⟨i2,g2,a1,_,h,_⟩
 ·rw[h]at he;cases he
 ·rw[h]at he;have:=Ty.V.inj he;omega
def jv {t:TypeId}{m:Nat}{xs:List Ty}{zs:List Ty}(ht:P.underlying t=some (.slice e))(hz:P.cellsOf e=z)(hzero:bC P e=some zs)(hx:xs.all Ty.one=true)(hxl:xs.length=z)
  (hb:(n+1)*P.bytesOf e<=2 ^ 47/\n+1<=2 ^ 47) (ho:bE lo H e z v n cs) (hlo:lo<=H.C) (hn:m=H.C+1):
  ∃v' H',bd P (ext H [.L 0 e xs]) m t t v (.V H.C 0 0 1 z)=some (v',H')/\bE lo H' e z v' (n+1) (cs++xs)/\H.C<=H'.C/\(∀k,k<H.C->(∀g n,v≠.V k g 0 n z)->H'.get k=H.get k):=by
 have hne:(ext H [.L 0 e xs]).C=H.C+1:=rfl;have hsrc:bW (ext H [.L 0 e xs]) z (.V H.C 0 0 1 z)=some (1,xs):=by
  unfold bW;have:=ae (H:=ext H [.L 0 e xs]) (g:=0) (bX (b:=.L 0 e xs));simp[this,<- hxl]
 rcases ho with ⟨rfl,rfl,rfl⟩|⟨i,g,h1,h2,rfl,h4,h5⟩
 ·refine⟨.V m 0 0 1 z,ext (ext H [.L 0 e xs]) [.L 0 e xs],?_,.inr ⟨m,0,U,by rw[bh,hne,hn];simp,Tu,by simp[hxl],?_⟩,by rw[bh,hne];omega,fun k hk _=>?_⟩
  ·unfold bd;rw[ht];simp only[hzero,hz,Option.bind_some];rw[hsrc];simp only[Option.bind_some];rw[PX Tv,PZ (by simpa using hb),ry (by rw[hn,hne])];rfl
  ·rw[hn,<- hne];exact bX
  ·rw[bK (by rw[hne];omega),bK hk]
 ·have h5':(ext H [.L 0 e xs]).get i=some (.L g e cs):=by rw[bK h2];exact h5
  refine⟨.V i (g+1) 0 (n+1) z,(ext H [.L 0 e xs]).upd i (.L (g+1) e (cs++xs)),?_,.inr ⟨i,g+1,h1,by rw[aq,hne];omega,rfl,by simp[h4,hxl,Q7],by rw[ab,PZ rfl]⟩,by rw[aq,hne];omega,fun k hk hne2=>?_⟩
  ·unfold bd;rw[ht];have hl:=ae h5';simp only[hzero,hz,Option.bind_some];rw[hsrc];simp only[Option.bind_some,hl];rw[PZ ⟨trivial,trivial,U,hb.1,hb.2,hx⟩];simp
  ·rw[ab,PX,bK hk];rintro rfl;exact hne2 _ _ rfl
end Go.Hx
namespace Go.Proofs
open Go.Hx Try
variable {cs:List Ty}{i n nx v:Nat}{S e:Nat->Prop}{d:TD}{H H':Tz}
def aS (x:TA):Ty:=if x.O=[] then .lit (.slice none 0 0) else av x.O
def TA.eD (x:TA):List Ty:=[aa x.J,ag x.F,aS x]
def aH (l:List TA):List Ty:=(l.map TA.eD).flatten
def eg (l:List TA):(aH l).length=l.length*3:=jj (f:=TA.eD) (fun _=>rfl) l
variable {l:List TA}{x:TA}
def gR (h:l[i]?=some x):(aH l)[i*3]?=some (aa x.J):=fN (f:=TA.eD) (z:=3) (fun _=>rfl) l i 0 x h (U)
def ie (h:l[i]?=some x):(aH l)[i*3+1]?=some (ag x.F):=fN (f:=TA.eD) (z:=3) (fun _=>rfl) l i 1 x h (U)
def iO (h:l[i]?=some x):(aH l)[i*3+2]?=some (aS x):=fN (f:=TA.eD) (z:=3) (fun _=>rfl) l i 2 x h (U)
def wS (l:List TA)(x:TA):aH (l++[x])=aH l++[aa x.J,ag x.F,aS x]:=by unfold aH;simp[TA.eD]
def Nb (h:l[i]?=some x):¬aH l=[]:=fun e=>by
 have:=gR h;rw[e]at this;simp at this
def Nc (l:List (List Int)):av l=.M l.length (l.map ag):=rfl
def Be (h:x.O=[]):aS x=.lit (.slice none 0 0):=PZ h
def nQ (h:x.O≠[]):aS x=av x.O:=PX h
variable {y:TA}
def Bf (h:l[i]?=some x)(hy:y.J=x.J/\y.F=x.F):aH (l.set i y)=setAt (aH l) (i*3+2) [aS y]:=by
 have hi:=aG h;have hl:=eg l;rw[dm U];apply QC;intro p;rw[RV];have hp:p=(p / 3)*3+p % 3:=U
 by_cases hb:p / 3<l.length
 ·by_cases hpi:p / 3=i
  ·have e0:(l.set i y)[p / 3]?=some y:=(by rw[hpi,Qa hi]);have c3:p % 3=0\/p % 3=1\/p % 3=2:=U;rcases c3 with c|c|c
   ·rw[PX U,hp,c,Nat.add_zero,gR e0,gR (by rw[hpi];exact h),hy.1]
   ·rw[PX U,hp,c,ie e0,ie (by rw[hpi];exact h),hy.2]
   ·rw[PZ U,PZ U,hp,c,iO e0]
  ·obtain⟨z,hz⟩:=az hb;have e0:(l.set i y)[p / 3]?=some z:=(by rw[Qh U];exact hz);have c3:p % 3=0\/p % 3=1\/p % 3=2:=U;rcases c3 with c|c|c
   ·rw[PX U,hp,c,Nat.add_zero,gR e0,gR hz]
   ·rw[PX U,hp,c,ie e0,ie hz]
   ·rw[PX U,hp,c,iO e0,iO hz]
 ·rw[P7 (by rw[eg,P2];omega),PX U,P7 U]
def Bg (x:TA):Fz S H nx (aS x) (av x.O):=by
 unfold aS;split
 ·rename_i h;rw[h];exact .nil
 ·exact .av _
def Bh (x:TA):Fz S H nx (aS x) (aS x):=by
 unfold aS;split
 ·exact .lit _
 ·exact .av _
def Bi :∀(l:List TA) (i:Nat) (h:i<(aH l).length) (h':i<(aI l).length),Fz S H nx (aH l)[i] (aI l)[i]:=by
 intro l i h h';have hb:i / 3<l.length:=by rw[eg]at h;omega
 obtain⟨x,hx⟩:=az hb;have hp:i=(i / 3)*3+i % 3:=U
 have g1:(aH l)[i]?=some (aH l)[i]:=PV h;have g2:(aI l)[i]?=some (aI l)[i]:=PV h';generalize (aH l)[i]=a at g1 ⊢;generalize (aI l)[i]=b at g2 ⊢;have c3:i % 3=0\/i % 3=1\/i % 3=2:=U
 rcases c3 with c|c|c
 ·rw[hp,c,Nat.add_zero,gR hx]at g1;rw[hp,c,Nat.add_zero,gO hx]at g2;cases g1;cases g2;exact .lit _
 ·rw[hp,c,ie hx]at g1;rw[hp,c,jT hx]at g2;cases g1;cases g2;exact .cK _
 ·rw[hp,c,iO hx]at g1;rw[hp,c,nM hx]at g2;cases g1;cases g2;exact Bg x
def ti (l:List TA):∀c∈aH l,Fz S H nx c c:=by
 intro c hc;unfold aH at hc;obtain⟨r,hr,hc⟩:=Rj.1 hc;obtain⟨x,_,rfl⟩:=Qm.1 hr;unfold TA.eD at hc;simp only[List.mem_cons,List.not_mem_nil,or_false]at hc;rcases hc with rfl|rfl|rfl
 ·exact .lit _
 ·exact .cK _
 ·exact Bh x
structure TH (e:Nat->Prop)(ns:List TA)(cs:List Ty):Prop where
 len:cs.length=ns.length*3
 node:∀(v:Nat) (x:TA),ns[v]?=some x->∃rv,cs[v*3]?=some (aa x.J)/\cs[v*3+1]?=some (ag x.F)/\cs[v*3+2]?=some rv/\(rv=av x.O\/rv=aS x)/\(e v->rv=aS x)
def Bj (e:Nat->Prop)(ns:List TA):TH e ns (aH ns):=⟨eg ns,fun v x hx=>⟨_,gR hx,ie hx,iO hx,.inr rfl,fun _=>rfl⟩⟩
variable {ns:List TA}
def TH.c0 (h:TH e ns cs)(hx:ns[v]?=some x):cs[v*3]?=some (aa x.J):=(h.node v x hx).elim fun _ h=>h.1
def TH.c1 (h:TH e ns cs)(hx:ns[v]?=some x):cs[v*3+1]?=some (ag x.F):=(h.node v x hx).elim fun _ h=>h.2.1
def TH.ne (h:TH e ns cs)(hx:ns[v]?=some x):¬cs=[]:=fun he=>by
 have:=h.c0 hx;rw[he]at this;simp at this
def TH.part (h:TH e ns cs)(hx:ns[v]?=some x):∃rv,(cs.drop (v*3)).take 3=[aa x.J,ag x.F,rv]/\cs[v*3+2]?=some rv/\(rv=av x.O\/rv=aS x)/\(e v->rv=aS x):=by
 obtain⟨rv,a,b,c,d,f⟩:=h.node v x hx;refine⟨rv,?_,c,d,f⟩;have h3:=aG c;rw[Qw U,Qw U,Qw U];simp only[List.take_succ_cons,List.take_zero];rw[PV U]at a b c;rw[Option.some.inj a,Option.some.inj b,Option.some.inj c]
def TH.nil :TH e [] []:=⟨rfl,fun v x hx=>by simp at hx⟩
def TH.snoc (h:TH e ns cs){rv:Ty}(h1:rv=av x.O\/rv=aS x)(h2:e ns.length->rv=aS x):TH e (ns++[x]) (cs++[aa x.J,ag x.F,rv]):=by
 have hl:=h.len;refine⟨by simp[hl];omega,fun v y hy=>?_⟩;by_cases hv:v<ns.length
 ·rw[P3 hv]at hy;obtain⟨r,a,b,c,d⟩:=h.node v y hy;exact⟨r,by rw[P3 U];exact a,by rw[P3 U];exact b,by rw[P3 U];exact c,d⟩
 ·have:v=ns.length:=by have:=aG hy;simp at this;omega
  subst this;rw[Qc U,RN]at hy;cases hy;refine⟨rv,?_,?_,?_,h1,h2⟩
  ·rw[Qc U,show ns.length*3-cs.length=0 by omega];rfl
  ·rw[Qc U,show ns.length*3+1-cs.length=1 by omega];rfl
  ·rw[Qc U,show ns.length*3+2-cs.length=2 by omega];rfl
def TH.mono {e':Nat->Prop}(h:TH e ns cs)(he:∀v,e' v->e v):TH e' ns cs:=⟨h.len,fun v x hx=>by
 obtain⟨r,a,b,c,d,f⟩:=h.node v x hx;exact⟨r,a,b,c,d,fun h=>f (he v h)⟩⟩
def TH.tj (h:TH e ns cs):∀(i:Nat) (h1:i<cs.length) (h2:i<(aI ns).length),Fz S H nx cs[i] (aI ns)[i]:=by
 intro i h1 h2;have hb:i / 3<ns.length:=by rw[h.len]at h1;omega
 obtain⟨x,hx⟩:=az hb;obtain⟨rv,a,b,c,d,_⟩:=h.node _ x hx;have hp:i=(i / 3)*3+i % 3:=U
 have g1:cs[i]?=some cs[i]:=PV h1;have g2:(aI ns)[i]?=some (aI ns)[i]:=PV h2;generalize cs[i]=u at g1 ⊢;generalize (aI ns)[i]=w at g2 ⊢;have c3:i % 3=0\/i % 3=1\/i % 3=2:=U
 rcases c3 with c0|c0|c0
 ·rw[hp,c0,Nat.add_zero,a]at g1;rw[hp,c0,Nat.add_zero,gO hx]at g2;cases g1;cases g2;exact .lit _
 ·rw[hp,c0,b]at g1;rw[hp,c0,jT hx]at g2;cases g1;cases g2;exact .cK _
 ·rw[hp,c0,c]at g1;rw[hp,c0,nM hx]at g2;cases g1;cases g2;rcases d with d|d<;>rw[d]
  ·exact .av _
  ·exact Bg x
def gU {α:Type}{l:List α}{x:α}(h:l[i]?=some x):l.set i x=l:=by
 apply QC;intro j;rw[RV];split
 ·rename_i hj;subst hj;rw[PZ (aG h),h]
 ·rfl
structure FiS (d:TD)(fv:Ty)(H H':Tz)(nh:Ty)(n:Nat)(cs:List Ty):Prop where
 nx:H.C+4<=H'.C
 ov:TC H H'
 b0:H'.get H.C=some (.L 0 39 [.lit (.int .i64 d.X),.M d.I.length (aI d.I),.lit (.int .u64 (d.nn:Int)),.M d.Q.length (aL d.Q)])
 b1:H'.get (H.C+1)=some (.L 0 108 [fv])
 b2:H'.get (H.C+2)=some (.L 0 64 [.lit (.int .i64 0),.lit (.slice none 0 0)])
 b3:H'.get (H.C+3)=some (.L 0 64 [.lit (.int .i64 d.X),nh])
 nd:bE (H.C+4) H' 83 3 nh n cs
theorem FiS.over {fv:Ty}{H2:Tz}{nh:Ty}(h:FiS d fv H H' nh n cs)(o:TC H' H2):FiS d fv H H2 nh n cs where
 nx:=QH h.nx o.C
 ov:=h.ov.trans o
 b0:=(o.nb _ (by have:=h.nx;omega)).trans h.b0
 b1:=(o.nb _ (by have:=h.nx;omega)).trans h.b1
 b2:=(o.nb _ (by have:=h.nx;omega)).trans h.b2
 b3:=(o.nb _ (by have:=h.nx;omega)).trans h.b3
 nd:=h.nd.over o
def OI {v:Ty}{xs:List Ty}(hx:xs.all Ty.one=true)(hxl:xs.length=3)(hn:n<2 ^ 38)(ho:bE (H.C+4) H' 83 3 v n cs)(hlo:H.C+4<=H'.C):
  ∃v' H2,bd prog (ext H' [.L 0 83 xs]) (H'.C+1) 35 35 v (.V H'.C 0 0 1 3)=some (v',H2)/\bE (H.C+4) H2 83 3 v' (n+1) (cs++xs)/\H'.C<=H2.C/\(∀k,k<H'.C->(∀g n,v≠.V k g 0 n 3)->H2.get k=H'.get k) :=
 jv Try.underlying35 Try.nJ Try.nL hx hxl (by rw[Try.nK];omega) ho hlo rfl
def BZ {lo:Nat}{v:Ty}{l:List Ty}(x:Ty)(hx:x.one=true)(h:ay lo H' 59 v l)(hlo:lo<=H'.C)(hl:l.length<2 ^ 40):
  ∃v' H2,bd prog (ext H' [.L 0 59 [x]]) (H'.C+1) 48 48 v (.V H'.C 0 0 1 1)=some (v',H2)/\ay lo H2 59 v' (l++[x])/\H'.C<=H2.C/\(∀k,k<H'.C->(∀g n,v≠.V k g 0 n 1)->H2.get k=H'.get k) :=
 gG (P:=prog) (H:=H') (t:=48) (x:=x) (n:=H'.C+1) Try.underlying48 Try.jQ Try.jS hx (by rw[Try.jR];omega) h hlo rfl
def OJ (d:TD)(hf:TO d)(hR:TT d)(c:Nat->Nat->Int)(fv:Ty)(rs:List Nat)(H:Tz)(hrs:∀i∈rs,i<H.C)(hfc:fv.cells=[fv])(hfo:fv.one=true)
  (hfv:∀p r v x H1,(aV d)[p]?=some v->d.I[v]?=some x->r<bB d.I x->TC H H1->(0<=c p r/\c p r<x.J)/\cF prog G0 fv [.lit (.int .i64 p),.lit (.int .i64 r)] H1 (.lit (.int .i64 (c p r))) rs)
  (K:TF->Tz->Prop) (hK:K (.ret (bR d.X (cP d c))) H):af prog G0 48 [gh d,fv] H K:=by
 refine af.nl ⟨_,func48,rfl,rfl⟩ fun hcl=>?_;have hl:=hf.I.1;have hn8:=hR.n1.2;refine af.st (n:=91) (rs:=[.cell 4 64]) func48 ?_;simp only[go_sem,mc,cV,hfc];obtain⟨Hb,hHb⟩:∃Hb,Hb=ext H [.L 0 39 [.lit (.int .i64 d.X),.M d.I.length (aI d.I),.lit (.int .u64 (d.nn:Int)),.M d.Q.length (aL d.Q)],.L 0 108 [fv],.L 0 64 [.lit (.int .i64 0),.lit (.slice none 0 0)],.L 0 64 [.lit (.int .i64 d.X),.lit (.slice none 0 0)]]:=⟨_,rfl⟩
 rw[<- hHb];have R0:FiS d fv H Hb (.lit (.slice none 0 0)) 0 []:=by
  rw[hHb];exact⟨by simp[bh],.ext _ _,cW ..,dV H _ 1 Tu,dV H _ 2 Tu,dV H _ 3 Tu,.nil⟩
 have nb:Hb.C=H.C+4:=hHb▸rfl
 refine W.loop 4503599626323328 (by rfl) (fun ρ H'=>∃(k:Nat) (nh:Ty),ρ 20=aa k/\k<=d.I.length/\FiS d fv H H' nh k (aH (d.I.take k))) (fun ρ H=>d.I.length-(iv (ρ 20)).toNat) ?_ ?_
 ·simp only[go_sem];exact⟨0,_,rfl,U,R0⟩
 rintro ρ H' ⟨k,nh,h20,hk,R⟩;refine W.vs ?_;have rn:=R.nx;have q0:=ae R.b0;have q3:=ae R.b3;by_cases hb:(k:Int)<d.I.length
 ·obtain⟨x,hx⟩:=az (l:=d.I) (i:=k) U;have hxm:=an hx;obtain⟨f1,f2,f3⟩:=hf.I.2 x hxm;have hne:=dN hx;have e0:=nO hx;have e1:k*3+3<=(aI d.I).length:=by rw[gM];omega
  simp only[go_sem,h20,hb,hne,e0,e1];refine W.dr 7 [0,1,0,4,12,31,0] mixed ?_;simp only[go_sem];refine⟨ag x.F,[],cF.pure fun H2=>B1 x.F U H2 _ ⟨rfl,rfl⟩,?_⟩;simp only[go_sem,Nc]
  repeat (refine And.intro (by first|omega|(simp;done)|(simp;omega)|(intros;omega)|exact⟨rfl,U,U,jJ _⟩) ?_)
  obtain⟨H1,hH1⟩:∃H1,H1=ext (ext H' [.L 0 83 [.lit (.int .i64 x.J),.M x.F.length (ints x.F),.M x.O.length (x.O.map ag)]]) [.L 0 83 [.lit (.int .i64 x.J),.M x.F.length (ints x.F),.lit (.slice none 0 0)]]:=⟨_,rfl⟩
  have n1:H1.C=H'.C+2:=by rw[hH1];rfl
  have gA:H1.get H'.C=some (.L 0 83 [.lit (.int .i64 x.J),.M x.F.length (ints x.F),.M x.O.length (x.O.map ag)]):=by rw[hH1,bK (by simp[bh])];exact bX
  have gB:H1.get (H'.C+1)=some (.L 0 83 [.lit (.int .i64 x.J),.M x.F.length (ints x.F),.lit (.slice none 0 0)]):=by rw[hH1];exact bX (H:=ext H' [_])
  have o1:TC H' H1:=by rw[hH1];exact(TC.ext _ _).trans (.ext _ _)
  have lA:=ae gA;rw[hH1]at lA;simp only[go_sem,lA];rw[<- hH1];refine W.aM 35175782155264 (by rfl) (fun ρ' H2=>∃(j:Nat) (rh:Ty),ρ' 33=aa j/\j<=x.O.length/\TC H' H2/\H1.C<=H2.C/\H2.get (H'.C+1)=some (.L 0 83 [.lit (.int .i64 x.J),.M x.F.length (ints x.F),rh])/\ay (H'.C+2) H2 59 rh ((x.O.take j).map ag)/\(j=0->rh=.lit (.slice none 0 0))) (fun ρ' H=>x.O.length-(iv (ρ' 33)).toNat) ?_ ?_
  ·simp only[go_sem];exact⟨0,_,rfl,U,o1,gB,.nil,fun _=>rfl⟩
  rintro ρ' H2 ⟨j,rh,h33,hj,o2,hn2,gB2,hrh,hrh0⟩;refine W.vs ?_;have o2n:=o2.C;have lB:=ae gB2;by_cases hb2:(j:Int)<x.O.length
  ·obtain⟨r,hr⟩:=az (l:=x.O) (i:=j) U;have hrm:=an hr;have hrne:=bb hr;have w1:=PW ((j:Int)+1) U;simp only[go_sem,h33,hb2,hr,hrne];obtain⟨rh2,H3,hA,hO,hn3,hp⟩:=BZ (ag r) rfl hrh U (by simp;omega);simp only[ag]at hA;have hcells:=hO.cells;have hone:=hO.one;have g3:H3.get (H'.C+1)=some (.L 0 83 [.lit (.int .i64 x.J),.M x.F.length (ints x.F),rh]):=(hp _ U (hrh.ne U)).trans gB2;have l3:=ae g3;refine W.dr 5 [0,1,0,4,12] mixed ?_;simp only[go_sem,lB];refine⟨ag r,[],cF.pure fun H2=>B1 r (by have:=f3 r hrm;omega) H2 _ ⟨rfl,rfl⟩,?_⟩;simp only[go_sem,h33,hA,l3,hcells,hone,w1]
   repeat (refine And.intro (by first|omega|(simp;done)|(simp;omega)|(intros;omega)|exact⟨rfl,U,U,jJ _⟩) ?_)
   have o3:TC H' H3:=⟨U,fun id h=>(hp id U (hrh.ne U)).trans (o2.nb id h)⟩
   refine⟨by rw[aq];omega,⟨j+1,rh2,Tu,U,o3.upd U _,by rw[aq];omega,by rw[ab,PZ rfl],?_,U⟩,U⟩;have e:(x.O.take (j+1)).map ag=(x.O.take j).map ag++[ag r]:=(by rw[aO hr];simp);rw[e];exact hO.na Tx (by rw[aq];omega) fun id g h1 _ _ _=>by rw[ab,PX U]
  ·rw[PY U]at hrh;have R2:=R.over o2;have q3b:=ae R2.b3;obtain⟨nh2,H3,hA,hO,hn3,hp⟩:=OI (H:=H) (H':=H2) (v:=nh) (n:=k) (xs:=[.lit (.int .i64 x.J),.M x.F.length (ints x.F),rh]) (by rw[List.all_cons,List.all_cons,List.all_cons,hrh.one];rfl) rfl U R2.nd (by have:=R2.nx;omega);have r2n:=R2.nx;have fr:∀id,id<H.C+4->H3.get id=H2.get id:=fun id h=>hp id U (R2.nd.ne h);have g3:H3.Z (H.C+3) 0=some (64,[.lit (.int .i64 d.X),nh]):=ae ((fr _ U).trans R2.b3);have hcells:=hO.cells;have hone:=hO.one;have hrc:=hrh.cells;have hro:=hrh.one;have w1:=PW ((k:Int)+1) U;simp only[go_sem,h20,h33,hb2,lB,q3b,hA,g3,hcells,hone,w1];obtain⟨H4,hH4⟩:∃H4,H4=H3.upd (H.C+3) (.L 0 64 [.lit (.int .i64 d.X),nh2]):=⟨_,rfl⟩
   rw[<- hH4];refine(fun (h:∀E:Env,E 20=aa ((k:Int)+1)->∃s₃:St,cq prog G0 ⟨E,H4⟩ s₃/\Hb.C<=s₃.H.C/\(∃(k:Nat) (nh:Ty),s₃.ρ 20=aa k/\k<=d.I.length/\FiS d fv H s₃.H nh k (aH (d.I.take k)))/\d.I.length-(iv (s₃.ρ 20)).toNat<d.I.length-k)=>h _ (by simp only[go_sem])) fun E hE20=>?_;have n4:H4.C=H3.C:=(by rw[hH4];rfl);obtain⟨nb2,gn,b1,b2,rfl,b4,b5⟩:∃id g,H.C+4<=id/\id<H3.C/\nh2=.V id g 0 (k+1) 3/\(aH (d.I.take k)++[.lit (.int .i64 x.J),.M x.F.length (ints x.F),rh]).length=(k+1)*3/\H3.get id=some (.L g 83 (aH (d.I.take k)++[.lit (.int .i64 x.J),.M x.F.length (ints x.F),rh])):=by
    rcases hO with ⟨_,h,_⟩|h
    ·omega
    ·exact h
   have c0:∀id,id<H.C+3->H4.get id=H2.get id:=fun id h=>by rw[hH4,ab,PX U];exact fr id (U)
   have c3:H4.get (H.C+3)=some (.L 0 64 [.lit (.int .i64 d.X),.V nb2 gn 0 (k+1) 3]):=(by rw[hH4,ab,PZ rfl]);have c5:H4.get nb2=some (.L gn 83 (aH (d.I.take k)++[.lit (.int .i64 x.J),.M x.F.length (ints x.F),rh])):=(by rw[hH4,ab,PX U];exact b5);have e5:aH (d.I.take (k+1))=aH (d.I.take k)++[aa x.J,ag x.F,aS x]:=(by rw[aO hx,wS]);by_cases hr0:x.O=[]
   ·have hrn:rh=.lit (.slice none 0 0):=hrh0 (by rw[hr0]at hj;simpa using hj);subst hrn;refine⟨⟨E,H4⟩,cq.refl _,by show Hb.C<=H4.C;omega,⟨k+1,.V nb2 gn 0 (k+1) 3,hE20.trans Tu,U,⟨by show _<=H4.C;omega,⟨by have:=R2.ov.C;show _<=H4.C;omega,fun id h=>(c0 id U).trans (R2.ov.nb id h)⟩,(c0 _ U).trans R2.b0,(c0 _ U).trans R2.b1,(c0 _ U).trans R2.b2,c3,.inr ⟨nb2,gn,b1,by show _<H4.C;omega,rfl,?_,?_⟩⟩⟩,?_⟩
    ·rw[eg];simp;omega
    ·show H4.get nb2=_;rw[e5,Be hr0];exact c5
    ·show _-(iv (E 20)).toNat<_;rw[hE20];simp only[aa,aK];omega
   ·obtain⟨rk,gr,r1,r2,rfl,r4⟩:∃id g,H'.C+2<=id/\id<H2.C/\rh=.V id g 0 (x.O.map ag).length 1/\H2.get id=some (.L g 59 (x.O.map ag)):=by
     rcases hrh with ⟨_,h⟩|h
     ·simp at h;exact absurd h hr0
     ·exact h
    have nhne:∀g n,nh≠.V rk g 0 n 3:=fun g n he=>by
     rcases R.nd with ⟨h,_⟩|⟨i,g2,_,h,h2,_⟩
     ·rw[h]at he;cases he
     ·rw[h2]at he;have:=Ty.V.inj he;omega
    have c6:H4.get rk=some (.L gr 59 (x.O.map ag)):=(by rw[hH4,ab,PX U,hp rk r2 nhne];exact r4);have hne2:nb2≠rk:=by
     rintro rfl;rw[c5]at c6;have:=(TE.L.inj (Option.some.inj c6)).2.1;exact absurd this (Tv)
    have e6:∀c:Ty,aH (d.I.take k)++[.lit (.int .i64 x.J),.M x.F.length (ints x.F),c]=(aH (d.I.take k)++[.lit (.int .i64 x.J),.M x.F.length (ints x.F)])++c :: []:=fun c=>Tu
    rw[e6]at c5;have e7:aH (d.I.take (k+1))=(aH (d.I.take k)++[.lit (.int .i64 x.J),.M x.F.length (ints x.F)])++av x.O :: []:=(by rw[e5,nQ hr0,<- e6];rfl);refine⟨⟨E,H4.dF rk nb2 (.L gn 83 ((aH (d.I.take k)++[.lit (.int .i64 x.J),.M x.F.length (ints x.F)])++av x.O :: []))⟩,cq.dF (s:=⟨E,H4⟩) aT c5 hne2 Tu (Co (fun c hc=>?_) ?_ fun c hc=>by cases hc),by show Hb.C<=H4.C;omega,
     ⟨k+1,.V nb2 gn 0 (k+1) 3,hE20.trans Tu,U,⟨by show _<=H4.C;omega,⟨by have:=R2.ov.C;show _<=H4.C;omega,fun id h=>(jt U U).trans ((c0 id U).trans (R2.ov.nb id h))⟩,(jt U U).trans ((c0 _ U).trans R2.b0),(jt U U).trans ((c0 _ U).trans R2.b1),(jt U U).trans ((c0 _ U).trans R2.b2),(jt U U).trans c3,.inr ⟨nb2,gn,b1,by show _<H4.C;omega,rfl,?_,?_⟩⟩⟩,?_⟩
    ·rcases Qe.1 hc with hc|hc
     ·exact ti _ c hc
     ·simp only[List.mem_cons,List.not_mem_nil,or_false]at hc;rcases hc with rfl|rfl
      ·exact .lit _
      ·exact .cK _
    ·show Fz (fun id=>id=rk) H4 _ _ _;rw[show av x.O=.M (x.O.map ag).length (x.O.map ag) by simp[av]];refine .np (S:=fun id=>id=rk) rfl c6 (by rw[Nat.mul_one]) fun j hj h2 h'=>?_;simp only[Nat.zero_add,P4];exact .cK _
    ·rw[eg];simp;omega
    ·rw[e7];exact tQ hne2
    ·show _-(iv (E 20)).toNat<_;rw[hE20];simp only[aa,aK];omega
 have ek:k=d.I.length:=U
 subst ek;rw[PY Tx]at R;obtain⟨nbk,gn,b1,b2,rfl,b4,b5⟩:∃id g,H.C+4<=id/\id<H'.C/\nh=.V id g 0 d.I.length 3/\(aH d.I).length=d.I.length*3/\H'.get id=some (.L g 83 (aH d.I)):=by
  rcases R.nd with ⟨_,h,_⟩|h
  ·have:=hR.n1.1;omega
  ·exact h
 simp only[go_sem,h20,hb,q0];refine aE.nl (qi d _ _ ⟨trivial,?_⟩);simp only[go_sem];obtain⟨H2,hH2⟩:∃H2,H2=ext H' [iR d]:=⟨_,rfl⟩
 rw[<- hH2];have o2:TC H' H2:=by rw[hH2];exact .ext _ _
 have n2:H2.C=H'.C+1:=by rw[hH2];rfl
 have hbx:H2.get H'.C=some (iR d):=by rw[hH2];exact bX
 refine W.env fun E hE=>?_;have e2:E 2=.Y H.C 0 0:=by rw[hE];simp only[go_sem]
 have e3:E 3=.Y (H.C+1) 0 0:=by rw[hE];simp only[go_sem]
 have e4:E 4=.Y (H.C+2) 0 0:=by rw[hE];simp only[go_sem]
 have e5:E 5=.Y (H.C+3) 0 0:=by rw[hE];simp only[go_sem]
 let F:Nat->List Ty->Tz->Prop:=fun lo cs Hx=>lo<=Hx.C/\(∀id,id<H2.C->id≠nbk->Hx.get id=H2.get id)/\Hx.get nbk=some (.L gn 83 cs)
 refine W.oh (f:=89) (first:=[]) (cap:=[.Y H'.C 0 0]) (by show E 53=_;rw[hE];rfl) (qh d U hf.nn H'.C)
  (fun k Hx=>F H2.C (aH (cO d c k)) Hx) (fun _ _=>False)
  (fun k Hx h=>by rw[h.2.1 _ U U];exact hbx) (fun k Hx b h=>⟨h.1,fun id h1 h2=>by rw[ab,PX U];exact h.2.1 id h1 h2,by rw[ab,PX U];exact h.2.2⟩) (fun _ _ _ h=>h)
  (fun b=>⟨by rw[bh];omega,fun id h1 h2=>bK h1,by rw[bK U,M8];exact(o2.nb _ b2).trans b5⟩) Tv qg (fun _ _ _=>trivial) (fun _ _ _=>trivial) (fun k y Hx B Bb hy hj hn hB hBb=>?_) (fun Hx hj hn=>?_) (fun Hx hs hn=>hs.elim) (fun i Hx hs hn=>hs.elim)
 ·obtain⟨v,hv,rfl⟩:=nX hy;obtain⟨v1,v2,v3⟩:=jk hv;obtain⟨x,hx⟩:=az (l:=d.I) (i:=v) v1;have hxm:=an hx;obtain⟨x1,x2⟩:=hR.dec v x hx v2;refine W.vs ?_;simp only[go_sem,iE,cr,mi,Q9,Sg,Rw,RJ,hB];obtain⟨H3,hH3⟩:∃H3,H3=Hx.upd H2.C Bb:=⟨_,rfl⟩
  rw[<- hH3];obtain⟨st,pd,n',en,ps',as',bo,hBe⟩:=hBb;have n3:H3.C=Hx.C:=by rw[hH3];rfl
  have hj3:F H2.C (aH (cO d c k)) H3:=by rw[hH3];exact⟨hj.1,fun id h1 h2=>by rw[ab,PX U];exact hj.2.1 id h1 h2,by rw[ab,PX U];exact hj.2.2⟩
  have jB:H3.get H2.C=some Bb:=by rw[hH3,ab,PZ rfl]
  refine W.en (fun E1=>E1 2=.Y H.C 0 0 /\ E1 3=.Y (H.C+1) 0 0 /\ E1 5=.Y (H.C+3) 0 0 /\ E1 11=aa k /\ E1 12=aa v) (by simp only[go_sem,cr,e2,e3,e5]) fun E1 ⟨m2,m3,m5,m11,m12⟩=>?_
  have hvn:(v:Int)<d.I.length:=U
  have s2:=R.over o2;have oldH:∀ {Hy:Tz},(∀id,id<H2.C->id≠nbk->Hy.get id=H2.get id)->Hy.Z H.C 0=some (39,[.lit (.int .i64 d.X),.M d.I.length (aI d.I),.lit (.int .u64 (d.nn:Int)),.M d.Q.length (aL d.Q)])/\Hy.Z (H.C+1) 0=some (108,[fv])/\Hy.Z (H.C+3) 0=some (64,[.lit (.int .i64 d.X),.V nbk gn 0 d.I.length 3]):=fun h =>
   ⟨ae ((h _ U U).trans s2.b0),ae ((h _ U U).trans s2.b1),ae ((h _ U U).trans s2.b3)⟩
  obtain⟨k0,k1,k3⟩:=oldH hj3.2.1;have ps:=ki hn8 x2 hR.J;have hpm:=me (ns:=d.I) (x:=x) (fun q hq=>by have:=x2.2 q hq;omega) hR.J;have hpp:1<=au (aY d.I x):=fB fun c hc=>(hpm c hc).1;have hpb:=ps.prod;have hrn:((bB d.I x:Nat):Int)=au (aY d.I x):=by unfold bB;omega
  have hlk:(cO d c k)[v]?=some x:=by rw[kZ hx];unfold dP;rw[PX U]
  have el:=eg (cO d c k);have hvk:v*3+2<(aH (cO d c k)).length:=by rw[el,iM];omega
  refine W.kj (Q':=fun e s2=>e=.normal/\∃rh,F H3.C (setAt (aH (cO d c k)) (v*3+2) [rh]) s2.H/\s2.H.get H2.C=some Bb/\ay H3.C s2.H 59 rh ((List.range (bB d.I x)).map fun r=>ag (aQ d.X x.J (c k r)))) ?_ ?_;rotate_left
  ·rintro e sx ⟨rfl,rh,hF,jBx,hrh⟩;obtain⟨rk,gr,r1,r2,rfl,r4⟩:∃id g,H3.C<=id/\id<sx.H.C/\rh=.V id g 0 ((List.range (bB d.I x)).map fun r=>ag (aQ d.X x.J (c k r))).length 1/\sx.H.get id=some (.L g 59 ((List.range (bB d.I x)).map fun r=>ag (aQ d.X x.J (c k r)))):=by
    rcases hrh with ⟨_,h⟩|h
    ·have:bB d.I x=0:=(by simpa using h);omega
    ·exact h
   have hfs:=M9 (c:=c) hv hx;have edr:ef d.X d.I c k x=(List.range (bB d.I x)).map fun r=>aQ d.X x.J (c k r):=rfl;have ey:aS { x with O:=x.O++ef d.X d.I c k x }=.M ((List.range (bB d.I x)).map fun r=>ag (aQ d.X x.J (c k r))).length ((List.range (bB d.I x)).map fun r=>ag (aQ d.X x.J (c k r))):=by
    have hne:x.O++ef d.X d.I c k x≠[]:=by
     rw[x1,edr,List.nil_append];intro h;have:bB d.I x=0:=(by simpa using h);omega
    rw[nQ hne];show av (x.O++_)=_;rw[x1,edr,List.nil_append];simp[av,List.map_map,Function.comp_def]
   have hob:=hF.2.2;rw[dm hvk]at hob;have hc2:aH (cO d c (k+1))=(aH (cO d c k)).set (v*3+2) (.M ((List.range (bB d.I x)).map fun r=>ag (aQ d.X x.J (c k r))).length ((List.range (bB d.I x)).map fun r=>ag (aQ d.X x.J (c k r)))):=by
    rw[hfs,Bf (y:={ x with O:=x.O++ef d.X d.I c k x }) hlk ⟨rfl,rfl⟩,ey,dm hvk]
   have hne2:nbk≠rk:=(by have:=hj3.1;omega);refine⟨⟨sx.ρ,sx.H.dF rk nbk (.L gn 83 (aH (cO d c (k+1))))⟩,cq.dF aT hob hne2 (by rw[hc2,P2,P2]) ?_,Tx,⟨_,_,_,_,_,_,_,by rw[jt U U,jBx,hBe]⟩,by rw[jt U U];exact jBx,by show Hx.C<=sx.H.C;have:=hF.1;omega,
    ⟨by show H2.C<=sx.H.C;have:=hF.1;omega,fun id h1 h2=>(jt U h2).trans (hF.2.1 id h1 h2),tQ hne2⟩⟩
   rw[hc2];refine xz (ti _) ?_;refine .np (S:=fun id=>id=rk) rfl r4 (by rw[Nat.mul_one]) fun j hj h2 h'=>?_;simp only[Nat.zero_add,P4];exact .cK _
  refine W.vs ?_;simp only[go_sem,m2,m12,k0];refine aE.nl (xg d.I v x hx (fun q hq=>by have:=x2.2 q hq;omega) ps _ _ ⟨⟨_,_,_,_,_,_,_,by rw[jB,hBe]⟩,?_⟩);rw[<- hrn];simp only[go_sem];refine W.aM 1237940038132458770292285440 (by rfl) (fun ρ2 H4=>∃(r:Nat) (rh:Ty),ρ2 60=aa r/\r<=bB d.I x/\F H3.C (setAt (aH (cO d c k)) (v*3+2) [rh]) H4/\H4.get H2.C=some Bb/\ay H3.C H4 59 rh ((List.range r).map fun r=>ag (aQ d.X x.J (c k r)))/\(r=0->rh=.lit (.slice none 0 0)))
   (fun ρ2 H=>bB d.I x-(iv (ρ2 60)).toNat) ?_ ?_
  ·simp only[go_sem];refine⟨0,.lit (.slice none 0 0),rfl,U,⟨Tx,hj3.2.1,?_⟩,jB,.nil,fun _=>rfl⟩;rw[show setAt (aH (cO d c k)) (v*3+2) [.lit (.slice none 0 0)]=aH (cO d c k) from by
    have:=Bf (y:=x) hlk ⟨rfl,rfl⟩;rw[Be x1]at this;rw[<- this];congr 1;exact gU hlk]
   exact hj3.2.2
  rintro ρ2 H4 ⟨r,rh,h60,hr,hF,jB4,hrh,hrh0⟩;refine W.en (fun E2=>E2 2=.Y H.C 0 0 /\ E2 3=.Y (H.C+1) 0 0 /\ E2 5=.Y (H.C+3) 0 0 /\ E2 11=aa k /\ E2 12=aa v /\ E2 59=aa (bB d.I x) /\ E2 60=aa r) (by simp only[go_sem,m2,m3,m5,m11,m12,h60]) fun E2 ⟨i2,i3,i5,i11,i12,i59,i60⟩=>?_
  refine W.vs ?_;by_cases hb2:(r:Int)<bB d.I x
  ·obtain⟨k0,k1,k3⟩:=oldH hF.2.1;have kn:=ae hF.2.2;have hne:=dN hx;have ec:=gO hx;have w1:=PW ((r:Int)+1) U;obtain⟨cb,hpc⟩:=hfv k r v x H4 hv hx U ⟨U,fun id h=>(hF.2.1 id U U).trans (s2.ov.nb id h)⟩;have hs:(setAt (aH (cO d c k)) (v*3+2) [rh])[v*3+2]?=some rh:=(by rw[dm hvk,Qa hvk]);obtain⟨rh2,H5,hA,hO,hn5,hp⟩:=BZ (ag (aQ d.X x.J (c k r))) rfl hrh hF.1 (by rw[P8,RD];omega);simp only[ag]at hA;have hcells:=hO.cells;have hone:=hO.one;have hpr:cF prog G0 (.nl 88 [] []) [.lit (.int .i64 d.X),.lit (.int .i64 x.J),.lit (.int .i64 (c k r))] H4 (ag (aQ d.X x.J (c k r))) []:=cF.pure fun H2=>OC d.X x.J (c k r) (by have:=hR.J x hxm;omega) cb H2 _ ⟨rfl,rfl⟩;have hrhs:rh=.lit (.slice none 0 0)\/∃i g n,rh=.V i g 0 n 1/\H3.C<=i/\i<H4.C:=by
    rcases hrh with ⟨h,_⟩|⟨i,g,h1,h2,h3,_⟩
    ·exact .inl h
    ·exact .inr ⟨i,g,_,h3,h1,h2⟩
   have hset:∀a b,setAt (setAt (aH (cO d c k)) (v*3+2) [a]) (v*3+2) [b]=setAt (aH (cO d c k)) (v*3+2) [b]:=fun a b=>by rw[dm hvk,dm (by rw[P2];exact hvk),dm hvk,R9]
   have hslen:∀a,(setAt (aH (cO d c k)) (v*3+2) [a]).length=(aH (cO d c k)).length:=fun a=>by rw[dm hvk,P2]
   have hg5:H5.get nbk=some (.L gn 83 (setAt (aH (cO d c k)) (v*3+2) [rh])):=(hp _ (by have:=hF.1;omega) (hrh.ne U)).trans hF.2.2;have kn5:=ae hg5;have ho5:∀id,id<H2.C->id≠nbk->H5.get id=H2.get id:=fun id h1 h2=>(hp _ (by have:=hF.1;omega) (hrh.ne U)).trans (hF.2.1 id h1 h2);have jB5:H5.get H2.C=some Bb:=(hp _ (by have:=hF.1;omega) (hrh.ne U)).trans jB4;obtain⟨hn34,-,-⟩:=hF;rcases rs with _|⟨b0,rs⟩<;>rcases hrhs with rfl|⟨i,g,n,rfl,hi1,hi2⟩
   all_goals
    simp only[go_sem,i60,i59,hb2];refine W.dr 24 [0,1,0,0,8,0,56,120,248,0,512,0,2048,0,14336,30720,63488,0,0,0,917504,2096640,4193792,8388600] mixed ?_;simp only[go_sem,i2,i3,i5,i11,i12,k0,k1,k3,kn,hvn,hne,ec,hs];refine⟨.lit (.int .i64 (c k r)),_,hpc,ag (aQ d.X x.J (c k r)),[],hpr,?_⟩;simp only[go_sem,i2,i3,i5,i11,i12,i60,hvn,kn5,hA,hcells,hone,w1];refine⟨by repeat' (first|refine And.intro ?_ ?_|(intro x hx;omega)),by repeat' (first|refine And.intro ?_ ?_|(intro x hx;omega)),by rw[hslen];omega,by rw[aq];omega,⟨_,_,_,_,_,_,_,by rw[ab,PX U,jB5,hBe]⟩,
     ⟨r+1,rh2,Tu,U,⟨by rw[aq];omega,fun id h1 h2=>by rw[ab,PX h2];exact ho5 id h1 h2,by rw[ab,PZ rfl,hset]⟩,by rw[ab,PX U];exact jB5,?_,U⟩,by rw[h60];simp only[aa,aK];omega⟩
    have e:((List.range (r+1)).map fun r=>ag (aQ d.X x.J (c k r)))=((List.range r).map fun r=>ag (aQ d.X x.J (c k r)))++[ag (aQ d.X x.J (c k r))]:=(by rw[Rg];simp);show ay _ _ _ _ ((List.range (r+1)).map fun r=>ag (aQ d.X x.J (c k r)));rw[e];exact hO.na Tx (by rw[aq];omega) fun id g h1 _ _ _=>by rw[ab,PX U]
  ·have er:r=bB d.I x:=U;subst er;simp only[go_sem,i59,i60,hb2];exact⟨rh,hF,jB4,hrh⟩
 ·have s2:=R.over o2;have f4:=ae ((hj.2.1 _ U U).trans s2.b2);have f5:=ae ((hj.2.1 _ U U).trans s2.b3);simp only[go_sem,e4,e5,f4,f5];have ovx:TC H Hx:=⟨U,fun id h=>(hj.2.1 id U U).trans (s2.ov.nb id h)⟩
  refine aw.bJ (v':=bR d.X (cP d c)) aT hcl (ovx.upd U _) (.agg rfl fun i hi _=>?_) hK
  match i,hi with
  |0,_=>exact .lit _
  |1,_ =>
   have hg:∀b,(Hx.upd (H.C+2) b).get nbk=some (.L gn 83 (aH (cP d c))):=fun b=>by
    rw[ab,PX U];have:=hj.2.2;rw[nY]at this;exact this
   show Fz _ _ _ (.V nbk gn 0 d.I.length 3) (.M (cP d c).length (aI (cP d c)));rw[show (cP d c).length=d.I.length from iM _ _ _];refine .np (by show H.C<=_;omega) (hg _) (by rw[gM];congr 1;exact iM _ _ _) fun j hj h2 h'=>?_;simp only[Nat.zero_add];exact Bi _ j _ _
structure TY (ns:List TA)(u:TI):Prop where
 vars:bI u.vars ns.length
 size:(u.w.length:Int)=au (bc (aA ns) u.vars)
 w:∀x∈u.w,-100<=x/\x<=100
def tE (d:TD):Prop:=d.Q.length<=4/\∀u∈d.Q,TY d.I u
def tF {vars:List Int}(h8:ns.length<=8)(hp:bI vars ns.length)(hc:∀y∈ns,1<=y.J/\y.J<=4):eH (bc (aA ns) vars) :=
 ki (x:=⟨0,vars,[]⟩) h8 hp hc
def OK (d:TD)(hf:TO d)(h8:d.I.length<=8)(hc:∀y∈d.I,1<=y.J/\y.J<=4)(H:Tz)(K:TF->Tz->Prop)(hK:K (.ret (.lit (.bool (iS (tE d))))) H):af prog G0 50 [gh d] H K:=by
 refine af.nl ⟨_,func50,rfl,rfl⟩ fun hcl=>?_;have hul:=hf.Q.1;have no:¬tE d->∀H',TC H H'->aw prog G0 H K (.lit (.bool false)) H':=fun h H' ov=>aw.bJ aT hcl ov (.lit _) (by rw[fR h]at hK;exact hK);refine af.st (n:=74) (rs:=[.tmp 2]) func50 ?_;simp only[go_sem,mc,cV];obtain⟨H1,hH1⟩:∃H1,H1=ext H [.L 0 39 [.lit (.int .i64 d.X),.M d.I.length (aI d.I),.lit (.int .u64 (d.nn:Int)),.M d.Q.length (aL d.Q)]]:=⟨_,rfl⟩
 have l1:H1.Z H.C 0=some (39,[.lit (.int .i64 d.X),.M d.I.length (aI d.I),.lit (.int .u64 (d.nn:Int)),.M d.Q.length (aL d.Q)]):=by rw[hH1];exact ae (cW ..)
 have n1:H1.C=H.C+1:=hH1▸rfl
 have o1:TC H H1:=hH1▸.ext _ _
 rw[<- hH1];refine W.aM 9444732965739290166632 (by rfl) (fun ρ H'=>∃k:Nat,ρ 18=aa k/\k<=d.Q.length/\TC H1 H'/\ρ 3=.lit (.bool (decide ((d.Q.length:Int)<=4)))/\(0<k->d.Q.length<=4)/\∀u∈d.Q.take k,TY d.I u) (fun ρ H=>d.Q.length-(iv (ρ 18)).toNat) ?_ ?_
 ·simp only[go_sem];exact⟨0,rfl,U,.refl _,U,Tu⟩
 rintro ρ H' ⟨k,h18,hk,ov,h3,hk4,hall⟩;refine W.en (fun E=>E 1=.Y H.C 0 0 /\ E 3=.lit (.bool (decide ((d.Q.length:Int)<=4))) /\ E 16=.M d.Q.length (aL d.Q) /\ E 17=aa d.Q.length /\ E 18=aa k) (by simp only[go_sem,h3,h18]) fun E ⟨e1,e3,e16,e17,e18⟩=>?_
 refine W.vs ?_;have ovn:=ov.C;have l2:=(ov.Z (g:=0) (by omega:H.C<H1.C)).trans l1;by_cases hb:(k:Int)<d.Q.length;rotate_left
 ·rw[PY U]at hall;by_cases h4:(d.Q.length:Int)<=4
  ·simp only[go_sem,e3,e17,e18,hb,h4];rw[fG ⟨U,hall⟩]at hK;exact aw.bJ aT hcl (o1.trans ov) (.lit _) hK
  ·simp only[go_sem,e3,e17,e18,hb,h4];exact no (fun h=>by have:=h.1;omega) _ (o1.trans ov)
 obtain⟨u,hu⟩:=az (l:=d.Q) (i:=k) U;have hum:=an hu;obtain⟨f1,f2⟩:=hf.Q.2 u hum;have hne:=s8 hu;have p0:=wJ hu;have p1:k*2+2<=(aL d.Q).length:=by rw[jU];omega
 have ove:∀L,TC H (ext H' L):=fun L=>(o1.trans ov).trans (.ext _ _);by_cases h4:(d.Q.length:Int)<=4;rotate_left
 ·simp only[go_sem,e3,e16,e17,e18,hb,h4,hne,p0,p1];exact no (fun h=>by have:=h.1;omega) _ (ove _)
 have l3:∀L,(ext H' L).Z H.C 0=_:=fun L=>(dB U).trans l2;simp only[go_sem,e1,e3,e16,e17,e18,hb,h4,hne,p0,p1,l3];obtain⟨H2,hH2⟩:∃H2,H2=ext H' [.L 0 85 [.M u.vars.length (ints u.vars),.M u.w.length (ints u.w)]]:=⟨_,rfl⟩
 have m1:H2.Z H'.C 0=some (85,[.M u.vars.length (ints u.vars),.M u.w.length (ints u.w)]):=by rw[hH2];exact ae bX
 have m2:=l3 [.L 0 85 [.M u.vars.length (ints u.vars),.M u.w.length (ints u.w)]];rw[<- hH2]at m2;have n2:H2.C=H'.C+1:=by rw[hH2];rfl
 have ov2:TC H H2:=by rw[hH2];exact ove _
 rw[<- hH2];refine aE.nl (B3 u.vars d.I.length U _ _ ⟨trivial,?_⟩);by_cases c1:bI u.vars d.I.length;rotate_left
 ·simp only[go_sem,c1];exact no (fun h=>c1 (h.2 u hum).vars) _ ov2
 have sm:=tF h8 c1 hc;have pl:(bc (aA d.I) u.vars).length=u.vars.length:=kg _ _;have v8:=c1.len;simp only[go_sem,c1,m1];refine W.aM 562881233944896 (by rfl) (fun ρ' H3=>H3=H2/\∃j:Nat,ρ' 36=aa j/\j<=u.vars.length/\ρ' 6=aa (au ((bc (aA d.I) u.vars).take j))) (fun ρ' H=>u.vars.length-(iv (ρ' 36)).toNat) ?_ ?_
 ·simp only[go_sem];exact⟨0,rfl,U,by simp[jV]⟩
 rintro ρ' H3 ⟨rfl,j,h36,hj,h6⟩;refine W.vs ?_;by_cases hb2:(j:Int)<u.vars.length
 ·obtain⟨q,hq⟩:=az (l:=u.vars) (i:=j) U;obtain⟨i,rfl,y,hy⟩:=nP (l:=d.I) (c1.2 q (an hq)).1 (c1.2 q (an hq)).2;have hne2:=bb hq;have hne3:=dN hy;have ey:=gO hy;have hi:(i:Int)<d.I.length:=by have:=aG hy;omega
  have pk:(bc (aA d.I) u.vars)[j]?=some y.J:=by rw[xf hq,Int.toNat_natCast,cB (dk hy)]
  have b1:=(sm.take (j+1)).prod;rw[aO pk,fO]at b1;have w1:=PW ((j:Int)+1) U;have w2:=PW (au ((bc (aA d.I) u.vars).take j)*y.J) U;simp only[go_sem,h36,h6,e1,m2,hb2,hq,hne2,hne3,hi,ey,w1,w2];exact⟨⟨j+1,Tu,U,by rw[aO pk,fO]⟩,U⟩
 rw[PY U]at h6;by_cases c2:(u.w.length:Int)=au (bc (aA d.I) u.vars);rotate_left
 ·simp only[go_sem,h36,h6,m1,hb2,c2];exact no (fun h=>c2 (h.2 u hum).size) _ ov2
 simp only[go_sem,h36,h6,m1,hb2,c2];refine W.aM 4721790022117341791240 (by rfl) (fun ρ2 H4=>H4=H3/\∃i:Nat,ρ2 59=aa i/\i<=u.w.length/\ρ2 3=.lit (.bool true)/\∀w∈u.w.take i,-100<=w/\w<=100) (fun ρ2 H=>u.w.length-(iv (ρ2 59)).toNat) ?_ ?_
 ·simp only[go_sem];exact⟨0,rfl,U,Tu⟩
 rintro ρ2 H4 ⟨rfl,i,h59,hi,h3',hw⟩;refine W.vs ?_;have hpr:=sm.prod;by_cases hb3:(i:Int)<u.w.length<;>have hb3':=hb3<;>rw[c2]at hb3'
 ·obtain⟨a,ha⟩:=az (l:=u.w) (i:=i) U;have ham:=an ha;have hane:=bb ha;by_cases d1:a >= -100;rotate_left
  ·simp only[go_sem,h59,h3',hb3,hb3',ha,hane,d1];exact no (fun h=>by have:=(h.2 u hum).w a ham;omega) _ ov2
  by_cases d2:a<=100;rotate_left
  ·simp only[go_sem,h59,h3',hb3,hb3',ha,hane,d1,d2];exact no (fun h=>by have:=(h.2 u hum).w a ham;omega) _ ov2
  have w1:=PW ((i:Int)+1) U;simp only[go_sem,h59,h3',hb3,hb3',ha,hane,d1,d2,w1];refine⟨⟨i+1,Tu,U,fun w hw'=>?_⟩,U⟩;rw[aO ha]at hw';rcases Qe.1 hw' with hw'|hw'
  ·exact hw w hw'
  ·obtain rfl:=List.mem_singleton.1 hw';exact⟨U,U⟩
 ·have w1:=PW ((k:Int)+1) U;rw[PY U]at hw;simp only[go_sem,h59,h3',e18,hb3',w1];refine⟨U,⟨k+1,Tu,U,by rw[hH2];exact ov.trans (.ext _ _),fun _=>U,fun y hy=>?_⟩,by rw[h18];simp only[aa,aK];omega⟩;rw[aO hu]at hy;rcases Qe.1 hy with hy|hy
  ·exact hall y hy
  ·obtain rfl:=List.mem_singleton.1 hy;exact⟨c1,c2,hw⟩
structure TR (d:TD):Prop where
 n:TT d
 net:TX d.X (cP d fun _ _=>0)
 Q:tE d
def qo (g J x:Int):(aQ g J x).length=J.toNat:=by simp[aQ]
def xd {c:Nat->Nat->Int}(h:y∈cP d c):∃v x,d.I[v]?=some x/\y=dP d c (aV d).length v x:=by
 obtain⟨v,hv⟩:=Qd.1 h;have hl:=aG hv;rw[show (cP d c).length=d.I.length from iM _ _ _]at hl;obtain⟨x,hx⟩:=az hl;have:=kZ (c:=c) (k:=(aV d).length) hx;rw[show cO d c (aV d).length=cP d c from rfl,hv]at this;exact⟨v,x,hx,Option.some.inj this⟩
def OL (hf:TO d)(hR:TT d)(c:Nat->Nat->Int):nZ (cP d c):=by
 refine⟨by rw[show (cP d c).length=d.I.length from iM _ _ _];exact hf.I.1,fun y hy=>?_⟩;obtain⟨v,x,hx,rfl⟩:=xd hy;have hxm:=an hx;obtain⟨f1,f2,f3⟩:=hf.I.2 x hxm;unfold dP;split
 ·rename_i h;obtain⟨x1,x2⟩:=hR.dec v x hx h.1;have ps:=(ki hR.n1.2 x2 hR.J).prod;have hc:=hR.J x hxm;refine⟨f1,?_,fun r hr=>?_⟩
  ·show ((x.O++ef d.X d.I c (cN d.nn v) x).length:Int)<_;rw[x1];simp only[ef,List.nil_append,P8,RD,bB];omega
  ·rw[show ({ x with O:=x.O++ef d.X d.I c (cN d.nn v) x }:TA).O=x.O++ef d.X d.I c (cN d.nn v) x from rfl,x1,List.nil_append]at hr;obtain⟨i,_,rfl⟩:=Qm.1 hr;rw[qo];omega
 ·exact⟨f1,f2,f3⟩
def B0 (d:TD)(hf:TO d)(H:Tz)(K:TF->Tz->Prop)(hK:K (.ret (aa (if iS (TR d) then 0 else 200))) H):af prog G0 11 [gh d] H K:=by
 refine af.nl ⟨_,func11,rfl,rfl⟩ fun hcl=>?_;have no:¬TR d->∀H',TC H H'->aw prog G0 H K (.lit (.int .i64 200)) H':=fun h H' ov=>aw.bJ aT hcl ov (.lit _) (by rw[fR h]at hK;exact hK);have hg:TR d->1<=d.X/\d.X<=60:=fun h=>h.net.g1;refine af.st (n:=25) (rs:=[.tmp 2]) func11 ?_;simp only[go_sem,mc,cV];obtain⟨H1,hH1⟩:∃H1,H1=ext H [.L 0 39 [.lit (.int .i64 d.X),.M d.I.length (aI d.I),.lit (.int .u64 (d.nn:Int)),.M d.Q.length (aL d.Q)]]:=⟨_,rfl⟩
 have l1:H1.Z H.C 0=some (39,[.lit (.int .i64 d.X),.M d.I.length (aI d.I),.lit (.int .u64 (d.nn:Int)),.M d.Q.length (aL d.Q)]):=by rw[hH1];exact ae (cW ..)
 have o1:TC H H1:=hH1▸.ext _ _
 rw[<- hH1];by_cases c1:d.X<1
 ·simp only[go_sem,c1];exact no (fun h=>by have:=hg h;omega) _ o1
 by_cases c2:d.X > 60
 ·simp only[go_sem,l1,c1,c2];exact no (fun h=>by have:=hg h;omega) _ o1
 simp only[go_sem,l1,c1,c2];refine aE.nl (OE d hf _ _ ⟨trivial,?_⟩);by_cases c3:TT d;rotate_left
 ·rw[fR c3];simp only[go_sem];exact no (fun h=>c3 h.n) _ o1
 rw[fG c3];simp only[go_sem,l1];refine aE.nl (OJ d hf c3 (fun _ _=>0) _ [] _ (fun i h=>by cases h) rfl rfl (fun p r v x H2 _ hx _ _=>⟨⟨Int.le_refl 0,by have:=c3.J x (an hx);omega⟩,cF.pure fun H3=>OD _ _ H3 _ ⟨rfl,rfl⟩⟩) _ ⟨trivial,?_⟩);simp only[go_sem];refine aE.nl (O5 d.X _ (OL hf c3 _) _ _ ⟨trivial,?_⟩);by_cases c4:TX d.X (cP d fun _ _=>0);rotate_left
 ·rw[qu c4];simp only[go_sem];exact no (fun h=>c4 h.net) _ o1
 rw[qt c4];simp only[go_sem,l1];refine aE.nl (OK d hf c3.n1.2 c3.J _ _ ⟨trivial,?_⟩);by_cases c5:tE d;rotate_left
 ·rw[fR c5];simp only[go_sem];exact no (fun h=>c5 h.Q) _ o1
 rw[fG c5];simp only[go_sem];rw[fG (⟨c3,c4,c5⟩:TR d)]at hK;exact aw.bJ aT hcl o1 (.lit _) hK
structure PolOk (d:TD)(p:List (List Int)):Prop where
 len:p.length=(aV d).length
 row:∀(k v:Nat) (x:TA) (l:List Int),(aV d)[k]?=some v->d.I[v]?=some x->p[k]?=some l->l.length=bB d.I x/\∀a∈l,0<=a/\a<x.J
def fixC (p:List (List Int))(k r:Nat):Int:=(p.getD k []).getD r 0
end Go.Proofs
namespace Go.Hx
variable {P:Program} {G:Nat->Option (List Ty)} {n:Nat} {rd:Option Nat} {Q:AX->St->Prop}
end Go.Hx
namespace Go.Proofs
open Go.Hx Try
variable {v:Nat}{c:Nat->Nat->Int}{x:TA}{d:TD}
def Bk (ns:List TA)(x:TA)(vals:List Int):List Int:=x.O.getD (pU (aY ns x) (bc vals x.F)).toNat []
def Bl (ns:List TA)(vals:List Int)(v:Nat):Int:=match ns[v]? with
 |some x=>(Bk ns x vals).getD (vals.getD v 0).toNat 0
 |none=>1
def Nd (ns:List TA):Nat:=(au (aA ns)).toNat
def Nf (ns:List TA)(vals:List Int)(u:TI):Int:=u.w.getD (pU (bc (aA ns) u.vars) (bc vals u.vars)).toNat 0
def Ng (ns:List TA)(us:List TI)(vals:List Int):Int:=(us.map (Nf ns vals)).sum
structure RowAtW (g:Int)(ns:List TA)(x:TA)(vals:List Int)(v:Nat)(i:Nat)(r:List Int)(a w:Int):Prop where
 idx:pU (aY ns x) (bc vals x.F)=i
 row:x.O[i]?=some r
 val:vals[v]?=some a
 a0:0<=a
 hw:r[a.toNat]?=some w
 wb:0<=w/\w<=g
 eq:Bl ns vals v=w
 rv:Bk ns x vals=r
 len:(r.length:Int)=x.J
 al:a<r.length
def OF {g J a:Int}(hg:0<=g)(ha:0<=a/\a<J):ik g J (aQ g J a):=by
 refine⟨by rw[qo];omega,fun w hw=>?_,?_⟩
 ·unfold aQ at hw;rcases Qr hw with h|h
  ·have:=Qv h;omega
  ·omega
 ·unfold aQ;have key:∀(n i:Nat),i<n->((List.replicate n (0:Int)).set i g).sum=g:=by
   intro n
   induction n with
   |zero=>intro i h;omega
   |succ n ih =>
    intro i h;cases i with
    |zero=>simp[QM]
    |succ i=>rw[QM,List.set_cons_succ,RT,ih i U];omega
  exact key _ _ (U)
def qj (d:TD)(c:Nat->Nat->Int):aA (cP d c)=aA d.I:=Na
def ke (d:TD)(c:Nat->Nat->Int):(cP d c).length=d.I.length:=iM _ _ _
def kf (h:d.I[v]?=some x):(cP d c)[v]?=some (dP d c (aV d).length v x):=kZ h
def xc (d:TD)(c:Nat->Nat->Int)(x:TA):aY (cP d c) x=aY d.I x:=by unfold aY;rw[qj]
def OG (d:TD)(c:Nat->Nat->Int):aX (cP d c)=aX d.I:=by
 apply QC;intro v;unfold aX;rw[List.getElem?_map,List.getElem?_map];rcases Ql v d.I.length with h|h
 ·obtain⟨x,hx⟩:=az h;rw[kf hx,hx];simp only[Option.map_some,(lY d c _ v x).2]
 ·rw[P7 (by rw[ke];exact h),P7 h]
def OH (hx:d.I[v]?=some x)(hb:d.nn.testBit v=true):(aV d)[cN d.nn v]?=some v:=td (aG hx) hb
def qk (hx:d.I[v]?=some x)(hb:d.nn.testBit v=true):dP d c (aV d).length v x={ x with O:=x.O++ef d.X d.I c (cN d.nn v) x } :=
 PZ ⟨hb,aG (OH hx hb)⟩
def qm {k:Nat}(hb:¬d.nn.testBit v=true):dP d c k v x=x:=PX fun h=>hb h.1
end Go.Proofs
namespace Go.Proofs.R01
open Go.Hx Try
section
variable {P:Program} {t:TypeId} {x y:Operand} {k k':IntKind} {a b:Int}
def pureRun_bind {α β:Type}{s:Sem α}{f:α->Sem β}{a:α}(h:b9 P s=some a):b9 P (s >>= f)=b9 P (f a):=by
 induction s with
 |pure b=>simp only[b9,Option.some.injEq]at h;subst h;rfl
 |program k ih=>exact ih P h
 |mark m k ih=>exact ih h
 |_=>simp[b9]at h
end
section
variable {P:Program} {G:Nat->Option (List Ty)}
end
end Go.Proofs.R01
namespace Go.Proofs.R01
open Go.Hx Try
def val:List Int -> Nat
  | [] => 0
  |a :: l => a.toNat + 10000 * val l
end Go.Proofs.R01
namespace Go.Proofs.R01
open Go.Hx Try
def mb {H H' H2:Tz}{v:Ty}{cs:List Ty}{e:TypeId}(ov:TC H H')(h:ay H.C H' e v cs)(hn:H'.C <= H2.C)(hp:∀k,k < H'.C -> (∀g n,v ≠ .V k g 0 n 1) -> H2.get k=H'.get k):TC H H2 :=
  ⟨by have := ov.C;omega,fun id hid => by
    rw[hp id (by have := ov.C;omega) fun g n he => ?_,ov.nb id hid]
    rcases h with ⟨h,_⟩ |⟨i2,g2,a1,_,h,_⟩
    · rw[h]at he;cases he
    · rw[h]at he;have := Ty.V.inj he;omega⟩
end Go.Proofs.R01
namespace Go.Proofs.R01
open Go.Hx Try
end Go.Proofs.R01
namespace Go.Proofs.R01
open Go.Hx Try
def ij {l:List Int}{k:Nat}(v:Int)(h:k<l.length):setAt (ints l) k [.lit (.int .i64 v)]=ints (l.set k v):=by
 unfold setAt ints;rw[SC,SJ,PZ (by simpa using h)];simp[aa]
end Go.Proofs.R01
namespace Go.Proofs.R01
open Go.Hx Try
end Go.Proofs.R01
namespace Go.Proofs.R01
open Go.Hx Try
end Go.Proofs.R01
namespace Go.Proofs.R01
open Go.Hx Try
end Go.Proofs.R01
namespace Go.Proofs.R01
open Go.Hx Try
end Go.Proofs.R01
namespace Go.Proofs
open Go.Hx Try
def bM (l:List Int):List Ty:=l.map fun n=>.lit (.int .u8 n)
def sS {l:List Int}{k:Nat}{a:Int}(h:l[k]?=some a):(bM l)[k]?=some (.lit (.int .u8 a)):=by unfold bM;rw[List.getElem?_map,h];rfl
end Go.Proofs
namespace Go.Hx
variable {P:Program} {H H':Tz}
def nS {t e:TypeId}{lo n m:Nat}{v x:Ty}{cs src:List Ty}{z:List Ty}(ht:P.underlying t=some (.slice e))(hz:P.cellsOf e=1)(hzero:bC P e=some z)(hsrc:bW H 1 x=some (m,src))(hm:src.length=m)(hx:src.all Ty.one=true)
  (hb:(cs.length+m)*P.bytesOf e<=2 ^ 47/\cs.length+m<=2 ^ 47) (ho:ay lo H e v cs) (hlo:lo<=H.C) (hn:n=H.C):
  ∃v' H',bd P H n t t v x=some (v',H')/\ay lo H' e v' (cs++src)/\H.C<=H'.C/\(∀k,k<H.C->(∀g n,v≠.V k g 0 n 1)->H'.get k=H.get k):=by
 subst hm;obtain⟨v',H',hA,h2⟩:=rz (H:=H) (n:=n) ht hz hzero hx hb ho hlo hn;refine⟨v',H',?_,h2⟩;rw[<- hA];have e2:bW H 1 (.M src.length src)=some (src.length,src):=by unfold bW;simp
 unfold bd;rw[ht];simp only[hz,hsrc,e2]
end Go.Hx
namespace Go.Proofs
open Go.Hx Try
def U8 (n:Int):Prop:=0<=n/\n<256
def Ns (n:Nat)(hn:n<=5)(ord:List Int)(H:Tz)(K:TF->Tz->Prop)(hK:K (.ret (ag (List.replicate n 1))) H):
  af prog G0 101 [.agg [.M n (bM (List.replicate n 0)),(.lit (.int .u16 0)),.M ord.length (bM ord)]] H K:=by
 refine af.nl ⟨_,func101,rfl,rfl⟩ fun hcl=>?_;refine af.st (n:=28) (rs:=[.tmp 2]) func101 ?_;simp only[go_sem];obtain⟨H1,hH1⟩:∃H1,H1=ext H [.L 0 139 [.M n (bM (List.replicate n 0)),.lit (.int .u16 0),.M ord.length (bM ord)]]:=⟨_,rfl⟩
 have l1:=ae (show H1.get H.C=some (.L 0 139 [.M n (bM (List.replicate n 0)),.lit (.int .u16 0),.M ord.length (bM ord)]) by rw[hH1];exact cW ..);have n1:H1.C=H.C+1:=hH1▸rfl
 have o1:TC H H1:=hH1▸.ext _ _
 rw[<- hH1];refine W.aM 134217720 (by rfl) (fun ρ H'=>∃k:Nat,ρ 4=aa k/\k<=n/\TC H1 H'/\ay H1.C H' 3 (ρ 3) (ints (List.replicate k 1))) (fun ρ H=>n-(iv (ρ 4)).toNat) ?_ ?_
 ·simp only[go_sem];exact⟨0,rfl,U,.refl _,.nil⟩
 rintro ρ H' ⟨k,h4,hk,ov,h3⟩;refine W.en (fun E=>E 1=.Y H.C 0 0 /\ E 3=ρ 3 /\ E 4=aa k) (by simp only[go_sem,h4]) fun E ⟨e1,e3,e4⟩=>?_
 refine W.vs ?_;have l2:=(ov.Z (g:=0) (by omega:H.C<H1.C)).trans l1;by_cases hb:(k:Int)<n
 ·have h5:(k:Int)<5:=U
  have hg:(bM (List.replicate n 0))[k]?=some (.lit (.int .u8 0)):=sS (by rw[RH,PZ U]);have hne:=bb hg;obtain⟨v',H2,hA,ov2,hO,hn2,_⟩:=il 1 ov h3 (by simp;omega);have w1:=PW ((k:Int)+1) U;have hk0:(k:Int) >= 0:=U
  have w5:IntKind.i64.wrap (1+IntKind.i64.wrap (Int.tmod 0 4))=1:=Tv
  simp only[go_sem,e1,e3,e4,l2,hb,h5,hk0,hg,hne,w1,w5,hA];refine⟨by have:=ov2.C;omega,⟨k+1,rfl,U,ov2,?_⟩,by rw[h4];simp only[aa,aK];omega⟩;rw[RX];exact hO
 ·simp only[go_sem,e1,e3,e4,l2,hb];obtain rfl:k=n:=U
  exact aw.bJ aT hcl (o1.trans ov) (h3.dW fun i hi=>U) hK
structure T9 (n:Nat)(p:List Int):Prop where
 len:p.length=n
 nd:p.Nodup
 no:∀x∈p,0<=x/\x<n
def Nt {n:Nat}{p:List Int}(h:T9 n p)(at':Nat)(ha:at'<=n):T9 (n+1) (p.take at'++(n:Int) :: p.drop at'):=by
 have hperm:(p.take at'++(n:Int) :: p.drop at').Perm ((n:Int) :: p):=by
  have:=List.perm_middle (a:=(n:Int)) (l₁:=p.take at') (l₂:=p.drop at')
  rwa [Qq]at this
 refine⟨by rw[hperm.length_eq];simp[h.len],(hperm.nodup_iff).2 (Sm.2 ⟨fun hm=>?_,h.nd⟩),fun x hx=>?_⟩
 ·have:=h.no _ hm;omega
 ·rcases List.mem_cons.1 (hperm.mem_iff.1 hx) with rfl|h2
  ·omega
  ·have:=h.no x h2;omega
def jY (ord:List Int)(k:Nat):Nat:=if k<ord.length then (ord.getD k 0 % ((k:Int)+1)).toNat else 0
def eG (ord:List Int):Nat->List Int
 |0=>[]
 |k+1=>(eG ord k).take (jY ord k)++(k:Int) :: (eG ord k).drop (jY ord k)
def Nu (ord:List Int)(k:Nat):jY ord k<=k:=by
 unfold jY;split
 ·have:=QS (ord.getD k 0) (show 0<(k:Int)+1 by omega);omega
 ·omega
theorem wU (ord:List Int):∀n:Nat,T9 n (eG ord n)
 |0=>⟨rfl,by simp[eG],by simp[eG]⟩
 |n+1=>Nt (wU ord n) _ (Nu ord n)
def Nv (n:Nat)(hn:n<=5)(ord:List Int)(hol:(ord.length:Int)<2 ^ 63)(ho8:∀x∈ord,U8 x)(H:Tz)(K:TF->Tz->Prop)(hK:∀v H',TC H H'->ay H.C H' 3 v (ints (eG ord n))->K (.ret v) H'):
  af prog G0 83 [.agg [.M n (bM (List.replicate n 0)),.lit (.int .u16 0),.M ord.length (bM ord)]] H K:=by
 refine af.nl ⟨_,func83,rfl,rfl⟩ fun hcl=>?_;refine af.st (n:=42) (rs:=[.tmp 2]) func83 ?_;simp only[go_sem];obtain⟨H1,hH1⟩:∃H1,H1=ext H [.L 0 139 [.M n (bM (List.replicate n 0)),.lit (.int .u16 0),.M ord.length (bM ord)]]:=⟨_,rfl⟩
 have l1:=ae (show H1.get H.C=some (.L 0 139 [.M n (bM (List.replicate n 0)),.lit (.int .u16 0),.M ord.length (bM ord)]) by rw[hH1];exact cW ..);have n1:H1.C=H.C+1:=hH1▸rfl
 have o1:TC H H1:=hH1▸.ext _ _
 rw[<- hH1];refine W.aM 2199023255544 (by rfl) (fun ρ H'=>∃(k:Nat) (p:List Int),ρ 4=aa k/\k<=n/\p=eG ord k/\TC H1 H'/\ay H1.C H' 3 (ρ 3) (ints p)) (fun ρ H=>n-(iv (ρ 4)).toNat) ?_ ?_
 ·simp only[go_sem];exact⟨0,[],rfl,U,rfl,.refl _,.nil⟩
 rintro ρ H' ⟨k,p,h4,hk,hpe,ov,h3⟩;have hp:T9 k p:=by rw[hpe];exact wU ord k
 refine W.en (fun E=>E 1=.Y H.C 0 0 /\ E 3=ρ 3 /\ E 4=aa k) (by simp only[go_sem,h4]) fun E ⟨e1,e3,e4⟩=>?_
 refine W.vs ?_;have l2:=(ov.Z (g:=0) (by omega:H.C<H1.C)).trans l1;simp only[go_sem,e1,l2];refine aE.nl (Ns n hn ord _ _ ⟨trivial,?_⟩);by_cases hb:(k:Int)<n;rotate_left
 ·simp only[go_sem,Qi,e3,e4,hb];obtain rfl:k=n:=U
  exact aw.mk (o1.trans ov).C (hK _ _ (o1.trans ov) (by rw[<- hpe];exact h3.na U Tx fun _ _ _ _ _ _=>rfl))
  -- the place
 rcases h3 with ⟨h3n,hpn⟩|⟨oi,og,hoi1,hoi2,h3o,hog⟩
 ·have p0:p=[]:=by cases p with
   |nil=>rfl
   |cons a l=>simp[ints]at hpn
  have pl:=hp.len;rw[p0]at pl;obtain rfl:k=0:=by simpa using pl.symm
  rw[h3n]at e3;have e4':E 4=aa 0:=e4;have hb':(0:Int)<n:=hb;by_cases ho:(0:Int)<ord.length
  ·obtain⟨b,hbg⟩:=az (l:=ord) (i:=0) U;have b8:=ho8 b (an hbg);have hbg':=sS hbg;have hbne:=bb hbg';have w2:IntKind.i64.wrap b=b:=PW b (by have:=b8.1;have:=b8.2;omega);have w1:IntKind.i64.wrap 1=1:=Tv;have m1:b.tmod 1=0:=Tu;obtain⟨v2,Hb,hA2,ovB,hO2,hn2,hp2⟩:=il (H:=H') (H':=H') (l:=[]) (v:=.lit (.slice none 0 0)) (0:Int) (.refl _) ay.nil Tu;obtain⟨v3,Hc,hA3,hO3,hn3,hp3⟩:=nS (P:=prog) (H:=Hb) (t:=59) (n:=Hb.C) (m:=0) (v:=v2) (x:=.lit (.slice none 0 0)) (src:=[]) Try.underlying59 Try.dC Try.eb rfl rfl rfl (by rw[Try.eR];exact⟨Tv,Tv⟩) hO2 ovB.C rfl;have ovC:TC H' Hc:=mb ovB hO2 hn3 hp3;have hA1:bd prog H' H'.C 59 59 (.lit (.slice none 0 0)) (.lit (.slice none 0 0))=some (.lit (.slice none 0 0),H'):=by
    unfold bd;rw[Try.underlying59];simp only[Try.eb,Try.dC,Option.bind_some,u7,if_true]
   have hO3':ay H1.C Hc 3 v3 (ints [0]):=by
    rw[List.append_nil]at hO3;exact hO3.na ov.C Tx fun _ _ _ _ _ _=>rfl
   simp only[go_sem,Qi,e1,e3,e4',l2,hb',ho,hbg',hbne,w1,w2,m1,hA1,hA2,hA3];refine⟨by have:=ovC.C;have:=ov.C;omega,⟨1,[0],rfl,U,by simp[eG],ov.trans ovC,hO3'⟩,by rw[h4];simp only[aa,aK];omega⟩
  ·have w1:IntKind.i64.wrap 1=1:=Tv;obtain⟨v2,Hb,hA2,ovB,hO2,hn2,hp2⟩:=il (H:=H') (H':=H') (l:=[]) (v:=.lit (.slice none 0 0)) (0:Int) (.refl _) ay.nil Tu;obtain⟨v3,Hc,hA3,hO3,hn3,hp3⟩:=nS (P:=prog) (H:=Hb) (t:=59) (n:=Hb.C) (m:=0) (v:=v2) (x:=.lit (.slice none 0 0)) (src:=[]) Try.underlying59 Try.dC Try.eb rfl rfl rfl (by rw[Try.eR];exact⟨Tv,Tv⟩) hO2 ovB.C rfl;have ovC:TC H' Hc:=mb ovB hO2 hn3 hp3;have hA1:bd prog H' H'.C 59 59 (.lit (.slice none 0 0)) (.lit (.slice none 0 0))=some (.lit (.slice none 0 0),H'):=by
    unfold bd;rw[Try.underlying59];simp only[Try.eb,Try.dC,Option.bind_some,u7,if_true]
   have hO3':ay H1.C Hc 3 v3 (ints [0]):=by
    rw[List.append_nil]at hO3;exact hO3.na ov.C Tx fun _ _ _ _ _ _=>rfl
   simp only[go_sem,Qi,e1,e3,e4',l2,hb',ho,w1,hA1,hA2,hA3];refine⟨by have:=ovC.C;have:=ov.C;omega,⟨1,[0],rfl,U,by simp[eG],ov.trans ovC,hO3'⟩,by rw[h4];simp only[aa,aK];omega⟩
 rw[h3o]at e3;have lo:=ae hog;by_cases ho:(k:Int)<ord.length
 ·obtain⟨b,hbg⟩:=az (l:=ord) (i:=k) U;have b8:=ho8 b (an hbg);have hbg':=sS hbg;have hbne:=bb hbg';have w0:=PW ((k:Int)+1) U;have w1:=w0;have w2:IntKind.i64.wrap b=b:=PW b (by have:=b8.1;have:=b8.2;omega);have m1:b.tmod ((k:Int)+1)=b % ((k:Int)+1):=Qp b8.1;have m2:=QY b (show (k:Int)+1≠0 by omega);have m3:=QS b (show 0<(k:Int)+1 by omega);have hz:¬(k:Int)+1=0:=U
  obtain⟨a,hat⟩:=Qb m2;have ha:a<=k:=U
  have hac:(0:Int)<=(a:Int):=U
  have hap:(a:Int)<=(p.length:Int):=by rw[hp.len];omega
  have hak:(0:Int)<=(a:Int)/\(a:Int)<=(p.length:Int):=⟨hac,hap⟩
  have pl:p.length=k:=hp.len;obtain⟨v1,Ha,hA1,hO1,hn1,hp1⟩:=nS (P:=prog) (H:=H') (t:=59) (n:=H'.C) (m:=a) (v:=.lit (.slice none 0 0)) (x:=.V oi og 0 a 1) (src:=(ints p).take a) Try.underlying59 Try.dC Try.eb
   (by rw[pf,PZ rfl,lo];simp) (by simp[aR]<;>omega) (Qt.2 fun c hc=>by
    obtain⟨z,_,rfl⟩:=Qm.1 (Qk hc);rfl) (by rw[Try.eR];simp<;>omega) ay.nil Tx rfl
  have ovA:TC H' Ha:=⟨hn1,fun id hi=>hp1 id hi fun g n h=>by cases h⟩
  rw[List.nil_append,Cm]at hO1;obtain⟨v2,Hb,hA2,ovB,hO2,hn2,hp2⟩:=il (k:Int) ovA hO1 (by simp<;>omega);have hcl2:(ints (p.take a++[(k:Int)])).length<=k+1:=by rw[aR,List.length_append,P9];simp<;>omega
  have hlb:Hb.Z oi og=some (3,ints p):=(ovB.Z hoi2).trans lo;obtain⟨v3,Hc,hA3,hO3,hn3,hp3⟩:=nS (P:=prog) (H:=Hb) (t:=59) (n:=Hb.C) (m:=p.length-a) (v:=v2) (x:=.V oi og a (p.length-a) 1) (src:=(ints p).drop a) Try.underlying59 Try.dC Try.eb
   (by rw[pf,PZ rfl,hlb];simp[PY,aR]) (by simp[aR]) (Qt.2 fun c hc=>by
    obtain⟨z,_,rfl⟩:=Qm.1 (QV hc);rfl) (by rw[Try.eR];omega) hO2 ovB.C rfl
  have ovC:TC H' Hc:=mb ovB hO2 hn3 hp3;have hla:Ha.Z oi og=some (3,ints p):=(ovA.Z hoi2).trans lo;rw[Cn]at hO3;have hO3':ay H1.C Hc 3 v3 (ints (p.take a++(k:Int) :: p.drop a)):=by
   have:ints (p.take a++[(k:Int)])++ints (p.drop a)=ints (p.take a++(k:Int) :: p.drop a):=(by simp[ints]);rw[this]at hO3;exact hO3.na ov.C Tx fun _ _ _ _ _ _=>rfl
  simp only[go_sem,Qi,e1,e3,e4,l2,hb,ho,hbg',hbne,w0,w2,m1,hz,hat,hac,hap,Int.toNat_natCast,lo,hlb,hA1,hA2,hA3];refine⟨by have:=ovC.C;omega,⟨k+1,_,rfl,U,by rw[eG,<- hpe,show jY ord k=a by unfold jY;rw[PZ U,cB hbg,hat];rfl],ov.trans ovC,hO3'⟩,by rw[h4];simp only[aa,aK];omega⟩
 ·have w0:=PW ((k:Int)+1) U;have pl:p.length=k:=hp.len;obtain⟨v1,Ha,hA1,hO1,hn1,hp1⟩:=nS (P:=prog) (H:=H') (t:=59) (n:=H'.C) (m:=0) (v:=.lit (.slice none 0 0)) (x:=.V oi og 0 0 1) (src:=(ints p).take 0) Try.underlying59 Try.dC Try.eb
   (by rw[pf,PZ rfl,lo];simp) (by simp[aR]<;>omega) (Qt.2 fun c hc=>by
    obtain⟨z,_,rfl⟩:=Qm.1 (Qk hc);rfl) (by rw[Try.eR];simp<;>omega) ay.nil Tx rfl
  have ovA:TC H' Ha:=⟨hn1,fun id hi=>hp1 id hi fun g n h=>by cases h⟩
  rw[List.nil_append,Cm]at hO1;obtain⟨v2,Hb,hA2,ovB,hO2,hn2,hp2⟩:=il (k:Int) ovA hO1 (by simp<;>omega);have hcl2:(ints (p.take 0++[(k:Int)])).length<=k+1:=by rw[aR,List.length_append,P9];simp<;>omega
  have hlb:Hb.Z oi og=some (3,ints p):=(ovB.Z hoi2).trans lo;obtain⟨v3,Hc,hA3,hO3,hn3,hp3⟩:=nS (P:=prog) (H:=Hb) (t:=59) (n:=Hb.C) (m:=p.length) (v:=v2) (x:=.V oi og 0 (p.length) 1) (src:=(ints p).drop 0) Try.underlying59 Try.dC Try.eb
   (by rw[pf,PZ rfl,hlb];simp[PY,aR]) (by simp[aR]) (Qt.2 fun c hc=>by
    obtain⟨z,_,rfl⟩:=Qm.1 (QV hc);rfl) (by rw[Try.eR];omega) hO2 ovB.C rfl
  have ovC:TC H' Hc:=mb ovB hO2 hn3 hp3;have hla:Ha.Z oi og=some (3,ints p):=(ovA.Z hoi2).trans lo;rw[Cn]at hO3;have hO3':ay H1.C Hc 3 v3 (ints (p.take 0++(k:Int) :: p.drop 0)):=by
   have:ints (p.take 0++[(k:Int)])++ints (p.drop 0)=ints (p.take 0++(k:Int) :: p.drop 0):=(by simp[ints]);rw[this]at hO3;exact hO3.na ov.C Tx fun _ _ _ _ _ _=>rfl
  simp only[go_sem,Qi,e1,e3,e4,l2,hb,ho,w0,lo,hlb,hA1,hA2,hA3];refine⟨by have:=ovC.C;omega,⟨k+1,_,rfl,U,by rw[eG,<- hpe,show jY ord k=0 by unfold jY;rw[PX U]],ov.trans ovC,hO3'⟩,by rw[h4];simp only[aa,aK];omega⟩
end Go.Proofs
