/- Own work: contracts. -/
import Derived.Test.YtcccmbeolcjacaaConA
set_option linter.all false
set_option maxHeartbeats 8000000
set_option maxRecDepth 100000
namespace Go.Proofs
open Go.Hx Try
variable {g:Int}{c:List Int}{ns:List S3}{D k n v:Nat}{p:Prop}{H H':S2}{x:S3}{d:S5}
def xj:S1:=.agg [.lit (.int .i64 0),af [],af [],af [],af []]
def xk (g:Int)(ns:List S3):S1:=.agg [.lit (.int .i64 g),cG ns,af (ay ns),eZ (aX ns),af (aF ((dM (aX ns)).getD []))]
structure Tx (g:Int)(ns:List S3)(H H':S2)(c:List Int)(s:List Nat):Prop where
 nx:H.C+5<=H'.C
 ov:S6 H H'
 b0:H'.get H.C=some (.L 0 64 [.lit (.int .i64 g),.M ns.length (aL ns)])
 b1:H'.get (H.C+1)=some (.L 0 148 [.lit (.int .i64 0),.lit (.slice none 0 0),.lit (.slice none 0 0),.lit (.slice none 0 0),.lit (.slice none 0 0)])
 b2:H'.get (H.C+2)=some (.L 0 3 (ints c))
 b3:H'.get (H.C+3)=some (.L 0 36 (s.map aG))
 b4:H'.get (H.C+4)=some (.L 0 148 [.lit (.int .i64 g),.M ns.length (aL ns),.V (H.C+2) 0 0 ns.length 1,.V (H.C+3) 0 0 ns.length 1,.lit (.slice none 0 0)])
 cl:c.length=ns.length
 sl:s.length=ns.length
def Tx.over {H2:S2}{s:List Nat}(h:Tx g ns H H' c s)(o:S6 H' H2):Tx g ns H H2 c s where
 nx:=Qm h.nx o.C
 ov:=h.ov.trans o
 b0:=(o.nf _ (by have:=h.nx;omega)).trans h.b0
 b1:=(o.nf _ (by have:=h.nx;omega)).trans h.b1
 b2:=(o.nf _ (by have:=h.nx;omega)).trans h.b2
 b3:=(o.nf _ (by have:=h.nx;omega)).trans h.b3
 b4:=(o.nf _ (by have:=h.nx;omega)).trans h.b4
 cl:=h.cl
 sl:=h.sl
def Tx.Oz {s:List Nat}(h:Tx g ns H H' c s)(hk:k<c.length)(x:Int):Tx g ns H (H'.upd (H.C+2) (.L 0 3 (setAt (ints c) k [.lit (.int .i64 x)]))) (c.set k x) s where
 nx:=h.nx
 ov:=h.ov.upd U _
 b0:=by rw[ab,PC U];exact h.b0
 b1:=by rw[ab,PC U];exact h.b1
 b2:=by rw[ab,PG rfl,jl hk]
 b3:=by rw[ab,PC U];exact h.b3
 b4:=by rw[ab,PC U];exact h.b4
 cl:=by simpa using h.cl
 sl:=h.sl
def OA {l:List Nat}{i:Nat}{x:Nat}(h:i<l.length):setAt (l.map aG) i [.lit (.int .u64 (x:Int))]=(l.set i x).map aG:=by
 rw[dq (by simpa using h)];simp[aG]
def Tx.OB {s:List Nat}(h:Tx g ns H H' c s)(hk:k<s.length)(x:Nat):Tx g ns H (H'.upd (H.C+3) (.L 0 36 (setAt (s.map aG) k [.lit (.int .u64 (x:Int))]))) c (s.set k x) where
 nx:=h.nx
 ov:=h.ov.upd U _
 b0:=by rw[ab,PC U];exact h.b0
 b1:=by rw[ab,PC U];exact h.b1
 b2:=by rw[ab,PC U];exact h.b2
 b3:=by rw[ab,PG rfl,OA hk]
 b4:=by rw[ab,PC U];exact h.b4
 cl:=h.cl
 sl:=by simpa using h.sl
def Tx.l0 {s:List Nat}(h:Tx g ns H H' c s):H'.nn H.C 0=some (64,[.lit (.int .i64 g),.M ns.length (aL ns)]):=ag h.b0
def Tx.l1 {s:List Nat}(h:Tx g ns H H' c s):H'.nn (H.C+1) 0=some (148,[.lit (.int .i64 0),.lit (.slice none 0 0),.lit (.slice none 0 0),.lit (.slice none 0 0),.lit (.slice none 0 0)]):=ag h.b1
def Tx.l2 {s:List Nat}(h:Tx g ns H H' c s):H'.nn (H.C+2) 0=some (3,ints c):=ag h.b2
def Tx.l3 {s:List Nat}(h:Tx g ns H H' c s):H'.nn (H.C+3) 0=some (36,s.map aG):=ag h.b3
def Tx.l4 {s:List Nat}(h:Tx g ns H H' c s):H'.nn (H.C+4) 0=some (148,[.lit (.int .i64 g),.M ns.length (aL ns),.V (H.C+2) 0 0 ns.length 1,.V (H.C+3) 0 0 ns.length 1,.lit (.slice none 0 0)]):=ag h.b4
def BX {S:Nat->Prop}{nx:Nat}(ns:List S3):Fz S H nx (.M ns.length (aL ns)) (.M ns.length (aL ns)):=by
 refine .M rfl fun i hi _=>?_;have:∀(l:List S3) (c:S1),c∈aL l->Fz S H nx c c:=by
  intro l c hc;unfold aL at hc;obtain⟨r,hr,hc⟩:=RA.1 hc;obtain⟨x,_,rfl⟩:=P3.1 hr;unfold S3.cells at hc;simp only[List.mem_cons,List.not_mem_nil,or_false]at hc;rcases hc with rfl|rfl|rfl
  ·exact .lit _
  ·exact .cO _
  ·exact .az _
 exact this ns _ (P4 _)
def OC (g:Int)(hg:1<=g/\g<=60)(ns:List S3)(sets:List Nat)(x:S3)(hin:kT x.F ns.length)(hsm:eC (bc ns x))(hx1:(x.O.length:Int)<2 ^ 38)(hx2:∀r∈x.O,(r.length:Int)<2 ^ 38)(H:S2)(ci si:Nat)
  (h2:H.get ci=some (.L 0 3 (ints (ay ns)))) (h3:H.get si=some (.L 0 36 (sets.map aG))) (hs:sets.length=ns.length) (K:S8->S2->Prop)
  (hK:K (.ret (.lit (.bool (jm g ns x)))) H):ae prog G0 102 [.agg [.lit (.int .i64 g),.M ns.length (aL ns),.V ci 0 0 ns.length 1,.V si 0 0 ns.length 1,.lit (.slice none 0 0)],.agg [.lit (.int .i64 x.J),.M x.F.length (ints x.F),az x.O]] H K:=by
 refine(ae.frame (H:=H) (args:=[.agg [.lit (.int .i64 g),.M ns.length (aL ns),.V ci 0 0 ns.length 1,.V si 0 0 ns.length 1,.lit (.slice none 0 0)],.agg [.lit (.int .i64 x.J),.M x.F.length (ints x.F),az x.O]]) (args':=[.agg [.lit (.int .i64 g),cG ns,af (ay ns),eZ sets,.lit (.slice none 0 0)],pW x]) (v':=.lit (.bool (jm g ns x))) aZ rfl (fun i hi _=>?_) (Ow g hg ns sets x hin hsm hx1 hx2 bZ _ ⟨_,rfl,.lit _⟩)).mono ?_
 ·match i,hi with
  |0,_ =>
   refine .agg rfl fun i hi _=>?_
   match i,hi with
   |0,_=>exact .lit _
   |1,_=>exact BX _
   |2,_ =>
    have:=Fz.tG (nx:=0) h2 (n:=ns.length) (by rw[aY,fL]) (fun c hc=>by
     obtain⟨z,_,rfl⟩:=P3.1 hc;exact⟨_,rfl⟩)
    show Fz _ _ _ _ (.M (ay ns).length (ints (ay ns)));rw[fL];exact this
   |3,_ =>
    have:=Fz.tG (nx:=0) h3 (n:=ns.length) (by simp[hs]) (fun c hc=>by
     obtain⟨z,_,rfl⟩:=P3.1 hc;exact⟨_,rfl⟩)
    show Fz _ _ _ _ (.M sets.length (sets.map aG));rw[hs];exact this
   |4,_=>exact .lit _
  |1,_ =>
   refine .agg rfl fun i hi _=>?_
   match i,hi with
   |0,_=>exact .lit _
   |1,_=>exact .cO _
   |2,_=>exact .az _
 ·rintro r H' ⟨rfl,rfl⟩;exact hK
def OD (hx:ns[k]?=some x)(h0:∀q∈x.F,0<=q)(hm:(k:Int)∈x.F):¬jM (aX ns):=fun h=>by
 have hk:=aI (jW hx);have:=h k hk;rw[cw (jW hx)]at this;have h1:=wJ (aX ns) (aX ns).length (bj x.F) k (by rw[ji h0];exact QD hm);unfold fw at this;rw[h1]at this;cases this
def OE (g:Int)(ns:List S3)(hf:nM ns)(H:S2)(K:S8->S2->Prop)(hK:K (.ret (if kU g ns then .nc [xk g ns,aa 0] else .nc [xj,aa 50])) H):ae prog G0 87 [bS g ns] H K:=by
 refine ae.nl ⟨_,func87,rfl,rfl⟩ fun hcl=>?_;have no:¬To g ns->∀H',S6 H H'->av prog G0 H K (.nc [.agg [.lit (.int .i64 0),.lit (.slice none 0 0),.lit (.slice none 0 0),.lit (.slice none 0 0),.lit (.slice none 0 0)],.lit (.int .i64 50)]) H':=fun h H' ov=>by
  rw[pU h]at hK;refine av.bQ (v':=.nc [xj,aa 50]) aZ hcl ov (.nc rfl fun i hi _=>?_) hK
  match i,hi with
  |0,_ =>
   refine .agg rfl fun i hi _=>?_
   match i,hi with
   |0,_=>exact .lit _
   |1,_=>exact .nil
   |2,_=>exact .nil
   |3,_=>exact .nil
   |4,_=>exact .nil
  |1,_=>exact .lit _
 refine ae.st (n:=140) (rs:=[.cell 2 148,.tmp 3]) func87 ?_;simp only[go_sem,bS,cG];have l1:=ag (cS H (.L 0 64 [.lit (.int .i64 g),.M ns.length (aL ns)]) [.L 0 148 [.lit (.int .i64 0),.lit (.slice none 0 0),.lit (.slice none 0 0),.lit (.slice none 0 0),.lit (.slice none 0 0)]]);by_cases c1:g<1
 ·simp only[go_sem,c1];exact no (fun h=>by have:=h.g1;omega) _ (.ext _ _)
 by_cases c2:g > 60
 ·simp only[go_sem,l1,c1,c2];exact no (fun h=>by have:=h.g1;omega) _ (.ext _ _)
 by_cases c3:(ns.length:Int)<1
 ·simp only[go_sem,l1,c1,c2,c3];exact no (fun h=>by have:=h.n1;omega) _ (.ext _ _)
 by_cases c4:(ns.length:Int) > 8
 ·simp only[go_sem,l1,c1,c2,c3,c4];exact no (fun h=>by have:=h.n1;omega) _ (.ext _ _)
 simp only[go_sem,l1,c1,c2,c3,c4];refine W.dr 11 [0,0,2,6,14,0,32,96,224,511,0] mixed ?_;simp only[go_sem,l1]
 repeat (refine And.intro (by first|omega|(simp;done)|(simp;omega)|(intros;omega)|exact⟨rfl,U,U,jD _⟩) ?_)
 obtain⟨Hb,hHb⟩:∃Hb,Hb=ext (ext H [.L 0 64 [.lit (.int .i64 g),.M ns.length (aL ns)],.L 0 148 [.lit (.int .i64 0),.lit (.slice none 0 0),.lit (.slice none 0 0),.lit (.slice none 0 0),.lit (.slice none 0 0)],.L 0 3 (List.replicate ns.length (.lit (.int .i64 0))),.L 0 36 (List.replicate ns.length (.lit (.int .u64 0)))]) [.L 0 148 [.lit (.int .i64 g),.M ns.length (aL ns),.V (H.C+2) 0 0 ns.length 1,.V (H.C+3) 0 0 ns.length 1,.lit (.slice none 0 0)]]:=⟨_,rfl⟩
 rw[<- hHb];have R0:Tx g ns H Hb (List.replicate ns.length 0) (List.replicate ns.length 0):=by
  rw[hHb,jG];exact⟨by simp[bB],.ext _ _,cS ..,dT H _ 1 SX,by rw[dT H _ 2 SX];simp[ints,aa],by rw[dT H _ 3 SX];simp[aG],dT H _ 4 SX,SX,SX⟩
 have hcard:∀ {k:Nat},(∀x∈ns.take k,1<=x.J/\x.J<=4)->eC ((ay ns).take k):=fun {k} h=>pV (by simp[ay];omega) fun c hc=>by
  rw[show (ay ns).take k=ay (ns.take k) by simp[ay]]at hc;obtain⟨y,hy,rfl⟩:=P3.1 hc;exact h y hy
 refine W.aS 37778930737057254867176 (by rfl) (fun ρ H'=>∃(k:Nat) (c:List Int),ρ 50=aa k/\k<=ns.length/\ρ 5=aa (aK ((ay ns).take k))/\Tx g ns H H' c (List.replicate ns.length 0)/\Hb.C<=H'.C/\c.take k=(ay ns).take k/\∀x∈ns.take k,1<=x.J/\x.J<=4) (fun ρ H=>ns.length-(iv (ρ 50)).toNat) ?_ ?_
 ·simp only[go_sem];exact⟨0,_,rfl,U,by simp[kJ],R0,SX⟩
 rintro ρ H' ⟨k,c,h50,hk,h5,R,hn,hc,hall⟩;refine W.vs ?_;have q0:=R.l0;have q1:=R.l1;have q2:=R.l2;have q4:=R.l4;have rn:=R.nx;by_cases hb:(k:Int)<ns.length
 ·obtain⟨x,hx⟩:=aw (l:=ns) (i:=k) U;have hxm:=PA hx;have hne:=eo hx;have e0:=nD hx;have e1:k*3+3<=(aL ns).length:=by rw[gG];omega
  have R2:=R.over (.ext H' [.L 0 83 [.lit (.int .i64 x.J),.M x.F.length (ints x.F),az x.O]]);have p1:=R2.l1;have p2:=R2.l2;have p4:=R2.l4;have nb1:¬H.C+1=H'.C:=U
  have nb2:¬H.C+2=H'.C:=U
  have nb4:¬H.C+4=H'.C:=U
  by_cases d1:x.J<1
  ·simp only[go_sem,h50,p1,hb,hne,e0,e1,d1];exact no (fun h=>by have:=(h.node x hxm).1;omega) _ (R2.ov.upd U _)
  by_cases d2:x.J > 4
  ·simp only[go_sem,h50,p1,hb,hne,e0,e1,d1,d2];exact no (fun h=>by have:=(h.node x hxm).1;omega) _ (R2.ov.upd U _)
  have hall':∀y∈ns.take (k+1),1<=y.J/\y.J<=4:=fun y hy=>by
   rw[aT hx]at hy;rcases PT.1 hy with hy|hy
   ·exact hall y hy
   ·obtain rfl:=List.mem_singleton.1 hy;exact⟨U,U⟩
  have b2:=(hcard hall').prod;rw[aT (dp hx),fI]at b2;have w1:=PD ((k:Int)+1) U;have w2:=PD (aK ((ay ns).take k)*x.J) U;have hkc:k<c.length:=by rw[R.cl];omega
  have p0:∀b,((ext H' [.L 0 83 [.lit (.int .i64 x.J),.M x.F.length (ints x.F),az x.O]]).upd (H.C+2) b).nn H'.C 0=some (83,[.lit (.int .i64 x.J),.M x.F.length (ints x.F),az x.O]):=fun b=>by
   rw[qd U];exact ag cf
  simp only[go_sem,h50,h5,p2,p4,p0,hb,hne,e0,e1,d1,d2,w1,w2];exact⟨U,by rw[ar,bB];omega,⟨k+1,_,SX,U,by rw[aT (dp hx),fI],R2.Oz hkc x.J,by rw[ar,bB];omega,OQ hc hkc (dp hx),fun y hy=>hall' y hy⟩,U⟩
 have ek:k=ns.length:=U
 subst ek;rw[PF S0]at hall;rw[PF (by rw[fL];omega)]at h5;have ec:c=ay ns:=by
  rw[PF (by rw[R.cl];omega),PF (by rw[fL];omega)]at hc;exact hc
 subst ec;by_cases c5:aK (ay ns) > 1024
 ·simp only[go_sem,h50,h5,q1,hb,c5];exact no (fun h=>by have:=h.size;omega) _ (R.ov.upd U _)
 simp only[go_sem,h50,h5,q4,hb,c5];refine W.aS 340282366920933627760096148915069392648 (by rfl) (fun ρ' H2=>∃(k:Nat) (s:List Nat),ρ' 82=aa k/\k<=ns.length/\Tx g ns H H2 (ay ns) s/\H'.C<=H2.C/\s.take k=(aX ns).take k/\(∀j,k<=j->s.getD j 0=0)/\∀x∈ns.take k,bG x.F ns.length/\fa g ns x) (fun ρ' H=>ns.length-(iv (ρ' 82)).toNat) ?_ ?_
 ·simp only[go_sem];refine⟨0,_,rfl,U,R,rfl,fun j _=>?_,SX⟩;rw[Qh,RZ];split<;>rfl
 rintro ρ' H2 ⟨k,s,h82,hk2,R2,hn2,hs,hs0,hall2⟩;refine W.vs ?_;have r2:=R2.nx;have q4:=R2.l4;by_cases hb2:(k:Int)<ns.length;rotate_left
 ·have es:s=aX ns:=by
   rw[PF (by rw[R2.sl];omega),PF (by simp[aX];omega)]at hs;exact hs
  subst es;rw[PF U]at hall2;have hlt:∀p∈aX ns,p<2 ^ ns.length:=tE fun x hx q hq=>(hall2 x hx).1.2 q hq;have hsl:(aX ns).length=ns.length:=by simp[aX]
  have hlt64:∀p∈aX ns,p<2 ^ 64:=fun p hp=>PL (hlt p hp) (P7 SY U);have hto:=AZ (ps:=aX ns) (by rw[hsl];exact hlt) U;simp only[go_sem,h82,q4,hb2];have fzs:=Fz.tG (nx:=0) R2.b3 (n:=ns.length) (by simp[R2.sl]) (fun c hc=>by
   obtain⟨z,_,rfl⟩:=P3.1 hc;exact⟨_,rfl⟩)
  refine aH.nl (Oy (aX ns) U hlt64 _ _ (by show Fz _ _ _ _ (.M (aX ns).length _);rw[hsl];exact fzs) _ ⟨trivial,?_⟩);have q1:=R2.l1;cases hso:(dM (aX ns)).isSome
  ·simp only[go_sem,q1];exact no (fun h=>by rw[hto.2 h.acyc]at hso;cases hso) _ (R2.ov.upd U _)
  have hok:To g ns:=⟨U,U,fun x hx=>⟨hall x hx,(hall2 x hx).1⟩,U,hto.1 hso,fun x hx=>(hall2 x hx).2⟩
  rw[pT hok]at hK;have q1b:∀b,(H2.upd (H.C+4) b).nn (H.C+1) 0=_:=fun b=>(qd U).trans q1;simp only[go_sem,q1b,q4];have ovf:S6 H ((H2.upd (H.C+4) (.L 0 148 [.lit (.int .i64 g),.M ns.length (aL ns),.V (H.C+2) 0 0 ns.length 1,.V (H.C+3) 0 0 ns.length 1,.M (aF ((dM (aX ns)).getD [])).length (ints (aF ((dM (aX ns)).getD [])))])).upd (H.C+1) (.L 0 148 [.lit (.int .i64 g),.M ns.length (aL ns),.V (H.C+2) 0 0 ns.length 1,.V (H.C+3) 0 0 ns.length 1,.M (aF ((dM (aX ns)).getD [])).length (ints (aF ((dM (aX ns)).getD [])))])):=(R2.ov.upd U _).upd U _;refine av.bQ (v':=.nc [xk g ns,aa 0]) aZ hcl ovf (.nc rfl fun i hi _=>?_) hK
  match i,hi with
  |1,_=>exact .lit _
  |0,_ =>
   refine .agg rfl fun i hi _=>?_
   match i,hi with
   |0,_=>exact .lit _
   |1,_=>exact BX _
   |2,_ =>
    have hg2:∀b b',((H2.upd (H.C+4) b).upd (H.C+1) b').get (H.C+2)=some (.L 0 3 (ints (ay ns))):=fun b b'=>by rw[ab,PC U,ab,PC U];exact R2.b2
    show Fz _ _ _ (.V (H.C+2) 0 0 ns.length 1) (.M (ay ns).length (ints (ay ns)));rw[<- fL ns];exact .ints (by show H.C<=_;omega) (hg2 _ _) SX fun i hi=>by simp[fS,hi]
   |3,_ =>
    have hg3:∀b b',((H2.upd (H.C+4) b).upd (H.C+1) b').get (H.C+3)=some (.L 0 36 ((aX ns).map aG)):=fun b b'=>by rw[ab,PC U,ab,PC U];exact R2.b3
    show Fz _ _ _ (.V (H.C+3) 0 0 ns.length 1) (.M (aX ns).length ((aX ns).map aG));rw[<- hsl];refine .np (by show H.C<=_;omega) (hg3 _ _) SX fun j hj h2 h'=>?_;simp only[Nat.zero_add,PK];exact .lit _
   |4,_=>exact .cO _
 obtain⟨x,hx⟩:=aw (l:=ns) (i:=k) U;have hxm:=PA hx;have hne:=eo hx;have e0:=nD hx;have e1:k*3+3<=(aL ns).length:=by rw[gG];omega
 obtain⟨f1,f2,f3⟩:=hf.2 x hxm;simp only[go_sem,h82,hb2,hne,e0,e1];obtain⟨H3,hH3⟩:∃H3,H3=ext H2 [.L 0 83 [.lit (.int .i64 x.J),.M x.F.length (ints x.F),az x.O]]:=⟨_,rfl⟩
 have R3:Tx g ns H H3 (ay ns) s:=by rw[hH3];exact R2.over (.ext _ _)
 have nn:H3.C=H2.C+1:=hH3▸rfl
 have gN:=eS hH3
 rw[<- hH3];have hks:k<s.length:=by rw[R2.sl];omega
 have s0:s.set k 0=s:=by
  apply Qn;intro i;rw[Rw];split
  ·rename_i h;subst h;have:=hs0 k S0;rw[Qh,PB hks]at this;simp only[Option.getD_some]at this;rw[PB hks,this]
  ·rfl
 refine W.aS 5316911981901723452329847966222259208 (by rfl) (fun ρ2 H4=>∃(j:Nat) (b:Int),ρ2 90=aa j/\j<=x.F.length/\ρ2 10=aa b/\bG (x.F.take j) ns.length/\(x.F.take j).getLast?.getD (-1)=b/\Tx g ns H H4 (ay ns) (s.set k (bj (x.F.take j)))/\H3.C<=H4.C/\H4.get H2.C=some (.L 0 83 [.lit (.int .i64 x.J),.M x.F.length (ints x.F),az x.O])/\¬(k:Int)∈x.F.take j)
  (fun ρ2 H=>x.F.length-(iv (ρ2 90)).toNat) ?_ ?_
 ·simp only[go_sem];exact⟨0,-1,rfl,U,rfl,.nil,rfl,by rw[show bj (x.F.take 0)=0 from rfl,s0];exact R3,gN,SX⟩
 rintro ρ2 H4 ⟨j,b,h90,hj,h10,hp,hbl,R4,hn4,gN4,hself⟩;refine W.vs ?_;have r4:=R4.nx;have t1:=R4.l1;have t3:=R4.l3;have t4:=R4.l4;have tN:=ag gN4;by_cases hb3:(j:Int)<x.F.length
 ·obtain⟨a,ha⟩:=aw (l:=x.F) (i:=j) U;have ham:=PA ha;have hane:=bg ha;by_cases d1:a<=b
  ·simp only[go_sem,h90,h10,hb3,ha,hane,d1,t1];refine no (fun h=>?_) _ (R4.ov.upd U _);have hpl:=(h.node x hxm).2;have h0:=hpl.2 a ham;rcases QN j with rfl|hk0
   ·simp at hbl;omega
   ·obtain⟨i,rfl⟩:∃i,j=i+1:=⟨j-1,U⟩
    obtain⟨b',hbj⟩:=aw (l:=x.F) (i:=i) U;rw[pR hbj]at hbl;have:=hpl.lt hbj ha U;simp at hbl;omega
  by_cases d2:a >= ns.length
  ·simp only[go_sem,h90,h10,hb3,ha,hane,d1,d2,t1,t4];exact no (fun h=>by have:=(h.node x hxm).2.2 a ham;omega) _ (R4.ov.upd U _)
  have h0:0<=a:=by
   rcases hg:(x.F.take j).getLast? with _|b'
   ·rw[hg]at hbl;simp at hbl;omega
   ·rw[hg]at hbl;have:=hp.2 b' (SO hg);simp at hbl;omega
  by_cases d3:a=k
  ·have d1':¬(k:Int)<=b:=U;have d2':¬(k:Int) >= ns.length:=U;simp only[go_sem,h90,h10,hb3,ha,hane,d1',d2',d3,t1,t4];exact no (fun h=>OD hx (fun q hq=>((h.node x hxm).2.2 q hq).1) (by rw[<- d3];exact ham) h.acyc) _ (R4.ov.upd (id:=H.C+1) U _)
  obtain⟨u,rfl⟩:=PP h0;have w1:=PD ((j:Int)+1) U;have bm:bj (x.F.take j)<2 ^ 64:=kK fun p hp'=>by have:=hp.2 p hp';omega
  have v1:=fun t x y=>hZ (P:=prog) (t:=t) (x:=x) (y:=y) (k':=.i64) (s:=u) U;have v2:=fun t x y=>fb (P:=prog) (t:=t) (x:=x) (y:=y) (b:=2 ^ u) bm (Qk SY U);have gs:(s.set k (bj (x.F.take j)))[k]?=some (bj (x.F.take j)):=PO hks;simp only[go_sem,h90,h10,hb3,ha,hane,d1,d2,d3,t4];refine W.dr 7 [0,1,0,7,15,0,32] mixed ?_;simp only[go_sem,h90,hb2,t3,t4,gs,v1,v2,w1]
  repeat (refine And.intro (by first|omega|(simp;done)|(simp;omega)|(intros;omega)|exact⟨rfl,U,U,jD _⟩) ?_)
  have R5:=R4.OB (k:=k) (by simpa using hks) (bj (x.F.take j) |||2 ^ u);rw[RD]at R5;have esn:bj (x.F.take (j+1))=bj (x.F.take j) |||2 ^ u:=by rw[aT ha,sV];rfl
  refine⟨by rw[ar];omega,⟨j+1,u,SX,U,rfl,?_,by rw[pR ha];rfl,by rw[esn];exact R5,by rw[ar];omega,by rw[ab,PC U];exact gN4,fun hm=>?_⟩,U⟩
  ·rw[aT ha];exact hp.snoc ⟨U,U⟩ fun b' hb'=>by rw[hb']at hbl;simp at hbl;omega
  ·rw[aT ha]at hm;rcases PT.1 hm with hm|hm
   ·exact hself hm
   ·exact d3 (List.mem_singleton.1 hm).symm
 ·have hb3':=hb3;rw[PF U]at hp hself R4;simp only[go_sem,h90,hb3,t4,tN];have hin:kT x.F ns.length:=fun q hq=>by have:=hp.2 q hq;omega
  refine aH.nl (OC g ⟨U,U⟩ ns _ x hin (lY U hp hall) f2 f3 _ (H.C+2) (H.C+3) R4.b2 R4.b3 R4.sl _ ⟨trivial,?_⟩);cases hnb:jm g ns x
  ·simp only[go_sem,t1];exact no (fun h=>by rw[BU (h.O x hxm)]at hnb;cases hnb) _ (R4.ov.upd U _)
  have w1:=PD ((k:Int)+1) U;simp only[go_sem,h82,w1];refine⟨U,⟨k+1,_,SX,U,R4,U,?_,fun i hi=>?_,fun y hy=>?_⟩,U⟩
  ·have h1:=jW hx;rw[aT h1,aT (PO hks),RP (Nat.le_refl k),hs]
  ·rw[Qh,PY U,<- Qh];exact hs0 i (U)
  ·rw[aT hx]at hy;rcases PT.1 hy with hy|hy
   ·exact hall2 y hy
   ·obtain rfl:=List.mem_singleton.1 hy;exact⟨hp,Ov.1 hnb⟩
def OF (g:Int)(ns:List S3)(hf:nM ns)(H:S2)(K:S8->S2->Prop)(hK:K (.ret (aa (if kU g ns then 0 else 50))) H):ae prog G0 47 [bS g ns] H K:=by
 refine ae.nl ⟨_,func47,rfl,rfl⟩ fun hcl=>?_;refine ae.st (n:=11) (rs:=[.tmp 2]) func47 ?_;simp only[go_sem,bS,cG];refine aH.nl (OE g ns hf _ _ ⟨trivial,?_⟩);cases hb:kU g ns
 ·rw[hb]at hK;simp only[go_sem,xj,List.length_nil];exact av.bQ aZ hcl (.ext _ _) (.lit _) hK
 ·rw[hb]at hK;simp only[go_sem,xk,cG];exact av.bQ aZ hcl (.ext _ _) (.lit _) hK
def dk (D v:Nat):List Nat := (List.range v).filter fun v => D.testBit v
def cM (D v:Nat):Nat := (dk D v).length
def aC (d:S5):List Nat := dk d.Z d.I.length
def sY (D v:Nat):dk D (v + 1)=if D.testBit v then dk D v ++ [v] else dk D v := by
  unfold dk;rw[QV,List.filter_append];cases h:D.testBit v <;> simp[h]
def MC :∀ {n:Nat},v <= n -> ∃r,dk D n=dk D v ++ r := by
  intro n
  induction n with
  | zero => intro h; obtain rfl : v = 0 := by omega
            exact⟨[],SX⟩
  |succ n ih =>
    intro h;by_cases hv:v=n + 1
    · subst hv;exact⟨[],SX⟩
    · obtain⟨r,hr⟩ := ih U;rw[sY];split
      · exact⟨r ++ [n],by rw[hr,List.append_assoc]⟩
      · exact⟨r,hr⟩
def sZ (hv:v < n)(hb:D.testBit v=true):(dk D n)[cM D v]? = some v := by
  obtain⟨r,hr⟩ := MC (D := D) (v := v + 1) (n := n) hv;rw[hr,sY,PG hb,List.append_assoc];unfold cM;simp
def s7 (D v:Nat):cM D (v + 1)=if D.testBit v then cM D v + 1 else cM D v := by
  unfold cM;rw[sY];split <;> simp
def wL :v ∈ dk D n ↔ v < n /\ D.testBit v=true := by unfold dk;simp
def nF (h:(dk D n)[k]? = some v):v < n /\ D.testBit v=true /\ cM D v=k := by
  have hm := wL.1 (PA h);refine⟨hm.1,hm.2,?_⟩;have h2 := sZ hm.1 hm.2;have hnd:(dk D n).Nodup := Sv.filter _;have a := aI h;have b := aI h2;rw[PB a]at h;rw[PB b]at h2;have e:(dk D n)[cM D v]=(dk D n)[k] := by rw[Option.some.inj h,Option.some.inj h2]
  exact(List.getElem_inj hnd).1 e
def pK :(dk D n).length <= n := by
  have := SK (fun v => D.testBit v) (List.range n);unfold dk;simpa using this
def aR (g J x:Int):List Int := (List.replicate J.toNat 0).set x.toNat g
def cZ (ns:List S3)(x:S3):Nat := (aK (bc ns x)).toNat
def eL (g:Int)(ns:List S3)(c:Nat -> Nat -> Int)(p:Nat)(x:S3):List (List Int) := (List.range (cZ ns x)).map fun r => aR g x.J (c p r)
def fK (d:S5)(c:Nat -> Nat -> Int)(k v:Nat)(x:S3):S3 := if d.Z.testBit v=true /\ cM d.Z v < k then { x with O := x.O ++ eL d.X d.I c (cM d.Z v) x } else x
def cN (d:S5)(c:Nat -> Nat -> Int)(k:Nat):List S3 := d.I.zipIdx.map fun p => fK d c k p.2 p.1
def dY (d:S5)(c:Nat -> Nat -> Int):List S3 := cN d c (aC d).length
def iK (d:S5)(c:Nat -> Nat -> Int)(k:Nat):(cN d c k).length=d.I.length := by simp[cN]
def kO {c:Nat -> Nat -> Int}(h:d.I[v]? = some x):(cN d c k)[v]? = some (fK d c k v x) := by
  unfold cN;rw[List.getElem?_map,Re,h];simp
def MD (d:S5)(c:Nat -> Nat -> Int):cN d c 0=d.I := by
  apply Qn;intro v;cases h:d.I[v]? with
  |none => rw[PN];rw[iK];exact QU.1 h
  |some x => rw[kO h];simp[fK]
def ME {c:Nat -> Nat -> Int}(hd:(aC d)[k]? = some v)(hx:d.I[v]? = some x):cN d c (k + 1)=(cN d c k).set v { x with O := x.O ++ eL d.X d.I c k x } := by
  obtain⟨h1,h2,h3⟩ := nF hd;apply Qn;intro u;rw[Rw];split
  · rename_i h;subst h;rw[kO hx,PG (by rw[iK];exact h1)];unfold fK;rw[PG ⟨h2,U⟩,h3]
  · rename_i h;cases hu:d.I[u]? with
    |none => rw[PN (by rw[iK];exact QU.1 hu),PN (by rw[iK];exact QU.1 hu)]
    |some y =>
      rw[kO hu,kO hu];unfold fK;by_cases hb:d.Z.testBit u=true
      · have : cM d.Z u ≠ k := fun e => by
          have h4 := sZ (aI hu) hb;rw[e]at h4;have h5:(dk d.Z d.I.length)[k]? = some v := hd;rw[h4]at h5;exact h (Option.some.inj h5).symm
        have e:(cM d.Z u < k + 1)=(cM d.Z u < k) :=(by apply propext;omega);simp only[e]
      · simp[hb]
def MF {c:Nat -> Nat -> Int}:ay (cN d c k)=ay d.I := by
  apply Qn;intro v;unfold ay;rw[List.getElem?_map,List.getElem?_map];cases h:d.I[v]? with
  |none => rw[PN (by rw[iK];exact QU.1 h)]
  |some x =>
    rw[kO h];simp only[Option.map_some,fK];split <;> rfl
def lO (d:S5)(c:Nat -> Nat -> Int)(k v:Nat)(x:S3):(fK d c k v x).J=x.J /\ (fK d c k v x).F=x.F := by unfold fK;split <;> exact⟨rfl,rfl⟩
def dN (d:S5):List S1:=[.lit (.int .i64 d.X),.M d.I.length (aL d.I),.lit (.int .u64 (d.Z:Int)),.M d.Q.length (aP d.Q)]
def nL (d:S5):iH d=.agg (dN d):=rfl
def kS (d:S5):S7:=.L 0 39 (dN d)
def jU (d:S5):List (List S1):=(aC d).zipIdx.map fun p=>[aa p.2,aa p.1]
def tw {x:List S1}(h:(jU d)[k]?=some x):∃v,(aC d)[k]?=some v/\x=[aa k,aa v]:=by
 unfold jU at h;rw[List.getElem?_map,Re]at h;cases hr:(aC d)[k]? with
 |none=>rw[hr]at h;simp at h
 |some r=>rw[hr]at h;simp at h;exact⟨r,rfl,h.symm⟩
def N5 (h:(aC d)[k]?=some v):(jU d)[k]?=some [aa k,aa v]:=by
 unfold jU;rw[List.getElem?_map,Re,h];simp
def tx (d:S5):(jU d).length=(aC d).length:=by simp[jU]
def wX :∀x∈jU d,x.length=2:=fun x hx=>by
 obtain⟨k,hk⟩:=PU.1 hx;obtain⟨v,_,rfl⟩:=tw hk;rfl
def wY (d:S5)(hl:(d.I.length:Int)<2 ^ 40)(hD:d.Z<2 ^ 64)(b:Nat):xt prog G0 89 [] [.Y b 0 0] (jU d) (fun H=>H.get b=some (kS d)):=by
 intro idy J Stop H K hS hJ0 hY hK hSt;have l0:=ag (hS 0 H hJ0);show ae _ _ _ ([.ng idy]++[.Y b 0 0]) _ _;refine ae.st (n:=25) (rs:=[]) func89 ?_;simp only[go_sem,l0,dN];refine W.aS 33554200 (by rfl) (fun ρ H'=>∃v:Nat,ρ 8=aa v/\v<=d.I.length/\ρ 3=aa (cM d.Z v)/\J (cM d.Z v) H'/\H.C<=H'.C) (fun ρ H=>d.I.length-(iv (ρ 8)).toNat) ?_ ?_
 ·simp only[go_sem];exact⟨0,rfl,U,rfl,hJ0⟩
 rintro ρ H' ⟨v,h8,hv,h3,hj,hn⟩;refine W.vs ?_;by_cases hb:(v:Int)<d.I.length
 ·have l1:=ag (hS _ _ hj);have s1:=fun t x y=>kW (P:=prog) (t:=t) (x:=x) (y:=y) (k':=.i64) (s:=v) hD;have s2:=fun t x y=>qc (P:=prog) (t:=t) (x:=x) (y:=y) (s:=v) hD;have w1:=PD ((v:Int)+1) U;have hp:cM d.Z v<=v:=by
   have:(dk d.Z v).length<=v:=pK;exact this
  have w2:=PD ((cM d.Z v:Int)+1) U;cases hbit:d.Z.testBit v
  ·simp only[go_sem,h8,h3,hb,l1,dN,s1,s2,hbit,w1];exact⟨hn,⟨v+1,SX,U,by rw[s7,hbit];rfl,by rw[s7,hbit];exact hj,hn⟩,U⟩
  ·have hdx:(jU d)[cM d.Z v]?=some [aa (cM d.Z v),aa v]:=N5 (sZ U hbit);simp only[go_sem,h8,h3,hb,l1,dN,s1,s2,hbit];refine hY _ _ H' _ hdx hj hn (fun H2 hj2 hn2=>⟨trivial,?_⟩) (fun H2 hs2 hn2=>⟨trivial,?_⟩)
   ·simp only[go_sem,h8,h3,w1,w2];exact⟨U,⟨v+1,SX,U,by rw[s7,hbit];simp,by rw[s7,hbit];exact hj2,U⟩,U⟩
   ·simp only[go_sem];exact av.mk U (hSt H2 hs2 U)
 ·simp only[go_sem,h8,hb];have ek:v=d.I.length:=U
  subst ek;exact av.mk U (hK H' (by rw[tx];exact hj) hn)
def wZ (d:S5)(H:S2)(K:S8->S2->Prop)(hK:K (.ret (.nl 89 [] [.Y H.C 0 0])) (ext H [kS d])):
  ae prog G0 51 [iH d] H K:=by
 refine ae.st (n:=4) (rs:=[.tmp 2]) func51 ?_;simp only[go_sem,nL,dN];exact av.mk (by simp[bB]) hK
def N6 {J x:Int}(hc:0<=J)(h:0<=x/\x<J):setAt (ints (List.replicate J.toNat 0)) x.toNat [.lit (.int .i64 g)]=ints (aR g J x):=by
 rw[jl (by simp;omega)];rfl
def N7 (g J x:Int)(hc:J<=2 ^ 40)(h:0<=x/\x<J)(H:S2)(K:S8->S2->Prop)(hK:K (.ret (af (aR g J x))) H):ae prog G0 88 [aa g,aa J,aa x] H K:=by
 refine ae.nl ⟨_,func88,rfl,rfl⟩ fun hcl=>?_;obtain⟨n,rfl⟩:=PP (show 0<=J by omega);obtain⟨k,rfl⟩:=PP h.1;have h0:((n:Int)) >= 0:=U
 have hk:(k:Int)<n:=h.2;have hk2:k+1<=n:=U
 refine ae.st (n:=15) (rs:=[.tmp 6]) func88 ?_;simp only[go_sem,hk]
 repeat (refine And.intro (by first|omega|(simp;done)|(simp;omega)|(intros;omega)|exact⟨rfl,U,U,jD _⟩) ?_)
 have e:=N6 (g:=g) (J:=n) (x:=k) U h;simp only[Int.toNat_natCast]at e;rw[show (List.replicate n (S1.lit (Value.int IntKind.i64 0)))=ints (List.replicate n 0) by simp[ints,aa],e];refine av.bQ aZ hcl (.ext _ _) ?_ hK;exact .ints S0 (cS ..) (by simp[aR]) fun i hi=>by simp[fS,hi]
def N8 (a b:S1)(H:S2)(K:S8->S2->Prop)(hK:K (.ret (aa 0)) H):ae prog G0 49 [a,b] H K:=by
 refine ae.st (n:=5) (rs:=[.tmp 4]) func49 ?_;simp only[go_sem];exact av.mk S0 hK
noncomputable def iP (p:Prop):Bool:=@decide p (Classical.propDecidable p)
def fB (h:p):iP p=true:=@decide_eq_true _ (Classical.propDecidable _) h
def ga (h:¬p):iP p=false:=@decide_eq_false _ (Classical.propDecidable _) h
structure Te (d:S5):Prop where
 n1:1<=d.I.length/\d.I.length<=8
 Z:d.Z >>> d.I.length=0
 J:∀x∈d.I,1<=x.J/\x.J<=4
 dec:∀v x,d.I[v]?=some x->d.Z.testBit v=true->x.O=[]/\bG x.F d.I.length
structure Th (d:S5):Prop where
 I:nM d.I
 Z:d.Z<2 ^ 64
 Q:(d.Q.length:Int)<2 ^ 38/\∀u∈d.Q,(u.vars.length:Int)<2 ^ 38/\(u.w.length:Int)<2 ^ 38
def N9 (d:S5)(hf:Th d)(H:S2)(K:S8->S2->Prop)(hK:K (.ret (.lit (.bool (iP (Te d))))) H):ae prog G0 46 [iH d] H K:=by
 refine ae.nl ⟨_,func46,rfl,rfl⟩ fun hcl=>?_;have hl:=hf.I.1;have no:¬Te d->∀H',S6 H H'->av prog G0 H K (.lit (.bool false)) H':=fun h H' ov=>av.bQ aZ hcl ov (.lit _) (by rw[ga h]at hK;exact hK);refine ae.st (n:=67) (rs:=[.cell 2 4]) func46 ?_;simp only[go_sem,nL,dN];obtain⟨H1,hH1⟩:∃H1,H1=ext H [.L 0 39 (dN d),.L 0 4 [.lit (.bool false)]]:=⟨_,rfl⟩
 have g1:=eS hH1
 have g2:=gE hH1 1 rfl
 have l1:=ag g1;have l2:=ag g2;have n1:H1.C=H.C+2:=hH1▸rfl
 have o1:S6 H H1:=hH1▸.ext _ _
 unfold dN at hH1 l1;rw[<- hH1];have s1:=fun t x y=>kW (P:=prog) (t:=t) (x:=x) (y:=y) (k':=.i64) (s:=d.I.length) hf.Z;by_cases c1:(d.I.length:Int)<1
 ·simp only[go_sem,l2,c1];exact no (fun h=>by have:=h.n1;omega) _ (o1.upd U _)
 by_cases c2:(d.I.length:Int) > 8
 ·simp only[go_sem,l1,l2,c1,c2];exact no (fun h=>by have:=h.n1;omega) _ (o1.upd U _)
 by_cases c3:d.Z >>> d.I.length=0;rotate_left
 ·have c3':¬((d.Z >>> d.I.length:Nat):Int)=0:=U
  simp only[go_sem,l1,l2,c1,c2,c3',s1];exact no (fun h=>c3 h.Z) _ (o1.upd U _)
 have c3':((d.Z >>> d.I.length:Nat):Int)=0:=U
 simp only[go_sem,l1,c1,c2,c3',s1];refine W.aS 4397509640208 (by rfl) (fun ρ H'=>∃k:Nat,ρ 29=aa k/\k<=d.I.length/\S6 H1 H'/\∀x∈d.I.take k,1<=x.J/\x.J<=4) (fun ρ H=>d.I.length-(iv (ρ 29)).toNat) ?_ ?_
 ·simp only[go_sem];exact⟨0,rfl,U,.refl _,SX⟩
 rintro ρ H' ⟨k,h29,hk,ov,hall⟩;refine W.vs ?_;have ovn:=ov.C;have m1:=(ov.nn (g:=0) (by omega:H.C<H1.C)).trans l1;have m2:=(ov.nn (g:=0) (by omega:H.C+1<H1.C)).trans l2;by_cases hb:(k:Int)<d.I.length
 ·obtain⟨x,hx⟩:=aw (l:=d.I) (i:=k) U;have hxm:=PA hx;have hne:=eo hx;have e0:=nD hx;have e1:k*3+3<=(aL d.I).length:=by rw[gG];omega
  have nb:¬H.C+1=H'.C:=U
  have m3:∀L,(ext H' L).nn (H.C+1) 0=_:=fun L=>(dU U).trans m2;by_cases d1:x.J<1
  ·simp only[go_sem,h29,m3,hb,hne,e0,e1,d1];exact no (fun h=>by have:=h.J x hxm;omega) _ (((o1.trans ov).trans (.ext _ _)).upd U _)
  by_cases d2:x.J > 4
  ·simp only[go_sem,h29,m3,hb,hne,e0,e1,d1,d2];exact no (fun h=>by have:=h.J x hxm;omega) _ (((o1.trans ov).trans (.ext _ _)).upd U _)
  have w1:=PD ((k:Int)+1) U;simp only[go_sem,h29,hb,hne,e0,e1,d1,d2,w1];exact⟨U,⟨k+1,SX,U,ov.trans (.ext _ _),fun y hy=>by
   rw[aT hx]at hy;rcases PT.1 hy with hy|hy
   ·exact hall y hy
   ·obtain rfl:=List.mem_singleton.1 hy;exact⟨U,U⟩⟩,U⟩
 rw[PF U]at hall;simp only[go_sem,h29,hb,m1];refine aH.nl (wZ d _ _ ⟨trivial,?_⟩);simp only[go_sem];obtain⟨H2,hH2⟩:∃H2,H2=ext H' [kS d]:=⟨_,rfl⟩
 rw[<- hH2];have o2:S6 H' H2:=by rw[hH2];exact .ext _ _
 have n2:H2.C=H'.C+1:=by rw[hH2];rfl
 have hbx:H2.get H'.C=some (kS d):=by rw[hH2];exact cf
 refine W.env fun E hE=>?_;have e1:E 1=.Y H.C 0 0:=by rw[hE];simp only[go_sem]
 have e2:E 2=.Y (H.C+1) 0 0:=by rw[hE];simp only[go_sem]
 have i1:=(o2.nn (g:=0) (by omega:H.C<H'.C)).trans m1;have i2:=(o2.nf _ (by omega:H.C+1<H'.C)).trans ((ov.nf _ U).trans g2);have o02:=(o1.trans ov).trans o2;refine W.tJ (f:=89) (first:=[]) (cap:=[.Y H'.C 0 0]) (by show E 43=_;rw[hE];rfl) (wY d U hf.Z H'.C)
  (fun k Hx=>S6 H2 Hx/\∀v x,v∈(aC d).take k->d.I[v]?=some x->x.O=[]/\bG x.F d.I.length) (fun c Hx=>c=.ret/\S6 H Hx/\H2.C<=Hx.C/\Hx.get (H.C+1)=some (.L 0 4 [.lit (.bool false)])/\¬Te d)
  (fun k Hx h=>by rw[h.1.nf _ U];exact hbx) (fun k Hx b h=>⟨h.1.upd S0 b,h.2⟩) (fun c Hx b h=>⟨h.1,h.2.1.upd U b,h.2.2.1,by rw[ab,PC U];exact h.2.2.2.1,h.2.2.2.2⟩)
  (fun b=>⟨.ext _ _,SX⟩) SY wX (fun _ _ _=>trivial) (fun _ _ _=>trivial) (fun k y Hx B Bb hy hj hn hB hBb=>?_) (fun Hx hj hn=>?_) (fun Hx hs hn=>?_) (fun i Hx hs hn=>by cases hs.1)
 ·obtain⟨v,hv,rfl⟩:=tw hy;obtain⟨v1,v2,v3⟩:=nF hv;obtain⟨x,hx⟩:=aw (l:=d.I) (i:=v) v1;refine W.vs ?_;simp only[go_sem,jE,dc,qf,Q6,Se,RI,RT,hB];obtain⟨H3,hH3⟩:∃H3,H3=Hx.upd H2.C Bb:=⟨_,rfl⟩
  rw[<- hH3];obtain⟨st,pd,n',en,ps',as',bo,hBe⟩:=hBb;have o3:S6 H2 H3:=by rw[hH3];exact hj.1.upd S0 Bb
  have o4:S6 H H3:=o02.trans o3;have n3:H3.C=Hx.C:=by rw[hH3];rfl
  have j1:=(o3.nn (g:=0) (by omega:H.C<H2.C)).trans i1;have j2:=ag ((o3.nf _ (by omega:H.C+1<H2.C)).trans i2);have jB:H3.get H2.C=some Bb:=by rw[hH3,ab,PG rfl]
  have hxm:=PA hx;obtain⟨f1,f2,f3⟩:=hf.I.2 x hxm;have hne:=eo hx;have e1':=iI hx;have e2':=sS hx;have hvn:(v:Int)<d.I.length:=U
  have stop:¬Te d->(H3.upd (H.C+1) (S7.L 0 4 [.lit (.bool false)])).get H2.C=some Bb/\Hx.C<=(H3.upd (H.C+1) (S7.L 0 4 [.lit (.bool false)])).C/\S6 H (H3.upd (H.C+1) (S7.L 0 4 [.lit (.bool false)])) /\
    H2.C<=(H3.upd (H.C+1) (S7.L 0 4 [.lit (.bool false)])).C/\(H3.upd (H.C+1) (S7.L 0 4 [.lit (.bool false)])).get (H.C+1)=some (.L 0 4 [.lit (.bool false)])/\¬Te d:=fun h =>
   ⟨by rw[ab,PC U];exact jB,by rw[ar];omega,o4.upd U _,by rw[ar];omega,by rw[ab,PG rfl],h⟩
  refine W.vs ?_;simp only[go_sem];refine W.dr 18 [0,1,0,7,15,31,63,127,255,511,1023,511,4095,8191,16383,511,33279,98815] mixed ?_;by_cases c4:(x.O.length:Int) > 0
  ·simp only[go_sem,dc,e1,e2,j1,j2,hvn,hne,e2',c4,az,gQ];exact stop fun h=>by have:=(h.dec v x hx v2).1;rw[this]at c4;simp at c4
  simp only[go_sem,dc,e1,j1,hvn,hne,e1',e2',c4,az];refine aH.nl (BK x.F d.I.length U _ _ ⟨⟨_,_,_,_,_,_,_,by rw[jB,hBe]⟩,?_⟩);by_cases c5:bG x.F d.I.length;rotate_left
  ·simp only[go_sem,dc,e2,j2,c5,gQ];exact stop fun h=>c5 (h.dec v x hx v2).2
  simp only[go_sem,dc,c5,gQ];refine⟨jB,U,o3,fun u y hu hy2=>?_⟩;rw[aT hv]at hu;rcases PT.1 hu with hu|hu
  ·exact hj.2 u y hu hy2
  ·obtain rfl:=List.mem_singleton.1 hu;rw[hx]at hy2;cases hy2;exact⟨PH U,c5⟩
 ·have hok:Te d:=⟨U,c3,hall,fun v x hx hb=>hj.2 v x (by
   rw[tx,QR];exact wL.2 ⟨aI hx,hb⟩) hx⟩
  rw[fB hok]at hK;have j2:=ag ((hj.1.nf _ (by omega:H.C+1<H2.C)).trans i2);simp only[go_sem,e2,j2];exact av.bQ aZ hcl ((o02.trans hj.1).upd U _) (.lit _) hK
 ·obtain⟨_,o4,n4,g4,hno⟩:=hs;have j2:=ag g4;simp only[go_sem,e2,j2];exact no hno _ o4
end Go.Proofs
namespace Go.Hx
variable {P:Program} {G:Nat->Option (List S1)}
variable {cs:List S1}{g k lo n nx ob rk z:Nat}{S:Nat->Prop}{v:S1}{b:S7}{e:TypeId}
def S2.dC (H:S2)(rk ob:Nat)(b:S7):S2:=⟨fun id=>if id=rk then none else if id=ob then some b else H.get id,H.C⟩
variable {H:S2}
def OS (hc:TI H){cells cells':List S1}(hob:H.get ob=some (.L g e cells))(hne:ob≠rk)(hl:cells'.length=cells.length)
  (hcell:∀i (h:i<cells.length) (h':i<cells'.length),Fz (fun id=>id=rk) H H.C cells[i] cells'[i]):TC (fun id=>id=rk) H (H.dC rk ob (.L g e cells')) where
 gone id hs:=by simp[S2.dC,hs]
 kept id b hs hb:=by
  have hbb:=hc.below id b hb;refine⟨hc.lt id b hb,?_⟩;by_cases h:id=ob
  ·subst h;rw[hob]at hb;cases hb;exact⟨.L g e cells',by simp[S2.dC,hs],rfl,rfl,hl,hcell⟩
  ·refine⟨b,by simp[S2.dC,hs,h,hb],?_⟩;cases b with
   |ni=>trivial
   |mp=>rfl
   |L g e cells=>exact⟨rfl,rfl,rfl,fun i h _=>.dead (hbb i h)⟩
   |loop st pend n env ps asg body=>exact⟨rfl,rfl,rfl,rfl,rfl,rfl,rfl,fun t ht=>.dead (hbb t ht)⟩
 none id hs hb:=by
  by_cases h:id=ob
  ·subst h;rw[hob]at hb;cases hb
  ·simp[S2.dC,hs,h,hb]
theorem bY.dC (hG:dG G){s:St}{cells cells':List S1}(hob:s.H.get ob=some (.L g e cells))(hne:ob≠rk)(hl:cells'.length=cells.length)
  (hcell:∀i (h:i<cells.length) (h':i<cells'.length),Fz (fun id=>id=rk) s.H s.H.C cells[i] cells'[i]):bY P G s ⟨s.ρ,s.H.dC rk ob (.L g e cells')⟩:=by
 intro n wb Γ a w hs;exact bY.freeze (s:=s) (s':=⟨s.ρ,s.H.dC rk ob (.L g e cells')⟩) hG (OS hs.heap.nl hob hne hl hcell) (fun t=>.dead (hs.env t).mK) n wb Γ a w hs
def OT {A B:List S1}{o o':S1}(hA:∀v,v∈A->Fz S H nx v v)(ho:Fz S H nx o o')(hB:∀v,v∈B->Fz S H nx v v):
  ∀i (h:i<(A++o :: B).length) (h':i<(A++o' :: B).length),Fz S H nx (A++o :: B)[i] (A++o' :: B)[i]:=by
 induction A with
 |nil =>
  intro i h h';cases i with
  |zero=>exact ho
  |succ i=>exact hB _ (P4 (l:=B) (by simpa using h))
 |cons a A ih =>
  intro i h h';cases i with
  |zero=>exact hA a (SX)
  |succ i=>exact ih (fun v hv=>hA v (by simp[hv])) i (by simpa using h) (by simpa using h')
def tK (h:ob≠rk):(H.dC rk ob b).get ob=some b:=by simp[S2.dC,h]
def jn {id:Nat}(h:id≠rk)(h2:id≠ob):(H.dC rk ob b).get id=H.get id:=by simp[S2.dC,h,h2]
def xu {l:List S1}{i:Nat}{a b:S1}(hl:∀v,v∈l->Fz S H nx v v)(hab:Fz S H nx a b):∀j (h:j<(l.set i a).length) (h':j<(l.set i b).length),Fz S H nx (l.set i a)[j] (l.set i b)[j]:=by
 intro j h h';rw[QY,QY];split
 ·exact hab
 ·exact hl _ (P4 _)
def W.jX {rd:Option Nat}{Q Q':AX->St->Prop}{c:Code}{s:St}(h:W P G n rd c Q' s)(hw:∀e s2,Q' e s2->∃s3,bY P G s2 s3/\s2.H.C<=s3.H.C/\dR s3.H rd/\Q e s3):W P G n rd c Q s:=by
 intro wb Γ a w rb hs hr;refine wpIn_mono (h wb Γ a w rb hs hr) fun e a' w' hp=>?_;obtain⟨x,s',Γ',hx,hq,hrel,E,hn,hrd,hfr⟩:=hp;obtain⟨s3,hw3,hn3,hri,hq3⟩:=hw x s' hq;obtain⟨Γ3,hs3,E3,hrd3⟩:=hw3 n wb Γ' a' w' hrel;exact⟨x,s3,Γ3,hx,hq3,hs3,E.trans hn E3,Qm hn hn3,hrd3 rd rb hrd hri,hfr⟩
def au.ne (h:au lo H e v cs)(hk:k<lo):∀g n,v≠.V k g 0 n 1:=fun g n he=>by
 rcases h with ⟨h,_⟩|⟨i2,g2,a1,_,h,_⟩
 ·rw[h]at he;cases he
 ·rw[h]at he;have:=S1.V.inj he;omega
def bE (lo:Nat)(H:S2)(e:TypeId)(z:Nat)(v:S1)(n:Nat)(cs:List S1):Prop :=
 (v=.lit (.slice none 0 0)/\n=0/\cs=[])\/∃id g,lo<=id/\id<H.C/\v=.V id g 0 n z/\cs.length=n*z/\H.get id=some (.L g e cs)
def bE.nil :bE lo H e z (.lit (.slice none 0 0)) 0 []:=.inl ⟨rfl,rfl,rfl⟩
variable {H':S2}
def bE.na (h:bE lo H e z v n cs)(hn:H.C<=H'.C)(hk:∀id g,lo<=id->id<H.C->v=.V id g 0 n z->H'.get id=H.get id):bE lo H' e z v n cs:=by
 rcases h with h|⟨id,g,h1,h2,h3,h4,h5⟩
 ·exact .inl h
 ·exact .inr ⟨id,g,h1,U,h3,h4,(hk id g h1 h2 h3).trans h5⟩
def bE.over (h:bE lo H e z v n cs)(ho:S6 H H'):bE lo H' e z v n cs:=h.na ho.C fun id _ _ h2 _=>ho.nf id h2
theorem bE.one (h:bE lo H e z v n cs):v.one=true:=by
 rcases h with ⟨rfl,_⟩|⟨_,_,_,_,rfl,_⟩<;>rfl
theorem bE.cells (h:bE lo H e z v n cs):v.cells=[v]:=by
 rcases h with ⟨rfl,_⟩|⟨_,_,_,_,rfl,_⟩<;>rfl
def bE.ne {m:Nat}(h:bE lo H e z v m cs)(hk:k<lo):∀g n,v≠.V k g 0 n z:=fun g n he=>by
 rcases h with ⟨h,_⟩|⟨i2,g2,a1,_,h,_⟩
 ·rw[h]at he;cases he
 ·rw[h]at he;have:=S1.V.inj he;omega
def kX {t:TypeId}{m:Nat}{xs:List S1}{zs:List S1}(ht:P.underlying t=some (.slice e))(hz:P.cellsOf e=z)(hzero:bH P e=some zs)(hx:xs.all S1.one=true)(hxl:xs.length=z)
  (hb:(n+1)*P.bytesOf e<=2 ^ 47/\n+1<=2 ^ 47) (ho:bE lo H e z v n cs) (hlo:lo<=H.C) (hn:m=H.C+1):
  ∃v' H',bf P (ext H [.L 0 e xs]) m t t v (.V H.C 0 0 1 z)=some (v',H')/\bE lo H' e z v' (n+1) (cs++xs)/\H.C<=H'.C/\(∀k,k<H.C->(∀g n,v≠.V k g 0 n z)->H'.get k=H.get k):=by
 have hne:(ext H [.L 0 e xs]).C=H.C+1:=rfl;have hsrc:bR (ext H [.L 0 e xs]) z (.V H.C 0 0 1 z)=some (1,xs):=by
  unfold bR;have:=ag (H:=ext H [.L 0 e xs]) (g:=0) (cf (b:=.L 0 e xs));simp[this,<- hxl]
 rcases ho with ⟨rfl,rfl,rfl⟩|⟨i,g,h1,h2,rfl,h4,h5⟩
 ·refine⟨.V m 0 0 1 z,ext (ext H [.L 0 e xs]) [.L 0 e xs],?_,.inr ⟨m,0,U,by rw[bB,hne,hn];simp,SX,by simp[hxl],?_⟩,by rw[bB,hne];omega,fun k hk _=>?_⟩
  ·unfold bf;rw[ht];simp only[hzero,hz,Option.bind_some];rw[hsrc];simp only[Option.bind_some];rw[PC SY,PG (by simpa using hb),qX (by rw[hn,hne])];rfl
  ·rw[hn,<- hne];exact cf
  ·rw[cE (by rw[hne];omega),cE hk]
 ·have h5':(ext H [.L 0 e xs]).get i=some (.L g e cs):=by rw[cE h2];exact h5
  refine⟨.V i (g+1) 0 (n+1) z,(ext H [.L 0 e xs]).upd i (.L (g+1) e (cs++xs)),?_,.inr ⟨i,g+1,h1,by rw[ar,hne];omega,rfl,by simp[h4,hxl,QO],by rw[ab,PG rfl]⟩,by rw[ar,hne];omega,fun k hk hne2=>?_⟩
  ·unfold bf;rw[ht];have hl:=ag h5';simp only[hzero,hz,Option.bind_some];rw[hsrc];simp only[Option.bind_some,hl];rw[PG ⟨trivial,trivial,U,hb.1,hb.2,hx⟩];simp
  ·rw[ab,PC,cE hk];rintro rfl;exact hne2 _ _ rfl
end Go.Hx
namespace Go.Proofs
open Go.Hx Try
variable {cs:List S1}{i n nx v:Nat}{S e:Nat->Prop}{H H':S2}{d:S5}
def aU (x:S3):S1:=if x.O=[] then .lit (.slice none 0 0) else az x.O
def S3.eg (x:S3):List S1:=[aa x.J,af x.F,aU x]
def aJ (l:List S3):List S1:=(l.map S3.eg).flatten
def dZ (l:List S3):(aJ l).length=l.length*3:=jh (f:=S3.eg) (fun _=>rfl) l
variable {l:List S3}{x:S3}
def gI (h:l[i]?=some x):(aJ l)[i*3]?=some (aa x.J):=gF (f:=S3.eg) (z:=3) (fun _=>rfl) l i 0 x h (U)
def hJ (h:l[i]?=some x):(aJ l)[i*3+1]?=some (af x.F):=gF (f:=S3.eg) (z:=3) (fun _=>rfl) l i 1 x h (U)
def iL (h:l[i]?=some x):(aJ l)[i*3+2]?=some (aU x):=gF (f:=S3.eg) (z:=3) (fun _=>rfl) l i 2 x h (U)
def wM (l:List S3)(x:S3):aJ (l++[x])=aJ l++[aa x.J,af x.F,aU x]:=by unfold aJ;simp[S3.eg]
def MG (h:l[i]?=some x):¬aJ l=[]:=fun e=>by
 have:=gI h;rw[e]at this;simp at this
def MH (l:List (List Int)):az l=.M l.length (l.map af):=rfl
def A0 (h:x.O=[]):aU x=.lit (.slice none 0 0):=PG h
def nG (h:x.O≠[]):aU x=az x.O:=PC h
variable {y:S3}
def A1 (h:l[i]?=some x)(hy:y.J=x.J/\y.F=x.F):aJ (l.set i y)=setAt (aJ l) (i*3+2) [aU y]:=by
 have hi:=aI h;have hl:=dZ l;rw[dq U];apply Qn;intro p;rw[Rw];have hp:p=(p / 3)*3+p % 3:=U
 by_cases hb:p / 3<l.length
 ·by_cases hpi:p / 3=i
  ·have e0:(l.set i y)[p / 3]?=some y:=(by rw[hpi,PO hi]);have c3:p % 3=0\/p % 3=1\/p % 3=2:=U;rcases c3 with c|c|c
   ·rw[PC U,hp,c,Nat.add_zero,gI e0,gI (by rw[hpi];exact h),hy.1]
   ·rw[PC U,hp,c,hJ e0,hJ (by rw[hpi];exact h),hy.2]
   ·rw[PG U,PG U,hp,c,iL e0]
  ·obtain⟨z,hz⟩:=aw hb;have e0:(l.set i y)[p / 3]?=some z:=(by rw[PY U];exact hz);have c3:p % 3=0\/p % 3=1\/p % 3=2:=U;rcases c3 with c|c|c
   ·rw[PC U,hp,c,Nat.add_zero,gI e0,gI hz]
   ·rw[PC U,hp,c,hJ e0,hJ hz]
   ·rw[PC U,hp,c,iL e0,iL hz]
 ·rw[PN (by rw[dZ,PI];omega),PC U,PN U]
def A2 (x:S3):Fz S H nx (aU x) (az x.O):=by
 unfold aU;split
 ·rename_i h;rw[h];exact .nil
 ·exact .az _
def A3 (x:S3):Fz S H nx (aU x) (aU x):=by
 unfold aU;split
 ·exact .lit _
 ·exact .az _
def A4 :∀(l:List S3) (i:Nat) (h:i<(aJ l).length) (h':i<(aL l).length),Fz S H nx (aJ l)[i] (aL l)[i]:=by
 intro l i h h';have hb:i / 3<l.length:=by rw[dZ]at h;omega
 obtain⟨x,hx⟩:=aw hb;have hp:i=(i / 3)*3+i % 3:=U
 have g1:(aJ l)[i]?=some (aJ l)[i]:=PB h;have g2:(aL l)[i]?=some (aL l)[i]:=PB h';generalize (aJ l)[i]=a at g1 ⊢;generalize (aL l)[i]=b at g2 ⊢;have c3:i % 3=0\/i % 3=1\/i % 3=2:=U
 rcases c3 with c|c|c
 ·rw[hp,c,Nat.add_zero,gI hx]at g1;rw[hp,c,Nat.add_zero,jK hx]at g2;cases g1;cases g2;exact .lit _
 ·rw[hp,c,hJ hx]at g1;rw[hp,c,iI hx]at g2;cases g1;cases g2;exact .cO _
 ·rw[hp,c,iL hx]at g1;rw[hp,c,sS hx]at g2;cases g1;cases g2;exact A2 x
def s8 (l:List S3):∀c∈aJ l,Fz S H nx c c:=by
 intro c hc;unfold aJ at hc;obtain⟨r,hr,hc⟩:=RA.1 hc;obtain⟨x,_,rfl⟩:=P3.1 hr;unfold S3.eg at hc;simp only[List.mem_cons,List.not_mem_nil,or_false]at hc;rcases hc with rfl|rfl|rfl
 ·exact .lit _
 ·exact .cO _
 ·exact A3 x
structure Tn (e:Nat->Prop)(ns:List S3)(cs:List S1):Prop where
 len:cs.length=ns.length*3
 node:∀(v:Nat) (x:S3),ns[v]?=some x->∃rv,cs[v*3]?=some (aa x.J)/\cs[v*3+1]?=some (af x.F)/\cs[v*3+2]?=some rv/\(rv=az x.O\/rv=aU x)/\(e v->rv=aU x)
def A5 (e:Nat->Prop)(ns:List S3):Tn e ns (aJ ns):=⟨dZ ns,fun v x hx=>⟨_,gI hx,hJ hx,iL hx,.inr rfl,fun _=>rfl⟩⟩
variable {ns:List S3}
def Tn.c0 (h:Tn e ns cs)(hx:ns[v]?=some x):cs[v*3]?=some (aa x.J):=(h.node v x hx).elim fun _ h=>h.1
def Tn.c1 (h:Tn e ns cs)(hx:ns[v]?=some x):cs[v*3+1]?=some (af x.F):=(h.node v x hx).elim fun _ h=>h.2.1
def Tn.ne (h:Tn e ns cs)(hx:ns[v]?=some x):¬cs=[]:=fun he=>by
 have:=h.c0 hx;rw[he]at this;simp at this
def Tn.part (h:Tn e ns cs)(hx:ns[v]?=some x):∃rv,(cs.drop (v*3)).take 3=[aa x.J,af x.F,rv]/\cs[v*3+2]?=some rv/\(rv=az x.O\/rv=aU x)/\(e v->rv=aU x):=by
 obtain⟨rv,a,b,c,d,f⟩:=h.node v x hx;refine⟨rv,?_,c,d,f⟩;have h3:=aI c;rw[Qd U,Qd U,Qd U];simp only[List.take_succ_cons,List.take_zero];rw[PB U]at a b c;rw[Option.some.inj a,Option.some.inj b,Option.some.inj c]
def Tn.nil :Tn e [] []:=⟨rfl,fun v x hx=>by simp at hx⟩
def Tn.snoc (h:Tn e ns cs){rv:S1}(h1:rv=az x.O\/rv=aU x)(h2:e ns.length->rv=aU x):Tn e (ns++[x]) (cs++[aa x.J,af x.F,rv]):=by
 have hl:=h.len;refine⟨by simp[hl];omega,fun v y hy=>?_⟩;by_cases hv:v<ns.length
 ·rw[PJ hv]at hy;obtain⟨r,a,b,c,d⟩:=h.node v y hy;exact⟨r,by rw[PJ U];exact a,by rw[PJ U];exact b,by rw[PJ U];exact c,d⟩
 ·have:v=ns.length:=by have:=aI hy;simp at this;omega
  subst this;rw[PW U,RQ]at hy;cases hy;refine⟨rv,?_,?_,?_,h1,h2⟩
  ·rw[PW U,show ns.length*3-cs.length=0 by omega];rfl
  ·rw[PW U,show ns.length*3+1-cs.length=1 by omega];rfl
  ·rw[PW U,show ns.length*3+2-cs.length=2 by omega];rfl
def Tn.mono {e':Nat->Prop}(h:Tn e ns cs)(he:∀v,e' v->e v):Tn e' ns cs:=⟨h.len,fun v x hx=>by
 obtain⟨r,a,b,c,d,f⟩:=h.node v x hx;exact⟨r,a,b,c,d,fun h=>f (he v h)⟩⟩
def Tn.s9 (h:Tn e ns cs):∀(i:Nat) (h1:i<cs.length) (h2:i<(aL ns).length),Fz S H nx cs[i] (aL ns)[i]:=by
 intro i h1 h2;have hb:i / 3<ns.length:=by rw[h.len]at h1;omega
 obtain⟨x,hx⟩:=aw hb;obtain⟨rv,a,b,c,d,_⟩:=h.node _ x hx;have hp:i=(i / 3)*3+i % 3:=U
 have g1:cs[i]?=some cs[i]:=PB h1;have g2:(aL ns)[i]?=some (aL ns)[i]:=PB h2;generalize cs[i]=u at g1 ⊢;generalize (aL ns)[i]=w at g2 ⊢;have c3:i % 3=0\/i % 3=1\/i % 3=2:=U
 rcases c3 with c0|c0|c0
 ·rw[hp,c0,Nat.add_zero,a]at g1;rw[hp,c0,Nat.add_zero,jK hx]at g2;cases g1;cases g2;exact .lit _
 ·rw[hp,c0,b]at g1;rw[hp,c0,iI hx]at g2;cases g1;cases g2;exact .cO _
 ·rw[hp,c0,c]at g1;rw[hp,c0,sS hx]at g2;cases g1;cases g2;rcases d with d|d<;>rw[d]
  ·exact .az _
  ·exact A2 x
def gM {α:Type}{l:List α}{x:α}(h:l[i]?=some x):l.set i x=l:=by
 apply Qn;intro j;rw[Rw];split
 ·rename_i hj;subst hj;rw[PG (aI h),h]
 ·rfl
structure FiS (d:S5)(fv:S1)(H H':S2)(nh:S1)(n:Nat)(cs:List S1):Prop where
 nx:H.C+4<=H'.C
 ov:S6 H H'
 b0:H'.get H.C=some (.L 0 39 [.lit (.int .i64 d.X),.M d.I.length (aL d.I),.lit (.int .u64 (d.Z:Int)),.M d.Q.length (aP d.Q)])
 b1:H'.get (H.C+1)=some (.L 0 108 [fv])
 b2:H'.get (H.C+2)=some (.L 0 64 [.lit (.int .i64 0),.lit (.slice none 0 0)])
 b3:H'.get (H.C+3)=some (.L 0 64 [.lit (.int .i64 d.X),nh])
 nd:bE (H.C+4) H' 83 3 nh n cs
theorem FiS.over {fv:S1}{H2:S2}{nh:S1}(h:FiS d fv H H' nh n cs)(o:S6 H' H2):FiS d fv H H2 nh n cs where
 nx:=Qm h.nx o.C
 ov:=h.ov.trans o
 b0:=(o.nf _ (by have:=h.nx;omega)).trans h.b0
 b1:=(o.nf _ (by have:=h.nx;omega)).trans h.b1
 b2:=(o.nf _ (by have:=h.nx;omega)).trans h.b2
 b3:=(o.nf _ (by have:=h.nx;omega)).trans h.b3
 nd:=h.nd.over o
def Od {v:S1}{xs:List S1}(hx:xs.all S1.one=true)(hxl:xs.length=3)(hn:n<2 ^ 38)(ho:bE (H.C+4) H' 83 3 v n cs)(hlo:H.C+4<=H'.C):
  ∃v' H2,bf prog (ext H' [.L 0 83 xs]) (H'.C+1) 35 35 v (.V H'.C 0 0 1 3)=some (v',H2)/\bE (H.C+4) H2 83 3 v' (n+1) (cs++xs)/\H'.C<=H2.C/\(∀k,k<H'.C->(∀g n,v≠.V k g 0 n 3)->H2.get k=H'.get k) :=
 kX Try.underlying35 Try.nu Try.nC hx hxl (by rw[Try.nA];omega) ho hlo rfl
def BH {lo:Nat}{v:S1}{l:List S1}(x:S1)(hx:x.one=true)(h:au lo H' 59 v l)(hlo:lo<=H'.C)(hl:l.length<2 ^ 40):
  ∃v' H2,bf prog (ext H' [.L 0 59 [x]]) (H'.C+1) 48 48 v (.V H'.C 0 0 1 1)=some (v',H2)/\au lo H2 59 v' (l++[x])/\H'.C<=H2.C/\(∀k,k<H'.C->(∀g n,v≠.V k g 0 n 1)->H2.get k=H'.get k) :=
 fT (P:=prog) (H:=H') (t:=48) (x:=x) (n:=H'.C+1) Try.underlying48 Try.kF Try.kH hx (by rw[Try.kG];omega) h hlo rfl
def Oe (d:S5)(hf:Th d)(hR:Te d)(c:Nat->Nat->Int)(fv:S1)(rs:List Nat)(H:S2)(hrs:∀i∈rs,i<H.C)(hfc:fv.cells=[fv])(hfo:fv.one=true)
  (hfv:∀p r v x H1,(aC d)[p]?=some v->d.I[v]?=some x->r<cZ d.I x->S6 H H1->(0<=c p r/\c p r<x.J)/\cD prog G0 fv [.lit (.int .i64 p),.lit (.int .i64 r)] H1 (.lit (.int .i64 (c p r))) rs)
  (K:S8->S2->Prop) (hK:K (.ret (bS d.X (dY d c))) H):ae prog G0 48 [iH d,fv] H K:=by
 refine ae.nl ⟨_,func48,rfl,rfl⟩ fun hcl=>?_;have hl:=hf.I.1;have hn8:=hR.n1.2;refine ae.st (n:=91) (rs:=[.cell 4 64]) func48 ?_;simp only[go_sem,nL,dN,hfc];obtain⟨Hb,hHb⟩:∃Hb,Hb=ext H [.L 0 39 [.lit (.int .i64 d.X),.M d.I.length (aL d.I),.lit (.int .u64 (d.Z:Int)),.M d.Q.length (aP d.Q)],.L 0 108 [fv],.L 0 64 [.lit (.int .i64 0),.lit (.slice none 0 0)],.L 0 64 [.lit (.int .i64 d.X),.lit (.slice none 0 0)]]:=⟨_,rfl⟩
 rw[<- hHb];have R0:FiS d fv H Hb (.lit (.slice none 0 0)) 0 []:=by
  rw[hHb];exact⟨by simp[bB],.ext _ _,cS ..,dT H _ 1 SX,dT H _ 2 SX,dT H _ 3 SX,.nil⟩
 have nb:Hb.C=H.C+4:=hHb▸rfl
 refine W.loop 4503599626323328 (by rfl) (fun ρ H'=>∃(k:Nat) (nh:S1),ρ 20=aa k/\k<=d.I.length/\FiS d fv H H' nh k (aJ (d.I.take k))) (fun ρ H=>d.I.length-(iv (ρ 20)).toNat) ?_ ?_
 ·simp only[go_sem];exact⟨0,_,rfl,U,R0⟩
 rintro ρ H' ⟨k,nh,h20,hk,R⟩;refine W.vs ?_;have rn:=R.nx;have q0:=ag R.b0;have q3:=ag R.b3;by_cases hb:(k:Int)<d.I.length
 ·obtain⟨x,hx⟩:=aw (l:=d.I) (i:=k) U;have hxm:=PA hx;obtain⟨f1,f2,f3⟩:=hf.I.2 x hxm;have hne:=eo hx;have e0:=nD hx;have e1:k*3+3<=(aL d.I).length:=by rw[gG];omega
  simp only[go_sem,h20,hb,hne,e0,e1];refine W.dr 7 [0,1,0,4,12,31,0] mixed ?_;simp only[go_sem];refine⟨af x.F,[],cD.pure fun H2=>BI x.F U H2 _ ⟨rfl,rfl⟩,?_⟩;simp only[go_sem,MH]
  repeat (refine And.intro (by first|omega|(simp;done)|(simp;omega)|(intros;omega)|exact⟨rfl,U,U,jD _⟩) ?_)
  obtain⟨H1,hH1⟩:∃H1,H1=ext (ext H' [.L 0 83 [.lit (.int .i64 x.J),.M x.F.length (ints x.F),.M x.O.length (x.O.map af)]]) [.L 0 83 [.lit (.int .i64 x.J),.M x.F.length (ints x.F),.lit (.slice none 0 0)]]:=⟨_,rfl⟩
  have n1:H1.C=H'.C+2:=by rw[hH1];rfl
  have gA:H1.get H'.C=some (.L 0 83 [.lit (.int .i64 x.J),.M x.F.length (ints x.F),.M x.O.length (x.O.map af)]):=by rw[hH1,cE (by simp[bB])];exact cf
  have gB:H1.get (H'.C+1)=some (.L 0 83 [.lit (.int .i64 x.J),.M x.F.length (ints x.F),.lit (.slice none 0 0)]):=by rw[hH1];exact cf (H:=ext H' [_])
  have o1:S6 H' H1:=by rw[hH1];exact(S6.ext _ _).trans (.ext _ _)
  have lA:=ag gA;rw[hH1]at lA;simp only[go_sem,lA];rw[<- hH1];refine W.aS 35175782155264 (by rfl) (fun ρ' H2=>∃(j:Nat) (rh:S1),ρ' 33=aa j/\j<=x.O.length/\S6 H' H2/\H1.C<=H2.C/\H2.get (H'.C+1)=some (.L 0 83 [.lit (.int .i64 x.J),.M x.F.length (ints x.F),rh])/\au (H'.C+2) H2 59 rh ((x.O.take j).map af)/\(j=0->rh=.lit (.slice none 0 0))) (fun ρ' H=>x.O.length-(iv (ρ' 33)).toNat) ?_ ?_
  ·simp only[go_sem];exact⟨0,_,rfl,U,o1,gB,.nil,fun _=>rfl⟩
  rintro ρ' H2 ⟨j,rh,h33,hj,o2,hn2,gB2,hrh,hrh0⟩;refine W.vs ?_;have o2n:=o2.C;have lB:=ag gB2;by_cases hb2:(j:Int)<x.O.length
  ·obtain⟨r,hr⟩:=aw (l:=x.O) (i:=j) U;have hrm:=PA hr;have hrne:=bg hr;have w1:=PD ((j:Int)+1) U;simp only[go_sem,h33,hb2,hr,hrne];obtain⟨rh2,H3,hA,hO,hn3,hp⟩:=BH (af r) rfl hrh U (by simp;omega);simp only[af]at hA;have hcells:=hO.cells;have hone:=hO.one;have g3:H3.get (H'.C+1)=some (.L 0 83 [.lit (.int .i64 x.J),.M x.F.length (ints x.F),rh]):=(hp _ U (hrh.ne U)).trans gB2;have l3:=ag g3;refine W.dr 5 [0,1,0,4,12] mixed ?_;simp only[go_sem,lB];refine⟨af r,[],cD.pure fun H2=>BI r (by have:=f3 r hrm;omega) H2 _ ⟨rfl,rfl⟩,?_⟩;simp only[go_sem,h33,hA,l3,hcells,hone,w1]
   repeat (refine And.intro (by first|omega|(simp;done)|(simp;omega)|(intros;omega)|exact⟨rfl,U,U,jD _⟩) ?_)
   have o3:S6 H' H3:=⟨U,fun id h=>(hp id U (hrh.ne U)).trans (o2.nf id h)⟩
   refine⟨by rw[ar];omega,⟨j+1,rh2,SX,U,o3.upd U _,by rw[ar];omega,by rw[ab,PG rfl],?_,U⟩,U⟩;have e:(x.O.take (j+1)).map af=(x.O.take j).map af++[af r]:=(by rw[aT hr];simp);rw[e];exact hO.na S0 (by rw[ar];omega) fun id g h1 _ _ _=>by rw[ab,PC U]
  ·rw[PF U]at hrh;have R2:=R.over o2;have q3b:=ag R2.b3;obtain⟨nh2,H3,hA,hO,hn3,hp⟩:=Od (H:=H) (H':=H2) (v:=nh) (n:=k) (xs:=[.lit (.int .i64 x.J),.M x.F.length (ints x.F),rh]) (by rw[List.all_cons,List.all_cons,List.all_cons,hrh.one];rfl) rfl U R2.nd (by have:=R2.nx;omega);have r2n:=R2.nx;have fr:∀id,id<H.C+4->H3.get id=H2.get id:=fun id h=>hp id U (R2.nd.ne h);have g3:H3.nn (H.C+3) 0=some (64,[.lit (.int .i64 d.X),nh]):=ag ((fr _ U).trans R2.b3);have hcells:=hO.cells;have hone:=hO.one;have hrc:=hrh.cells;have hro:=hrh.one;have w1:=PD ((k:Int)+1) U;simp only[go_sem,h20,h33,hb2,lB,q3b,hA,g3,hcells,hone,w1];obtain⟨H4,hH4⟩:∃H4,H4=H3.upd (H.C+3) (.L 0 64 [.lit (.int .i64 d.X),nh2]):=⟨_,rfl⟩
   rw[<- hH4];refine(fun (h:∀E:Env,E 20=aa ((k:Int)+1)->∃s₃:St,bY prog G0 ⟨E,H4⟩ s₃/\Hb.C<=s₃.H.C/\(∃(k:Nat) (nh:S1),s₃.ρ 20=aa k/\k<=d.I.length/\FiS d fv H s₃.H nh k (aJ (d.I.take k)))/\d.I.length-(iv (s₃.ρ 20)).toNat<d.I.length-k)=>h _ (by simp only[go_sem])) fun E hE20=>?_;have n4:H4.C=H3.C:=(by rw[hH4];rfl);obtain⟨nb2,gn,b1,b2,rfl,b4,b5⟩:∃id g,H.C+4<=id/\id<H3.C/\nh2=.V id g 0 (k+1) 3/\(aJ (d.I.take k)++[.lit (.int .i64 x.J),.M x.F.length (ints x.F),rh]).length=(k+1)*3/\H3.get id=some (.L g 83 (aJ (d.I.take k)++[.lit (.int .i64 x.J),.M x.F.length (ints x.F),rh])):=by
    rcases hO with ⟨_,h,_⟩|h
    ·omega
    ·exact h
   have c0:∀id,id<H.C+3->H4.get id=H2.get id:=fun id h=>by rw[hH4,ab,PC U];exact fr id (U)
   have c3:H4.get (H.C+3)=some (.L 0 64 [.lit (.int .i64 d.X),.V nb2 gn 0 (k+1) 3]):=(by rw[hH4,ab,PG rfl]);have c5:H4.get nb2=some (.L gn 83 (aJ (d.I.take k)++[.lit (.int .i64 x.J),.M x.F.length (ints x.F),rh])):=(by rw[hH4,ab,PC U];exact b5);have e5:aJ (d.I.take (k+1))=aJ (d.I.take k)++[aa x.J,af x.F,aU x]:=(by rw[aT hx,wM]);by_cases hr0:x.O=[]
   ·have hrn:rh=.lit (.slice none 0 0):=hrh0 (by rw[hr0]at hj;simpa using hj);subst hrn;refine⟨⟨E,H4⟩,bY.refl _,by show Hb.C<=H4.C;omega,⟨k+1,.V nb2 gn 0 (k+1) 3,hE20.trans SX,U,⟨by show _<=H4.C;omega,⟨by have:=R2.ov.C;show _<=H4.C;omega,fun id h=>(c0 id U).trans (R2.ov.nf id h)⟩,(c0 _ U).trans R2.b0,(c0 _ U).trans R2.b1,(c0 _ U).trans R2.b2,c3,.inr ⟨nb2,gn,b1,by show _<H4.C;omega,rfl,?_,?_⟩⟩⟩,?_⟩
    ·rw[dZ];simp;omega
    ·show H4.get nb2=_;rw[e5,A0 hr0];exact c5
    ·show _-(iv (E 20)).toNat<_;rw[hE20];simp only[aa,aM];omega
   ·obtain⟨rk,gr,r1,r2,rfl,r4⟩:∃id g,H'.C+2<=id/\id<H2.C/\rh=.V id g 0 (x.O.map af).length 1/\H2.get id=some (.L g 59 (x.O.map af)):=by
     rcases hrh with ⟨_,h⟩|h
     ·simp at h;exact absurd h hr0
     ·exact h
    have nhne:∀g n,nh≠.V rk g 0 n 3:=fun g n he=>by
     rcases R.nd with ⟨h,_⟩|⟨i,g2,_,h,h2,_⟩
     ·rw[h]at he;cases he
     ·rw[h2]at he;have:=S1.V.inj he;omega
    have c6:H4.get rk=some (.L gr 59 (x.O.map af)):=(by rw[hH4,ab,PC U,hp rk r2 nhne];exact r4);have hne2:nb2≠rk:=by
     rintro rfl;rw[c5]at c6;have:=(S7.L.inj (Option.some.inj c6)).2.1;exact absurd this (SY)
    have e6:∀c:S1,aJ (d.I.take k)++[.lit (.int .i64 x.J),.M x.F.length (ints x.F),c]=(aJ (d.I.take k)++[.lit (.int .i64 x.J),.M x.F.length (ints x.F)])++c :: []:=fun c=>SX
    rw[e6]at c5;have e7:aJ (d.I.take (k+1))=(aJ (d.I.take k)++[.lit (.int .i64 x.J),.M x.F.length (ints x.F)])++az x.O :: []:=(by rw[e5,nG hr0,<- e6];rfl);refine⟨⟨E,H4.dC rk nb2 (.L gn 83 ((aJ (d.I.take k)++[.lit (.int .i64 x.J),.M x.F.length (ints x.F)])++az x.O :: []))⟩,bY.dC (s:=⟨E,H4⟩) aZ c5 hne2 SX (OT (fun c hc=>?_) ?_ fun c hc=>by cases hc),by show Hb.C<=H4.C;omega,
     ⟨k+1,.V nb2 gn 0 (k+1) 3,hE20.trans SX,U,⟨by show _<=H4.C;omega,⟨by have:=R2.ov.C;show _<=H4.C;omega,fun id h=>(jn U U).trans ((c0 id U).trans (R2.ov.nf id h))⟩,(jn U U).trans ((c0 _ U).trans R2.b0),(jn U U).trans ((c0 _ U).trans R2.b1),(jn U U).trans ((c0 _ U).trans R2.b2),(jn U U).trans c3,.inr ⟨nb2,gn,b1,by show _<H4.C;omega,rfl,?_,?_⟩⟩⟩,?_⟩
    ·rcases PT.1 hc with hc|hc
     ·exact s8 _ c hc
     ·simp only[List.mem_cons,List.not_mem_nil,or_false]at hc;rcases hc with rfl|rfl
      ·exact .lit _
      ·exact .cO _
    ·show Fz (fun id=>id=rk) H4 _ _ _;rw[show az x.O=.M (x.O.map af).length (x.O.map af) by simp[az]];refine .np (S:=fun id=>id=rk) rfl c6 (by rw[Nat.mul_one]) fun j hj h2 h'=>?_;simp only[Nat.zero_add,PK];exact .cO _
    ·rw[dZ];simp;omega
    ·rw[e7];exact tK hne2
    ·show _-(iv (E 20)).toNat<_;rw[hE20];simp only[aa,aM];omega
 have ek:k=d.I.length:=U
 subst ek;rw[PF S0]at R;obtain⟨nbk,gn,b1,b2,rfl,b4,b5⟩:∃id g,H.C+4<=id/\id<H'.C/\nh=.V id g 0 d.I.length 3/\(aJ d.I).length=d.I.length*3/\H'.get id=some (.L g 83 (aJ d.I)):=by
  rcases R.nd with ⟨_,h,_⟩|h
  ·have:=hR.n1.1;omega
  ·exact h
 simp only[go_sem,h20,hb,q0];refine aH.nl (wZ d _ _ ⟨trivial,?_⟩);simp only[go_sem];obtain⟨H2,hH2⟩:∃H2,H2=ext H' [kS d]:=⟨_,rfl⟩
 rw[<- hH2];have o2:S6 H' H2:=by rw[hH2];exact .ext _ _
 have n2:H2.C=H'.C+1:=by rw[hH2];rfl
 have hbx:H2.get H'.C=some (kS d):=by rw[hH2];exact cf
 refine W.env fun E hE=>?_;have e2:E 2=.Y H.C 0 0:=by rw[hE];simp only[go_sem]
 have e3:E 3=.Y (H.C+1) 0 0:=by rw[hE];simp only[go_sem]
 have e4:E 4=.Y (H.C+2) 0 0:=by rw[hE];simp only[go_sem]
 have e5:E 5=.Y (H.C+3) 0 0:=by rw[hE];simp only[go_sem]
 let F:Nat->List S1->S2->Prop:=fun lo cs Hx=>lo<=Hx.C/\(∀id,id<H2.C->id≠nbk->Hx.get id=H2.get id)/\Hx.get nbk=some (.L gn 83 cs)
 refine W.tJ (f:=89) (first:=[]) (cap:=[.Y H'.C 0 0]) (by show E 53=_;rw[hE];rfl) (wY d U hf.Z H'.C)
  (fun k Hx=>F H2.C (aJ (cN d c k)) Hx) (fun _ _=>False)
  (fun k Hx h=>by rw[h.2.1 _ U U];exact hbx) (fun k Hx b h=>⟨h.1,fun id h1 h2=>by rw[ab,PC U];exact h.2.1 id h1 h2,by rw[ab,PC U];exact h.2.2⟩) (fun _ _ _ h=>h)
  (fun b=>⟨by rw[bB];omega,fun id h1 h2=>cE h1,by rw[cE U,MD];exact(o2.nf _ b2).trans b5⟩) SY wX (fun _ _ _=>trivial) (fun _ _ _=>trivial) (fun k y Hx B Bb hy hj hn hB hBb=>?_) (fun Hx hj hn=>?_) (fun Hx hs hn=>hs.elim) (fun i Hx hs hn=>hs.elim)
 ·obtain⟨v,hv,rfl⟩:=tw hy;obtain⟨v1,v2,v3⟩:=nF hv;obtain⟨x,hx⟩:=aw (l:=d.I) (i:=v) v1;have hxm:=PA hx;obtain⟨x1,x2⟩:=hR.dec v x hx v2;refine W.vs ?_;simp only[go_sem,jE,dc,qf,Q6,Se,RI,RT,hB];obtain⟨H3,hH3⟩:∃H3,H3=Hx.upd H2.C Bb:=⟨_,rfl⟩
  rw[<- hH3];obtain⟨st,pd,n',en,ps',as',bo,hBe⟩:=hBb;have n3:H3.C=Hx.C:=by rw[hH3];rfl
  have hj3:F H2.C (aJ (cN d c k)) H3:=by rw[hH3];exact⟨hj.1,fun id h1 h2=>by rw[ab,PC U];exact hj.2.1 id h1 h2,by rw[ab,PC U];exact hj.2.2⟩
  have jB:H3.get H2.C=some Bb:=by rw[hH3,ab,PG rfl]
  refine W.en (fun E1=>E1 2=.Y H.C 0 0 /\ E1 3=.Y (H.C+1) 0 0 /\ E1 5=.Y (H.C+3) 0 0 /\ E1 11=aa k /\ E1 12=aa v) (by simp only[go_sem,dc,e2,e3,e5]) fun E1 ⟨m2,m3,m5,m11,m12⟩=>?_
  have hvn:(v:Int)<d.I.length:=U
  have s2:=R.over o2;have oldH:∀ {Hy:S2},(∀id,id<H2.C->id≠nbk->Hy.get id=H2.get id)->Hy.nn H.C 0=some (39,[.lit (.int .i64 d.X),.M d.I.length (aL d.I),.lit (.int .u64 (d.Z:Int)),.M d.Q.length (aP d.Q)])/\Hy.nn (H.C+1) 0=some (108,[fv])/\Hy.nn (H.C+3) 0=some (64,[.lit (.int .i64 d.X),.V nbk gn 0 d.I.length 3]):=fun h =>
   ⟨ag ((h _ U U).trans s2.b0),ag ((h _ U U).trans s2.b1),ag ((h _ U U).trans s2.b3)⟩
  obtain⟨k0,k1,k3⟩:=oldH hj3.2.1;have ps:=lY hn8 x2 hR.J;have hpm:=nO (ns:=d.I) (x:=x) (fun q hq=>by have:=x2.2 q hq;omega) hR.J;have hpp:1<=aK (bc d.I x):=lL fun c hc=>(hpm c hc).1;have hpb:=ps.prod;have hrn:((cZ d.I x:Nat):Int)=aK (bc d.I x):=by unfold cZ;omega
  have hlk:(cN d c k)[v]?=some x:=by rw[kO hx];unfold fK;rw[PC U]
  have el:=dZ (cN d c k);have hvk:v*3+2<(aJ (cN d c k)).length:=by rw[el,iK];omega
  refine W.jX (Q':=fun e s2=>e=.normal/\∃rh,F H3.C (setAt (aJ (cN d c k)) (v*3+2) [rh]) s2.H/\s2.H.get H2.C=some Bb/\au H3.C s2.H 59 rh ((List.range (cZ d.I x)).map fun r=>af (aR d.X x.J (c k r)))) ?_ ?_;rotate_left
  ·rintro e sx ⟨rfl,rh,hF,jBx,hrh⟩;obtain⟨rk,gr,r1,r2,rfl,r4⟩:∃id g,H3.C<=id/\id<sx.H.C/\rh=.V id g 0 ((List.range (cZ d.I x)).map fun r=>af (aR d.X x.J (c k r))).length 1/\sx.H.get id=some (.L g 59 ((List.range (cZ d.I x)).map fun r=>af (aR d.X x.J (c k r)))):=by
    rcases hrh with ⟨_,h⟩|h
    ·have:cZ d.I x=0:=(by simpa using h);omega
    ·exact h
   have hfs:=ME (c:=c) hv hx;have edr:eL d.X d.I c k x=(List.range (cZ d.I x)).map fun r=>aR d.X x.J (c k r):=rfl;have ey:aU { x with O:=x.O++eL d.X d.I c k x }=.M ((List.range (cZ d.I x)).map fun r=>af (aR d.X x.J (c k r))).length ((List.range (cZ d.I x)).map fun r=>af (aR d.X x.J (c k r))):=by
    have hne:x.O++eL d.X d.I c k x≠[]:=by
     rw[x1,edr,List.nil_append];intro h;have:cZ d.I x=0:=(by simpa using h);omega
    rw[nG hne];show az (x.O++_)=_;rw[x1,edr,List.nil_append];simp[az,List.map_map,Function.comp_def]
   have hob:=hF.2.2;rw[dq hvk]at hob;have hc2:aJ (cN d c (k+1))=(aJ (cN d c k)).set (v*3+2) (.M ((List.range (cZ d.I x)).map fun r=>af (aR d.X x.J (c k r))).length ((List.range (cZ d.I x)).map fun r=>af (aR d.X x.J (c k r)))):=by
    rw[hfs,A1 (y:={ x with O:=x.O++eL d.X d.I c k x }) hlk ⟨rfl,rfl⟩,ey,dq hvk]
   have hne2:nbk≠rk:=(by have:=hj3.1;omega);refine⟨⟨sx.ρ,sx.H.dC rk nbk (.L gn 83 (aJ (cN d c (k+1))))⟩,bY.dC aZ hob hne2 (by rw[hc2,PI,PI]) ?_,S0,⟨_,_,_,_,_,_,_,by rw[jn U U,jBx,hBe]⟩,by rw[jn U U];exact jBx,by show Hx.C<=sx.H.C;have:=hF.1;omega,
    ⟨by show H2.C<=sx.H.C;have:=hF.1;omega,fun id h1 h2=>(jn U h2).trans (hF.2.1 id h1 h2),tK hne2⟩⟩
   rw[hc2];refine xu (s8 _) ?_;refine .np (S:=fun id=>id=rk) rfl r4 (by rw[Nat.mul_one]) fun j hj h2 h'=>?_;simp only[Nat.zero_add,PK];exact .cO _
  refine W.vs ?_;simp only[go_sem,m2,m12,k0];refine aH.nl (Oj d.I v x hx (fun q hq=>by have:=x2.2 q hq;omega) ps _ _ ⟨⟨_,_,_,_,_,_,_,by rw[jB,hBe]⟩,?_⟩);rw[<- hrn];simp only[go_sem];refine W.aS 1237940038132458770292285440 (by rfl) (fun ρ2 H4=>∃(r:Nat) (rh:S1),ρ2 60=aa r/\r<=cZ d.I x/\F H3.C (setAt (aJ (cN d c k)) (v*3+2) [rh]) H4/\H4.get H2.C=some Bb/\au H3.C H4 59 rh ((List.range r).map fun r=>af (aR d.X x.J (c k r)))/\(r=0->rh=.lit (.slice none 0 0)))
   (fun ρ2 H=>cZ d.I x-(iv (ρ2 60)).toNat) ?_ ?_
  ·simp only[go_sem];refine⟨0,.lit (.slice none 0 0),rfl,U,⟨S0,hj3.2.1,?_⟩,jB,.nil,fun _=>rfl⟩;rw[show setAt (aJ (cN d c k)) (v*3+2) [.lit (.slice none 0 0)]=aJ (cN d c k) from by
    have:=A1 (y:=x) hlk ⟨rfl,rfl⟩;rw[A0 x1]at this;rw[<- this];congr 1;exact gM hlk]
   exact hj3.2.2
  rintro ρ2 H4 ⟨r,rh,h60,hr,hF,jB4,hrh,hrh0⟩;refine W.en (fun E2=>E2 2=.Y H.C 0 0 /\ E2 3=.Y (H.C+1) 0 0 /\ E2 5=.Y (H.C+3) 0 0 /\ E2 11=aa k /\ E2 12=aa v /\ E2 59=aa (cZ d.I x) /\ E2 60=aa r) (by simp only[go_sem,m2,m3,m5,m11,m12,h60]) fun E2 ⟨i2,i3,i5,i11,i12,i59,i60⟩=>?_
  refine W.vs ?_;by_cases hb2:(r:Int)<cZ d.I x
  ·obtain⟨k0,k1,k3⟩:=oldH hF.2.1;have kn:=ag hF.2.2;have hne:=eo hx;have ec:=jK hx;have w1:=PD ((r:Int)+1) U;obtain⟨cb,hpc⟩:=hfv k r v x H4 hv hx U ⟨U,fun id h=>(hF.2.1 id U U).trans (s2.ov.nf id h)⟩;have hs:(setAt (aJ (cN d c k)) (v*3+2) [rh])[v*3+2]?=some rh:=(by rw[dq hvk,PO hvk]);obtain⟨rh2,H5,hA,hO,hn5,hp⟩:=BH (af (aR d.X x.J (c k r))) rfl hrh hF.1 (by rw[PR,Rf];omega);simp only[af]at hA;have hcells:=hO.cells;have hone:=hO.one;have hpr:cD prog G0 (.nl 88 [] []) [.lit (.int .i64 d.X),.lit (.int .i64 x.J),.lit (.int .i64 (c k r))] H4 (af (aR d.X x.J (c k r))) []:=cD.pure fun H2=>N7 d.X x.J (c k r) (by have:=hR.J x hxm;omega) cb H2 _ ⟨rfl,rfl⟩;have hrhs:rh=.lit (.slice none 0 0)\/∃i g n,rh=.V i g 0 n 1/\H3.C<=i/\i<H4.C:=by
    rcases hrh with ⟨h,_⟩|⟨i,g,h1,h2,h3,_⟩
    ·exact .inl h
    ·exact .inr ⟨i,g,_,h3,h1,h2⟩
   have hset:∀a b,setAt (setAt (aJ (cN d c k)) (v*3+2) [a]) (v*3+2) [b]=setAt (aJ (cN d c k)) (v*3+2) [b]:=fun a b=>by rw[dq hvk,dq (by rw[PI];exact hvk),dq hvk,RD]
   have hslen:∀a,(setAt (aJ (cN d c k)) (v*3+2) [a]).length=(aJ (cN d c k)).length:=fun a=>by rw[dq hvk,PI]
   have hg5:H5.get nbk=some (.L gn 83 (setAt (aJ (cN d c k)) (v*3+2) [rh])):=(hp _ (by have:=hF.1;omega) (hrh.ne U)).trans hF.2.2;have kn5:=ag hg5;have ho5:∀id,id<H2.C->id≠nbk->H5.get id=H2.get id:=fun id h1 h2=>(hp _ (by have:=hF.1;omega) (hrh.ne U)).trans (hF.2.1 id h1 h2);have jB5:H5.get H2.C=some Bb:=(hp _ (by have:=hF.1;omega) (hrh.ne U)).trans jB4;obtain⟨hn34,-,-⟩:=hF;rcases rs with _|⟨b0,rs⟩<;>rcases hrhs with rfl|⟨i,g,n,rfl,hi1,hi2⟩
   all_goals
    simp only[go_sem,i60,i59,hb2];refine W.dr 24 [0,1,0,0,8,0,56,120,248,0,512,0,2048,0,14336,30720,63488,0,0,0,917504,2096640,4193792,8388600] mixed ?_;simp only[go_sem,i2,i3,i5,i11,i12,k0,k1,k3,kn,hvn,hne,ec,hs];refine⟨.lit (.int .i64 (c k r)),_,hpc,af (aR d.X x.J (c k r)),[],hpr,?_⟩;simp only[go_sem,i2,i3,i5,i11,i12,i60,hvn,kn5,hA,hcells,hone,w1];refine⟨by repeat' (first|refine And.intro ?_ ?_|(intro x hx;omega)),by repeat' (first|refine And.intro ?_ ?_|(intro x hx;omega)),by rw[hslen];omega,by rw[ar];omega,⟨_,_,_,_,_,_,_,by rw[ab,PC U,jB5,hBe]⟩,
     ⟨r+1,rh2,SX,U,⟨by rw[ar];omega,fun id h1 h2=>by rw[ab,PC h2];exact ho5 id h1 h2,by rw[ab,PG rfl,hset]⟩,by rw[ab,PC U];exact jB5,?_,U⟩,by rw[h60];simp only[aa,aM];omega⟩
    have e:((List.range (r+1)).map fun r=>af (aR d.X x.J (c k r)))=((List.range r).map fun r=>af (aR d.X x.J (c k r)))++[af (aR d.X x.J (c k r))]:=(by rw[QV];simp);show au _ _ _ _ ((List.range (r+1)).map fun r=>af (aR d.X x.J (c k r)));rw[e];exact hO.na S0 (by rw[ar];omega) fun id g h1 _ _ _=>by rw[ab,PC U]
  ·have er:r=cZ d.I x:=U;subst er;simp only[go_sem,i59,i60,hb2];exact⟨rh,hF,jB4,hrh⟩
 ·have s2:=R.over o2;have f4:=ag ((hj.2.1 _ U U).trans s2.b2);have f5:=ag ((hj.2.1 _ U U).trans s2.b3);simp only[go_sem,e4,e5,f4,f5];have ovx:S6 H Hx:=⟨U,fun id h=>(hj.2.1 id U U).trans (s2.ov.nf id h)⟩
  refine av.bQ (v':=bS d.X (dY d c)) aZ hcl (ovx.upd U _) (.agg rfl fun i hi _=>?_) hK
  match i,hi with
  |0,_=>exact .lit _
  |1,_ =>
   have hg:∀b,(Hx.upd (H.C+2) b).get nbk=some (.L gn 83 (aJ (dY d c))):=fun b=>by
    rw[ab,PC U];have:=hj.2.2;rw[tx]at this;exact this
   show Fz _ _ _ (.V nbk gn 0 d.I.length 3) (.M (dY d c).length (aL (dY d c)));rw[show (dY d c).length=d.I.length from iK _ _ _];refine .np (by show H.C<=_;omega) (hg _) (by rw[gG];congr 1;exact iK _ _ _) fun j hj h2 h'=>?_;simp only[Nat.zero_add];exact A4 _ j _ _
structure Tp (ns:List S3)(u:Tl):Prop where
 vars:bG u.vars ns.length
 size:(u.w.length:Int)=aK (bd (ay ns) u.vars)
 w:∀x∈u.w,-100<=x/\x<=100
def tA (d:S5):Prop:=d.Q.length<=4/\∀u∈d.Q,Tp d.I u
def tB {vars:List Int}(h8:ns.length<=8)(hp:bG vars ns.length)(hc:∀y∈ns,1<=y.J/\y.J<=4):eC (bd (ay ns) vars) :=
 lY (x:=⟨0,vars,[]⟩) h8 hp hc
def Of (d:S5)(hf:Th d)(h8:d.I.length<=8)(hc:∀y∈d.I,1<=y.J/\y.J<=4)(H:S2)(K:S8->S2->Prop)(hK:K (.ret (.lit (.bool (iP (tA d))))) H):ae prog G0 50 [iH d] H K:=by
 refine ae.nl ⟨_,func50,rfl,rfl⟩ fun hcl=>?_;have hul:=hf.Q.1;have no:¬tA d->∀H',S6 H H'->av prog G0 H K (.lit (.bool false)) H':=fun h H' ov=>av.bQ aZ hcl ov (.lit _) (by rw[ga h]at hK;exact hK);refine ae.st (n:=74) (rs:=[.tmp 2]) func50 ?_;simp only[go_sem,nL,dN];obtain⟨H1,hH1⟩:∃H1,H1=ext H [.L 0 39 [.lit (.int .i64 d.X),.M d.I.length (aL d.I),.lit (.int .u64 (d.Z:Int)),.M d.Q.length (aP d.Q)]]:=⟨_,rfl⟩
 have l1:H1.nn H.C 0=some (39,[.lit (.int .i64 d.X),.M d.I.length (aL d.I),.lit (.int .u64 (d.Z:Int)),.M d.Q.length (aP d.Q)]):=by rw[hH1];exact ag (cS ..)
 have n1:H1.C=H.C+1:=hH1▸rfl
 have o1:S6 H H1:=hH1▸.ext _ _
 rw[<- hH1];refine W.aS 9444732965739290166632 (by rfl) (fun ρ H'=>∃k:Nat,ρ 18=aa k/\k<=d.Q.length/\S6 H1 H'/\ρ 3=.lit (.bool (decide ((d.Q.length:Int)<=4)))/\(0<k->d.Q.length<=4)/\∀u∈d.Q.take k,Tp d.I u) (fun ρ H=>d.Q.length-(iv (ρ 18)).toNat) ?_ ?_
 ·simp only[go_sem];exact⟨0,rfl,U,.refl _,U,SX⟩
 rintro ρ H' ⟨k,h18,hk,ov,h3,hk4,hall⟩;refine W.en (fun E=>E 1=.Y H.C 0 0 /\ E 3=.lit (.bool (decide ((d.Q.length:Int)<=4))) /\ E 16=.M d.Q.length (aP d.Q) /\ E 17=aa d.Q.length /\ E 18=aa k) (by simp only[go_sem,h3,h18]) fun E ⟨e1,e3,e16,e17,e18⟩=>?_
 refine W.vs ?_;have ovn:=ov.C;have l2:=(ov.nn (g:=0) (by omega:H.C<H1.C)).trans l1;by_cases hb:(k:Int)<d.Q.length;rotate_left
 ·rw[PF U]at hall;by_cases h4:(d.Q.length:Int)<=4
  ·simp only[go_sem,e3,e17,e18,hb,h4];rw[fB ⟨U,hall⟩]at hK;exact av.bQ aZ hcl (o1.trans ov) (.lit _) hK
  ·simp only[go_sem,e3,e17,e18,hb,h4];exact no (fun h=>by have:=h.1;omega) _ (o1.trans ov)
 obtain⟨u,hu⟩:=aw (l:=d.Q) (i:=k) U;have hum:=PA hu;obtain⟨f1,f2⟩:=hf.Q.2 u hum;have hne:=sT hu;have p0:=wD hu;have p1:k*2+2<=(aP d.Q).length:=by rw[jL];omega
 have ove:∀L,S6 H (ext H' L):=fun L=>(o1.trans ov).trans (.ext _ _);by_cases h4:(d.Q.length:Int)<=4;rotate_left
 ·simp only[go_sem,e3,e16,e17,e18,hb,h4,hne,p0,p1];exact no (fun h=>by have:=h.1;omega) _ (ove _)
 have l3:∀L,(ext H' L).nn H.C 0=_:=fun L=>(dU U).trans l2;simp only[go_sem,e1,e3,e16,e17,e18,hb,h4,hne,p0,p1,l3];obtain⟨H2,hH2⟩:∃H2,H2=ext H' [.L 0 85 [.M u.vars.length (ints u.vars),.M u.w.length (ints u.w)]]:=⟨_,rfl⟩
 have m1:H2.nn H'.C 0=some (85,[.M u.vars.length (ints u.vars),.M u.w.length (ints u.w)]):=by rw[hH2];exact ag cf
 have m2:=l3 [.L 0 85 [.M u.vars.length (ints u.vars),.M u.w.length (ints u.w)]];rw[<- hH2]at m2;have n2:H2.C=H'.C+1:=by rw[hH2];rfl
 have ov2:S6 H H2:=by rw[hH2];exact ove _
 rw[<- hH2];refine aH.nl (BK u.vars d.I.length U _ _ ⟨trivial,?_⟩);by_cases c1:bG u.vars d.I.length;rotate_left
 ·simp only[go_sem,c1];exact no (fun h=>c1 (h.2 u hum).vars) _ ov2
 have sm:=tB h8 c1 hc;have pl:(bd (ay d.I) u.vars).length=u.vars.length:=jV _ _;have v8:=c1.len;simp only[go_sem,c1,m1];refine W.aS 562881233944896 (by rfl) (fun ρ' H3=>H3=H2/\∃j:Nat,ρ' 36=aa j/\j<=u.vars.length/\ρ' 6=aa (aK ((bd (ay d.I) u.vars).take j))) (fun ρ' H=>u.vars.length-(iv (ρ' 36)).toNat) ?_ ?_
 ·simp only[go_sem];exact⟨0,rfl,U,by simp[kJ]⟩
 rintro ρ' H3 ⟨rfl,j,h36,hj,h6⟩;refine W.vs ?_;by_cases hb2:(j:Int)<u.vars.length
 ·obtain⟨q,hq⟩:=aw (l:=u.vars) (i:=j) U;obtain⟨i,rfl,y,hy⟩:=nE (l:=d.I) (c1.2 q (PA hq)).1 (c1.2 q (PA hq)).2;have hne2:=bg hq;have hne3:=eo hy;have ey:=jK hy;have hi:(i:Int)<d.I.length:=by have:=aI hy;omega
  have pk:(bd (ay d.I) u.vars)[j]?=some y.J:=by rw[xd hq,Int.toNat_natCast,cw (dp hy)]
  have b1:=(sm.take (j+1)).prod;rw[aT pk,fI]at b1;have w1:=PD ((j:Int)+1) U;have w2:=PD (aK ((bd (ay d.I) u.vars).take j)*y.J) U;simp only[go_sem,h36,h6,e1,m2,hb2,hq,hne2,hne3,hi,ey,w1,w2];exact⟨⟨j+1,SX,U,by rw[aT pk,fI]⟩,U⟩
 rw[PF U]at h6;by_cases c2:(u.w.length:Int)=aK (bd (ay d.I) u.vars);rotate_left
 ·simp only[go_sem,h36,h6,m1,hb2,c2];exact no (fun h=>c2 (h.2 u hum).size) _ ov2
 simp only[go_sem,h36,h6,m1,hb2,c2];refine W.aS 4721790022117341791240 (by rfl) (fun ρ2 H4=>H4=H3/\∃i:Nat,ρ2 59=aa i/\i<=u.w.length/\ρ2 3=.lit (.bool true)/\∀w∈u.w.take i,-100<=w/\w<=100) (fun ρ2 H=>u.w.length-(iv (ρ2 59)).toNat) ?_ ?_
 ·simp only[go_sem];exact⟨0,rfl,U,SX⟩
 rintro ρ2 H4 ⟨rfl,i,h59,hi,h3',hw⟩;refine W.vs ?_;have hpr:=sm.prod;by_cases hb3:(i:Int)<u.w.length<;>have hb3':=hb3<;>rw[c2]at hb3'
 ·obtain⟨a,ha⟩:=aw (l:=u.w) (i:=i) U;have ham:=PA ha;have hane:=bg ha;by_cases d1:a >= -100;rotate_left
  ·simp only[go_sem,h59,h3',hb3,hb3',ha,hane,d1];exact no (fun h=>by have:=(h.2 u hum).w a ham;omega) _ ov2
  by_cases d2:a<=100;rotate_left
  ·simp only[go_sem,h59,h3',hb3,hb3',ha,hane,d1,d2];exact no (fun h=>by have:=(h.2 u hum).w a ham;omega) _ ov2
  have w1:=PD ((i:Int)+1) U;simp only[go_sem,h59,h3',hb3,hb3',ha,hane,d1,d2,w1];refine⟨⟨i+1,SX,U,fun w hw'=>?_⟩,U⟩;rw[aT ha]at hw';rcases PT.1 hw' with hw'|hw'
  ·exact hw w hw'
  ·obtain rfl:=List.mem_singleton.1 hw';exact⟨U,U⟩
 ·have w1:=PD ((k:Int)+1) U;rw[PF U]at hw;simp only[go_sem,h59,h3',e18,hb3',w1];refine⟨U,⟨k+1,SX,U,by rw[hH2];exact ov.trans (.ext _ _),fun _=>U,fun y hy=>?_⟩,by rw[h18];simp only[aa,aM];omega⟩;rw[aT hu]at hy;rcases PT.1 hy with hy|hy
  ·exact hall y hy
  ·obtain rfl:=List.mem_singleton.1 hy;exact⟨c1,c2,hw⟩
structure Tj (d:S5):Prop where
 n:Te d
 net:To d.X (dY d fun _ _=>0)
 Q:tA d
def pQ (g J x:Int):(aR g J x).length=J.toNat:=by simp[aR]
def xa {c:Nat->Nat->Int}(h:y∈dY d c):∃v x,d.I[v]?=some x/\y=fK d c (aC d).length v x:=by
 obtain⟨v,hv⟩:=PU.1 h;have hl:=aI hv;rw[show (dY d c).length=d.I.length from iK _ _ _]at hl;obtain⟨x,hx⟩:=aw hl;have:=kO (c:=c) (k:=(aC d).length) hx;rw[show cN d c (aC d).length=dY d c from rfl,hv]at this;exact⟨v,x,hx,Option.some.inj this⟩
def Og (hf:Th d)(hR:Te d)(c:Nat->Nat->Int):nM (dY d c):=by
 refine⟨by rw[show (dY d c).length=d.I.length from iK _ _ _];exact hf.I.1,fun y hy=>?_⟩;obtain⟨v,x,hx,rfl⟩:=xa hy;have hxm:=PA hx;obtain⟨f1,f2,f3⟩:=hf.I.2 x hxm;unfold fK;split
 ·rename_i h;obtain⟨x1,x2⟩:=hR.dec v x hx h.1;have ps:=(lY hR.n1.2 x2 hR.J).prod;have hc:=hR.J x hxm;refine⟨f1,?_,fun r hr=>?_⟩
  ·show ((x.O++eL d.X d.I c (cM d.Z v) x).length:Int)<_;rw[x1];simp only[eL,List.nil_append,PR,Rf,cZ];omega
  ·rw[show ({ x with O:=x.O++eL d.X d.I c (cM d.Z v) x }:S3).O=x.O++eL d.X d.I c (cM d.Z v) x from rfl,x1,List.nil_append]at hr;obtain⟨i,_,rfl⟩:=P3.1 hr;rw[pQ];omega
 ·exact⟨f1,f2,f3⟩
def Oh (d:S5)(hf:Th d)(H:S2)(K:S8->S2->Prop)(hK:K (.ret (aa (if iP (Tj d) then 0 else 200))) H):ae prog G0 11 [iH d] H K:=by
 refine ae.nl ⟨_,func11,rfl,rfl⟩ fun hcl=>?_;have no:¬Tj d->∀H',S6 H H'->av prog G0 H K (.lit (.int .i64 200)) H':=fun h H' ov=>av.bQ aZ hcl ov (.lit _) (by rw[ga h]at hK;exact hK);have hg:Tj d->1<=d.X/\d.X<=60:=fun h=>h.net.g1;refine ae.st (n:=25) (rs:=[.tmp 2]) func11 ?_;simp only[go_sem,nL,dN];obtain⟨H1,hH1⟩:∃H1,H1=ext H [.L 0 39 [.lit (.int .i64 d.X),.M d.I.length (aL d.I),.lit (.int .u64 (d.Z:Int)),.M d.Q.length (aP d.Q)]]:=⟨_,rfl⟩
 have l1:H1.nn H.C 0=some (39,[.lit (.int .i64 d.X),.M d.I.length (aL d.I),.lit (.int .u64 (d.Z:Int)),.M d.Q.length (aP d.Q)]):=by rw[hH1];exact ag (cS ..)
 have o1:S6 H H1:=hH1▸.ext _ _
 rw[<- hH1];by_cases c1:d.X<1
 ·simp only[go_sem,c1];exact no (fun h=>by have:=hg h;omega) _ o1
 by_cases c2:d.X > 60
 ·simp only[go_sem,l1,c1,c2];exact no (fun h=>by have:=hg h;omega) _ o1
 simp only[go_sem,l1,c1,c2];refine aH.nl (N9 d hf _ _ ⟨trivial,?_⟩);by_cases c3:Te d;rotate_left
 ·rw[ga c3];simp only[go_sem];exact no (fun h=>c3 h.n) _ o1
 rw[fB c3];simp only[go_sem,l1];refine aH.nl (Oe d hf c3 (fun _ _=>0) _ [] _ (fun i h=>by cases h) rfl rfl (fun p r v x H2 _ hx _ _=>⟨⟨Int.le_refl 0,by have:=c3.J x (PA hx);omega⟩,cD.pure fun H3=>N8 _ _ H3 _ ⟨rfl,rfl⟩⟩) _ ⟨trivial,?_⟩);simp only[go_sem];refine aH.nl (OF d.X _ (Og hf c3 _) _ _ ⟨trivial,?_⟩);by_cases c4:To d.X (dY d fun _ _=>0);rotate_left
 ·rw[pU c4];simp only[go_sem];exact no (fun h=>c4 h.net) _ o1
 rw[pT c4];simp only[go_sem,l1];refine aH.nl (Of d hf c3.n1.2 c3.J _ _ ⟨trivial,?_⟩);by_cases c5:tA d;rotate_left
 ·rw[ga c5];simp only[go_sem];exact no (fun h=>c5 h.Q) _ o1
 rw[fB c5];simp only[go_sem];rw[fB (⟨c3,c4,c5⟩:Tj d)]at hK;exact av.bQ aZ hcl o1 (.lit _) hK
structure PolOk (d:S5)(p:List (List Int)):Prop where
 len:p.length=(aC d).length
 row:∀(k v:Nat) (x:S3) (l:List Int),(aC d)[k]?=some v->d.I[v]?=some x->p[k]?=some l->l.length=cZ d.I x/\∀a∈l,0<=a/\a<x.J
def fixC (p:List (List Int))(k r:Nat):Int:=(p.getD k []).getD r 0
end Go.Proofs
namespace Go.Hx
variable {P:Program} {G:Nat->Option (List S1)} {n:Nat} {rd:Option Nat} {Q:AX->St->Prop}
end Go.Hx
namespace Go.Proofs
open Go.Hx Try
variable {v:Nat}{c:Nat->Nat->Int}{x:S3}{d:S5}
def A6 (ns:List S3)(x:S3)(vals:List Int):List Int:=x.O.getD (pI (bc ns x) (bd vals x.F)).toNat []
def A7 (ns:List S3)(vals:List Int)(v:Nat):Int:=match ns[v]? with
 |some x=>(A6 ns x vals).getD (vals.getD v 0).toNat 0
 |none=>1
def MI (ns:List S3):Nat:=(aK (ay ns)).toNat
def MJ (ns:List S3)(vals:List Int)(u:Tl):Int:=u.w.getD (pI (bd (ay ns) u.vars) (bd vals u.vars)).toNat 0
def MK (ns:List S3)(us:List Tl)(vals:List Int):Int:=(us.map (MJ ns vals)).sum
structure RowAtW (g:Int)(ns:List S3)(x:S3)(vals:List Int)(v:Nat)(i:Nat)(r:List Int)(a w:Int):Prop where
 idx:pI (bc ns x) (bd vals x.F)=i
 row:x.O[i]?=some r
 val:vals[v]?=some a
 a0:0<=a
 hw:r[a.toNat]?=some w
 wb:0<=w/\w<=g
 eq:A7 ns vals v=w
 rv:A6 ns x vals=r
 len:(r.length:Int)=x.J
 al:a<r.length
def Oa {g J a:Int}(hg:0<=g)(ha:0<=a/\a<J):hX g J (aR g J a):=by
 refine⟨by rw[pQ];omega,fun w hw=>?_,?_⟩
 ·unfold aR at hw;rcases P1 hw with h|h
  ·have:=Qf h;omega
  ·omega
 ·unfold aR;have key:∀(n i:Nat),i<n->((List.replicate n (0:Int)).set i g).sum=g:=by
   intro n
   induction n with
   |zero=>intro i h;omega
   |succ n ih =>
    intro i h;cases i with
    |zero=>simp[QT]
    |succ i=>rw[QT,List.set_cons_succ,Ru,ih i U];omega
  exact key _ _ (U)
def tz (d:S5)(c:Nat->Nat->Int):ay (dY d c)=ay d.I:=MF
def lW (d:S5)(c:Nat->Nat->Int):(dY d c).length=d.I.length:=iK _ _ _
def lX (h:d.I[v]?=some x):(dY d c)[v]?=some (fK d c (aC d).length v x):=kO h
def w6 (d:S5)(c:Nat->Nat->Int)(x:S3):bc (dY d c) x=bc d.I x:=by unfold bc;rw[tz]
def Ob (d:S5)(c:Nat->Nat->Int):aX (dY d c)=aX d.I:=by
 apply Qn;intro v;unfold aX;rw[List.getElem?_map,List.getElem?_map];rcases PZ v d.I.length with h|h
 ·obtain⟨x,hx⟩:=aw h;rw[lX hx,hx];simp only[Option.map_some,(lO d c _ v x).2]
 ·rw[PN (by rw[lW];exact h),PN h]
def Oc (hx:d.I[v]?=some x)(hb:d.Z.testBit v=true):(aC d)[cM d.Z v]?=some v:=sZ (aI hx) hb
def w7 (hx:d.I[v]?=some x)(hb:d.Z.testBit v=true):fK d c (aC d).length v x={ x with O:=x.O++eL d.X d.I c (cM d.Z v) x } :=
 PG ⟨hb,aI (Oc hx hb)⟩
def pP {k:Nat}(hb:¬d.Z.testBit v=true):fK d c k v x=x:=PC fun h=>hb h.1
end Go.Proofs
namespace Go.Proofs.R01
open Go.Hx Try
section
variable {P:Program} {t:TypeId} {x y:Operand} {k k':IntKind} {a b:Int}
def pureRun_bind {α β:Type}{s:Sem α}{f:α->Sem β}{a:α}(h:bW P s=some a):bW P (s >>= f)=bW P (f a):=by
 induction s with
 |pure b=>simp only[bW,Option.some.injEq]at h;subst h;rfl
 |program k ih=>exact ih P h
 |mark m k ih=>exact ih h
 |_=>simp[bW]at h
end
section
variable {P:Program} {G:Nat->Option (List S1)}
end
end Go.Proofs.R01
namespace Go.Proofs.R01
open Go.Hx Try
def val:List Int -> Nat
  | [] => 0
  |a :: l => a.toNat + 10000 * val l
end Go.Proofs.R01
namespace Go.Proofs.R01
open Go.Hx Try
def lV {H H' H2:S2}{v:S1}{cs:List S1}{e:TypeId}(ov:S6 H H')(h:au H.C H' e v cs)(hn:H'.C <= H2.C)(hp:∀k,k < H'.C -> (∀g n,v ≠ .V k g 0 n 1) -> H2.get k=H'.get k):S6 H H2 :=
  ⟨by have := ov.C;omega,fun id hid => by
    rw[hp id (by have := ov.C;omega) fun g n he => ?_,ov.nf id hid]
    rcases h with ⟨h,_⟩ |⟨i2,g2,a1,_,h,_⟩
    · rw[h]at he;cases he
    · rw[h]at he;have := S1.V.inj he;omega⟩
end Go.Proofs.R01
namespace Go.Proofs.R01
open Go.Hx Try
end Go.Proofs.R01
namespace Go.Proofs.R01
open Go.Hx Try
def jl {l:List Int}{k:Nat}(v:Int)(h:k<l.length):setAt (ints l) k [.lit (.int .i64 v)]=ints (l.set k v):=by
 unfold setAt ints;rw[Sb,Sh,PG (by simpa using h)];simp[aa]
end Go.Proofs.R01
namespace Go.Proofs.R01
open Go.Hx Try
end Go.Proofs.R01
namespace Go.Proofs.R01
open Go.Hx Try
end Go.Proofs.R01
namespace Go.Proofs.R01
open Go.Hx Try
end Go.Proofs.R01
namespace Go.Proofs.R01
open Go.Hx Try
end Go.Proofs.R01
namespace Go.Proofs
open Go.Hx Try
def bJ (l:List Int):List S1:=l.map fun n=>.lit (.int .u8 n)
def sK {l:List Int}{k:Nat}{a:Int}(h:l[k]?=some a):(bJ l)[k]?=some (.lit (.int .u8 a)):=by unfold bJ;rw[List.getElem?_map,h];rfl
end Go.Proofs
namespace Go.Hx
variable {P:Program} {H H':S2}
def nH {t e:TypeId}{lo n m:Nat}{v x:S1}{cs src:List S1}{z:List S1}(ht:P.underlying t=some (.slice e))(hz:P.cellsOf e=1)(hzero:bH P e=some z)(hsrc:bR H 1 x=some (m,src))(hm:src.length=m)(hx:src.all S1.one=true)
  (hb:(cs.length+m)*P.bytesOf e<=2 ^ 47/\cs.length+m<=2 ^ 47) (ho:au lo H e v cs) (hlo:lo<=H.C) (hn:n=H.C):
  ∃v' H',bf P H n t t v x=some (v',H')/\au lo H' e v' (cs++src)/\H.C<=H'.C/\(∀k,k<H.C->(∀g n,v≠.V k g 0 n 1)->H'.get k=H.get k):=by
 subst hm;obtain⟨v',H',hA,h2⟩:=qY (H:=H) (n:=n) ht hz hzero hx hb ho hlo hn;refine⟨v',H',?_,h2⟩;rw[<- hA];have e2:bR H 1 (.M src.length src)=some (src.length,src):=by unfold bR;simp
 unfold bf;rw[ht];simp only[hz,hsrc,e2]
end Go.Hx
namespace Go.Proofs
open Go.Hx Try
def U8 (n:Int):Prop:=0<=n/\n<256
def MW (n:Nat)(hn:n<=5)(ord:List Int)(H:S2)(K:S8->S2->Prop)(hK:K (.ret (af (List.replicate n 1))) H):
  ae prog G0 101 [.agg [.M n (bJ (List.replicate n 0)),(.lit (.int .u16 0)),.M ord.length (bJ ord)]] H K:=by
 refine ae.nl ⟨_,func101,rfl,rfl⟩ fun hcl=>?_;refine ae.st (n:=28) (rs:=[.tmp 2]) func101 ?_;simp only[go_sem];obtain⟨H1,hH1⟩:∃H1,H1=ext H [.L 0 139 [.M n (bJ (List.replicate n 0)),.lit (.int .u16 0),.M ord.length (bJ ord)]]:=⟨_,rfl⟩
 have l1:=ag (show H1.get H.C=some (.L 0 139 [.M n (bJ (List.replicate n 0)),.lit (.int .u16 0),.M ord.length (bJ ord)]) by rw[hH1];exact cS ..);have n1:H1.C=H.C+1:=hH1▸rfl
 have o1:S6 H H1:=hH1▸.ext _ _
 rw[<- hH1];refine W.aS 134217720 (by rfl) (fun ρ H'=>∃k:Nat,ρ 4=aa k/\k<=n/\S6 H1 H'/\au H1.C H' 3 (ρ 3) (ints (List.replicate k 1))) (fun ρ H=>n-(iv (ρ 4)).toNat) ?_ ?_
 ·simp only[go_sem];exact⟨0,rfl,U,.refl _,.nil⟩
 rintro ρ H' ⟨k,h4,hk,ov,h3⟩;refine W.en (fun E=>E 1=.Y H.C 0 0 /\ E 3=ρ 3 /\ E 4=aa k) (by simp only[go_sem,h4]) fun E ⟨e1,e3,e4⟩=>?_
 refine W.vs ?_;have l2:=(ov.nn (g:=0) (by omega:H.C<H1.C)).trans l1;by_cases hb:(k:Int)<n
 ·have h5:(k:Int)<5:=U
  have hg:(bJ (List.replicate n 0))[k]?=some (.lit (.int .u8 0)):=sK (by rw[RZ,PG U]);have hne:=bg hg;obtain⟨v',H2,hA,ov2,hO,hn2,_⟩:=gO 1 ov h3 (by simp;omega);have w1:=PD ((k:Int)+1) U;have hk0:(k:Int) >= 0:=U
  have w5:IntKind.i64.wrap (1+IntKind.i64.wrap (Int.tmod 0 4))=1:=SY
  simp only[go_sem,e1,e3,e4,l2,hb,h5,hk0,hg,hne,w1,w5,hA];refine⟨by have:=ov2.C;omega,⟨k+1,rfl,U,ov2,?_⟩,by rw[h4];simp only[aa,aM];omega⟩;rw[Sc];exact hO
 ·simp only[go_sem,e1,e3,e4,l2,hb];obtain rfl:k=n:=U
  exact av.bQ aZ hcl (o1.trans ov) (h3.dI fun i hi=>U) hK
structure TB (n:Nat)(p:List Int):Prop where
 len:p.length=n
 nd:p.Nodup
 no:∀x∈p,0<=x/\x<n
def MX {n:Nat}{p:List Int}(h:TB n p)(at':Nat)(ha:at'<=n):TB (n+1) (p.take at'++(n:Int) :: p.drop at'):=by
 have hperm:(p.take at'++(n:Int) :: p.drop at').Perm ((n:Int) :: p):=by
  have:=List.perm_middle (a:=(n:Int)) (l₁:=p.take at') (l₂:=p.drop at')
  rwa [P9]at this
 refine⟨by rw[hperm.length_eq];simp[h.len],(hperm.nodup_iff).2 (Rq.2 ⟨fun hm=>?_,h.nd⟩),fun x hx=>?_⟩
 ·have:=h.no _ hm;omega
 ·rcases List.mem_cons.1 (hperm.mem_iff.1 hx) with rfl|h2
  ·omega
  ·have:=h.no x h2;omega
def jN (ord:List Int)(k:Nat):Nat:=if k<ord.length then (ord.getD k 0 % ((k:Int)+1)).toNat else 0
def ew (ord:List Int):Nat->List Int
 |0=>[]
 |k+1=>(ew ord k).take (jN ord k)++(k:Int) :: (ew ord k).drop (jN ord k)
def MY (ord:List Int)(k:Nat):jN ord k<=k:=by
 unfold jN;split
 ·have:=Ro (ord.getD k 0) (show 0<(k:Int)+1 by omega);omega
 ·omega
theorem wO (ord:List Int):∀n:Nat,TB n (ew ord n)
 |0=>⟨rfl,by simp[ew],by simp[ew]⟩
 |n+1=>MX (wO ord n) _ (MY ord n)
def MZ (n:Nat)(hn:n<=5)(ord:List Int)(hol:(ord.length:Int)<2 ^ 63)(ho8:∀x∈ord,U8 x)(H:S2)(K:S8->S2->Prop)(hK:∀v H',S6 H H'->au H.C H' 3 v (ints (ew ord n))->K (.ret v) H'):
  ae prog G0 83 [.agg [.M n (bJ (List.replicate n 0)),.lit (.int .u16 0),.M ord.length (bJ ord)]] H K:=by
 refine ae.nl ⟨_,func83,rfl,rfl⟩ fun hcl=>?_;refine ae.st (n:=42) (rs:=[.tmp 2]) func83 ?_;simp only[go_sem];obtain⟨H1,hH1⟩:∃H1,H1=ext H [.L 0 139 [.M n (bJ (List.replicate n 0)),.lit (.int .u16 0),.M ord.length (bJ ord)]]:=⟨_,rfl⟩
 have l1:=ag (show H1.get H.C=some (.L 0 139 [.M n (bJ (List.replicate n 0)),.lit (.int .u16 0),.M ord.length (bJ ord)]) by rw[hH1];exact cS ..);have n1:H1.C=H.C+1:=hH1▸rfl
 have o1:S6 H H1:=hH1▸.ext _ _
 rw[<- hH1];refine W.aS 2199023255544 (by rfl) (fun ρ H'=>∃(k:Nat) (p:List Int),ρ 4=aa k/\k<=n/\p=ew ord k/\S6 H1 H'/\au H1.C H' 3 (ρ 3) (ints p)) (fun ρ H=>n-(iv (ρ 4)).toNat) ?_ ?_
 ·simp only[go_sem];exact⟨0,[],rfl,U,rfl,.refl _,.nil⟩
 rintro ρ H' ⟨k,p,h4,hk,hpe,ov,h3⟩;have hp:TB k p:=by rw[hpe];exact wO ord k
 refine W.en (fun E=>E 1=.Y H.C 0 0 /\ E 3=ρ 3 /\ E 4=aa k) (by simp only[go_sem,h4]) fun E ⟨e1,e3,e4⟩=>?_
 refine W.vs ?_;have l2:=(ov.nn (g:=0) (by omega:H.C<H1.C)).trans l1;simp only[go_sem,e1,l2];refine aH.nl (MW n hn ord _ _ ⟨trivial,?_⟩);by_cases hb:(k:Int)<n;rotate_left
 ·simp only[go_sem,P5,e3,e4,hb];obtain rfl:k=n:=U
  exact av.mk (o1.trans ov).C (hK _ _ (o1.trans ov) (by rw[<- hpe];exact h3.na U S0 fun _ _ _ _ _ _=>rfl))
  -- the place
 rcases h3 with ⟨h3n,hpn⟩|⟨oi,og,hoi1,hoi2,h3o,hog⟩
 ·have p0:p=[]:=by cases p with
   |nil=>rfl
   |cons a l=>simp[ints]at hpn
  have pl:=hp.len;rw[p0]at pl;obtain rfl:k=0:=by simpa using pl.symm
  rw[h3n]at e3;have e4':E 4=aa 0:=e4;have hb':(0:Int)<n:=hb;by_cases ho:(0:Int)<ord.length
  ·obtain⟨b,hbg⟩:=aw (l:=ord) (i:=0) U;have b8:=ho8 b (PA hbg);have hbg':=sK hbg;have hbne:=bg hbg';have w2:IntKind.i64.wrap b=b:=PD b (by have:=b8.1;have:=b8.2;omega);have w1:IntKind.i64.wrap 1=1:=SY;have m1:b.tmod 1=0:=SX;obtain⟨v2,Hb,hA2,ovB,hO2,hn2,hp2⟩:=gO (H:=H') (H':=H') (l:=[]) (v:=.lit (.slice none 0 0)) (0:Int) (.refl _) au.nil SX;obtain⟨v3,Hc,hA3,hO3,hn3,hp3⟩:=nH (P:=prog) (H:=Hb) (t:=59) (n:=Hb.C) (m:=0) (v:=v2) (x:=.lit (.slice none 0 0)) (src:=[]) Try.underlying59 Try.dx Try.dL rfl rfl rfl (by rw[Try.ei];exact⟨SY,SY⟩) hO2 ovB.C rfl;have ovC:S6 H' Hc:=lV ovB hO2 hn3 hp3;have hA1:bf prog H' H'.C 59 59 (.lit (.slice none 0 0)) (.lit (.slice none 0 0))=some (.lit (.slice none 0 0),H'):=by
    unfold bf;rw[Try.underlying59];simp only[Try.dL,Try.dx,Option.bind_some,u7,if_true]
   have hO3':au H1.C Hc 3 v3 (ints [0]):=by
    rw[List.append_nil]at hO3;exact hO3.na ov.C S0 fun _ _ _ _ _ _=>rfl
   simp only[go_sem,P5,e1,e3,e4',l2,hb',ho,hbg',hbne,w1,w2,m1,hA1,hA2,hA3];refine⟨by have:=ovC.C;have:=ov.C;omega,⟨1,[0],rfl,U,by simp[ew],ov.trans ovC,hO3'⟩,by rw[h4];simp only[aa,aM];omega⟩
  ·have w1:IntKind.i64.wrap 1=1:=SY;obtain⟨v2,Hb,hA2,ovB,hO2,hn2,hp2⟩:=gO (H:=H') (H':=H') (l:=[]) (v:=.lit (.slice none 0 0)) (0:Int) (.refl _) au.nil SX;obtain⟨v3,Hc,hA3,hO3,hn3,hp3⟩:=nH (P:=prog) (H:=Hb) (t:=59) (n:=Hb.C) (m:=0) (v:=v2) (x:=.lit (.slice none 0 0)) (src:=[]) Try.underlying59 Try.dx Try.dL rfl rfl rfl (by rw[Try.ei];exact⟨SY,SY⟩) hO2 ovB.C rfl;have ovC:S6 H' Hc:=lV ovB hO2 hn3 hp3;have hA1:bf prog H' H'.C 59 59 (.lit (.slice none 0 0)) (.lit (.slice none 0 0))=some (.lit (.slice none 0 0),H'):=by
    unfold bf;rw[Try.underlying59];simp only[Try.dL,Try.dx,Option.bind_some,u7,if_true]
   have hO3':au H1.C Hc 3 v3 (ints [0]):=by
    rw[List.append_nil]at hO3;exact hO3.na ov.C S0 fun _ _ _ _ _ _=>rfl
   simp only[go_sem,P5,e1,e3,e4',l2,hb',ho,w1,hA1,hA2,hA3];refine⟨by have:=ovC.C;have:=ov.C;omega,⟨1,[0],rfl,U,by simp[ew],ov.trans ovC,hO3'⟩,by rw[h4];simp only[aa,aM];omega⟩
 rw[h3o]at e3;have lo:=ag hog;by_cases ho:(k:Int)<ord.length
 ·obtain⟨b,hbg⟩:=aw (l:=ord) (i:=k) U;have b8:=ho8 b (PA hbg);have hbg':=sK hbg;have hbne:=bg hbg';have w0:=PD ((k:Int)+1) U;have w1:=w0;have w2:IntKind.i64.wrap b=b:=PD b (by have:=b8.1;have:=b8.2;omega);have m1:b.tmod ((k:Int)+1)=b % ((k:Int)+1):=P8 b8.1;have m2:=Rr b (show (k:Int)+1≠0 by omega);have m3:=Ro b (show 0<(k:Int)+1 by omega);have hz:¬(k:Int)+1=0:=U
  obtain⟨a,hat⟩:=PP m2;have ha:a<=k:=U
  have hac:(0:Int)<=(a:Int):=U
  have hap:(a:Int)<=(p.length:Int):=by rw[hp.len];omega
  have hak:(0:Int)<=(a:Int)/\(a:Int)<=(p.length:Int):=⟨hac,hap⟩
  have pl:p.length=k:=hp.len;obtain⟨v1,Ha,hA1,hO1,hn1,hp1⟩:=nH (P:=prog) (H:=H') (t:=59) (n:=H'.C) (m:=a) (v:=.lit (.slice none 0 0)) (x:=.V oi og 0 a 1) (src:=(ints p).take a) Try.underlying59 Try.dx Try.dL
   (by rw[oS,PG rfl,lo];simp) (by simp[aY]<;>omega) (P6.2 fun c hc=>by
    obtain⟨z,_,rfl⟩:=P3.1 (P0 hc);rfl) (by rw[Try.ei];simp<;>omega) au.nil S0 rfl
  have ovA:S6 H' Ha:=⟨hn1,fun id hi=>hp1 id hi fun g n h=>by cases h⟩
  rw[List.nil_append,BZ]at hO1;obtain⟨v2,Hb,hA2,ovB,hO2,hn2,hp2⟩:=gO (k:Int) ovA hO1 (by simp<;>omega);have hcl2:(ints (p.take a++[(k:Int)])).length<=k+1:=by rw[aY,List.length_append,PQ];simp<;>omega
  have hlb:Hb.nn oi og=some (3,ints p):=(ovB.nn hoi2).trans lo;obtain⟨v3,Hc,hA3,hO3,hn3,hp3⟩:=nH (P:=prog) (H:=Hb) (t:=59) (n:=Hb.C) (m:=p.length-a) (v:=v2) (x:=.V oi og a (p.length-a) 1) (src:=(ints p).drop a) Try.underlying59 Try.dx Try.dL
   (by rw[oS,PG rfl,hlb];simp[PF,aY]) (by simp[aY]) (P6.2 fun c hc=>by
    obtain⟨z,_,rfl⟩:=P3.1 (Q2 hc);rfl) (by rw[Try.ei];omega) hO2 ovB.C rfl
  have ovC:S6 H' Hc:=lV ovB hO2 hn3 hp3;have hla:Ha.nn oi og=some (3,ints p):=(ovA.nn hoi2).trans lo;rw[B0]at hO3;have hO3':au H1.C Hc 3 v3 (ints (p.take a++(k:Int) :: p.drop a)):=by
   have:ints (p.take a++[(k:Int)])++ints (p.drop a)=ints (p.take a++(k:Int) :: p.drop a):=(by simp[ints]);rw[this]at hO3;exact hO3.na ov.C S0 fun _ _ _ _ _ _=>rfl
  simp only[go_sem,P5,e1,e3,e4,l2,hb,ho,hbg',hbne,w0,w2,m1,hz,hat,hac,hap,Int.toNat_natCast,lo,hlb,hA1,hA2,hA3];refine⟨by have:=ovC.C;omega,⟨k+1,_,rfl,U,by rw[ew,<- hpe,show jN ord k=a by unfold jN;rw[PG U,cw hbg,hat];rfl],ov.trans ovC,hO3'⟩,by rw[h4];simp only[aa,aM];omega⟩
 ·have w0:=PD ((k:Int)+1) U;have pl:p.length=k:=hp.len;obtain⟨v1,Ha,hA1,hO1,hn1,hp1⟩:=nH (P:=prog) (H:=H') (t:=59) (n:=H'.C) (m:=0) (v:=.lit (.slice none 0 0)) (x:=.V oi og 0 0 1) (src:=(ints p).take 0) Try.underlying59 Try.dx Try.dL
   (by rw[oS,PG rfl,lo];simp) (by simp[aY]<;>omega) (P6.2 fun c hc=>by
    obtain⟨z,_,rfl⟩:=P3.1 (P0 hc);rfl) (by rw[Try.ei];simp<;>omega) au.nil S0 rfl
  have ovA:S6 H' Ha:=⟨hn1,fun id hi=>hp1 id hi fun g n h=>by cases h⟩
  rw[List.nil_append,BZ]at hO1;obtain⟨v2,Hb,hA2,ovB,hO2,hn2,hp2⟩:=gO (k:Int) ovA hO1 (by simp<;>omega);have hcl2:(ints (p.take 0++[(k:Int)])).length<=k+1:=by rw[aY,List.length_append,PQ];simp<;>omega
  have hlb:Hb.nn oi og=some (3,ints p):=(ovB.nn hoi2).trans lo;obtain⟨v3,Hc,hA3,hO3,hn3,hp3⟩:=nH (P:=prog) (H:=Hb) (t:=59) (n:=Hb.C) (m:=p.length) (v:=v2) (x:=.V oi og 0 (p.length) 1) (src:=(ints p).drop 0) Try.underlying59 Try.dx Try.dL
   (by rw[oS,PG rfl,hlb];simp[PF,aY]) (by simp[aY]) (P6.2 fun c hc=>by
    obtain⟨z,_,rfl⟩:=P3.1 (Q2 hc);rfl) (by rw[Try.ei];omega) hO2 ovB.C rfl
  have ovC:S6 H' Hc:=lV ovB hO2 hn3 hp3;have hla:Ha.nn oi og=some (3,ints p):=(ovA.nn hoi2).trans lo;rw[B0]at hO3;have hO3':au H1.C Hc 3 v3 (ints (p.take 0++(k:Int) :: p.drop 0)):=by
   have:ints (p.take 0++[(k:Int)])++ints (p.drop 0)=ints (p.take 0++(k:Int) :: p.drop 0):=(by simp[ints]);rw[this]at hO3;exact hO3.na ov.C S0 fun _ _ _ _ _ _=>rfl
  simp only[go_sem,P5,e1,e3,e4,l2,hb,ho,w0,lo,hlb,hA1,hA2,hA3];refine⟨by have:=ovC.C;omega,⟨k+1,_,rfl,U,by rw[ew,<- hpe,show jN ord k=0 by unfold jN;rw[PC U]],ov.trans ovC,hO3'⟩,by rw[h4];simp only[aa,aM];omega⟩
end Go.Proofs
