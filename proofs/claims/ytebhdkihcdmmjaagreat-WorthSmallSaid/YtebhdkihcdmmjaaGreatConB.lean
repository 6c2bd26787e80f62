/- Own work: contracts. -/
import Derived.Test.YtebhdkihcdmmjaaGreatConA
set_option linter.all false
set_option maxHeartbeats 8000000
set_option maxRecDepth 100000
namespace Go.Proofs
open Go.Hx Tryz
variable {g:Int}{c:List Int}{ns:List ZJ}{D k n v:Nat}{p:Prop}{H H':ZH}{x:ZJ}{d:ZK}
def Aw:ZI:=.agg [.lit (.int .i64 0),af [],af [],af [],af []]
def Ax (g:Int)(ns:List ZJ):ZI:=.agg [.lit (.int .i64 g),eU ns,af (aw ns),jn (aC ns),af (aH ((fF (aC ns)).getD []))]
structure RdS (g:Int)(ns:List ZJ)(H H':ZH)(c:List Int)(s:List Nat):Prop where
 nx:H.A+5<=H'.A
 ov:ZM H H'
 b0:H'.get H.A=some (.J 0 90 [.lit (.int .i64 g),.Q ns.length (aI ns)])
 b1:H'.get (H.A+1)=some (.J 0 214 [.lit (.int .i64 0),.lit (.slice none 0 0),.lit (.slice none 0 0),.lit (.slice none 0 0),.lit (.slice none 0 0)])
 b2:H'.get (H.A+2)=some (.J 0 3 (ints c))
 b3:H'.get (H.A+3)=some (.J 0 34 (s.map aM))
 b4:H'.get (H.A+4)=some (.J 0 214 [.lit (.int .i64 g),.Q ns.length (aI ns),.U (H.A+2) 0 0 ns.length 1,.U (H.A+3) 0 0 ns.length 1,.lit (.slice none 0 0)])
 cl:c.length=ns.length
 sl:s.length=ns.length
def RdS.over {H2:ZH}{s:List Nat}(h:RdS g ns H H' c s)(o:ZM H' H2):RdS g ns H H2 c s where
 nx:=VO h.nx o.A
 ov:=h.ov.trans o
 b0:=(o.nf _ (by have:=h.nx;omega)).trans h.b0
 b1:=(o.nf _ (by have:=h.nx;omega)).trans h.b1
 b2:=(o.nf _ (by have:=h.nx;omega)).trans h.b2
 b3:=(o.nf _ (by have:=h.nx;omega)).trans h.b3
 b4:=(o.nf _ (by have:=h.nx;omega)).trans h.b4
 cl:=h.cl
 sl:=h.sl
def RdS.Tq {s:List Nat}(h:RdS g ns H H' c s)(hk:k<c.length)(x:Int):RdS g ns H (H'.upd (H.A+2) (.J 0 3 (setAt (ints c) k [.lit (.int .i64 x)]))) (c.set k x) s where
 nx:=h.nx
 ov:=h.ov.upd V _
 b0:=by rw[aj,Ve V];exact h.b0
 b1:=by rw[aj,Ve V];exact h.b1
 b2:=by rw[aj,Vf rfl,iS hk]
 b3:=by rw[aj,Ve V];exact h.b3
 b4:=by rw[aj,Ve V];exact h.b4
 cl:=by simpa using h.cl
 sl:=h.sl
def Tr {l:List Nat}{i:Nat}{x:Nat}(h:i<l.length):setAt (l.map aM) i [.lit (.int .u64 (x:Int))]=(l.set i x).map aM:=by
 rw[iY (by simpa using h)];simp[aM]
def RdS.Ts {s:List Nat}(h:RdS g ns H H' c s)(hk:k<s.length)(x:Nat):RdS g ns H (H'.upd (H.A+3) (.J 0 34 (setAt (s.map aM) k [.lit (.int .u64 (x:Int))]))) c (s.set k x) where
 nx:=h.nx
 ov:=h.ov.upd V _
 b0:=by rw[aj,Ve V];exact h.b0
 b1:=by rw[aj,Ve V];exact h.b1
 b2:=by rw[aj,Ve V];exact h.b2
 b3:=by rw[aj,Vf rfl,Tr hk]
 b4:=by rw[aj,Ve V];exact h.b4
 cl:=h.cl
 sl:=by simpa using h.sl
def RdS.l0 {s:List Nat}(h:RdS g ns H H' c s):H'.na H.A 0=some (90,[.lit (.int .i64 g),.Q ns.length (aI ns)]):=ah h.b0
def RdS.l1 {s:List Nat}(h:RdS g ns H H' c s):H'.na (H.A+1) 0=some (214,[.lit (.int .i64 0),.lit (.slice none 0 0),.lit (.slice none 0 0),.lit (.slice none 0 0),.lit (.slice none 0 0)]):=ah h.b1
def RdS.l2 {s:List Nat}(h:RdS g ns H H' c s):H'.na (H.A+2) 0=some (3,ints c):=ah h.b2
def RdS.l3 {s:List Nat}(h:RdS g ns H H' c s):H'.na (H.A+3) 0=some (34,s.map aM):=ah h.b3
def RdS.l4 {s:List Nat}(h:RdS g ns H H' c s):H'.na (H.A+4) 0=some (214,[.lit (.int .i64 g),.Q ns.length (aI ns),.U (H.A+2) 0 0 ns.length 1,.U (H.A+3) 0 0 ns.length 1,.lit (.slice none 0 0)]):=ah h.b4
def wQ {S:Nat->Prop}{nx:Nat}(ns:List ZJ):Fz S H nx (.Q ns.length (aI ns)) (.Q ns.length (aI ns)):=by
 refine .Q rfl fun i hi _=>?_;have:∀(l:List ZJ) (c:ZI),c∈aI l->Fz S H nx c c:=by
  intro l c hc;unfold aI at hc;obtain⟨r,hr,hc⟩:=XV.1 hc;obtain⟨x,_,rfl⟩:=Vu.1 hr;unfold ZJ.cells at hc;simp only[List.mem_cons,List.not_mem_nil,or_false]at hc;rcases hc with rfl|rfl|rfl
  ·exact .lit _
  ·exact .ee _
  ·exact .ba _
 exact this ns _ (Wb _)
def Tt (g:Int)(hg:1<=g/\g<=60)(ns:List ZJ)(sets:List Nat)(x:ZJ)(hin:iI x.F ns.length)(hsm:fh (aU ns x))(hx1:(x.nb.length:Int)<2 ^ 38)(hx2:∀r∈x.nb,(r.length:Int)<2 ^ 38)(H:ZH)(ci si:Nat)
  (h2:H.get ci=some (.J 0 3 (ints (aw ns)))) (h3:H.get si=some (.J 0 34 (sets.map aM))) (hs:sets.length=ns.length) (K:ZN->ZH->Prop)
  (hK:K (.ret (.lit (.bool (my g ns x)))) H):ae prog G0 174 [.agg [.lit (.int .i64 g),.Q ns.length (aI ns),.U ci 0 0 ns.length 1,.U si 0 0 ns.length 1,.lit (.slice none 0 0)],.agg [.lit (.int .i64 x.L),.Q x.F.length (ints x.F),ba x.nb]] H K:=by
 refine(ae.frame (H:=H) (args:=[.agg [.lit (.int .i64 g),.Q ns.length (aI ns),.U ci 0 0 ns.length 1,.U si 0 0 ns.length 1,.lit (.slice none 0 0)],.agg [.lit (.int .i64 x.L),.Q x.F.length (ints x.F),ba x.nb]]) (args':=[.agg [.lit (.int .i64 g),eU ns,af (aw ns),jn sets,.lit (.slice none 0 0)],tR x]) (v':=.lit (.bool (my g ns x))) aF rfl (fun i hi _=>?_) (Tn g hg ns sets x hin hsm hx1 hx2 cR _ ⟨_,rfl,.lit _⟩)).mono ?_
 ·match i,hi with
  |0,_ =>
   refine .agg rfl fun i hi _=>?_
   match i,hi with
   |0,_=>exact .lit _
   |1,_=>exact wQ _
   |2,_ =>
    have:=Fz.tS (nx:=0) h2 (n:=ns.length) (by rw[bE,eW]) (fun c hc=>by
     obtain⟨z,_,rfl⟩:=Vu.1 hc;exact⟨_,rfl⟩)
    show Fz _ _ _ _ (.Q (aw ns).length (ints (aw ns)));rw[eW];exact this
   |3,_ =>
    have:=Fz.tS (nx:=0) h3 (n:=ns.length) (by simp[hs]) (fun c hc=>by
     obtain⟨z,_,rfl⟩:=Vu.1 hc;exact⟨_,rfl⟩)
    show Fz _ _ _ _ (.Q sets.length (sets.map aM));rw[hs];exact this
   |4,_=>exact .lit _
  |1,_ =>
   refine .agg rfl fun i hi _=>?_
   match i,hi with
   |0,_=>exact .lit _
   |1,_=>exact .ee _
   |2,_=>exact .ba _
 ·rintro r H' ⟨rfl,rfl⟩;exact hK
def Tu (hx:ns[k]?=some x)(h0:∀q∈x.F,0<=q)(hm:(k:Int)∈x.F):¬jS (aC ns):=fun h=>by
 have hk:=aP (kH hx);have:=h k hk;rw[bJ (kH hx)]at this;have h1:=q8 (aC ns) (aC ns).length (bG x.F) k (by rw[iE h0];exact VB hm);unfold dQ at this;rw[h1]at this;cases this
def Tv (g:Int)(ns:List ZJ)(hf:wO ns)(H:ZH)(K:ZN->ZH->Prop)(hK:K (.ret (if pX g ns then .nc [Ax g ns,aa 0] else .nc [Aw,aa 50])) H):ae prog G0 143 [fa g ns] H K:=by
 refine ae.X ⟨_,func143,rfl,rfl⟩ fun hcl=>?_;have no:¬Z1 g ns->∀H',ZM H H'->ak prog G0 H K (.nc [.agg [.lit (.int .i64 0),.lit (.slice none 0 0),.lit (.slice none 0 0),.lit (.slice none 0 0),.lit (.slice none 0 0)],.lit (.int .i64 50)]) H':=fun h H' ov=>by
  rw[FQ h]at hK;refine ak.bB (v':=.nc [Aw,aa 50]) aF hcl ov (.nc rfl fun i hi _=>?_) hK
  match i,hi with
  |0,_ =>
   refine .agg rfl fun i hi _=>?_
   match i,hi with
   |0,_=>exact .lit _
   |1,_=>exact .nil
   |2,_=>exact .nil
   |3,_=>exact .nil
   |4,_=>exact .nil
  |1,_=>exact .lit _
 refine ae.st (n:=140) (rs:=[.cell 2 214,.tmp 3]) func143 ?_;simp only[go_sem,fa,eU];have l1:=ah (cH H (.J 0 90 [.lit (.int .i64 g),.Q ns.length (aI ns)]) [.J 0 214 [.lit (.int .i64 0),.lit (.slice none 0 0),.lit (.slice none 0 0),.lit (.slice none 0 0),.lit (.slice none 0 0)]]);by_cases c1:g<1
 ·simp only[go_sem,c1];exact no (fun h=>by have:=h.g1;omega) _ (.ext _ _)
 by_cases c2:g > 60
 ·simp only[go_sem,l1,c1,c2];exact no (fun h=>by have:=h.g1;omega) _ (.ext _ _)
 by_cases c3:(ns.length:Int)<1
 ·simp only[go_sem,l1,c1,c2,c3];exact no (fun h=>by have:=h.n1;omega) _ (.ext _ _)
 by_cases c4:(ns.length:Int) > 8
 ·simp only[go_sem,l1,c1,c2,c3,c4];exact no (fun h=>by have:=h.n1;omega) _ (.ext _ _)
 simp only[go_sem,l1,c1,c2,c3,c4];refine W.dr 11 [0,0,2,6,14,0,32,96,224,511,0] mixed ?_;simp only[go_sem,l1]
 repeat (refine And.intro (by first|omega|(simp;done)|(simp;omega)|(intros;omega)|exact⟨rfl,V,V,kV _⟩) ?_)
 obtain⟨Hb,hHb⟩:∃Hb,Hb=ext (ext H [.J 0 90 [.lit (.int .i64 g),.Q ns.length (aI ns)],.J 0 214 [.lit (.int .i64 0),.lit (.slice none 0 0),.lit (.slice none 0 0),.lit (.slice none 0 0),.lit (.slice none 0 0)],.J 0 3 (List.replicate ns.length (.lit (.int .i64 0))),.J 0 34 (List.replicate ns.length (.lit (.int .u64 0)))]) [.J 0 214 [.lit (.int .i64 g),.Q ns.length (aI ns),.U (H.A+2) 0 0 ns.length 1,.U (H.A+3) 0 0 ns.length 1,.lit (.slice none 0 0)]]:=⟨_,rfl⟩
 rw[<- hHb];have R0:RdS g ns H Hb (List.replicate ns.length 0) (List.replicate ns.length 0):=by
  rw[hHb,ef];exact⟨by simp[aX],.ext _ _,cH ..,bN H _ 1 ZD,by rw[bN H _ 2 ZD];simp[ints,aa],by rw[bN H _ 3 ZD];simp[aM],bN H _ 4 ZD,ZD,ZD⟩
 have hcard:∀ {k:Nat},(∀x∈ns.take k,1<=x.L/\x.L<=4)->fh ((aw ns).take k):=fun {k} h=>rP (by simp[aw];omega) fun c hc=>by
  rw[show (aw ns).take k=aw (ns.take k) by simp[aw]]at hc;obtain⟨y,hy,rfl⟩:=Vu.1 hc;exact h y hy
 refine W.aT 37778930737057254867176 (by rfl) (fun ρ H'=>∃(k:Nat) (c:List Int),ρ 50=aa k/\k<=ns.length/\ρ 5=aa (aD ((aw ns).take k))/\RdS g ns H H' c (List.replicate ns.length 0)/\Hb.A<=H'.A/\c.take k=(aw ns).take k/\∀x∈ns.take k,1<=x.L/\x.L<=4) (fun ρ H=>ns.length-(iv (ρ 50)).toNat) ?_ ?_
 ·simp only[go_sem];exact⟨0,_,rfl,V,by simp[iM],R0,ZD⟩
 rintro ρ H' ⟨k,c,h50,hk,h5,R,hn,hc,hall⟩;refine W.vs ?_;have q0:=R.l0;have q1:=R.l1;have q2:=R.l2;have q4:=R.l4;have rn:=R.nx;by_cases hb:(k:Int)<ns.length
 ·obtain⟨x,hx⟩:=ay (l:=ns) (i:=k) V;have hxm:=Va hx;have hne:=fU hx;have e0:=ox hx;have e1:k*3+3<=(aI ns).length:=by rw[kq];omega
  have R2:=R.over (.ext H' [.J 0 76 [.lit (.int .i64 x.L),.Q x.F.length (ints x.F),ba x.nb]]);have p1:=R2.l1;have p2:=R2.l2;have p4:=R2.l4;have nb1:¬H.A+1=H'.A:=V
  have nb2:¬H.A+2=H'.A:=V
  have nb4:¬H.A+4=H'.A:=V
  by_cases d1:x.L<1
  ·simp only[go_sem,h50,p1,hb,hne,e0,e1,d1];exact no (fun h=>by have:=(h.node x hxm).1;omega) _ (R2.ov.upd V _)
  by_cases d2:x.L > 4
  ·simp only[go_sem,h50,p1,hb,hne,e0,e1,d1,d2];exact no (fun h=>by have:=(h.node x hxm).1;omega) _ (R2.ov.upd V _)
  have hall':∀y∈ns.take (k+1),1<=y.L/\y.L<=4:=fun y hy=>by
   rw[bb hx]at hy;rcases VC.1 hy with hy|hy
   ·exact hall y hy
   ·obtain rfl:=List.mem_singleton.1 hy;exact⟨V,V⟩
  have b2:=(hcard hall').prod;rw[bb (cW hx),jj]at b2;have w1:=Vb ((k:Int)+1) V;have w2:=Vb (aD ((aw ns).take k)*x.L) V;have hkc:k<c.length:=by rw[R.cl];omega
  have p0:∀b,((ext H' [.J 0 76 [.lit (.int .i64 x.L),.Q x.F.length (ints x.F),ba x.nb]]).upd (H.A+2) b).na H'.A 0=some (76,[.lit (.int .i64 x.L),.Q x.F.length (ints x.F),ba x.nb]):=fun b=>by
   rw[lS V];exact ah eh
  simp only[go_sem,h50,h5,p2,p4,p0,hb,hne,e0,e1,d1,d2,w1,w2];exact⟨V,by rw[aQ,aX];omega,⟨k+1,_,ZD,V,by rw[bb (cW hx),jj],R2.Tq hkc x.L,by rw[aQ,aX];omega,Gq hc hkc (cW hx),fun y hy=>hall' y hy⟩,V⟩
 have ek:k=ns.length:=V
 subst ek;rw[Vg ZG]at hall;rw[Vg (by rw[eW];omega)]at h5;have ec:c=aw ns:=by
  rw[Vg (by rw[R.cl];omega),Vg (by rw[eW];omega)]at hc;exact hc
 subst ec;by_cases c5:aD (aw ns) > 1024
 ·simp only[go_sem,h50,h5,q1,hb,c5];exact no (fun h=>by have:=h.size;omega) _ (R.ov.upd V _)
 simp only[go_sem,h50,h5,q4,hb,c5];refine W.aT 340282366920933627760096148915069392648 (by rfl) (fun ρ' H2=>∃(k:Nat) (s:List Nat),ρ' 82=aa k/\k<=ns.length/\RdS g ns H H2 (aw ns) s/\H'.A<=H2.A/\s.take k=(aC ns).take k/\(∀j,k<=j->s.getD j 0=0)/\∀x∈ns.take k,bZ x.F ns.length/\gG g ns x) (fun ρ' H=>ns.length-(iv (ρ' 82)).toNat) ?_ ?_
 ·simp only[go_sem];refine⟨0,_,rfl,V,R,rfl,fun j _=>?_,ZD⟩;rw[Vh,WG];split<;>rfl
 rintro ρ' H2 ⟨k,s,h82,hk2,R2,hn2,hs,hs0,hall2⟩;refine W.vs ?_;have r2:=R2.nx;have q4:=R2.l4;by_cases hb2:(k:Int)<ns.length;rotate_left
 ·have es:s=aC ns:=by
   rw[Vg (by rw[R2.sl];omega),Vg (by simp[aC];omega)]at hs;exact hs
  subst es;rw[Vg V]at hall2;have hlt:∀p∈aC ns,p<2 ^ ns.length:=rR fun x hx q hq=>(hall2 x hx).1.2 q hq;have hsl:(aC ns).length=ns.length:=by simp[aC]
  have hlt64:∀p∈aC ns,p<2 ^ 64:=fun p hp=>Vl (hlt p hp) (Vq ZE V);have hto:=vJ (ps:=aC ns) (by rw[hsl];exact hlt) V;simp only[go_sem,h82,q4,hb2];have fzs:=Fz.tS (nx:=0) R2.b3 (n:=ns.length) (by simp[R2.sl]) (fun c hc=>by
   obtain⟨z,_,rfl⟩:=Vu.1 hc;exact⟨_,rfl⟩)
  refine ao.X (Tp (aC ns) V hlt64 _ _ (by show Fz _ _ _ _ (.Q (aC ns).length _);rw[hsl];exact fzs) _ ⟨trivial,?_⟩);have q1:=R2.l1;cases hso:(fF (aC ns)).isSome
  ·simp only[go_sem,q1];exact no (fun h=>by rw[hto.2 h.nL]at hso;cases hso) _ (R2.ov.upd V _)
  have hok:Z1 g ns:=⟨V,V,fun x hx=>⟨hall x hx,(hall2 x hx).1⟩,V,hto.1 hso,fun x hx=>(hall2 x hx).2⟩
  rw[FO hok]at hK;have q1b:∀b,(H2.upd (H.A+4) b).na (H.A+1) 0=_:=fun b=>(lS V).trans q1;simp only[go_sem,q1b,q4];have ovf:ZM H ((H2.upd (H.A+4) (.J 0 214 [.lit (.int .i64 g),.Q ns.length (aI ns),.U (H.A+2) 0 0 ns.length 1,.U (H.A+3) 0 0 ns.length 1,.Q (aH ((fF (aC ns)).getD [])).length (ints (aH ((fF (aC ns)).getD [])))])).upd (H.A+1) (.J 0 214 [.lit (.int .i64 g),.Q ns.length (aI ns),.U (H.A+2) 0 0 ns.length 1,.U (H.A+3) 0 0 ns.length 1,.Q (aH ((fF (aC ns)).getD [])).length (ints (aH ((fF (aC ns)).getD [])))])):=(R2.ov.upd V _).upd V _;refine ak.bB (v':=.nc [Ax g ns,aa 0]) aF hcl ovf (.nc rfl fun i hi _=>?_) hK
  match i,hi with
  |1,_=>exact .lit _
  |0,_ =>
   refine .agg rfl fun i hi _=>?_
   match i,hi with
   |0,_=>exact .lit _
   |1,_=>exact wQ _
   |2,_ =>
    have hg2:∀b b',((H2.upd (H.A+4) b).upd (H.A+1) b').get (H.A+2)=some (.J 0 3 (ints (aw ns))):=fun b b'=>by rw[aj,Ve V,aj,Ve V];exact R2.b2
    show Fz _ _ _ (.U (H.A+2) 0 0 ns.length 1) (.Q (aw ns).length (ints (aw ns)));rw[<- eW ns];exact .ints (by show H.A<=_;omega) (hg2 _ _) ZD fun i hi=>by simp[gY,hi]
   |3,_ =>
    have hg3:∀b b',((H2.upd (H.A+4) b).upd (H.A+1) b').get (H.A+3)=some (.J 0 34 ((aC ns).map aM)):=fun b b'=>by rw[aj,Ve V,aj,Ve V];exact R2.b3
    show Fz _ _ _ (.U (H.A+3) 0 0 ns.length 1) (.Q (aC ns).length ((aC ns).map aM));rw[<- hsl];refine .nz (by show H.A<=_;omega) (hg3 _ _) ZD fun j hj h2 h'=>?_;simp only[Nat.zero_add,Vt];exact .lit _
   |4,_=>exact .ee _
 obtain⟨x,hx⟩:=ay (l:=ns) (i:=k) V;have hxm:=Va hx;have hne:=fU hx;have e0:=ox hx;have e1:k*3+3<=(aI ns).length:=by rw[kq];omega
 obtain⟨f1,f2,f3⟩:=hf.2 x hxm;simp only[go_sem,h82,hb2,hne,e0,e1];obtain⟨H3,hH3⟩:∃H3,H3=ext H2 [.J 0 76 [.lit (.int .i64 x.L),.Q x.F.length (ints x.F),ba x.nb]]:=⟨_,rfl⟩
 have R3:RdS g ns H H3 (aw ns) s:=by rw[hH3];exact R2.over (.ext _ _)
 have nn:H3.A=H2.A+1:=hH3▸rfl
 have gN:=dI hH3
 rw[<- hH3];have hks:k<s.length:=by rw[R2.sl];omega
 have s0:s.set k 0=s:=by
  apply V2;intro i;rw[W2];split
  ·rename_i h;subst h;have:=hs0 k ZG;rw[Vh,Vd hks]at this;simp only[Option.getD_some]at this;rw[Vd hks,this]
  ·rfl
 refine W.aT 5316911981901723452329847966222259208 (by rfl) (fun ρ2 H4=>∃(j:Nat) (b:Int),ρ2 90=aa j/\j<=x.F.length/\ρ2 10=aa b/\bZ (x.F.take j) ns.length/\(x.F.take j).getLast?.getD (-1)=b/\RdS g ns H H4 (aw ns) (s.set k (bG (x.F.take j)))/\H3.A<=H4.A/\H4.get H2.A=some (.J 0 76 [.lit (.int .i64 x.L),.Q x.F.length (ints x.F),ba x.nb])/\¬(k:Int)∈x.F.take j)
  (fun ρ2 H=>x.F.length-(iv (ρ2 90)).toNat) ?_ ?_
 ·simp only[go_sem];exact⟨0,-1,rfl,V,rfl,.nil,rfl,by rw[show bG (x.F.take 0)=0 from rfl,s0];exact R3,gN,ZD⟩
 rintro ρ2 H4 ⟨j,b,h90,hj,h10,hp,hbl,R4,hn4,gN4,hself⟩;refine W.vs ?_;have r4:=R4.nx;have t1:=R4.l1;have t3:=R4.l3;have t4:=R4.l4;have tN:=ah gN4;by_cases hb3:(j:Int)<x.F.length
 ·obtain⟨a,ha⟩:=ay (l:=x.F) (i:=j) V;have ham:=Va ha;have hane:=bd ha;by_cases d1:a<=b
  ·simp only[go_sem,h90,h10,hb3,ha,hane,d1,t1];refine no (fun h=>?_) _ (R4.ov.upd V _);have hpl:=(h.node x hxm).2;have h0:=hpl.2 a ham;rcases Wm j with rfl|hk0
   ·simp at hbl;omega
   ·obtain⟨i,rfl⟩:∃i,j=i+1:=⟨j-1,V⟩
    obtain⟨b',hbj⟩:=ay (l:=x.F) (i:=i) V;rw[wN hbj]at hbl;have:=hpl.lt hbj ha V;simp at hbl;omega
  by_cases d2:a >= ns.length
  ·simp only[go_sem,h90,h10,hb3,ha,hane,d1,d2,t1,t4];exact no (fun h=>by have:=(h.node x hxm).2.2 a ham;omega) _ (R4.ov.upd V _)
  have h0:0<=a:=by
   rcases hg:(x.F.take j).getLast? with _|b'
   ·rw[hg]at hbl;simp at hbl;omega
   ·rw[hg]at hbl;have:=hp.2 b' (Zo hg);simp at hbl;omega
  by_cases d3:a=k
  ·have d1':¬(k:Int)<=b:=V;have d2':¬(k:Int) >= ns.length:=V;simp only[go_sem,h90,h10,hb3,ha,hane,d1',d2',d3,t1,t4];exact no (fun h=>Tu hx (fun q hq=>((h.node x hxm).2.2 q hq).1) (by rw[<- d3];exact ham) h.nL) _ (R4.ov.upd (id:=H.A+1) V _)
  obtain⟨u,rfl⟩:=Vk h0;have w1:=Vb ((j:Int)+1) V;have bm:bG (x.F.take j)<2 ^ 64:=lg fun p hp'=>by have:=hp.2 p hp';omega
  have v1:=fun t x y=>lQ (P:=prog) (t:=t) (x:=x) (y:=y) (k':=.i64) (s:=u) V;have v2:=fun t x y=>j5 (P:=prog) (t:=t) (x:=x) (y:=y) (b:=2 ^ u) bm (Wt ZE V);have gs:(s.set k (bG (x.F.take j)))[k]?=some (bG (x.F.take j)):=Vz hks;simp only[go_sem,h90,h10,hb3,ha,hane,d1,d2,d3,t4];refine W.dr 7 [0,1,0,7,15,0,32] mixed ?_;simp only[go_sem,h90,hb2,t3,t4,gs,v1,v2,w1]
  repeat (refine And.intro (by first|omega|(simp;done)|(simp;omega)|(intros;omega)|exact⟨rfl,V,V,kV _⟩) ?_)
  have R5:=R4.Ts (k:=k) (by simpa using hks) (bG (x.F.take j) |||2 ^ u);rw[YW]at R5;have esn:bG (x.F.take (j+1))=bG (x.F.take j) |||2 ^ u:=by rw[bb ha,vF];rfl
  refine⟨by rw[aQ];omega,⟨j+1,u,ZD,V,rfl,?_,by rw[wN ha];rfl,by rw[esn];exact R5,by rw[aQ];omega,by rw[aj,Ve V];exact gN4,fun hm=>?_⟩,V⟩
  ·rw[bb ha];exact hp.snoc ⟨V,V⟩ fun b' hb'=>by rw[hb']at hbl;simp at hbl;omega
  ·rw[bb ha]at hm;rcases VC.1 hm with hm|hm
   ·exact hself hm
   ·exact d3 (List.mem_singleton.1 hm).symm
 ·have hb3':=hb3;rw[Vg V]at hp hself R4;simp only[go_sem,h90,hb3,t4,tN];have hin:iI x.F ns.length:=fun q hq=>by have:=hp.2 q hq;omega
  refine ao.X (Tt g ⟨V,V⟩ ns _ x hin (oM V hp hall) f2 f3 _ (H.A+2) (H.A+3) R4.b2 R4.b3 R4.sl _ ⟨trivial,?_⟩);cases hnb:my g ns x
  ·simp only[go_sem,t1];exact no (fun h=>by rw[FT (h.nb x hxm)]at hnb;cases hnb) _ (R4.ov.upd V _)
  have w1:=Vb ((k:Int)+1) V;simp only[go_sem,h82,w1];refine⟨V,⟨k+1,_,ZD,V,R4,V,?_,fun i hi=>?_,fun y hy=>?_⟩,V⟩
  ·have h1:=kH hx;rw[bb h1,bb (Vz hks),Yj (Nat.le_refl k),hs]
  ·rw[Vh,VN V,<- Vh];exact hs0 i (V)
  ·rw[bb hx]at hy;rcases VC.1 hy with hy|hy
   ·exact hall2 y hy
   ·obtain rfl:=List.mem_singleton.1 hy;exact⟨hp,Tm.1 hnb⟩
def Tw (g:Int)(ns:List ZJ)(hf:wO ns)(H:ZH)(K:ZN->ZH->Prop)(hK:K (.ret (aa (if pX g ns then 0 else 50))) H):ae prog G0 105 [fa g ns] H K:=by
 refine ae.X ⟨_,func105,rfl,rfl⟩ fun hcl=>?_;refine ae.st (n:=11) (rs:=[.tmp 2]) func105 ?_;simp only[go_sem,fa,eU];refine ao.X (Tv g ns hf _ _ ⟨trivial,?_⟩);cases hb:pX g ns
 ·rw[hb]at hK;simp only[go_sem,Aw,List.length_nil];exact ak.bB aF hcl (.ext _ _) (.lit _) hK
 ·rw[hb]at hK;simp only[go_sem,Ax,eU];exact ak.bB aF hcl (.ext _ _) (.lit _) hK
def fb (D v:Nat):List Nat := (List.range v).filter fun v => D.testBit v
def bp (D v:Nat):Nat := (fb D v).length
def aG (d:ZK):List Nat := fb d.Y d.C.length
def vK (D v:Nat):fb D (v + 1)=if D.testBit v then fb D v ++ [v] else fb D v := by
  unfold fb;rw[VW,WZ];cases h:D.testBit v <;> simp[h]
def QI :∀ {n:Nat},v <= n -> ∃r,fb D n=fb D v ++ r := by
  intro n
  induction n with
  | zero => intro h; obtain rfl : v = 0 := by omega
            exact⟨[],ZD⟩
  |succ n ih =>
    intro h;by_cases hv:v=n + 1
    · subst hv;exact⟨[],ZD⟩
    · obtain⟨r,hr⟩ := ih V;rw[vK];split
      · exact⟨r ++ [n],by rw[hr,List.append_assoc]⟩
      · exact⟨r,hr⟩
def ml (hv:v < n)(hb:D.testBit v=true):(fb D n)[bp D v]? = some v := by
  obtain⟨r,hr⟩ := QI (D := D) (v := v + 1) (n := n) hv;rw[hr,vK,Vf hb,List.append_assoc];unfold bp;simp
def vM (D v:Nat):bp D (v + 1)=if D.testBit v then bp D v + 1 else bp D v := by
  unfold bp;rw[vK];split <;> simp
def jz :v ∈ fb D n ↔ v < n /\ D.testBit v=true := by unfold fb;simp
def ri (h:(fb D n)[k]? = some v):v < n /\ D.testBit v=true /\ bp D v=k := by
  have hm := jz.1 (Va h);refine⟨hm.1,hm.2,?_⟩;have h2 := ml hm.1 hm.2;have hnd:(fb D n).Nodup := Xx.filter _;have a := aP h;have b := aP h2;rw[Vd a]at h;rw[Vd b]at h2;have e:(fb D n)[bp D v]=(fb D n)[k] := by rw[Option.some.inj h,Option.some.inj h2]
  exact(List.getElem_inj hnd).1 e
def pH :(fb D n).length <= n := by
  have := YH (fun v => D.testBit v) (List.range n);unfold fb;simpa using this
def ep (g L x:Int):List Int := (List.replicate L.toNat 0).set x.toNat g
def cr (ns:List ZJ)(x:ZJ):Nat := (aD (aU ns x)).toNat
def dE (g:Int)(ns:List ZJ)(c:Nat -> Nat -> Int)(p:Nat)(x:ZJ):List (List Int) := (List.range (cr ns x)).map fun r => ep g x.L (c p r)
def gP (d:ZK)(c:Nat -> Nat -> Int)(k v:Nat)(x:ZJ):ZJ := if d.Y.testBit v=true /\ bp d.Y v < k then { x with nb := x.nb ++ dE d.nl d.C c (bp d.Y v) x } else x
def eA (d:ZK)(c:Nat -> Nat -> Int)(k:Nat):List ZJ := d.C.zipIdx.map fun p => gP d c k p.2 p.1
def di (d:ZK)(c:Nat -> Nat -> Int):List ZJ := eA d c (aG d).length
def lh (d:ZK)(c:Nat -> Nat -> Int)(k:Nat):(eA d c k).length=d.C.length := by simp[eA]
def oz {c:Nat -> Nat -> Int}(h:d.C[v]? = some x):(eA d c k)[v]? = some (gP d c k v x) := by
  unfold eA;rw[List.getElem?_map,Xk,h];simp
def QJ (d:ZK)(c:Nat -> Nat -> Int):eA d c 0=d.C := by
  apply V2;intro v;cases h:d.C[v]? with
  |none => rw[Vm];rw[lh];exact XT.1 h
  |some x => rw[oz h];simp[gP]
def QK {c:Nat -> Nat -> Int}(hd:(aG d)[k]? = some v)(hx:d.C[v]? = some x):eA d c (k + 1)=(eA d c k).set v { x with nb := x.nb ++ dE d.nl d.C c k x } := by
  obtain⟨h1,h2,h3⟩ := ri hd;apply V2;intro u;rw[W2];split
  · rename_i h;subst h;rw[oz hx,Vf (by rw[lh];exact h1)];unfold gP;rw[Vf ⟨h2,V⟩,h3]
  · rename_i h;cases hu:d.C[u]? with
    |none => rw[Vm (by rw[lh];exact XT.1 hu),Vm (by rw[lh];exact XT.1 hu)]
    |some y =>
      rw[oz hu,oz hu];unfold gP;by_cases hb:d.Y.testBit u=true
      · have : bp d.Y u ≠ k := fun e => by
          have h4 := ml (aP hu) hb;rw[e]at h4;have h5:(fb d.Y d.C.length)[k]? = some v := hd;rw[h4]at h5;exact h (Option.some.inj h5).symm
        have e:(bp d.Y u < k + 1)=(bp d.Y u < k) :=(by apply propext;omega);simp only[e]
      · simp[hb]
def QL {c:Nat -> Nat -> Int}:aw (eA d c k)=aw d.C := by
  apply V2;intro v;unfold aw;rw[List.getElem?_map,List.getElem?_map];cases h:d.C[v]? with
  |none => rw[Vm (by rw[lh];exact XT.1 h)]
  |some x =>
    rw[oz h];simp only[Option.map_some,gP];split <;> rfl
def iP (d:ZK)(c:Nat -> Nat -> Int)(k v:Nat)(x:ZJ):(gP d c k v x).L=x.L /\ (gP d c k v x).F=x.F := by unfold gP;split <;> exact⟨rfl,rfl⟩
def c9 (d:ZK):List ZI:=[.lit (.int .i64 d.nl),.Q d.C.length (aI d.C),.lit (.int .u64 (d.Y:Int)),.Q d.Z.length (bt d.Z)]
def ij (d:ZK):dh d=.agg (c9 d):=rfl
def lH (d:ZK):ZO:=.J 0 38 (c9 d)
def nE (d:ZK):List (List ZI):=(aG d).zipIdx.map fun p=>[aa p.2,aa p.1]
def wE {x:List ZI}(h:(nE d)[k]?=some x):∃v,(aG d)[k]?=some v/\x=[aa k,aa v]:=by
 unfold nE at h;rw[List.getElem?_map,Xk]at h;cases hr:(aG d)[k]? with
 |none=>rw[hr]at h;simp at h
 |some r=>rw[hr]at h;simp at h;exact⟨r,rfl,h.symm⟩
def SN (h:(aG d)[k]?=some v):(nE d)[k]?=some [aa k,aa v]:=by
 unfold nE;rw[List.getElem?_map,Xk,h];simp
def wG (d:ZK):(nE d).length=(aG d).length:=by simp[nE]
def Am :∀x∈nE d,x.length=2:=fun x hx=>by
 obtain⟨k,hk⟩:=Vj.1 hx;obtain⟨v,_,rfl⟩:=wE hk;rfl
def An (d:ZK)(hl:(d.C.length:Int)<2 ^ 40)(hD:d.Y<2 ^ 64)(b:Nat):tZ prog G0 109 [] [.O b 0 0] (nE d) (fun H=>H.get b=some (lH d)):=by
 intro idy J Stop H K hS hJ0 hY hK hSt;have l0:=ah (hS 0 H hJ0);show ae _ _ _ ([.nk idy]++[.O b 0 0]) _ _;refine ae.st (n:=25) (rs:=[]) func109 ?_;simp only[go_sem,l0,c9];refine W.aT 33554200 (by rfl) (fun ρ H'=>∃v:Nat,ρ 8=aa v/\v<=d.C.length/\ρ 3=aa (bp d.Y v)/\J (bp d.Y v) H'/\H.A<=H'.A) (fun ρ H=>d.C.length-(iv (ρ 8)).toNat) ?_ ?_
 ·simp only[go_sem];exact⟨0,rfl,V,rfl,hJ0⟩
 rintro ρ H' ⟨v,h8,hv,h3,hj,hn⟩;refine W.vs ?_;by_cases hb:(v:Int)<d.C.length
 ·have l1:=ah (hS _ _ hj);have s1:=fun t x y=>jo (P:=prog) (t:=t) (x:=x) (y:=y) (k':=.i64) (s:=v) hD;have s2:=fun t x y=>oU (P:=prog) (t:=t) (x:=x) (y:=y) (s:=v) hD;have w1:=Vb ((v:Int)+1) V;have hp:bp d.Y v<=v:=by
   have:(fb d.Y v).length<=v:=pH;exact this
  have w2:=Vb ((bp d.Y v:Int)+1) V;cases hbit:d.Y.testBit v
  ·simp only[go_sem,h8,h3,hb,l1,c9,s1,s2,hbit,w1];exact⟨hn,⟨v+1,ZD,V,by rw[vM,hbit];rfl,by rw[vM,hbit];exact hj,hn⟩,V⟩
  ·have hdx:(nE d)[bp d.Y v]?=some [aa (bp d.Y v),aa v]:=SN (ml V hbit);simp only[go_sem,h8,h3,hb,l1,c9,s1,s2,hbit];refine hY _ _ H' _ hdx hj hn (fun H2 hj2 hn2=>⟨trivial,?_⟩) (fun H2 hs2 hn2=>⟨trivial,?_⟩)
   ·simp only[go_sem,h8,h3,w1,w2];exact⟨V,⟨v+1,ZD,V,by rw[vM,hbit];simp,by rw[vM,hbit];exact hj2,V⟩,V⟩
   ·simp only[go_sem];exact ak.mk V (hSt H2 hs2 V)
 ·simp only[go_sem,h8,hb];have ek:v=d.C.length:=V
  subst ek;exact ak.mk V (hK H' (by rw[wG];exact hj) hn)
def Ao (d:ZK)(H:ZH)(K:ZN->ZH->Prop)(hK:K (.ret (.X 109 [] [.O H.A 0 0])) (ext H [lH d])):
  ae prog G0 65 [dh d] H K:=by
 refine ae.st (n:=4) (rs:=[.tmp 2]) func65 ?_;simp only[go_sem,ij,c9];exact ak.mk (by simp[aX]) hK
def SO {L x:Int}(hc:0<=L)(h:0<=x/\x<L):setAt (ints (List.replicate L.toNat 0)) x.toNat [.lit (.int .i64 g)]=ints (ep g L x):=by
 rw[iS (by simp;omega)];rfl
def SP (g L x:Int)(hc:L<=2 ^ 40)(h:0<=x/\x<L)(H:ZH)(K:ZN->ZH->Prop)(hK:K (.ret (af (ep g L x))) H):ae prog G0 144 [aa g,aa L,aa x] H K:=by
 refine ae.X ⟨_,func144,rfl,rfl⟩ fun hcl=>?_;obtain⟨n,rfl⟩:=Vk (show 0<=L by omega);obtain⟨k,rfl⟩:=Vk h.1;have h0:((n:Int)) >= 0:=V
 have hk:(k:Int)<n:=h.2;have hk2:k+1<=n:=V
 refine ae.st (n:=15) (rs:=[.tmp 6]) func144 ?_;simp only[go_sem,hk]
 repeat (refine And.intro (by first|omega|(simp;done)|(simp;omega)|(intros;omega)|exact⟨rfl,V,V,kV _⟩) ?_)
 have e:=SO (g:=g) (L:=n) (x:=k) V h;simp only[Int.toNat_natCast]at e;rw[show (List.replicate n (ZI.lit (Value.int IntKind.i64 0)))=ints (List.replicate n 0) by simp[ints,aa],e];refine ak.bB aF hcl (.ext _ _) ?_ hK;exact .ints ZG (cH ..) (by simp[ep]) fun i hi=>by simp[gY,hi]
def SQ (a b:ZI)(H:ZH)(K:ZN->ZH->Prop)(hK:K (.ret (aa 0)) H):ae prog G0 107 [a,b] H K:=by
 refine ae.st (n:=5) (rs:=[.tmp 4]) func107 ?_;simp only[go_sem];exact ak.mk ZG hK
noncomputable def lI (p:Prop):Bool:=@decide p (Classical.propDecidable p)
def mw (h:p):lI p=true:=@decide_eq_true _ (Classical.propDecidable _) h
def oJ (h:¬p):lI p=false:=@decide_eq_false _ (Classical.propDecidable _) h
def tM :lI p=true↔p:=@decide_eq_true_iff _ (Classical.propDecidable _)
structure Z4 (d:ZK):Prop where
 n1:1<=d.C.length/\d.C.length<=8
 Y:d.Y >>> d.C.length=0
 L:∀x∈d.C,1<=x.L/\x.L<=4
 dec:∀v x,d.C[v]?=some x->d.Y.testBit v=true->x.nb=[]/\bZ x.F d.C.length
structure Z6 (d:ZK):Prop where
 C:wO d.C
 Y:d.Y<2 ^ 64
 Z:(d.Z.length:Int)<2 ^ 38/\∀u∈d.Z,(u.vars.length:Int)<2 ^ 38/\(u.w.length:Int)<2 ^ 38
def SR (d:ZK)(hf:Z6 d)(H:ZH)(K:ZN->ZH->Prop)(hK:K (.ret (.lit (.bool (lI (Z4 d))))) H):ae prog G0 104 [dh d] H K:=by
 refine ae.X ⟨_,func104,rfl,rfl⟩ fun hcl=>?_;have hl:=hf.C.1;have no:¬Z4 d->∀H',ZM H H'->ak prog G0 H K (.lit (.bool false)) H':=fun h H' ov=>ak.bB aF hcl ov (.lit _) (by rw[oJ h]at hK;exact hK);refine ae.st (n:=67) (rs:=[.cell 2 4]) func104 ?_;simp only[go_sem,ij,c9];obtain⟨H1,hH1⟩:∃H1,H1=ext H [.J 0 38 (c9 d),.J 0 4 [.lit (.bool false)]]:=⟨_,rfl⟩
 have g1:=dI hH1
 have g2:=gE hH1 1 rfl
 have l1:=ah g1;have l2:=ah g2;have n1:H1.A=H.A+2:=hH1▸rfl
 have o1:ZM H H1:=hH1▸.ext _ _
 unfold c9 at hH1 l1;rw[<- hH1];have s1:=fun t x y=>jo (P:=prog) (t:=t) (x:=x) (y:=y) (k':=.i64) (s:=d.C.length) hf.Y;by_cases c1:(d.C.length:Int)<1
 ·simp only[go_sem,l2,c1];exact no (fun h=>by have:=h.n1;omega) _ (o1.upd V _)
 by_cases c2:(d.C.length:Int) > 8
 ·simp only[go_sem,l1,l2,c1,c2];exact no (fun h=>by have:=h.n1;omega) _ (o1.upd V _)
 by_cases c3:d.Y >>> d.C.length=0;rotate_left
 ·have c3':¬((d.Y >>> d.C.length:Nat):Int)=0:=V
  simp only[go_sem,l1,l2,c1,c2,c3',s1];exact no (fun h=>c3 h.Y) _ (o1.upd V _)
 have c3':((d.Y >>> d.C.length:Nat):Int)=0:=V
 simp only[go_sem,l1,c1,c2,c3',s1];refine W.aT 4397509640208 (by rfl) (fun ρ H'=>∃k:Nat,ρ 29=aa k/\k<=d.C.length/\ZM H1 H'/\∀x∈d.C.take k,1<=x.L/\x.L<=4) (fun ρ H=>d.C.length-(iv (ρ 29)).toNat) ?_ ?_
 ·simp only[go_sem];exact⟨0,rfl,V,.refl _,ZD⟩
 rintro ρ H' ⟨k,h29,hk,ov,hall⟩;refine W.vs ?_;have ovn:=ov.A;have m1:=(ov.na (g:=0) (by omega:H.A<H1.A)).trans l1;have m2:=(ov.na (g:=0) (by omega:H.A+1<H1.A)).trans l2;by_cases hb:(k:Int)<d.C.length
 ·obtain⟨x,hx⟩:=ay (l:=d.C) (i:=k) V;have hxm:=Va hx;have hne:=fU hx;have e0:=ox hx;have e1:k*3+3<=(aI d.C).length:=by rw[kq];omega
  have nb:¬H.A+1=H'.A:=V
  have m3:∀L,(ext H' L).na (H.A+1) 0=_:=fun L=>(eF V).trans m2;by_cases d1:x.L<1
  ·simp only[go_sem,h29,m3,hb,hne,e0,e1,d1];exact no (fun h=>by have:=h.L x hxm;omega) _ (((o1.trans ov).trans (.ext _ _)).upd V _)
  by_cases d2:x.L > 4
  ·simp only[go_sem,h29,m3,hb,hne,e0,e1,d1,d2];exact no (fun h=>by have:=h.L x hxm;omega) _ (((o1.trans ov).trans (.ext _ _)).upd V _)
  have w1:=Vb ((k:Int)+1) V;simp only[go_sem,h29,hb,hne,e0,e1,d1,d2,w1];exact⟨V,⟨k+1,ZD,V,ov.trans (.ext _ _),fun y hy=>by
   rw[bb hx]at hy;rcases VC.1 hy with hy|hy
   ·exact hall y hy
   ·obtain rfl:=List.mem_singleton.1 hy;exact⟨V,V⟩⟩,V⟩
 rw[Vg V]at hall;simp only[go_sem,h29,hb,m1];refine ao.X (Ao d _ _ ⟨trivial,?_⟩);simp only[go_sem];obtain⟨H2,hH2⟩:∃H2,H2=ext H' [lH d]:=⟨_,rfl⟩
 rw[<- hH2];have o2:ZM H' H2:=by rw[hH2];exact .ext _ _
 have n2:H2.A=H'.A+1:=by rw[hH2];rfl
 have hbx:H2.get H'.A=some (lH d):=by rw[hH2];exact eh
 refine W.env fun E hE=>?_;have e1:E 1=.O H.A 0 0:=by rw[hE];simp only[go_sem]
 have e2:E 2=.O (H.A+1) 0 0:=by rw[hE];simp only[go_sem]
 have i1:=(o2.na (g:=0) (by omega:H.A<H'.A)).trans m1;have i2:=(o2.nf _ (by omega:H.A+1<H'.A)).trans ((ov.nf _ V).trans g2);have o02:=(o1.trans ov).trans o2;refine W.rY (f:=109) (first:=[]) (cap:=[.O H'.A 0 0]) (by show E 43=_;rw[hE];rfl) (An d V hf.Y H'.A)
  (fun k Hx=>ZM H2 Hx/\∀v x,v∈(aG d).take k->d.C[v]?=some x->x.nb=[]/\bZ x.F d.C.length) (fun c Hx=>c=.ret/\ZM H Hx/\H2.A<=Hx.A/\Hx.get (H.A+1)=some (.J 0 4 [.lit (.bool false)])/\¬Z4 d)
  (fun k Hx h=>by rw[h.1.nf _ V];exact hbx) (fun k Hx b h=>⟨h.1.upd ZG b,h.2⟩) (fun c Hx b h=>⟨h.1,h.2.1.upd V b,h.2.2.1,by rw[aj,Ve V];exact h.2.2.2.1,h.2.2.2.2⟩)
  (fun b=>⟨.ext _ _,ZD⟩) ZE Am (fun _ _ _=>trivial) (fun _ _ _=>trivial) (fun k y Hx B Bb hy hj hn hB hBb=>?_) (fun Hx hj hn=>?_) (fun Hx hs hn=>?_) (fun i Hx hs hn=>by cases hs.1)
 ·obtain⟨v,hv,rfl⟩:=wE hy;obtain⟨v1,v2,v3⟩:=ri hv;obtain⟨x,hx⟩:=ay (l:=d.C) (i:=v) v1;refine W.vs ?_;simp only[go_sem,jM,dw,mC,Wi,XA,WY,W6,hB];obtain⟨H3,hH3⟩:∃H3,H3=Hx.upd H2.A Bb:=⟨_,rfl⟩
  rw[<- hH3];obtain⟨st,pd,n',en,ps',as',bo,hBe⟩:=hBb;have o3:ZM H2 H3:=by rw[hH3];exact hj.1.upd ZG Bb
  have o4:ZM H H3:=o02.trans o3;have n3:H3.A=Hx.A:=by rw[hH3];rfl
  have j1:=(o3.na (g:=0) (by omega:H.A<H2.A)).trans i1;have j2:=ah ((o3.nf _ (by omega:H.A+1<H2.A)).trans i2);have jB:H3.get H2.A=some Bb:=by rw[hH3,aj,Vf rfl]
  have hxm:=Va hx;obtain⟨f1,f2,f3⟩:=hf.C.2 x hxm;have hne:=fU hx;have e1':=mT hx;have e2':=DW hx;have hvn:(v:Int)<d.C.length:=V
  have stop:¬Z4 d->(H3.upd (H.A+1) (ZO.J 0 4 [.lit (.bool false)])).get H2.A=some Bb/\Hx.A<=(H3.upd (H.A+1) (ZO.J 0 4 [.lit (.bool false)])).A/\ZM H (H3.upd (H.A+1) (ZO.J 0 4 [.lit (.bool false)])) /\
    H2.A<=(H3.upd (H.A+1) (ZO.J 0 4 [.lit (.bool false)])).A/\(H3.upd (H.A+1) (ZO.J 0 4 [.lit (.bool false)])).get (H.A+1)=some (.J 0 4 [.lit (.bool false)])/\¬Z4 d:=fun h =>
   ⟨by rw[aj,Ve V];exact jB,by rw[aQ];omega,o4.upd V _,by rw[aQ];omega,by rw[aj,Vf rfl],h⟩
  refine W.vs ?_;simp only[go_sem];refine W.dr 18 [0,1,0,7,15,31,63,127,255,511,1023,511,4095,8191,16383,511,33279,98815] mixed ?_;by_cases c4:(x.nb.length:Int) > 0
  ·simp only[go_sem,dw,e1,e2,j1,j2,hvn,hne,e2',c4,ba,im];exact stop fun h=>by have:=(h.dec v x hx v2).1;rw[this]at c4;simp at c4
  simp only[go_sem,dw,e1,j1,hvn,hne,e1',e2',c4,ba];refine ao.X (FK x.F d.C.length V _ _ ⟨⟨_,_,_,_,_,_,_,by rw[jB,hBe]⟩,?_⟩);by_cases c5:bZ x.F d.C.length;rotate_left
  ·simp only[go_sem,dw,e2,j2,c5,im];exact stop fun h=>c5 (h.dec v x hx v2).2
  simp only[go_sem,dw,c5,im];refine⟨jB,V,o3,fun u y hu hy2=>?_⟩;rw[bb hv]at hu;rcases VC.1 hu with hu|hu
  ·exact hj.2 u y hu hy2
  ·obtain rfl:=List.mem_singleton.1 hu;rw[hx]at hy2;cases hy2;exact⟨Vn V,c5⟩
 ·have hok:Z4 d:=⟨V,c3,hall,fun v x hx hb=>hj.2 v x (by
   rw[wG,XU];exact jz.2 ⟨aP hx,hb⟩) hx⟩
  rw[mw hok]at hK;have j2:=ah ((hj.1.nf _ (by omega:H.A+1<H2.A)).trans i2);simp only[go_sem,e2,j2];exact ak.bB aF hcl ((o02.trans hj.1).upd V _) (.lit _) hK
 ·obtain⟨_,o4,n4,g4,hno⟩:=hs;have j2:=ah g4;simp only[go_sem,e2,j2];exact no hno _ o4
end Go.Proofs
namespace Go.Hx
variable {P:Program} {G:Nat->Option (List ZI)}
variable {cs:List ZI}{g k lo n nx ob rk z:Nat}{S:Nat->Prop}{e:TypeId}{v:ZI}{b:ZO}
def ZH.fI (H:ZH)(rk ob:Nat)(b:ZO):ZH:=⟨fun id=>if id=rk then none else if id=ob then some b else H.get id,H.A⟩
variable {H:ZH}
def UH (hc:Clo H){cells cells':List ZI}(hob:H.get ob=some (.J g e cells))(hne:ob≠rk)(hl:cells'.length=cells.length)
  (hcell:∀i (h:i<cells.length) (h':i<cells'.length),Fz (fun id=>id=rk) H H.A cells[i] cells'[i]):FzH (fun id=>id=rk) H (H.fI rk ob (.J g e cells')) where
 gone id hs:=by simp[ZH.fI,hs]
 kept id b hs hb:=by
  have hbb:=hc.below id b hb;refine⟨hc.lt id b hb,?_⟩;by_cases h:id=ob
  ·subst h;rw[hob]at hb;cases hb;exact⟨.J g e cells',by simp[ZH.fI,hs],rfl,rfl,hl,hcell⟩
  ·refine⟨b,by simp[ZH.fI,hs,h,hb],?_⟩;cases b with
   |nq=>trivial
   |mp=>rfl
   |J g e cells=>exact⟨rfl,rfl,rfl,fun i h _=>.dead (hbb i h)⟩
   |loop st pend n env ps asg body=>exact⟨rfl,rfl,rfl,rfl,rfl,rfl,rfl,fun t ht=>.dead (hbb t ht)⟩
 none id hs hb:=by
  by_cases h:id=ob
  ·subst h;rw[hob]at hb;cases hb
  ·simp[ZH.fI,hs,h,hb]
theorem eZ.fI (hG:fB G){s:St}{cells cells':List ZI}(hob:s.H.get ob=some (.J g e cells))(hne:ob≠rk)(hl:cells'.length=cells.length)
  (hcell:∀i (h:i<cells.length) (h':i<cells'.length),Fz (fun id=>id=rk) s.H s.H.A cells[i] cells'[i]):eZ P G s ⟨s.ρ,s.H.fI rk ob (.J g e cells')⟩:=by
 intro n wb Γ a w hs;exact eZ.freeze (s:=s) (s':=⟨s.ρ,s.H.fI rk ob (.J g e cells')⟩) hG (UH hs.heap.X hob hne hl hcell) (fun t=>.dead (hs.env t).sO) n wb Γ a w hs
def UI {A B:List ZI}{o o':ZI}(hA:∀v,v∈A->Fz S H nx v v)(ho:Fz S H nx o o')(hB:∀v,v∈B->Fz S H nx v v):
  ∀i (h:i<(A++o :: B).length) (h':i<(A++o' :: B).length),Fz S H nx (A++o :: B)[i] (A++o' :: B)[i]:=by
 induction A with
 |nil =>
  intro i h h';cases i with
  |zero=>exact ho
  |succ i=>exact hB _ (Wb (l:=B) (by simpa using h))
 |cons a A ih =>
  intro i h h';cases i with
  |zero=>exact hA a (ZD)
  |succ i=>exact ih (fun v hv=>hA v (by simp[hv])) i (by simpa using h) (by simpa using h')
def xk (h:ob≠rk):(H.fI rk ob b).get ob=some b:=by simp[ZH.fI,h]
def mD {id:Nat}(h:id≠rk)(h2:id≠ob):(H.fI rk ob b).get id=H.get id:=by simp[ZH.fI,h,h2]
def AO {l:List ZI}{i:Nat}{a b:ZI}(hl:∀v,v∈l->Fz S H nx v v)(hab:Fz S H nx a b):∀j (h:j<(l.set i a).length) (h':j<(l.set i b).length),Fz S H nx (l.set i a)[j] (l.set i b)[j]:=by
 intro j h h';rw[YA,YA];split
 ·exact hab
 ·exact hl _ (Wb _)
def W.xm {rd:Option Nat}{Q Q':AX->St->Prop}{c:Code}{s:St}(h:W P G n rd c Q' s)(hw:∀e s2,Q' e s2->∃s3,eZ P G s2 s3/\s2.H.A<=s3.H.A/\fK s3.H rd/\Q e s3):W P G n rd c Q s:=by
 intro wb Γ a w rb hs hr;refine wpIn_mono (h wb Γ a w rb hs hr) fun e a' w' hp=>?_;obtain⟨x,s',Γ',hx,hq,hrel,E,hn,hrd,hfr⟩:=hp;obtain⟨s3,hw3,hn3,hri,hq3⟩:=hw x s' hq;obtain⟨Γ3,hs3,E3,hrd3⟩:=hw3 n wb Γ' a' w' hrel;exact⟨x,s3,Γ3,hx,hq3,hs3,E.trans hn E3,VO hn hn3,hrd3 rd rb hrd hri,hfr⟩
def aK.ne (h:aK lo H e v cs)(hk:k<lo):∀g n,v≠.U k g 0 n 1:=fun g n he=>by
 rcases h with ⟨h,_⟩|⟨i2,g2,a1,_,h,_⟩
 ·rw[h]at he;cases he
 ·rw[h]at he;have:=ZI.U.inj he;omega
def fy (lo:Nat)(H:ZH)(e:TypeId)(z:Nat)(v:ZI)(n:Nat)(cs:List ZI):Prop :=
 (v=.lit (.slice none 0 0)/\n=0/\cs=[])\/∃id g,lo<=id/\id<H.A/\v=.U id g 0 n z/\cs.length=n*z/\H.get id=some (.J g e cs)
def fy.nil :fy lo H e z (.lit (.slice none 0 0)) 0 []:=.inl ⟨rfl,rfl,rfl⟩
variable {H':ZH}
def fy.ng (h:fy lo H e z v n cs)(hn:H.A<=H'.A)(hk:∀id g,lo<=id->id<H.A->v=.U id g 0 n z->H'.get id=H.get id):fy lo H' e z v n cs:=by
 rcases h with h|⟨id,g,h1,h2,h3,h4,h5⟩
 ·exact .inl h
 ·exact .inr ⟨id,g,h1,V,h3,h4,(hk id g h1 h2 h3).trans h5⟩
def fy.over (h:fy lo H e z v n cs)(ho:ZM H H'):fy lo H' e z v n cs:=h.ng ho.A fun id _ _ h2 _=>ho.nf id h2
theorem fy.one (h:fy lo H e z v n cs):v.one=true:=by
 rcases h with ⟨rfl,_⟩|⟨_,_,_,_,rfl,_⟩<;>rfl
theorem fy.cells (h:fy lo H e z v n cs):v.cells=[v]:=by
 rcases h with ⟨rfl,_⟩|⟨_,_,_,_,rfl,_⟩<;>rfl
def fy.ne {m:Nat}(h:fy lo H e z v m cs)(hk:k<lo):∀g n,v≠.U k g 0 n z:=fun g n he=>by
 rcases h with ⟨h,_⟩|⟨i2,g2,a1,_,h,_⟩
 ·rw[h]at he;cases he
 ·rw[h]at he;have:=ZI.U.inj he;omega
def Gr {t:TypeId}{m:Nat}{xs:List ZI}{zs:List ZI}(ht:P.underlying t=some (.slice e))(hz:P.cellsOf e=z)(hzero:bQ P e=some zs)(hx:xs.all ZI.one=true)(hxl:xs.length=z)
  (hb:(n+1)*P.bytesOf e<=2 ^ 46/\n+1<=2 ^ 46) (ho:fy lo H e z v n cs) (hlo:lo<=H.A) (hn:m=H.A+1):
  ∃v' H',bU P (ext H [.J 0 e xs]) m t t v (.U H.A 0 0 1 z)=some (v',H')/\fy lo H' e z v' (n+1) (cs++xs)/\H.A<=H'.A/\(∀k,k<H.A->(∀g n,v≠.U k g 0 n z)->H'.get k=H.get k):=by
 have hne:(ext H [.J 0 e xs]).A=H.A+1:=rfl;have hsrc:de (ext H [.J 0 e xs]) z (.U H.A 0 0 1 z)=some (1,xs):=by
  unfold de;have:=ah (H:=ext H [.J 0 e xs]) (g:=0) (eh (b:=.J 0 e xs));simp[this,<- hxl]
 rcases ho with ⟨rfl,rfl,rfl⟩|⟨i,g,h1,h2,rfl,h4,h5⟩
 ·refine⟨.U m 0 0 1 z,ext (ext H [.J 0 e xs]) [.J 0 e xs],?_,.inr ⟨m,0,V,by rw[aX,hne,hn];simp,ZD,by simp[hxl],?_⟩,by rw[aX,hne];omega,fun k hk _=>?_⟩
  ·unfold bU;rw[ht];simp only[hzero,hz,Option.bind_some];rw[hsrc];simp only[Option.bind_some];rw[Ve ZE,Vf (by simpa using hb),uU (by rw[hn,hne])];rfl
  ·rw[hn,<- hne];exact eh
  ·rw[dA (by rw[hne];omega),dA hk]
 ·have h5':(ext H [.J 0 e xs]).get i=some (.J g e cs):=by rw[dA h2];exact h5
  refine⟨.U i (g+1) 0 (n+1) z,(ext H [.J 0 e xs]).upd i (.J (g+1) e (cs++xs)),?_,.inr ⟨i,g+1,h1,by rw[aQ,hne];omega,rfl,by simp[h4,hxl,VU],by rw[aj,Vf rfl]⟩,by rw[aQ,hne];omega,fun k hk hne2=>?_⟩
  ·unfold bU;rw[ht];have hl:=ah h5';simp only[hzero,hz,Option.bind_some];rw[hsrc];simp only[Option.bind_some,hl];rw[Vf ⟨trivial,trivial,V,hb.1,hb.2,hx⟩];simp
  ·rw[aj,Ve,dA hk];rintro rfl;exact hne2 _ _ rfl
end Go.Hx
namespace Go.Proofs
open Go.Hx Tryz
variable {cs:List ZI}{i n nx v:Nat}{S e:Nat->Prop}{H H':ZH}{d:ZK}
def ic (x:ZJ):ZI:=if x.nb=[] then .lit (.slice none 0 0) else ba x.nb
def ZJ.gJ (x:ZJ):List ZI:=[aa x.L,af x.F,ic x]
def bh (l:List ZJ):List ZI:=(l.map ZJ.gJ).flatten
def mW (l:List ZJ):(bh l).length=l.length*3:=mh (f:=ZJ.gJ) (fun _=>rfl) l
variable {l:List ZJ}{x:ZJ}
def rj (h:l[i]?=some x):(bh l)[i*3]?=some (aa x.L):=ko (f:=ZJ.gJ) (z:=3) (fun _=>rfl) l i 0 x h (V)
def rp (h:l[i]?=some x):(bh l)[i*3+1]?=some (af x.F):=ko (f:=ZJ.gJ) (z:=3) (fun _=>rfl) l i 1 x h (V)
def vO (h:l[i]?=some x):(bh l)[i*3+2]?=some (ic x):=ko (f:=ZJ.gJ) (z:=3) (fun _=>rfl) l i 2 x h (V)
def QM (l:List ZJ)(x:ZJ):bh (l++[x])=bh l++[aa x.L,af x.F,ic x]:=by unfold bh;simp[ZJ.gJ]
def QN (h:l[i]?=some x):¬bh l=[]:=fun e=>by
 have:=rj h;rw[e]at this;simp at this
def QO (l:List (List Int)):ba l=.Q l.length (l.map af):=rfl
def D3 (h:x.nb=[]):ic x=.lit (.slice none 0 0):=Vf h
def zC (h:x.nb≠[]):ic x=ba x.nb:=Ve h
variable {y:ZJ}
def D4 (h:l[i]?=some x)(hy:y.L=x.L/\y.F=x.F):bh (l.set i y)=setAt (bh l) (i*3+2) [ic y]:=by
 have hi:=aP h;have hl:=mW l;rw[iY V];apply V2;intro p;rw[W2];have hp:p=(p / 3)*3+p % 3:=V
 by_cases hb:p / 3<l.length
 ·by_cases hpi:p / 3=i
  ·have e0:(l.set i y)[p / 3]?=some y:=(by rw[hpi,Vz hi]);have c3:p % 3=0\/p % 3=1\/p % 3=2:=V;rcases c3 with c|c|c
   ·rw[Ve V,hp,c,Nat.add_zero,rj e0,rj (by rw[hpi];exact h),hy.1]
   ·rw[Ve V,hp,c,rp e0,rp (by rw[hpi];exact h),hy.2]
   ·rw[Vf V,Vf V,hp,c,vO e0]
  ·obtain⟨z,hz⟩:=ay hb;have e0:(l.set i y)[p / 3]?=some z:=(by rw[VN V];exact hz);have c3:p % 3=0\/p % 3=1\/p % 3=2:=V;rcases c3 with c|c|c
   ·rw[Ve V,hp,c,Nat.add_zero,rj e0,rj hz]
   ·rw[Ve V,hp,c,rp e0,rp hz]
   ·rw[Ve V,hp,c,vO e0,vO hz]
 ·rw[Vm (by rw[mW,VE];omega),Ve V,Vm V]
def QP (x:ZJ):Fz S H nx (ic x) (ba x.nb):=by
 unfold ic;split
 ·rename_i h;rw[h];exact .nil
 ·exact .ba _
def QQ (x:ZJ):Fz S H nx (ic x) (ic x):=by
 unfold ic;split
 ·exact .lit _
 ·exact .ba _
def zD :∀(l:List ZJ) (i:Nat) (h:i<(bh l).length) (h':i<(aI l).length),Fz S H nx (bh l)[i] (aI l)[i]:=by
 intro l i h h';have hb:i / 3<l.length:=by rw[mW]at h;omega
 obtain⟨x,hx⟩:=ay hb;have hp:i=(i / 3)*3+i % 3:=V
 have g1:(bh l)[i]?=some (bh l)[i]:=Vd h;have g2:(aI l)[i]?=some (aI l)[i]:=Vd h';generalize (bh l)[i]=a at g1 ⊢;generalize (aI l)[i]=b at g2 ⊢;have c3:i % 3=0\/i % 3=1\/i % 3=2:=V
 rcases c3 with c|c|c
 ·rw[hp,c,Nat.add_zero,rj hx]at g1;rw[hp,c,Nat.add_zero,mS hx]at g2;cases g1;cases g2;exact .lit _
 ·rw[hp,c,rp hx]at g1;rw[hp,c,mT hx]at g2;cases g1;cases g2;exact .ee _
 ·rw[hp,c,vO hx]at g1;rw[hp,c,DW hx]at g2;cases g1;cases g2;exact QP x
def zE (l:List ZJ):∀c∈bh l,Fz S H nx c c:=by
 intro c hc;unfold bh at hc;obtain⟨r,hr,hc⟩:=XV.1 hc;obtain⟨x,_,rfl⟩:=Vu.1 hr;unfold ZJ.gJ at hc;simp only[List.mem_cons,List.not_mem_nil,or_false]at hc;rcases hc with rfl|rfl|rfl
 ·exact .lit _
 ·exact .ee _
 ·exact QQ x
structure Z2 (e:Nat->Prop)(ns:List ZJ)(cs:List ZI):Prop where
 len:cs.length=ns.length*3
 node:∀(v:Nat) (x:ZJ),ns[v]?=some x->∃rv,cs[v*3]?=some (aa x.L)/\cs[v*3+1]?=some (af x.F)/\cs[v*3+2]?=some rv/\(rv=ba x.nb\/rv=ic x)/\(e v->rv=ic x)
variable {ns:List ZJ}
def Z2.c0 (h:Z2 e ns cs)(hx:ns[v]?=some x):cs[v*3]?=some (aa x.L):=(h.node v x hx).elim fun _ h=>h.1
def Z2.c1 (h:Z2 e ns cs)(hx:ns[v]?=some x):cs[v*3+1]?=some (af x.F):=(h.node v x hx).elim fun _ h=>h.2.1
def Z2.ne (h:Z2 e ns cs)(hx:ns[v]?=some x):¬cs=[]:=fun he=>by
 have:=h.c0 hx;rw[he]at this;simp at this
def Z2.part (h:Z2 e ns cs)(hx:ns[v]?=some x):∃rv,(cs.drop (v*3)).take 3=[aa x.L,af x.F,rv]/\cs[v*3+2]?=some rv/\(rv=ba x.nb\/rv=ic x)/\(e v->rv=ic x):=by
 obtain⟨rv,a,b,c,d,f⟩:=h.node v x hx;refine⟨rv,?_,c,d,f⟩;have h3:=aP c;rw[V9 V,V9 V,V9 V];simp only[List.take_succ_cons,List.take_zero];rw[Vd V]at a b c;rw[Option.some.inj a,Option.some.inj b,Option.some.inj c]
def Z2.nil :Z2 e [] []:=⟨rfl,fun v x hx=>by simp at hx⟩
def Z2.mono {e':Nat->Prop}(h:Z2 e ns cs)(he:∀v,e' v->e v):Z2 e' ns cs:=⟨h.len,fun v x hx=>by
 obtain⟨r,a,b,c,d,f⟩:=h.node v x hx;exact⟨r,a,b,c,d,fun h=>f (he v h)⟩⟩
def tQ {α:Type}{l:List α}{x:α}(h:l[i]?=some x):l.set i x=l:=by
 apply V2;intro j;rw[W2];split
 ·rename_i hj;subst hj;rw[Vf (aP h),h]
 ·rfl
structure FiS (d:ZK)(fv:ZI)(H H':ZH)(nh:ZI)(n:Nat)(cs:List ZI):Prop where
 nx:H.A+4<=H'.A
 ov:ZM H H'
 b0:H'.get H.A=some (.J 0 38 [.lit (.int .i64 d.nl),.Q d.C.length (aI d.C),.lit (.int .u64 (d.Y:Int)),.Q d.Z.length (bt d.Z)])
 b1:H'.get (H.A+1)=some (.J 0 180 [fv])
 b2:H'.get (H.A+2)=some (.J 0 90 [.lit (.int .i64 0),.lit (.slice none 0 0)])
 b3:H'.get (H.A+3)=some (.J 0 90 [.lit (.int .i64 d.nl),nh])
 nd:fy (H.A+4) H' 76 3 nh n cs
theorem FiS.over {fv:ZI}{H2:ZH}{nh:ZI}(h:FiS d fv H H' nh n cs)(o:ZM H' H2):FiS d fv H H2 nh n cs where
 nx:=VO h.nx o.A
 ov:=h.ov.trans o
 b0:=(o.nf _ (by have:=h.nx;omega)).trans h.b0
 b1:=(o.nf _ (by have:=h.nx;omega)).trans h.b1
 b2:=(o.nf _ (by have:=h.nx;omega)).trans h.b2
 b3:=(o.nf _ (by have:=h.nx;omega)).trans h.b3
 nd:=h.nd.over o
def SY {v:ZI}{xs:List ZI}(hx:xs.all ZI.one=true)(hxl:xs.length=3)(hn:n<2 ^ 38)(ho:fy (H.A+4) H' 76 3 v n cs)(hlo:H.A+4<=H'.A):
  ∃v' H2,bU prog (ext H' [.J 0 76 xs]) (H'.A+1) 35 35 v (.U H'.A 0 0 1 3)=some (v',H2)/\fy (H.A+4) H2 76 3 v' (n+1) (cs++xs)/\H'.A<=H2.A/\(∀k,k<H'.A->(∀g n,v≠.U k g 0 n 3)->H2.get k=H'.get k) :=
 Gr Tryz.underlying35 Tryz.CW Tryz.CY hx hxl (by rw[Tryz.CX];omega) ho hlo rfl
def FE {lo:Nat}{v:ZI}{l:List ZI}(x:ZI)(hx:x.one=true)(h:aK lo H' 72 v l)(hlo:lo<=H'.A)(hl:l.length<2 ^ 40):
  ∃v' H2,bU prog (ext H' [.J 0 72 [x]]) (H'.A+1) 74 74 v (.U H'.A 0 0 1 1)=some (v',H2)/\aK lo H2 72 v' (l++[x])/\H'.A<=H2.A/\(∀k,k<H'.A->(∀g n,v≠.U k g 0 n 1)->H2.get k=H'.get k) :=
 jN (P:=prog) (H:=H') (t:=74) (x:=x) (n:=H'.A+1) Tryz.underlying74 Tryz.zc Tryz.ze hx (by rw[Tryz.zd];omega) h hlo rfl
def SZ (d:ZK)(hf:Z6 d)(hR:Z4 d)(c:Nat->Nat->Int)(fv:ZI)(rs:List Nat)(H:ZH)(hrs:∀i∈rs,i<H.A)(hfc:fv.cells=[fv])(hfo:fv.one=true)
  (hfv:∀p r v x H1,(aG d)[p]?=some v->d.C[v]?=some x->r<cr d.C x->ZM H H1->(0<=c p r/\c p r<x.L)/\bD prog G0 fv [.lit (.int .i64 p),.lit (.int .i64 r)] H1 (.lit (.int .i64 (c p r))) rs)
  (K:ZN->ZH->Prop) (hK:K (.ret (fa d.nl (di d c))) H):ae prog G0 106 [dh d,fv] H K:=by
 refine ae.X ⟨_,func106,rfl,rfl⟩ fun hcl=>?_;have hl:=hf.C.1;have hn8:=hR.n1.2;refine ae.st (n:=91) (rs:=[.cell 4 90]) func106 ?_;simp only[go_sem,ij,c9,hfc];obtain⟨Hb,hHb⟩:∃Hb,Hb=ext H [.J 0 38 [.lit (.int .i64 d.nl),.Q d.C.length (aI d.C),.lit (.int .u64 (d.Y:Int)),.Q d.Z.length (bt d.Z)],.J 0 180 [fv],.J 0 90 [.lit (.int .i64 0),.lit (.slice none 0 0)],.J 0 90 [.lit (.int .i64 d.nl),.lit (.slice none 0 0)]]:=⟨_,rfl⟩
 rw[<- hHb];have R0:FiS d fv H Hb (.lit (.slice none 0 0)) 0 []:=by
  rw[hHb];exact⟨by simp[aX],.ext _ _,cH ..,bN H _ 1 ZD,bN H _ 2 ZD,bN H _ 3 ZD,.nil⟩
 have nb:Hb.A=H.A+4:=hHb▸rfl
 refine W.loop 4503599626323328 (by rfl) (fun ρ H'=>∃(k:Nat) (nh:ZI),ρ 20=aa k/\k<=d.C.length/\FiS d fv H H' nh k (bh (d.C.take k))) (fun ρ H=>d.C.length-(iv (ρ 20)).toNat) ?_ ?_
 ·simp only[go_sem];exact⟨0,_,rfl,V,R0⟩
 rintro ρ H' ⟨k,nh,h20,hk,R⟩;refine W.vs ?_;have rn:=R.nx;have q0:=ah R.b0;have q3:=ah R.b3;by_cases hb:(k:Int)<d.C.length
 ·obtain⟨x,hx⟩:=ay (l:=d.C) (i:=k) V;have hxm:=Va hx;obtain⟨f1,f2,f3⟩:=hf.C.2 x hxm;have hne:=fU hx;have e0:=ox hx;have e1:k*3+3<=(aI d.C).length:=by rw[kq];omega
  simp only[go_sem,h20,hb,hne,e0,e1];refine W.dr 7 [0,1,0,4,12,31,0] mixed ?_;simp only[go_sem];refine⟨af x.F,[],bD.pure fun H2=>oL x.F V H2 _ ⟨rfl,rfl⟩,?_⟩;simp only[go_sem,QO]
  repeat (refine And.intro (by first|omega|(simp;done)|(simp;omega)|(intros;omega)|exact⟨rfl,V,V,kV _⟩) ?_)
  obtain⟨H1,hH1⟩:∃H1,H1=ext (ext H' [.J 0 76 [.lit (.int .i64 x.L),.Q x.F.length (ints x.F),.Q x.nb.length (x.nb.map af)]]) [.J 0 76 [.lit (.int .i64 x.L),.Q x.F.length (ints x.F),.lit (.slice none 0 0)]]:=⟨_,rfl⟩
  have n1:H1.A=H'.A+2:=by rw[hH1];rfl
  have gA:H1.get H'.A=some (.J 0 76 [.lit (.int .i64 x.L),.Q x.F.length (ints x.F),.Q x.nb.length (x.nb.map af)]):=by rw[hH1,dA (by simp[aX])];exact eh
  have gB:H1.get (H'.A+1)=some (.J 0 76 [.lit (.int .i64 x.L),.Q x.F.length (ints x.F),.lit (.slice none 0 0)]):=by rw[hH1];exact eh (H:=ext H' [_])
  have o1:ZM H' H1:=by rw[hH1];exact(ZM.ext _ _).trans (.ext _ _)
  have lA:=ah gA;rw[hH1]at lA;simp only[go_sem,lA];rw[<- hH1];refine W.aT 35175782155264 (by rfl) (fun ρ' H2=>∃(j:Nat) (rh:ZI),ρ' 33=aa j/\j<=x.nb.length/\ZM H' H2/\H1.A<=H2.A/\H2.get (H'.A+1)=some (.J 0 76 [.lit (.int .i64 x.L),.Q x.F.length (ints x.F),rh])/\aK (H'.A+2) H2 72 rh ((x.nb.take j).map af)/\(j=0->rh=.lit (.slice none 0 0))) (fun ρ' H=>x.nb.length-(iv (ρ' 33)).toNat) ?_ ?_
  ·simp only[go_sem];exact⟨0,_,rfl,V,o1,gB,.nil,fun _=>rfl⟩
  rintro ρ' H2 ⟨j,rh,h33,hj,o2,hn2,gB2,hrh,hrh0⟩;refine W.vs ?_;have o2n:=o2.A;have lB:=ah gB2;by_cases hb2:(j:Int)<x.nb.length
  ·obtain⟨r,hr⟩:=ay (l:=x.nb) (i:=j) V;have hrm:=Va hr;have hrne:=bd hr;have w1:=Vb ((j:Int)+1) V;simp only[go_sem,h33,hb2,hr,hrne];obtain⟨rh2,H3,hA,hO,hn3,hp⟩:=FE (af r) rfl hrh V (by simp;omega);simp only[af]at hA;have hcells:=hO.cells;have hone:=hO.one;have g3:H3.get (H'.A+1)=some (.J 0 76 [.lit (.int .i64 x.L),.Q x.F.length (ints x.F),rh]):=(hp _ V (hrh.ne V)).trans gB2;have l3:=ah g3;refine W.dr 5 [0,1,0,4,12] mixed ?_;simp only[go_sem,lB];refine⟨af r,[],bD.pure fun H2=>oL r (by have:=f3 r hrm;omega) H2 _ ⟨rfl,rfl⟩,?_⟩;simp only[go_sem,h33,hA,l3,hcells,hone,w1]
   repeat (refine And.intro (by first|omega|(simp;done)|(simp;omega)|(intros;omega)|exact⟨rfl,V,V,kV _⟩) ?_)
   have o3:ZM H' H3:=⟨V,fun id h=>(hp id V (hrh.ne V)).trans (o2.nf id h)⟩
   refine⟨by rw[aQ];omega,⟨j+1,rh2,ZD,V,o3.upd V _,by rw[aQ];omega,by rw[aj,Vf rfl],?_,V⟩,V⟩;have e:(x.nb.take (j+1)).map af=(x.nb.take j).map af++[af r]:=(by rw[bb hr];simp);rw[e];exact hO.ng ZG (by rw[aQ];omega) fun id g h1 _ _ _=>by rw[aj,Ve V]
  ·rw[Vg V]at hrh;have R2:=R.over o2;have q3b:=ah R2.b3;obtain⟨nh2,H3,hA,hO,hn3,hp⟩:=SY (H:=H) (H':=H2) (v:=nh) (n:=k) (xs:=[.lit (.int .i64 x.L),.Q x.F.length (ints x.F),rh]) (by rw[List.all_cons,List.all_cons,List.all_cons,hrh.one];rfl) rfl V R2.nd (by have:=R2.nx;omega);have r2n:=R2.nx;have fr:∀id,id<H.A+4->H3.get id=H2.get id:=fun id h=>hp id V (R2.nd.ne h);have g3:H3.na (H.A+3) 0=some (90,[.lit (.int .i64 d.nl),nh]):=ah ((fr _ V).trans R2.b3);have hcells:=hO.cells;have hone:=hO.one;have hrc:=hrh.cells;have hro:=hrh.one;have w1:=Vb ((k:Int)+1) V;simp only[go_sem,h20,h33,hb2,lB,q3b,hA,g3,hcells,hone,w1];obtain⟨H4,hH4⟩:∃H4,H4=H3.upd (H.A+3) (.J 0 90 [.lit (.int .i64 d.nl),nh2]):=⟨_,rfl⟩
   rw[<- hH4];refine(fun (h:∀E:Env,E 20=aa ((k:Int)+1)->∃s₃:St,eZ prog G0 ⟨E,H4⟩ s₃/\Hb.A<=s₃.H.A/\(∃(k:Nat) (nh:ZI),s₃.ρ 20=aa k/\k<=d.C.length/\FiS d fv H s₃.H nh k (bh (d.C.take k)))/\d.C.length-(iv (s₃.ρ 20)).toNat<d.C.length-k)=>h _ (by simp only[go_sem])) fun E hE20=>?_;have n4:H4.A=H3.A:=(by rw[hH4];rfl);obtain⟨nb2,gn,b1,b2,rfl,b4,b5⟩:∃id g,H.A+4<=id/\id<H3.A/\nh2=.U id g 0 (k+1) 3/\(bh (d.C.take k)++[.lit (.int .i64 x.L),.Q x.F.length (ints x.F),rh]).length=(k+1)*3/\H3.get id=some (.J g 76 (bh (d.C.take k)++[.lit (.int .i64 x.L),.Q x.F.length (ints x.F),rh])):=by
    rcases hO with ⟨_,h,_⟩|h
    ·omega
    ·exact h
   have c0:∀id,id<H.A+3->H4.get id=H2.get id:=fun id h=>by rw[hH4,aj,Ve V];exact fr id (V)
   have c3:H4.get (H.A+3)=some (.J 0 90 [.lit (.int .i64 d.nl),.U nb2 gn 0 (k+1) 3]):=(by rw[hH4,aj,Vf rfl]);have c5:H4.get nb2=some (.J gn 76 (bh (d.C.take k)++[.lit (.int .i64 x.L),.Q x.F.length (ints x.F),rh])):=(by rw[hH4,aj,Ve V];exact b5);have e5:bh (d.C.take (k+1))=bh (d.C.take k)++[aa x.L,af x.F,ic x]:=(by rw[bb hx,QM]);by_cases hr0:x.nb=[]
   ·have hrn:rh=.lit (.slice none 0 0):=hrh0 (by rw[hr0]at hj;simpa using hj);subst hrn;refine⟨⟨E,H4⟩,eZ.refl _,by show Hb.A<=H4.A;omega,⟨k+1,.U nb2 gn 0 (k+1) 3,hE20.trans ZD,V,⟨by show _<=H4.A;omega,⟨by have:=R2.ov.A;show _<=H4.A;omega,fun id h=>(c0 id V).trans (R2.ov.nf id h)⟩,(c0 _ V).trans R2.b0,(c0 _ V).trans R2.b1,(c0 _ V).trans R2.b2,c3,.inr ⟨nb2,gn,b1,by show _<H4.A;omega,rfl,?_,?_⟩⟩⟩,?_⟩
    ·rw[mW];simp;omega
    ·show H4.get nb2=_;rw[e5,D3 hr0];exact c5
    ·show _-(iv (E 20)).toNat<_;rw[hE20];simp only[aa,bf];omega
   ·obtain⟨rk,gr,r1,r2,rfl,r4⟩:∃id g,H'.A+2<=id/\id<H2.A/\rh=.U id g 0 (x.nb.map af).length 1/\H2.get id=some (.J g 72 (x.nb.map af)):=by
     rcases hrh with ⟨_,h⟩|h
     ·simp at h;exact absurd h hr0
     ·exact h
    have nhne:∀g n,nh≠.U rk g 0 n 3:=fun g n he=>by
     rcases R.nd with ⟨h,_⟩|⟨i,g2,_,h,h2,_⟩
     ·rw[h]at he;cases he
     ·rw[h2]at he;have:=ZI.U.inj he;omega
    have c6:H4.get rk=some (.J gr 72 (x.nb.map af)):=(by rw[hH4,aj,Ve V,hp rk r2 nhne];exact r4);have hne2:nb2≠rk:=by
     rintro rfl;rw[c5]at c6;have:=(ZO.J.inj (Option.some.inj c6)).2.1;exact absurd this (ZE)
    have e6:∀c:ZI,bh (d.C.take k)++[.lit (.int .i64 x.L),.Q x.F.length (ints x.F),c]=(bh (d.C.take k)++[.lit (.int .i64 x.L),.Q x.F.length (ints x.F)])++c :: []:=fun c=>ZD
    rw[e6]at c5;have e7:bh (d.C.take (k+1))=(bh (d.C.take k)++[.lit (.int .i64 x.L),.Q x.F.length (ints x.F)])++ba x.nb :: []:=(by rw[e5,zC hr0,<- e6];rfl);refine⟨⟨E,H4.fI rk nb2 (.J gn 76 ((bh (d.C.take k)++[.lit (.int .i64 x.L),.Q x.F.length (ints x.F)])++ba x.nb :: []))⟩,eZ.fI (s:=⟨E,H4⟩) aF c5 hne2 ZD (UI (fun c hc=>?_) ?_ fun c hc=>by cases hc),by show Hb.A<=H4.A;omega,
     ⟨k+1,.U nb2 gn 0 (k+1) 3,hE20.trans ZD,V,⟨by show _<=H4.A;omega,⟨by have:=R2.ov.A;show _<=H4.A;omega,fun id h=>(mD V V).trans ((c0 id V).trans (R2.ov.nf id h))⟩,(mD V V).trans ((c0 _ V).trans R2.b0),(mD V V).trans ((c0 _ V).trans R2.b1),(mD V V).trans ((c0 _ V).trans R2.b2),(mD V V).trans c3,.inr ⟨nb2,gn,b1,by show _<H4.A;omega,rfl,?_,?_⟩⟩⟩,?_⟩
    ·rcases VC.1 hc with hc|hc
     ·exact zE _ c hc
     ·simp only[List.mem_cons,List.not_mem_nil,or_false]at hc;rcases hc with rfl|rfl
      ·exact .lit _
      ·exact .ee _
    ·show Fz (fun id=>id=rk) H4 _ _ _;rw[show ba x.nb=.Q (x.nb.map af).length (x.nb.map af) by simp[ba]];refine .nz (S:=fun id=>id=rk) rfl c6 (by rw[Nat.mul_one]) fun j hj h2 h'=>?_;simp only[Nat.zero_add,Vt];exact .ee _
    ·rw[mW];simp;omega
    ·rw[e7];exact xk hne2
    ·show _-(iv (E 20)).toNat<_;rw[hE20];simp only[aa,bf];omega
 have ek:k=d.C.length:=V
 subst ek;rw[Vg ZG]at R;obtain⟨nbk,gn,b1,b2,rfl,b4,b5⟩:∃id g,H.A+4<=id/\id<H'.A/\nh=.U id g 0 d.C.length 3/\(bh d.C).length=d.C.length*3/\H'.get id=some (.J g 76 (bh d.C)):=by
  rcases R.nd with ⟨_,h,_⟩|h
  ·have:=hR.n1.1;omega
  ·exact h
 simp only[go_sem,h20,hb,q0];refine ao.X (Ao d _ _ ⟨trivial,?_⟩);simp only[go_sem];obtain⟨H2,hH2⟩:∃H2,H2=ext H' [lH d]:=⟨_,rfl⟩
 rw[<- hH2];have o2:ZM H' H2:=by rw[hH2];exact .ext _ _
 have n2:H2.A=H'.A+1:=by rw[hH2];rfl
 have hbx:H2.get H'.A=some (lH d):=by rw[hH2];exact eh
 refine W.env fun E hE=>?_;have e2:E 2=.O H.A 0 0:=by rw[hE];simp only[go_sem]
 have e3:E 3=.O (H.A+1) 0 0:=by rw[hE];simp only[go_sem]
 have e4:E 4=.O (H.A+2) 0 0:=by rw[hE];simp only[go_sem]
 have e5:E 5=.O (H.A+3) 0 0:=by rw[hE];simp only[go_sem]
 let F:Nat->List ZI->ZH->Prop:=fun lo cs Hx=>lo<=Hx.A/\(∀id,id<H2.A->id≠nbk->Hx.get id=H2.get id)/\Hx.get nbk=some (.J gn 76 cs)
 refine W.rY (f:=109) (first:=[]) (cap:=[.O H'.A 0 0]) (by show E 53=_;rw[hE];rfl) (An d V hf.Y H'.A)
  (fun k Hx=>F H2.A (bh (eA d c k)) Hx) (fun _ _=>False)
  (fun k Hx h=>by rw[h.2.1 _ V V];exact hbx) (fun k Hx b h=>⟨h.1,fun id h1 h2=>by rw[aj,Ve V];exact h.2.1 id h1 h2,by rw[aj,Ve V];exact h.2.2⟩) (fun _ _ _ h=>h)
  (fun b=>⟨by rw[aX];omega,fun id h1 h2=>dA h1,by rw[dA V,QJ];exact(o2.nf _ b2).trans b5⟩) ZE Am (fun _ _ _=>trivial) (fun _ _ _=>trivial) (fun k y Hx B Bb hy hj hn hB hBb=>?_) (fun Hx hj hn=>?_) (fun Hx hs hn=>hs.elim) (fun i Hx hs hn=>hs.elim)
 ·obtain⟨v,hv,rfl⟩:=wE hy;obtain⟨v1,v2,v3⟩:=ri hv;obtain⟨x,hx⟩:=ay (l:=d.C) (i:=v) v1;have hxm:=Va hx;obtain⟨x1,x2⟩:=hR.dec v x hx v2;refine W.vs ?_;simp only[go_sem,jM,dw,mC,Wi,XA,WY,W6,hB];obtain⟨H3,hH3⟩:∃H3,H3=Hx.upd H2.A Bb:=⟨_,rfl⟩
  rw[<- hH3];obtain⟨st,pd,n',en,ps',as',bo,hBe⟩:=hBb;have n3:H3.A=Hx.A:=by rw[hH3];rfl
  have hj3:F H2.A (bh (eA d c k)) H3:=by rw[hH3];exact⟨hj.1,fun id h1 h2=>by rw[aj,Ve V];exact hj.2.1 id h1 h2,by rw[aj,Ve V];exact hj.2.2⟩
  have jB:H3.get H2.A=some Bb:=by rw[hH3,aj,Vf rfl]
  refine W.en (fun E1=>E1 2=.O H.A 0 0 /\ E1 3=.O (H.A+1) 0 0 /\ E1 5=.O (H.A+3) 0 0 /\ E1 11=aa k /\ E1 12=aa v) (by simp only[go_sem,dw,e2,e3,e5]) fun E1 ⟨m2,m3,m5,m11,m12⟩=>?_
  have hvn:(v:Int)<d.C.length:=V
  have s2:=R.over o2;have oldH:∀ {Hy:ZH},(∀id,id<H2.A->id≠nbk->Hy.get id=H2.get id)->Hy.na H.A 0=some (38,[.lit (.int .i64 d.nl),.Q d.C.length (aI d.C),.lit (.int .u64 (d.Y:Int)),.Q d.Z.length (bt d.Z)])/\Hy.na (H.A+1) 0=some (180,[fv])/\Hy.na (H.A+3) 0=some (90,[.lit (.int .i64 d.nl),.U nbk gn 0 d.C.length 3]):=fun h =>
   ⟨ah ((h _ V V).trans s2.b0),ah ((h _ V V).trans s2.b1),ah ((h _ V V).trans s2.b3)⟩
  obtain⟨k0,k1,k3⟩:=oldH hj3.2.1;have ps:=oM hn8 x2 hR.L;have hpm:=rQ (ns:=d.C) (x:=x) (fun q hq=>by have:=x2.2 q hq;omega) hR.L;have hpp:1<=aD (aU d.C x):=fZ fun c hc=>(hpm c hc).1;have hpb:=ps.prod;have hrn:((cr d.C x:Nat):Int)=aD (aU d.C x):=by unfold cr;omega
  have hlk:(eA d c k)[v]?=some x:=by rw[oz hx];unfold gP;rw[Ve V]
  have el:=mW (eA d c k);have hvk:v*3+2<(bh (eA d c k)).length:=by rw[el,lh];omega
  refine W.xm (Q':=fun e s2=>e=.normal/\∃rh,F H3.A (setAt (bh (eA d c k)) (v*3+2) [rh]) s2.H/\s2.H.get H2.A=some Bb/\aK H3.A s2.H 72 rh ((List.range (cr d.C x)).map fun r=>af (ep d.nl x.L (c k r)))) ?_ ?_;rotate_left
  ·rintro e sx ⟨rfl,rh,hF,jBx,hrh⟩;obtain⟨rk,gr,r1,r2,rfl,r4⟩:∃id g,H3.A<=id/\id<sx.H.A/\rh=.U id g 0 ((List.range (cr d.C x)).map fun r=>af (ep d.nl x.L (c k r))).length 1/\sx.H.get id=some (.J g 72 ((List.range (cr d.C x)).map fun r=>af (ep d.nl x.L (c k r)))):=by
    rcases hrh with ⟨_,h⟩|h
    ·have:cr d.C x=0:=(by simpa using h);omega
    ·exact h
   have hfs:=QK (c:=c) hv hx;have edr:dE d.nl d.C c k x=(List.range (cr d.C x)).map fun r=>ep d.nl x.L (c k r):=rfl;have ey:ic { x with nb:=x.nb++dE d.nl d.C c k x }=.Q ((List.range (cr d.C x)).map fun r=>af (ep d.nl x.L (c k r))).length ((List.range (cr d.C x)).map fun r=>af (ep d.nl x.L (c k r))):=by
    have hne:x.nb++dE d.nl d.C c k x≠[]:=by
     rw[x1,edr,List.nil_append];intro h;have:cr d.C x=0:=(by simpa using h);omega
    rw[zC hne];show ba (x.nb++_)=_;rw[x1,edr,List.nil_append];simp[ba,XZ,Function.comp_def]
   have hob:=hF.2.2;rw[iY hvk]at hob;have hc2:bh (eA d c (k+1))=(bh (eA d c k)).set (v*3+2) (.Q ((List.range (cr d.C x)).map fun r=>af (ep d.nl x.L (c k r))).length ((List.range (cr d.C x)).map fun r=>af (ep d.nl x.L (c k r)))):=by
    rw[hfs,D4 (y:={ x with nb:=x.nb++dE d.nl d.C c k x }) hlk ⟨rfl,rfl⟩,ey,iY hvk]
   have hne2:nbk≠rk:=(by have:=hj3.1;omega);refine⟨⟨sx.ρ,sx.H.fI rk nbk (.J gn 76 (bh (eA d c (k+1))))⟩,eZ.fI aF hob hne2 (by rw[hc2,VE,VE]) ?_,ZG,⟨_,_,_,_,_,_,_,by rw[mD V V,jBx,hBe]⟩,by rw[mD V V];exact jBx,by show Hx.A<=sx.H.A;have:=hF.1;omega,
    ⟨by show H2.A<=sx.H.A;have:=hF.1;omega,fun id h1 h2=>(mD V h2).trans (hF.2.1 id h1 h2),xk hne2⟩⟩
   rw[hc2];refine AO (zE _) ?_;refine .nz (S:=fun id=>id=rk) rfl r4 (by rw[Nat.mul_one]) fun j hj h2 h'=>?_;simp only[Nat.zero_add,Vt];exact .ee _
  refine W.vs ?_;simp only[go_sem,m2,m12,k0];refine ao.X (FM d.C v x hx (fun q hq=>by have:=x2.2 q hq;omega) ps _ _ ⟨⟨_,_,_,_,_,_,_,by rw[jB,hBe]⟩,?_⟩);rw[<- hrn];simp only[go_sem];refine W.aT 1237940038132458770292285440 (by rfl) (fun ρ2 H4=>∃(r:Nat) (rh:ZI),ρ2 60=aa r/\r<=cr d.C x/\F H3.A (setAt (bh (eA d c k)) (v*3+2) [rh]) H4/\H4.get H2.A=some Bb/\aK H3.A H4 72 rh ((List.range r).map fun r=>af (ep d.nl x.L (c k r)))/\(r=0->rh=.lit (.slice none 0 0)))
   (fun ρ2 H=>cr d.C x-(iv (ρ2 60)).toNat) ?_ ?_
  ·simp only[go_sem];refine⟨0,.lit (.slice none 0 0),rfl,V,⟨ZG,hj3.2.1,?_⟩,jB,.nil,fun _=>rfl⟩;rw[show setAt (bh (eA d c k)) (v*3+2) [.lit (.slice none 0 0)]=bh (eA d c k) from by
    have:=D4 (y:=x) hlk ⟨rfl,rfl⟩;rw[D3 x1]at this;rw[<- this];congr 1;exact tQ hlk]
   exact hj3.2.2
  rintro ρ2 H4 ⟨r,rh,h60,hr,hF,jB4,hrh,hrh0⟩;refine W.en (fun E2=>E2 2=.O H.A 0 0 /\ E2 3=.O (H.A+1) 0 0 /\ E2 5=.O (H.A+3) 0 0 /\ E2 11=aa k /\ E2 12=aa v /\ E2 59=aa (cr d.C x) /\ E2 60=aa r) (by simp only[go_sem,m2,m3,m5,m11,m12,h60]) fun E2 ⟨i2,i3,i5,i11,i12,i59,i60⟩=>?_
  refine W.vs ?_;by_cases hb2:(r:Int)<cr d.C x
  ·obtain⟨k0,k1,k3⟩:=oldH hF.2.1;have kn:=ah hF.2.2;have hne:=fU hx;have ec:=mS hx;have w1:=Vb ((r:Int)+1) V;obtain⟨cb,hpc⟩:=hfv k r v x H4 hv hx V ⟨V,fun id h=>(hF.2.1 id V V).trans (s2.ov.nf id h)⟩;have hs:(setAt (bh (eA d c k)) (v*3+2) [rh])[v*3+2]?=some rh:=(by rw[iY hvk,Vz hvk]);obtain⟨rh2,H5,hA,hO,hn5,hp⟩:=FE (af (ep d.nl x.L (c k r))) rfl hrh hF.1 (by rw[Vx,WT];omega);simp only[af]at hA;have hcells:=hO.cells;have hone:=hO.one;have hpr:bD prog G0 (.X 144 [] []) [.lit (.int .i64 d.nl),.lit (.int .i64 x.L),.lit (.int .i64 (c k r))] H4 (af (ep d.nl x.L (c k r))) []:=bD.pure fun H2=>SP d.nl x.L (c k r) (by have:=hR.L x hxm;omega) cb H2 _ ⟨rfl,rfl⟩;have hrhs:rh=.lit (.slice none 0 0)\/∃i g n,rh=.U i g 0 n 1/\H3.A<=i/\i<H4.A:=by
    rcases hrh with ⟨h,_⟩|⟨i,g,h1,h2,h3,_⟩
    ·exact .inl h
    ·exact .inr ⟨i,g,_,h3,h1,h2⟩
   have hset:∀a b,setAt (setAt (bh (eA d c k)) (v*3+2) [a]) (v*3+2) [b]=setAt (bh (eA d c k)) (v*3+2) [b]:=fun a b=>by rw[iY hvk,iY (by rw[VE];exact hvk),iY hvk,YW]
   have hslen:∀a,(setAt (bh (eA d c k)) (v*3+2) [a]).length=(bh (eA d c k)).length:=fun a=>by rw[iY hvk,VE]
   have hg5:H5.get nbk=some (.J gn 76 (setAt (bh (eA d c k)) (v*3+2) [rh])):=(hp _ (by have:=hF.1;omega) (hrh.ne V)).trans hF.2.2;have kn5:=ah hg5;have ho5:∀id,id<H2.A->id≠nbk->H5.get id=H2.get id:=fun id h1 h2=>(hp _ (by have:=hF.1;omega) (hrh.ne V)).trans (hF.2.1 id h1 h2);have jB5:H5.get H2.A=some Bb:=(hp _ (by have:=hF.1;omega) (hrh.ne V)).trans jB4;obtain⟨hn34,-,-⟩:=hF;rcases rs with _|⟨b0,rs⟩<;>rcases hrhs with rfl|⟨i,g,n,rfl,hi1,hi2⟩
   all_goals
    simp only[go_sem,i60,i59,hb2];refine W.dr 24 [0,1,0,0,8,0,56,120,248,0,512,0,2048,0,14336,30720,63488,0,0,0,917504,2096640,4193792,8388600] mixed ?_;simp only[go_sem,i2,i3,i5,i11,i12,k0,k1,k3,kn,hvn,hne,ec,hs];refine⟨.lit (.int .i64 (c k r)),_,hpc,af (ep d.nl x.L (c k r)),[],hpr,?_⟩;simp only[go_sem,i2,i3,i5,i11,i12,i60,hvn,kn5,hA,hcells,hone,w1];refine⟨by repeat' (first|refine And.intro ?_ ?_|(intro x hx;omega)),by repeat' (first|refine And.intro ?_ ?_|(intro x hx;omega)),by rw[hslen];omega,by rw[aQ];omega,⟨_,_,_,_,_,_,_,by rw[aj,Ve V,jB5,hBe]⟩,
     ⟨r+1,rh2,ZD,V,⟨by rw[aQ];omega,fun id h1 h2=>by rw[aj,Ve h2];exact ho5 id h1 h2,by rw[aj,Vf rfl,hset]⟩,by rw[aj,Ve V];exact jB5,?_,V⟩,by rw[h60];simp only[aa,bf];omega⟩
    have e:((List.range (r+1)).map fun r=>af (ep d.nl x.L (c k r)))=((List.range r).map fun r=>af (ep d.nl x.L (c k r)))++[af (ep d.nl x.L (c k r))]:=(by rw[VW];simp);show aK _ _ _ _ ((List.range (r+1)).map fun r=>af (ep d.nl x.L (c k r)));rw[e];exact hO.ng ZG (by rw[aQ];omega) fun id g h1 _ _ _=>by rw[aj,Ve V]
  ·have er:r=cr d.C x:=V;subst er;simp only[go_sem,i59,i60,hb2];exact⟨rh,hF,jB4,hrh⟩
 ·have s2:=R.over o2;have f4:=ah ((hj.2.1 _ V V).trans s2.b2);have f5:=ah ((hj.2.1 _ V V).trans s2.b3);simp only[go_sem,e4,e5,f4,f5];have ovx:ZM H Hx:=⟨V,fun id h=>(hj.2.1 id V V).trans (s2.ov.nf id h)⟩
  refine ak.bB (v':=fa d.nl (di d c)) aF hcl (ovx.upd V _) (.agg rfl fun i hi _=>?_) hK
  match i,hi with
  |0,_=>exact .lit _
  |1,_ =>
   have hg:∀b,(Hx.upd (H.A+2) b).get nbk=some (.J gn 76 (bh (di d c))):=fun b=>by
    rw[aj,Ve V];have:=hj.2.2;rw[wG]at this;exact this
   show Fz _ _ _ (.U nbk gn 0 d.C.length 3) (.Q (di d c).length (aI (di d c)));rw[show (di d c).length=d.C.length from lh _ _ _];refine .nz (by show H.A<=_;omega) (hg _) (by rw[kq];congr 1;exact lh _ _ _) fun j hj h2 h'=>?_;simp only[Nat.zero_add];exact zD _ j _ _
structure Z8 (ns:List ZJ)(u:ZV):Prop where
 vars:bZ u.vars ns.length
 size:(u.w.length:Int)=aD (aL (aw ns) u.vars)
 w:∀x∈u.w,-100<=x/\x<=100
def wJ (d:ZK):Prop:=d.Z.length<=4/\∀u∈d.Z,Z8 d.C u
def wK {vars:List Int}(h8:ns.length<=8)(hp:bZ vars ns.length)(hc:∀y∈ns,1<=y.L/\y.L<=4):fh (aL (aw ns) vars) :=
 oM (x:=⟨0,vars,[]⟩) h8 hp hc
def S3 (d:ZK)(hf:Z6 d)(h8:d.C.length<=8)(hc:∀y∈d.C,1<=y.L/\y.L<=4)(H:ZH)(K:ZN->ZH->Prop)(hK:K (.ret (.lit (.bool (lI (wJ d))))) H):ae prog G0 108 [dh d] H K:=by
 refine ae.X ⟨_,func108,rfl,rfl⟩ fun hcl=>?_;have hul:=hf.Z.1;have no:¬wJ d->∀H',ZM H H'->ak prog G0 H K (.lit (.bool false)) H':=fun h H' ov=>ak.bB aF hcl ov (.lit _) (by rw[oJ h]at hK;exact hK);refine ae.st (n:=74) (rs:=[.tmp 2]) func108 ?_;simp only[go_sem,ij,c9];obtain⟨H1,hH1⟩:∃H1,H1=ext H [.J 0 38 [.lit (.int .i64 d.nl),.Q d.C.length (aI d.C),.lit (.int .u64 (d.Y:Int)),.Q d.Z.length (bt d.Z)]]:=⟨_,rfl⟩
 have l1:H1.na H.A 0=some (38,[.lit (.int .i64 d.nl),.Q d.C.length (aI d.C),.lit (.int .u64 (d.Y:Int)),.Q d.Z.length (bt d.Z)]):=by rw[hH1];exact ah (cH ..)
 have n1:H1.A=H.A+1:=hH1▸rfl
 have o1:ZM H H1:=hH1▸.ext _ _
 rw[<- hH1];refine W.aT 9444732965739290166632 (by rfl) (fun ρ H'=>∃k:Nat,ρ 18=aa k/\k<=d.Z.length/\ZM H1 H'/\ρ 3=.lit (.bool (decide ((d.Z.length:Int)<=4)))/\(0<k->d.Z.length<=4)/\∀u∈d.Z.take k,Z8 d.C u) (fun ρ H=>d.Z.length-(iv (ρ 18)).toNat) ?_ ?_
 ·simp only[go_sem];exact⟨0,rfl,V,.refl _,V,ZD⟩
 rintro ρ H' ⟨k,h18,hk,ov,h3,hk4,hall⟩;refine W.en (fun E=>E 1=.O H.A 0 0 /\ E 3=.lit (.bool (decide ((d.Z.length:Int)<=4))) /\ E 16=.Q d.Z.length (bt d.Z) /\ E 17=aa d.Z.length /\ E 18=aa k) (by simp only[go_sem,h3,h18]) fun E ⟨e1,e3,e16,e17,e18⟩=>?_
 refine W.vs ?_;have ovn:=ov.A;have l2:=(ov.na (g:=0) (by omega:H.A<H1.A)).trans l1;by_cases hb:(k:Int)<d.Z.length;rotate_left
 ·rw[Vg V]at hall;by_cases h4:(d.Z.length:Int)<=4
  ·simp only[go_sem,e3,e17,e18,hb,h4];rw[mw ⟨V,hall⟩]at hK;exact ak.bB aF hcl (o1.trans ov) (.lit _) hK
  ·simp only[go_sem,e3,e17,e18,hb,h4];exact no (fun h=>by have:=h.1;omega) _ (o1.trans ov)
 obtain⟨u,hu⟩:=ay (l:=d.Z) (i:=k) V;have hum:=Va hu;obtain⟨f1,f2⟩:=hf.Z.2 u hum;have hne:=zw hu;have p0:=zu hu;have p1:k*2+2<=(bt d.Z).length:=by rw[zt];omega
 have ove:∀L,ZM H (ext H' L):=fun L=>(o1.trans ov).trans (.ext _ _);by_cases h4:(d.Z.length:Int)<=4;rotate_left
 ·simp only[go_sem,e3,e16,e17,e18,hb,h4,hne,p0,p1];exact no (fun h=>by have:=h.1;omega) _ (ove _)
 have l3:∀L,(ext H' L).na H.A 0=_:=fun L=>(eF V).trans l2;simp only[go_sem,e1,e3,e16,e17,e18,hb,h4,hne,p0,p1,l3];obtain⟨H2,hH2⟩:∃H2,H2=ext H' [.J 0 87 [.Q u.vars.length (ints u.vars),.Q u.w.length (ints u.w)]]:=⟨_,rfl⟩
 have m1:H2.na H'.A 0=some (87,[.Q u.vars.length (ints u.vars),.Q u.w.length (ints u.w)]):=by rw[hH2];exact ah eh
 have m2:=l3 [.J 0 87 [.Q u.vars.length (ints u.vars),.Q u.w.length (ints u.w)]];rw[<- hH2]at m2;have n2:H2.A=H'.A+1:=by rw[hH2];rfl
 have ov2:ZM H H2:=by rw[hH2];exact ove _
 rw[<- hH2];refine ao.X (FK u.vars d.C.length V _ _ ⟨trivial,?_⟩);by_cases c1:bZ u.vars d.C.length;rotate_left
 ·simp only[go_sem,c1];exact no (fun h=>c1 (h.2 u hum).vars) _ ov2
 have sm:=wK h8 c1 hc;have pl:(aL (aw d.C) u.vars).length=u.vars.length:=jm _ _;have v8:=c1.len;simp only[go_sem,c1,m1];refine W.aT 562881233944896 (by rfl) (fun ρ' H3=>H3=H2/\∃j:Nat,ρ' 36=aa j/\j<=u.vars.length/\ρ' 6=aa (aD ((aL (aw d.C) u.vars).take j))) (fun ρ' H=>u.vars.length-(iv (ρ' 36)).toNat) ?_ ?_
 ·simp only[go_sem];exact⟨0,rfl,V,by simp[iM]⟩
 rintro ρ' H3 ⟨rfl,j,h36,hj,h6⟩;refine W.vs ?_;by_cases hb2:(j:Int)<u.vars.length
 ·obtain⟨q,hq⟩:=ay (l:=u.vars) (i:=j) V;obtain⟨i,rfl,y,hy⟩:=mU (l:=d.C) (c1.2 q (Va hq)).1 (c1.2 q (Va hq)).2;have hne2:=bd hq;have hne3:=fU hy;have ey:=mS hy;have hi:(i:Int)<d.C.length:=by have:=aP hy;omega
  have pk:(aL (aw d.C) u.vars)[j]?=some y.L:=by rw[jY hq,Int.toNat_natCast,bJ (cW hy)]
  have b1:=(sm.take (j+1)).prod;rw[bb pk,jj]at b1;have w1:=Vb ((j:Int)+1) V;have w2:=Vb (aD ((aL (aw d.C) u.vars).take j)*y.L) V;simp only[go_sem,h36,h6,e1,m2,hb2,hq,hne2,hne3,hi,ey,w1,w2];exact⟨⟨j+1,ZD,V,by rw[bb pk,jj]⟩,V⟩
 rw[Vg V]at h6;by_cases c2:(u.w.length:Int)=aD (aL (aw d.C) u.vars);rotate_left
 ·simp only[go_sem,h36,h6,m1,hb2,c2];exact no (fun h=>c2 (h.2 u hum).size) _ ov2
 simp only[go_sem,h36,h6,m1,hb2,c2];refine W.aT 4721790022117341791240 (by rfl) (fun ρ2 H4=>H4=H3/\∃i:Nat,ρ2 59=aa i/\i<=u.w.length/\ρ2 3=.lit (.bool true)/\∀w∈u.w.take i,-100<=w/\w<=100) (fun ρ2 H=>u.w.length-(iv (ρ2 59)).toNat) ?_ ?_
 ·simp only[go_sem];exact⟨0,rfl,V,ZD⟩
 rintro ρ2 H4 ⟨rfl,i,h59,hi,h3',hw⟩;refine W.vs ?_;have hpr:=sm.prod;by_cases hb3:(i:Int)<u.w.length<;>have hb3':=hb3<;>rw[c2]at hb3'
 ·obtain⟨a,ha⟩:=ay (l:=u.w) (i:=i) V;have ham:=Va ha;have hane:=bd ha;by_cases d1:a >= -100;rotate_left
  ·simp only[go_sem,h59,h3',hb3,hb3',ha,hane,d1];exact no (fun h=>by have:=(h.2 u hum).w a ham;omega) _ ov2
  by_cases d2:a<=100;rotate_left
  ·simp only[go_sem,h59,h3',hb3,hb3',ha,hane,d1,d2];exact no (fun h=>by have:=(h.2 u hum).w a ham;omega) _ ov2
  have w1:=Vb ((i:Int)+1) V;simp only[go_sem,h59,h3',hb3,hb3',ha,hane,d1,d2,w1];refine⟨⟨i+1,ZD,V,fun w hw'=>?_⟩,V⟩;rw[bb ha]at hw';rcases VC.1 hw' with hw'|hw'
  ·exact hw w hw'
  ·obtain rfl:=List.mem_singleton.1 hw';exact⟨V,V⟩
 ·have w1:=Vb ((k:Int)+1) V;rw[Vg V]at hw;simp only[go_sem,h59,h3',e18,hb3',w1];refine⟨V,⟨k+1,ZD,V,by rw[hH2];exact ov.trans (.ext _ _),fun _=>V,fun y hy=>?_⟩,by rw[h18];simp only[aa,bf];omega⟩;rw[bb hu]at hy;rcases VC.1 hy with hy|hy
  ·exact hall y hy
  ·obtain rfl:=List.mem_singleton.1 hy;exact⟨c1,c2,hw⟩
structure ZP (d:ZK):Prop where
 n:Z4 d
 nC:Z1 d.nl (di d fun _ _=>0)
 Z:wJ d
def FF (g L x:Int):(ep g L x).length=L.toNat:=by simp[ep]
def pV {c:Nat->Nat->Int}(h:y∈di d c):∃v x,d.C[v]?=some x/\y=gP d c (aG d).length v x:=by
 obtain⟨v,hv⟩:=Vj.1 h;have hl:=aP hv;rw[show (di d c).length=d.C.length from lh _ _ _]at hl;obtain⟨x,hx⟩:=ay hl;have:=oz (c:=c) (k:=(aG d).length) hx;rw[show eA d c (aG d).length=di d c from rfl,hv]at this;exact⟨v,x,hx,Option.some.inj this⟩
def S4 (hf:Z6 d)(hR:Z4 d)(c:Nat->Nat->Int):wO (di d c):=by
 refine⟨by rw[show (di d c).length=d.C.length from lh _ _ _];exact hf.C.1,fun y hy=>?_⟩;obtain⟨v,x,hx,rfl⟩:=pV hy;have hxm:=Va hx;obtain⟨f1,f2,f3⟩:=hf.C.2 x hxm;unfold gP;split
 ·rename_i h;obtain⟨x1,x2⟩:=hR.dec v x hx h.1;have ps:=(oM hR.n1.2 x2 hR.L).prod;have hc:=hR.L x hxm;refine⟨f1,?_,fun r hr=>?_⟩
  ·show ((x.nb++dE d.nl d.C c (bp d.Y v) x).length:Int)<_;rw[x1];simp only[dE,List.nil_append,Vx,WT,cr];omega
  ·rw[show ({ x with nb:=x.nb++dE d.nl d.C c (bp d.Y v) x }:ZJ).nb=x.nb++dE d.nl d.C c (bp d.Y v) x from rfl,x1,List.nil_append]at hr;obtain⟨i,_,rfl⟩:=Vu.1 hr;rw[FF];omega
 ·exact⟨f1,f2,f3⟩
def S5 (d:ZK)(hf:Z6 d)(H:ZH)(K:ZN->ZH->Prop)(hK:K (.ret (aa (if lI (ZP d) then 0 else 200))) H):ae prog G0 64 [dh d] H K:=by
 refine ae.X ⟨_,func64,rfl,rfl⟩ fun hcl=>?_;have no:¬ZP d->∀H',ZM H H'->ak prog G0 H K (.lit (.int .i64 200)) H':=fun h H' ov=>ak.bB aF hcl ov (.lit _) (by rw[oJ h]at hK;exact hK);have hg:ZP d->1<=d.nl/\d.nl<=60:=fun h=>h.nC.g1;refine ae.st (n:=25) (rs:=[.tmp 2]) func64 ?_;simp only[go_sem,ij,c9];obtain⟨H1,hH1⟩:∃H1,H1=ext H [.J 0 38 [.lit (.int .i64 d.nl),.Q d.C.length (aI d.C),.lit (.int .u64 (d.Y:Int)),.Q d.Z.length (bt d.Z)]]:=⟨_,rfl⟩
 have l1:H1.na H.A 0=some (38,[.lit (.int .i64 d.nl),.Q d.C.length (aI d.C),.lit (.int .u64 (d.Y:Int)),.Q d.Z.length (bt d.Z)]):=by rw[hH1];exact ah (cH ..)
 have o1:ZM H H1:=hH1▸.ext _ _
 rw[<- hH1];by_cases c1:d.nl<1
 ·simp only[go_sem,c1];exact no (fun h=>by have:=hg h;omega) _ o1
 by_cases c2:d.nl > 60
 ·simp only[go_sem,l1,c1,c2];exact no (fun h=>by have:=hg h;omega) _ o1
 simp only[go_sem,l1,c1,c2];refine ao.X (SR d hf _ _ ⟨trivial,?_⟩);by_cases c3:Z4 d;rotate_left
 ·rw[oJ c3];simp only[go_sem];exact no (fun h=>c3 h.n) _ o1
 rw[mw c3];simp only[go_sem,l1];refine ao.X (SZ d hf c3 (fun _ _=>0) _ [] _ (fun i h=>by cases h) rfl rfl (fun p r v x H2 _ hx _ _=>⟨⟨Int.le_refl 0,by have:=c3.L x (Va hx);omega⟩,bD.pure fun H3=>SQ _ _ H3 _ ⟨rfl,rfl⟩⟩) _ ⟨trivial,?_⟩);simp only[go_sem];refine ao.X (Tw d.nl _ (S4 hf c3 _) _ _ ⟨trivial,?_⟩);by_cases c4:Z1 d.nl (di d fun _ _=>0);rotate_left
 ·rw[FQ c4];simp only[go_sem];exact no (fun h=>c4 h.nC) _ o1
 rw[FO c4];simp only[go_sem,l1];refine ao.X (S3 d hf c3.n1.2 c3.L _ _ ⟨trivial,?_⟩);by_cases c5:wJ d;rotate_left
 ·rw[oJ c5];simp only[go_sem];exact no (fun h=>c5 h.Z) _ o1
 rw[mw c5];simp only[go_sem];rw[mw (⟨c3,c4,c5⟩:ZP d)]at hK;exact ak.bB aF hcl o1 (.lit _) hK
structure ZZ (d:ZK)(p:List (List Int)):Prop where
 len:p.length=(aG d).length
 row:∀(k v:Nat) (x:ZJ) (l:List Int),(aG d)[k]?=some v->d.C[v]?=some x->p[k]?=some l->l.length=cr d.C x/\∀a∈l,0<=a/\a<x.L
noncomputable def S6 (d:ZK)(p:List (List Int)):Int:=if lI (ZP d) then (if lI (ZZ d p) then 0 else 201) else 200
def fixC (p:List (List Int))(k r:Nat):Int:=(p.getD k []).getD r 0
def S7 {p:List (List Int)}(h:ZZ d p){k r:Nat}(hv:(aG d)[k]?=some v)(hx:d.C[v]?=some x)(hr:r<cr d.C x):
  ∃l a,p[k]?=some l/\l[r]?=some a/\fixC p k r=a/\0<=a/\a<x.L:=by
 obtain⟨l,hl⟩:=ay (l:=p) (i:=k) (by rw[h.len];exact aP hv);obtain⟨h1,h2⟩:=h.row k v x l hv hx hl;obtain⟨a,ha⟩:=ay (l:=l) (i:=r) V;exact⟨l,a,hl,ha,by unfold fixC;rw[bJ hl,bJ ha],h2 a (Va ha)⟩
end Go.Proofs
namespace Go.Hx
variable {P:Program} {G:Nat->Option (List ZI)} {n:Nat} {rd:Option Nat} {Q:AX->St->Prop}
def xq (N:Nat)(H1 H2:ZH):Prop:=H1.A<=H2.A/\∀id,id≠N->id<H1.A->H2.get id=H1.get id
def Gs (P:Program)(G:Nat->Option (List ZI))(f:FuncId)(first cap:List ZI)(xs:List (List ZI))(N:Nat)(S0:ZH->Prop)(S:Nat->ZH->Prop):Prop :=
 ∀(idy:Nat) (J:Nat->ZH->Prop) (Stop:ZH->Prop) (H:ZH) (K:ZN->ZH->Prop),H.A=N ->
  (∀k H1,J k H1->S0 H1)->(∀k H1 H2,J k H1->xq N H1 H2->J k H2)->J 0 H ->
  (∀k x H1 K1,xs[k]?=some x->J k H1->S k H1->N<H1.A->(∀H',J (k+1) H'->S k H'->H1.A<=H'.A->K1 (.ret (.lit (.bool true))) H')->(∀H',Stop H'->H1.A<=H'.A->K1 (.ret (.lit (.bool false))) H')->ao P G (.nk idy) x H1 K1) ->
  (∀H',J xs.length H'->N<=H'.A->K (.ret (.nc [])) H') ->
  (∀H',Stop H'->N<=H'.A->K (.ret (.nc [])) H') ->
  ae P G f (first++[.nk idy]++cap) H K
def W.Gt {g:Operand}{ps:Array Tmp}{asg body:Code}{ρ:Env}{H:ZH}{f:FuncId}{first cap:List ZI}{xs:List (List ZI)}{S0:ZH->Prop}{S:Nat->ZH->Prop}(hg:au G ρ g=.X f first cap)
  (hit:Gs P G f first cap xs (H.A+1) S0 S) (J:Nat->ZH->Prop) (Stop:AX->ZH->Prop) (hS:∀k H1,J k H1->S0 H1) (hJw:∀k H1 H2,J k H1->xq (H.A+1) H1 H2->J k H2) (hlow:∀k H1,J k H1->H.A<H1.A)
  (hJu:∀k H1 b,J k H1->J k (H1.upd H.A b)) (hSu:∀c H1 b,Stop c H1->Stop c (H1.upd H.A b)) (hSk:∀k H1 b,S k H1->S k (H1.upd H.A b))
  (hJ0:∀b,J 0 (ext H [b])) (hps:ps.toList.all (fun t=>decide (t<n))=true) (hxl:∀x∈xs,x.length=ps.size)
  (hrd:∀k H1,J k H1->fK H1 rd) (hrd2:∀c H1,Stop c H1->fK H1 rd)
  (hround:∀k x H1 B Bb,xs[k]?=some x->J k H1->S k H1->H.A+1<H1.A->H1.get H.A=some B->(∃st pd n' en ps' as' bo,Bb=ZO.loop st pd n' en ps' as' bo) ->
   W P G n (some H.A) asg (mC P G n H.A B Bb H1.A body (fun H'=>J (k+1) H'/\S k H') Stop) ⟨jM (dw ρ n) (ps.toList.zip x),H1⟩)
  (hend:∀H',J xs.length H'->H.A+1<=H'.A->Q .normal ⟨ρ,H'⟩)
  (hret:∀H',Stop .ret H'->H.A+1<=H'.A->Q .ret ⟨ρ,H'⟩) (hexit:∀i H',Stop (.exit i) H'->H.A+1<=H'.A->Q (.exit i) ⟨ρ,H'⟩):
  W P G n rd (.rangeFunc g ps asg body) Q ⟨ρ,H⟩:=by
 refine W.rangeFunc (s:=⟨ρ,H⟩) hg ⟨_,uH _ _,?_⟩;obtain⟨B,hB⟩:∃B,B=ZO.loop .ready none n ρ ps asg body:=⟨_,rfl⟩
 obtain⟨Bb,hBb⟩:∃B,B=ZO.loop .busy none n ρ ps asg body:=⟨_,rfl⟩
 have nx:(ext H [B]).A=H.A+1:=rfl;show ae P G f (first++[.nk H.A]++cap) (ext H [ZO.loop .ready none n ρ ps asg body]) (yz rd Q ρ H.A);rw[<- hB];refine hit H.A (fun k H1=>H1.get H.A=some B/\J k H1) (fun H1=>∃c pend,H1.get H.A=some (.loop .done (some pend) n ρ ps asg body)/\Stop c H1/\((c=.ret/\pend=.ret)\/∃i,c=.exit i/\pend=.exit i)) _ _ nx
  (fun k H1 h=>hS k H1 h.2) (fun k H1 H2 h hw=>⟨(hw.2 _ V (hlow _ _ h.2)).trans h.1,hJw _ _ _ h.2 hw⟩) ⟨eh,hJ0 B⟩ (fun k x H1 K1 hx hj hs hn hgo hst=>?_) (fun H' hj hn=>?_) (fun H' hj hn=>?_)
 ·have hxm:=hxl x (Va hx);refine ao.nk (hj.1.trans (congrArg some hB)) hxm hps ?_;refine(hround k x H1 B Bb hx hj.2 hs hn hj.1 ⟨_,_,_,_,_,_,_,hBb⟩).mono fun e s1 h1=>?_;cases e with
  |normal =>
   obtain⟨a1,a2⟩:=h1;refine⟨Bb,by rw[a1,hB,hBb];rfl,?_⟩;refine a2.mono fun e2 s2 h2=>?_;cases e2 with
   |normal =>
    obtain⟨b1,b2,b3,b4⟩:=h2;exact⟨B,by rw[b1,hB,hBb];rfl,hgo _ ⟨by rw[aj,Vf rfl],hJu _ _ _ b3⟩ (hSk _ _ _ b4) b2⟩
   |ret =>
    obtain⟨b1,b2,b3⟩:=h2;exact⟨.loop .done (some .ret) n ρ ps asg body,by rw[b1,hBb];rfl,hst _ ⟨.ret,.ret,by rw[aj,Vf rfl],hSu _ _ _ b3,.inl ⟨rfl,rfl⟩⟩ b2⟩
   |exit i =>
    obtain⟨b1,b2,b3⟩:=h2;exact⟨.loop .done (some (.exit i)) n ρ ps asg body,by rw[b1,hBb];rfl,hst _ ⟨.exit i,.exit i,by rw[aj,Vf rfl],hSu _ _ _ b3,.inr ⟨i,rfl,rfl⟩⟩ b2⟩
   |_=>exact h2.elim
  |_=>exact h1.elim
 ·refine⟨hrd _ _ hj.2,(none,.loop .exhausted none n ρ ps asg body),by rw[hj.1,hB];rfl,?_⟩;exact hend _ (hJu _ _ _ hj.2) hn
 ·obtain⟨c,pend,h1,h2,h3⟩:=hj;refine⟨hrd2 _ _ h2,(some pend,.loop .exhausted (some pend) n ρ ps asg body),by rw[h1];rfl,?_⟩;rcases h3 with ⟨rfl,rfl⟩|⟨i,rfl,rfl⟩
  ·exact hret _ (hSu _ _ _ h2) hn
  ·exact hexit i _ (hSu _ _ _ h2) hn
end Go.Hx
namespace Go.Proofs
open Go.Hx Tryz
variable {g:Int}{vals:List Int}{ns:List ZJ}{N k v:Nat}{c:Nat->Nat->Int}{x:ZJ}{d:ZK}
def S8:∀ {cs vs:List Int} {k:Nat} {c v:Int},vs.length=cs.length->cs[k]?=some c->vs[k]?=some v->v+1<c->(∀(j:Nat) (a b:Int),k<j->cs[j]?=some a->vs[j]?=some b->b=a-1) ->
  lf cs vs=some (vs.take k++(v+1) :: (cs.drop (k+1)).map fun _=>0):=by
 have none_of:∀ {cs vs:List Int},vs.length=cs.length->(∀(j:Nat) (a b:Int),cs[j]?=some a->vs[j]?=some b->b=a-1)->lf cs vs=none:=by
  intro cs
  induction cs with
  |nil=>intro vs _ _;cases vs<;>rfl
  |cons c cs ih =>
   intro vs hl h;cases vs with
   |nil=>rfl
   |cons v vs =>
    have h1:=ih (vs:=vs) (by simpa using hl) fun j a b ha hb=>h (j+1) a b (by simpa using ha) (by simpa using hb);have h2:=h 0 c v rfl rfl;simp only[lf,h1];rw[Ve V]
 intro cs
 induction cs with
 |nil=>intro vs k c v _ h;simp at h
 |cons x cs ih =>
  intro vs k c v hl hc hv hlt hmax;cases vs with
  |nil=>simp at hv
  |cons y vs =>
   cases k with
   |zero =>
    simp only[List.getElem?_cons_zero,Option.some.injEq]at hc hv;subst hc;subst hv;have h1:=none_of (cs:=cs) (vs:=vs) (by simpa using hl) fun j a b ha hb=>hmax (j+1) a b V (by simpa using ha) (by simpa using hb);simp only[lf,h1];rw[Vf hlt];simp
   |succ k =>
    have h1:=ih (vs:=vs) (k:=k) (by simpa using hl) (by simpa using hc) (by simpa using hv) hlt fun j a b hj ha hb=>hmax (j+1) a b V (by simpa using ha) (by simpa using hb);simp only[lf,h1];simp
def S9:∀ {cs vs:List Int},vs.length=cs.length->(∀(j:Nat) (a b:Int),cs[j]?=some a->vs[j]?=some b->b=a-1)->lf cs vs=none:=by
 intro cs
 induction cs with
 |nil=>intro vs _ _;cases vs<;>rfl
 |cons c cs ih =>
  intro vs hl h;cases vs with
  |nil=>rfl
  |cons v vs =>
   have h1:=ih (vs:=vs) (by simpa using hl) fun j a b ha hb=>h (j+1) a b (by simpa using ha) (by simpa using hb);have h2:=h 0 c v rfl rfl;simp only[lf,h1];rw[Ve V]
def nG (nB:List Int)(N:Nat):List (List ZI):=(List.range (aD nB).toNat).map fun (i:Nat)=>[aa (i:Int),.U N 0 0 nB.length 1]
def wL {nB:List Int}{x:List ZI}(h:(nG nB N)[k]?=some x):k<(aD nB).toNat/\x=[aa k,.U N 0 0 nB.length 1]:=by
 unfold nG at h;rw[List.getElem?_map]at h;have hk:k<(aD nB).toNat:=by
  rcases VA k (aD nB).toNat with h1|h1
  ·exact h1
  ·rw[Vm (by simpa using h1)]at h;simp at h
 rw[VQ hk]at h;simp at h;exact⟨hk,h.symm⟩
def Ta {nB:List Int}(h:k<(aD nB).toNat):(nG nB N)[k]?=some [aa k,.U N 0 0 nB.length 1]:=by
 unfold nG;rw[List.getElem?_map,VQ h];rfl
def Ar (nB:List Int)(N:Nat):(nG nB N).length=(aD nB).toNat:=by simp[nG]
def rO (nB:List Int)(N k:Nat)(H:ZH):Prop:=H.get N=some (.J 0 3 (ints (bV nB k)))
def FG (nB:List Int)(hc1:∀c∈nB,1<=c)(hs:fh nB)(b N:Nat)(hbN:b<N):
  Gs prog G0 176 [] [.O b 0 0] (nG nB N) N (fun H=>H.get b=some (.J 0 72 [af nB])) (rO nB N):=by
 intro idy J Stop H K hN hS0 hJw hJ0 hY hK hSt;have l0:=ah (hS0 0 H hJ0);have h12:=hs.1;have hpp:=hs.prod;have hp1:=fZ hc1;show ae _ _ _ ([.nk idy]++[.O b 0 0]) _ _;refine ae.st (n:=45) (rs:=[]) func176 ?_;simp only[go_sem,l0];refine⟨V,?_⟩;have fitI:∀i:Nat,cM nB (bV nB i):=fun i=>tz hc1 _;have fT:∀i:Nat,i<(aD nB).toNat->bM nB (bV nB i)=i:=fun i hi=>zy hc1 V V;subst hN;refine W.aT 35184372088368 (by rfl) (fun ρ H'=>∃i:Nat,ρ 4=aa i/\i<(aD nB).toNat/\J i H'/\rO nB H.A i H'/\H.A+1<=H'.A) (fun ρ H=>(aD nB).toNat-(iv (ρ 4)).toNat) ?_ ?_
 ·simp only[go_sem];refine⟨0,rfl,V,hJw 0 H _ hJ0 ⟨by rw[aX];omega,fun id _ h=>dc _ _ _ h⟩,?_⟩;show (ext H _).get H.A=_;rw[cH];have:bV nB ((0:Nat):Int)=List.replicate nB.length 0:=by
   rw[show ((0:Nat):Int)=0 from rfl,DY hc1];exact List.map_const' ..
  rw[this];simp[ints,aa]
 rintro ρ H' ⟨i,h4,hi,hj,hcs,hn⟩;refine W.en (fun E=>E 1=.O b 0 0 /\ E 0=.nk idy /\ E 3=.U H.A 0 0 nB.length 1 /\ E 4=aa i) (by simp only[go_sem,h4]) fun E ⟨e1,e0,e3,e4⟩=>?_
 refine W.vs ?_;simp only[go_sem,e0,e3,e4];refine hY i [aa i,.U H.A 0 0 nB.length 1] H' _ (Ta hi) hj hcs V (fun H2 hj2 hcs2 hn2=>⟨trivial,?_⟩) (fun H2 hs2 hn2=>⟨trivial,?_⟩);rotate_left
 ·simp only[go_sem];exact ak.mk V (hSt H2 hs2 V)
 have hb2:=hS0 _ _ hj2;have lb:=ah hb2;have w0:=Vb ((nB.length:Int)-1) V;obtain⟨vs,hvs⟩:∃vs,vs=bV nB i:=⟨_,rfl⟩
 have hvl:vs.length=nB.length:=by rw[hvs,vC]
 have hfit:cM nB vs:=by rw[hvs];exact fitI i
 have hsucc:=Qy hfit;rw[show bM nB vs=i from by rw[hvs];exact fT i hi]at hsucc;simp only[go_sem,e1,lb,w0];refine W.aT 137438691360 (by rfl) (fun ρ2 H4=>∃m:Nat,ρ2 5=aa ((m:Int)-1)/\m<=nB.length/\xq H.A H2 H4/\H4.get H.A=some (.J 0 3 (ints (vs.take m++(nB.drop m).map fun _=>0)))/\(∀(j:Nat) (a b:Int),m<=j->nB[j]?=some a->vs[j]?=some b->b=a-1))
  (fun ρ2 H=>(iv (ρ2 5)+1).toNat) ?_ ?_
 ·simp only[go_sem];refine⟨nB.length,rfl,V,⟨ZG,fun _ _ _=>rfl⟩,?_,fun j a b hm ha=>?_⟩
  ·have hg:H2.get H.A=_:=hcs2;rw[<- hvs]at hg;rw[hg,Vg V,YB V];simp
  ·have:=aP ha;omega
 rintro ρ2 H4 ⟨m,h5,hm,hw,hg,hmax⟩;refine W.en (fun E2=>E2 1=.O b 0 0 /\ E2 3=.U H.A 0 0 nB.length 1 /\ E2 4=aa i /\ E2 5=aa ((m:Int)-1)) (by simp only[go_sem,e1,e3,e4,h5]) fun E2 ⟨f1,f3,f4,f5⟩=>?_
 refine W.vs ?_;have hw1:=hw.1;have lN:=ah hg;have lb4:=ah ((hw.2 b V V).trans hb2);have hj4:J (i+1) H4:=hJw _ _ _ hj2 hw;have clen:(vs.take m++(nB.drop m).map fun _=>(0:Int)).length=nB.length:=by simp;omega
 by_cases hm0:m=0
 ·subst hm0;have f5':E2 5=aa (-1):=f5;have hnone:=S9 hvl fun j a b ha hb=>hmax j a b (WH _) ha hb;rw[hnone]at hsucc;have htot:¬(i:Int)+1<aD nB:=fun h=>by rw[Vf h]at hsucc;cases hsucc
  have hti:i+1=(nG nB H.A).length:=by rw[Ar];omega
  simp only[go_sem];refine W.dr 12 [0,1,3,7,7,31,63,7,7,391,903,1927] mixed ?_;simp only[go_sem,f5'];exact ak.mk V (hK H4 (by rw[<- hti];exact hj4) V)
 obtain⟨k,rfl⟩:∃k,m=k+1:=⟨m-1,V⟩
 have f5':E2 5=aa k:=by rw[f5];congr 1;omega
 obtain⟨c,hck⟩:=ay (l:=nB) (i:=k) V;obtain⟨v,hvk⟩:=ay (l:=vs) (i:=k) V;have hne:=bd hck;have hr:=hfit.2 k c v hck hvk;have hcs8:=hs.2 c (Va hck);have hvk':(vs.take (k+1)++(nB.drop (k+1)).map fun _=>(0:Int))[k]?=some v:=by
  rw[Vv (by simp;omega),Vy V];exact hvk
 have hk0:(k:Int) >= 0:=V
 have hkc:(k:Int)<nB.length:=V
 have w1:=Vb (c-1) V;have w2:=Vb ((k:Int)-1) V;have w3:=Vb (v+1) V;have w4:=Vb ((i:Int)+1) V;have hk1:¬(k:Int)<0:=V
 by_cases hv:v=c-1
 ·simp only[go_sem];refine W.dr 12 [0,1,3,7,7,31,63,7,7,391,903,1927] mixed ?_;simp only[go_sem,f1,f3,f5',hk0,hkc,lN,lb4,hvk',hck,hne,w1,w2,hv];refine⟨by rw[<- List.length_append,clen];omega,by rw[aQ];omega,⟨k,rfl,V,⟨by rw[aQ];exact hw.1,fun id h1 h2=>by rw[aj,Ve h1];exact hw.2 id h1 h2⟩,?_,fun j a b hj ha hb=>?_⟩,?_⟩
  ·rw[aj,Vf rfl,iS (by rw[clen];omega)];congr 3;rw[bb hvk,List.append_assoc,Wz _ _ (by simp;omega),Qv hck];simp;rw[show k-min k vs.length=0 by omega];rfl
  ·rcases VA k j with h|h
   ·exact hmax j a b V ha hb
   ·obtain rfl:j=k:=V;rw[hck]at ha;rw[hvk]at hb;cases ha;cases hb;exact hv
  ·rw[h5];simp only[aa,bf];omega
 ·simp only[go_sem];refine W.dr 12 [0,1,3,7,7,31,63,7,7,391,903,1927] mixed ?_;simp only[go_sem,f1,f3,f4,f5',hk0,hk1,hkc,lN,lb4,hvk',hck,hne,w1,w3,w4,hv];have hat:=S8 hvl hck hvk V fun j a b hj ha hb=>hmax j a b V ha hb;rw[hat]at hsucc;have hlt:(i:Int)+1<aD nB:=by
   refine VZ fun h=>?_;rw[Ve h]at hsucc;cases hsucc
  rw[Vf hlt]at hsucc;have hw5:xq H.A H2 (H4.upd H.A (.J 0 3 (setAt (ints (vs.take (k+1)++(nB.drop (k+1)).map fun _=>(0:Int))) k [.lit (.int .i64 (v+1))]))):=⟨by rw[aQ];exact hw.1,fun id h1 h2=>by rw[aj,Ve h1];exact hw.2 id h1 h2⟩
  refine⟨by rw[<- List.length_append,clen];omega,by rw[aQ];omega,⟨i+1,ZD,V,hJw _ _ _ hj2 hw5,?_,by rw[aQ];omega⟩,?_⟩
  ·show (H4.upd H.A _).get H.A=_;rw[aj,Vf rfl,iS (by rw[clen];omega)];congr 3;have e:bV nB ((i+1:Nat):Int)=vs.take k++(v+1) :: (nB.drop (k+1)).map fun _=>0:=by
    have:=Option.some.inj hsucc;rw[show ((i+1:Nat):Int)=(i:Int)+1 by omega];exact this.symm
   rw[e,bb hvk,List.append_assoc,Wz _ _ (by simp;omega)];simp;rw[show k-min k vs.length=0 by omega];rfl
  ·rw[h4];simp only[aa,bf];omega
def FH (nB:List Int)(H:ZH)(K:ZN->ZH->Prop)(hK:K (.ret (.X 176 [] [.O H.A 0 0])) (ext H [.J 0 72 [af nB]])):
  ae prog G0 146 [af nB] H K:=by
 refine ae.st (n:=4) (rs:=[.tmp 2]) func146 ?_;simp only[go_sem];exact ak.mk (by simp[aX]) hK
def jA (ns:List ZJ)(x:ZJ)(vals:List Int):List Int:=x.nb.getD (bM (aU ns x) (aL vals x.F)).toNat []
def gh (ns:List ZJ)(vals:List Int)(v:Nat):Int:=match ns[v]? with
 |some x=>(jA ns x vals).getD (vals.getD v 0).toNat 0
 |none=>1
def rq (ns:List ZJ)(vals:List Int):List Int:=(List.range ns.length).map (gh ns vals)
def weight (ns:List ZJ)(vals:List Int):Int:=aD (rq ns vals)
def cJ (ns:List ZJ):Nat:=(aD (aw ns)).toNat
def oA (ns:List ZJ)(vals:List Int)(u:ZV):Int:=u.w.getD (bM (aL (aw ns) u.vars) (aL vals u.vars)).toNat 0
def cZ (ns:List ZJ)(us:List ZV)(vals:List Int):Int:=(us.map (oA ns vals)).sum
def lj (ns:List ZJ)(us:List ZV)(k:Nat):Int:=((List.range k).map fun (i:Nat)=>weight ns (bV (aw ns) i)*cZ ns us (bV (aw ns) i)).sum
def QR (ns:List ZJ)(us:List ZV)(k:Nat):lj ns us (k+1)=lj ns us k+weight ns (bV (aw ns) k)*cZ ns us (bV (aw ns) k):=by
 unfold lj;rw[VW];simp
def QS (ns:List ZJ)(vals:List Int):(rq ns vals).length=ns.length:=by simp[rq]
def pW (hin:iI x.F ns.length)(hf:cM (aw ns) vals):cM (aU ns x) (aL vals x.F):=by
 refine⟨by unfold aU;rw[jm,jm],fun k c v h1 h2=>?_⟩;obtain⟨q,hq⟩:=ay (l:=x.F) (i:=k) (by have:=aP h2;rw[jm]at this;exact this);obtain⟨j,rfl,y,hy⟩:=mU (l:=ns) (hin q (Va hq)).1 (hin q (Va hq)).2;obtain⟨b,hb⟩:=ay (l:=vals) (i:=j) (by rw[hf.1,eW];exact aP hy);have e1:(aU ns x)[k]?=some y.L:=by rw[show (aU ns x)[k]?=_ from jY hq,Int.toNat_natCast,bJ (cW hy)]
 have e2:(aL vals x.F)[k]?=some b:=by rw[jY hq,Int.toNat_natCast,bJ hb]
 rw[h1]at e1;rw[h2]at e2;cases e1;cases e2;exact hf.2 j y.L _ (cW hy) hb
structure RowAtW (g:Int)(ns:List ZJ)(x:ZJ)(vals:List Int)(v:Nat)(i:Nat)(r:List Int)(a w:Int):Prop where
 idx:bM (aU ns x) (aL vals x.F)=i
 row:x.nb[i]?=some r
 val:vals[v]?=some a
 a0:0<=a
 hw:r[a.toNat]?=some w
 wb:0<=w/\w<=g
 eq:gh ns vals v=w
 rv:jA ns x vals=r
 len:(r.length:Int)=x.L
 al:a<r.length
def FI (h:Z1 g ns)(hx:ns[v]?=some x)(hf:cM (aw ns) vals):∃i r a w,RowAtW g ns x vals v i r a w:=by
 have hxm:=Va hx;have hin:iI x.F ns.length:=fun q hq=>by have:=(h.node x hxm).2.2 q hq;omega
 have hr:=oy (pW hin hf);obtain⟨r1,r2⟩:=h.nb x hxm;obtain⟨i,hi⟩:=Vk hr.1;obtain⟨r,hrr⟩:=ay (l:=x.nb) (i:=i) (by rw[<- r1,hi]at hr;omega);obtain⟨s1,s2,s3⟩:=r2 r (Va hrr);obtain⟨a,ha⟩:=ay (l:=vals) (i:=v) (by rw[hf.1,eW];exact aP hx);have hb:=hf.2 v x.L a (cW hx) ha;obtain⟨w,hw⟩:=ay (l:=r) (i:=a.toNat) V;have rv:jA ns x vals=r:=by unfold jA;rw[hi,Int.toNat_natCast,bJ hrr]
 exact⟨i,r,a,w,hi,hrr,ha,hb.1,hw,s2 w (Va hw),by unfold gh;rw[hx];simp only;rw[rv,bJ ha,bJ hw],rv,s1,V⟩
def As (k:Nat)(h:k<=8):(60:Int) ^ k<=167961600000000:=by
 have h1:(60:Nat) ^ k<=60 ^ 8:=Vq ZE h;have h2:(60:Nat) ^ 8=167961600000000:=ZE
 rw[h2]at h1;have h3:=Int.ofNat_le.2 h1;rw[Int.natCast_pow]at h3;exact h3
def FJ (ns:List ZJ)(v:Nat)(x:ZJ)(vals:List Int)(hx:ns[v]?=some x)(hin:iI x.F ns.length)(hs:fh (aU ns x))(hf:cM (aw ns) vals)(H:ZH)(N n:Nat)(hN:N<H.A)
  (hg:H.get N=some (.J 0 3 (ints vals))) (hn:n=vals.length):bD prog G0 (.X 147 [] []) [.Q ns.length (aI ns),.lit (.int .i64 v),.U N 0 0 n 1] H (.lit (.int .i64 (bM (aU ns x) (aL vals x.F)))) [N]:=by
 subst hn;refine bD.mk (fun i hi=>by obtain rfl:=List.mem_singleton.1 hi;exact hN) fun H2 h2 _=>?_;refine(ae.frame (H:=H2) (args:=[.Q ns.length (aI ns),.lit (.int .i64 v),.U N 0 0 vals.length 1]) (args':=[eU ns,.lit (.int .i64 v),af vals]) (v':=.lit (.int .i64 (bM (aU ns x) (aL vals x.F)))) aF rfl (fun i hi _=>?_) (Te ns v x vals hx hin hs hf cR _ ⟨_,rfl,.lit _⟩))
 match i,hi with
 |0,_=>exact wQ _
 |1,_=>exact .lit _
 |2,_=>exact Fz.tS ((h2 N ZD).trans hg) (by rw[bE]) fun c hc=>by obtain⟨z,_,rfl⟩:=Vu.1 hc;exact⟨_,rfl⟩
def wM {us:List ZV}(hu:∀u∈us,Z8 ns u)(h4:us.length<=4)(vals:List Int)(k:Nat):-400<=cZ ns (us.take k) vals/\cZ ns (us.take k) vals<=400:=by
 have key:∀l:List ZV,(∀u∈l,Z8 ns u)->-(100*l.length:Int)<=cZ ns l vals/\cZ ns l vals<=100*l.length:=by
  intro l
  induction l with
  |nil=>intro _;simp[cZ]
  |cons u l ih =>
   intro h;have h1:=ih fun u hu=>h u (by simp[hu]);have h2:-100<=oA ns vals u/\oA ns vals u<=100:=by
    unfold oA;rw[Vh];cases hg:u.w[(bM (aL (aw ns) u.vars) (aL vals u.vars)).toNat]? with
    |none=>simp
    |some w=>exact(h u ZD).w w (Va hg)
   simp only[cZ,List.map_cons,WE,List.length_cons]at h1 ⊢
   push_cast
   omega
 have:=key (us.take k) fun u hk=>hu u (VD hk);have h5:(us.take k).length<=4:=by simp;omega
 omega
def yS (x y:Int)(hx:0<=x)(hy:0<=y):Int.gcd y (x % y)=Int.gcd y x:=by
 obtain⟨a,rfl⟩:=Vk hx;obtain⟨b,rfl⟩:=Vk hy;rw[<- Int.natCast_emod];show Nat.gcd b (a % b)=Nat.gcd b a;rw[XY b (a % b),<- Y3]
def SU (g:Int)(n:Nat)(hg:1<=g/\g<=60)(hn:n<=8)(H:ZH)(K:ZN->ZH->Prop)(hK:K (.ret (aa (g ^ n))) H):ae prog G0 118 [aa g,aa n] H K:=by
 refine ae.st (n:=14) (rs:=[.tmp 4]) func118 ?_;simp only[go_sem];refine W.aT 8096 (by rfl) (fun ρ H'=>H'=H/\∃k:Nat,ρ 7=aa k/\k<=n/\ρ 5=aa (g ^ k)) (fun ρ H=>n-(iv (ρ 7)).toNat) ?_ ?_
 ·simp only[go_sem];exact⟨0,rfl,V,by rw[Int.pow_zero]⟩
 rintro ρ H' ⟨rfl,k,h7,hk,h5⟩;refine W.vs ?_;have hpow:∀k:Nat,0<=g ^ k/\g ^ k<=60 ^ k:=fun k=>by
  induction k with
  |zero=>simp
  |succ k ih =>
   rw[Xr,Xr];exact⟨W3 ih.1 V,W4 ih.2 hg.2 V (by have:=Y8 (n:=60) (m:=k) ZE;omega)⟩
 by_cases hb:(k:Int)<n
 ·have h1:=hpow (k+1);have h2:=As (k+1) V;rw[Xr]at h1;have w1:=Vb (g ^ k*g) V;have w2:=Vb ((k:Int)+1) V;simp only[go_sem,h7,h5,hb,w1,w2];exact⟨⟨k+1,rfl,V,by rw[Xr]⟩,V⟩
 ·have e:k=n:=V
  subst e;simp only[go_sem,h7,h5,hb];exact ak.mk ZG hK
def dM (n d:Int):ZI:=.agg [.lit (.int .i64 (n.tdiv (Int.gcd n d:Int))),.lit (.int .i64 (d.tdiv (Int.gcd n d:Int)))]
def SV (n d:Int)(hn:-4611686018427387904<=n/\n<=4611686018427387904)(hd:1<=d/\d<=4611686018427387904)(H:ZH)(K:ZN->ZH->Prop)(hK:K (.ret (dM n d)) H):ae prog G0 117 [aa n,aa d] H K:=by
 refine ae.X ⟨_,func117,rfl,rfl⟩ fun hcl=>?_;have w1:=Vb (0-n) V;have w2:(if 0-n > n then 0-n else n)=(n.natAbs:Int):=by split<;>omega
 have w3:(if n<0-n then 0-n else n)=(n.natAbs:Int):=w2;refine ae.st (n:=25) (rs:=[.cell 4 58]) func117 ?_;simp only[go_sem,w1,w2];refine W.aT 258144 (by rfl) (fun ρ H'=>H'=ext H [.J 0 58 [.lit (.int .i64 0),.lit (.int .i64 0)]]/\∃x y:Int,ρ 5=aa x/\ρ 6=aa y/\0<=x/\0<=y/\Int.gcd x y=Int.gcd n d) (fun ρ H=>(iv (ρ 6)).toNat) ?_ ?_
 ·simp only[go_sem];exact⟨n.natAbs,d,rfl,rfl,V,V,by simp[Int.gcd]⟩
 rintro ρ H' ⟨rfl,x,y,h5,h6,hx,hy,hg⟩;refine W.en (fun E=>E 0=aa n /\ E 1=aa d /\ E 4=.O H.A 0 0 /\ E 5=aa x /\ E 6=aa y) (by simp only[go_sem,h5,h6]) fun E ⟨e0,e1,e4,e5,e6⟩=>?_
 refine W.vs ?_;by_cases hz:y=0
 ·subst hz;have e:x=(Int.gcd n d:Int):=by rw[<- hg,Int.gcd_zero_right];omega
  have g0:0<Int.gcd n d:=WV _ V;have hxz:¬x=0:=V
  have hgn:(Int.gcd n d:Int)≠0:=V
  simp only[go_sem,e6];refine W.dr 6 [0,0,3,0,0,24] mixed ?_;have b1:-4611686018427387904<=n.tdiv x/\n.tdiv x<=4611686018427387904:=by
   have h2:(n.tdiv x).natAbs<=n.natAbs:=(by rw[Za];exact Wq _ _);omega
  have b2:-4611686018427387904<=d.tdiv x/\d.tdiv x<=4611686018427387904:=by
   have h2:(d.tdiv x).natAbs<=d.natAbs:=(by rw[Za];exact Wq _ _);omega
  have u1:=Vb (n.tdiv x) V;have u2:=Vb (d.tdiv x) V;simp only[go_sem,e0,e1,e4,e5,hxz,u1,u2];refine ak.drop aF hcl (v':=dM n d) ?_ hK;rw[e];refine .agg rfl fun i hi _=>?_
  match i,hi with
  |0,_=>exact .lit _
  |1,_=>exact .lit _
 ·have m1:x.tmod y=x % y:=VS hx;have m2:=XL x hz;have m3:=W7 x (show 0<y by omega);simp only[go_sem,e6,hz];refine W.dr 5 [0,0,0,6,3] mixed ?_;simp only[go_sem,e5,e6,hz,m1];refine⟨⟨y,x % y,rfl,rfl,hy,m2,?_⟩,by rw[h6];simp only[aa,bf];omega⟩;rw[<- hg,Int.gcd_comm x y];exact yS x y hx (V)
def Ap {L a:Int}(hg:0<=g)(ha:0<=a/\a<L):kI g L (ep g L a):=by
 refine⟨by rw[FF];omega,fun w hw=>?_,?_⟩
 ·unfold ep at hw;rcases V8 hw with h|h
  ·have:=WU h;omega
  ·omega
 ·unfold ep;have key:∀(n i:Nat),i<n->((List.replicate n (0:Int)).set i g).sum=g:=by
   intro n
   induction n with
   |zero=>intro i h;omega
   |succ n ih =>
    intro i h;cases i with
    |zero=>simp[W1]
    |succ i=>rw[W1,List.set_cons_succ,WE,ih i V];omega
  exact key _ _ (V)
def jX (d:ZK)(c:Nat->Nat->Int):aw (di d c)=aw d.C:=QL
def ik (d:ZK)(c:Nat->Nat->Int):(di d c).length=d.C.length:=lh _ _ _
def jG (h:d.C[v]?=some x):(di d c)[v]?=some (gP d c (aG d).length v x):=oz h
def rM (d:ZK)(c:Nat->Nat->Int)(x:ZJ):aU (di d c) x=aU d.C x:=by unfold aU;rw[jX]
def tO (d:ZK)(c:Nat->Nat->Int):aC (di d c)=aC d.C:=by
 apply V2;intro v;unfold aC;rw[List.getElem?_map,List.getElem?_map];rcases VA v d.C.length with h|h
 ·obtain⟨x,hx⟩:=ay h;rw[jG hx,hx];simp only[Option.map_some,(iP d c _ v x).2]
 ·rw[Vm (by rw[ik];exact h),Vm h]
def tP (hx:d.C[v]?=some x)(hb:d.Y.testBit v=true):(aG d)[bp d.Y v]?=some v:=ml (aP hx) hb
def wH (hx:d.C[v]?=some x)(hb:d.Y.testBit v=true):gP d c (aG d).length v x={ x with nb:=x.nb++dE d.nl d.C c (bp d.Y v) x } :=
 Vf ⟨hb,aP (tP hx hb)⟩
def oK (hb:¬d.Y.testBit v=true):gP d c k v x=x:=Ve fun h=>hb h.1
def rN (d:ZK)(c:Nat->Nat->Int):Prop:=∀(k v r:Nat) (x:ZJ),(aG d)[k]?=some v->d.C[v]?=some x->r<cr d.C x->0<=c k r/\c k r<x.L
def FC (h:ZP d)(hc:rN d c):Z1 d.nl (di d c):=by
 have h0:=h.nC;refine⟨h0.g1,by rw[ik];exact h.n.n1,fun y hy=>?_,by have:=h0.size;rw[jX]at this ⊢;exact this,by have:=h0.nL;rw[tO]at this ⊢;exact this,fun y hy=>?_⟩
 ·obtain⟨v,x,hx,rfl⟩:=pV hy;have:=h0.node _ (Va (jG (c:=fun _ _=>0) hx));rw[(iP ..).1,(iP ..).2,ik]at this ⊢;exact this
 ·obtain⟨v,x,hx,rfl⟩:=pV hy;have h1:=h0.nb _ (Va (jG (c:=fun _ _=>0) hx));unfold gG at h1 ⊢;rw[rM]at h1 ⊢;by_cases hb:d.Y.testBit v=true
  ·rw[wH hx hb]at h1 ⊢;have x1:=(h.n.dec v x hx hb).1;refine⟨?_,fun r hr=>?_⟩
   ·have:=h1.1;rw[show ({ x with nb:=x.nb++dE d.nl d.C (fun _ _=>0) (bp d.Y v) x }:ZJ).nb.length=cr d.C x by simp[x1,dE]]at this;rw[show ({ x with nb:=x.nb++dE d.nl d.C c (bp d.Y v) x }:ZJ).nb.length=cr d.C x by simp[x1,dE]];exact this
   ·rw[show ({ x with nb:=x.nb++dE d.nl d.C c (bp d.Y v) x }:ZJ).nb=x.nb++dE d.nl d.C c (bp d.Y v) x from rfl,x1,List.nil_append]at hr;unfold dE at hr;obtain⟨i,hi,rfl⟩:=Vu.1 hr;have:=h0.g1;exact Ap V (hc _ _ _ x (tP hx hb) hx (Vp.1 hi))
  ·rw[oK hb]at h1 ⊢;exact h1
def SW {u:ZV}(h:Z8 d.C u):Z8 (di d c) u:=⟨by rw[ik];exact h.vars,by rw[jX];exact h.size,h.w⟩
def wI {p:List (List Int)}(h:ZZ d p):rN d (fixC p):=fun k v r x hv hx hr=>by
 obtain⟨l,a,hl,ha,he,hb⟩:=S7 h hv hx hr;rw[he];exact hb
def Aq (d:ZK)(p:List (List Int)):Int:=lj (di d (fixC p)) d.Z (cJ d.C)
noncomputable def rE (d:ZK)(p:List (List Int)):ZI:=if S6 d p=0 then dM (Aq d p) (d.nl ^ d.C.length) else .agg [.lit (.int .i64 0),.lit (.int .i64 0)]
def FD (d:ZK)(c:Nat->Nat->Int):cJ (di d c)=cJ d.C:=by unfold cJ;rw[jX]
def SX (d:ZK)(p:List (List Int)):Prop:=ZP d->ZZ d p->∀k,k<=cJ d.C->-1000000000000000000<=lj (di d (fixC p)) d.Z k/\lj (di d (fixC p)) d.Z k<=1000000000000000000
end Go.Proofs
