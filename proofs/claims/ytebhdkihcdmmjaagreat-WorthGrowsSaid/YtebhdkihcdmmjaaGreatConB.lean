/- Own work: contracts. -/
import Derived.Test.YtebhdkihcdmmjaaGreatConA
set_option linter.all false
set_option maxHeartbeats 8000000
set_option maxRecDepth 100000
namespace Go.Proofs
open Go.Hx Tryz
variable {g:Int}{c:List Int}{ns:List Zp}{D k n v:Nat}{p:Prop}{H H':Zn}{x:Zp}{d:Zq}
def Am:Zo:=.agg [.lit (.int .i64 0),af [],af [],af [],af []]
def An (g:Int)(ns:List Zp):Zo:=.agg [.lit (.int .i64 g),eM ns,af (au ns),jm (az ns),af (aG ((fB (az ns)).getD []))]
structure ZV (g:Int)(ns:List Zp)(H H':Zn)(c:List Int)(s:List Nat):Prop where
 nx:H.A+5<=H'.A
 ov:Zs H H'
 b0:H'.get H.A=some (.J 0 90 [.lit (.int .i64 g),.Q ns.length (aH ns)])
 b1:H'.get (H.A+1)=some (.J 0 214 [.lit (.int .i64 0),.lit (.slice none 0 0),.lit (.slice none 0 0),.lit (.slice none 0 0),.lit (.slice none 0 0)])
 b2:H'.get (H.A+2)=some (.J 0 3 (ints c))
 b3:H'.get (H.A+3)=some (.J 0 34 (s.map aK))
 b4:H'.get (H.A+4)=some (.J 0 214 [.lit (.int .i64 g),.Q ns.length (aH ns),.U (H.A+2) 0 0 ns.length 1,.U (H.A+3) 0 0 ns.length 1,.lit (.slice none 0 0)])
 cl:c.length=ns.length
 sl:s.length=ns.length
def ZV.over {H2:Zn}{s:List Nat}(h:ZV g ns H H' c s)(o:Zs H' H2):ZV g ns H H2 c s where
 nx:=VC h.nx o.A
 ov:=h.ov.trans o
 b0:=(o.nc _ (by have:=h.nx;omega)).trans h.b0
 b1:=(o.nc _ (by have:=h.nx;omega)).trans h.b1
 b2:=(o.nc _ (by have:=h.nx;omega)).trans h.b2
 b3:=(o.nc _ (by have:=h.nx;omega)).trans h.b3
 b4:=(o.nc _ (by have:=h.nx;omega)).trans h.b4
 cl:=h.cl
 sl:=h.sl
def ZV.Ta {s:List Nat}(h:ZV g ns H H' c s)(hk:k<c.length)(x:Int):ZV g ns H (H'.upd (H.A+2) (.J 0 3 (setAt (ints c) k [.lit (.int .i64 x)]))) (c.set k x) s where
 nx:=h.nx
 ov:=h.ov.upd V _
 b0:=by rw[ah,UW V];exact h.b0
 b1:=by rw[ah,UW V];exact h.b1
 b2:=by rw[ah,UX rfl,iQ hk]
 b3:=by rw[ah,UW V];exact h.b3
 b4:=by rw[ah,UW V];exact h.b4
 cl:=by simpa using h.cl
 sl:=h.sl
def Tb {l:List Nat}{i:Nat}{x:Nat}(h:i<l.length):setAt (l.map aK) i [.lit (.int .u64 (x:Int))]=(l.set i x).map aK:=by
 rw[iW (by simpa using h)];simp[aK]
def ZV.Tc {s:List Nat}(h:ZV g ns H H' c s)(hk:k<s.length)(x:Nat):ZV g ns H (H'.upd (H.A+3) (.J 0 34 (setAt (s.map aK) k [.lit (.int .u64 (x:Int))]))) c (s.set k x) where
 nx:=h.nx
 ov:=h.ov.upd V _
 b0:=by rw[ah,UW V];exact h.b0
 b1:=by rw[ah,UW V];exact h.b1
 b2:=by rw[ah,UW V];exact h.b2
 b3:=by rw[ah,UX rfl,Tb hk]
 b4:=by rw[ah,UW V];exact h.b4
 cl:=h.cl
 sl:=by simpa using h.sl
def ZV.l0 {s:List Nat}(h:ZV g ns H H' c s):H'.na H.A 0=some (90,[.lit (.int .i64 g),.Q ns.length (aH ns)]):=ag h.b0
def ZV.l1 {s:List Nat}(h:ZV g ns H H' c s):H'.na (H.A+1) 0=some (214,[.lit (.int .i64 0),.lit (.slice none 0 0),.lit (.slice none 0 0),.lit (.slice none 0 0),.lit (.slice none 0 0)]):=ag h.b1
def ZV.l2 {s:List Nat}(h:ZV g ns H H' c s):H'.na (H.A+2) 0=some (3,ints c):=ag h.b2
def ZV.l3 {s:List Nat}(h:ZV g ns H H' c s):H'.na (H.A+3) 0=some (34,s.map aK):=ag h.b3
def ZV.l4 {s:List Nat}(h:ZV g ns H H' c s):H'.na (H.A+4) 0=some (214,[.lit (.int .i64 g),.Q ns.length (aH ns),.U (H.A+2) 0 0 ns.length 1,.U (H.A+3) 0 0 ns.length 1,.lit (.slice none 0 0)]):=ag h.b4
def wI {S:Nat->Prop}{nx:Nat}(ns:List Zp):Fz S H nx (.Q ns.length (aH ns)) (.Q ns.length (aH ns)):=by
 refine .Q rfl fun i hi _=>?_;have:∀(l:List Zp) (c:Zo),c∈aH l->Fz S H nx c c:=by
  intro l c hc;unfold aH at hc;obtain⟨r,hr,hc⟩:=Xz.1 hc;obtain⟨x,_,rfl⟩:=Vb.1 hr;unfold Zp.cells at hc;simp only[List.mem_cons,List.not_mem_nil,or_false]at hc;rcases hc with rfl|rfl|rfl
  ·exact .lit _
  ·exact .dW _
  ·exact .aZ _
 exact this ns _ (VU _)
def Td (g:Int)(hg:1<=g/\g<=60)(ns:List Zp)(sets:List Nat)(x:Zp)(hin:iG x.F ns.length)(hsm:eW (aT ns x))(hx1:(x.nb.length:Int)<2 ^ 38)(hx2:∀r∈x.nb,(r.length:Int)<2 ^ 38)(H:Zn)(ci si:Nat)
  (h2:H.get ci=some (.J 0 3 (ints (au ns)))) (h3:H.get si=some (.J 0 34 (sets.map aK))) (hs:sets.length=ns.length) (K:Zt->Zn->Prop)
  (hK:K (.ret (.lit (.bool (mn g ns x)))) H):ae prog G0 174 [.agg [.lit (.int .i64 g),.Q ns.length (aH ns),.U ci 0 0 ns.length 1,.U si 0 0 ns.length 1,.lit (.slice none 0 0)],.agg [.lit (.int .i64 x.L),.Q x.F.length (ints x.F),aZ x.nb]] H K:=by
 refine(ae.frame (H:=H) (args:=[.agg [.lit (.int .i64 g),.Q ns.length (aH ns),.U ci 0 0 ns.length 1,.U si 0 0 ns.length 1,.lit (.slice none 0 0)],.agg [.lit (.int .i64 x.L),.Q x.F.length (ints x.F),aZ x.nb]]) (args':=[.agg [.lit (.int .i64 g),eM ns,af (au ns),jm sets,.lit (.slice none 0 0)],tM x]) (v':=.lit (.bool (mn g ns x))) aF rfl (fun i hi _=>?_) (S7 g hg ns sets x hin hsm hx1 hx2 cW _ ⟨_,rfl,.lit _⟩)).mono ?_
 ·match i,hi with
  |0,_ =>
   refine .agg rfl fun i hi _=>?_
   match i,hi with
   |0,_=>exact .lit _
   |1,_=>exact wI _
   |2,_ =>
    have:=Fz.tO (nx:=0) h2 (n:=ns.length) (by rw[bG,eO]) (fun c hc=>by
     obtain⟨z,_,rfl⟩:=Vb.1 hc;exact⟨_,rfl⟩)
    show Fz _ _ _ _ (.Q (au ns).length (ints (au ns)));rw[eO];exact this
   |3,_ =>
    have:=Fz.tO (nx:=0) h3 (n:=ns.length) (by simp[hs]) (fun c hc=>by
     obtain⟨z,_,rfl⟩:=Vb.1 hc;exact⟨_,rfl⟩)
    show Fz _ _ _ _ (.Q sets.length (sets.map aK));rw[hs];exact this
   |4,_=>exact .lit _
  |1,_ =>
   refine .agg rfl fun i hi _=>?_
   match i,hi with
   |0,_=>exact .lit _
   |1,_=>exact .dW _
   |2,_=>exact .aZ _
 ·rintro r H' ⟨rfl,rfl⟩;exact hK
def Te (hx:ns[k]?=some x)(h0:∀q∈x.F,0<=q)(hm:(k:Int)∈x.F):¬jS (az ns):=fun h=>by
 have hk:=aO (kH hx);have:=h k hk;rw[bK (kH hx)]at this;have h1:=qZ (az ns) (az ns).length (bt x.F) k (by rw[gK h0];exact Vl hm);unfold dJ at this;rw[h1]at this;cases this
def Tf (g:Int)(ns:List Zp)(hf:wH ns)(H:Zn)(K:Zt->Zn->Prop)(hK:K (.ret (if pU g ns then .nf [An g ns,aa 0] else .nf [Am,aa 50])) H):ae prog G0 143 [eQ g ns] H K:=by
 refine ae.Z ⟨_,func143,rfl,rfl⟩ fun hcl=>?_;have no:¬ZH g ns->∀H',Zs H H'->aj prog G0 H K (.nf [.agg [.lit (.int .i64 0),.lit (.slice none 0 0),.lit (.slice none 0 0),.lit (.slice none 0 0),.lit (.slice none 0 0)],.lit (.int .i64 50)]) H':=fun h H' ov=>by
  rw[FA h]at hK;refine aj.bH (v':=.nf [Am,aa 50]) aF hcl ov (.nf rfl fun i hi _=>?_) hK
  match i,hi with
  |0,_ =>
   refine .agg rfl fun i hi _=>?_
   match i,hi with
   |0,_=>exact .lit _
   |1,_=>exact .nil
   |2,_=>exact .nil
   |3,_=>exact .nil
   |4,_=>exact .nil
  |1,_=>exact .lit _
 refine ae.st (n:=140) (rs:=[.cell 2 214,.tmp 3]) func143 ?_;simp only[go_sem,eQ,eM];have l1:=ag (cM H (.J 0 90 [.lit (.int .i64 g),.Q ns.length (aH ns)]) [.J 0 214 [.lit (.int .i64 0),.lit (.slice none 0 0),.lit (.slice none 0 0),.lit (.slice none 0 0),.lit (.slice none 0 0)]]);by_cases c1:g<1
 ·simp only[go_sem,c1];exact no (fun h=>by have:=h.g1;omega) _ (.ext _ _)
 by_cases c2:g > 60
 ·simp only[go_sem,l1,c1,c2];exact no (fun h=>by have:=h.g1;omega) _ (.ext _ _)
 by_cases c3:(ns.length:Int)<1
 ·simp only[go_sem,l1,c1,c2,c3];exact no (fun h=>by have:=h.n1;omega) _ (.ext _ _)
 by_cases c4:(ns.length:Int) > 8
 ·simp only[go_sem,l1,c1,c2,c3,c4];exact no (fun h=>by have:=h.n1;omega) _ (.ext _ _)
 simp only[go_sem,l1,c1,c2,c3,c4];refine W.dr 11 [0,0,2,6,14,0,32,96,224,511,0] mixed ?_;simp only[go_sem,l1]
 repeat (refine And.intro (by first|omega|(simp;done)|(simp;omega)|(intros;omega)|exact⟨rfl,V,V,kW _⟩) ?_)
 obtain⟨Hb,hHb⟩:∃Hb,Hb=ext (ext H [.J 0 90 [.lit (.int .i64 g),.Q ns.length (aH ns)],.J 0 214 [.lit (.int .i64 0),.lit (.slice none 0 0),.lit (.slice none 0 0),.lit (.slice none 0 0),.lit (.slice none 0 0)],.J 0 3 (List.replicate ns.length (.lit (.int .i64 0))),.J 0 34 (List.replicate ns.length (.lit (.int .u64 0)))]) [.J 0 214 [.lit (.int .i64 g),.Q ns.length (aH ns),.U (H.A+2) 0 0 ns.length 1,.U (H.A+3) 0 0 ns.length 1,.lit (.slice none 0 0)]]:=⟨_,rfl⟩
 rw[<- hHb];have R0:ZV g ns H Hb (List.replicate ns.length 0) (List.replicate ns.length 0):=by
  rw[hHb,dY];exact⟨by simp[aV],.ext _ _,cM ..,bO H _ 1 Zj,by rw[bO H _ 2 Zj];simp[ints,aa],by rw[bO H _ 3 Zj];simp[aK],bO H _ 4 Zj,Zj,Zj⟩
 have hcard:∀ {k:Nat},(∀x∈ns.take k,1<=x.L/\x.L<=4)->eW ((au ns).take k):=fun {k} h=>rL (by simp[au];omega) fun c hc=>by
  rw[show (au ns).take k=au (ns.take k) by simp[au]]at hc;obtain⟨y,hy,rfl⟩:=Vb.1 hc;exact h y hy
 refine W.aS 37778930737057254867176 (by rfl) (fun ρ H'=>∃(k:Nat) (c:List Int),ρ 50=aa k/\k<=ns.length/\ρ 5=aa (aB ((au ns).take k))/\ZV g ns H H' c (List.replicate ns.length 0)/\Hb.A<=H'.A/\c.take k=(au ns).take k/\∀x∈ns.take k,1<=x.L/\x.L<=4) (fun ρ H=>ns.length-(iv (ρ 50)).toNat) ?_ ?_
 ·simp only[go_sem];exact⟨0,_,rfl,V,by simp[iK],R0,Zj⟩
 rintro ρ H' ⟨k,c,h50,hk,h5,R,hn,hc,hall⟩;refine W.vs ?_;have q0:=R.l0;have q1:=R.l1;have q2:=R.l2;have q4:=R.l4;have rn:=R.nx;by_cases hb:(k:Int)<ns.length
 ·obtain⟨x,hx⟩:=aw (l:=ns) (i:=k) V;have hxm:=an hx;have hne:=fM hx;have e0:=ot hx;have e1:k*3+3<=(aH ns).length:=by rw[kq];omega
  have R2:=R.over (.ext H' [.J 0 76 [.lit (.int .i64 x.L),.Q x.F.length (ints x.F),aZ x.nb]]);have p1:=R2.l1;have p2:=R2.l2;have p4:=R2.l4;have nb1:¬H.A+1=H'.A:=V
  have nb2:¬H.A+2=H'.A:=V
  have nb4:¬H.A+4=H'.A:=V
  by_cases d1:x.L<1
  ·simp only[go_sem,h50,p1,hb,hne,e0,e1,d1];exact no (fun h=>by have:=(h.node x hxm).1;omega) _ (R2.ov.upd V _)
  by_cases d2:x.L > 4
  ·simp only[go_sem,h50,p1,hb,hne,e0,e1,d1,d2];exact no (fun h=>by have:=(h.node x hxm).1;omega) _ (R2.ov.upd V _)
  have hall':∀y∈ns.take (k+1),1<=y.L/\y.L<=4:=fun y hy=>by
   rw[bd hx]at hy;rcases Vp.1 hy with hy|hy
   ·exact hall y hy
   ·obtain rfl:=List.mem_singleton.1 hy;exact⟨V,V⟩
  have b2:=(hcard hall').prod;rw[bd (cS hx),ji]at b2;have w1:=UU ((k:Int)+1) V;have w2:=UU (aB ((au ns).take k)*x.L) V;have hkc:k<c.length:=by rw[R.cl];omega
  have p0:∀b,((ext H' [.J 0 76 [.lit (.int .i64 x.L),.Q x.F.length (ints x.F),aZ x.nb]]).upd (H.A+2) b).na H'.A 0=some (76,[.lit (.int .i64 x.L),.Q x.F.length (ints x.F),aZ x.nb]):=fun b=>by
   rw[lM V];exact ag dZ
  simp only[go_sem,h50,h5,p2,p4,p0,hb,hne,e0,e1,d1,d2,w1,w2];exact⟨V,by rw[aP,aV];omega,⟨k+1,_,Zj,V,by rw[bd (cS hx),ji],R2.Ta hkc x.L,by rw[aP,aV];omega,Ga hc hkc (cS hx),fun y hy=>hall' y hy⟩,V⟩
 have ek:k=ns.length:=V
 subst ek;rw[UY Zm]at hall;rw[UY (by rw[eO];omega)]at h5;have ec:c=au ns:=by
  rw[UY (by rw[R.cl];omega),UY (by rw[eO];omega)]at hc;exact hc
 subst ec;by_cases c5:aB (au ns) > 1024
 ·simp only[go_sem,h50,h5,q1,hb,c5];exact no (fun h=>by have:=h.size;omega) _ (R.ov.upd V _)
 simp only[go_sem,h50,h5,q4,hb,c5];refine W.aS 340282366920933627760096148915069392648 (by rfl) (fun ρ' H2=>∃(k:Nat) (s:List Nat),ρ' 82=aa k/\k<=ns.length/\ZV g ns H H2 (au ns) s/\H'.A<=H2.A/\s.take k=(az ns).take k/\(∀j,k<=j->s.getD j 0=0)/\∀x∈ns.take k,bV x.F ns.length/\gh g ns x) (fun ρ' H=>ns.length-(iv (ρ' 82)).toNat) ?_ ?_
 ·simp only[go_sem];refine⟨0,_,rfl,V,R,rfl,fun j _=>?_,Zj⟩;rw[UZ,Wn];split<;>rfl
 rintro ρ' H2 ⟨k,s,h82,hk2,R2,hn2,hs,hs0,hall2⟩;refine W.vs ?_;have r2:=R2.nx;have q4:=R2.l4;by_cases hb2:(k:Int)<ns.length;rotate_left
 ·have es:s=az ns:=by
   rw[UY (by rw[R2.sl];omega),UY (by simp[az];omega)]at hs;exact hs
  subst es;rw[UY V]at hall2;have hlt:∀p∈az ns,p<2 ^ ns.length:=rN fun x hx q hq=>(hall2 x hx).1.2 q hq;have hsl:(az ns).length=ns.length:=by simp[az]
  have hlt64:∀p∈az ns,p<2 ^ 64:=fun p hp=>U4 (hlt p hp) (U7 Zk V);have hto:=vF (ps:=az ns) (by rw[hsl];exact hlt) V;simp only[go_sem,h82,q4,hb2];have fzs:=Fz.tO (nx:=0) R2.b3 (n:=ns.length) (by simp[R2.sl]) (fun c hc=>by
   obtain⟨z,_,rfl⟩:=Vb.1 hc;exact⟨_,rfl⟩)
  refine ao.Z (S9 (az ns) V hlt64 _ _ (by show Fz _ _ _ _ (.Q (az ns).length _);rw[hsl];exact fzs) _ ⟨trivial,?_⟩);have q1:=R2.l1;cases hso:(fB (az ns)).isSome
  ·simp only[go_sem,q1];exact no (fun h=>by rw[hto.2 h.nL]at hso;cases hso) _ (R2.ov.upd V _)
  have hok:ZH g ns:=⟨V,V,fun x hx=>⟨hall x hx,(hall2 x hx).1⟩,V,hto.1 hso,fun x hx=>(hall2 x hx).2⟩
  rw[Fy hok]at hK;have q1b:∀b,(H2.upd (H.A+4) b).na (H.A+1) 0=_:=fun b=>(lM V).trans q1;simp only[go_sem,q1b,q4];have ovf:Zs H ((H2.upd (H.A+4) (.J 0 214 [.lit (.int .i64 g),.Q ns.length (aH ns),.U (H.A+2) 0 0 ns.length 1,.U (H.A+3) 0 0 ns.length 1,.Q (aG ((fB (az ns)).getD [])).length (ints (aG ((fB (az ns)).getD [])))])).upd (H.A+1) (.J 0 214 [.lit (.int .i64 g),.Q ns.length (aH ns),.U (H.A+2) 0 0 ns.length 1,.U (H.A+3) 0 0 ns.length 1,.Q (aG ((fB (az ns)).getD [])).length (ints (aG ((fB (az ns)).getD [])))])):=(R2.ov.upd V _).upd V _;refine aj.bH (v':=.nf [An g ns,aa 0]) aF hcl ovf (.nf rfl fun i hi _=>?_) hK
  match i,hi with
  |1,_=>exact .lit _
  |0,_ =>
   refine .agg rfl fun i hi _=>?_
   match i,hi with
   |0,_=>exact .lit _
   |1,_=>exact wI _
   |2,_ =>
    have hg2:∀b b',((H2.upd (H.A+4) b).upd (H.A+1) b').get (H.A+2)=some (.J 0 3 (ints (au ns))):=fun b b'=>by rw[ah,UW V,ah,UW V];exact R2.b2
    show Fz _ _ _ (.U (H.A+2) 0 0 ns.length 1) (.Q (au ns).length (ints (au ns)));rw[<- eO ns];exact .ints (by show H.A<=_;omega) (hg2 _ _) Zj fun i hi=>by simp[gX,hi]
   |3,_ =>
    have hg3:∀b b',((H2.upd (H.A+4) b).upd (H.A+1) b').get (H.A+3)=some (.J 0 34 ((az ns).map aK)):=fun b b'=>by rw[ah,UW V,ah,UW V];exact R2.b3
    show Fz _ _ _ (.U (H.A+3) 0 0 ns.length 1) (.Q (az ns).length ((az ns).map aK));rw[<- hsl];refine .nA (by show H.A<=_;omega) (hg3 _ _) Zj fun j hj h2 h'=>?_;simp only[Nat.zero_add,Ve];exact .lit _
   |4,_=>exact .dW _
 obtain⟨x,hx⟩:=aw (l:=ns) (i:=k) V;have hxm:=an hx;have hne:=fM hx;have e0:=ot hx;have e1:k*3+3<=(aH ns).length:=by rw[kq];omega
 obtain⟨f1,f2,f3⟩:=hf.2 x hxm;simp only[go_sem,h82,hb2,hne,e0,e1];obtain⟨H3,hH3⟩:∃H3,H3=ext H2 [.J 0 76 [.lit (.int .i64 x.L),.Q x.F.length (ints x.F),aZ x.nb]]:=⟨_,rfl⟩
 have R3:ZV g ns H H3 (au ns) s:=by rw[hH3];exact R2.over (.ext _ _)
 have nn:H3.A=H2.A+1:=hH3▸rfl
 have gN:=dp hH3
 rw[<- hH3];have hks:k<s.length:=by rw[R2.sl];omega
 have s0:s.set k 0=s:=by
  apply VG;intro i;rw[WE];split
  ·rename_i h;subst h;have:=hs0 k Zm;rw[UZ,UV hks]at this;simp only[Option.getD_some]at this;rw[UV hks,this]
  ·rfl
 refine W.aS 5316911981901723452329847966222259208 (by rfl) (fun ρ2 H4=>∃(j:Nat) (b:Int),ρ2 90=aa j/\j<=x.F.length/\ρ2 10=aa b/\bV (x.F.take j) ns.length/\(x.F.take j).getLast?.getD (-1)=b/\ZV g ns H H4 (au ns) (s.set k (bt (x.F.take j)))/\H3.A<=H4.A/\H4.get H2.A=some (.J 0 76 [.lit (.int .i64 x.L),.Q x.F.length (ints x.F),aZ x.nb])/\¬(k:Int)∈x.F.take j)
  (fun ρ2 H=>x.F.length-(iv (ρ2 90)).toNat) ?_ ?_
 ·simp only[go_sem];exact⟨0,-1,rfl,V,rfl,.nil,rfl,by rw[show bt (x.F.take 0)=0 from rfl,s0];exact R3,gN,Zj⟩
 rintro ρ2 H4 ⟨j,b,h90,hj,h10,hp,hbl,R4,hn4,gN4,hself⟩;refine W.vs ?_;have r4:=R4.nx;have t1:=R4.l1;have t3:=R4.l3;have t4:=R4.l4;have tN:=ag gN4;by_cases hb3:(j:Int)<x.F.length
 ·obtain⟨a,ha⟩:=aw (l:=x.F) (i:=j) V;have ham:=an ha;have hane:=bf ha;by_cases d1:a<=b
  ·simp only[go_sem,h90,h10,hb3,ha,hane,d1,t1];refine no (fun h=>?_) _ (R4.ov.upd V _);have hpl:=(h.node x hxm).2;have h0:=hpl.2 a ham;rcases V6 j with rfl|hk0
   ·simp at hbl;omega
   ·obtain⟨i,rfl⟩:∃i,j=i+1:=⟨j-1,V⟩
    obtain⟨b',hbj⟩:=aw (l:=x.F) (i:=i) V;rw[wG hbj]at hbl;have:=hpl.lt hbj ha V;simp at hbl;omega
  by_cases d2:a >= ns.length
  ·simp only[go_sem,h90,h10,hb3,ha,hane,d1,d2,t1,t4];exact no (fun h=>by have:=(h.node x hxm).2.2 a ham;omega) _ (R4.ov.upd V _)
  have h0:0<=a:=by
   rcases hg:(x.F.take j).getLast? with _|b'
   ·rw[hg]at hbl;simp at hbl;omega
   ·rw[hg]at hbl;have:=hp.2 b' (Y5 hg);simp at hbl;omega
  by_cases d3:a=k
  ·have d1':¬(k:Int)<=b:=V;have d2':¬(k:Int) >= ns.length:=V;simp only[go_sem,h90,h10,hb3,ha,hane,d1',d2',d3,t1,t4];exact no (fun h=>Te hx (fun q hq=>((h.node x hxm).2.2 q hq).1) (by rw[<- d3];exact ham) h.nL) _ (R4.ov.upd (id:=H.A+1) V _)
  obtain⟨u,rfl⟩:=U2 h0;have w1:=UU ((j:Int)+1) V;have bm:bt (x.F.take j)<2 ^ 64:=jR fun p hp'=>by have:=hp.2 p hp';omega
  have v1:=fun t x y=>kM (P:=prog) (t:=t) (x:=x) (y:=y) (k':=.i64) (s:=u) V;have v2:=fun t x y=>iX (P:=prog) (t:=t) (x:=x) (y:=y) (b:=2 ^ u) bm (V3 Zk V);have gs:(s.set k (bt (x.F.take j)))[k]?=some (bt (x.F.take j)):=Vi hks;simp only[go_sem,h90,h10,hb3,ha,hane,d1,d2,d3,t4];refine W.dr 7 [0,1,0,7,15,0,32] mixed ?_;simp only[go_sem,h90,hb2,t3,t4,gs,v1,v2,w1]
  repeat (refine And.intro (by first|omega|(simp;done)|(simp;omega)|(intros;omega)|exact⟨rfl,V,V,kW _⟩) ?_)
  have R5:=R4.Tc (k:=k) (by simpa using hks) (bt (x.F.take j) |||2 ^ u);rw[YC]at R5;have esn:bt (x.F.take (j+1))=bt (x.F.take j) |||2 ^ u:=by rw[bd ha,tw];rfl
  refine⟨by rw[aP];omega,⟨j+1,u,Zj,V,rfl,?_,by rw[wG ha];rfl,by rw[esn];exact R5,by rw[aP];omega,by rw[ah,UW V];exact gN4,fun hm=>?_⟩,V⟩
  ·rw[bd ha];exact hp.snoc ⟨V,V⟩ fun b' hb'=>by rw[hb']at hbl;simp at hbl;omega
  ·rw[bd ha]at hm;rcases Vp.1 hm with hm|hm
   ·exact hself hm
   ·exact d3 (List.mem_singleton.1 hm).symm
 ·have hb3':=hb3;rw[UY V]at hp hself R4;simp only[go_sem,h90,hb3,t4,tN];have hin:iG x.F ns.length:=fun q hq=>by have:=hp.2 q hq;omega
  refine ao.Z (Td g ⟨V,V⟩ ns _ x hin (oJ V hp hall) f2 f3 _ (H.A+2) (H.A+3) R4.b2 R4.b3 R4.sl _ ⟨trivial,?_⟩);cases hnb:mn g ns x
  ·simp only[go_sem,t1];exact no (fun h=>by rw[FD (h.nb x hxm)]at hnb;cases hnb) _ (R4.ov.upd V _)
  have w1:=UU ((k:Int)+1) V;simp only[go_sem,h82,w1];refine⟨V,⟨k+1,_,Zj,V,R4,V,?_,fun i hi=>?_,fun y hy=>?_⟩,V⟩
  ·have h1:=kH hx;rw[bd h1,bd (Vi hks),XW (Nat.le_refl k),hs]
  ·rw[UZ,Vw V,<- UZ];exact hs0 i (V)
  ·rw[bd hx]at hy;rcases Vp.1 hy with hy|hy
   ·exact hall2 y hy
   ·obtain rfl:=List.mem_singleton.1 hy;exact⟨hp,S6.1 hnb⟩
def Tg (g:Int)(ns:List Zp)(hf:wH ns)(H:Zn)(K:Zt->Zn->Prop)(hK:K (.ret (aa (if pU g ns then 0 else 50))) H):ae prog G0 105 [eQ g ns] H K:=by
 refine ae.Z ⟨_,func105,rfl,rfl⟩ fun hcl=>?_;refine ae.st (n:=11) (rs:=[.tmp 2]) func105 ?_;simp only[go_sem,eQ,eM];refine ao.Z (Tf g ns hf _ _ ⟨trivial,?_⟩);cases hb:pU g ns
 ·rw[hb]at hK;simp only[go_sem,Am,List.length_nil];exact aj.bH aF hcl (.ext _ _) (.lit _) hK
 ·rw[hb]at hK;simp only[go_sem,An,eM];exact aj.bH aF hcl (.ext _ _) (.lit _) hK
def eU (D v:Nat):List Nat := (List.range v).filter fun v => D.testBit v
def bw (D v:Nat):Nat := (eU D v).length
def aE (d:Zq):List Nat := eU d.X d.C.length
def vG (D v:Nat):eU D (v + 1)=if D.testBit v then eU D v ++ [v] else eU D v := by
  unfold eU;rw[VH,WB];cases h:D.testBit v <;> simp[h]
def Qt :∀ {n:Nat},v <= n -> ∃r,eU D n=eU D v ++ r := by
  intro n
  induction n with
  | zero => intro h; obtain rfl : v = 0 := by omega
            exact⟨[],Zj⟩
  |succ n ih =>
    intro h;by_cases hv:v=n + 1
    · subst hv;exact⟨[],Zj⟩
    · obtain⟨r,hr⟩ := ih V;rw[vG];split
      · exact⟨r ++ [n],by rw[hr,List.append_assoc]⟩
      · exact⟨r,hr⟩
def mf (hv:v < n)(hb:D.testBit v=true):(eU D n)[bw D v]? = some v := by
  obtain⟨r,hr⟩ := Qt (D := D) (v := v + 1) (n := n) hv;rw[hr,vG,UX hb,List.append_assoc];unfold bw;simp
def vI (D v:Nat):bw D (v + 1)=if D.testBit v then bw D v + 1 else bw D v := by
  unfold bw;rw[vG];split <;> simp
def jy :v ∈ eU D n ↔ v < n /\ D.testBit v=true := by unfold eU;simp
def q8 (h:(eU D n)[k]? = some v):v < n /\ D.testBit v=true /\ bw D v=k := by
  have hm := jy.1 (an h);refine⟨hm.1,hm.2,?_⟩;have h2 := mf hm.1 hm.2;have hnd:(eU D n).Nodup := Xh.filter _;have a := aO h;have b := aO h2;rw[UV a]at h;rw[UV b]at h2;have e:(eU D n)[bw D v]=(eU D n)[k] := by rw[Option.some.inj h,Option.some.inj h2]
  exact(List.getElem_inj hnd).1 e
def pD :(eU D n).length <= n := by
  have := Ym (fun v => D.testBit v) (List.range n);unfold eU;simpa using this
def ea (g L x:Int):List Int := (List.replicate L.toNat 0).set x.toNat g
def cr (ns:List Zp)(x:Zp):Nat := (aB (aT ns x)).toNat
def dD (g:Int)(ns:List Zp)(c:Nat -> Nat -> Int)(p:Nat)(x:Zp):List (List Int) := (List.range (cr ns x)).map fun r => ea g x.L (c p r)
def gM (d:Zq)(c:Nat -> Nat -> Int)(k v:Nat)(x:Zp):Zp := if d.X.testBit v=true /\ bw d.X v < k then { x with nb := x.nb ++ dD d.nl d.C c (bw d.X v) x } else x
def ee (d:Zq)(c:Nat -> Nat -> Int)(k:Nat):List Zp := d.C.zipIdx.map fun p => gM d c k p.2 p.1
def df (d:Zq)(c:Nat -> Nat -> Int):List Zp := ee d c (aE d).length
def lh (d:Zq)(c:Nat -> Nat -> Int)(k:Nat):(ee d c k).length=d.C.length := by simp[ee]
def ow {c:Nat -> Nat -> Int}(h:d.C[v]? = some x):(ee d c k)[v]? = some (gM d c k v x) := by
  unfold ee;rw[List.getElem?_map,WC,h];simp
def Qu (d:Zq)(c:Nat -> Nat -> Int):ee d c 0=d.C := by
  apply VG;intro v;cases h:d.C[v]? with
  |none => rw[U3];rw[lh];exact Xx.1 h
  |some x => rw[ow h];simp[gM]
def Qv {c:Nat -> Nat -> Int}(hd:(aE d)[k]? = some v)(hx:d.C[v]? = some x):ee d c (k + 1)=(ee d c k).set v { x with nb := x.nb ++ dD d.nl d.C c k x } := by
  obtain⟨h1,h2,h3⟩ := q8 hd;apply VG;intro u;rw[WE];split
  · rename_i h;subst h;rw[ow hx,UX (by rw[lh];exact h1)];unfold gM;rw[UX ⟨h2,V⟩,h3]
  · rename_i h;cases hu:d.C[u]? with
    |none => rw[U3 (by rw[lh];exact Xx.1 hu),U3 (by rw[lh];exact Xx.1 hu)]
    |some y =>
      rw[ow hu,ow hu];unfold gM;by_cases hb:d.X.testBit u=true
      · have : bw d.X u ≠ k := fun e => by
          have h4 := mf (aO hu) hb;rw[e]at h4;have h5:(eU d.X d.C.length)[k]? = some v := hd;rw[h4]at h5;exact h (Option.some.inj h5).symm
        have e:(bw d.X u < k + 1)=(bw d.X u < k) :=(by apply propext;omega);simp only[e]
      · simp[hb]
def Qw {c:Nat -> Nat -> Int}:au (ee d c k)=au d.C := by
  apply VG;intro v;unfold au;rw[List.getElem?_map,List.getElem?_map];cases h:d.C[v]? with
  |none => rw[U3 (by rw[lh];exact Xx.1 h)]
  |some x =>
    rw[ow h];simp only[Option.map_some,gM];split <;> rfl
def iN (d:Zq)(c:Nat -> Nat -> Int)(k v:Nat)(x:Zp):(gM d c k v x).L=x.L /\ (gM d c k v x).F=x.F := by unfold gM;split <;> exact⟨rfl,rfl⟩
def cZ (d:Zq):List Zo:=[.lit (.int .i64 d.nl),.Q d.C.length (aH d.C),.lit (.int .u64 (d.X:Int)),.Q d.Y.length (bB d.Y)]
def ie (d:Zq):dk d=.agg (cZ d):=rfl
def lG (d:Zq):Zu:=.J 0 38 (cZ d)
def nA (d:Zq):List (List Zo):=(aE d).zipIdx.map fun p=>[aa p.2,aa p.1]
def wx {x:List Zo}(h:(nA d)[k]?=some x):∃v,(aE d)[k]?=some v/\x=[aa k,aa v]:=by
 unfold nA at h;rw[List.getElem?_map,WC]at h;cases hr:(aE d)[k]? with
 |none=>rw[hr]at h;simp at h
 |some r=>rw[hr]at h;simp at h;exact⟨r,rfl,h.symm⟩
def Sy (h:(aE d)[k]?=some v):(nA d)[k]?=some [aa k,aa v]:=by
 unfold nA;rw[List.getElem?_map,WC,h];simp
def wy (d:Zq):(nA d).length=(aE d).length:=by simp[nA]
def Ad :∀x∈nA d,x.length=2:=fun x hx=>by
 obtain⟨k,hk⟩:=U1.1 hx;obtain⟨v,_,rfl⟩:=wx hk;rfl
def Ae (d:Zq)(hl:(d.C.length:Int)<2 ^ 40)(hD:d.X<2 ^ 64)(b:Nat):tV prog G0 109 [] [.O b 0 0] (nA d) (fun H=>H.get b=some (lG d)):=by
 intro idy J Stop H K hS hJ0 hY hK hSt;have l0:=ag (hS 0 H hJ0);show ae _ _ _ ([.np idy]++[.O b 0 0]) _ _;refine ae.st (n:=25) (rs:=[]) func109 ?_;simp only[go_sem,l0,cZ];refine W.aS 33554200 (by rfl) (fun ρ H'=>∃v:Nat,ρ 8=aa v/\v<=d.C.length/\ρ 3=aa (bw d.X v)/\J (bw d.X v) H'/\H.A<=H'.A) (fun ρ H=>d.C.length-(iv (ρ 8)).toNat) ?_ ?_
 ·simp only[go_sem];exact⟨0,rfl,V,rfl,hJ0⟩
 rintro ρ H' ⟨v,h8,hv,h3,hj,hn⟩;refine W.vs ?_;by_cases hb:(v:Int)<d.C.length
 ·have l1:=ag (hS _ _ hj);have s1:=fun t x y=>iY (P:=prog) (t:=t) (x:=x) (y:=y) (k':=.i64) (s:=v) hD;have s2:=fun t x y=>oO (P:=prog) (t:=t) (x:=x) (y:=y) (s:=v) hD;have w1:=UU ((v:Int)+1) V;have hp:bw d.X v<=v:=by
   have:(eU d.X v).length<=v:=pD;exact this
  have w2:=UU ((bw d.X v:Int)+1) V;cases hbit:d.X.testBit v
  ·simp only[go_sem,h8,h3,hb,l1,cZ,s1,s2,hbit,w1];exact⟨hn,⟨v+1,Zj,V,by rw[vI,hbit];rfl,by rw[vI,hbit];exact hj,hn⟩,V⟩
  ·have hdx:(nA d)[bw d.X v]?=some [aa (bw d.X v),aa v]:=Sy (mf V hbit);simp only[go_sem,h8,h3,hb,l1,cZ,s1,s2,hbit];refine hY _ _ H' _ hdx hj hn (fun H2 hj2 hn2=>⟨trivial,?_⟩) (fun H2 hs2 hn2=>⟨trivial,?_⟩)
   ·simp only[go_sem,h8,h3,w1,w2];exact⟨V,⟨v+1,Zj,V,by rw[vI,hbit];simp,by rw[vI,hbit];exact hj2,V⟩,V⟩
   ·simp only[go_sem];exact aj.mk V (hSt H2 hs2 V)
 ·simp only[go_sem,h8,hb];have ek:v=d.C.length:=V
  subst ek;exact aj.mk V (hK H' (by rw[wy];exact hj) hn)
def Af (d:Zq)(H:Zn)(K:Zt->Zn->Prop)(hK:K (.ret (.Z 109 [] [.O H.A 0 0])) (ext H [lG d])):
  ae prog G0 65 [dk d] H K:=by
 refine ae.st (n:=4) (rs:=[.tmp 2]) func65 ?_;simp only[go_sem,ie,cZ];exact aj.mk (by simp[aV]) hK
def Sz {L x:Int}(hc:0<=L)(h:0<=x/\x<L):setAt (ints (List.replicate L.toNat 0)) x.toNat [.lit (.int .i64 g)]=ints (ea g L x):=by
 rw[iQ (by simp;omega)];rfl
def SA (g L x:Int)(hc:L<=2 ^ 40)(h:0<=x/\x<L)(H:Zn)(K:Zt->Zn->Prop)(hK:K (.ret (af (ea g L x))) H):ae prog G0 144 [aa g,aa L,aa x] H K:=by
 refine ae.Z ⟨_,func144,rfl,rfl⟩ fun hcl=>?_;obtain⟨n,rfl⟩:=U2 (show 0<=L by omega);obtain⟨k,rfl⟩:=U2 h.1;have h0:((n:Int)) >= 0:=V
 have hk:(k:Int)<n:=h.2;have hk2:k+1<=n:=V
 refine ae.st (n:=15) (rs:=[.tmp 6]) func144 ?_;simp only[go_sem,hk]
 repeat (refine And.intro (by first|omega|(simp;done)|(simp;omega)|(intros;omega)|exact⟨rfl,V,V,kW _⟩) ?_)
 have e:=Sz (g:=g) (L:=n) (x:=k) V h;simp only[Int.toNat_natCast]at e;rw[show (List.replicate n (Zo.lit (Value.int IntKind.i64 0)))=ints (List.replicate n 0) by simp[ints,aa],e];refine aj.bH aF hcl (.ext _ _) ?_ hK;exact .ints Zm (cM ..) (by simp[ea]) fun i hi=>by simp[gX,hi]
def SB (a b:Zo)(H:Zn)(K:Zt->Zn->Prop)(hK:K (.ret (aa 0)) H):ae prog G0 107 [a,b] H K:=by
 refine ae.st (n:=5) (rs:=[.tmp 4]) func107 ?_;simp only[go_sem];exact aj.mk Zm hK
noncomputable def nC (p:Prop):Bool:=@decide p (Classical.propDecidable p)
def mm (h:p):nC p=true:=@decide_eq_true _ (Classical.propDecidable _) h
def oF (h:¬p):nC p=false:=@decide_eq_false _ (Classical.propDecidable _) h
def tI :nC p=true↔p:=@decide_eq_true_iff _ (Classical.propDecidable _)
structure ZK (d:Zq):Prop where
 n1:1<=d.C.length/\d.C.length<=8
 X:d.X >>> d.C.length=0
 L:∀x∈d.C,1<=x.L/\x.L<=4
 dec:∀v x,d.C[v]?=some x->d.X.testBit v=true->x.nb=[]/\bV x.F d.C.length
structure ZM (d:Zq):Prop where
 C:wH d.C
 X:d.X<2 ^ 64
 Y:(d.Y.length:Int)<2 ^ 38/\∀u∈d.Y,(u.vars.length:Int)<2 ^ 38/\(u.w.length:Int)<2 ^ 38
def SC (d:Zq)(hf:ZM d)(H:Zn)(K:Zt->Zn->Prop)(hK:K (.ret (.lit (.bool (nC (ZK d))))) H):ae prog G0 104 [dk d] H K:=by
 refine ae.Z ⟨_,func104,rfl,rfl⟩ fun hcl=>?_;have hl:=hf.C.1;have no:¬ZK d->∀H',Zs H H'->aj prog G0 H K (.lit (.bool false)) H':=fun h H' ov=>aj.bH aF hcl ov (.lit _) (by rw[oF h]at hK;exact hK);refine ae.st (n:=67) (rs:=[.cell 2 4]) func104 ?_;simp only[go_sem,ie,cZ];obtain⟨H1,hH1⟩:∃H1,H1=ext H [.J 0 38 (cZ d),.J 0 4 [.lit (.bool false)]]:=⟨_,rfl⟩
 have g1:=dp hH1
 have g2:=gE hH1 1 rfl
 have l1:=ag g1;have l2:=ag g2;have n1:H1.A=H.A+2:=hH1▸rfl
 have o1:Zs H H1:=hH1▸.ext _ _
 unfold cZ at hH1 l1;rw[<- hH1];have s1:=fun t x y=>iY (P:=prog) (t:=t) (x:=x) (y:=y) (k':=.i64) (s:=d.C.length) hf.X;by_cases c1:(d.C.length:Int)<1
 ·simp only[go_sem,l2,c1];exact no (fun h=>by have:=h.n1;omega) _ (o1.upd V _)
 by_cases c2:(d.C.length:Int) > 8
 ·simp only[go_sem,l1,l2,c1,c2];exact no (fun h=>by have:=h.n1;omega) _ (o1.upd V _)
 by_cases c3:d.X >>> d.C.length=0;rotate_left
 ·have c3':¬((d.X >>> d.C.length:Nat):Int)=0:=V
  simp only[go_sem,l1,l2,c1,c2,c3',s1];exact no (fun h=>c3 h.X) _ (o1.upd V _)
 have c3':((d.X >>> d.C.length:Nat):Int)=0:=V
 simp only[go_sem,l1,c1,c2,c3',s1];refine W.aS 4397509640208 (by rfl) (fun ρ H'=>∃k:Nat,ρ 29=aa k/\k<=d.C.length/\Zs H1 H'/\∀x∈d.C.take k,1<=x.L/\x.L<=4) (fun ρ H=>d.C.length-(iv (ρ 29)).toNat) ?_ ?_
 ·simp only[go_sem];exact⟨0,rfl,V,.refl _,Zj⟩
 rintro ρ H' ⟨k,h29,hk,ov,hall⟩;refine W.vs ?_;have ovn:=ov.A;have m1:=(ov.na (g:=0) (by omega:H.A<H1.A)).trans l1;have m2:=(ov.na (g:=0) (by omega:H.A+1<H1.A)).trans l2;by_cases hb:(k:Int)<d.C.length
 ·obtain⟨x,hx⟩:=aw (l:=d.C) (i:=k) V;have hxm:=an hx;have hne:=fM hx;have e0:=ot hx;have e1:k*3+3<=(aH d.C).length:=by rw[kq];omega
  have nb:¬H.A+1=H'.A:=V
  have m3:∀L,(ext H' L).na (H.A+1) 0=_:=fun L=>(eo V).trans m2;by_cases d1:x.L<1
  ·simp only[go_sem,h29,m3,hb,hne,e0,e1,d1];exact no (fun h=>by have:=h.L x hxm;omega) _ (((o1.trans ov).trans (.ext _ _)).upd V _)
  by_cases d2:x.L > 4
  ·simp only[go_sem,h29,m3,hb,hne,e0,e1,d1,d2];exact no (fun h=>by have:=h.L x hxm;omega) _ (((o1.trans ov).trans (.ext _ _)).upd V _)
  have w1:=UU ((k:Int)+1) V;simp only[go_sem,h29,hb,hne,e0,e1,d1,d2,w1];exact⟨V,⟨k+1,Zj,V,ov.trans (.ext _ _),fun y hy=>by
   rw[bd hx]at hy;rcases Vp.1 hy with hy|hy
   ·exact hall y hy
   ·obtain rfl:=List.mem_singleton.1 hy;exact⟨V,V⟩⟩,V⟩
 rw[UY V]at hall;simp only[go_sem,h29,hb,m1];refine ao.Z (Af d _ _ ⟨trivial,?_⟩);simp only[go_sem];obtain⟨H2,hH2⟩:∃H2,H2=ext H' [lG d]:=⟨_,rfl⟩
 rw[<- hH2];have o2:Zs H' H2:=by rw[hH2];exact .ext _ _
 have n2:H2.A=H'.A+1:=by rw[hH2];rfl
 have hbx:H2.get H'.A=some (lG d):=by rw[hH2];exact dZ
 refine W.env fun E hE=>?_;have e1:E 1=.O H.A 0 0:=by rw[hE];simp only[go_sem]
 have e2:E 2=.O (H.A+1) 0 0:=by rw[hE];simp only[go_sem]
 have i1:=(o2.na (g:=0) (by omega:H.A<H'.A)).trans m1;have i2:=(o2.nc _ (by omega:H.A+1<H'.A)).trans ((ov.nc _ V).trans g2);have o02:=(o1.trans ov).trans o2;refine W.rU (f:=109) (first:=[]) (cap:=[.O H'.A 0 0]) (by show E 43=_;rw[hE];rfl) (Ae d V hf.X H'.A)
  (fun k Hx=>Zs H2 Hx/\∀v x,v∈(aE d).take k->d.C[v]?=some x->x.nb=[]/\bV x.F d.C.length) (fun c Hx=>c=.ret/\Zs H Hx/\H2.A<=Hx.A/\Hx.get (H.A+1)=some (.J 0 4 [.lit (.bool false)])/\¬ZK d)
  (fun k Hx h=>by rw[h.1.nc _ V];exact hbx) (fun k Hx b h=>⟨h.1.upd Zm b,h.2⟩) (fun c Hx b h=>⟨h.1,h.2.1.upd V b,h.2.2.1,by rw[ah,UW V];exact h.2.2.2.1,h.2.2.2.2⟩)
  (fun b=>⟨.ext _ _,Zj⟩) Zk Ad (fun _ _ _=>trivial) (fun _ _ _=>trivial) (fun k y Hx B Bb hy hj hn hB hBb=>?_) (fun Hx hj hn=>?_) (fun Hx hs hn=>?_) (fun i Hx hs hn=>by cases hs.1)
 ·obtain⟨v,hv,rfl⟩:=wx hy;obtain⟨v1,v2,v3⟩:=q8 hv;obtain⟨x,hx⟩:=aw (l:=d.C) (i:=v) v1;refine W.vs ?_;simp only[go_sem,jK,dq,mw,V1,Xj,WA,WJ,hB];obtain⟨H3,hH3⟩:∃H3,H3=Hx.upd H2.A Bb:=⟨_,rfl⟩
  rw[<- hH3];obtain⟨st,pd,n',en,ps',as',bo,hBe⟩:=hBb;have o3:Zs H2 H3:=by rw[hH3];exact hj.1.upd Zm Bb
  have o4:Zs H H3:=o02.trans o3;have n3:H3.A=Hx.A:=by rw[hH3];rfl
  have j1:=(o3.na (g:=0) (by omega:H.A<H2.A)).trans i1;have j2:=ag ((o3.nc _ (by omega:H.A+1<H2.A)).trans i2);have jB:H3.get H2.A=some Bb:=by rw[hH3,ah,UX rfl]
  have hxm:=an hx;obtain⟨f1,f2,f3⟩:=hf.C.2 x hxm;have hne:=fM hx;have e1':=mP hx;have e2':=DI hx;have hvn:(v:Int)<d.C.length:=V
  have stop:¬ZK d->(H3.upd (H.A+1) (Zu.J 0 4 [.lit (.bool false)])).get H2.A=some Bb/\Hx.A<=(H3.upd (H.A+1) (Zu.J 0 4 [.lit (.bool false)])).A/\Zs H (H3.upd (H.A+1) (Zu.J 0 4 [.lit (.bool false)])) /\
    H2.A<=(H3.upd (H.A+1) (Zu.J 0 4 [.lit (.bool false)])).A/\(H3.upd (H.A+1) (Zu.J 0 4 [.lit (.bool false)])).get (H.A+1)=some (.J 0 4 [.lit (.bool false)])/\¬ZK d:=fun h =>
   ⟨by rw[ah,UW V];exact jB,by rw[aP];omega,o4.upd V _,by rw[aP];omega,by rw[ah,UX rfl],h⟩
  refine W.vs ?_;simp only[go_sem];refine W.dr 18 [0,1,0,7,15,31,63,127,255,511,1023,511,4095,8191,16383,511,33279,98815] mixed ?_;by_cases c4:(x.nb.length:Int) > 0
  ·simp only[go_sem,dq,e1,e2,j1,j2,hvn,hne,e2',c4,aZ,ij];exact stop fun h=>by have:=(h.dec v x hx v2).1;rw[this]at c4;simp at c4
  simp only[go_sem,dq,e1,j1,hvn,hne,e1',e2',c4,aZ];refine ao.Z (Fu x.F d.C.length V _ _ ⟨⟨_,_,_,_,_,_,_,by rw[jB,hBe]⟩,?_⟩);by_cases c5:bV x.F d.C.length;rotate_left
  ·simp only[go_sem,dq,e2,j2,c5,ij];exact stop fun h=>c5 (h.dec v x hx v2).2
  simp only[go_sem,dq,c5,ij];refine⟨jB,V,o3,fun u y hu hy2=>?_⟩;rw[bd hv]at hu;rcases Vp.1 hu with hu|hu
  ·exact hj.2 u y hu hy2
  ·obtain rfl:=List.mem_singleton.1 hu;rw[hx]at hy2;cases hy2;exact⟨U5 V,c5⟩
 ·have hok:ZK d:=⟨V,c3,hall,fun v x hx hb=>hj.2 v x (by
   rw[wy,Xy];exact jy.2 ⟨aO hx,hb⟩) hx⟩
  rw[mm hok]at hK;have j2:=ag ((hj.1.nc _ (by omega:H.A+1<H2.A)).trans i2);simp only[go_sem,e2,j2];exact aj.bH aF hcl ((o02.trans hj.1).upd V _) (.lit _) hK
 ·obtain⟨_,o4,n4,g4,hno⟩:=hs;have j2:=ag g4;simp only[go_sem,e2,j2];exact no hno _ o4
end Go.Proofs
namespace Go.Hx
variable {P:Program} {G:Nat->Option (List Zo)}
variable {cs:List Zo}{g k lo n nx ob rk z:Nat}{S:Nat->Prop}{e:TypeId}{v:Zo}{b:Zu}
def Zn.fE (H:Zn)(rk ob:Nat)(b:Zu):Zn:=⟨fun id=>if id=rk then none else if id=ob then some b else H.get id,H.A⟩
variable {H:Zn}
def Us (hc:Z6 H){cells cells':List Zo}(hob:H.get ob=some (.J g e cells))(hne:ob≠rk)(hl:cells'.length=cells.length)
  (hcell:∀i (h:i<cells.length) (h':i<cells'.length),Fz (fun id=>id=rk) H H.A cells[i] cells'[i]):Z7 (fun id=>id=rk) H (H.fE rk ob (.J g e cells')) where
 gone id hs:=by simp[Zn.fE,hs]
 kept id b hs hb:=by
  have hbb:=hc.below id b hb;refine⟨hc.lt id b hb,?_⟩;by_cases h:id=ob
  ·subst h;rw[hob]at hb;cases hb;exact⟨.J g e cells',by simp[Zn.fE,hs],rfl,rfl,hl,hcell⟩
  ·refine⟨b,by simp[Zn.fE,hs,h,hb],?_⟩;cases b with
   |nr=>trivial
   |mp=>rfl
   |J g e cells=>exact⟨rfl,rfl,rfl,fun i h _=>.dead (hbb i h)⟩
   |loop st pend n env ps asg body=>exact⟨rfl,rfl,rfl,rfl,rfl,rfl,rfl,fun t ht=>.dead (hbb t ht)⟩
 none id hs hb:=by
  by_cases h:id=ob
  ·subst h;rw[hob]at hb;cases hb
  ·simp[Zn.fE,hs,h,hb]
theorem eP.fE (hG:fu G){s:St}{cells cells':List Zo}(hob:s.H.get ob=some (.J g e cells))(hne:ob≠rk)(hl:cells'.length=cells.length)
  (hcell:∀i (h:i<cells.length) (h':i<cells'.length),Fz (fun id=>id=rk) s.H s.H.A cells[i] cells'[i]):eP P G s ⟨s.ρ,s.H.fE rk ob (.J g e cells')⟩:=by
 intro n wb Γ a w hs;exact eP.freeze (s:=s) (s':=⟨s.ρ,s.H.fE rk ob (.J g e cells')⟩) hG (Us hs.heap.Z hob hne hl hcell) (fun t=>.dead (hs.env t).sJ) n wb Γ a w hs
def Ut {A B:List Zo}{o o':Zo}(hA:∀v,v∈A->Fz S H nx v v)(ho:Fz S H nx o o')(hB:∀v,v∈B->Fz S H nx v v):
  ∀i (h:i<(A++o :: B).length) (h':i<(A++o' :: B).length),Fz S H nx (A++o :: B)[i] (A++o' :: B)[i]:=by
 induction A with
 |nil =>
  intro i h h';cases i with
  |zero=>exact ho
  |succ i=>exact hB _ (VU (l:=B) (by simpa using h))
 |cons a A ih =>
  intro i h h';cases i with
  |zero=>exact hA a (Zj)
  |succ i=>exact ih (fun v hv=>hA v (by simp[hv])) i (by simpa using h) (by simpa using h')
def xc (h:ob≠rk):(H.fE rk ob b).get ob=some b:=by simp[Zn.fE,h]
def my {id:Nat}(h:id≠rk)(h2:id≠ob):(H.fE rk ob b).get id=H.get id:=by simp[Zn.fE,h,h2]
def AD {l:List Zo}{i:Nat}{a b:Zo}(hl:∀v,v∈l->Fz S H nx v v)(hab:Fz S H nx a b):∀j (h:j<(l.set i a).length) (h':j<(l.set i b).length),Fz S H nx (l.set i a)[j] (l.set i b)[j]:=by
 intro j h h';rw[Yc,Yc];split
 ·exact hab
 ·exact hl _ (VU _)
def W.xd {rd:Option Nat}{Q Q':AX->St->Prop}{c:Code}{s:St}(h:W P G n rd c Q' s)(hw:∀e s2,Q' e s2->∃s3,eP P G s2 s3/\s2.H.A<=s3.H.A/\fG s3.H rd/\Q e s3):W P G n rd c Q s:=by
 intro wb Γ a w rb hs hr;refine wpIn_mono (h wb Γ a w rb hs hr) fun e a' w' hp=>?_;obtain⟨x,s',Γ',hx,hq,hrel,E,hn,hrd,hfr⟩:=hp;obtain⟨s3,hw3,hn3,hri,hq3⟩:=hw x s' hq;obtain⟨Γ3,hs3,E3,hrd3⟩:=hw3 n wb Γ' a' w' hrel;exact⟨x,s3,Γ3,hx,hq3,hs3,E.trans hn E3,VC hn hn3,hrd3 rd rb hrd hri,hfr⟩
def aJ.ne (h:aJ lo H e v cs)(hk:k<lo):∀g n,v≠.U k g 0 n 1:=fun g n he=>by
 rcases h with ⟨h,_⟩|⟨i2,g2,a1,_,h,_⟩
 ·rw[h]at he;cases he
 ·rw[h]at he;have:=Zo.U.inj he;omega
def fm (lo:Nat)(H:Zn)(e:TypeId)(z:Nat)(v:Zo)(n:Nat)(cs:List Zo):Prop :=
 (v=.lit (.slice none 0 0)/\n=0/\cs=[])\/∃id g,lo<=id/\id<H.A/\v=.U id g 0 n z/\cs.length=n*z/\H.get id=some (.J g e cs)
def fm.nil :fm lo H e z (.lit (.slice none 0 0)) 0 []:=.inl ⟨rfl,rfl,rfl⟩
variable {H':Zn}
def fm.ng (h:fm lo H e z v n cs)(hn:H.A<=H'.A)(hk:∀id g,lo<=id->id<H.A->v=.U id g 0 n z->H'.get id=H.get id):fm lo H' e z v n cs:=by
 rcases h with h|⟨id,g,h1,h2,h3,h4,h5⟩
 ·exact .inl h
 ·exact .inr ⟨id,g,h1,V,h3,h4,(hk id g h1 h2 h3).trans h5⟩
def fm.over (h:fm lo H e z v n cs)(ho:Zs H H'):fm lo H' e z v n cs:=h.ng ho.A fun id _ _ h2 _=>ho.nc id h2
theorem fm.one (h:fm lo H e z v n cs):v.one=true:=by
 rcases h with ⟨rfl,_⟩|⟨_,_,_,_,rfl,_⟩<;>rfl
theorem fm.cells (h:fm lo H e z v n cs):v.cells=[v]:=by
 rcases h with ⟨rfl,_⟩|⟨_,_,_,_,rfl,_⟩<;>rfl
def fm.ne {m:Nat}(h:fm lo H e z v m cs)(hk:k<lo):∀g n,v≠.U k g 0 n z:=fun g n he=>by
 rcases h with ⟨h,_⟩|⟨i2,g2,a1,_,h,_⟩
 ·rw[h]at he;cases he
 ·rw[h]at he;have:=Zo.U.inj he;omega
def Gb {t:TypeId}{m:Nat}{xs:List Zo}{zs:List Zo}(ht:P.underlying t=some (.slice e))(hz:P.cellsOf e=z)(hzero:bS P e=some zs)(hx:xs.all Zo.one=true)(hxl:xs.length=z)
  (hb:(n+1)*P.bytesOf e<=2 ^ 46/\n+1<=2 ^ 46) (ho:fm lo H e z v n cs) (hlo:lo<=H.A) (hn:m=H.A+1):
  ∃v' H',bU P (ext H [.J 0 e xs]) m t t v (.U H.A 0 0 1 z)=some (v',H')/\fm lo H' e z v' (n+1) (cs++xs)/\H.A<=H'.A/\(∀k,k<H.A->(∀g n,v≠.U k g 0 n z)->H'.get k=H.get k):=by
 have hne:(ext H [.J 0 e xs]).A=H.A+1:=rfl;have hsrc:dc (ext H [.J 0 e xs]) z (.U H.A 0 0 1 z)=some (1,xs):=by
  unfold dc;have:=ag (H:=ext H [.J 0 e xs]) (g:=0) (dZ (b:=.J 0 e xs));simp[this,<- hxl]
 rcases ho with ⟨rfl,rfl,rfl⟩|⟨i,g,h1,h2,rfl,h4,h5⟩
 ·refine⟨.U m 0 0 1 z,ext (ext H [.J 0 e xs]) [.J 0 e xs],?_,.inr ⟨m,0,V,by rw[aV,hne,hn];simp,Zj,by simp[hxl],?_⟩,by rw[aV,hne];omega,fun k hk _=>?_⟩
  ·unfold bU;rw[ht];simp only[hzero,hz,Option.bind_some];rw[hsrc];simp only[Option.bind_some];rw[UW Zk,UX (by simpa using hb),uR (by rw[hn,hne])];rfl
  ·rw[hn,<- hne];exact dZ
  ·rw[dz (by rw[hne];omega),dz hk]
 ·have h5':(ext H [.J 0 e xs]).get i=some (.J g e cs):=by rw[dz h2];exact h5
  refine⟨.U i (g+1) 0 (n+1) z,(ext H [.J 0 e xs]).upd i (.J (g+1) e (cs++xs)),?_,.inr ⟨i,g+1,h1,by rw[aP,hne];omega,rfl,by simp[h4,hxl,VD],by rw[ah,UX rfl]⟩,by rw[aP,hne];omega,fun k hk hne2=>?_⟩
  ·unfold bU;rw[ht];have hl:=ag h5';simp only[hzero,hz,Option.bind_some];rw[hsrc];simp only[Option.bind_some,hl];rw[UX ⟨trivial,trivial,V,hb.1,hb.2,hx⟩];simp
  ·rw[ah,UW,dz hk];rintro rfl;exact hne2 _ _ rfl
end Go.Hx
namespace Go.Proofs
open Go.Hx Tryz
variable {cs:List Zo}{i n nx v:Nat}{S e:Nat->Prop}{H H':Zn}{d:Zq}
def hZ (x:Zp):Zo:=if x.nb=[] then .lit (.slice none 0 0) else aZ x.nb
def Zp.gF (x:Zp):List Zo:=[aa x.L,af x.F,hZ x]
def bj (l:List Zp):List Zo:=(l.map Zp.gF).flatten
def mS (l:List Zp):(bj l).length=l.length*3:=mb (f:=Zp.gF) (fun _=>rfl) l
variable {l:List Zp}{x:Zp}
def rf (h:l[i]?=some x):(bj l)[i*3]?=some (aa x.L):=ko (f:=Zp.gF) (z:=3) (fun _=>rfl) l i 0 x h (V)
def pE (h:l[i]?=some x):(bj l)[i*3+1]?=some (af x.F):=ko (f:=Zp.gF) (z:=3) (fun _=>rfl) l i 1 x h (V)
def vJ (h:l[i]?=some x):(bj l)[i*3+2]?=some (hZ x):=ko (f:=Zp.gF) (z:=3) (fun _=>rfl) l i 2 x h (V)
def Qx (l:List Zp)(x:Zp):bj (l++[x])=bj l++[aa x.L,af x.F,hZ x]:=by unfold bj;simp[Zp.gF]
def DP (h:l[i]?=some x):¬bj l=[]:=fun e=>by
 have:=rf h;rw[e]at this;simp at this
def Qy (l:List (List Int)):aZ l=.Q l.length (l.map af):=rfl
def DQ (h:x.nb=[]):hZ x=.lit (.slice none 0 0):=UX h
def zt (h:x.nb≠[]):hZ x=aZ x.nb:=UW h
variable {y:Zp}
def DR (h:l[i]?=some x)(hy:y.L=x.L/\y.F=x.F):bj (l.set i y)=setAt (bj l) (i*3+2) [hZ y]:=by
 have hi:=aO h;have hl:=mS l;rw[iW V];apply VG;intro p;rw[WE];have hp:p=(p / 3)*3+p % 3:=V
 by_cases hb:p / 3<l.length
 ·by_cases hpi:p / 3=i
  ·have e0:(l.set i y)[p / 3]?=some y:=(by rw[hpi,Vi hi]);have c3:p % 3=0\/p % 3=1\/p % 3=2:=V;rcases c3 with c|c|c
   ·rw[UW V,hp,c,Nat.add_zero,rf e0,rf (by rw[hpi];exact h),hy.1]
   ·rw[UW V,hp,c,pE e0,pE (by rw[hpi];exact h),hy.2]
   ·rw[UX V,UX V,hp,c,vJ e0]
  ·obtain⟨z,hz⟩:=aw hb;have e0:(l.set i y)[p / 3]?=some z:=(by rw[Vw V];exact hz);have c3:p % 3=0\/p % 3=1\/p % 3=2:=V;rcases c3 with c|c|c
   ·rw[UW V,hp,c,Nat.add_zero,rf e0,rf hz]
   ·rw[UW V,hp,c,pE e0,pE hz]
   ·rw[UW V,hp,c,vJ e0,vJ hz]
 ·rw[U3 (by rw[mS,Vm];omega),UW V,U3 V]
def Qz (x:Zp):Fz S H nx (hZ x) (aZ x.nb):=by
 unfold hZ;split
 ·rename_i h;rw[h];exact .nil
 ·exact .aZ _
def QA (x:Zp):Fz S H nx (hZ x) (hZ x):=by
 unfold hZ;split
 ·exact .lit _
 ·exact .aZ _
def zu :∀(l:List Zp) (i:Nat) (h:i<(bj l).length) (h':i<(aH l).length),Fz S H nx (bj l)[i] (aH l)[i]:=by
 intro l i h h';have hb:i / 3<l.length:=by rw[mS]at h;omega
 obtain⟨x,hx⟩:=aw hb;have hp:i=(i / 3)*3+i % 3:=V
 have g1:(bj l)[i]?=some (bj l)[i]:=UV h;have g2:(aH l)[i]?=some (aH l)[i]:=UV h';generalize (bj l)[i]=a at g1 ⊢;generalize (aH l)[i]=b at g2 ⊢;have c3:i % 3=0\/i % 3=1\/i % 3=2:=V
 rcases c3 with c|c|c
 ·rw[hp,c,Nat.add_zero,rf hx]at g1;rw[hp,c,Nat.add_zero,mO hx]at g2;cases g1;cases g2;exact .lit _
 ·rw[hp,c,pE hx]at g1;rw[hp,c,mP hx]at g2;cases g1;cases g2;exact .dW _
 ·rw[hp,c,vJ hx]at g1;rw[hp,c,DI hx]at g2;cases g1;cases g2;exact Qz x
def zw (l:List Zp):∀c∈bj l,Fz S H nx c c:=by
 intro c hc;unfold bj at hc;obtain⟨r,hr,hc⟩:=Xz.1 hc;obtain⟨x,_,rfl⟩:=Vb.1 hr;unfold Zp.gF at hc;simp only[List.mem_cons,List.not_mem_nil,or_false]at hc;rcases hc with rfl|rfl|rfl
 ·exact .lit _
 ·exact .dW _
 ·exact QA x
structure ZI (e:Nat->Prop)(ns:List Zp)(cs:List Zo):Prop where
 len:cs.length=ns.length*3
 node:∀(v:Nat) (x:Zp),ns[v]?=some x->∃rv,cs[v*3]?=some (aa x.L)/\cs[v*3+1]?=some (af x.F)/\cs[v*3+2]?=some rv/\(rv=aZ x.nb\/rv=hZ x)/\(e v->rv=hZ x)
variable {ns:List Zp}
def ZI.c0 (h:ZI e ns cs)(hx:ns[v]?=some x):cs[v*3]?=some (aa x.L):=(h.node v x hx).elim fun _ h=>h.1
def ZI.c1 (h:ZI e ns cs)(hx:ns[v]?=some x):cs[v*3+1]?=some (af x.F):=(h.node v x hx).elim fun _ h=>h.2.1
def ZI.ne (h:ZI e ns cs)(hx:ns[v]?=some x):¬cs=[]:=fun he=>by
 have:=h.c0 hx;rw[he]at this;simp at this
def ZI.part (h:ZI e ns cs)(hx:ns[v]?=some x):∃rv,(cs.drop (v*3)).take 3=[aa x.L,af x.F,rv]/\cs[v*3+2]?=some rv/\(rv=aZ x.nb\/rv=hZ x)/\(e v->rv=hZ x):=by
 obtain⟨rv,a,b,c,d,f⟩:=h.node v x hx;refine⟨rv,?_,c,d,f⟩;have h3:=aO c;rw[VT V,VT V,VT V];simp only[List.take_succ_cons,List.take_zero];rw[UV V]at a b c;rw[Option.some.inj a,Option.some.inj b,Option.some.inj c]
def ZI.nil :ZI e [] []:=⟨rfl,fun v x hx=>by simp at hx⟩
def ZI.mono {e':Nat->Prop}(h:ZI e ns cs)(he:∀v,e' v->e v):ZI e' ns cs:=⟨h.len,fun v x hx=>by
 obtain⟨r,a,b,c,d,f⟩:=h.node v x hx;exact⟨r,a,b,c,d,fun h=>f (he v h)⟩⟩
def tL {α:Type}{l:List α}{x:α}(h:l[i]?=some x):l.set i x=l:=by
 apply VG;intro j;rw[WE];split
 ·rename_i hj;subst hj;rw[UX (aO h),h]
 ·rfl
structure FiS (d:Zq)(fv:Zo)(H H':Zn)(nh:Zo)(n:Nat)(cs:List Zo):Prop where
 nx:H.A+4<=H'.A
 ov:Zs H H'
 b0:H'.get H.A=some (.J 0 38 [.lit (.int .i64 d.nl),.Q d.C.length (aH d.C),.lit (.int .u64 (d.X:Int)),.Q d.Y.length (bB d.Y)])
 b1:H'.get (H.A+1)=some (.J 0 180 [fv])
 b2:H'.get (H.A+2)=some (.J 0 90 [.lit (.int .i64 0),.lit (.slice none 0 0)])
 b3:H'.get (H.A+3)=some (.J 0 90 [.lit (.int .i64 d.nl),nh])
 nd:fm (H.A+4) H' 76 3 nh n cs
theorem FiS.over {fv:Zo}{H2:Zn}{nh:Zo}(h:FiS d fv H H' nh n cs)(o:Zs H' H2):FiS d fv H H2 nh n cs where
 nx:=VC h.nx o.A
 ov:=h.ov.trans o
 b0:=(o.nc _ (by have:=h.nx;omega)).trans h.b0
 b1:=(o.nc _ (by have:=h.nx;omega)).trans h.b1
 b2:=(o.nc _ (by have:=h.nx;omega)).trans h.b2
 b3:=(o.nc _ (by have:=h.nx;omega)).trans h.b3
 nd:=h.nd.over o
def SH {v:Zo}{xs:List Zo}(hx:xs.all Zo.one=true)(hxl:xs.length=3)(hn:n<2 ^ 38)(ho:fm (H.A+4) H' 76 3 v n cs)(hlo:H.A+4<=H'.A):
  ∃v' H2,bU prog (ext H' [.J 0 76 xs]) (H'.A+1) 35 35 v (.U H'.A 0 0 1 3)=some (v',H2)/\fm (H.A+4) H2 76 3 v' (n+1) (cs++xs)/\H'.A<=H2.A/\(∀k,k<H'.A->(∀g n,v≠.U k g 0 n 3)->H2.get k=H'.get k) :=
 Gb Tryz.underlying35 Tryz.CK Tryz.CM hx hxl (by rw[Tryz.CL];omega) ho hlo rfl
def Fm {lo:Nat}{v:Zo}{l:List Zo}(x:Zo)(hx:x.one=true)(h:aJ lo H' 72 v l)(hlo:lo<=H'.A)(hl:l.length<2 ^ 40):
  ∃v' H2,bU prog (ext H' [.J 0 72 [x]]) (H'.A+1) 74 74 v (.U H'.A 0 0 1 1)=some (v',H2)/\aJ lo H2 72 v' (l++[x])/\H'.A<=H2.A/\(∀k,k<H'.A->(∀g n,v≠.U k g 0 n 1)->H2.get k=H'.get k) :=
 jL (P:=prog) (H:=H') (t:=74) (x:=x) (n:=H'.A+1) Tryz.underlying74 Tryz.yV Tryz.yX hx (by rw[Tryz.yW];omega) h hlo rfl
def SI (d:Zq)(hf:ZM d)(hR:ZK d)(c:Nat->Nat->Int)(fv:Zo)(rs:List Nat)(H:Zn)(hrs:∀i∈rs,i<H.A)(hfc:fv.cells=[fv])(hfo:fv.one=true)
  (hfv:∀p r v x H1,(aE d)[p]?=some v->d.C[v]?=some x->r<cr d.C x->Zs H H1->(0<=c p r/\c p r<x.L)/\bF prog G0 fv [.lit (.int .i64 p),.lit (.int .i64 r)] H1 (.lit (.int .i64 (c p r))) rs)
  (K:Zt->Zn->Prop) (hK:K (.ret (eQ d.nl (df d c))) H):ae prog G0 106 [dk d,fv] H K:=by
 refine ae.Z ⟨_,func106,rfl,rfl⟩ fun hcl=>?_;have hl:=hf.C.1;have hn8:=hR.n1.2;refine ae.st (n:=91) (rs:=[.cell 4 90]) func106 ?_;simp only[go_sem,ie,cZ,hfc];obtain⟨Hb,hHb⟩:∃Hb,Hb=ext H [.J 0 38 [.lit (.int .i64 d.nl),.Q d.C.length (aH d.C),.lit (.int .u64 (d.X:Int)),.Q d.Y.length (bB d.Y)],.J 0 180 [fv],.J 0 90 [.lit (.int .i64 0),.lit (.slice none 0 0)],.J 0 90 [.lit (.int .i64 d.nl),.lit (.slice none 0 0)]]:=⟨_,rfl⟩
 rw[<- hHb];have R0:FiS d fv H Hb (.lit (.slice none 0 0)) 0 []:=by
  rw[hHb];exact⟨by simp[aV],.ext _ _,cM ..,bO H _ 1 Zj,bO H _ 2 Zj,bO H _ 3 Zj,.nil⟩
 have nb:Hb.A=H.A+4:=hHb▸rfl
 refine W.loop 4503599626323328 (by rfl) (fun ρ H'=>∃(k:Nat) (nh:Zo),ρ 20=aa k/\k<=d.C.length/\FiS d fv H H' nh k (bj (d.C.take k))) (fun ρ H=>d.C.length-(iv (ρ 20)).toNat) ?_ ?_
 ·simp only[go_sem];exact⟨0,_,rfl,V,R0⟩
 rintro ρ H' ⟨k,nh,h20,hk,R⟩;refine W.vs ?_;have rn:=R.nx;have q0:=ag R.b0;have q3:=ag R.b3;by_cases hb:(k:Int)<d.C.length
 ·obtain⟨x,hx⟩:=aw (l:=d.C) (i:=k) V;have hxm:=an hx;obtain⟨f1,f2,f3⟩:=hf.C.2 x hxm;have hne:=fM hx;have e0:=ot hx;have e1:k*3+3<=(aH d.C).length:=by rw[kq];omega
  simp only[go_sem,h20,hb,hne,e0,e1];refine W.dr 7 [0,1,0,4,12,31,0] mixed ?_;simp only[go_sem];refine⟨af x.F,[],bF.pure fun H2=>oI x.F V H2 _ ⟨rfl,rfl⟩,?_⟩;simp only[go_sem,Qy]
  repeat (refine And.intro (by first|omega|(simp;done)|(simp;omega)|(intros;omega)|exact⟨rfl,V,V,kW _⟩) ?_)
  obtain⟨H1,hH1⟩:∃H1,H1=ext (ext H' [.J 0 76 [.lit (.int .i64 x.L),.Q x.F.length (ints x.F),.Q x.nb.length (x.nb.map af)]]) [.J 0 76 [.lit (.int .i64 x.L),.Q x.F.length (ints x.F),.lit (.slice none 0 0)]]:=⟨_,rfl⟩
  have n1:H1.A=H'.A+2:=by rw[hH1];rfl
  have gA:H1.get H'.A=some (.J 0 76 [.lit (.int .i64 x.L),.Q x.F.length (ints x.F),.Q x.nb.length (x.nb.map af)]):=by rw[hH1,dz (by simp[aV])];exact dZ
  have gB:H1.get (H'.A+1)=some (.J 0 76 [.lit (.int .i64 x.L),.Q x.F.length (ints x.F),.lit (.slice none 0 0)]):=by rw[hH1];exact dZ (H:=ext H' [_])
  have o1:Zs H' H1:=by rw[hH1];exact(Zs.ext _ _).trans (.ext _ _)
  have lA:=ag gA;rw[hH1]at lA;simp only[go_sem,lA];rw[<- hH1];refine W.aS 35175782155264 (by rfl) (fun ρ' H2=>∃(j:Nat) (rh:Zo),ρ' 33=aa j/\j<=x.nb.length/\Zs H' H2/\H1.A<=H2.A/\H2.get (H'.A+1)=some (.J 0 76 [.lit (.int .i64 x.L),.Q x.F.length (ints x.F),rh])/\aJ (H'.A+2) H2 72 rh ((x.nb.take j).map af)/\(j=0->rh=.lit (.slice none 0 0))) (fun ρ' H=>x.nb.length-(iv (ρ' 33)).toNat) ?_ ?_
  ·simp only[go_sem];exact⟨0,_,rfl,V,o1,gB,.nil,fun _=>rfl⟩
  rintro ρ' H2 ⟨j,rh,h33,hj,o2,hn2,gB2,hrh,hrh0⟩;refine W.vs ?_;have o2n:=o2.A;have lB:=ag gB2;by_cases hb2:(j:Int)<x.nb.length
  ·obtain⟨r,hr⟩:=aw (l:=x.nb) (i:=j) V;have hrm:=an hr;have hrne:=bf hr;have w1:=UU ((j:Int)+1) V;simp only[go_sem,h33,hb2,hr,hrne];obtain⟨rh2,H3,hA,hO,hn3,hp⟩:=Fm (af r) rfl hrh V (by simp;omega);simp only[af]at hA;have hcells:=hO.cells;have hone:=hO.one;have g3:H3.get (H'.A+1)=some (.J 0 76 [.lit (.int .i64 x.L),.Q x.F.length (ints x.F),rh]):=(hp _ V (hrh.ne V)).trans gB2;have l3:=ag g3;refine W.dr 5 [0,1,0,4,12] mixed ?_;simp only[go_sem,lB];refine⟨af r,[],bF.pure fun H2=>oI r (by have:=f3 r hrm;omega) H2 _ ⟨rfl,rfl⟩,?_⟩;simp only[go_sem,h33,hA,l3,hcells,hone,w1]
   repeat (refine And.intro (by first|omega|(simp;done)|(simp;omega)|(intros;omega)|exact⟨rfl,V,V,kW _⟩) ?_)
   have o3:Zs H' H3:=⟨V,fun id h=>(hp id V (hrh.ne V)).trans (o2.nc id h)⟩
   refine⟨by rw[aP];omega,⟨j+1,rh2,Zj,V,o3.upd V _,by rw[aP];omega,by rw[ah,UX rfl],?_,V⟩,V⟩;have e:(x.nb.take (j+1)).map af=(x.nb.take j).map af++[af r]:=(by rw[bd hr];simp);rw[e];exact hO.ng Zm (by rw[aP];omega) fun id g h1 _ _ _=>by rw[ah,UW V]
  ·rw[UY V]at hrh;have R2:=R.over o2;have q3b:=ag R2.b3;obtain⟨nh2,H3,hA,hO,hn3,hp⟩:=SH (H:=H) (H':=H2) (v:=nh) (n:=k) (xs:=[.lit (.int .i64 x.L),.Q x.F.length (ints x.F),rh]) (by rw[List.all_cons,List.all_cons,List.all_cons,hrh.one];rfl) rfl V R2.nd (by have:=R2.nx;omega);have r2n:=R2.nx;have fr:∀id,id<H.A+4->H3.get id=H2.get id:=fun id h=>hp id V (R2.nd.ne h);have g3:H3.na (H.A+3) 0=some (90,[.lit (.int .i64 d.nl),nh]):=ag ((fr _ V).trans R2.b3);have hcells:=hO.cells;have hone:=hO.one;have hrc:=hrh.cells;have hro:=hrh.one;have w1:=UU ((k:Int)+1) V;simp only[go_sem,h20,h33,hb2,lB,q3b,hA,g3,hcells,hone,w1];obtain⟨H4,hH4⟩:∃H4,H4=H3.upd (H.A+3) (.J 0 90 [.lit (.int .i64 d.nl),nh2]):=⟨_,rfl⟩
   rw[<- hH4];refine(fun (h:∀E:Env,E 20=aa ((k:Int)+1)->∃s₃:St,eP prog G0 ⟨E,H4⟩ s₃/\Hb.A<=s₃.H.A/\(∃(k:Nat) (nh:Zo),s₃.ρ 20=aa k/\k<=d.C.length/\FiS d fv H s₃.H nh k (bj (d.C.take k)))/\d.C.length-(iv (s₃.ρ 20)).toNat<d.C.length-k)=>h _ (by simp only[go_sem])) fun E hE20=>?_;have n4:H4.A=H3.A:=(by rw[hH4];rfl);obtain⟨nb2,gn,b1,b2,rfl,b4,b5⟩:∃id g,H.A+4<=id/\id<H3.A/\nh2=.U id g 0 (k+1) 3/\(bj (d.C.take k)++[.lit (.int .i64 x.L),.Q x.F.length (ints x.F),rh]).length=(k+1)*3/\H3.get id=some (.J g 76 (bj (d.C.take k)++[.lit (.int .i64 x.L),.Q x.F.length (ints x.F),rh])):=by
    rcases hO with ⟨_,h,_⟩|h
    ·omega
    ·exact h
   have c0:∀id,id<H.A+3->H4.get id=H2.get id:=fun id h=>by rw[hH4,ah,UW V];exact fr id (V)
   have c3:H4.get (H.A+3)=some (.J 0 90 [.lit (.int .i64 d.nl),.U nb2 gn 0 (k+1) 3]):=(by rw[hH4,ah,UX rfl]);have c5:H4.get nb2=some (.J gn 76 (bj (d.C.take k)++[.lit (.int .i64 x.L),.Q x.F.length (ints x.F),rh])):=(by rw[hH4,ah,UW V];exact b5);have e5:bj (d.C.take (k+1))=bj (d.C.take k)++[aa x.L,af x.F,hZ x]:=(by rw[bd hx,Qx]);by_cases hr0:x.nb=[]
   ·have hrn:rh=.lit (.slice none 0 0):=hrh0 (by rw[hr0]at hj;simpa using hj);subst hrn;refine⟨⟨E,H4⟩,eP.refl _,by show Hb.A<=H4.A;omega,⟨k+1,.U nb2 gn 0 (k+1) 3,hE20.trans Zj,V,⟨by show _<=H4.A;omega,⟨by have:=R2.ov.A;show _<=H4.A;omega,fun id h=>(c0 id V).trans (R2.ov.nc id h)⟩,(c0 _ V).trans R2.b0,(c0 _ V).trans R2.b1,(c0 _ V).trans R2.b2,c3,.inr ⟨nb2,gn,b1,by show _<H4.A;omega,rfl,?_,?_⟩⟩⟩,?_⟩
    ·rw[mS];simp;omega
    ·show H4.get nb2=_;rw[e5,DQ hr0];exact c5
    ·show _-(iv (E 20)).toNat<_;rw[hE20];simp only[aa,bh];omega
   ·obtain⟨rk,gr,r1,r2,rfl,r4⟩:∃id g,H'.A+2<=id/\id<H2.A/\rh=.U id g 0 (x.nb.map af).length 1/\H2.get id=some (.J g 72 (x.nb.map af)):=by
     rcases hrh with ⟨_,h⟩|h
     ·simp at h;exact absurd h hr0
     ·exact h
    have nhne:∀g n,nh≠.U rk g 0 n 3:=fun g n he=>by
     rcases R.nd with ⟨h,_⟩|⟨i,g2,_,h,h2,_⟩
     ·rw[h]at he;cases he
     ·rw[h2]at he;have:=Zo.U.inj he;omega
    have c6:H4.get rk=some (.J gr 72 (x.nb.map af)):=(by rw[hH4,ah,UW V,hp rk r2 nhne];exact r4);have hne2:nb2≠rk:=by
     rintro rfl;rw[c5]at c6;have:=(Zu.J.inj (Option.some.inj c6)).2.1;exact absurd this (Zk)
    have e6:∀c:Zo,bj (d.C.take k)++[.lit (.int .i64 x.L),.Q x.F.length (ints x.F),c]=(bj (d.C.take k)++[.lit (.int .i64 x.L),.Q x.F.length (ints x.F)])++c :: []:=fun c=>Zj
    rw[e6]at c5;have e7:bj (d.C.take (k+1))=(bj (d.C.take k)++[.lit (.int .i64 x.L),.Q x.F.length (ints x.F)])++aZ x.nb :: []:=(by rw[e5,zt hr0,<- e6];rfl);refine⟨⟨E,H4.fE rk nb2 (.J gn 76 ((bj (d.C.take k)++[.lit (.int .i64 x.L),.Q x.F.length (ints x.F)])++aZ x.nb :: []))⟩,eP.fE (s:=⟨E,H4⟩) aF c5 hne2 Zj (Ut (fun c hc=>?_) ?_ fun c hc=>by cases hc),by show Hb.A<=H4.A;omega,
     ⟨k+1,.U nb2 gn 0 (k+1) 3,hE20.trans Zj,V,⟨by show _<=H4.A;omega,⟨by have:=R2.ov.A;show _<=H4.A;omega,fun id h=>(my V V).trans ((c0 id V).trans (R2.ov.nc id h))⟩,(my V V).trans ((c0 _ V).trans R2.b0),(my V V).trans ((c0 _ V).trans R2.b1),(my V V).trans ((c0 _ V).trans R2.b2),(my V V).trans c3,.inr ⟨nb2,gn,b1,by show _<H4.A;omega,rfl,?_,?_⟩⟩⟩,?_⟩
    ·rcases Vp.1 hc with hc|hc
     ·exact zw _ c hc
     ·simp only[List.mem_cons,List.not_mem_nil,or_false]at hc;rcases hc with rfl|rfl
      ·exact .lit _
      ·exact .dW _
    ·show Fz (fun id=>id=rk) H4 _ _ _;rw[show aZ x.nb=.Q (x.nb.map af).length (x.nb.map af) by simp[aZ]];refine .nA (S:=fun id=>id=rk) rfl c6 (by rw[Nat.mul_one]) fun j hj h2 h'=>?_;simp only[Nat.zero_add,Ve];exact .dW _
    ·rw[mS];simp;omega
    ·rw[e7];exact xc hne2
    ·show _-(iv (E 20)).toNat<_;rw[hE20];simp only[aa,bh];omega
 have ek:k=d.C.length:=V
 subst ek;rw[UY Zm]at R;obtain⟨nbk,gn,b1,b2,rfl,b4,b5⟩:∃id g,H.A+4<=id/\id<H'.A/\nh=.U id g 0 d.C.length 3/\(bj d.C).length=d.C.length*3/\H'.get id=some (.J g 76 (bj d.C)):=by
  rcases R.nd with ⟨_,h,_⟩|h
  ·have:=hR.n1.1;omega
  ·exact h
 simp only[go_sem,h20,hb,q0];refine ao.Z (Af d _ _ ⟨trivial,?_⟩);simp only[go_sem];obtain⟨H2,hH2⟩:∃H2,H2=ext H' [lG d]:=⟨_,rfl⟩
 rw[<- hH2];have o2:Zs H' H2:=by rw[hH2];exact .ext _ _
 have n2:H2.A=H'.A+1:=by rw[hH2];rfl
 have hbx:H2.get H'.A=some (lG d):=by rw[hH2];exact dZ
 refine W.env fun E hE=>?_;have e2:E 2=.O H.A 0 0:=by rw[hE];simp only[go_sem]
 have e3:E 3=.O (H.A+1) 0 0:=by rw[hE];simp only[go_sem]
 have e4:E 4=.O (H.A+2) 0 0:=by rw[hE];simp only[go_sem]
 have e5:E 5=.O (H.A+3) 0 0:=by rw[hE];simp only[go_sem]
 let F:Nat->List Zo->Zn->Prop:=fun lo cs Hx=>lo<=Hx.A/\(∀id,id<H2.A->id≠nbk->Hx.get id=H2.get id)/\Hx.get nbk=some (.J gn 76 cs)
 refine W.rU (f:=109) (first:=[]) (cap:=[.O H'.A 0 0]) (by show E 53=_;rw[hE];rfl) (Ae d V hf.X H'.A)
  (fun k Hx=>F H2.A (bj (ee d c k)) Hx) (fun _ _=>False)
  (fun k Hx h=>by rw[h.2.1 _ V V];exact hbx) (fun k Hx b h=>⟨h.1,fun id h1 h2=>by rw[ah,UW V];exact h.2.1 id h1 h2,by rw[ah,UW V];exact h.2.2⟩) (fun _ _ _ h=>h)
  (fun b=>⟨by rw[aV];omega,fun id h1 h2=>dz h1,by rw[dz V,Qu];exact(o2.nc _ b2).trans b5⟩) Zk Ad (fun _ _ _=>trivial) (fun _ _ _=>trivial) (fun k y Hx B Bb hy hj hn hB hBb=>?_) (fun Hx hj hn=>?_) (fun Hx hs hn=>hs.elim) (fun i Hx hs hn=>hs.elim)
 ·obtain⟨v,hv,rfl⟩:=wx hy;obtain⟨v1,v2,v3⟩:=q8 hv;obtain⟨x,hx⟩:=aw (l:=d.C) (i:=v) v1;have hxm:=an hx;obtain⟨x1,x2⟩:=hR.dec v x hx v2;refine W.vs ?_;simp only[go_sem,jK,dq,mw,V1,Xj,WA,WJ,hB];obtain⟨H3,hH3⟩:∃H3,H3=Hx.upd H2.A Bb:=⟨_,rfl⟩
  rw[<- hH3];obtain⟨st,pd,n',en,ps',as',bo,hBe⟩:=hBb;have n3:H3.A=Hx.A:=by rw[hH3];rfl
  have hj3:F H2.A (bj (ee d c k)) H3:=by rw[hH3];exact⟨hj.1,fun id h1 h2=>by rw[ah,UW V];exact hj.2.1 id h1 h2,by rw[ah,UW V];exact hj.2.2⟩
  have jB:H3.get H2.A=some Bb:=by rw[hH3,ah,UX rfl]
  refine W.en (fun E1=>E1 2=.O H.A 0 0 /\ E1 3=.O (H.A+1) 0 0 /\ E1 5=.O (H.A+3) 0 0 /\ E1 11=aa k /\ E1 12=aa v) (by simp only[go_sem,dq,e2,e3,e5]) fun E1 ⟨m2,m3,m5,m11,m12⟩=>?_
  have hvn:(v:Int)<d.C.length:=V
  have s2:=R.over o2;have oldH:∀ {Hy:Zn},(∀id,id<H2.A->id≠nbk->Hy.get id=H2.get id)->Hy.na H.A 0=some (38,[.lit (.int .i64 d.nl),.Q d.C.length (aH d.C),.lit (.int .u64 (d.X:Int)),.Q d.Y.length (bB d.Y)])/\Hy.na (H.A+1) 0=some (180,[fv])/\Hy.na (H.A+3) 0=some (90,[.lit (.int .i64 d.nl),.U nbk gn 0 d.C.length 3]):=fun h =>
   ⟨ag ((h _ V V).trans s2.b0),ag ((h _ V V).trans s2.b1),ag ((h _ V V).trans s2.b3)⟩
  obtain⟨k0,k1,k3⟩:=oldH hj3.2.1;have ps:=oJ hn8 x2 hR.L;have hpm:=rM (ns:=d.C) (x:=x) (fun q hq=>by have:=x2.2 q hq;omega) hR.L;have hpp:1<=aB (aT d.C x):=fV fun c hc=>(hpm c hc).1;have hpb:=ps.prod;have hrn:((cr d.C x:Nat):Int)=aB (aT d.C x):=by unfold cr;omega
  have hlk:(ee d c k)[v]?=some x:=by rw[ow hx];unfold gM;rw[UW V]
  have el:=mS (ee d c k);have hvk:v*3+2<(bj (ee d c k)).length:=by rw[el,lh];omega
  refine W.xd (Q':=fun e s2=>e=.normal/\∃rh,F H3.A (setAt (bj (ee d c k)) (v*3+2) [rh]) s2.H/\s2.H.get H2.A=some Bb/\aJ H3.A s2.H 72 rh ((List.range (cr d.C x)).map fun r=>af (ea d.nl x.L (c k r)))) ?_ ?_;rotate_left
  ·rintro e sx ⟨rfl,rh,hF,jBx,hrh⟩;obtain⟨rk,gr,r1,r2,rfl,r4⟩:∃id g,H3.A<=id/\id<sx.H.A/\rh=.U id g 0 ((List.range (cr d.C x)).map fun r=>af (ea d.nl x.L (c k r))).length 1/\sx.H.get id=some (.J g 72 ((List.range (cr d.C x)).map fun r=>af (ea d.nl x.L (c k r)))):=by
    rcases hrh with ⟨_,h⟩|h
    ·have:cr d.C x=0:=(by simpa using h);omega
    ·exact h
   have hfs:=Qv (c:=c) hv hx;have edr:dD d.nl d.C c k x=(List.range (cr d.C x)).map fun r=>ea d.nl x.L (c k r):=rfl;have ey:hZ { x with nb:=x.nb++dD d.nl d.C c k x }=.Q ((List.range (cr d.C x)).map fun r=>af (ea d.nl x.L (c k r))).length ((List.range (cr d.C x)).map fun r=>af (ea d.nl x.L (c k r))):=by
    have hne:x.nb++dD d.nl d.C c k x≠[]:=by
     rw[x1,edr,List.nil_append];intro h;have:cr d.C x=0:=(by simpa using h);omega
    rw[zt hne];show aZ (x.nb++_)=_;rw[x1,edr,List.nil_append];simp[aZ,XD,Function.comp_def]
   have hob:=hF.2.2;rw[iW hvk]at hob;have hc2:bj (ee d c (k+1))=(bj (ee d c k)).set (v*3+2) (.Q ((List.range (cr d.C x)).map fun r=>af (ea d.nl x.L (c k r))).length ((List.range (cr d.C x)).map fun r=>af (ea d.nl x.L (c k r)))):=by
    rw[hfs,DR (y:={ x with nb:=x.nb++dD d.nl d.C c k x }) hlk ⟨rfl,rfl⟩,ey,iW hvk]
   have hne2:nbk≠rk:=(by have:=hj3.1;omega);refine⟨⟨sx.ρ,sx.H.fE rk nbk (.J gn 76 (bj (ee d c (k+1))))⟩,eP.fE aF hob hne2 (by rw[hc2,Vm,Vm]) ?_,Zm,⟨_,_,_,_,_,_,_,by rw[my V V,jBx,hBe]⟩,by rw[my V V];exact jBx,by show Hx.A<=sx.H.A;have:=hF.1;omega,
    ⟨by show H2.A<=sx.H.A;have:=hF.1;omega,fun id h1 h2=>(my V h2).trans (hF.2.1 id h1 h2),xc hne2⟩⟩
   rw[hc2];refine AD (zw _) ?_;refine .nA (S:=fun id=>id=rk) rfl r4 (by rw[Nat.mul_one]) fun j hj h2 h'=>?_;simp only[Nat.zero_add,Ve];exact .dW _
  refine W.vs ?_;simp only[go_sem,m2,m12,k0];refine ao.Z (Fw d.C v x hx (fun q hq=>by have:=x2.2 q hq;omega) ps _ _ ⟨⟨_,_,_,_,_,_,_,by rw[jB,hBe]⟩,?_⟩);rw[<- hrn];simp only[go_sem];refine W.aS 1237940038132458770292285440 (by rfl) (fun ρ2 H4=>∃(r:Nat) (rh:Zo),ρ2 60=aa r/\r<=cr d.C x/\F H3.A (setAt (bj (ee d c k)) (v*3+2) [rh]) H4/\H4.get H2.A=some Bb/\aJ H3.A H4 72 rh ((List.range r).map fun r=>af (ea d.nl x.L (c k r)))/\(r=0->rh=.lit (.slice none 0 0)))
   (fun ρ2 H=>cr d.C x-(iv (ρ2 60)).toNat) ?_ ?_
  ·simp only[go_sem];refine⟨0,.lit (.slice none 0 0),rfl,V,⟨Zm,hj3.2.1,?_⟩,jB,.nil,fun _=>rfl⟩;rw[show setAt (bj (ee d c k)) (v*3+2) [.lit (.slice none 0 0)]=bj (ee d c k) from by
    have:=DR (y:=x) hlk ⟨rfl,rfl⟩;rw[DQ x1]at this;rw[<- this];congr 1;exact tL hlk]
   exact hj3.2.2
  rintro ρ2 H4 ⟨r,rh,h60,hr,hF,jB4,hrh,hrh0⟩;refine W.en (fun E2=>E2 2=.O H.A 0 0 /\ E2 3=.O (H.A+1) 0 0 /\ E2 5=.O (H.A+3) 0 0 /\ E2 11=aa k /\ E2 12=aa v /\ E2 59=aa (cr d.C x) /\ E2 60=aa r) (by simp only[go_sem,m2,m3,m5,m11,m12,h60]) fun E2 ⟨i2,i3,i5,i11,i12,i59,i60⟩=>?_
  refine W.vs ?_;by_cases hb2:(r:Int)<cr d.C x
  ·obtain⟨k0,k1,k3⟩:=oldH hF.2.1;have kn:=ag hF.2.2;have hne:=fM hx;have ec:=mO hx;have w1:=UU ((r:Int)+1) V;obtain⟨cb,hpc⟩:=hfv k r v x H4 hv hx V ⟨V,fun id h=>(hF.2.1 id V V).trans (s2.ov.nc id h)⟩;have hs:(setAt (bj (ee d c k)) (v*3+2) [rh])[v*3+2]?=some rh:=(by rw[iW hvk,Vi hvk]);obtain⟨rh2,H5,hA,hO,hn5,hp⟩:=Fm (af (ea d.nl x.L (c k r))) rfl hrh hF.1 (by rw[Vh,Ww];omega);simp only[af]at hA;have hcells:=hO.cells;have hone:=hO.one;have hpr:bF prog G0 (.Z 144 [] []) [.lit (.int .i64 d.nl),.lit (.int .i64 x.L),.lit (.int .i64 (c k r))] H4 (af (ea d.nl x.L (c k r))) []:=bF.pure fun H2=>SA d.nl x.L (c k r) (by have:=hR.L x hxm;omega) cb H2 _ ⟨rfl,rfl⟩;have hrhs:rh=.lit (.slice none 0 0)\/∃i g n,rh=.U i g 0 n 1/\H3.A<=i/\i<H4.A:=by
    rcases hrh with ⟨h,_⟩|⟨i,g,h1,h2,h3,_⟩
    ·exact .inl h
    ·exact .inr ⟨i,g,_,h3,h1,h2⟩
   have hset:∀a b,setAt (setAt (bj (ee d c k)) (v*3+2) [a]) (v*3+2) [b]=setAt (bj (ee d c k)) (v*3+2) [b]:=fun a b=>by rw[iW hvk,iW (by rw[Vm];exact hvk),iW hvk,YC]
   have hslen:∀a,(setAt (bj (ee d c k)) (v*3+2) [a]).length=(bj (ee d c k)).length:=fun a=>by rw[iW hvk,Vm]
   have hg5:H5.get nbk=some (.J gn 76 (setAt (bj (ee d c k)) (v*3+2) [rh])):=(hp _ (by have:=hF.1;omega) (hrh.ne V)).trans hF.2.2;have kn5:=ag hg5;have ho5:∀id,id<H2.A->id≠nbk->H5.get id=H2.get id:=fun id h1 h2=>(hp _ (by have:=hF.1;omega) (hrh.ne V)).trans (hF.2.1 id h1 h2);have jB5:H5.get H2.A=some Bb:=(hp _ (by have:=hF.1;omega) (hrh.ne V)).trans jB4;obtain⟨hn34,-,-⟩:=hF;rcases rs with _|⟨b0,rs⟩<;>rcases hrhs with rfl|⟨i,g,n,rfl,hi1,hi2⟩
   all_goals
    simp only[go_sem,i60,i59,hb2];refine W.dr 24 [0,1,0,0,8,0,56,120,248,0,512,0,2048,0,14336,30720,63488,0,0,0,917504,2096640,4193792,8388600] mixed ?_;simp only[go_sem,i2,i3,i5,i11,i12,k0,k1,k3,kn,hvn,hne,ec,hs];refine⟨.lit (.int .i64 (c k r)),_,hpc,af (ea d.nl x.L (c k r)),[],hpr,?_⟩;simp only[go_sem,i2,i3,i5,i11,i12,i60,hvn,kn5,hA,hcells,hone,w1];refine⟨by repeat' (first|refine And.intro ?_ ?_|(intro x hx;omega)),by repeat' (first|refine And.intro ?_ ?_|(intro x hx;omega)),by rw[hslen];omega,by rw[aP];omega,⟨_,_,_,_,_,_,_,by rw[ah,UW V,jB5,hBe]⟩,
     ⟨r+1,rh2,Zj,V,⟨by rw[aP];omega,fun id h1 h2=>by rw[ah,UW h2];exact ho5 id h1 h2,by rw[ah,UX rfl,hset]⟩,by rw[ah,UW V];exact jB5,?_,V⟩,by rw[h60];simp only[aa,bh];omega⟩
    have e:((List.range (r+1)).map fun r=>af (ea d.nl x.L (c k r)))=((List.range r).map fun r=>af (ea d.nl x.L (c k r)))++[af (ea d.nl x.L (c k r))]:=(by rw[VH];simp);show aJ _ _ _ _ ((List.range (r+1)).map fun r=>af (ea d.nl x.L (c k r)));rw[e];exact hO.ng Zm (by rw[aP];omega) fun id g h1 _ _ _=>by rw[ah,UW V]
  ·have er:r=cr d.C x:=V;subst er;simp only[go_sem,i59,i60,hb2];exact⟨rh,hF,jB4,hrh⟩
 ·have s2:=R.over o2;have f4:=ag ((hj.2.1 _ V V).trans s2.b2);have f5:=ag ((hj.2.1 _ V V).trans s2.b3);simp only[go_sem,e4,e5,f4,f5];have ovx:Zs H Hx:=⟨V,fun id h=>(hj.2.1 id V V).trans (s2.ov.nc id h)⟩
  refine aj.bH (v':=eQ d.nl (df d c)) aF hcl (ovx.upd V _) (.agg rfl fun i hi _=>?_) hK
  match i,hi with
  |0,_=>exact .lit _
  |1,_ =>
   have hg:∀b,(Hx.upd (H.A+2) b).get nbk=some (.J gn 76 (bj (df d c))):=fun b=>by
    rw[ah,UW V];have:=hj.2.2;rw[wy]at this;exact this
   show Fz _ _ _ (.U nbk gn 0 d.C.length 3) (.Q (df d c).length (aH (df d c)));rw[show (df d c).length=d.C.length from lh _ _ _];refine .nA (by show H.A<=_;omega) (hg _) (by rw[kq];congr 1;exact lh _ _ _) fun j hj h2 h'=>?_;simp only[Nat.zero_add];exact zu _ j _ _
structure ZO (ns:List Zp)(u:ZC):Prop where
 vars:bV u.vars ns.length
 size:(u.w.length:Int)=aB (aL (au ns) u.vars)
 w:∀x∈u.w,-100<=x/\x<=100
def wB (d:Zq):Prop:=d.Y.length<=4/\∀u∈d.Y,ZO d.C u
def wC {vars:List Int}(h8:ns.length<=8)(hp:bV vars ns.length)(hc:∀y∈ns,1<=y.L/\y.L<=4):eW (aL (au ns) vars) :=
 oJ (x:=⟨0,vars,[]⟩) h8 hp hc
def SJ (d:Zq)(hf:ZM d)(h8:d.C.length<=8)(hc:∀y∈d.C,1<=y.L/\y.L<=4)(H:Zn)(K:Zt->Zn->Prop)(hK:K (.ret (.lit (.bool (nC (wB d))))) H):ae prog G0 108 [dk d] H K:=by
 refine ae.Z ⟨_,func108,rfl,rfl⟩ fun hcl=>?_;have hul:=hf.Y.1;have no:¬wB d->∀H',Zs H H'->aj prog G0 H K (.lit (.bool false)) H':=fun h H' ov=>aj.bH aF hcl ov (.lit _) (by rw[oF h]at hK;exact hK);refine ae.st (n:=74) (rs:=[.tmp 2]) func108 ?_;simp only[go_sem,ie,cZ];obtain⟨H1,hH1⟩:∃H1,H1=ext H [.J 0 38 [.lit (.int .i64 d.nl),.Q d.C.length (aH d.C),.lit (.int .u64 (d.X:Int)),.Q d.Y.length (bB d.Y)]]:=⟨_,rfl⟩
 have l1:H1.na H.A 0=some (38,[.lit (.int .i64 d.nl),.Q d.C.length (aH d.C),.lit (.int .u64 (d.X:Int)),.Q d.Y.length (bB d.Y)]):=by rw[hH1];exact ag (cM ..)
 have n1:H1.A=H.A+1:=hH1▸rfl
 have o1:Zs H H1:=hH1▸.ext _ _
 rw[<- hH1];refine W.aS 9444732965739290166632 (by rfl) (fun ρ H'=>∃k:Nat,ρ 18=aa k/\k<=d.Y.length/\Zs H1 H'/\ρ 3=.lit (.bool (decide ((d.Y.length:Int)<=4)))/\(0<k->d.Y.length<=4)/\∀u∈d.Y.take k,ZO d.C u) (fun ρ H=>d.Y.length-(iv (ρ 18)).toNat) ?_ ?_
 ·simp only[go_sem];exact⟨0,rfl,V,.refl _,V,Zj⟩
 rintro ρ H' ⟨k,h18,hk,ov,h3,hk4,hall⟩;refine W.en (fun E=>E 1=.O H.A 0 0 /\ E 3=.lit (.bool (decide ((d.Y.length:Int)<=4))) /\ E 16=.Q d.Y.length (bB d.Y) /\ E 17=aa d.Y.length /\ E 18=aa k) (by simp only[go_sem,h3,h18]) fun E ⟨e1,e3,e16,e17,e18⟩=>?_
 refine W.vs ?_;have ovn:=ov.A;have l2:=(ov.na (g:=0) (by omega:H.A<H1.A)).trans l1;by_cases hb:(k:Int)<d.Y.length;rotate_left
 ·rw[UY V]at hall;by_cases h4:(d.Y.length:Int)<=4
  ·simp only[go_sem,e3,e17,e18,hb,h4];rw[mm ⟨V,hall⟩]at hK;exact aj.bH aF hcl (o1.trans ov) (.lit _) hK
  ·simp only[go_sem,e3,e17,e18,hb,h4];exact no (fun h=>by have:=h.1;omega) _ (o1.trans ov)
 obtain⟨u,hu⟩:=aw (l:=d.Y) (i:=k) V;have hum:=an hu;obtain⟨f1,f2⟩:=hf.Y.2 u hum;have hne:=zm hu;have p0:=zk hu;have p1:k*2+2<=(bB d.Y).length:=by rw[zj];omega
 have ove:∀L,Zs H (ext H' L):=fun L=>(o1.trans ov).trans (.ext _ _);by_cases h4:(d.Y.length:Int)<=4;rotate_left
 ·simp only[go_sem,e3,e16,e17,e18,hb,h4,hne,p0,p1];exact no (fun h=>by have:=h.1;omega) _ (ove _)
 have l3:∀L,(ext H' L).na H.A 0=_:=fun L=>(eo V).trans l2;simp only[go_sem,e1,e3,e16,e17,e18,hb,h4,hne,p0,p1,l3];obtain⟨H2,hH2⟩:∃H2,H2=ext H' [.J 0 87 [.Q u.vars.length (ints u.vars),.Q u.w.length (ints u.w)]]:=⟨_,rfl⟩
 have m1:H2.na H'.A 0=some (87,[.Q u.vars.length (ints u.vars),.Q u.w.length (ints u.w)]):=by rw[hH2];exact ag dZ
 have m2:=l3 [.J 0 87 [.Q u.vars.length (ints u.vars),.Q u.w.length (ints u.w)]];rw[<- hH2]at m2;have n2:H2.A=H'.A+1:=by rw[hH2];rfl
 have ov2:Zs H H2:=by rw[hH2];exact ove _
 rw[<- hH2];refine ao.Z (Fu u.vars d.C.length V _ _ ⟨trivial,?_⟩);by_cases c1:bV u.vars d.C.length;rotate_left
 ·simp only[go_sem,c1];exact no (fun h=>c1 (h.2 u hum).vars) _ ov2
 have sm:=wC h8 c1 hc;have pl:(aL (au d.C) u.vars).length=u.vars.length:=jk _ _;have v8:=c1.len;simp only[go_sem,c1,m1];refine W.aS 562881233944896 (by rfl) (fun ρ' H3=>H3=H2/\∃j:Nat,ρ' 36=aa j/\j<=u.vars.length/\ρ' 6=aa (aB ((aL (au d.C) u.vars).take j))) (fun ρ' H=>u.vars.length-(iv (ρ' 36)).toNat) ?_ ?_
 ·simp only[go_sem];exact⟨0,rfl,V,by simp[iK]⟩
 rintro ρ' H3 ⟨rfl,j,h36,hj,h6⟩;refine W.vs ?_;by_cases hb2:(j:Int)<u.vars.length
 ·obtain⟨q,hq⟩:=aw (l:=u.vars) (i:=j) V;obtain⟨i,rfl,y,hy⟩:=mQ (l:=d.C) (c1.2 q (an hq)).1 (c1.2 q (an hq)).2;have hne2:=bf hq;have hne3:=fM hy;have ey:=mO hy;have hi:(i:Int)<d.C.length:=by have:=aO hy;omega
  have pk:(aL (au d.C) u.vars)[j]?=some y.L:=by rw[jY hq,Int.toNat_natCast,bK (cS hy)]
  have b1:=(sm.take (j+1)).prod;rw[bd pk,ji]at b1;have w1:=UU ((j:Int)+1) V;have w2:=UU (aB ((aL (au d.C) u.vars).take j)*y.L) V;simp only[go_sem,h36,h6,e1,m2,hb2,hq,hne2,hne3,hi,ey,w1,w2];exact⟨⟨j+1,Zj,V,by rw[bd pk,ji]⟩,V⟩
 rw[UY V]at h6;by_cases c2:(u.w.length:Int)=aB (aL (au d.C) u.vars);rotate_left
 ·simp only[go_sem,h36,h6,m1,hb2,c2];exact no (fun h=>c2 (h.2 u hum).size) _ ov2
 simp only[go_sem,h36,h6,m1,hb2,c2];refine W.aS 4721790022117341791240 (by rfl) (fun ρ2 H4=>H4=H3/\∃i:Nat,ρ2 59=aa i/\i<=u.w.length/\ρ2 3=.lit (.bool true)/\∀w∈u.w.take i,-100<=w/\w<=100) (fun ρ2 H=>u.w.length-(iv (ρ2 59)).toNat) ?_ ?_
 ·simp only[go_sem];exact⟨0,rfl,V,Zj⟩
 rintro ρ2 H4 ⟨rfl,i,h59,hi,h3',hw⟩;refine W.vs ?_;have hpr:=sm.prod;by_cases hb3:(i:Int)<u.w.length<;>have hb3':=hb3<;>rw[c2]at hb3'
 ·obtain⟨a,ha⟩:=aw (l:=u.w) (i:=i) V;have ham:=an ha;have hane:=bf ha;by_cases d1:a >= -100;rotate_left
  ·simp only[go_sem,h59,h3',hb3,hb3',ha,hane,d1];exact no (fun h=>by have:=(h.2 u hum).w a ham;omega) _ ov2
  by_cases d2:a<=100;rotate_left
  ·simp only[go_sem,h59,h3',hb3,hb3',ha,hane,d1,d2];exact no (fun h=>by have:=(h.2 u hum).w a ham;omega) _ ov2
  have w1:=UU ((i:Int)+1) V;simp only[go_sem,h59,h3',hb3,hb3',ha,hane,d1,d2,w1];refine⟨⟨i+1,Zj,V,fun w hw'=>?_⟩,V⟩;rw[bd ha]at hw';rcases Vp.1 hw' with hw'|hw'
  ·exact hw w hw'
  ·obtain rfl:=List.mem_singleton.1 hw';exact⟨V,V⟩
 ·have w1:=UU ((k:Int)+1) V;rw[UY V]at hw;simp only[go_sem,h59,h3',e18,hb3',w1];refine⟨V,⟨k+1,Zj,V,by rw[hH2];exact ov.trans (.ext _ _),fun _=>V,fun y hy=>?_⟩,by rw[h18];simp only[aa,bh];omega⟩;rw[bd hu]at hy;rcases Vp.1 hy with hy|hy
  ·exact hall y hy
  ·obtain rfl:=List.mem_singleton.1 hy;exact⟨c1,c2,hw⟩
structure Zv (d:Zq):Prop where
 n:ZK d
 nC:ZH d.nl (df d fun _ _=>0)
 Y:wB d
def Fo (g L x:Int):(ea g L x).length=L.toNat:=by simp[ea]
def pS {c:Nat->Nat->Int}(h:y∈df d c):∃v x,d.C[v]?=some x/\y=gM d c (aE d).length v x:=by
 obtain⟨v,hv⟩:=U1.1 h;have hl:=aO hv;rw[show (df d c).length=d.C.length from lh _ _ _]at hl;obtain⟨x,hx⟩:=aw hl;have:=ow (c:=c) (k:=(aE d).length) hx;rw[show ee d c (aE d).length=df d c from rfl,hv]at this;exact⟨v,x,hx,Option.some.inj this⟩
def SK (hf:ZM d)(hR:ZK d)(c:Nat->Nat->Int):wH (df d c):=by
 refine⟨by rw[show (df d c).length=d.C.length from lh _ _ _];exact hf.C.1,fun y hy=>?_⟩;obtain⟨v,x,hx,rfl⟩:=pS hy;have hxm:=an hx;obtain⟨f1,f2,f3⟩:=hf.C.2 x hxm;unfold gM;split
 ·rename_i h;obtain⟨x1,x2⟩:=hR.dec v x hx h.1;have ps:=(oJ hR.n1.2 x2 hR.L).prod;have hc:=hR.L x hxm;refine⟨f1,?_,fun r hr=>?_⟩
  ·show ((x.nb++dD d.nl d.C c (bw d.X v) x).length:Int)<_;rw[x1];simp only[dD,List.nil_append,Vh,Ww,cr];omega
  ·rw[show ({ x with nb:=x.nb++dD d.nl d.C c (bw d.X v) x }:Zp).nb=x.nb++dD d.nl d.C c (bw d.X v) x from rfl,x1,List.nil_append]at hr;obtain⟨i,_,rfl⟩:=Vb.1 hr;rw[Fo];omega
 ·exact⟨f1,f2,f3⟩
def SL (d:Zq)(hf:ZM d)(H:Zn)(K:Zt->Zn->Prop)(hK:K (.ret (aa (if nC (Zv d) then 0 else 200))) H):ae prog G0 64 [dk d] H K:=by
 refine ae.Z ⟨_,func64,rfl,rfl⟩ fun hcl=>?_;have no:¬Zv d->∀H',Zs H H'->aj prog G0 H K (.lit (.int .i64 200)) H':=fun h H' ov=>aj.bH aF hcl ov (.lit _) (by rw[oF h]at hK;exact hK);have hg:Zv d->1<=d.nl/\d.nl<=60:=fun h=>h.nC.g1;refine ae.st (n:=25) (rs:=[.tmp 2]) func64 ?_;simp only[go_sem,ie,cZ];obtain⟨H1,hH1⟩:∃H1,H1=ext H [.J 0 38 [.lit (.int .i64 d.nl),.Q d.C.length (aH d.C),.lit (.int .u64 (d.X:Int)),.Q d.Y.length (bB d.Y)]]:=⟨_,rfl⟩
 have l1:H1.na H.A 0=some (38,[.lit (.int .i64 d.nl),.Q d.C.length (aH d.C),.lit (.int .u64 (d.X:Int)),.Q d.Y.length (bB d.Y)]):=by rw[hH1];exact ag (cM ..)
 have o1:Zs H H1:=hH1▸.ext _ _
 rw[<- hH1];by_cases c1:d.nl<1
 ·simp only[go_sem,c1];exact no (fun h=>by have:=hg h;omega) _ o1
 by_cases c2:d.nl > 60
 ·simp only[go_sem,l1,c1,c2];exact no (fun h=>by have:=hg h;omega) _ o1
 simp only[go_sem,l1,c1,c2];refine ao.Z (SC d hf _ _ ⟨trivial,?_⟩);by_cases c3:ZK d;rotate_left
 ·rw[oF c3];simp only[go_sem];exact no (fun h=>c3 h.n) _ o1
 rw[mm c3];simp only[go_sem,l1];refine ao.Z (SI d hf c3 (fun _ _=>0) _ [] _ (fun i h=>by cases h) rfl rfl (fun p r v x H2 _ hx _ _=>⟨⟨Int.le_refl 0,by have:=c3.L x (an hx);omega⟩,bF.pure fun H3=>SB _ _ H3 _ ⟨rfl,rfl⟩⟩) _ ⟨trivial,?_⟩);simp only[go_sem];refine ao.Z (Tg d.nl _ (SK hf c3 _) _ _ ⟨trivial,?_⟩);by_cases c4:ZH d.nl (df d fun _ _=>0);rotate_left
 ·rw[FA c4];simp only[go_sem];exact no (fun h=>c4 h.nC) _ o1
 rw[Fy c4];simp only[go_sem,l1];refine ao.Z (SJ d hf c3.n1.2 c3.L _ _ ⟨trivial,?_⟩);by_cases c5:wB d;rotate_left
 ·rw[oF c5];simp only[go_sem];exact no (fun h=>c5 h.Y) _ o1
 rw[mm c5];simp only[go_sem];rw[mm (⟨c3,c4,c5⟩:Zv d)]at hK;exact aj.bH aF hcl o1 (.lit _) hK
structure ZG (d:Zq)(p:List (List Int)):Prop where
 len:p.length=(aE d).length
 row:∀(k v:Nat) (x:Zp) (l:List Int),(aE d)[k]?=some v->d.C[v]?=some x->p[k]?=some l->l.length=cr d.C x/\∀a∈l,0<=a/\a<x.L
def fixC (p:List (List Int))(k r:Nat):Int:=(p.getD k []).getD r 0
def SM {p:List (List Int)}(h:ZG d p){k r:Nat}(hv:(aE d)[k]?=some v)(hx:d.C[v]?=some x)(hr:r<cr d.C x):
  ∃l a,p[k]?=some l/\l[r]?=some a/\fixC p k r=a/\0<=a/\a<x.L:=by
 obtain⟨l,hl⟩:=aw (l:=p) (i:=k) (by rw[h.len];exact aO hv);obtain⟨h1,h2⟩:=h.row k v x l hv hx hl;obtain⟨a,ha⟩:=aw (l:=l) (i:=r) V;exact⟨l,a,hl,ha,by unfold fixC;rw[bK hl,bK ha],h2 a (an ha)⟩
end Go.Proofs
namespace Go.Hx
variable {P:Program} {G:Nat->Option (List Zo)} {n:Nat} {rd:Option Nat} {Q:AX->St->Prop}
def xe (N:Nat)(H1 H2:Zn):Prop:=H1.A<=H2.A/\∀id,id≠N->id<H1.A->H2.get id=H1.get id
def Gc (P:Program)(G:Nat->Option (List Zo))(f:FuncId)(first cap:List Zo)(xs:List (List Zo))(N:Nat)(S0:Zn->Prop)(S:Nat->Zn->Prop):Prop :=
 ∀(idy:Nat) (J:Nat->Zn->Prop) (Stop:Zn->Prop) (H:Zn) (K:Zt->Zn->Prop),H.A=N ->
  (∀k H1,J k H1->S0 H1)->(∀k H1 H2,J k H1->xe N H1 H2->J k H2)->J 0 H ->
  (∀k x H1 K1,xs[k]?=some x->J k H1->S k H1->N<H1.A->(∀H',J (k+1) H'->S k H'->H1.A<=H'.A->K1 (.ret (.lit (.bool true))) H')->(∀H',Stop H'->H1.A<=H'.A->K1 (.ret (.lit (.bool false))) H')->ao P G (.np idy) x H1 K1) ->
  (∀H',J xs.length H'->N<=H'.A->K (.ret (.nf [])) H') ->
  (∀H',Stop H'->N<=H'.A->K (.ret (.nf [])) H') ->
  ae P G f (first++[.np idy]++cap) H K
def W.Gd {g:Operand}{ps:Array Tmp}{asg body:Code}{ρ:Env}{H:Zn}{f:FuncId}{first cap:List Zo}{xs:List (List Zo)}{S0:Zn->Prop}{S:Nat->Zn->Prop}(hg:ar G ρ g=.Z f first cap)
  (hit:Gc P G f first cap xs (H.A+1) S0 S) (J:Nat->Zn->Prop) (Stop:AX->Zn->Prop) (hS:∀k H1,J k H1->S0 H1) (hJw:∀k H1 H2,J k H1->xe (H.A+1) H1 H2->J k H2) (hlow:∀k H1,J k H1->H.A<H1.A)
  (hJu:∀k H1 b,J k H1->J k (H1.upd H.A b)) (hSu:∀c H1 b,Stop c H1->Stop c (H1.upd H.A b)) (hSk:∀k H1 b,S k H1->S k (H1.upd H.A b))
  (hJ0:∀b,J 0 (ext H [b])) (hps:ps.toList.all (fun t=>decide (t<n))=true) (hxl:∀x∈xs,x.length=ps.size)
  (hrd:∀k H1,J k H1->fG H1 rd) (hrd2:∀c H1,Stop c H1->fG H1 rd)
  (hround:∀k x H1 B Bb,xs[k]?=some x->J k H1->S k H1->H.A+1<H1.A->H1.get H.A=some B->(∃st pd n' en ps' as' bo,Bb=Zu.loop st pd n' en ps' as' bo) ->
   W P G n (some H.A) asg (mw P G n H.A B Bb H1.A body (fun H'=>J (k+1) H'/\S k H') Stop) ⟨jK (dq ρ n) (ps.toList.zip x),H1⟩)
  (hend:∀H',J xs.length H'->H.A+1<=H'.A->Q .normal ⟨ρ,H'⟩)
  (hret:∀H',Stop .ret H'->H.A+1<=H'.A->Q .ret ⟨ρ,H'⟩) (hexit:∀i H',Stop (.exit i) H'->H.A+1<=H'.A->Q (.exit i) ⟨ρ,H'⟩):
  W P G n rd (.rangeFunc g ps asg body) Q ⟨ρ,H⟩:=by
 refine W.rangeFunc (s:=⟨ρ,H⟩) hg ⟨_,uE _ _,?_⟩;obtain⟨B,hB⟩:∃B,B=Zu.loop .ready none n ρ ps asg body:=⟨_,rfl⟩
 obtain⟨Bb,hBb⟩:∃B,B=Zu.loop .busy none n ρ ps asg body:=⟨_,rfl⟩
 have nx:(ext H [B]).A=H.A+1:=rfl;show ae P G f (first++[.np H.A]++cap) (ext H [Zu.loop .ready none n ρ ps asg body]) (yo rd Q ρ H.A);rw[<- hB];refine hit H.A (fun k H1=>H1.get H.A=some B/\J k H1) (fun H1=>∃c pend,H1.get H.A=some (.loop .done (some pend) n ρ ps asg body)/\Stop c H1/\((c=.ret/\pend=.ret)\/∃i,c=.exit i/\pend=.exit i)) _ _ nx
  (fun k H1 h=>hS k H1 h.2) (fun k H1 H2 h hw=>⟨(hw.2 _ V (hlow _ _ h.2)).trans h.1,hJw _ _ _ h.2 hw⟩) ⟨dZ,hJ0 B⟩ (fun k x H1 K1 hx hj hs hn hgo hst=>?_) (fun H' hj hn=>?_) (fun H' hj hn=>?_)
 ·have hxm:=hxl x (an hx);refine ao.np (hj.1.trans (congrArg some hB)) hxm hps ?_;refine(hround k x H1 B Bb hx hj.2 hs hn hj.1 ⟨_,_,_,_,_,_,_,hBb⟩).mono fun e s1 h1=>?_;cases e with
  |normal =>
   obtain⟨a1,a2⟩:=h1;refine⟨Bb,by rw[a1,hB,hBb];rfl,?_⟩;refine a2.mono fun e2 s2 h2=>?_;cases e2 with
   |normal =>
    obtain⟨b1,b2,b3,b4⟩:=h2;exact⟨B,by rw[b1,hB,hBb];rfl,hgo _ ⟨by rw[ah,UX rfl],hJu _ _ _ b3⟩ (hSk _ _ _ b4) b2⟩
   |ret =>
    obtain⟨b1,b2,b3⟩:=h2;exact⟨.loop .done (some .ret) n ρ ps asg body,by rw[b1,hBb];rfl,hst _ ⟨.ret,.ret,by rw[ah,UX rfl],hSu _ _ _ b3,.inl ⟨rfl,rfl⟩⟩ b2⟩
   |exit i =>
    obtain⟨b1,b2,b3⟩:=h2;exact⟨.loop .done (some (.exit i)) n ρ ps asg body,by rw[b1,hBb];rfl,hst _ ⟨.exit i,.exit i,by rw[ah,UX rfl],hSu _ _ _ b3,.inr ⟨i,rfl,rfl⟩⟩ b2⟩
   |_=>exact h2.elim
  |_=>exact h1.elim
 ·refine⟨hrd _ _ hj.2,(none,.loop .exhausted none n ρ ps asg body),by rw[hj.1,hB];rfl,?_⟩;exact hend _ (hJu _ _ _ hj.2) hn
 ·obtain⟨c,pend,h1,h2,h3⟩:=hj;refine⟨hrd2 _ _ h2,(some pend,.loop .exhausted (some pend) n ρ ps asg body),by rw[h1];rfl,?_⟩;rcases h3 with ⟨rfl,rfl⟩|⟨i,rfl,rfl⟩
  ·exact hret _ (hSu _ _ _ h2) hn
  ·exact hexit i _ (hSu _ _ _ h2) hn
end Go.Hx
namespace Go.Proofs
open Go.Hx Tryz
variable {g:Int}{vals:List Int}{ns:List Zp}{N k v:Nat}{c:Nat->Nat->Int}{x:Zp}{d:Zq}
def SN:∀ {cs vs:List Int} {k:Nat} {c v:Int},vs.length=cs.length->cs[k]?=some c->vs[k]?=some v->v+1<c->(∀(j:Nat) (a b:Int),k<j->cs[j]?=some a->vs[j]?=some b->b=a-1) ->
  lg cs vs=some (vs.take k++(v+1) :: (cs.drop (k+1)).map fun _=>0):=by
 have none_of:∀ {cs vs:List Int},vs.length=cs.length->(∀(j:Nat) (a b:Int),cs[j]?=some a->vs[j]?=some b->b=a-1)->lg cs vs=none:=by
  intro cs
  induction cs with
  |nil=>intro vs _ _;cases vs<;>rfl
  |cons c cs ih =>
   intro vs hl h;cases vs with
   |nil=>rfl
   |cons v vs =>
    have h1:=ih (vs:=vs) (by simpa using hl) fun j a b ha hb=>h (j+1) a b (by simpa using ha) (by simpa using hb);have h2:=h 0 c v rfl rfl;simp only[lg,h1];rw[UW V]
 intro cs
 induction cs with
 |nil=>intro vs k c v _ h;simp at h
 |cons x cs ih =>
  intro vs k c v hl hc hv hlt hmax;cases vs with
  |nil=>simp at hv
  |cons y vs =>
   cases k with
   |zero =>
    simp only[List.getElem?_cons_zero,Option.some.injEq]at hc hv;subst hc;subst hv;have h1:=none_of (cs:=cs) (vs:=vs) (by simpa using hl) fun j a b ha hb=>hmax (j+1) a b V (by simpa using ha) (by simpa using hb);simp only[lg,h1];rw[UX hlt];simp
   |succ k =>
    have h1:=ih (vs:=vs) (k:=k) (by simpa using hl) (by simpa using hc) (by simpa using hv) hlt fun j a b hj ha hb=>hmax (j+1) a b V (by simpa using ha) (by simpa using hb);simp only[lg,h1];simp
def SO:∀ {cs vs:List Int},vs.length=cs.length->(∀(j:Nat) (a b:Int),cs[j]?=some a->vs[j]?=some b->b=a-1)->lg cs vs=none:=by
 intro cs
 induction cs with
 |nil=>intro vs _ _;cases vs<;>rfl
 |cons c cs ih =>
  intro vs hl h;cases vs with
  |nil=>rfl
  |cons v vs =>
   have h1:=ih (vs:=vs) (by simpa using hl) fun j a b ha hb=>h (j+1) a b (by simpa using ha) (by simpa using hb);have h2:=h 0 c v rfl rfl;simp only[lg,h1];rw[UW V]
def nD (nB:List Int)(N:Nat):List (List Zo):=(List.range (aB nB).toNat).map fun (i:Nat)=>[aa (i:Int),.U N 0 0 nB.length 1]
def wD {nB:List Int}{x:List Zo}(h:(nD nB N)[k]?=some x):k<(aB nB).toNat/\x=[aa k,.U N 0 0 nB.length 1]:=by
 unfold nD at h;rw[List.getElem?_map]at h;have hk:k<(aB nB).toNat:=by
  rcases Vj k (aB nB).toNat with h1|h1
  ·exact h1
  ·rw[U3 (by simpa using h1)]at h;simp at h
 rw[Vz hk]at h;simp at h;exact⟨hk,h.symm⟩
def SP {nB:List Int}(h:k<(aB nB).toNat):(nD nB N)[k]?=some [aa k,.U N 0 0 nB.length 1]:=by
 unfold nD;rw[List.getElem?_map,Vz h];rfl
def Ah (nB:List Int)(N:Nat):(nD nB N).length=(aB nB).toNat:=by simp[nD]
def rK (nB:List Int)(N k:Nat)(H:Zn):Prop:=H.get N=some (.J 0 3 (ints (bW nB k)))
def Fp (nB:List Int)(hc1:∀c∈nB,1<=c)(hs:eW nB)(b N:Nat)(hbN:b<N):
  Gc prog G0 176 [] [.O b 0 0] (nD nB N) N (fun H=>H.get b=some (.J 0 72 [af nB])) (rK nB N):=by
 intro idy J Stop H K hN hS0 hJw hJ0 hY hK hSt;have l0:=ag (hS0 0 H hJ0);have h12:=hs.1;have hpp:=hs.prod;have hp1:=fV hc1;show ae _ _ _ ([.np idy]++[.O b 0 0]) _ _;refine ae.st (n:=45) (rs:=[]) func176 ?_;simp only[go_sem,l0];refine⟨V,?_⟩;have fitI:∀i:Nat,cK nB (bW nB i):=fun i=>tu hc1 _;have fL:∀i:Nat,i<(aB nB).toNat->bN nB (bW nB i)=i:=fun i hi=>zo hc1 V V;subst hN;refine W.aS 35184372088368 (by rfl) (fun ρ H'=>∃i:Nat,ρ 4=aa i/\i<(aB nB).toNat/\J i H'/\rK nB H.A i H'/\H.A+1<=H'.A) (fun ρ H=>(aB nB).toNat-(iv (ρ 4)).toNat) ?_ ?_
 ·simp only[go_sem];refine⟨0,rfl,V,hJw 0 H _ hJ0 ⟨by rw[aV];omega,fun id _ h=>c9 _ _ _ h⟩,?_⟩;show (ext H _).get H.A=_;rw[cM];have:bW nB ((0:Nat):Int)=List.replicate nB.length 0:=by
   rw[show ((0:Nat):Int)=0 from rfl,DK hc1];exact List.map_const' ..
  rw[this];simp[ints,aa]
 rintro ρ H' ⟨i,h4,hi,hj,hcs,hn⟩;refine W.en (fun E=>E 1=.O b 0 0 /\ E 0=.np idy /\ E 3=.U H.A 0 0 nB.length 1 /\ E 4=aa i) (by simp only[go_sem,h4]) fun E ⟨e1,e0,e3,e4⟩=>?_
 refine W.vs ?_;simp only[go_sem,e0,e3,e4];refine hY i [aa i,.U H.A 0 0 nB.length 1] H' _ (SP hi) hj hcs V (fun H2 hj2 hcs2 hn2=>⟨trivial,?_⟩) (fun H2 hs2 hn2=>⟨trivial,?_⟩);rotate_left
 ·simp only[go_sem];exact aj.mk V (hSt H2 hs2 V)
 have hb2:=hS0 _ _ hj2;have lb:=ag hb2;have w0:=UU ((nB.length:Int)-1) V;obtain⟨vs,hvs⟩:∃vs,vs=bW nB i:=⟨_,rfl⟩
 have hvl:vs.length=nB.length:=by rw[hvs,vA]
 have hfit:cK nB vs:=by rw[hvs];exact fitI i
 have hsucc:=Qk hfit;rw[show bN nB vs=i from by rw[hvs];exact fL i hi]at hsucc;simp only[go_sem,e1,lb,w0];refine W.aS 137438691360 (by rfl) (fun ρ2 H4=>∃m:Nat,ρ2 5=aa ((m:Int)-1)/\m<=nB.length/\xe H.A H2 H4/\H4.get H.A=some (.J 0 3 (ints (vs.take m++(nB.drop m).map fun _=>0)))/\(∀(j:Nat) (a b:Int),m<=j->nB[j]?=some a->vs[j]?=some b->b=a-1))
  (fun ρ2 H=>(iv (ρ2 5)+1).toNat) ?_ ?_
 ·simp only[go_sem];refine⟨nB.length,rfl,V,⟨Zm,fun _ _ _=>rfl⟩,?_,fun j a b hm ha=>?_⟩
  ·have hg:H2.get H.A=_:=hcs2;rw[<- hvs]at hg;rw[hg,UY V,Yf V];simp
  ·have:=aO ha;omega
 rintro ρ2 H4 ⟨m,h5,hm,hw,hg,hmax⟩;refine W.en (fun E2=>E2 1=.O b 0 0 /\ E2 3=.U H.A 0 0 nB.length 1 /\ E2 4=aa i /\ E2 5=aa ((m:Int)-1)) (by simp only[go_sem,e1,e3,e4,h5]) fun E2 ⟨f1,f3,f4,f5⟩=>?_
 refine W.vs ?_;have hw1:=hw.1;have lN:=ag hg;have lb4:=ag ((hw.2 b V V).trans hb2);have hj4:J (i+1) H4:=hJw _ _ _ hj2 hw;have clen:(vs.take m++(nB.drop m).map fun _=>(0:Int)).length=nB.length:=by simp;omega
 by_cases hm0:m=0
 ·subst hm0;have f5':E2 5=aa (-1):=f5;have hnone:=SO hvl fun j a b ha hb=>hmax j a b (Wo _) ha hb;rw[hnone]at hsucc;have htot:¬(i:Int)+1<aB nB:=fun h=>by rw[UX h]at hsucc;cases hsucc
  have hti:i+1=(nD nB H.A).length:=by rw[Ah];omega
  simp only[go_sem];refine W.dr 12 [0,1,3,7,7,31,63,7,7,391,903,1927] mixed ?_;simp only[go_sem,f5'];exact aj.mk V (hK H4 (by rw[<- hti];exact hj4) V)
 obtain⟨k,rfl⟩:∃k,m=k+1:=⟨m-1,V⟩
 have f5':E2 5=aa k:=by rw[f5];congr 1;omega
 obtain⟨c,hck⟩:=aw (l:=nB) (i:=k) V;obtain⟨v,hvk⟩:=aw (l:=vs) (i:=k) V;have hne:=bf hck;have hr:=hfit.2 k c v hck hvk;have hcs8:=hs.2 c (an hck);have hvk':(vs.take (k+1)++(nB.drop (k+1)).map fun _=>(0:Int))[k]?=some v:=by
  rw[Vf (by simp;omega),Vg V];exact hvk
 have hk0:(k:Int) >= 0:=V
 have hkc:(k:Int)<nB.length:=V
 have w1:=UU (c-1) V;have w2:=UU ((k:Int)-1) V;have w3:=UU (v+1) V;have w4:=UU ((i:Int)+1) V;have hk1:¬(k:Int)<0:=V
 by_cases hv:v=c-1
 ·simp only[go_sem];refine W.dr 12 [0,1,3,7,7,31,63,7,7,391,903,1927] mixed ?_;simp only[go_sem,f1,f3,f5',hk0,hkc,lN,lb4,hvk',hck,hne,w1,w2,hv];refine⟨by rw[<- List.length_append,clen];omega,by rw[aP];omega,⟨k,rfl,V,⟨by rw[aP];exact hw.1,fun id h1 h2=>by rw[ah,UW h1];exact hw.2 id h1 h2⟩,?_,fun j a b hj ha hb=>?_⟩,?_⟩
  ·rw[ah,UX rfl,iQ (by rw[clen];omega)];congr 3;rw[bd hvk,List.append_assoc,Wh _ _ (by simp;omega),Qh hck];simp;rw[show k-min k vs.length=0 by omega];rfl
  ·rcases Vj k j with h|h
   ·exact hmax j a b V ha hb
   ·obtain rfl:j=k:=V;rw[hck]at ha;rw[hvk]at hb;cases ha;cases hb;exact hv
  ·rw[h5];simp only[aa,bh];omega
 ·simp only[go_sem];refine W.dr 12 [0,1,3,7,7,31,63,7,7,391,903,1927] mixed ?_;simp only[go_sem,f1,f3,f4,f5',hk0,hk1,hkc,lN,lb4,hvk',hck,hne,w1,w3,w4,hv];have hat:=SN hvl hck hvk V fun j a b hj ha hb=>hmax j a b V ha hb;rw[hat]at hsucc;have hlt:(i:Int)+1<aB nB:=by
   refine VI fun h=>?_;rw[UW h]at hsucc;cases hsucc
  rw[UX hlt]at hsucc;have hw5:xe H.A H2 (H4.upd H.A (.J 0 3 (setAt (ints (vs.take (k+1)++(nB.drop (k+1)).map fun _=>(0:Int))) k [.lit (.int .i64 (v+1))]))):=⟨by rw[aP];exact hw.1,fun id h1 h2=>by rw[ah,UW h1];exact hw.2 id h1 h2⟩
  refine⟨by rw[<- List.length_append,clen];omega,by rw[aP];omega,⟨i+1,Zj,V,hJw _ _ _ hj2 hw5,?_,by rw[aP];omega⟩,?_⟩
  ·show (H4.upd H.A _).get H.A=_;rw[ah,UX rfl,iQ (by rw[clen];omega)];congr 3;have e:bW nB ((i+1:Nat):Int)=vs.take k++(v+1) :: (nB.drop (k+1)).map fun _=>0:=by
    have:=Option.some.inj hsucc;rw[show ((i+1:Nat):Int)=(i:Int)+1 by omega];exact this.symm
   rw[e,bd hvk,List.append_assoc,Wh _ _ (by simp;omega)];simp;rw[show k-min k vs.length=0 by omega];rfl
  ·rw[h4];simp only[aa,bh];omega
def Fq (nB:List Int)(H:Zn)(K:Zt->Zn->Prop)(hK:K (.ret (.Z 176 [] [.O H.A 0 0])) (ext H [.J 0 72 [af nB]])):
  ae prog G0 146 [af nB] H K:=by
 refine ae.st (n:=4) (rs:=[.tmp 2]) func146 ?_;simp only[go_sem];exact aj.mk (by simp[aV]) hK
def jz (ns:List Zp)(x:Zp)(vals:List Int):List Int:=x.nb.getD (bN (aT ns x) (aL vals x.F)).toNat []
def fX (ns:List Zp)(vals:List Int)(v:Nat):Int:=match ns[v]? with
 |some x=>(jz ns x vals).getD (vals.getD v 0).toNat 0
 |none=>1
def ri (ns:List Zp)(vals:List Int):List Int:=(List.range ns.length).map (fX ns vals)
def weight (ns:List Zp)(vals:List Int):Int:=aB (ri ns vals)
def cI (ns:List Zp):Nat:=(aB (au ns)).toNat
def ox (ns:List Zp)(vals:List Int)(u:ZC):Int:=u.w.getD (bN (aL (au ns) u.vars) (aL vals u.vars)).toNat 0
def cX (ns:List Zp)(us:List ZC)(vals:List Int):Int:=(us.map (ox ns vals)).sum
def lj (ns:List Zp)(us:List ZC)(k:Nat):Int:=((List.range k).map fun (i:Nat)=>weight ns (bW (au ns) i)*cX ns us (bW (au ns) i)).sum
def QB (ns:List Zp)(us:List ZC)(k:Nat):lj ns us (k+1)=lj ns us k+weight ns (bW (au ns) k)*cX ns us (bW (au ns) k):=by
 unfold lj;rw[VH];simp
def QC (ns:List Zp)(vals:List Int):(ri ns vals).length=ns.length:=by simp[ri]
def pT (hin:iG x.F ns.length)(hf:cK (au ns) vals):cK (aT ns x) (aL vals x.F):=by
 refine⟨by unfold aT;rw[jk,jk],fun k c v h1 h2=>?_⟩;obtain⟨q,hq⟩:=aw (l:=x.F) (i:=k) (by have:=aO h2;rw[jk]at this;exact this);obtain⟨j,rfl,y,hy⟩:=mQ (l:=ns) (hin q (an hq)).1 (hin q (an hq)).2;obtain⟨b,hb⟩:=aw (l:=vals) (i:=j) (by rw[hf.1,eO];exact aO hy);have e1:(aT ns x)[k]?=some y.L:=by rw[show (aT ns x)[k]?=_ from jY hq,Int.toNat_natCast,bK (cS hy)]
 have e2:(aL vals x.F)[k]?=some b:=by rw[jY hq,Int.toNat_natCast,bK hb]
 rw[h1]at e1;rw[h2]at e2;cases e1;cases e2;exact hf.2 j y.L _ (cS hy) hb
structure RowAtW (g:Int)(ns:List Zp)(x:Zp)(vals:List Int)(v:Nat)(i:Nat)(r:List Int)(a w:Int):Prop where
 idx:bN (aT ns x) (aL vals x.F)=i
 row:x.nb[i]?=some r
 val:vals[v]?=some a
 a0:0<=a
 hw:r[a.toNat]?=some w
 wb:0<=w/\w<=g
 eq:fX ns vals v=w
 rv:jz ns x vals=r
 len:(r.length:Int)=x.L
 al:a<r.length
def Fs (h:ZH g ns)(hx:ns[v]?=some x)(hf:cK (au ns) vals):∃i r a w,RowAtW g ns x vals v i r a w:=by
 have hxm:=an hx;have hin:iG x.F ns.length:=fun q hq=>by have:=(h.node x hxm).2.2 q hq;omega
 have hr:=ou (pT hin hf);obtain⟨r1,r2⟩:=h.nb x hxm;obtain⟨i,hi⟩:=U2 hr.1;obtain⟨r,hrr⟩:=aw (l:=x.nb) (i:=i) (by rw[<- r1,hi]at hr;omega);obtain⟨s1,s2,s3⟩:=r2 r (an hrr);obtain⟨a,ha⟩:=aw (l:=vals) (i:=v) (by rw[hf.1,eO];exact aO hx);have hb:=hf.2 v x.L a (cS hx) ha;obtain⟨w,hw⟩:=aw (l:=r) (i:=a.toNat) V;have rv:jz ns x vals=r:=by unfold jz;rw[hi,Int.toNat_natCast,bK hrr]
 exact⟨i,r,a,w,hi,hrr,ha,hb.1,hw,s2 w (an hw),by unfold fX;rw[hx];simp only;rw[rv,bK ha,bK hw],rv,s1,V⟩
def Ai (k:Nat)(h:k<=8):(60:Int) ^ k<=167961600000000:=by
 have h1:(60:Nat) ^ k<=60 ^ 8:=U7 Zk h;have h2:(60:Nat) ^ 8=167961600000000:=Zk
 rw[h2]at h1;have h3:=Int.ofNat_le.2 h1;rw[Int.natCast_pow]at h3;exact h3
def Ft (ns:List Zp)(v:Nat)(x:Zp)(vals:List Int)(hx:ns[v]?=some x)(hin:iG x.F ns.length)(hs:eW (aT ns x))(hf:cK (au ns) vals)(H:Zn)(N n:Nat)(hN:N<H.A)
  (hg:H.get N=some (.J 0 3 (ints vals))) (hn:n=vals.length):bF prog G0 (.Z 147 [] []) [.Q ns.length (aH ns),.lit (.int .i64 v),.U N 0 0 n 1] H (.lit (.int .i64 (bN (aT ns x) (aL vals x.F)))) [N]:=by
 subst hn;refine bF.mk (fun i hi=>by obtain rfl:=List.mem_singleton.1 hi;exact hN) fun H2 h2 _=>?_;refine(ae.frame (H:=H2) (args:=[.Q ns.length (aH ns),.lit (.int .i64 v),.U N 0 0 vals.length 1]) (args':=[eM ns,.lit (.int .i64 v),af vals]) (v':=.lit (.int .i64 (bN (aT ns x) (aL vals x.F)))) aF rfl (fun i hi _=>?_) (SV ns v x vals hx hin hs hf cW _ ⟨_,rfl,.lit _⟩))
 match i,hi with
 |0,_=>exact wI _
 |1,_=>exact .lit _
 |2,_=>exact Fz.tO ((h2 N Zj).trans hg) (by rw[bG]) fun c hc=>by obtain⟨z,_,rfl⟩:=Vb.1 hc;exact⟨_,rfl⟩
def wE {us:List ZC}(hu:∀u∈us,ZO ns u)(h4:us.length<=4)(vals:List Int)(k:Nat):-400<=cX ns (us.take k) vals/\cX ns (us.take k) vals<=400:=by
 have key:∀l:List ZC,(∀u∈l,ZO ns u)->-(100*l.length:Int)<=cX ns l vals/\cX ns l vals<=100*l.length:=by
  intro l
  induction l with
  |nil=>intro _;simp[cX]
  |cons u l ih =>
   intro h;have h1:=ih fun u hu=>h u (by simp[hu]);have h2:-100<=ox ns vals u/\ox ns vals u<=100:=by
    unfold ox;rw[UZ];cases hg:u.w[(bN (aL (au ns) u.vars) (aL vals u.vars)).toNat]? with
    |none=>simp
    |some w=>exact(h u Zj).w w (an hg)
   simp only[cX,List.map_cons,Wm,List.length_cons]at h1 ⊢
   push_cast
   omega
 have:=key (us.take k) fun u hk=>hu u (Vk hk);have h5:(us.take k).length<=4:=by simp;omega
 omega
def yI (x y:Int)(hx:0<=x)(hy:0<=y):Int.gcd y (x % y)=Int.gcd y x:=by
 obtain⟨a,rfl⟩:=U2 hx;obtain⟨b,rfl⟩:=U2 hy;rw[<- Int.natCast_emod];show Nat.gcd b (a % b)=Nat.gcd b a;rw[XC b (a % b),<- YI]
def SD (g:Int)(n:Nat)(hg:1<=g/\g<=60)(hn:n<=8)(H:Zn)(K:Zt->Zn->Prop)(hK:K (.ret (aa (g ^ n))) H):ae prog G0 118 [aa g,aa n] H K:=by
 refine ae.st (n:=14) (rs:=[.tmp 4]) func118 ?_;simp only[go_sem];refine W.aS 8096 (by rfl) (fun ρ H'=>H'=H/\∃k:Nat,ρ 7=aa k/\k<=n/\ρ 5=aa (g ^ k)) (fun ρ H=>n-(iv (ρ 7)).toNat) ?_ ?_
 ·simp only[go_sem];exact⟨0,rfl,V,by rw[Int.pow_zero]⟩
 rintro ρ H' ⟨rfl,k,h7,hk,h5⟩;refine W.vs ?_;have hpow:∀k:Nat,0<=g ^ k/\g ^ k<=60 ^ k:=fun k=>by
  induction k with
  |zero=>simp
  |succ k ih =>
   rw[Xc,Xc];exact⟨WG ih.1 V,Wy ih.2 hg.2 V (by have:=YM (n:=60) (m:=k) Zk;omega)⟩
 by_cases hb:(k:Int)<n
 ·have h1:=hpow (k+1);have h2:=Ai (k+1) V;rw[Xc]at h1;have w1:=UU (g ^ k*g) V;have w2:=UU ((k:Int)+1) V;simp only[go_sem,h7,h5,hb,w1,w2];exact⟨⟨k+1,rfl,V,by rw[Xc]⟩,V⟩
 ·have e:k=n:=V
  subst e;simp only[go_sem,h7,h5,hb];exact aj.mk Zm hK
def eN (n d:Int):Zo:=.agg [.lit (.int .i64 (n.tdiv (Int.gcd n d:Int))),.lit (.int .i64 (d.tdiv (Int.gcd n d:Int)))]
def SE (n d:Int)(hn:-4611686018427387904<=n/\n<=4611686018427387904)(hd:1<=d/\d<=4611686018427387904)(H:Zn)(K:Zt->Zn->Prop)(hK:K (.ret (eN n d)) H):ae prog G0 117 [aa n,aa d] H K:=by
 refine ae.Z ⟨_,func117,rfl,rfl⟩ fun hcl=>?_;have w1:=UU (0-n) V;have w2:(if 0-n > n then 0-n else n)=(n.natAbs:Int):=by split<;>omega
 have w3:(if n<0-n then 0-n else n)=(n.natAbs:Int):=w2;refine ae.st (n:=25) (rs:=[.cell 4 58]) func117 ?_;simp only[go_sem,w1,w2];refine W.aS 258144 (by rfl) (fun ρ H'=>H'=ext H [.J 0 58 [.lit (.int .i64 0),.lit (.int .i64 0)]]/\∃x y:Int,ρ 5=aa x/\ρ 6=aa y/\0<=x/\0<=y/\Int.gcd x y=Int.gcd n d) (fun ρ H=>(iv (ρ 6)).toNat) ?_ ?_
 ·simp only[go_sem];exact⟨n.natAbs,d,rfl,rfl,V,V,by simp[Int.gcd]⟩
 rintro ρ H' ⟨rfl,x,y,h5,h6,hx,hy,hg⟩;refine W.en (fun E=>E 0=aa n /\ E 1=aa d /\ E 4=.O H.A 0 0 /\ E 5=aa x /\ E 6=aa y) (by simp only[go_sem,h5,h6]) fun E ⟨e0,e1,e4,e5,e6⟩=>?_
 refine W.vs ?_;by_cases hz:y=0
 ·subst hz;have e:x=(Int.gcd n d:Int):=by rw[<- hg,Int.gcd_zero_right];omega
  have g0:0<Int.gcd n d:=WM _ V;have hxz:¬x=0:=V
  have hgn:(Int.gcd n d:Int)≠0:=V
  simp only[go_sem,e6];refine W.dr 6 [0,0,3,0,0,24] mixed ?_;have b1:-4611686018427387904<=n.tdiv x/\n.tdiv x<=4611686018427387904:=by
   have h2:(n.tdiv x).natAbs<=n.natAbs:=(by rw[YO];exact WO _ _);omega
  have b2:-4611686018427387904<=d.tdiv x/\d.tdiv x<=4611686018427387904:=by
   have h2:(d.tdiv x).natAbs<=d.natAbs:=(by rw[YO];exact WO _ _);omega
  have u1:=UU (n.tdiv x) V;have u2:=UU (d.tdiv x) V;simp only[go_sem,e0,e1,e4,e5,hxz,u1,u2];refine aj.drop aF hcl (v':=eN n d) ?_ hK;rw[e];refine .agg rfl fun i hi _=>?_
  match i,hi with
  |0,_=>exact .lit _
  |1,_=>exact .lit _
 ·have m1:x.tmod y=x % y:=VK hx;have m2:=XY x hz;have m3:=Xp x (show 0<y by omega);simp only[go_sem,e6,hz];refine W.dr 5 [0,0,0,6,3] mixed ?_;simp only[go_sem,e5,e6,hz,m1];refine⟨⟨y,x % y,rfl,rfl,hy,m2,?_⟩,by rw[h6];simp only[aa,bh];omega⟩;rw[<- hg,Int.gcd_comm x y];exact yI x y hx (V)
def Ag {L a:Int}(hg:0<=g)(ha:0<=a/\a<L):kI g L (ea g L a):=by
 refine⟨by rw[Fo];omega,fun w hw=>?_,?_⟩
 ·unfold ea at hw;rcases VS hw with h|h
  ·have:=Wx h;omega
  ·omega
 ·unfold ea;have key:∀(n i:Nat),i<n->((List.replicate n (0:Int)).set i g).sum=g:=by
   intro n
   induction n with
   |zero=>intro i h;omega
   |succ n ih =>
    intro i h;cases i with
    |zero=>simp[WD]
    |succ i=>rw[WD,List.set_cons_succ,Wm,ih i V];omega
  exact key _ _ (V)
def jX (d:Zq)(c:Nat->Nat->Int):au (df d c)=au d.C:=Qw
def ig (d:Zq)(c:Nat->Nat->Int):(df d c).length=d.C.length:=lh _ _ _
def jF (h:d.C[v]?=some x):(df d c)[v]?=some (gM d c (aE d).length v x):=ow h
def rI (d:Zq)(c:Nat->Nat->Int)(x:Zp):aT (df d c) x=aT d.C x:=by unfold aT;rw[jX]
def tJ (d:Zq)(c:Nat->Nat->Int):az (df d c)=az d.C:=by
 apply VG;intro v;unfold az;rw[List.getElem?_map,List.getElem?_map];rcases Vj v d.C.length with h|h
 ·obtain⟨x,hx⟩:=aw h;rw[jF hx,hx];simp only[Option.map_some,(iN d c _ v x).2]
 ·rw[U3 (by rw[ig];exact h),U3 h]
def tK (hx:d.C[v]?=some x)(hb:d.X.testBit v=true):(aE d)[bw d.X v]?=some v:=mf (aO hx) hb
def wz (hx:d.C[v]?=some x)(hb:d.X.testBit v=true):gM d c (aE d).length v x={ x with nb:=x.nb++dD d.nl d.C c (bw d.X v) x } :=
 UX ⟨hb,aO (tK hx hb)⟩
def oG (hb:¬d.X.testBit v=true):gM d c k v x=x:=UW fun h=>hb h.1
def rJ (d:Zq)(c:Nat->Nat->Int):Prop:=∀(k v r:Nat) (x:Zp),(aE d)[k]?=some v->d.C[v]?=some x->r<cr d.C x->0<=c k r/\c k r<x.L
def Fj (h:Zv d)(hc:rJ d c):ZH d.nl (df d c):=by
 have h0:=h.nC;refine⟨h0.g1,by rw[ig];exact h.n.n1,fun y hy=>?_,by have:=h0.size;rw[jX]at this ⊢;exact this,by have:=h0.nL;rw[tJ]at this ⊢;exact this,fun y hy=>?_⟩
 ·obtain⟨v,x,hx,rfl⟩:=pS hy;have:=h0.node _ (an (jF (c:=fun _ _=>0) hx));rw[(iN ..).1,(iN ..).2,ig]at this ⊢;exact this
 ·obtain⟨v,x,hx,rfl⟩:=pS hy;have h1:=h0.nb _ (an (jF (c:=fun _ _=>0) hx));unfold gh at h1 ⊢;rw[rI]at h1 ⊢;by_cases hb:d.X.testBit v=true
  ·rw[wz hx hb]at h1 ⊢;have x1:=(h.n.dec v x hx hb).1;refine⟨?_,fun r hr=>?_⟩
   ·have:=h1.1;rw[show ({ x with nb:=x.nb++dD d.nl d.C (fun _ _=>0) (bw d.X v) x }:Zp).nb.length=cr d.C x by simp[x1,dD]]at this;rw[show ({ x with nb:=x.nb++dD d.nl d.C c (bw d.X v) x }:Zp).nb.length=cr d.C x by simp[x1,dD]];exact this
   ·rw[show ({ x with nb:=x.nb++dD d.nl d.C c (bw d.X v) x }:Zp).nb=x.nb++dD d.nl d.C c (bw d.X v) x from rfl,x1,List.nil_append]at hr;unfold dD at hr;obtain⟨i,hi,rfl⟩:=Vb.1 hr;have:=h0.g1;exact Ag V (hc _ _ _ x (tK hx hb) hx (U9.1 hi))
  ·rw[oG hb]at h1 ⊢;exact h1
def SF {u:ZC}(h:ZO d.C u):ZO (df d c) u:=⟨by rw[ig];exact h.vars,by rw[jX];exact h.size,h.w⟩
def wA {p:List (List Int)}(h:ZG d p):rJ d (fixC p):=fun k v r x hv hx hr=>by
 obtain⟨l,a,hl,ha,he,hb⟩:=SM h hv hx hr;rw[he];exact hb
def Fk (d:Zq)(p:List (List Int)):Int:=lj (df d (fixC p)) d.Y (cI d.C)
def Fl (d:Zq)(c:Nat->Nat->Int):cI (df d c)=cI d.C:=by unfold cI;rw[jX]
def SG (d:Zq)(p:List (List Int)):Prop:=Zv d->ZG d p->∀k,k<=cI d.C->-1000000000000000000<=lj (df d (fixC p)) d.Y k/\lj (df d (fixC p)) d.Y k<=1000000000000000000
end Go.Proofs
