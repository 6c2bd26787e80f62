/- Own work: contracts. -/
import Derived.Test.YtakancljiekbhaaDoorConA
set_option linter.all false
set_option maxRecDepth 100000
namespace Go.Proofs
open Go.Hx
def A6:AVal:=.agg [.lit (.int .i64 0),ab [],ab [],ab [],ab []]
def A7 (g:Int)(ns:List NodeP):AVal:=.agg [.lit (.int .i64 g),dk ns,ab (af ns),im (bA ns),ab (gp ((fF (bA ns)).getD []))]
structure RdS (g:Int)(ns:List NodeP)(H H':AHeap)(c:List Int)(s:List Nat):Prop where
 nx:H.next+5<=H'.next
 ov:Over H H'
 b0:H'.get H.next=some (.arr 0 36 [.lit (.int .i64 g),.vec ns.length (au ns)])
 b1:H'.get (H.next+1)=some (.arr 0 113 [.lit (.int .i64 0),.lit (.slice none 0 0),.lit (.slice none 0 0),.lit (.slice none 0 0),.lit (.slice none 0 0)])
 b2:H'.get (H.next+2)=some (.arr 0 3 (ints c))
 b3:H'.get (H.next+3)=some (.arr 0 72 (s.map bE))
 b4:H'.get (H.next+4)=some (.arr 0 113 [.lit (.int .i64 g),.vec ns.length (au ns),.own (H.next+2) 0 0 ns.length 1,.own (H.next+3) 0 0 ns.length 1,.lit (.slice none 0 0)])
 cl:c.length=ns.length
 sl:s.length=ns.length
theorem RdS.over {g:Int}{ns:List NodeP}{H H' H2:AHeap}{c:List Int}{s:List Nat}(h:RdS g ns H H' c s)(o:Over H' H2):RdS g ns H H2 c s where
 nx:=We h.nx o.next
 ov:=h.ov.trans o
 b0:=(o.old _ (by have:=h.nx;omega)).trans h.b0
 b1:=(o.old _ (by have:=h.nx;omega)).trans h.b1
 b2:=(o.old _ (by have:=h.nx;omega)).trans h.b2
 b3:=(o.old _ (by have:=h.nx;omega)).trans h.b3
 b4:=(o.old _ (by have:=h.nx;omega)).trans h.b4
 cl:=h.cl
 sl:=h.sl
theorem RdS.Uw {g:Int}{ns:List NodeP}{H H':AHeap}{c:List Int}{s:List Nat}(h:RdS g ns H H' c s){k:Nat}(hk:k<c.length)(x:Int):RdS g ns H (H'.upd (H.next+2) (.arr 0 3 (setAt (ints c) k [.lit (.int .i64 x)]))) (c.set k x) s where
 nx:=h.nx
 ov:=h.ov.upd (by omega) _
 b0:=by rw[ag,Vw (by omega)];exact h.b0
 b1:=by rw[ag,Vw (by omega)];exact h.b1
 b2:=by rw[ag,Vx rfl,fo hk]
 b3:=by rw[ag,Vw (by omega)];exact h.b3
 b4:=by rw[ag,Vw (by omega)];exact h.b4
 cl:=by simpa using h.cl
 sl:=h.sl
theorem Gu {l:List Nat}{i:Nat}{x:Nat}(h:i<l.length):setAt (l.map bE) i [.lit (.int .u64 (x:Int))]=(l.set i x).map bE:=by
 rw[jP (by simpa using h)];simp [bE]
theorem RdS.Ux {g:Int}{ns:List NodeP}{H H':AHeap}{c:List Int}{s:List Nat}(h:RdS g ns H H' c s){k:Nat}(hk:k<s.length)(x:Nat):RdS g ns H (H'.upd (H.next+3) (.arr 0 72 (setAt (s.map bE) k [.lit (.int .u64 (x:Int))]))) c (s.set k x) where
 nx:=h.nx
 ov:=h.ov.upd (by omega) _
 b0:=by rw[ag,Vw (by omega)];exact h.b0
 b1:=by rw[ag,Vw (by omega)];exact h.b1
 b2:=by rw[ag,Vw (by omega)];exact h.b2
 b3:=by rw[ag,Vx rfl,Gu hk]
 b4:=by rw[ag,Vw (by omega)];exact h.b4
 cl:=h.cl
 sl:=by simpa using h.sl
theorem RdS.l0 {g:Int}{ns:List NodeP}{H H':AHeap}{c:List Int}{s:List Nat}(h:RdS g ns H H' c s):H'.live H.next 0=some (36,[.lit (.int .i64 g),.vec ns.length (au ns)]):=ak h.b0
theorem RdS.l1 {g:Int}{ns:List NodeP}{H H':AHeap}{c:List Int}{s:List Nat}(h:RdS g ns H H' c s):H'.live (H.next+1) 0=some (113,[.lit (.int .i64 0),.lit (.slice none 0 0),.lit (.slice none 0 0),.lit (.slice none 0 0),.lit (.slice none 0 0)]):=ak h.b1
theorem RdS.l2 {g:Int}{ns:List NodeP}{H H':AHeap}{c:List Int}{s:List Nat}(h:RdS g ns H H' c s):H'.live (H.next+2) 0=some (3,ints c):=ak h.b2
theorem RdS.l3 {g:Int}{ns:List NodeP}{H H':AHeap}{c:List Int}{s:List Nat}(h:RdS g ns H H' c s):H'.live (H.next+3) 0=some (72,s.map bE):=ak h.b3
theorem RdS.l4 {g:Int}{ns:List NodeP}{H H':AHeap}{c:List Int}{s:List Nat}(h:RdS g ns H H' c s):H'.live (H.next+4) 0=some (113,[.lit (.int .i64 g),.vec ns.length (au ns),.own (H.next+2) 0 0 ns.length 1,.own (H.next+3) 0 0 ns.length 1,.lit (.slice none 0 0)]):=ak h.b4
theorem rq {S:Nat->Prop}{H:AHeap}{nx:Nat}(ns:List NodeP):Fz S H nx (.vec ns.length (au ns)) (.vec ns.length (au ns)):=by
 refine .vec rfl fun i hi _=>?_;have:∀ (l:List NodeP) (c:AVal),c∈au l->Fz S H nx c c:=by
  intro l c hc;unfold au at hc;obtain⟨r,hr,hc⟩:=Xg.1 hc;obtain⟨x,_,rfl⟩:=VN.1 hr;unfold NodeP.cells at hc;simp only[List.mem_cons,List.not_mem_nil,or_false]at hc;rcases hc with rfl|rfl|rfl
  ·exact .lit _
  ·exact .ef _
  ·exact .aB _
 exact this ns _ (Wh _)
theorem Uy (g:Int)(hg:1<=g/\g<=60)(ns:List NodeP)(sets:List Nat)(x:NodeP)(hin:ik x.parents ns.length)(hsm:eQ (aQ ns x))(hx1:(x.rows.length:Int)<2 ^ 38)(hx2:∀ r∈x.rows,(r.length:Int)<2 ^ 38)(H:AHeap)(ci si:Nat)
  (h2:H.get ci=some (.arr 0 3 (ints (af ns)))) (h3:H.get si=some (.arr 0 72 (sets.map bE))) (hs:sets.length=ns.length) (K:ARes->AHeap->Prop)
  (hK:K (.ret (.lit (.bool (lq g ns x)))) H):ae Tryd.prog G0 65 [.agg [.lit (.int .i64 g),.vec ns.length (au ns),.own ci 0 0 ns.length 1,.own si 0 0 ns.length 1,.lit (.slice none 0 0)],.agg [.lit (.int .i64 x.card),.vec x.parents.length (ints x.parents),aB x.rows]] H K:=by
 refine(ae.frame (H:=H) (args:=[.agg [.lit (.int .i64 g),.vec ns.length (au ns),.own ci 0 0 ns.length 1,.own si 0 0 ns.length 1,.lit (.slice none 0 0)],.agg [.lit (.int .i64 x.card),.vec x.parents.length (ints x.parents),aB x.rows]]) (args':=[.agg [.lit (.int .i64 g),dk ns,ab (af ns),im sets,.lit (.slice none 0 0)],tx x]) (v':=.lit (.bool (lq g ns x))) aT rfl (fun i hi _=>?_) (Ur g hg ns sets x hin hsm hx1 hx2 cL _ ⟨_,rfl,.lit _⟩)).mono ?_
 ·match i,hi with
  | 0,_ =>
   refine .agg rfl fun i hi _=>?_
   match i,hi with
   | 0,_=>exact .lit _
   | 1,_=>exact rq _
   | 2,_ =>
    have:=Fz.tA (nx:=0) h2 (n:=ns.length) (by rw[aR,bK]) (fun c hc=>by
     obtain⟨z,_,rfl⟩:=VN.1 hc;exact⟨_,rfl⟩)
    show Fz _ _ _ _ (.vec (af ns).length (ints (af ns)));rw[bK];exact this
   | 3,_ =>
    have:=Fz.tA (nx:=0) h3 (n:=ns.length) (by simp [hs]) (fun c hc=>by
     obtain⟨z,_,rfl⟩:=VN.1 hc;exact⟨_,rfl⟩)
    show Fz _ _ _ _ (.vec sets.length (sets.map bE));rw[hs];exact this
   | 4,_=>exact .lit _
  | 1,_ =>
   refine .agg rfl fun i hi _=>?_
   match i,hi with
   | 0,_=>exact .lit _
   | 1,_=>exact .ef _
   | 2,_=>exact .aB _
 ·rintro r H' ⟨rfl,rfl⟩;exact hK
theorem Uz {ns:List NodeP}{k:Nat}{x:NodeP}(hx:ns[k]?=some x)(h0:∀ q∈x.parents,0<=q)(hm:(k:Int)∈x.parents):¬ nJ (bA ns):=fun h=>by
 have hk:=get_lt (o9 hx);have:=h k hk;rw[bf (o9 hx)]at this;have h1:=wN (bA ns) (bA ns).length (eb x.parents) k (by rw[nI h0];exact VM hm);unfold fE at this;rw[h1]at this;cases this
set_option maxHeartbeats 4000000 in
theorem UA (g:Int)(ns:List NodeP)(hf:gi ns)(H:AHeap)(K:ARes->AHeap->Prop)(hK:K (.ret (if eG g ns then .tup [A7 g ns,aa 0] else .tup [A6,aa 50])) H):ae Tryd.prog G0 56 [aZ g ns] H K:=by
 refine ae.clo ⟨_,Tryd.func56,rfl,rfl⟩ fun hcl=>?_;have no:¬ NetOk g ns->∀ H',Over H H'->av Tryd.prog G0 H K (.tup [.agg [.lit (.int .i64 0),.lit (.slice none 0 0),.lit (.slice none 0 0),.lit (.slice none 0 0),.lit (.slice none 0 0)],.lit (.int .i64 50)]) H':=fun h H' ov=>by
  rw[Gn h]at hK;refine av.bR (v':=.tup [A6,aa 50]) aT hcl ov (.tup rfl fun i hi _=>?_) hK
  match i,hi with
  | 0,_ =>
   refine .agg rfl fun i hi _=>?_
   match i,hi with
   | 0,_=>exact .lit _
   | 1,_=>exact .nil
   | 2,_=>exact .nil
   | 3,_=>exact .nil
   | 4,_=>exact .nil
  | 1,_=>exact .lit _
 refine ae.bF (n:=140) (rs:=[.cell 2 113,.tmp 3]) Tryd.func56 rfl rfl rfl (by decide) (by kernel_rfl) (by simp) ?_;simp only[go_sem,aZ,dk];have l1:=ak (dN H (.arr 0 36 [.lit (.int .i64 g),.vec ns.length (au ns)]) [.arr 0 113 [.lit (.int .i64 0),.lit (.slice none 0 0),.lit (.slice none 0 0),.lit (.slice none 0 0),.lit (.slice none 0 0)]]);by_cases c1:g<1
 ·simp only[go_sem,c1];exact no (fun h=>by have:=h.g1;omega) _ (.ext _ _)
 by_cases c2:g > 60
 ·simp only[go_sem,l1,c1,c2];exact no (fun h=>by have:=h.g1;omega) _ (.ext _ _)
 by_cases c3:(ns.length:Int)<1
 ·simp only[go_sem,l1,c1,c2,c3];exact no (fun h=>by have:=h.n1;omega) _ (.ext _ _)
 by_cases c4:(ns.length:Int) > 8
 ·simp only[go_sem,l1,c1,c2,c3,c4];exact no (fun h=>by have:=h.n1;omega) _ (.ext _ _)
 simp only[go_sem,l1,c1,c2,c3,c4];refine W.draw 11 [0,0,2,6,14,0,32,96,224,511,0] Tryd.mixed (by kernel_rfl) (by kernel_rfl) ?_;simp only[go_sem,l1]
 repeat (refine And.intro (by first|omega|(simp;done)|(simp;omega)|(intros;omega)|exact⟨rfl,by omega,by omega,oc _⟩) ?_)
 obtain⟨Hb,hHb⟩:∃ Hb,Hb=ext (ext H [.arr 0 36 [.lit (.int .i64 g),.vec ns.length (au ns)],.arr 0 113 [.lit (.int .i64 0),.lit (.slice none 0 0),.lit (.slice none 0 0),.lit (.slice none 0 0),.lit (.slice none 0 0)],.arr 0 3 (List.replicate ns.length (.lit (.int .i64 0))),.arr 0 72 (List.replicate ns.length (.lit (.int .u64 0)))]) [.arr 0 113 [.lit (.int .i64 g),.vec ns.length (au ns),.own (H.next+2) 0 0 ns.length 1,.own (H.next+3) 0 0 ns.length 1,.lit (.slice none 0 0)]]:=⟨_,rfl⟩
 rw[<- hHb];have R0:RdS g ns H Hb (List.replicate ns.length 0) (List.replicate ns.length 0):=by
  rw[hHb,p7];exact⟨by simp [dF],.ext _ _,dN ..,bC H _ 1 (by simp),by rw[bC H _ 2 (by simp)];simp [ints,aa],by rw[bC H _ 3 (by simp)];simp [bE],bC H _ 4 (by simp),by simp,by simp⟩
 have hcard:∀ {k:Nat},(∀ x∈ns.take k,1<=x.card/\x.card<=4)->eQ ((af ns).take k):=fun {k} h=>rm (by simp [af];omega) fun c hc=>by
  rw[show (af ns).take k=af (ns.take k) by simp [af]]at hc;obtain⟨y,hy,rfl⟩:=VN.1 hc;exact h y hy
 refine W.aG 37778930737057254867176 (by rfl) (fun ρ H'=>∃ (k:Nat) (c:List Int),ρ 50=aa k/\k<=ns.length/\ρ 5=aa (aA ((af ns).take k))/\RdS g ns H H' c (List.replicate ns.length 0)/\Hb.next<=H'.next/\c.take k=(af ns).take k/\∀ x∈ns.take k,1<=x.card/\x.card<=4) (fun ρ H=>ns.length - (iv (ρ 50)).toNat) ?_ ?_
 ·simp only[go_sem];exact⟨0,_,rfl,by omega,by simp [iQ],R0,by simp⟩
 rintro ρ H' ⟨k,c,h50,hk,h5,R,hn,hc,hall⟩;refine W.vs ?_;have q0:=R.l0;have q1:=R.l1;have q2:=R.l2;have q4:=R.l4;have rn:=R.nx;by_cases hb:(k:Int)<ns.length
 ·obtain⟨x,hx⟩:=get_of_lt (l:=ns) (i:=k) (by omega);have hxm:=Vs hx;have hne:=eP hx;have e0:=kC hx;have e1:k*3+3<=(au ns).length:=by rw[fT];omega
  have R2:=R.over (.ext H' [.arr 0 53 [.lit (.int .i64 x.card),.vec x.parents.length (ints x.parents),aB x.rows]]);have p1:=R2.l1;have p2:=R2.l2;have p4:=R2.l4;have nb1:¬ H.next+1=H'.next:=by omega
  have nb2:¬ H.next+2=H'.next:=by omega
  have nb4:¬ H.next+4=H'.next:=by omega
  by_cases d1:x.card<1
  ·simp only[go_sem,h50,p1,hb,hne,e0,e1,d1];exact no (fun h=>by have:=(h.node x hxm).1;omega) _ (R2.ov.upd (by omega) _)
  by_cases d2:x.card > 4
  ·simp only[go_sem,h50,p1,hb,hne,e0,e1,d1,d2];exact no (fun h=>by have:=(h.node x hxm).1;omega) _ (R2.ov.upd (by omega) _)
  have hall':∀ y∈ns.take (k+1),1<=y.card/\y.card<=4:=fun y hy=>by
   rw[aL hx]at hy;rcases VP.1 hy with hy|hy
   ·exact hall y hy
   ·obtain rfl:=List.mem_singleton.1 hy;exact⟨by omega,by omega⟩
  have b2:=(hcard hall').prod;rw[aL (cN hx),jM]at b2;have w1:=Vt ((k:Int)+1) (by omega);have w2:=Vt (aA ((af ns).take k)*x.card) (by omega);have hkc:k<c.length:=by rw[R.cl];omega
  have p0:∀ b,((ext H' [.arr 0 53 [.lit (.int .i64 x.card),.vec x.parents.length (ints x.parents),aB x.rows]]).upd (H.next+2) b).live H'.next 0=some (53,[.lit (.int .i64 x.card),.vec x.parents.length (ints x.parents),aB x.rows]):=fun b=>by
   rw[GM (by omega)];exact ak cS
  simp only[go_sem,h50,h5,p2,p4,p0,hb,hne,e0,e1,d1,d2,w1,w2];exact⟨by omega,by rw[aE,dF];omega,⟨k+1,_,by simp,by omega,by rw[aL (cN hx),jM],R2.Uw hkc x.card,by rw[aE,dF];omega,U9 hc hkc (cN hx),fun y hy=>hall' y hy⟩,by omega⟩
 have ek:k=ns.length:=by omega
 subst ek;rw[Vz (Nat.le_refl _)]at hall;rw[Vz (by rw[bK];omega)]at h5;have ec:c=af ns:=by
  rw[Vz (by rw[R.cl];omega),Vz (by rw[bK];omega)]at hc;exact hc
 subst ec;by_cases c5:aA (af ns) > 1024
 ·simp only[go_sem,h50,h5,q1,hb,c5];exact no (fun h=>by have:=h.size;omega) _ (R.ov.upd (by omega) _)
 simp only[go_sem,h50,h5,q4,hb,c5];refine W.aG 340282366920933627760096148915069392648 (by rfl) (fun ρ' H2=>∃ (k:Nat) (s:List Nat),ρ' 82=aa k/\k<=ns.length/\RdS g ns H H2 (af ns) s/\H'.next<=H2.next/\s.take k=(bA ns).take k/\(∀ j,k<=j->s.getD j 0=0)/\∀ x∈ns.take k,dL x.parents ns.length/\ju g ns x) (fun ρ' H=>ns.length - (iv (ρ' 82)).toNat) ?_ ?_
 ·simp only[go_sem];refine⟨0,_,rfl,by omega,R,rfl,fun j _=>?_,by simp⟩;rw[Vy,WY];split<;>rfl
 rintro ρ' H2 ⟨k,s,h82,hk2,R2,hn2,hs,hs0,hall2⟩;refine W.vs ?_;have r2:=R2.nx;have q4:=R2.l4;by_cases hb2:(k:Int)<ns.length;rotate_left
 ·have es:s=bA ns:=by
   rw[Vz (by rw[R2.sl];omega),Vz (by simp [bA];omega)]at hs;exact hs
  subst es;rw[Vz (by omega)]at hall2;have hlt:∀ p∈bA ns,p<2 ^ ns.length:=xe fun x hx q hq=>(hall2 x hx).1.2 q hq;have hsl:(bA ns).length=ns.length:=by simp [bA]
  have hlt64:∀ p∈bA ns,p<2 ^ 64:=fun p hp=>VL (hlt p hp) (VT (by decide) (by omega));have hto:=FG (ps:=bA ns) (by rw[hsl];exact hlt) (by omega);simp only[go_sem,h82,q4,hb2];have fzs:=Fz.tA (nx:=0) R2.b3 (n:=ns.length) (by simp [R2.sl]) (fun c hc=>by
   obtain⟨z,_,rfl⟩:=VN.1 hc;exact⟨_,rfl⟩)
  refine aw.clo (Uv (bA ns) (by omega) hlt64 _ _ (by show Fz _ _ _ _ (.vec (bA ns).length _);rw[hsl];exact fzs) _ ⟨trivial,?_⟩);have q1:=R2.l1;cases hso:(fF (bA ns)).isSome
  ·simp only[go_sem,q1];exact no (fun h=>by rw[hto.2 h.acyc]at hso;cases hso) _ (R2.ov.upd (by omega) _)
  have hok:NetOk g ns:=⟨by omega,by omega,fun x hx=>⟨hall x hx,(hall2 x hx).1⟩,by omega,hto.1 hso,fun x hx=>(hall2 x hx).2⟩
  rw[tv hok]at hK;have q1b:∀ b,(H2.upd (H.next+4) b).live (H.next+1) 0=_:=fun b=>(GM (by omega)).trans q1;simp only[go_sem,q1b,q4];have ovf:Over H ((H2.upd (H.next+4) (.arr 0 113 [.lit (.int .i64 g),.vec ns.length (au ns),.own (H.next+2) 0 0 ns.length 1,.own (H.next+3) 0 0 ns.length 1,.vec (gp ((fF (bA ns)).getD [])).length (ints (gp ((fF (bA ns)).getD [])))])).upd (H.next+1) (.arr 0 113 [.lit (.int .i64 g),.vec ns.length (au ns),.own (H.next+2) 0 0 ns.length 1,.own (H.next+3) 0 0 ns.length 1,.vec (gp ((fF (bA ns)).getD [])).length (ints (gp ((fF (bA ns)).getD [])))])):=(R2.ov.upd (by omega) _).upd (by omega) _;refine av.bR (v':=.tup [A7 g ns,aa 0]) aT hcl ovf (.tup rfl fun i hi _=>?_) hK
  match i,hi with
  | 1,_=>exact .lit _
  | 0,_ =>
   refine .agg rfl fun i hi _=>?_
   match i,hi with
   | 0,_=>exact .lit _
   | 1,_=>exact rq _
   | 2,_ =>
    have hg2:∀ b b',((H2.upd (H.next+4) b).upd (H.next+1) b').get (H.next+2)=some (.arr 0 3 (ints (af ns))):=fun b b'=>by rw[ag,Vw (by omega),ag,Vw (by omega)];exact R2.b2
    show Fz _ _ _ (.own (H.next+2) 0 0 ns.length 1) (.vec (af ns).length (ints (af ns)));rw[<- bK ns];exact .ints (by show H.next<=_;omega) (hg2 _ _) (by simp) fun i hi=>by simp [eZ,hi]
   | 3,_ =>
    have hg3:∀ b b',((H2.upd (H.next+4) b).upd (H.next+1) b').get (H.next+3)=some (.arr 0 72 ((bA ns).map bE)):=fun b b'=>by rw[ag,Vw (by omega),ag,Vw (by omega)];exact R2.b3
    show Fz _ _ _ (.own (H.next+3) 0 0 ns.length 1) (.vec (bA ns).length ((bA ns).map bE));rw[<- hsl];refine .frz (by show H.next<=_;omega) (hg3 _ _) (by simp) fun j hj h2 h'=>?_;simp only[Nat.zero_add,VF];exact .lit _
   | 4,_=>exact .ef _
 obtain⟨x,hx⟩:=get_of_lt (l:=ns) (i:=k) (by omega);have hxm:=Vs hx;have hne:=eP hx;have e0:=kC hx;have e1:k*3+3<=(au ns).length:=by rw[fT];omega
 obtain⟨f1,f2,f3⟩:=hf.2 x hxm;simp only[go_sem,h82,hb2,hne,e0,e1];obtain⟨H3,hH3⟩:∃ H3,H3=ext H2 [.arr 0 53 [.lit (.int .i64 x.card),.vec x.parents.length (ints x.parents),aB x.rows]]:=⟨_,rfl⟩
 have R3:RdS g ns H H3 (af ns) s:=by rw[hH3];exact R2.over (.ext _ _)
 have nn:H3.next=H2.next+1:=by rw[hH3];rfl
 have gN:H3.get H2.next=some (.arr 0 53 [.lit (.int .i64 x.card),.vec x.parents.length (ints x.parents),aB x.rows]):=by rw[hH3];exact cS
 rw[<- hH3];have hks:k<s.length:=by rw[R2.sl];omega
 have s0:s.set k 0=s:=by
  apply V9;intro i;rw[W3];split
  ·rename_i h;subst h;have:=hs0 k (Nat.le_refl _);rw[Vy,Vv hks]at this;simp only[Option.getD_some]at this;rw[Vv hks,this]
  ·rfl
 refine W.aG 5316911981901723452329847966222259208 (by rfl) (fun ρ2 H4=>∃ (j:Nat) (b:Int),ρ2 90=aa j/\j<=x.parents.length/\ρ2 10=aa b/\dL (x.parents.take j) ns.length/\(x.parents.take j).getLast?.getD (-1)=b/\RdS g ns H H4 (af ns) (s.set k (eb (x.parents.take j)))/\H3.next<=H4.next/\H4.get H2.next=some (.arr 0 53 [.lit (.int .i64 x.card),.vec x.parents.length (ints x.parents),aB x.rows])/\¬ (k:Int)∈x.parents.take j)
  (fun ρ2 H=>x.parents.length - (iv (ρ2 90)).toNat) ?_ ?_
 ·simp only[go_sem];exact⟨0,-1,rfl,by omega,rfl,.nil,rfl,by rw[show eb (x.parents.take 0)=0 from rfl,s0];exact R3,gN,by simp⟩
 rintro ρ2 H4 ⟨j,b,h90,hj,h10,hp,hbl,R4,hn4,gN4,hself⟩;refine W.vs ?_;have r4:=R4.nx;have t1:=R4.l1;have t3:=R4.l3;have t4:=R4.l4;have tN:=ak gN4;by_cases hb3:(j:Int)<x.parents.length
 ·obtain⟨a,ha⟩:=get_of_lt (l:=x.parents) (i:=j) (by omega);have ham:=Vs ha;have hane:=aJ ha;by_cases d1:a<=b
  ·simp only[go_sem,h90,h10,hb3,ha,hane,d1,t1];refine no (fun h=>?_) _ (R4.ov.upd (by omega) _);have hpl:=(h.node x hxm).2;have h0:=hpl.2 a ham;rcases Yf j with rfl|hk0
   ·simp at hbl;omega
   ·obtain⟨i,rfl⟩:∃ i,j=i+1:=⟨j - 1,by omega⟩
    obtain⟨b',hbj⟩:=get_of_lt (l:=x.parents) (i:=i) (by omega);rw[A3 hbj]at hbl;have:=hpl.lt hbj ha (by omega);simp at hbl;omega
  by_cases d2:a >= ns.length
  ·simp only[go_sem,h90,h10,hb3,ha,hane,d1,d2,t1,t4];exact no (fun h=>by have:=(h.node x hxm).2.2 a ham;omega) _ (R4.ov.upd (by omega) _)
  have h0:0<=a:=by
   rcases hg:(x.parents.take j).getLast? with _|b'
   ·rw[hg]at hbl;simp at hbl;omega
   ·rw[hg]at hbl;have:=hp.2 b' (List.mem_of_getLast? hg);simp at hbl;omega
  by_cases d3:a=k
  ·have d1':¬ (k:Int)<=b:=(by omega);have d2':¬ (k:Int) >= ns.length:=(by omega);simp only[go_sem,h90,h10,hb3,ha,hane,d1',d2',d3,t1,t4];exact no (fun h=>Uz hx (fun q hq=>((h.node x hxm).2.2 q hq).1) (by rw[<- d3];exact ham) h.acyc) _ (R4.ov.upd (id:=H.next+1) (by omega) _)
  obtain⟨u,rfl⟩:=VU h0;have w1:=Vt ((j:Int)+1) (by omega);have bm:eb (x.parents.take j)<2 ^ 64:=AM fun p hp'=>by have:=hp.2 p hp';omega
  have v1:=fun t x y=>Bc (P:=Tryd.prog) (t:=t) (x:=x) (y:=y) (k':=.i64) (s:=u) (by omega);have v2:=fun t x y=>xm (P:=Tryd.prog) (t:=t) (x:=x) (y:=y) (b:=2 ^ u) bm (X5 (by decide) (by omega));have gs:(s.set k (eb (x.parents.take j)))[k]?=some (eb (x.parents.take j)):=VI hks;simp only[go_sem,h90,h10,hb3,ha,hane,d1,d2,d3,t4];refine W.draw 7 [0,1,0,7,15,0,32] Tryd.mixed (by kernel_rfl) (by kernel_rfl) ?_;simp only[go_sem,h90,hb2,t3,t4,gs,v1,v2,w1]
  repeat (refine And.intro (by first|omega|(simp;done)|(simp;omega)|(intros;omega)|exact⟨rfl,by omega,by omega,oc _⟩) ?_)
  have R5:=R4.Ux (k:=k) (by simpa using hks) (eb (x.parents.take j) ||| 2 ^ u);rw[X2]at R5;have esn:eb (x.parents.take (j+1))=eb (x.parents.take j) ||| 2 ^ u:=by rw[aL ha,FB];rfl
  refine⟨by rw[aE];omega,⟨j+1,u,by simp,by omega,rfl,?_,by rw[A3 ha];rfl,by rw[esn];exact R5,by rw[aE];omega,by rw[ag,Vw (by omega)];exact gN4,fun hm=>?_⟩,by omega⟩
  ·rw[aL ha];exact hp.snoc ⟨by omega,by omega⟩ fun b' hb'=>by rw[hb']at hbl;simp at hbl;omega
  ·rw[aL ha]at hm;rcases VP.1 hm with hm|hm
   ·exact hself hm
   ·exact d3 (List.mem_singleton.1 hm).symm
 ·have hb3':=hb3;rw[Vz (by omega)]at hp hself R4;simp only[go_sem,h90,hb3,t4,tN];have hin:ik x.parents ns.length:=fun q hq=>by have:=hp.2 q hq;omega
  refine aw.clo (Uy g ⟨by omega,by omega⟩ ns _ x hin (tw (by omega) hp hall) f2 f3 _ (H.next+2) (H.next+3) R4.b2 R4.b3 R4.sl _ ⟨trivial,?_⟩);cases hnb:lq g ns x
  ·simp only[go_sem,t1];exact no (fun h=>by rw[Gt (h.rows x hxm)]at hnb;cases hnb) _ (R4.ov.upd (by omega) _)
  have w1:=Vt ((k:Int)+1) (by omega);simp only[go_sem,h82,w1];refine⟨by omega,⟨k+1,_,by simp,by omega,R4,by omega,?_,fun i hi=>?_,fun y hy=>?_⟩,by omega⟩
  ·have h1:=o9 hx;rw[aL h1,aL (VI hks),XL (Nat.le_refl k),hs]
  ·rw[Vy,VS (by omega),<- Vy];exact hs0 i (by omega)
  ·rw[aL hx]at hy;rcases VP.1 hy with hy|hy
   ·exact hall2 y hy
   ·obtain rfl:=List.mem_singleton.1 hy;exact⟨hp,Uq.1 hnb⟩
theorem Gv (g:Int)(ns:List NodeP)(hf:gi ns)(H:AHeap)(K:ARes->AHeap->Prop)(hK:K (.ret (aa (if eG g ns then 0 else 50))) H):ae Tryd.prog G0 35 [aZ g ns] H K:=by
 refine ae.clo ⟨_,Tryd.func35,rfl,rfl⟩ fun hcl=>?_;refine ae.bF (n:=11) (rs:=[.tmp 2]) Tryd.func35 rfl rfl rfl (by decide) (by kernel_rfl) (by simp) ?_;simp only[go_sem,aZ,dk];refine aw.clo (UA g ns hf _ _ ⟨trivial,?_⟩);cases hb:eG g ns
 ·rw[hb]at hK;simp only[go_sem,A6,List.length_nil];exact av.bR aT hcl (.ext _ _) (.lit _) hK
 ·rw[hb]at hK;simp only[go_sem,A7,dk];exact av.bR aT hcl (.ext _ _) (.lit _) hK
def FH (D v:Nat):List Nat := (List.range v).filter fun v => D.testBit v
def FI (D v:Nat):Nat := (FH D v).length
def AR (d:InfP):List Nat := FH d.decs d.nodes.length
def S6 (g card x:Int):List Int := (List.replicate card.toNat 0).set x.toNat g
def FJ (ns:List NodeP)(x:NodeP):Nat := (aA (aQ ns x)).toNat
def S7 (g:Int)(ns:List NodeP)(c:Nat -> Nat -> Int)(p:Nat)(x:NodeP):List (List Int) := (List.range (FJ ns x)).map fun r => S6 g x.card (c p r)
def S8 (d:InfP)(c:Nat -> Nat -> Int)(k v:Nat)(x:NodeP):NodeP := if d.decs.testBit v = true /\ FI d.decs v < k then { x with rows := x.rows ++ S7 d.grain d.nodes c (FI d.decs v) x } else x
def S9 (d:InfP)(c:Nat -> Nat -> Int)(k:Nat):List NodeP := d.nodes.zipIdx.map fun p => S8 d c k p.2 p.1
def Td (d:InfP)(c:Nat -> Nat -> Int):List NodeP := S9 d c (AR d).length
structure RightN (d:InfP):Prop where
 n1:1<=d.nodes.length/\d.nodes.length<=8
 decs:d.decs >>> d.nodes.length=0
 card:∀ x∈d.nodes,1<=x.card/\x.card<=4
 dec:∀ v x,d.nodes[v]?=some x->d.decs.testBit v=true->x.rows=[]/\dL x.parents d.nodes.length
structure InfFit (d:InfP):Prop where
 nodes:gi d.nodes
 decs:d.decs<2 ^ 64
 utils:(d.utils.length:Int)<2 ^ 38/\∀ u∈d.utils,(u.vars.length:Int)<2 ^ 38/\(u.w.length:Int)<2 ^ 38
end Go.Proofs
namespace Go.Hx
variable {P:Program} {G:Nat->Option (List AVal)}
def AHeap.fq (H:AHeap)(rk ob:Nat)(b:Blk):AHeap:=⟨fun id=>if id=rk then none else if id=ob then some b else H.get id,H.next⟩
theorem Vb {H:AHeap}(hc:Clo H){rk ob g:Nat}{e:TypeId}{cells cells':List AVal}(hob:H.get ob=some (.arr g e cells))(hne:ob≠rk)(hl:cells'.length=cells.length)
  (hcell:∀ i (h:i<cells.length) (h':i<cells'.length),Fz (fun id=>id=rk) H H.next cells[i] cells'[i]):FzH (fun id=>id=rk) H (H.fq rk ob (.arr g e cells')) where
 gone id hs:=by simp [AHeap.fq,hs]
 kept id b hs hb:=by
  have hbb:=hc.below id b hb;refine⟨hc.lt id b hb,?_⟩;by_cases h:id=ob
  ·subst h;rw[hob]at hb;cases hb;exact⟨.arr g e cells',by simp [AHeap.fq,hs],rfl,rfl,hl,hcell⟩
  ·refine⟨b,by simp [AHeap.fq,hs,h,hb],?_⟩;cases b with
   | rsv=>trivial
   | mp=>rfl
   | arr g e cells=>exact⟨rfl,rfl,rfl,fun i h _=>.dead (hbb i h)⟩
   | loop st pend n env ps asg body=>exact⟨rfl,rfl,rfl,rfl,rfl,rfl,rfl,fun t ht=>.dead (hbb t ht)⟩
 none id hs hb:=by
  by_cases h:id=ob
  ·subst h;rw[hob]at hb;cases hb
  ·simp [AHeap.fq,hs,h,hb]
theorem dD.fq (hG:gE G){s:St}{rk ob g:Nat}{e:TypeId}{cells cells':List AVal}(hob:s.H.get ob=some (.arr g e cells))(hne:ob≠rk)(hl:cells'.length=cells.length)
  (hcell:∀ i (h:i<cells.length) (h':i<cells'.length),Fz (fun id=>id=rk) s.H s.H.next cells[i] cells'[i]):dD P G s ⟨s.ρ,s.H.fq rk ob (.arr g e cells')⟩:=by
 intro n wb Γ a w hs;exact dD.freeze (s:=s) (s':=⟨s.ρ,s.H.fq rk ob (.arr g e cells')⟩) hG (Vb hs.heap.clo hob hne hl hcell) (fun t=>.dead (hs.env t).p6) n wb Γ a w hs
theorem Bd {H:AHeap}{rk ob:Nat}{b:Blk}(h:ob≠rk):(H.fq rk ob b).get ob=some b:=by simp [AHeap.fq,h]
theorem Be {H:AHeap}{rk ob id:Nat}{b:Blk}(h:id≠rk)(h2:id≠ob):(H.fq rk ob b).get id=H.get id:=by simp [AHeap.fq,h,h2]
theorem GO {S:Nat->Prop}{H:AHeap}{nx:Nat}{l:List AVal}{i:Nat}{a b:AVal}(hl:∀ v,v∈l->Fz S H nx v v)(hab:Fz S H nx a b):∀ j (h:j<(l.set i a).length) (h':j<(l.set i b).length),Fz S H nx (l.set i a)[j] (l.set i b)[j]:=by
 intro j h h';rw[XJ,XJ];split
 ·exact hab
 ·exact hl _ (Wh _)
theorem W.xq {n:Nat}{rd:Option Nat}{Q Q':AX->St->Prop}{c:Code}{s:St}(h:W P G n rd c Q' s)(hw:∀ e s2,Q' e s2->∃ s3,dD P G s2 s3/\s2.H.next<=s3.H.next/\eH s3.H rd/\Q e s3):W P G n rd c Q s:=by
 intro wb Γ a w rb hs hr;refine wpIn_mono (h wb Γ a w rb hs hr) fun e a' w' hp=>?_;obtain⟨x,s',Γ',hx,hq,hrel,E,hn,hrd,hfr⟩:=hp;obtain⟨s3,hw3,hn3,hri,hq3⟩:=hw x s' hq;obtain⟨Γ3,hs3,E3,hrd3⟩:=hw3 n wb Γ' a' w' hrel;exact⟨x,s3,Γ3,hx,hq3,hs3,E.trans hn E3,We hn hn3,hrd3 rd rb hrd hri,hfr⟩
theorem aC.ne {lo:Nat}{H:AHeap}{e:TypeId}{v:AVal}{cs:List AVal}(h:aC lo H e v cs){k:Nat}(hk:k<lo):∀ g n,v≠.own k g 0 n 1:=fun g n he=>by
 rcases h with ⟨h,_⟩|⟨i2,g2,a1,_,h,_⟩
 ·rw[h]at he;cases he
 ·rw[h]at he;have:=AVal.own.inj he;omega
def ed (lo:Nat)(H:AHeap)(e:TypeId)(z:Nat)(v:AVal)(n:Nat)(cs:List AVal):Prop :=
 (v=.lit (.slice none 0 0)/\n=0/\cs=[])\/∃ id g,lo<=id/\id<H.next/\v=.own id g 0 n z/\cs.length=n*z/\H.get id=some (.arr g e cs)
theorem ed.nil {lo:Nat}{H:AHeap}{e:TypeId}{z:Nat}:ed lo H e z (.lit (.slice none 0 0)) 0 []:=.inl ⟨rfl,rfl,rfl⟩
theorem ed.keep {lo:Nat}{H H':AHeap}{e:TypeId}{z n:Nat}{v:AVal}{cs:List AVal}(h:ed lo H e z v n cs)(hn:H.next<=H'.next)(hk:∀ id g,lo<=id->id<H.next->v=.own id g 0 n z->H'.get id=H.get id):ed lo H' e z v n cs:=by
 rcases h with h|⟨id,g,h1,h2,h3,h4,h5⟩
 ·exact .inl h
 ·exact .inr ⟨id,g,h1,by omega,h3,h4,(hk id g h1 h2 h3).trans h5⟩
theorem ed.over {lo:Nat}{H H':AHeap}{e:TypeId}{z n:Nat}{v:AVal}{cs:List AVal}(h:ed lo H e z v n cs)(ho:Over H H'):ed lo H' e z v n cs:=h.keep ho.next fun id _ _ h2 _=>ho.old id h2
theorem ed.one {lo:Nat}{H:AHeap}{e:TypeId}{z n:Nat}{v:AVal}{cs:List AVal}(h:ed lo H e z v n cs):v.one=true:=by
 rcases h with ⟨rfl,_⟩|⟨_,_,_,_,rfl,_⟩<;>rfl
theorem ed.cells {lo:Nat}{H:AHeap}{e:TypeId}{z n:Nat}{v:AVal}{cs:List AVal}(h:ed lo H e z v n cs):v.cells=[v]:=by
 rcases h with ⟨rfl,_⟩|⟨_,_,_,_,rfl,_⟩<;>rfl
theorem ed.ne {lo:Nat}{H:AHeap}{e:TypeId}{z m:Nat}{v:AVal}{cs:List AVal}(h:ed lo H e z v m cs){k:Nat}(hk:k<lo):∀ g n,v≠.own k g 0 n z:=fun g n he=>by
 rcases h with ⟨h,_⟩|⟨i2,g2,a1,_,h,_⟩
 ·rw[h]at he;cases he
 ·rw[h]at he;have:=AVal.own.inj he;omega
theorem GP {H:AHeap}{t e:TypeId}{lo n z m:Nat}{v:AVal}{cs xs:List AVal}{zs:List AVal}(ht:P.underlying t=some (.slice e))(hz:P.cellsOf e=z)(hzero:bW P e=some zs)(hx:xs.all AVal.one=true)(hxl:xs.length=z)
  (hb:(n+1)*P.bytesOf e<=2 ^ 46/\n+1<=2 ^ 46) (ho:ed lo H e z v n cs) (hlo:lo<=H.next) (hn:m=H.next+1):
  ∃ v' H',bM P (ext H [.arr 0 e xs]) m t t v (.own H.next 0 0 1 z)=some (v',H')/\ed lo H' e z v' (n+1) (cs++xs)/\H.next<=H'.next/\(∀ k,k<H.next->(∀ g n,v≠.own k g 0 n z)->H'.get k=H.get k):=by
 have hne:(ext H [.arr 0 e xs]).next=H.next+1:=rfl;have hsrc:cR (ext H [.arr 0 e xs]) z (.own H.next 0 0 1 z)=some (1,xs):=by
  unfold cR;have:=ak (H:=ext H [.arr 0 e xs]) (g:=0) (cS (b:=.arr 0 e xs));simp [this,<- hxl]
 rcases ho with ⟨rfl,rfl,rfl⟩|⟨i,g,h1,h2,rfl,h4,h5⟩
 ·refine⟨.own m 0 0 1 z,ext (ext H [.arr 0 e xs]) [.arr 0 e xs],?_,.inr ⟨m,0,by omega,by rw[dF,hne,hn];simp,by simp,by simp [hxl],?_⟩,by rw[dF,hne];omega,fun k hk _=>?_⟩
  ·unfold bM;rw[ht];simp only[hzero,hz,Option.bind_some];rw[hsrc];simp only[Option.bind_some];rw[Vw (by decide),Vx (by simpa using hb),uy (by rw[hn,hne])];rfl
  ·rw[hn,<- hne];exact cS
  ·rw[fb (by rw[hne];omega),fb hk]
 ·have h5':(ext H [.arr 0 e xs]).get i=some (.arr g e cs):=by rw[fb h2];exact h5
  refine⟨.own i (g+1) 0 (n+1) z,(ext H [.arr 0 e xs]).upd i (.arr (g+1) e (cs++xs)),?_,.inr ⟨i,g+1,h1,by rw[aE,hne];omega,rfl,by simp [h4,hxl,Wc],by rw[ag,Vx rfl]⟩,by rw[aE,hne];omega,fun k hk hne2=>?_⟩
  ·unfold bM;rw[ht];have hl:=ak h5';simp only[hzero,hz,Option.bind_some];rw[hsrc];simp only[Option.bind_some,hl];rw[Vx ⟨trivial,trivial,by omega,hb.1,hb.2,hx⟩];simp
  ·rw[ag,Vw,fb hk];rintro rfl;exact hne2 _ _ rfl
end Go.Hx
namespace Go.Proofs
open Go.Hx
def bI (x:NodeP):AVal:=if x.rows=[] then .lit (.slice none 0 0) else aB x.rows
def NodeP.l8 (x:NodeP):List AVal:=[aa x.card,ab x.parents,bI x]
def ie (l:List NodeP):List AVal:=(l.map NodeP.l8).flatten
theorem oQ (l:List NodeP):(ie l).length=l.length*3:=nF (f:=NodeP.l8) (fun _=>rfl) l
theorem FK {l:List NodeP}{i:Nat}{x:NodeP}(h:l[i]?=some x):(ie l)[i*3]?=some (aa x.card):=lp (f:=NodeP.l8) (z:=3) (fun _=>rfl) l i 0 x h (by omega)
theorem Te {l:List NodeP}{i:Nat}{x:NodeP}(h:l[i]?=some x):(ie l)[i*3+1]?=some (ab x.parents):=lp (f:=NodeP.l8) (z:=3) (fun _=>rfl) l i 1 x h (by omega)
theorem Tf {l:List NodeP}{i:Nat}{x:NodeP}(h:l[i]?=some x):(ie l)[i*3+2]?=some (bI x):=lp (f:=NodeP.l8) (z:=3) (fun _=>rfl) l i 2 x h (by omega)
theorem FL (l:List NodeP)(x:NodeP):ie (l++[x])=ie l++[aa x.card,ab x.parents,bI x]:=by unfold ie;simp [NodeP.l8]
theorem Tg {x:NodeP}(h:x.rows≠[]):bI x=aB x.rows:=Vw h
theorem Th {S:Nat->Prop}{H:AHeap}{nx:Nat}(x:NodeP):Fz S H nx (bI x) (aB x.rows):=by
 unfold bI;split
 ·rename_i h;rw[h];exact .nil
 ·exact .aB _
theorem Ti {S:Nat->Prop}{H:AHeap}{nx:Nat}(x:NodeP):Fz S H nx (bI x) (bI x):=by
 unfold bI;split
 ·exact .lit _
 ·exact .aB _
theorem Tj {S:Nat->Prop}{H:AHeap}{nx:Nat}(l:List NodeP):∀ c∈ie l,Fz S H nx c c:=by
 intro c hc;unfold ie at hc;obtain⟨r,hr,hc⟩:=Xg.1 hc;obtain⟨x,_,rfl⟩:=VN.1 hr;unfold NodeP.l8 at hc;simp only[List.mem_cons,List.not_mem_nil,or_false]at hc;rcases hc with rfl|rfl|rfl
 ·exact .lit _
 ·exact .ef _
 ·exact Ti x
structure NodesQ (e:Nat->Prop)(ns:List NodeP)(cs:List AVal):Prop where
 len:cs.length=ns.length*3
 node:∀ (v:Nat) (x:NodeP),ns[v]?=some x->∃ rv,cs[v*3]?=some (aa x.card)/\cs[v*3+1]?=some (ab x.parents)/\cs[v*3+2]?=some rv/\(rv=aB x.rows\/rv=bI x)/\(e v->rv=bI x)
theorem NodesQ.c0 {e:Nat->Prop}{ns:List NodeP}{cs:List AVal}(h:NodesQ e ns cs){v:Nat}{x:NodeP}(hx:ns[v]?=some x):cs[v*3]?=some (aa x.card):=(h.node v x hx).elim fun _ h=>h.1
theorem NodesQ.c1 {e:Nat->Prop}{ns:List NodeP}{cs:List AVal}(h:NodesQ e ns cs){v:Nat}{x:NodeP}(hx:ns[v]?=some x):cs[v*3+1]?=some (ab x.parents):=(h.node v x hx).elim fun _ h=>h.2.1
theorem NodesQ.ne {e:Nat->Prop}{ns:List NodeP}{cs:List AVal}(h:NodesQ e ns cs){v:Nat}{x:NodeP}(hx:ns[v]?=some x):¬ cs=[]:=fun he=>by
 have:=h.c0 hx;rw[he]at this;simp at this
theorem NodesQ.part {e:Nat->Prop}{ns:List NodeP}{cs:List AVal}(h:NodesQ e ns cs){v:Nat}{x:NodeP}(hx:ns[v]?=some x):∃ rv,(cs.drop (v*3)).take 3=[aa x.card,ab x.parents,rv]/\cs[v*3+2]?=some rv/\(rv=aB x.rows\/rv=bI x)/\(e v->rv=bI x):=by
 obtain⟨rv,a,b,c,d,f⟩:=h.node v x hx;refine⟨rv,?_,c,d,f⟩;have h3:=get_lt c;rw[Wn (by omega),Wn (by omega),Wn (by omega)];simp only[List.take_succ_cons,List.take_zero];rw[Vv (by omega)]at a b c;rw[Option.some.inj a,Option.some.inj b,Option.some.inj c]
theorem NodesQ.nil {e:Nat->Prop}:NodesQ e [] []:=⟨rfl,fun v x hx=>by simp at hx⟩
theorem NodesQ.snoc {e:Nat->Prop}{ns:List NodeP}{cs:List AVal}(h:NodesQ e ns cs){x:NodeP}{rv:AVal}(h1:rv=aB x.rows\/rv=bI x)(h2:e ns.length->rv=bI x):NodesQ e (ns++[x]) (cs++[aa x.card,ab x.parents,rv]):=by
 have hl:=h.len;refine⟨by simp [hl];omega,fun v y hy=>?_⟩;by_cases hv:v<ns.length
 ·rw[VV hv]at hy;obtain⟨r,a,b,c,d⟩:=h.node v y hy;exact⟨r,by rw[VV (by omega)];exact a,by rw[VV (by omega)];exact b,by rw[VV (by omega)];exact c,d⟩
 ·have:v=ns.length:=by have:=get_lt hy;simp at this;omega
  subst this;rw[VQ (by omega),W8]at hy;cases hy;refine⟨rv,?_,?_,?_,h1,h2⟩
  ·rw[VQ (by omega),show ns.length*3 - cs.length=0 by omega];rfl
  ·rw[VQ (by omega),show ns.length*3+1 - cs.length=1 by omega];rfl
  ·rw[VQ (by omega),show ns.length*3+2 - cs.length=2 by omega];rfl
theorem NodesQ.mono {e e':Nat->Prop}{ns:List NodeP}{cs:List AVal}(h:NodesQ e ns cs)(he:∀ v,e' v->e v):NodesQ e' ns cs:=⟨h.len,fun v x hx=>by
 obtain⟨r,a,b,c,d,f⟩:=h.node v x hx;exact⟨r,a,b,c,d,fun h=>f (he v h)⟩⟩
theorem NodesQ.fzA {e:Nat->Prop}{ns:List NodeP}{cs:List AVal}(h:NodesQ e ns cs){S:Nat->Prop}{H:AHeap}{nx:Nat}:∀ (i:Nat) (h1:i<cs.length) (h2:i<(au ns).length),Fz S H nx cs[i] (au ns)[i]:=by
 intro i h1 h2;have hb:i / 3<ns.length:=by rw[h.len]at h1;omega
 obtain⟨x,hx⟩:=get_of_lt hb;obtain⟨rv,a,b,c,d,_⟩:=h.node _ x hx;have hp:i=(i / 3)*3+i % 3:=by omega
 have g1:cs[i]?=some cs[i]:=Vv h1;have g2:(au ns)[i]?=some (au ns)[i]:=Vv h2;generalize cs[i]=u at g1 ⊢;generalize (au ns)[i]=w at g2 ⊢;have c3:i % 3=0\/i % 3=1\/i % 3=2:=by omega
 rcases c3 with c0|c0|c0
 ·rw[hp,c0,Nat.add_zero,a]at g1;rw[hp,c0,Nat.add_zero,nG hx]at g2;cases g1;cases g2;exact .lit _
 ·rw[hp,c0,b]at g1;rw[hp,c0,tl hx]at g2;cases g1;cases g2;exact .ef _
 ·rw[hp,c0,c]at g1;rw[hp,c0,wJ hx]at g2;cases g1;cases g2;rcases d with d|d<;>rw[d]
  ·exact .aB _
  ·exact Th x
theorem oY {α:Type}{l:List α}{i:Nat}{x:α}(h:l[i]?=some x):l.set i x=l:=by
 apply V9;intro j;rw[W3];split
 ·rename_i hj;subst hj;rw[Vx (get_lt h),h]
 ·rfl
theorem Uc {lo:Nat}{H':AHeap}{v:AVal}{l:List AVal}(x:AVal)(hx:x.one=true)(h:aC lo H' 39 v l)(hlo:lo<=H'.next)(hl:l.length<2 ^ 40):
  ∃ v' H2,bM Tryd.prog (ext H' [.arr 0 39 [x]]) (H'.next+1) 40 40 v (.own H'.next 0 0 1 1)=some (v',H2)/\aC lo H2 39 v' (l++[x])/\H'.next<=H2.next/\(∀ k,k<H'.next->(∀ g n,v≠.own k g 0 n 1)->H2.get k=H'.get k) :=
 jc (P:=Tryd.prog) (H:=H') (t:=40) (x:=x) (n:=H'.next+1) Tryd.underlying40 Tryd.qL Tryd.qN hx (by rw[Tryd.qM];omega) h hlo rfl
structure UtilOk (ns:List NodeP)(u:UtilP):Prop where
 vars:dL u.vars ns.length
 size:(u.w.length:Int)=aA (aP (af ns) u.vars)
 w:∀ x∈u.w,-100<=x/\x<=100
def Ud (d:InfP):Prop:=d.utils.length<=4/\∀ u∈d.utils,UtilOk d.nodes u
structure InfOk (d:InfP):Prop where
 n:RightN d
 net:NetOk d.grain (Td d fun _ _=>0)
 utils:Ud d
structure PolOk (d:InfP)(p:List (List Int)):Prop where
 len:p.length=(AR d).length
 row:∀ (k v:Nat) (x:NodeP) (l:List Int),(AR d)[k]?=some v->d.nodes[v]?=some x->p[k]?=some l->l.length=FJ d.nodes x/\∀ a∈l,0<=a/\a<x.card
end Go.Proofs
namespace Go.Hx
variable {P:Program} {G:Nat->Option (List AVal)} {n:Nat} {rd:Option Nat} {Q:AX->St->Prop}
def xt (N:Nat)(H1 H2:AHeap):Prop:=H1.next<=H2.next/\∀ id,id≠N->id<H1.next->H2.get id=H1.get id
end Go.Hx
namespace Go.Proofs
open Go.Hx
def iR (ns:List NodeP)(x:NodeP)(vals:List Int):List Int:=x.rows.getD (eo (aQ ns x) (aP vals x.parents)).toNat []
def fm (ns:List NodeP)(vals:List Int)(v:Nat):Int:=match ns[v]? with
 | some x=>(iR ns x vals).getD (vals.getD v 0).toNat 0
 | none=>1
def dc (ns:List NodeP)(vals:List Int):List Int:=(List.range ns.length).map (fm ns vals)
def weight (ns:List NodeP)(vals:List Int):Int:=aA (dc ns vals)
def Vq (ns:List NodeP):Nat:=(aA (af ns)).toNat
theorem oR (ns:List NodeP)(vals:List Int):(dc ns vals).length=ns.length:=by simp [dc]
theorem qX {ns:List NodeP}{vals:List Int}{v:Nat}(h:v<ns.length):(dc ns vals)[v]?=some (fm ns vals v):=by
 unfold dc;rw[List.getElem?_map,Wu h];rfl
theorem w9 {ns:List NodeP}{x:NodeP}{vals:List Int}(hin:ik x.parents ns.length)(hf:bP (af ns) vals):bP (aQ ns x) (aP vals x.parents):=by
 refine⟨by unfold aQ;rw[iU,iU],fun k c v h1 h2=>?_⟩;obtain⟨q,hq⟩:=get_of_lt (l:=x.parents) (i:=k) (by have:=get_lt h2;rw[iU]at this;exact this);obtain⟨j,rfl,y,hy⟩:=nH (l:=ns) (hin q (Vs hq)).1 (hin q (Vs hq)).2;obtain⟨b,hb⟩:=get_of_lt (l:=vals) (i:=j) (by rw[hf.1,bK];exact get_lt hy);have e1:(aQ ns x)[k]?=some y.card:=by rw[show (aQ ns x)[k]?=_ from o0 hq,Int.toNat_natCast,bf (cN hy)]
 have e2:(aP vals x.parents)[k]?=some b:=by rw[o0 hq,Int.toNat_natCast,bf hb]
 rw[h1]at e1;rw[h2]at e2;cases e1;cases e2;exact hf.2 j y.card _ (cN hy) hb
structure RowAtW (g:Int)(ns:List NodeP)(x:NodeP)(vals:List Int)(v:Nat)(i:Nat)(r:List Int)(a w:Int):Prop where
 idx:eo (aQ ns x) (aP vals x.parents)=i
 row:x.rows[i]?=some r
 val:vals[v]?=some a
 a0:0<=a
 hw:r[a.toNat]?=some w
 wb:0<=w/\w<=g
 eq:fm ns vals v=w
 rv:iR ns x vals=r
 len:(r.length:Int)=x.card
 al:a<r.length
theorem A0 {g:Int}{ns:List NodeP}(h:NetOk g ns){v:Nat}{x:NodeP}(hx:ns[v]?=some x){vals:List Int}(hf:bP (af ns) vals):∃ i r a w,RowAtW g ns x vals v i r a w:=by
 have hxm:=Vs hx;have hin:ik x.parents ns.length:=fun q hq=>by have:=(h.node x hxm).2.2 q hq;omega
 have hr:=tn (w9 hin hf);obtain⟨r1,r2⟩:=h.rows x hxm;obtain⟨i,hi⟩:=VU hr.1;obtain⟨r,hrr⟩:=get_of_lt (l:=x.rows) (i:=i) (by rw[<- r1,hi]at hr;omega);obtain⟨s1,s2,s3⟩:=r2 r (Vs hrr);obtain⟨a,ha⟩:=get_of_lt (l:=vals) (i:=v) (by rw[hf.1,bK];exact get_lt hx);have hb:=hf.2 v x.card a (cN hx) ha;obtain⟨w,hw⟩:=get_of_lt (l:=r) (i:=a.toNat) (by omega);have rv:iR ns x vals=r:=by unfold iR;rw[hi,Int.toNat_natCast,bf hrr]
 exact⟨i,r,a,w,hi,hrr,ha,hb.1,hw,s2 w (Vs hw),by unfold fm;rw[hx];simp only;rw[rv,bf ha,bf hw],rv,s1,by omega⟩
theorem Ue (k:Nat)(h:k<=8):(60:Int) ^ k<=167961600000000:=by
 have h1:(60:Nat) ^ k<=60 ^ 8:=VT (by decide) h;have h2:(60:Nat) ^ 8=167961600000000:=by decide
 rw[h2]at h1;have h3:=Int.ofNat_le.2 h1;rw[Int.natCast_pow]at h3;exact h3
theorem Gi {g:Int}{ns:List NodeP}(h:NetOk g ns){vals:List Int}(hf:bP (af ns) vals)(k:Nat):0<=aA ((dc ns vals).take k)/\aA ((dc ns vals).take k)<=167961600000000:=by
 have hb:∀ w∈dc ns vals,0<=w/\w<=60:=fun w hw=>by
  obtain⟨v,hv,rfl⟩:=VN.1 hw;obtain⟨x,hx⟩:=get_of_lt (VJ.1 hv);obtain⟨i,r,a,w,hR⟩:=A0 h hx hf;rw[hR.eq];have:=hR.wb;have:=h.g1;omega
 have h1:=oO (b:=60) (by omega) (l:=(dc ns vals).take k) fun x hx=>hb x (VW hx);have h2:=Ue ((dc ns vals).take k).length (by have:=h.n1;rw[VC,oR];omega);omega
theorem Ub (g:Int)(ns:List NodeP)(h8:ns.length<=8)(hc:∀ y∈ns,1<=y.card/\y.card<=4)(H:AHeap)(K:ARes->AHeap->Prop)(hK:K (.ret (aa (aA (af ns)))) H):ae Tryd.prog G0 26 [aZ g ns] H K:=by
 refine ae.clo ⟨_,Tryd.func26,rfl,rfl⟩ fun hcl=>?_;have hcards:∀ c∈af ns,1<=c/\c<=4:=fun c h=>by
  obtain⟨x,hx,rfl⟩:=VN.1 h;exact hc x hx
 have sm:eQ (af ns):=rm (by rw[bK];omega) hcards;refine ae.bF (n:=6) (rs:=[.tmp 2]) Tryd.func26 rfl rfl rfl (by decide) (by kernel_rfl) (by simp) ?_;simp only[go_sem,aZ,dk];refine aw.clo (mA g ns (by omega) _ _ ⟨trivial,?_⟩);simp only[go_sem];refine aw.clo (A1 (af ns) sm _ _ ⟨trivial,?_⟩);simp only[go_sem];exact av.drop aT hcl (.lit _) hK
end Go.Proofs
namespace Go.Hx
open Go.Proofs (get_lt get_of_lt)
variable {P:Program} {H:AHeap} {G:Nat->Option (List AVal)}
def fU (lo:Nat)(H:AHeap)(e1 e0:TypeId)(v:AVal)(rows:List (List AVal)):Prop :=
 ∃ cs:List AVal,aC lo H e1 v cs/\cs.length=rows.length/\(∀ (j:Nat) (r:List AVal) (c:AVal),rows[j]?=some r->cs[j]?=some c->aC lo H e0 c r)/\∀ (i j a g g' n n':Nat),cs[i]?=some (.own a g 0 n 1)->cs[j]?=some (.own a g' 0 n' 1)->i=j
theorem fU.nil {lo:Nat}{e1 e0:TypeId}:fU lo H e1 e0 (.lit (.slice none 0 0)) []:=⟨[],.nil,rfl,fun j r c h=>by simp at h,fun i j a g g' n n' h=>by simp at h⟩
theorem fU.TM {lo:Nat}{e1 e0:TypeId}{v:AVal}{rows:List (List AVal)}(h:fU lo H e1 e0 v rows):jE lo H e1 e0 v rows :=
 let ⟨cs,a,b,c,_⟩:=h;⟨cs,a,b,c⟩
theorem fU.lo {lo lo':Nat}{e1 e0:TypeId}{v:AVal}{rows:List (List AVal)}(h:fU lo H e1 e0 v rows)(hl:lo'<=lo):fU lo' H e1 e0 v rows :=
 let ⟨cs,a,b,c,d⟩:=h;⟨cs,a.keep hl (Nat.le_refl _) fun _ _ _ _ _ _=>rfl,b,fun j r q h1 h2=>(c j r q h1 h2).keep hl (Nat.le_refl _) fun _ _ _ _ _ _=>rfl,d⟩
theorem fU.app {Hx:AHeap}{lo n:Nat}{e1 e0:TypeId}{v x:AVal}{rows:List (List AVal)}{r:List AVal}{t:TypeId}{z:List AVal}(ht:P.underlying t=some (.slice e1))(hz:P.cellsOf e1=1)(hzero:bW P e1=some z)(hby:P.bytesOf e1=24)(hne:e1≠e0)
  (hb:rows.length<2 ^ 40) (h:fU lo Hx e1 e0 v rows) (ho:Over Hx H) (hlo:lo<=Hx.next) (hx:aC Hx.next H e0 x r) (hn:n=H.next+1):
  ∃ v' H',bM P (ext H [.arr 0 e1 [x]]) n t t v (.own H.next 0 0 1 1)=some (v',H')/\fU lo H' e1 e0 v' (rows++[r])/\H.next<=H'.next/\(∀ k,k<H.next->k<lo->H'.get k=H.get k):=by
 obtain⟨cs,h1,h2,h3,h4⟩:=h;have hon:=ho.next;have h1':=h1.over ho;obtain⟨v',H',hA,hO,hL,hp⟩:=jc (P:=P) (t:=t) ht hz hzero hx.one (by rw[hby,h2];omega) h1' (by omega) hn;have key:∀ lo' u l,aC lo' H e0 u l->aC lo' H' e0 u l:=fun lo' u l hu=>h1'.yB hu hne hL hp;have split:∀ (j:Nat) (c:AVal),(cs++[x])[j]?=some c->(j<cs.length/\cs[j]?=some c)\/(j=cs.length/\c=x):=fun j c hc=>by
  rcases VR j cs.length with hj|hj
  ·rw[VV hj]at hc;exact .inl ⟨hj,hc⟩
  ·have:=get_lt hc;rw[List.length_append,Y4]at this;have hj:j=cs.length:=(by omega);subst hj;rw[VQ (Nat.le_refl _),W8]at hc;exact .inr ⟨rfl,(Option.some.inj hc).symm⟩
 have old:∀ (j a g m:Nat),cs[j]?=some (.own a g 0 m 1)->a<Hx.next:=fun j a g m hc=>by
  obtain⟨r',hr'⟩:∃ r',rows[j]?=some r':=⟨_,Vv (by rw[<- h2];exact get_lt hc)⟩
  rcases h3 j r' _ hr' hc with ⟨e,_⟩|⟨i,g',_,b,e,_⟩
  ·cases e
  ·rw[(AVal.own.inj e).1];exact b
 have new:∀ a g m,x=.own a g 0 m 1->Hx.next<=a:=fun a g m he=>by
  rcases hx with ⟨e,_⟩|⟨i,g',b,_,e,_⟩
  ·rw[e]at he;cases he
  ·rw[e]at he;rw[<- (AVal.own.inj he).1];exact b
 refine⟨v',H',hA,⟨cs++[x],hO,by simp [h2],fun j r' c hr hc=>?_,fun i j a g g' m m' hi hj=>?_⟩,hL,fun k hk hkl=>hp k hk (h1.ne hkl)⟩
 ·rcases split j c hc with ⟨a,b⟩|⟨a,b⟩
  ·rw[VV (by omega)]at hr;exact key _ _ _ ((h3 j r' c hr b).over ho)
  ·rw[a,h2,VQ (Nat.le_refl _),W8]at hr;cases hr;rw[b];exact key _ _ _ (hx.keep hlo (Nat.le_refl _) fun _ _ _ _ _ _=>rfl)
 ·rcases split i _ hi with ⟨a1,b1⟩|⟨a1,b1⟩<;>rcases split j _ hj with ⟨a2,b2⟩|⟨a2,b2⟩
  ·exact h4 i j a g g' m m' b1 b2
  ·have:=old i a g m b1;have:=new a g' m' b2.symm;omega
  ·have:=old j a g' m' b2;have:=new a g m b1.symm;omega
  ·omega
theorem fU.row {lo:Nat}{e1 e0:TypeId}{v:AVal}{rows:List (List AVal)}(h:fU lo H e1 e0 v rows)(hne:e1≠e0){k:Nat}{r:List AVal}(hr:rows[k]?=some r)(h0:r≠[]):
  ∃ idt gt idr gr cells,v=.own idt gt 0 rows.length 1/\H.get idt=some (.arr gt e1 cells)/\cells.length=rows.length/\lo<=idt/\idt<H.next/\cells[k]?=some (.own idr gr 0 r.length 1)/\H.get idr=some (.arr gr e0 r)/\lo<=idr/\idr<H.next /\
   ∀ r':List AVal,r'.length=r.length->fU lo (H.upd idr (.arr gr e0 r')) e1 e0 v (rows.set k r'):=by
 obtain⟨cs,h1,h2,h3,h4⟩:=h;have hk:=get_lt hr;obtain⟨c,hc⟩:=get_of_lt (l:=cs) (i:=k) (by omega);rcases h3 k r c hr hc with ⟨_,e⟩|⟨idr,gr,a1,a2,e,a4⟩
 ·exact absurd e h0
 rcases h1 with ⟨_,e'⟩|⟨idt,gt,b1,b2,e',b4⟩
 ·rw[e']at h2;simp at h2;omega
 subst e;have hit:idt≠idr:=fun e=>by rw[e,a4]at b4;cases b4;exact hne rfl
 refine⟨idt,gt,idr,gr,cs,by rw[e',h2],b4,h2,b1,b2,hc,a4,a1,a2,fun r' hl=>⟨cs,.inr ⟨idt,gt,b1,by rw[aE];exact b2,e',by rw[ag,Vw hit];exact b4⟩,by rw[VG];exact h2,fun j q c' hj hc'=>?_,h4⟩⟩;by_cases e:j=k
 ·subst e;rw[VI hk]at hj;rw[hc]at hc';cases hj;cases hc';exact .inr ⟨idr,gr,a1,by rw[aE];exact a2,by rw[hl],by rw[ag,Vx rfl]⟩
 ·rw[VS (fun h=>e h.symm)]at hj;refine(h3 j q c' hj hc').keep (Nat.le_refl _) (by rw[aE];exact Nat.le_refl _) fun i g _ _ _ hv=>?_;rw[ag,Vw];rintro rfl;rw[hv]at hc';exact e (h4 j k i g gr _ _ hc' hc)
end Go.Hx
namespace Go.Proofs
open Go.Hx
theorem TN {S:Nat->Prop}{lo nx:Nat}{H:AHeap}{e1 e0:TypeId}{v:AVal}{ps:List (List Int)}(h:jE lo H e1 e0 v (ps.map ints))(hS:∀ i,lo<=i->S i):Fz S H nx v (aB ps):=by
 have:=h.fz (S:=S) (nx:=nx) (rows':=ps.map ints) hS rfl fun j r r' h1 h2=>by
  rw[h1]at h2;cases h2;refine⟨rfl,fun i hi _=>?_⟩;rw[List.getElem?_map]at h1;obtain⟨z,_,rfl⟩:=Vu.1 h1;have e0:(ints z)[i]?=some (ints z)[i]:=Vv hi;generalize (ints z)[i]=a at e0 ⊢;rw[eZ]at e0;obtain⟨b,_,rfl⟩:=Vu.1 e0;exact .lit _
 rw[VD,Yh]at this;have e:(ps.map ((fun r:List AVal=>AVal.vec r.length r) ∘ ints))=ps.map ab:=V7 fun z _=>by simp [Function.comp,ab,aR]
 rw[e]at this;exact this
set_option maxHeartbeats 1000000 in
theorem Pm (cs:List Int)(h1:∀ c∈cs,1<=c)(hs:eQ cs)(i0:Int)(hi:0<=i0/\i0<=4611686018427387904)(H:AHeap)(K:ARes->AHeap->Prop)(hK:∀ v H',Over H H'->aC H.next H' 3 v (ints (dZ cs i0))->K (.ret v) H'):ae Tryd.prog G0 50 [ab cs,aa i0] H K:=by
 refine ae.clo ⟨_,Tryd.func50,rfl,rfl⟩ fun hcl=>?_;have h12:=hs.1;have w0:=Vt ((cs.length:Int) - 1) (by omega);refine ae.bF (n:=33) (rs:=[.tmp 4]) Tryd.func50 rfl rfl rfl (by decide) (by kernel_rfl) (by simp) ?_;simp only[go_sem,w0];refine⟨by omega,?_⟩;refine W.aG 4294959170 (by rfl) (fun ρ H'=>∃ m:Nat,ρ 6=aa ((m:Int) - 1)/\m<=cs.length/\OwnI H H' H.next (List.replicate m 0++dZ (cs.drop m) i0)/\ρ 1=aa (i0 / aA (cs.drop m))) (fun ρ H=>(iv (ρ 6)+1).toNat) ?_ ?_
 ·simp only[go_sem];refine⟨cs.length,rfl,by omega,?_,?_⟩
  ·rw[YL,show dZ [] i0=[] from rfl,List.append_nil];exact .new [] _
  ·rw[YL,iQ,Int.ediv_one]
 rintro ρ H' ⟨m,h6,hm,ho,h1'⟩;refine W.en (fun E=>E 0=.vec cs.length (ints cs) /\ E 1=aa (i0 / aA (cs.drop m)) /\ E 5=.own H.next 0 0 cs.length 1 /\ E 6=aa ((m:Int) - 1)) (by simp only[go_sem,h1',h6]) fun E ⟨e0,e1,e5,e6⟩=>?_
 refine W.vs ?_;have lN:=ho.live;have clen:(List.replicate m 0++dZ (cs.drop m) i0).length=cs.length:=by simp [qQ];omega
 by_cases hm0:m=0
 ·subst hm0;have e6':E 6=aa (-1):=e6;simp only[go_sem,e6',e5];refine av.mk ho.ov.next (hK _ _ ho.ov (.inr ⟨H.next,0,Nat.le_refl _,ho.hi,?_,ho.get⟩));rw[aR,qQ]
 ·obtain⟨k,rfl⟩:∃ k,m=k+1:=⟨m - 1,by omega⟩
  have e6':E 6=aa k:=by rw[e6];congr 1;omega
  obtain⟨c,hck⟩:=get_of_lt (l:=cs) (i:=k) (by omega);have hne:=aJ hck;have c1:=h1 c (Vs hck);have hcz:¬ c=0:=by omega
  have hk0:(k:Int) >= 0:=by omega
  have hkc:(k:Int)<cs.length:=by omega
  have pp:1<=aA (cs.drop (k+1)):=mq fun c hc=>h1 c (WV hc);have q0:0<=i0 / aA (cs.drop (k+1)):=Xt hi.1 (by omega);have q1:i0 / aA (cs.drop (k+1))<=i0:=XK _ hi.1;have m1:(i0 / aA (cs.drop (k+1))).tmod c=i0 / aA (cs.drop (k+1)) % c:=V6 q0;have m2:(i0 / aA (cs.drop (k+1))).tdiv c=i0 / aA (cs.drop (k+1)) / c:=Wa q0;have m3:0<=i0 / aA (cs.drop (k+1)) / c:=Xt q0 (by omega);have m4:i0 / aA (cs.drop (k+1)) / c<=i0 / aA (cs.drop (k+1)):=XK _ q0;have w1:=Vt ((k:Int) - 1) (by omega);have w2:=Vt (i0 / aA (cs.drop (k+1)) / c) (by omega);simp only[go_sem,e0,e1,e5,e6',hk0,hkc,lN,hck,hne,hcz,m1,m2,w1,w2];refine⟨by rw[<- List.length_append,clen];omega,by have:=ho.hi;rw[aE];omega,⟨k,rfl,by omega,?_,?_⟩,by rw[h6];simp only[aa,aN];omega⟩
  ·have:=ho.store (k:=k) (by rw[clen];omega) (i0 / aA (cs.drop (k+1)) % c);rw[show (List.replicate (k+1) (0:Int)++dZ (cs.drop (k+1)) i0).set k (i0 / aA (cs.drop (k+1)) % c)=List.replicate k 0++dZ (cs.drop k) i0 by
    rw[SQ hck,Za,List.append_assoc,Ww _ _ (by simp)];simp]at this
   exact this
  ·rw[qS hck,hU,WZ c,Int.ediv_ediv_of_nonneg (by omega)]
theorem Pn (g:Int)(ns:List NodeP)(h8:ns.length<=8)(hc:∀ y∈ns,1<=y.card/\y.card<=4)(i0:Int)(hi:0<=i0/\i0<=4611686018427387904)(H:AHeap)(K:ARes->AHeap->Prop)(hK:∀ v H',Over H H'->aC H.next H' 3 v (ints (dZ (af ns) i0))->K (.ret v) H'):ae Tryd.prog G0 25 [aZ g ns,aa i0] H K:=by
 refine ae.clo ⟨_,Tryd.func25,rfl,rfl⟩ fun hcl=>?_;have hcards:∀ c∈af ns,1<=c/\c<=4:=fun c h=>by
  obtain⟨x,hx,rfl⟩:=VN.1 h;exact hc x hx
 have sm:eQ (af ns):=rm (by rw[bK];omega) hcards;refine ae.bF (n:=9) (rs:=[.tmp 4]) Tryd.func25 rfl rfl rfl (by decide) (by kernel_rfl) (by simp) ?_;simp only[go_sem,aZ,dk];refine aw.clo (mA g ns (by omega) _ _ ⟨trivial,?_⟩);simp only[go_sem];refine aw.clo (Pm (af ns) (fun c h=>(hcards c h).1) sm i0 hi _ _ fun v H2 ov hO=>⟨trivial,?_⟩);have vo:=hO.one;have vc:=hO.cells;simp only[go_sem];have o2:Over H H2:=(Over.ext _ _).trans ov;exact av.mk o2.next (hK _ _ o2 (hO.keep (by simp [dF]) (Nat.le_refl _) fun _ _ _ _ _ _=>rfl))
end Go.Proofs
namespace Go.Hx
variable {P:Program} {G:Nat->Option (List AVal)} {n:Nat} {rd:Option Nat} {Q:AX->St->Prop}
def DG (P:Program)(G:Nat->Option (List AVal))(f:FuncId)(first cap:List AVal)(xs:List (List AVal))(N:Nat)(S0:AHeap->Prop)(S:Nat->AHeap->Prop):Prop :=
 ∀ (idy:Nat) (J:Nat->AHeap->Prop) (H:AHeap) (K:ARes->AHeap->Prop),H.next=N ->
  (∀ k H1,J k H1->S0 H1)->(∀ k H1 H2,J k H1->xt (N+1) H1 H2->J k H2)->J 0 H ->
  (∀ k x H1 K1,xs[k]?=some x->J k H1->S k H1->N+4<=H1.next->(∀ H',J (k+1) H'->(∀ id,N<=id->id<N+4->H'.get id=H1.get id)->H1.next<=H'.next->K1 (.ret (.lit (.bool true))) H')->aw P G (.yld idy) x H1 K1) ->
  (∀ H',J xs.length H'->N<=H'.next->K (.ret (.tup [])) H') ->
  ae P G f (first++[.yld idy]++cap) H K
theorem W.DH {g:Operand}{ps:Array Tmp}{asg body:Code}{ρ:Env}{H:AHeap}{f:FuncId}{first cap:List AVal}{xs:List (List AVal)}{S0:AHeap->Prop}{S:Nat->AHeap->Prop}(hg:ah G ρ g=.clo f first cap)
  (hit:DG P G f first cap xs (H.next+1) S0 S) (J:Nat->AHeap->Prop) (hS:∀ k H1,J k H1->S0 H1) (hJw:∀ k H1 H2,J k H1->xt (H.next+2) H1 H2->J k H2) (hlow:∀ k H1,J k H1->H.next<H1.next)
  (hJu:∀ k H1 b,J k H1->J k (H1.upd H.next b))
  (hJ0:∀ b,J 0 (ext H [b])) (hps:ps.toList.all (fun t=>decide (t<n))=true) (hxl:∀ x∈xs,x.length=ps.size)
  (hrd:∀ k H1,J k H1->eH H1 rd)
  (hround:∀ k x H1 B Bb,xs[k]?=some x->J k H1->S k H1->H.next+5<=H1.next->H1.get H.next=some B->(∃ st pd n' en ps' as' bo,Bb=Blk.loop st pd n' en ps' as' bo) ->
   W P G n (some H.next) asg (tC P G n H.next B Bb H1.next body (fun H'=>J (k+1) H'/\∀ id,H.next+1<=id->id<H.next+5->H'.get id=H1.get id) fun _ _=>False) ⟨lV (eX ρ n) (ps.toList.zip x),H1⟩)
  (hend:∀ H',J xs.length H'->H.next+1<=H'.next->Q .normal ⟨ρ,H'⟩):
  W P G n rd (.rangeFunc g ps asg body) Q ⟨ρ,H⟩:=by
 refine W.rangeFunc (s:=⟨ρ,H⟩) hg ⟨_,ug _ _,?_⟩;obtain⟨B,hB⟩:∃ B,B=Blk.loop .ready none n ρ ps asg body:=⟨_,rfl⟩
 obtain⟨Bb,hBb⟩:∃ B,B=Blk.loop .busy none n ρ ps asg body:=⟨_,rfl⟩
 have nx:(ext H [B]).next=H.next+1:=rfl;show ae P G f (first++[.yld H.next]++cap) (ext H [Blk.loop .ready none n ρ ps asg body]) (ur rd Q ρ H.next);rw[<- hB];refine hit H.next (fun k H1=>H1.get H.next=some B/\J k H1) _ _ nx
  (fun k H1 h=>hS k H1 h.2) (fun k H1 H2 h hw=>⟨(hw.2 _ (by omega) (hlow _ _ h.2)).trans h.1,hJw _ _ _ h.2 hw⟩) ⟨cS,hJ0 B⟩ (fun k x H1 K1 hx hj hs hn hgo=>?_) (fun H' hj hn=>?_)
 ·have hxm:=hxl x (Vs hx);refine aw.yld (hj.1.trans (congrArg some hB)) hxm hps ?_;refine(hround k x H1 B Bb hx hj.2 hs (by omega) hj.1 ⟨_,_,_,_,_,_,_,hBb⟩).mono fun e s1 h1=>?_;cases e with
  | normal =>
   obtain⟨a1,a2⟩:=h1;refine⟨Bb,by rw[a1,hB,hBb];rfl,?_⟩;refine a2.mono fun e2 s2 h2=>?_;cases e2 with
   | normal =>
    obtain⟨b1,b2,b3,b4⟩:=h2;exact⟨B,by rw[b1,hB,hBb];rfl,hgo _ ⟨by rw[ag,Vx rfl],hJu _ _ _ b3⟩ (fun id i1 i2=>by rw[ag,Vw (by omega)];exact b4 id i1 (by omega)) b2⟩
   | ret=>exact h2.2.2.elim
   | exit i=>exact h2.2.2.elim
   | _=>exact h2.elim
  | _=>exact h1.elim
 ·refine⟨hrd _ _ hj.2,(none,.loop .exhausted none n ρ ps asg body),by rw[hj.1,hB];rfl,?_⟩;exact hend _ (hJu _ _ _ hj.2) hn
end Go.Hx
namespace Go.Proofs
open Go.Hx
def gV:List Int->List (List Int)
 | []=>[[]]
 | c :: cs=>(List.range c.toNat).flatMap fun (a:Nat)=>(gV cs).map fun w=>(a:Int) :: w
theorem OF {cs:List Int}(h:∀ c∈cs,1<=c)(a i:Int):dZ cs (a*aA cs+i)=dZ cs i:=by
 induction cs generalizing a with
 | nil=>rfl
 | cons c cs ih =>
  have h1:=mq (l:=cs) fun x hx=>h x (by simp [hx]);have hc:=h c (by simp);have e:a*aA (c :: cs)+i=i+a*c*aA cs:=by rw[hU];simp only[XT,Yw]
  show _ :: _=_ :: _;rw[e,XX _ _ (by omega),Int.add_mul_emod_self_right];congr 1;rw[Yw];exact ih (fun x hx=>h x (by simp [hx])) _
theorem OG (m:Nat):∀ c:Nat,List.range (c*m)=(List.range c).flatMap fun a=>(List.range m).map fun j=>a*m+j:=by
 intro c
 induction c with
 | zero=>simp
 | succ c ih=>rw[Wc,Yz,YS,ih,WI,Yb];simp
theorem zM {cs:List Int}(h:∀ c∈cs,1<=c):gV cs=(List.range (aA cs).toNat).map fun (i:Nat)=>dZ cs i:=by
 induction cs with
 | nil=>rfl
 | cons c cs ih =>
  have hr:∀ x∈cs,1<=x:=fun x hx=>h x (by simp [hx]);have hm:=mq hr;have hc:=h c (by simp);obtain⟨m,e⟩:∃ m:Nat,aA cs=m:=⟨(aA cs).toNat,by omega⟩
  obtain⟨k,ek⟩:∃ k:Nat,c=k:=⟨c.toNat,by omega⟩
  have e2:(aA (c :: cs)).toNat=k*m:=by rw[hU,e,ek];exact Int.toNat_natCast (k*m)
  rw[e2,OG,List.map_flatMap];unfold gV;rw[ek,Int.toNat_natCast,ih hr,e,Int.toNat_natCast];rw[Yo,Yo];congr 1;refine V7 fun a ha=>?_;rw[Yh,Yh];refine V7 fun j hj=>?_;have ha':=VJ.1 ha;have hj':=VJ.1 hj;have hv:=OF hr (a:Int) (j:Int);rw[e]at hv;show _=_ :: _;rw[e];have e3:((a*m+j:Nat):Int)=a*m+j:=by simp
  rw[e3,hv];have e4:((a:Int)*m+j) / (m:Int) % (k:Int)=a:=by rw[Yw,XX _ _ (by omega),XW (by omega) (by omega),Int.zero_add,Int.emod_eq_of_lt (by omega) (by omega)]
  rw[e4];rfl
theorem zQ {cs:List Int}(h:∀ c∈cs,1<=c){w:List Int}(hw:w∈gV cs):bP cs w:=by
 rw[zM h]at hw;obtain⟨i,_,rfl⟩:=VN.1 hw;exact AL h _
def sP:List Int->List Int->Bool
 | x :: r,y :: vs=>(decide (x<0) || decide (x=y)) && sP r vs
 | _,_=>true
def di:List Int->List Int->List (List Int)
 | [],_=>[[]]
 | c :: cs,r=>(List.range c.toNat).flatMap fun (a:Nat)=>if r.headD (-1)<0\/r.headD (-1)=(a:Int) then (di cs r.tail).map fun w=>(a:Int) :: w else []
theorem zR:∀ {cs r:List Int},r.length=cs.length->di cs r=(gV cs).filter (sP r):=by
 intro cs
 induction cs with
 | nil=>intro r h;cases r with
  | nil=>rfl
  | cons _ _=>simp at h
 | cons c cs ih =>
  intro r h;cases r with
  | nil=>simp at h
  | cons x r =>
   unfold di gV;rw[List.filter_flatMap,Yo,Yo];congr 1;refine V7 fun a _=>?_;rw[List.filter_map];by_cases hx:x<0\/x=(a:Int)
   ·rw[Vx (by simpa using hx)];have:(sP (x :: r) ∘ fun w=>(a:Int) :: w)=sP r:=by
     funext w
     show (_ && _)=_;have:(decide (x<0) || decide (x=(a:Int)))=true:=(by simpa using hx);rw[this];rfl
    rw[this,<- ih (by simpa using h)];rfl
   ·rw[Vw (by simpa using hx)];have:(sP (x :: r) ∘ fun w=>(a:Int) :: w)=fun _=>false:=by
     funext w
     show (_ && _)=_;have:(decide (x<0) || decide (x=(a:Int)))=false:=(by simpa using hx);rw[this];rfl
    rw[this];simp
theorem OH (l l':List Int):(l++l').sum=l.sum+l'.sum:=XR
theorem OI {α:Type}(f:List Int->Int)(l:List α)(g:α->List (List Int)):((l.flatMap g).map f).sum=(l.map fun a=>((g a).map f).sum).sum:=by
 induction l with
 | nil=>rfl
 | cons a l ih=>rw[YG,Wo,OH,ih];rfl
theorem zS {α:Type}(c:Int)(f:α->Int)(l:List α):(l.map fun a=>c*f a).sum=c*(l.map f).sum:=by
 induction l with
 | nil=>simp
 | cons a l ih=>simp only[List.map_cons,V5,ih,Xh]
theorem OJ {α:Type}(f g:α->Int)(l:List α):(l.map fun a=>f a+g a).sum=(l.map f).sum+(l.map g).sum:=by
 induction l with
 | nil=>simp
 | cons a l ih=>simp only[List.map_cons,V5,ih];omega
theorem OK {α β:Type}(f:α->β->Int)(l:List α)(m:List β):(l.map fun a=>(m.map fun b=>f a b).sum).sum=(m.map fun b=>(l.map fun a=>f a b).sum).sum:=by
 induction l with
 | nil=>simp only[List.map_nil,List.sum_nil];induction m with
  | nil=>rfl
  | cons b m ih=>rw[List.map_cons,V5,<- ih];rfl
 | cons a l ih=>simp only[List.map_cons,V5,ih,OJ]
theorem Dz {α:Type}(c:Int)(l:List α):(l.map fun _=>c).sum=l.length*c:=by
 induction l with
 | nil=>simp
 | cons a l ih=>simp only[List.map_cons,V5,ih,List.length_cons];rw[show ((l.length+1:Nat):Int)=l.length+1 from rfl,XN];omega
theorem oA {α:Type}{f g:α->Int}{l:List α}(h:∀ a∈l,f a=g a):(l.map f).sum=(l.map g).sum:=by rw[V7 h]
theorem all_cons (c:Int)(cs:List Int)(f:List Int->Int):((gV (c :: cs)).map f).sum=((List.range c.toNat).map fun (a:Nat)=>((gV cs).map fun w=>f ((a:Int) :: w)).sum).sum:=by
 show (((List.range c.toNat).flatMap _).map f).sum=_;rw[OI];refine oA fun a _=>?_;rw[Yh];rfl
theorem OL:∀ {cs:List Int} {v:Nat} {c:Int},(∀ c∈cs,1<=c)->cs[v]?=some c->∀ f:List Int->Int,
  ((gV cs).map fun w=>((List.range c.toNat).map fun (a:Nat)=>f (w.set v (a:Int))).sum).sum=c*((gV cs).map f).sum:=by
 intro cs
 induction cs with
 | nil=>intro v c _ h;simp at h
 | cons d cs ih =>
  intro v c h1 h f;rw[all_cons,all_cons];cases v with
  | zero =>
   simp only[List.getElem?_cons_zero,Option.some.injEq]at h;subst h;simp only[List.set_cons_zero];rw[Dz,WB,Ws (by have:=h1 d (by simp);omega)];congr 1;exact OK _ _ _
  | succ v =>
   simp only[List.set_cons_succ];rw[<- zS];refine oA fun a _=>?_;exact ih (fun x hx=>h1 x (by simp [hx])) (by simpa using h) fun w=>f ((a:Int) :: w)
def dP (n:Nat)(D:Nat->Bool)(f:Nat->Int):Int:=aA ((List.range n).map fun v=>if D v then f v else 1)
theorem vF (n:Nat)(D:Nat->Bool)(f:Nat->Int):dP (n+1) D f=dP n D f*(if D n then f n else 1):=by
 unfold dP;rw[WI,Wo,wK];simp [hU,iQ]
theorem vG {D D':Nat->Bool}{v:Nat}(f:Nat->Int)(h0:D v=false)(h1:D' v=true)(he:∀ i,i≠v->D' i=D i):∀ n,dP n D' f=if v<n then dP n D f*f v else dP n D f:=by
 intro n
 induction n with
 | zero=>rfl
 | succ n ih =>
  rw[vF,vF,ih];rcases W1 v n with h|h|h
  ·rw[Vx h,Vx (show v<n+1 by omega),he n (by omega)];simp only[XT,WZ (f v)]
  ·subst h;rw[Vw (show ¬ v<v by omega),Vx (show v<v+1 by omega),h1,h0];simp
  ·rw[Vw (show ¬ v<n by omega),Vw (show ¬ v<n+1 by omega),he n (by omega)]
theorem OM {n:Nat}{D:Nat->Bool}{f g:Nat->Int}(h:∀ v,v<n->D v=true->f v=g v):dP n D f=dP n D g:=by
 unfold dP;congr 1;refine V7 fun v hv=>?_;split
 ·rename_i hd;exact h v (VJ.1 hv) hd
 ·rfl
theorem DA (n:Nat)(f:Nat->Int):dP n (fun _=>false) f=1:=by
 induction n with
 | zero=>rfl
 | succ n ih=>rw[vF,ih];simp
theorem zU {n:Nat}{D:Nat->Bool}(h:∀ v,v<n->D v=true)(f:Nat->Int):dP n D f=aA ((List.range n).map f):=by
 unfold dP;congr 1;exact V7 fun v hv=>by rw[h v (VJ.1 hv)];rfl
theorem ON (l:List Int):((List.range l.length).map fun i=>l.getD i 0).sum=l.sum:=by
 induction l with
 | nil=>rfl
 | cons a l ih=>rw[List.length_cons,XU,List.map_cons,Yh,V5,V5,<- ih];rfl
theorem OO (n:Nat)(g:Int):aA ((List.range n).map fun _=>g)=g ^ n:=by
 induction n with
 | zero=>simp [iQ]
 | succ n ih=>rw[WI,Wo,wK,ih,YK];simp [hU,iQ]
theorem DB {w ps:List Int}{v:Nat}{a:Int}(h:∀ p∈ps,p.toNat≠v):aP (w.set v a) ps=aP w ps:=by
 unfold aP;refine V7 fun p hp=>?_;rw[Vy,Vy,VS (Ne.symm (h p hp))]
theorem DC {g:Int}{ns:List NodeP}(h:NetOk g ns){x:NodeP}(hx:x∈ns){w:List Int}(hw:bP (af ns) w):∃ r,x.rows[(eo (aQ ns x) (aP w x.parents)).toNat]?=some r:=by
 have hp:=(h.node x hx).2.2;have hf:bP (aQ ns x) (aP w x.parents):=⟨by simp [aQ,aP],fun k c b h1 h2=>by
  unfold aQ aP at h1;unfold aP at h2;rw[List.getElem?_map]at h1 h2;cases hq:x.parents[k]? with
  | none=>rw[hq]at h1;cases h1
  | some q =>
   rw[hq]at h1 h2;have hr:=hp q (Vs hq);obtain⟨j,rfl,y,hy⟩:=nH (l:=ns) hr.1 hr.2;obtain⟨b',hb⟩:=get_of_lt (l:=w) (i:=j) (by rw[hw.1];have:=get_lt hy;simpa [af] using this);simp only[Option.map_some,Option.some.injEq,Int.toNat_natCast]at h1 h2;rw[bf (cN hy)]at h1;rw[bf hb]at h2;rw[<- h1,<- h2];exact hw.2 j y.card b' (cN hy) hb⟩
 have hr:=tn hf;have hl:=(h.rows x hx).1;exact get_of_lt (by omega)
def ni (g:Int)(ns:List NodeP)(D:Nat->Bool):Prop :=
 dP ns.length D (fun v=>(af ns).getD v 0)*((gV (af ns)).map fun w=>dP ns.length D (fm ns w)).sum=dP ns.length D (fun _=>g)*aA (af ns)
theorem OP (cs:List Int)(h:∀ c∈cs,1<=c):((gV cs).map fun _=>(1:Int)).sum=aA cs:=by
 rw[Dz,zM h];have:=mq h;simp;omega
theorem iF {g:Int}{ns:List NodeP}(h:NetOk g ns):∀ c∈af ns,1<=c:=fun c hc=>by
 unfold af at hc;obtain⟨x,hx,rfl⟩:=VN.1 hc;exact(h.node x hx).1.1
theorem OQ {g:Int}{ns:List NodeP}(h:NetOk g ns){D D':Nat->Bool}{v:Nat}(hv:v<ns.length)(h0:D v=false)(h1:D' v=true)(he:∀ i,i≠v->D' i=D i)
  (hcl:∀ (u:Nat) (x:NodeP),D u=true->ns[u]?=some x->∀ p∈x.parents,D p.toNat=true) (hpa:∀ x,ns[v]?=some x->∀ p∈x.parents,D p.toNat=true) (hs:ni g ns D):ni g ns D':=by
 obtain⟨x,hx⟩:=get_of_lt hv;have hxm:=Vs hx;have hc:=cN hx;have hc1:=iF h;unfold ni at hs ⊢;have key:x.card*((gV (af ns)).map fun w=>dP ns.length D' (fm ns w)).sum=g*((gV (af ns)).map fun w=>dP ns.length D (fm ns w)).sum:=by
  rw[<- OL hc1 hc,<- zS];refine oA fun w hw=>?_;have hf:=zQ hc1 hw;have hl:w.length=ns.length:=by rw[hf.1];simp [af]
  have e1:∀ a:Nat,dP ns.length D' (fm ns (w.set v (a:Int)))=dP ns.length D (fm ns w)*(iR ns x w).getD a 0:=fun a=>by
   rw[vG _ h0 h1 he,Vx hv];congr 1
   ·refine OM fun u hu hd=>?_;obtain⟨y,hy⟩:=get_of_lt hu;have huv:v≠u:=fun e=>by rw[e,hd]at h0;cases h0
    unfold fm iR;rw[hy];dsimp only;rw[DB fun p hp e=>by have:=hcl u y hd hy p hp;rw[e,h0]at this;cases this];simp only[Vy,VS huv]
   ·unfold fm iR;rw[hx];dsimp only;rw[DB fun p hp e=>by have:=hpa x hx p hp;rw[e,h0]at this;cases this];congr 1;simp only[Vy,VI (show v<w.length by omega)];rfl
  rw[oA fun a _=>e1 a,zS,WZ g];congr 1;obtain⟨r,hr⟩:=DC h hxm hf;have hrow:iR ns x w=r:=by unfold iR;rw[bf hr]
  have ho:=(h.rows x hxm).2 r (Vs hr);rw[hrow,show x.card.toNat=r.length by have:=ho.1;omega,ON];exact ho.2.2
 rw[vG _ h0 h1 he,vG (fun _=>g) h0 h1 he,Vx hv,Vx hv,bf hc,XT,key,<- XT,Int.mul_right_comm,hs];simp only[XT,WZ g]
theorem sQ (ns:List NodeP):(bA ns).length=ns.length:=by simp [bA]
theorem uk {n s:Nat}(h:n<=dp n s):∀ v,v<n->s.testBit v=true:=by
 have hl:=AP n s;have e:(List.range n).countP (fun i=>s.testBit i)=(List.range n).length:=by rw[WB];exact Nat.le_antisymm hl h
 exact fun v hv=>X3.1 e v (VJ.2 hv)
theorem OS {g:Int}{ns:List NodeP}(h:NetOk g ns):∀ (k:Nat) (out:List Nat) (done:Nat) (r:List Nat),kD (bA ns) k out done=some r->ns.length<=k+dp ns.length done ->
  (∀ (u:Nat) (x:NodeP),done.testBit u=true->ns[u]?=some x->∀ p∈x.parents,done.testBit p.toNat=true)->ni g ns (fun v=>done.testBit v)->ni g ns fun _=>true:=by
 have hp64:∀ p∈bA ns,p<2 ^ 64:=fun p hp=>xe (n:=64) (fun x hx q hq=>by have:=(h.node x hx).2.2 q hq;have:=h.n1;omega) p hp;intro k
 induction k with
 | zero =>
  intro out done r _ hc _ hs;have hf:=uk (n:=ns.length) (s:=done) (by omega);unfold ni at hs ⊢;have e:∀ f,dP ns.length (fun v=>done.testBit v) f=dP ns.length (fun _=>true) f:=fun f=>by
   rw[zU hf,zU fun _ _=>rfl]
  rw[e,e,oA fun w _=>e (fm ns w)]at hs;exact hs
 | succ k ih =>
  intro out done r hr hc hcl hs;unfold kD at hr;cases hn:mu (bA ns) done with
  | none=>rw[hn]at hr;cases hr
  | some v =>
   rw[hn]at hr;obtain⟨h1,h2,h3⟩:=AQ hp64 hn;rw[sQ]at h1;obtain⟨y,hy⟩:=get_of_lt h1;have hpa:∀ x,ns[v]?=some x->∀ p∈x.parents,done.testBit p.toNat=true:=fun x hx p hp=>by
    rw[bf (o9 hx)]at h3;refine h3 _ ?_;have hpos:=fun q hq=>((h.node x (Vs hx)).2.2 q hq).1;rw[nI hpos];exact VM (by rw[Ws (hpos p hp)];exact hp)
   refine ih _ _ r hr ?_ ?_ (OQ h h1 h2 (D':=fun i=>(done ||| 2 ^ v).testBit i) ?_ (fun i hi=>?_) hcl hpa hs)
   ·have:=qW (n:=ns.length) (.left done (2 ^ v)) h1 h2 (by rw[hZ];simp);omega
   ·intro u x hu hx p hp;rw[hZ]at hu ⊢;rw[Xu]at hu ⊢;left;rcases hu with hu|hu
    ·exact hcl u x hu hx p hp
    ·have:v=u:=of_decide_eq_true hu;subst this;exact hpa x hx p hp
   ·show (done ||| 2 ^ v).testBit v=true;rw[hZ];simp
   ·show (done ||| 2 ^ v).testBit i=done.testBit i;rw[hZ,VZ (fun e=>hi e.symm),Bool.or_false]
theorem DD (ns:List NodeP):aA ((List.range ns.length).map fun v=>(af ns).getD v 0)=aA (af ns):=by
 congr 1;refine V9 fun i=>?_;rw[List.getElem?_map];rcases VR i ns.length with h|h
 ·obtain⟨x,hx⟩:=get_of_lt h;rw[Wu h,cN hx];show some ((af ns).getD i 0)=_;rw[bf (cN hx)]
 ·rw[VB (by simpa using h),VB (by simpa [af] using h)];rfl
theorem OT {g:Int}{ns:List NodeP}(h:NetOk g ns):((gV (af ns)).map (weight ns)).sum=g ^ ns.length:=by
 have hc:=iF h;have hp:=mq hc;have h8:=h.n1;have hps:∀ p∈bA ns,p<2 ^ (bA ns).length:=fun p hp=>by
  rw[sQ];exact xe (n:=ns.length) (fun x hx q hq=>(h.node x hx).2.2 q hq) p hp
 have ht:=(FG hps (by rw[sQ];omega)).2 h.acyc;obtain⟨r,hr⟩:=Wj.1 ht;unfold fF at hr;rw[sQ]at hr;have hs:=OS h _ _ _ r hr (by omega) (fun u x hu=>by rw[WQ]at hu;cases hu) (by
  unfold ni;have e:∀ f,dP ns.length (fun v=>(0:Nat).testBit v) f=1:=fun f=>by
   rw[show (fun v=>(0:Nat).testBit v)=fun _=>false from funext fun v=>WQ v,DA]
  rw[e,e,oA fun w _=>e (fm ns w),OP _ hc])
 unfold ni at hs;have e:∀ f,dP ns.length (fun _=>true) f=aA ((List.range ns.length).map f):=fun f=>zU (fun _ _=>rfl) f;rw[e,e,DD,OO,oA fun w _=>e (fm ns w)]at hs;rw[WZ]at hs;exact Int.eq_of_mul_eq_mul_right (by omega) hs
theorem DE {g:Int}{ns:List NodeP}(h:NetOk g ns){w:List Int}(hw:bP (af ns) w)(v:Nat):0<=fm ns w v/\(v<ns.length->fm ns w v<=60):=by
 unfold fm;cases hx:ns[v]? with
 | none=>exact⟨show (0:Int)<=1 by decide,fun h=>by obtain⟨x,h⟩:=get_of_lt h;rw[hx]at h;cases h⟩
 | some x =>
  have hxm:=Vs hx;obtain⟨r,hr⟩:=DC h hxm hw;have hrow:iR ns x w=r:=by unfold iR;rw[bf hr]
  have ho:=(h.rows x hxm).2 r (Vs hr);have hg:=h.g1;show 0<=(iR ns x w).getD (w.getD v 0).toNat 0/\(_->(iR ns x w).getD (w.getD v 0).toNat 0<=60)
  rw[hrow,Vy];cases hy:r[(w.getD v 0).toNat]? with
  | none=>exact⟨by simp,by simp⟩
  | some y=>have:=ho.2.1 y (Vs hy);exact⟨by simp;omega,fun _=>by simp;omega⟩
theorem DF {g:Int}{ns:List NodeP}(h:NetOk g ns){w:List Int}(hw:bP (af ns) w):0<=weight ns w/\weight ns w<=60 ^ ns.length:=by
 have:=oO (b:=60) (l:=dc ns w) (by decide) fun y hy=>by
  unfold dc at hy;obtain⟨v,hv,rfl⟩:=VN.1 hy;have:=DE h hw v;exact⟨this.1,this.2 (VJ.1 hv)⟩
 rw[oR]at this;exact this
def da (cs:List Int)(xs:List (List Int)):AVal:=.agg [ab cs,aB xs]
def qI (cs r:List Int):Prop:=r.length=cs.length/\∀ (v:Nat) (c x:Int),cs[v]?=some c->r[v]?=some x->-1<=x/\x<c
structure DataOk (cs:List Int)(xs:List (List Int)):Prop where
 c1:1<=cs.length/\cs.length<=6
 x1:xs.length<=40
 card:∀ c∈cs,2<=c/\c<=4
 size:aA cs<=1024
 row:∀ r∈xs,qI cs r
noncomputable def gZ (cs:List Int)(xs:List (List Int)):Bool:=@decide (DataOk cs xs) (Classical.propDecidable _)
theorem vY {cs:List Int}{xs:List (List Int)}(h:DataOk cs xs):gZ cs xs=true:=by unfold gZ;exact @decide_eq_true _ (Classical.propDecidable _) h
theorem Qs {cs:List Int}{xs:List (List Int)}(h:¬ DataOk cs xs):gZ cs xs=false:=by unfold gZ;exact @decide_eq_false _ (Classical.propDecidable _) h
theorem Er {cs:List Int}{xs:List (List Int)}:gZ cs xs=true↔DataOk cs xs:=by unfold gZ;exact @decide_eq_true_iff _ (Classical.propDecidable _)
def ku (cs:List Int)(xs:List (List Int)):Prop:=(cs.length:Int)<2 ^ 38/\(xs.length:Int)<2 ^ 38/\∀ r∈xs,(r.length:Int)<2 ^ 38
theorem mg {xs:List (List Int)}{k:Nat}{r:List Int}(h:xs[k]?=some r):(xs.map ab)[k]?=some (.vec r.length (ints r)):=by rw[List.getElem?_map,h];rfl
theorem Qt {l:List Int}(h:∀ c∈l,2<=c/\c<=4)(hl:l.length<=6):1<=aA l/\aA l<=4096:=by
 have h1:=oO (b:=4) (by omega) (l:=l) fun x hx=>by have:=h x hx;omega
 have h2:=mq (l:=l) fun x hx=>by have:=h x hx;omega
 have h3:(4:Nat) ^ l.length<=4 ^ 6:=VT (by decide) hl;have h4:((4:Int) ^ l.length)<=4 ^ 6:=by exact_mod_cast h3
 have:(4:Int) ^ 6=4096:=by decide
 omega
theorem qI.of {cs r:List Int}(hl:r.length=cs.length)(h:∀ (v:Nat) (c x:Int),v<r.length->cs[v]?=some c->r[v]?=some x->-1<=x/\x<c):qI cs r:=⟨hl,fun v c x h1 h2=>h v c x (get_lt h2) h1 h2⟩
def mh (r:List Int):Bool:=decide (∀ x∈r,¬ x<0)
theorem Qu {r:List Int}(h:∀ x∈r,¬ x<0):mh r=true:=by unfold mh;exact VM h
theorem Qv {cs:List Int}{r:List Int}(h:qI cs r)(hw:mh r=true):bP cs r:=⟨h.1,fun k c v h1 h2=>by
 have:=of_decide_eq_true hw v (Vs h2);have:=h.2 k c v h1 h2;omega⟩
theorem Qw {cs r:List Int}(h:qI cs r):mh r=true↔(-1:Int) ∉ r:=by
 constructor
 ·intro hw hm;exact of_decide_eq_true hw (-1) hm (by decide)
 ·intro hm;refine Qu fun x hx hlt=>?_;obtain⟨k,hk⟩:=Zd hx;obtain⟨c,hc⟩:=get_of_lt (l:=cs) (i:=k) (by rw[<- h.1];exact get_lt hk);have:=h.2 k c x hc hk;exact hm (by rw[show (-1:Int)=x by omega];exact hx)
def zW (g:Int)(ns:List NodeP)(r:List Int):List AVal:=[aa g,.vec ns.length (au ns),ab r]
theorem DI {cs vs:List Int}(hf:bP cs vs)(hs:eQ cs)(k:Nat):0<=eu (cs.take k) (vs.take k)/\eu (cs.take k) (vs.take k)<68719476737:=by
 have ft:bP (cs.take k) (vs.take k):=⟨by simp [hf.1],fun i c b h1 h2=>by
  rw[Xe]at h1 h2;split at h1
  ·rename_i hik;rw[Vx hik]at h2;exact hf.2 i c b h1 h2
  ·cases h1⟩
 rw[qT ft.1];have a:=tn ft;have b:=(hs.take k).prod;omega
theorem DJ {ns:List NodeP}{x:NodeP}{vals:List Int}(hin:ik x.parents ns.length)(hf:bP (af ns) vals){k:Nat}{q:Int}(hq:x.parents[k]?=some q):
  ∃ (j:Nat) (y:NodeP) (b:Int),q=j/\ns[j]?=some y/\vals[j]?=some b/\(aQ ns x)[k]?=some y.card/\(aP vals x.parents)[k]?=some b/\0<=b/\b<y.card:=by
 obtain⟨j,rfl,y,hy⟩:=nH (l:=ns) (hin q (Vs hq)).1 (hin q (Vs hq)).2;obtain⟨b,hb⟩:=get_of_lt (l:=vals) (i:=j) (by rw[hf.1,bK];exact get_lt hy);exact⟨j,y,b,rfl,hy,hb,by rw[show (aQ ns x)[k]?=_ from o0 hq,Int.toNat_natCast,bf (cN hy)],by rw[o0 hq,Int.toNat_natCast,bf hb],hf.2 j y.card b (cN hy) hb⟩
set_option maxHeartbeats 2000000 in
theorem OU (g:Int)(ns:List NodeP)(h:NetOk g ns)(rc vals:List Int)(hf:bP (af ns) vals)(H:AHeap)(K:ARes->AHeap->Prop)(hK:K (.ret (aa (weight ns vals))) H):
  ae Tryd.prog G0 62 [.agg (zW g ns rc),ab vals] H K:=by
 refine ae.clo ⟨_,Tryd.func62,rfl,rfl⟩ fun hcl=>?_;have n8:=h.n1;have hvl:vals.length=ns.length:=by rw[hf.1,bK]
 refine ae.bF (n:=57) (rs:=[.tmp 4]) Tryd.func62 rfl rfl rfl (by decide) (by kernel_rfl) (by simp) ?_;simp only[go_sem,zW];obtain⟨H1,hH1⟩:∃ H1,H1=ext H [.arr 0 105 [aa g,.vec ns.length (au ns),.vec rc.length (ints rc)]]:=⟨_,rfl⟩
 have g1:H1.get H.next=some (.arr 0 105 [aa g,.vec ns.length (au ns),.vec rc.length (ints rc)]):=by rw[hH1];exact dN ..
 have o1:Over H H1:=by rw[hH1];exact .ext _ _
 have n1:H1.next=H.next+1:=by rw[hH1];rfl
 refine W.en (fun E=>E 1=ab vals /\ E 2=.ptr H.next 0 0 /\ E 5=aa 1 /\ E 13=.vec ns.length (au ns) /\ E 14=aa ns.length /\ E 15=aa 0) (by simp only[go_sem]) fun E ⟨e1,e2,e5,e13,e14,e15⟩=>?_
 show W _ _ _ _ _ _ ⟨E,ext H [.arr 0 105 [aa g,.vec ns.length (au ns),.vec rc.length (ints rc)]]⟩;rw[<- hH1];refine W.aG 72057594037896672 (by rfl) (fun ρ H'=>Over H1 H'/\∃ v:Nat,ρ 15=aa v/\v<=ns.length/\ρ 5=aa (aA ((dc ns vals).take v))) (fun ρ H=>ns.length - (iv (ρ 15)).toNat) ?_ ?_
 ·exact⟨.refl _,0,e15,by omega,e5.trans (by simp [iQ])⟩
 rintro ρ H' ⟨o2,v,h15,hv,h5⟩;have n2:=o2.next;have l2:=ak ((o2.old H.next (by omega)).trans g1);refine W.en (fun F=>F 1=ab vals /\ F 2=.ptr H.next 0 0 /\ F 5=aa (aA ((dc ns vals).take v)) /\ F 13=.vec ns.length (au ns) /\ F 14=aa ns.length /\ F 15=aa v) (by simp only[go_sem,e1,e2,h5,e13,e14,h15]) fun F ⟨f1,f2,f5,f13,f14,f15⟩=>?_
 by_cases hb:(v:Int)<ns.length;rotate_left
 ·have e:v=ns.length:=by omega
  subst e;refine W.vs ?_;simp only[go_sem,f5,f14,f15,hb];rw[Vz (by rw[oR];omega)];exact av.bR aT hcl (o1.trans o2) (.lit _) hK
 obtain⟨x,hx⟩:=get_of_lt (l:=ns) (i:=v) (by omega);have hxm:=Vs hx;have hin:ik x.parents ns.length:=fun q hq=>by have:=(h.node x hxm).2.2 q hq;omega
 have hfp:=w9 hin hf;have pl:(aQ ns x).length=x.parents.length:=iU _ _;have vl:(aP vals x.parents).length=x.parents.length:=iU _ _;have hsm:=tw n8.2 (h.node x hxm).2 fun y hy=>(h.node y hy).1;have hr:=DI hfp hsm;have l12:=hsm.1;obtain⟨i,r,a,w,hR⟩:=A0 h hx hf;obtain⟨a',rfl⟩:=VU hR.a0;have hne:=eP hx;have hpt:=kC hx;refine W.vs ?_;simp only[go_sem,f13,f14,f15,hb,hne,hpt];refine⟨by rw[fT];omega,?_⟩;obtain⟨H2,hH2⟩:∃ H2,H2=ext H' [.arr 0 53 [aa x.card,.vec x.parents.length (ints x.parents),aB x.rows]]:=⟨_,rfl⟩
 have o3:Over H' H2:=by rw[hH2];exact .ext _ _
 have n3:H2.next=H'.next+1:=by rw[hH2];rfl
 have l3:H2.live H'.next 0=some (53,[aa x.card,.vec x.parents.length (ints x.parents),aB x.rows]):=by rw[hH2];exact ak (dN ..)
 have l4:H2.live H.next 0=some (105,[aa g,.vec ns.length (au ns),.vec rc.length (ints rc)]):=ak ((o3.old H.next (by omega)).trans ((o2.old H.next (by omega)).trans g1));refine W.en (fun E3=>E3 1=ab vals /\ E3 2=.ptr H.next 0 0 /\ E3 5=aa (aA ((dc ns vals).take v)) /\ E3 6=aa v /\ E3 7=.ptr H'.next 0 0 /\ E3 8=aa 0 /\ E3 13=.vec ns.length (au ns) /\ E3 14=aa ns.length /\ E3 15=aa v /\ E3 21=ab x.parents /\ E3 22=aa x.parents.length /\ E3 23=aa 0) (by simp only[go_sem,f1,f2,f5,f13,f14,f15]) fun E3 ⟨g1,g2,g5,g6,g7,g8,g13,g14,g15,g21,g22,g23⟩=>?_
 show W _ _ _ _ _ _ ⟨E3,ext H' [.arr 0 53 [aa x.card,.vec x.parents.length (ints x.parents),aB x.rows]]⟩;rw[<- hH2];refine W.aG 4398038123776 (by rfl) (fun ρ H3=>H3=H2/\∃ k:Nat,ρ 23=aa k/\k<=x.parents.length/\ρ 8=aa (eu ((aQ ns x).take k) ((aP vals x.parents).take k))) (fun ρ H=>x.parents.length - (iv (ρ 23)).toNat) ?_ ?_
 ·exact⟨rfl,0,g23,by omega,g8⟩
 rintro ρ3 H3 ⟨e3,k,h23,hk,h8⟩;rw[e3];refine W.en (fun E4=>E4 1=ab vals /\ E4 2=.ptr H.next 0 0 /\ E4 5=aa (aA ((dc ns vals).take v)) /\ E4 6=aa v /\ E4 7=.ptr H'.next 0 0 /\ E4 8=aa (eu ((aQ ns x).take k) ((aP vals x.parents).take k)) /\ E4 13=.vec ns.length (au ns) /\ E4 14=aa ns.length /\ E4 15=aa v /\ E4 21=ab x.parents /\ E4 22=aa x.parents.length /\ E4 23=aa k) (by simp only[go_sem,g1,g2,g5,g6,g7,h8,g13,g14,g15,g21,g22,h23]) fun E4 ⟨k1,k2,k5,k6,k7,k8,k13,k14,k15,k21,k22,k23⟩=>?_
 refine W.vs ?_;by_cases hb2:(k:Int)<x.parents.length
 ·obtain⟨q,hq⟩:=get_of_lt (l:=x.parents) (i:=k) (by omega);obtain⟨j,y,b,rfl,hy,hbv,a1,a2,a3⟩:=DJ hin hf hq;have hqn:=aJ hq;have hbn:=aJ hbv;have hyn:=eP hy;have hy0:=nG hy;have hjn:(j:Int)<ns.length:=by have:=get_lt hy;omega
  have hjv:(j:Int)<vals.length:=by have:=get_lt hbv;omega
  have w1:=Vt ((k:Int)+1) (by omega);have r1:=hr (k+1);rw[qU a1 a2]at r1;have r0:=hr k;have m0:0<=eu ((aQ ns x).take k) ((aP vals x.parents).take k)*y.card:=WE r0.1 (by omega);have w2:=Vt (eu ((aQ ns x).take k) ((aP vals x.parents).take k)*y.card) (by omega);have w3:=Vt (eu ((aQ ns x).take k) ((aP vals x.parents).take k)*y.card+b) (by omega);simp only[go_sem,k21,k22,k23,hb2,hq,hqn];refine W.draw 13 [0,0,2,6,0,30,62,126,255,0,0,1536,3584] Tryd.mixed (by kernel_rfl) (by kernel_rfl) ?_;simp only[go_sem,l4,k1,k2,k8,k23,hbv,hbn,hyn,hy0,hjn,hjv,w1,w2,w3];exact⟨⟨k+1,rfl,by omega,by rw[qU a1 a2]⟩,by rw[h23];simp only[aa,aN];omega⟩
 have ek:k=x.parents.length:=by omega
 rw[ek,Vz (by rw[pl];exact Nat.le_refl _),Vz (by rw[vl];exact Nat.le_refl _),qT hfp.1,hR.idx]at k8;have hva:=hR.val;have hvne:=aJ hva;have hvv:(v:Int)<vals.length:=by omega
 have hra:r[a']?=some w:=by have:=hR.hw;rw[Int.toNat_natCast]at this;exact this
 have hrane:=aJ hra;have hal:(a':Int)<r.length:=hR.al;have hir:=mg hR.row;have hirn:=aJ hir;have hil:(i:Int)<x.rows.length:=by have:=get_lt hR.row;omega
 have wt:=Gi h hf (v+1);rw[aL (qX (vals:=vals) (v:=v) (by omega)),jM,hR.eq]at wt;have w1:=Vt ((v:Int)+1) (by omega);have w2:=Vt (aA ((dc ns vals).take v)*w) (by omega);simp only[go_sem,k22,k23,hb2];refine W.draw 12 [0,0,2,0,14,30,0,0,192,448,1022,2046] Tryd.mixed (by kernel_rfl) (by kernel_rfl) ?_;simp only[go_sem,l3,k1,k5,k6,k7,k8,k15,aB,hil,hir,hirn,hvv,hva,hvne,hra,hrane,hal,w1,w2];exact⟨by omega,⟨o2.trans o3,v+1,rfl,by omega,by rw[aL (qX (vals:=vals) (v:=v) (by omega)),jM,hR.eq]⟩,by rw[h15];simp only[aa,aN];omega⟩
theorem OV {α:Type}{F:Nat->List α}{c a j:Nat}{t:α}(ha:a<c)(h:(F a)[j]?=some t):((List.range c).flatMap F)[((List.range a).flatMap F).length+j]?=some t:=by
 obtain⟨m,rfl⟩:∃ m,c=a+(m+1):=⟨c - a - 1,by omega⟩
 have hj:=get_lt h;rw[YS,Yb,VQ (by omega),XP,XU,List.map_cons,YG,Nat.add_zero,VV hj];exact h
def vI (cs r:List Int)(x:Int)(a:Nat):List (List Int):=if x<0\/x=(a:Int) then (di cs r).map fun w=>(a:Int) :: w else []
theorem OW {cs r:List Int}{i:Nat}{c x:Int}(hc:cs[i]?=some c)(hx:r[i]?=some x):di (cs.drop i) (r.drop i)=(List.range c.toNat).flatMap (vI (cs.drop (i+1)) (r.drop (i+1)) x):=by
 rw[qS hc,qS hx];rfl
structure Own4 (n N b idy:Nat)(H:AHeap)(w:List Int):Prop where
 nx:N+4<=H.next
 y:H.get N=some (.arr 0 81 [.yld idy])
 w:H.get (N+1)=some (.arr 0 3 (ints w))
 c:H.get (N+2)=some (.arr 0 39 [.own (N+1) 0 0 n 1])
 f:H.get (N+3)=some (.arr 0 99 [.clo 61 [] [.ptr (N+2) 0 0,.ptr N 0 0,.ptr b 0 0,.ptr (N+3) 0 0]])
theorem Own4.keep {n N b idy:Nat}{H H':AHeap}{w:List Int}(h:Own4 n N b idy H w)(hn:H.next<=H'.next)(hk:∀ id,N<=id->id<N+4->H'.get id=H.get id):Own4 n N b idy H' w :=
 ⟨by have:=h.nx;omega,(hk _ (by omega) (by omega)).trans h.y,(hk _ (by omega) (by omega)).trans h.w,(hk _ (by omega) (by omega)).trans h.c,(hk _ (by omega) (by omega)).trans h.f⟩
def jG (ns:List NodeP)(r:List Int)(N:Nat):List (List AVal):=(di (af ns) r).map fun w=>[.own (N+1) 0 0 ns.length 1,aa (weight ns w)]
def DK (ns:List NodeP)(r:List Int)(N:Nat)(k:Nat)(H:AHeap):Prop:=∃ w,(di (af ns) r)[k]?=some w/\H.get (N+1)=some (.arr 0 3 (ints w))
theorem nk {cs r:List Int}(h:∀ c∈cs,1<=c)(hl:r.length=cs.length){w:List Int}(hw:w∈di cs r):bP cs w:=by
 rw[zR hl]at hw;exact zQ h (List.mem_filter.1 hw).1
theorem OX (g:Int)(ns:List NodeP)(h:NetOk g ns)(rc vals:List Int)(hf:bP (af ns) vals)(H:AHeap)(N n:Nat)(hN:N<H.next)(hg:H.get N=some (.arr 0 3 (ints vals)))(hn:n=vals.length):
  df Tryd.prog G0 (.clo 62 [] []) [.agg [aa g,.vec ns.length (au ns),.vec rc.length (ints rc)],.own N 0 0 n 1] H (aa (weight ns vals)) [N]:=by
 subst hn;refine df.mk (fun i hi=>by obtain rfl:=List.mem_singleton.1 hi;exact hN) fun H2 h2 _=>?_;refine(ae.frame (H:=H2) (args:=[.agg [aa g,.vec ns.length (au ns),.vec rc.length (ints rc)],.own N 0 0 vals.length 1]) (args':=[.agg (zW g ns rc),ab vals]) (v':=aa (weight ns vals)) aT rfl (fun i hi _=>?_) (OU g ns h rc vals hf cL _ ⟨_,rfl,.lit _⟩))
 match i,hi with
 | 0,_=>exact .agg rfl fun i hi _=>match i,hi with
  | 0,_=>.lit _
  | 1,_=>rq _
  | 2,_=>.ef _
 | 1,_=>exact Fz.tA ((h2 N (by simp)).trans hg) (by rw[aR]) fun c hc=>by obtain⟨z,_,rfl⟩:=VN.1 hc;exact⟨_,rfl⟩
set_option maxHeartbeats 2000000 in
theorem OY (g:Int)(ns:List NodeP)(h:NetOk g ns)(rc:List Int)(hr:rc.length=ns.length)(b N idy:Nat)(hbN:b<N)(J:Nat->AHeap->Prop)
  (hS0:∀ k H1,J k H1->H1.get b=some (.arr 0 105 [aa g,.vec ns.length (au ns),.vec rc.length (ints rc)])) (hJw:∀ k H1 H2,J k H1->xt (N+1) H1 H2->J k H2)
  (hY:∀ k x H1 K1,(jG ns rc N)[k]?=some x->J k H1->DK ns rc N k H1->N+4<=H1.next->(∀ H',J (k+1) H'->(∀ id,N<=id->id<N+4->H'.get id=H1.get id)->H1.next<=H'.next->K1 (.ret (.lit (.bool true))) H')->aw Tryd.prog G0 (.yld idy) x H1 K1):
  ∀ (d i:Nat),i+d=ns.length->∀ (k:Nat) (w:List Int) (H1:AHeap) (K1:ARes->AHeap->Prop),w.length=ns.length ->
   (∀ (j:Nat) (t:List Int),(di ((af ns).drop i) (rc.drop i))[j]?=some t->(di (af ns) rc)[k+j]?=some (w.take i++t)) ->
   J k H1->Own4 ns.length N b idy H1 w ->
   (∀ H' w',J (k+(di ((af ns).drop i) (rc.drop i)).length) H'->Own4 ns.length N b idy H' w'->w'.take i=w.take i->w'.length=ns.length->H1.next<=H'.next->K1 (.ret (.lit (.bool true))) H') ->
   ae Tryd.prog G0 61 [aa i,.ptr (N+2) 0 0,.ptr N 0 0,.ptr b 0 0,.ptr (N+3) 0 0] H1 K1:=by
 have hc1:=iF h;have n8:=h.n1;have cl:(af ns).length=ns.length:=bK ns;intro d
 induction d with
 | zero =>
  intro i hi k w H1 K1 hw hpre hj ho hK;have ei:i=ns.length:=by omega
  subst ei;have e0:di ((af ns).drop ns.length) (rc.drop ns.length)=[[]]:=by rw[Xx (by omega)];rfl
  rw[e0]at hpre hK;have hk:=hpre 0 [] rfl;rw[Vz (by omega),List.append_nil,Nat.add_zero]at hk;have hfit:=nk hc1 (by omega) (Vs hk);have lb:=ak (hS0 _ _ hj);have lc:=ak ho.c;have ly:=ak ho.y;have lw:=ak ho.w;refine ae.bF (n:=53) (rs:=[.tmp 6]) Tryd.func61 rfl rfl rfl (by decide) (by kernel_rfl) (by simp) ?_;simp only[go_sem,lc,lw];refine W.draw 5 [0,0,0,0,12] Tryd.mixed (by kernel_rfl) (by kernel_rfl) ?_;simp only[go_sem,lc,ly,lb];refine⟨aa (weight ns w),[N+1],OX g ns h rc w hfit H1 (N+1) ns.length (by have:=ho.nx;omega) ho.w hw.symm,?_⟩;simp only[go_sem];refine hY k [.own (N+1) 0 0 ns.length 1,aa (weight ns w)] H1 _ (by unfold jG;rw[List.getElem?_map,hk];rfl) hj ⟨w,hk,ho.w⟩ ho.nx fun H2 j2 kp n2=>⟨trivial,?_⟩
  simp only[go_sem];exact av.mk n2 (hK H2 w j2 (ho.keep n2 kp) rfl hw n2)
 | succ d ih =>
  intro i hi k w H1 K1 hw hpre hj ho hK;obtain⟨x,hx⟩:=get_of_lt (l:=ns) (i:=i) (by omega);obtain⟨q,hq⟩:=get_of_lt (l:=rc) (i:=i) (by omega);have hxc:=(h.node x (Vs hx)).1;have hcx:=cN hx;rw[OW hcx hq]at hpre hK;obtain⟨F,hF⟩:∃ F,F=vI ((af ns).drop (i+1)) (rc.drop (i+1)) q:=⟨_,rfl⟩
  rw[<- hF]at hpre hK;have lb:=ak (hS0 _ _ hj);have lc:=ak ho.c;have lw:=ak ho.w;have hin:¬ (i:Int)=ns.length:=by omega
  have hil:(i:Int)<ns.length:=by omega
  have hne:=eP hx;have h0:=nG hx;refine ae.bF (n:=53) (rs:=[.tmp 6]) Tryd.func61 rfl rfl rfl (by decide) (by kernel_rfl) (by simp) ?_;simp only[go_sem,lb,lc,lw,hin,hil,hne,h0];refine W.en (fun E=>E 0=aa i /\ E 1=.ptr (N+2) 0 0 /\ E 2=.ptr N 0 0 /\ E 3=.ptr b 0 0 /\ E 4=.ptr (N+3) 0 0 /\ E 24=aa x.card /\ E 25=aa 0) (by simp only[go_sem]) fun E ⟨e0,e1,e2,e3,e4,e24,e25⟩=>?_
  refine W.aG 9007199221186752 (by rfl) (fun ρ H'=>∃ (a:Nat) (w':List Int),ρ 25=aa a/\(a:Int)<=x.card/\J (k+((List.range a).flatMap F).length) H'/\Own4 ns.length N b idy H' w'/\w'.take i=w.take i/\w'.length=ns.length/\H1.next<=H'.next) (fun ρ H=>x.card.toNat - (iv (ρ 25)).toNat) ?_ ?_
  ·exact⟨0,w,e25,by omega,hj,ho,rfl,hw,Nat.le_refl _⟩
  rintro ρ H' ⟨a,w',h25,ha,hj',ho',ht',hl',hn'⟩;refine W.en (fun E1=>E1 0=aa i /\ E1 1=.ptr (N+2) 0 0 /\ E1 2=.ptr N 0 0 /\ E1 3=.ptr b 0 0 /\ E1 4=.ptr (N+3) 0 0 /\ E1 24=aa x.card /\ E1 25=aa a) (by simp only[go_sem,e0,e1,e2,e3,e4,e24,h25]) fun E1 ⟨f0,f1,f2,f3,f4,f24,f25⟩=>?_
  have mb:=ak (hS0 _ _ hj');have mc:=ak ho'.c;have mw:=ak ho'.w;have mf:=ak ho'.f;have hqn:=aJ hq;have hir:(i:Int)<rc.length:=by omega
  have hiw:(i:Int)<w'.length:=by omega
  have w1:=Vt ((i:Int)+1) (by omega);have w2:=Vt ((a:Int)+1) (by omega);by_cases hb:(a:Int)<x.card;rotate_left
  ·have ea:a=x.card.toNat:=(by omega);refine W.vs ?_;simp only[go_sem,f24,f25,hb];exact av.mk hn' (hK H' w' (by rw[<- ea];exact hj') ho' ht' hl' hn')
  have hset:setAt (ints w') i [aa a]=ints (w'.set i (a:Int)):=fo (by omega);obtain⟨H3,hH3⟩:∃ H3,H3=H'.upd (N+1) (.arr 0 3 (setAt (ints w') i [aa a])):=⟨_,rfl⟩
  have n3:H3.next=H'.next:=by rw[hH3];rfl
  have k3:∀ id,id≠N+1->H3.get id=H'.get id:=fun id hh=>by rw[hH3,ag,Vw hh]
  have m3:H3.get (N+1)=some (.arr 0 3 (ints (w'.set i (a:Int)))):=by rw[hH3,ag,Vx rfl,hset]
  have o3:Own4 ns.length N b idy H3 (w'.set i (a:Int)):=⟨by rw[n3];exact ho'.nx,(k3 _ (by omega)).trans ho'.y,m3,(k3 _ (by omega)).trans ho'.c,(k3 _ (by omega)).trans ho'.f⟩
  have mf3:(H'.upd (N+1) (.arr 0 3 (setAt (ints w') i [.lit (.int .i64 (a:Int))]))).live (N+3) 0=some (99,[.clo 61 [] [.ptr (N+2) 0 0,.ptr N 0 0,.ptr b 0 0,.ptr (N+3) 0 0]]):=by have:=ak o3.f;rw[hH3]at this;exact this
  have j3:J (k+((List.range a).flatMap F).length) H3:=hJw _ _ _ hj' ⟨by rw[n3];exact Nat.le_refl _,fun id h1 _=>k3 id h1⟩;have tk:(w'.set i (a:Int)).take (i+1)=w.take i++[(a:Int)]:=by
   rw[aL (x:=(a:Int)) (by rw[VI (by omega)]),XL (Nat.le_refl _),ht']
  have fyes:(q<0\/q=(a:Int))->F a=(di ((af ns).drop (i+1)) (rc.drop (i+1))).map fun w=>(a:Int) :: w:=fun hh=>by rw[hF];unfold vI;rw[Vx hh]
  have hpre3:(q<0\/q=(a:Int))->∀ (j:Nat) (t:List Int),(di ((af ns).drop (i+1)) (rc.drop (i+1)))[j]?=some t->(di (af ns) rc)[k+((List.range a).flatMap F).length+j]?=some ((w'.set i (a:Int)).take (i+1)++t):=fun hh j t hj=>by
   rw[tk,List.append_assoc,W6];refine hpre _ _ (OV (by omega) ?_);rw[fyes hh,List.getElem?_map,hj];rfl
  have pre1:((List.range (a+1)).flatMap F).length=((List.range a).flatMap F).length+(F a).length:=by
   rw[WI,Yb,List.length_append];simp
  by_cases q0:q<0
  ·refine W.vs ?_;simp only[go_sem,f0,f1,f3,f4,f24,f25,mb,mc,mw,mf3,w1,hb,hq,hqn,hir,hl',q0];refine⟨by omega,by omega,?_⟩;show aw _ _ (.clo 61 [] [.ptr (N+2) 0 0,.ptr N 0 0,.ptr b 0 0,.ptr (N+3) 0 0]) [aa ((i+1:Nat):Int)] (H'.upd (N+1) (.arr 0 3 (setAt (ints w') i [aa a]))) _;rw[<- hH3];refine aw.clo (ih (i+1) (by omega) _ (w'.set i (a:Int)) H3 _ (by rw[VG];exact hl') (hpre3 (.inl q0)) j3 o3 fun H4 w4 j4 o4 t4 l4 n4=>⟨trivial,?_⟩);have t4':w4.take i=w.take i:=by
    have:=congrArg (List.take i) (t4.trans tk);rw[X0,Xa (Yk i),List.take_left' (by rw[VC];omega)]at this;exact this
   simp only[go_sem,f25,w2];exact⟨by omega,⟨a+1,w4,rfl,by omega,by rw[pre1,fyes (.inl q0),VD,<- W6];exact j4,o4,t4',l4,by omega⟩,by rw[h25];simp only[aa,aN];omega⟩
  by_cases q1:q=(a:Int)
  ·have q0':¬ (a:Int)<0:=(by omega);refine W.vs ?_;simp only[go_sem,f0,f1,f3,f4,f24,f25,mb,mc,mw,mf3,w1,hb,hq,hqn,hir,hl',q0',q1];refine⟨by omega,by omega,?_⟩;show aw _ _ (.clo 61 [] [.ptr (N+2) 0 0,.ptr N 0 0,.ptr b 0 0,.ptr (N+3) 0 0]) [aa ((i+1:Nat):Int)] (H'.upd (N+1) (.arr 0 3 (setAt (ints w') i [aa a]))) _;rw[<- hH3];refine aw.clo (ih (i+1) (by omega) _ (w'.set i (a:Int)) H3 _ (by rw[VG];exact hl') (hpre3 (.inr q1)) j3 o3 fun H4 w4 j4 o4 t4 l4 n4=>⟨trivial,?_⟩);have t4':w4.take i=w.take i:=by
    have:=congrArg (List.take i) (t4.trans tk);rw[X0,Xa (Yk i),List.take_left' (by rw[VC];omega)]at this;exact this
   simp only[go_sem,f25,w2];exact⟨by omega,⟨a+1,w4,rfl,by omega,by rw[pre1,fyes (.inr q1),VD,<- W6];exact j4,o4,t4',l4,by omega⟩,by rw[h25];simp only[aa,aN];omega⟩
  ·refine W.vs ?_;simp only[go_sem,f0,f3,f24,f25,mb,hb,hq,hqn,hir,q0,q1,w2];have fno:F a=[]:=(by rw[hF];unfold vI;rw[Vw fun hh=>hh.elim q0 q1]);exact⟨hn',⟨a+1,w',rfl,by omega,by rw[pre1,fno];exact hj',ho',ht',hl',hn'⟩,by rw[h25];simp only[aa,aN];omega⟩
set_option maxHeartbeats 1000000 in
theorem DL (g:Int)(ns:List NodeP)(h:NetOk g ns)(rc:List Int)(hr:rc.length=ns.length)(b N:Nat)(hbN:b<N):
  DG Tryd.prog G0 60 [] [.ptr b 0 0] (jG ns rc N) N (fun H=>H.get b=some (.arr 0 105 [aa g,.vec ns.length (au ns),.vec rc.length (ints rc)])) (DK ns rc N):=by
 intro idy J H K hN hS0 hJw hJ0 hY hK;have l0:=ak (hS0 0 H hJ0);have n8:=h.n1;subst hN;show ae _ _ _ ([.yld idy]++[.ptr b 0 0]) _ _;refine ae.bF (n:=13) (rs:=[]) Tryd.func60 rfl rfl rfl (by decide) (by kernel_rfl) (by simp) ?_;have lE:∀ L,(ext H L).live b 0=some (105,[aa g,.vec ns.length (au ns),.vec rc.length (ints rc)]):=fun L=>ak ((dV _ _ _ hbN).trans (hS0 0 H hJ0));have c1:∀ f a c,(AVal.clo f a c).cells=[.clo f a c]:=fun _ _ _=>rfl;have c2:∀ f a c,(AVal.clo f a c).one=true:=fun _ _ _=>rfl;have c3:∀ i,(AVal.yld i).cells=[.yld i]:=fun _=>rfl;simp only[go_sem,lE,c1,c2,c3];refine⟨by omega,?_⟩;obtain⟨bs,hbs⟩:∃ bs,bs=[Blk.arr 0 81 [.yld idy],.arr 0 3 (List.replicate ns.length (.lit (.int .i64 0))),.arr 0 39 [.own (H.next+1) 0 0 ns.length 1],.arr 0 99 [.clo 61 [] [.ptr (H.next+2) 0 0,.ptr H.next 0 0,.ptr b 0 0,.ptr (H.next+3) 0 0]]]:=⟨_,rfl⟩
 rw[<- hbs];have hrep:List.replicate ns.length (.lit (.int .i64 0))=ints (List.replicate ns.length 0):=by simp [ints,aa]
 have nx:(ext H bs).next=H.next+4:=by rw[hbs];rfl
 have hw:xt (H.next+1) H (ext H bs):=⟨by omega,fun id _ hi=>dV _ _ _ hi⟩
 refine aw.clo (OY g ns h rc hr b H.next idy hbN J hS0 hJw hY ns.length 0 (by omega) 0 (List.replicate ns.length 0) (ext H bs) _ (by simp) (fun j t ht=>by rw[Nat.zero_add];exact ht) (hJw 0 H _ hJ0 hw)
  ⟨by omega,by rw[hbs];exact bC H _ 0 (by simp),by rw[<- hrep,hbs];exact bC H _ 1 (by simp),by rw[hbs];exact bC H _ 2 (by simp),by rw[hbs];exact bC H _ 3 (by simp)⟩ fun H2 w2 j2 o2 _ _ n2=>⟨trivial,?_⟩)
 simp only[go_sem];refine av.mk (by omega) (hK H2 ?_ (by omega));rw[Nat.zero_add,List.drop_zero,List.drop_zero]at j2;unfold jG;rw[VD];exact j2
theorem DM (g:Int)(ns:List NodeP)(rc:List Int)(H:AHeap)(K:ARes->AHeap->Prop)(hK:K (.ret (.clo 60 [] [.ptr H.next 0 0])) (ext H [.arr 0 105 [aa g,.vec ns.length (au ns),.vec rc.length (ints rc)]])):
  ae Tryd.prog G0 51 [.agg [aa g,.vec ns.length (au ns),.vec rc.length (ints rc)]] H K:=by
 refine ae.bF (n:=4) (rs:=[.tmp 2]) Tryd.func51 rfl rfl rfl (by decide) (by kernel_rfl) (by simp) ?_;simp only[go_sem];exact av.mk (by simp [dF]) hK
def dz (ns:List NodeP)(r:List Int):Int:=((di (af ns) r).map (weight ns)).sum
theorem OZ {g:Int}{ns:List NodeP}(h:NetOk g ns){r:List Int}(hr:r.length=ns.length):(di (af ns) r).length<=1024:=by
 have h1:=iF h;rw[zR (by rw[hr,bK])];refine We (List.length_filter_le _ _) ?_;rw[zM h1,VD,WB];have:=h.size;omega
theorem DN {g:Int}{ns:List NodeP}(h:NetOk g ns){w:List Int}(hw:bP (af ns) w):0<=weight ns w/\weight ns w<=167961600000000:=by
 have:=Gi h hw ns.length;rw[Vz (by rw[oR];exact Nat.le_refl _)]at this;exact this
theorem O0 {l:List Int}{b:Int}(h:∀ x∈l,0<=x/\x<=b):0<=l.sum/\l.sum<=l.length*b:=by
 induction l with
 | nil=>simp
 | cons a l ih =>
  have h1:=h a (by simp);have h2:=ih fun x hx=>h x (by simp [hx]);rw[V5,List.length_cons,show ((l.length+1:Nat):Int)=l.length+1 from rfl,XN];omega
theorem zX {g:Int}{ns:List NodeP}(h:NetOk g ns){r:List Int}(hr:r.length=ns.length)(k:Nat):
  0<=(((di (af ns) r).take k).map (weight ns)).sum/\(((di (af ns) r).take k).map (weight ns)).sum<=171992678400000000:=by
 have h1:=O0 (l:=((di (af ns) r).take k).map (weight ns)) (b:=167961600000000) fun x hx=>by
  obtain⟨w,hw,rfl⟩:=VN.1 hx;exact DN h (nk (iF h) (by rw[hr,bK]) (VW hw))
 have h2:=OZ h hr;rw[VD,VC]at h1;have h3:((min k (di (af ns) r).length:Nat):Int)*167961600000000<=1024*167961600000000:=by omega
 omega
def gf (ns:List NodeP)(xs:List (List Int))(k:Nat):List Int:=(xs.take k).map (dz ns)++List.replicate (xs.length - k) 0
theorem O1 (ns:List NodeP)(xs:List (List Int))(k:Nat)(hk:k<=xs.length):(gf ns xs k).length=xs.length:=by simp [gf];omega
theorem O4 {ns:List NodeP}{xs:List (List Int)}{k:Nat}{r:List Int}(h:xs[k]?=some r):gf ns xs (k+1)=(gf ns xs k).set k (dz ns r):=by
 have hl:=get_lt h;unfold gf;rw[aL h,Wo,Ww _ _ (by simp;omega)];have e:k - ((xs.take k).map (dz ns)).length=0:=by simp;omega
 rw[e,show xs.length - k=(xs.length - (k+1))+1 by omega,Xn];simp
theorem O5 {α:Type}{l:List α}{i:Nat}{x:α}(h:l[i]?=some x):l.set i x=l:=by
 refine V9 fun j=>?_;rw[W3];split
 ·rename_i e;subst e;rw[Vx (get_lt h),h]
 ·rfl
theorem O6 {ns:List NodeP}{xs:List (List Int)}{k:Nat}{r:List Int}(h:xs[k]?=some r):(gf ns xs k)[k]?=some 0:=by
 have hl:=get_lt h;unfold gf;rw[VQ (by simp;omega),WY];rw[Vx (by simp;omega)]
set_option maxHeartbeats 2000000 in
theorem zY (g:Int)(ns:List NodeP)(h:NetOk g ns)(cs:List Int)(xs:List (List Int))(hx40:xs.length<=64)(hrow:∀ r∈xs,r.length=ns.length)(H:AHeap)(K:ARes->AHeap->Prop)(hK:K (.ret (ab (xs.map (dz ns)))) H):
  ae Tryd.prog G0 29 [aZ g ns,da cs xs] H K:=by
 refine ae.clo ⟨_,Tryd.func29,rfl,rfl⟩ fun hcl=>?_;have n8:=h.n1;refine ae.bF (n:=37) (rs:=[.tmp 4]) Tryd.func29 rfl rfl rfl (by decide) (by kernel_rfl) (by simp) ?_;simp only[go_sem,aZ,dk,da,aB];refine⟨by omega,?_⟩;obtain⟨H1,hH1⟩:∃ H1,H1=ext H [.arr 0 36 [aa g,.vec ns.length (au ns)],.arr 0 42 [.vec cs.length (ints cs),.vec xs.length (xs.map ab)],.arr 0 3 (List.replicate xs.length (aa 0)),.arr 0 39 [.own (H.next+2) 0 0 xs.length 1]]:=⟨_,rfl⟩
 have n1:H1.next=H.next+4:=by rw[hH1];rfl
 have o1:Over H H1:=by rw[hH1];exact .ext _ _
 have g0:H1.get H.next=some (.arr 0 36 [aa g,.vec ns.length (au ns)]):=by rw[hH1];exact bC H _ 0 (by simp)
 have g2:H1.get (H.next+2)=some (.arr 0 3 (ints (gf ns xs 0))):=by
  rw[hH1,bC H _ 2 (by simp)];simp [gf,ints,aa]
 have g3:H1.get (H.next+3)=some (.arr 0 39 [.own (H.next+2) 0 0 xs.length 1]):=by rw[hH1];exact bC H _ 3 (by simp)
 refine W.en (fun E=>E 2=.ptr H.next 0 0 /\ E 5=.ptr (H.next+3) 0 0 /\ E 15=.vec xs.length (xs.map ab) /\ E 16=aa xs.length /\ E 17=aa 0) (by simp only[go_sem]) fun E ⟨e2,e5,e15,e16,e17⟩=>?_
 show W _ _ _ _ _ _ ⟨E,ext H [.arr 0 36 [aa g,.vec ns.length (au ns)],.arr 0 42 [.vec cs.length (ints cs),.vec xs.length (xs.map ab)],.arr 0 3 (List.replicate xs.length (aa 0)),.arr 0 39 [.own (H.next+2) 0 0 xs.length 1]]⟩;rw[<- hH1];refine W.aG 34426716352 (by rfl) (fun ρ H'=>∃ i:Nat,ρ 17=aa i/\i<=xs.length/\H1.next<=H'.next/\(∀ id,id<H1.next->id≠H.next+2->H'.get id=H1.get id)/\H'.get (H.next+2)=some (.arr 0 3 (ints (gf ns xs i)))) (fun ρ H=>xs.length - (iv (ρ 17)).toNat) ?_ ?_
 ·exact⟨0,e17,by omega,Nat.le_refl _,fun _ _ _=>rfl,g2⟩
 rintro ρ H' ⟨i,h17,hi,hn,hk,hg2⟩;refine W.en (fun F=>F 2=.ptr H.next 0 0 /\ F 5=.ptr (H.next+3) 0 0 /\ F 15=.vec xs.length (xs.map ab) /\ F 16=aa xs.length /\ F 17=aa i) (by simp only[go_sem,e2,e5,e15,e16,h17]) fun F ⟨f2,f5,f15,f16,f17⟩=>?_
 by_cases hb:(i:Int)<xs.length;rotate_left
 ·have ei:i=xs.length:=by omega
  refine W.vs ?_;have l3:=ak ((hk (H.next+3) (by omega) (by omega)).trans g3);simp only[go_sem,f5,f16,f17,hb,l3];have em:gf ns xs i=xs.map (dz ns):=by rw[ei];simp [gf]
  rw[em]at hg2;have ovx:Over H H':=⟨by omega,fun id hi=>(hk id (by omega) (by omega)).trans (o1.old id hi)⟩
  exact av.bR (v':=ab (xs.map (dz ns))) aT hcl ovx (Fz.ints (by omega) hg2 (by simp) fun j hj=>by rw[Nat.zero_add,eZ];simp only[Vv hj,Option.map_some]) hK
 obtain⟨r,hr⟩:=get_of_lt (l:=xs) (i:=i) (by omega);have hr':=mg hr;have hrn:=aJ hr';have hrl:=hrow r (Vs hr);have lE:∀ L,(ext H' L).live H.next 0=some (36,[aa g,.vec ns.length (au ns)]):=fun L=>ak ((dV _ _ _ (by omega)).trans ((hk H.next (by omega) (by omega)).trans g0));refine W.vs ?_;simp only[go_sem,f2,f15,f16,f17,hb,hr',hrn,lE];obtain⟨Ha,hHa⟩:∃ Ha,Ha=ext H' [.arr 0 3 [aa i]]:=⟨_,rfl⟩
 obtain⟨Hb,hHb⟩:∃ Hb,Hb=ext Ha [.arr 0 105 [aa g,.vec ns.length (au ns),.vec r.length (ints r)]]:=⟨_,rfl⟩
 have na:Ha.next=H'.next+1:=by rw[hHa];rfl
 have nb:Hb.next=H'.next+2:=by rw[hHb];show Ha.next+1=_;rw[na]
 have ka:Ha.get H'.next=some (.arr 0 3 [aa i]):=by rw[hHa];exact cS
 have kb:Hb.get (H'.next+1)=some (.arr 0 105 [aa g,.vec ns.length (au ns),.vec r.length (ints r)]):=by rw[hHb,<- na];exact cS
 have oab:∀ id,id<H'.next+1->Hb.get id=Ha.get id:=fun id hh=>by rw[hHb];exact fb (by omega)
 have oa:∀ id,id<H'.next->Hb.get id=H'.get id:=fun id hh=>by rw[oab id (by omega),hHa];exact fb hh
 refine aw.clo (DM g ns r _ _ ⟨trivial,?_⟩);simp only[go_sem];refine W.env fun E1 hE1=>?_;have k2:E1 2=.ptr H.next 0 0:=by rw[hE1];simp only[go_sem,f2]
 have k5:E1 5=.ptr (H.next+3) 0 0:=by rw[hE1];simp only[go_sem,f5]
 have k6:E1 6=.ptr H'.next 0 0:=by rw[hE1];simp only[go_sem]
 have k15:E1 15=.vec xs.length (xs.map ab):=by rw[hE1];simp only[go_sem,f15]
 have k16:E1 16=aa xs.length:=by rw[hE1];simp only[go_sem,f16]
 have k17:E1 17=aa i:=by rw[hE1];simp only[go_sem,f17]
 have k25:E1 25=.clo 60 [] [.ptr (H'.next+1) 0 0]:=by rw[hE1];rfl
 clear hE1;show W _ _ _ _ _ _ ⟨E1,ext (ext H' [.arr 0 3 [aa i]]) [.arr 0 105 [aa g,.vec ns.length (au ns),.vec r.length (ints r)]]⟩;rw[<- hHa,<- hHb];have w1:=Vt ((i:Int)+1) (by omega);have mt:=zX h hrl;obtain⟨D,hD⟩:∃ D,D=di (af ns) r:=⟨_,rfl⟩
 have hDl:(jG ns r (Hb.next+1)).length=D.length:=by unfold jG;rw[VD,hD]
 rw[<- hD]at mt;have hm:dz ns r=(D.map (weight ns)).sum:=by rw[hD];rfl
 refine W.DH (f:=60) (first:=[]) (cap:=[.ptr (H'.next+1) 0 0]) (by show E1 25=_;exact k25) (DL g ns h r hrl (H'.next+1) (Hb.next+1) (by omega))
  (fun k Hx=>Hb.next<Hx.next/\(∀ id,id<Hb.next->id≠H.next+2->Hx.get id=Hb.get id)/\Hx.get (H.next+2)=some (.arr 0 3 (ints ((gf ns xs i).set i ((D.take k).map (weight ns)).sum))))
  (fun k Hx hj=>(hj.2.1 _ (by omega) (by omega)).trans kb)
  (fun k H1 H3 hj hw=>⟨by have:=hw.1;omega,fun id h1 h2=>(hw.2 _ (by omega) (by have:=hj.1;omega)).trans (hj.2.1 id h1 h2),(hw.2 _ (by omega) (by have:=hj.1;omega)).trans hj.2.2⟩)
  (fun k Hx hj=>hj.1)
  (fun k H1 b hj=>⟨hj.1,fun id h1 h2=>by rw[ag,Vw (by omega)];exact hj.2.1 id h1 h2,by rw[ag,Vw (by omega)];exact hj.2.2⟩)
  (fun b=>⟨by rw[dF];simp,fun id h1 h2=>fb h1,by
   rw[fb (by omega),oa _ (by omega),hg2];congr 2;simp only[List.take_zero,List.map_nil,List.sum_nil];rw[O5 (O6 hr)]⟩) (by decide)
  (fun x hx=>by
   unfold jG at hx;obtain⟨w,_,rfl⟩:=VN.1 hx;rfl) (fun _ _ _=>trivial) (fun k y Hx B Bb hy hj hs hn2 hB hBb=>?_) (fun Hx hj hn2=>?_)
 ·obtain⟨hh1,hh2,hh3⟩:=hj;obtain⟨w,hw,hwN⟩:=hs;rw[<- hD]at hw;have hy':y=[.own (Hb.next+1+1) 0 0 ns.length 1,aa (weight ns w)]:=by
   unfold jG at hy;rw[<- hD,List.getElem?_map,hw]at hy;exact(Option.some.inj hy).symm
  subst hy';refine W.vs ?_;simp only[go_sem,lV,eX,tC,Xc,YU,XQ,YB,hB];obtain⟨H3,hH3⟩:∃ H3,H3=Hx.upd Hb.next Bb:=⟨_,rfl⟩
  rw[<- hH3];obtain⟨st,pd,n',en,ps',as',bo,hBe⟩:=hBb;have n3:H3.next=Hx.next:=by rw[hH3];rfl
  have o3:∀ id,id≠Hb.next->H3.get id=Hx.get id:=fun id hh=>by rw[hH3,ag,Vw hh]
  have jB:H3.get Hb.next=some Bb:=by rw[hH3,ag,Vx rfl]
  refine W.en (fun E2=>E2 5=.ptr (H.next+3) 0 0 /\ E2 6=.ptr H'.next 0 0 /\ E2 9=aa (weight ns w)) (by simp only[go_sem,eX,k5,k6]) fun E2 ⟨m5,m6,m9⟩=>?_
  have l3:=ak ((o3 (H.next+3) (by omega)).trans ((hh2 _ (by omega) (by omega)).trans ((oa _ (by omega)).trans ((hk _ (by omega) (by omega)).trans g3))));have l6:=ak ((o3 H'.next (by omega)).trans ((hh2 _ (by omega) (by omega)).trans ((oab _ (by omega)).trans ka)));have l2:=ak ((o3 (H.next+2) (by omega)).trans hh3);have hml:=O1 ns xs i hi;have hil:i<(gf ns xs i).length:=by omega
  have mt1:=mt (k+1);have es:((D.take (k+1)).map (weight ns)).sum=((D.take k).map (weight ns)).sum+weight ns w:=by rw[aL hw];simp
  rw[es]at mt1;have w2:=Vt (((D.take k).map (weight ns)).sum+weight ns w) (by omega);have hgv:((gf ns xs i).set i ((D.take k).map (weight ns)).sum)[i]?=some ((D.take k).map (weight ns)).sum:=VI hil;refine W.vs ?_;simp only[go_sem,m5,m6,m9,l2,l3,l6,hb,hgv,w2,nP];refine⟨by rw[VG];omega,?_⟩;obtain⟨H4,hH4⟩:∃ H4,H4=H3.upd (H.next+2) (.arr 0 3 (setAt (ints ((gf ns xs i).set i ((D.take k).map (weight ns)).sum)) i [.lit (.int .i64 (((D.take k).map (weight ns)).sum+weight ns w))])):=⟨_,rfl⟩
  rw[<- hH4];have n4:H4.next=Hx.next:=by rw[hH4];exact n3
  have k4:∀ id,id≠H.next+2->id≠Hb.next->H4.get id=Hx.get id:=fun id h1 h2=>by rw[hH4,ag,Vw h1,o3 id h2]
  have e4:H4.get (H.next+2)=some (.arr 0 3 (ints ((gf ns xs i).set i ((D.take (k+1)).map (weight ns)).sum))):=by
   rw[hH4,ag,Vx rfl,fo (by rw[VG];omega),X2,es]
  exact⟨by rw[hH4,ag,Vw (by omega)];exact jB,by omega,⟨by omega,fun id h1 h2=>(k4 id h2 (by omega)).trans (hh2 id h1 h2),e4⟩,fun id h1 h2=>k4 id (by omega) (by omega)⟩
 ·rw[hDl,Vz (Nat.le_refl _),<- hm]at hj;simp only[go_sem,k17,w1];have hi1:(i:Int)<xs.length:=hb;refine⟨by omega,⟨i+1,rfl,by omega,by omega,fun id h1 h2=>(hj.2.1 id (by omega) h2).trans ((oa id (by omega)).trans (hk id h1 h2)),by rw[O4 hr];exact hj.2.2⟩,by rw[h17];simp only[aa,aN];omega⟩
end Go.Proofs
