/- Own work: contracts. -/
import Derived.Test.YtakancljiekbhaaConA
set_option linter.all false
set_option maxRecDepth 100000
namespace Go.Proofs
open Go.Hx
def za:AVal:=.agg [.lit (.int .i64 0),ae [],ae [],ae [],ae []]
def zc (g:Int)(ns:List NodeP):AVal:=.agg [.lit (.int .i64 g),bW ns,ae (ar ns),jJ (bB ns),ae (fL ((eW (bB ns)).getD []))]
structure RdS (g:Int)(ns:List NodeP)(H H':AHeap)(c:List Int)(s:List Nat):Prop where
 nx:H.next+5<=H'.next
 ov:Over H H'
 b0:H'.get H.next=some (.arr 0 35 [.lit (.int .i64 g),.vec ns.length (au ns)])
 b1:H'.get (H.next+1)=some (.arr 0 145 [.lit (.int .i64 0),.lit (.slice none 0 0),.lit (.slice none 0 0),.lit (.slice none 0 0),.lit (.slice none 0 0)])
 b2:H'.get (H.next+2)=some (.arr 0 3 (ints c))
 b3:H'.get (H.next+3)=some (.arr 0 45 (s.map cR))
 b4:H'.get (H.next+4)=some (.arr 0 145 [.lit (.int .i64 g),.vec ns.length (au ns),.own (H.next+2) 0 0 ns.length 1,.own (H.next+3) 0 0 ns.length 1,.lit (.slice none 0 0)])
 cl:c.length=ns.length
 sl:s.length=ns.length
theorem RdS.over {g:Int}{ns:List NodeP}{H H' H2:AHeap}{c:List Int}{s:List Nat}(h:RdS g ns H H' c s)(o:Over H' H2):RdS g ns H H2 c s where
 nx:=Nat.le_trans h.nx o.next
 ov:=h.ov.trans o
 b0:=(o.old _ (by have:=h.nx;omega)).trans h.b0
 b1:=(o.old _ (by have:=h.nx;omega)).trans h.b1
 b2:=(o.old _ (by have:=h.nx;omega)).trans h.b2
 b3:=(o.old _ (by have:=h.nx;omega)).trans h.b3
 b4:=(o.old _ (by have:=h.nx;omega)).trans h.b4
 cl:=h.cl
 sl:=h.sl
theorem RdS.Q6 {g:Int}{ns:List NodeP}{H H':AHeap}{c:List Int}{s:List Nat}(h:RdS g ns H H' c s){k:Nat}(hk:k<c.length)(x:Int):RdS g ns H (H'.upd (H.next+2) (.arr 0 3 (setAt (ints c) k [.lit (.int .i64 x)]))) (c.set k x) s where
 nx:=h.nx
 ov:=h.ov.upd (by omega) _
 b0:=by rw[ag,if_neg (by omega)];exact h.b0
 b1:=by rw[ag,if_neg (by omega)];exact h.b1
 b2:=by rw[ag,if_pos rfl,dM hk]
 b3:=by rw[ag,if_neg (by omega)];exact h.b3
 b4:=by rw[ag,if_neg (by omega)];exact h.b4
 cl:=by simpa using h.cl
 sl:=h.sl
theorem Q7 {l:List Nat}{i:Nat}{x:Nat}(h:i<l.length):setAt (l.map cR) i [.lit (.int .u64 (x:Int))]=(l.set i x).map cR:=by
 rw[iK (by simpa using h)];simp [cR]
theorem RdS.Q8 {g:Int}{ns:List NodeP}{H H':AHeap}{c:List Int}{s:List Nat}(h:RdS g ns H H' c s){k:Nat}(hk:k<s.length)(x:Nat):RdS g ns H (H'.upd (H.next+3) (.arr 0 45 (setAt (s.map cR) k [.lit (.int .u64 (x:Int))]))) c (s.set k x) where
 nx:=h.nx
 ov:=h.ov.upd (by omega) _
 b0:=by rw[ag,if_neg (by omega)];exact h.b0
 b1:=by rw[ag,if_neg (by omega)];exact h.b1
 b2:=by rw[ag,if_neg (by omega)];exact h.b2
 b3:=by rw[ag,if_pos rfl,Q7 hk]
 b4:=by rw[ag,if_neg (by omega)];exact h.b4
 cl:=h.cl
 sl:=by simpa using h.sl
theorem RdS.l0 {g:Int}{ns:List NodeP}{H H':AHeap}{c:List Int}{s:List Nat}(h:RdS g ns H H' c s):H'.live H.next 0=some (35,[.lit (.int .i64 g),.vec ns.length (au ns)]):=ah h.b0
theorem RdS.l1 {g:Int}{ns:List NodeP}{H H':AHeap}{c:List Int}{s:List Nat}(h:RdS g ns H H' c s):H'.live (H.next+1) 0=some (145,[.lit (.int .i64 0),.lit (.slice none 0 0),.lit (.slice none 0 0),.lit (.slice none 0 0),.lit (.slice none 0 0)]):=ah h.b1
theorem RdS.l2 {g:Int}{ns:List NodeP}{H H':AHeap}{c:List Int}{s:List Nat}(h:RdS g ns H H' c s):H'.live (H.next+2) 0=some (3,ints c):=ah h.b2
theorem RdS.l3 {g:Int}{ns:List NodeP}{H H':AHeap}{c:List Int}{s:List Nat}(h:RdS g ns H H' c s):H'.live (H.next+3) 0=some (45,s.map cR):=ah h.b3
theorem RdS.l4 {g:Int}{ns:List NodeP}{H H':AHeap}{c:List Int}{s:List Nat}(h:RdS g ns H H' c s):H'.live (H.next+4) 0=some (145,[.lit (.int .i64 g),.vec ns.length (au ns),.own (H.next+2) 0 0 ns.length 1,.own (H.next+3) 0 0 ns.length 1,.lit (.slice none 0 0)]):=ah h.b4
theorem rT {S:Nat->Prop}{H:AHeap}{nx:Nat}(ns:List NodeP):Fz S H nx (.vec ns.length (au ns)) (.vec ns.length (au ns)):=by
 refine .vec rfl fun i hi _=>?_;have:∀ (l:List NodeP) (c:AVal),c∈au l->Fz S H nx c c:=by
  intro l c hc;unfold au at hc;obtain⟨r,hr,hc⟩:=List.mem_flatten.1 hc;obtain⟨x,_,rfl⟩:=List.mem_map.1 hr;unfold NodeP.cells at hc;simp only[List.mem_cons,List.not_mem_nil,or_false]at hc;rcases hc with rfl|rfl|rfl
  ·exact .lit _
  ·exact .dk _
  ·exact .aA _
 exact this ns _ (List.getElem_mem _)
theorem Q9 (g:Int)(hg:1<=g/\g<=60)(ns:List NodeP)(sets:List Nat)(x:NodeP)(hin:gA x.parents ns.length)(hsm:dY (aS ns x))(hx1:(x.rows.length:Int)<2 ^ 38)(hx2:∀ r∈x.rows,(r.length:Int)<2 ^ 38)(H:AHeap)(ci si:Nat)
  (h2:H.get ci=some (.arr 0 3 (ints (ar ns)))) (h3:H.get si=some (.arr 0 45 (sets.map cR))) (hs:sets.length=ns.length) (K:ARes->AHeap->Prop)
  (hK:K (.ret (.lit (.bool (ko g ns x)))) H):af Try.prog G0 94 [.agg [.lit (.int .i64 g),.vec ns.length (au ns),.own ci 0 0 ns.length 1,.own si 0 0 ns.length 1,.lit (.slice none 0 0)],.agg [.lit (.int .i64 x.card),.vec x.parents.length (ints x.parents),aA x.rows]] H K:=by
 refine(af.frame (H:=H) (args:=[.agg [.lit (.int .i64 g),.vec ns.length (au ns),.own ci 0 0 ns.length 1,.own si 0 0 ns.length 1,.lit (.slice none 0 0)],.agg [.lit (.int .i64 x.card),.vec x.parents.length (ints x.parents),aA x.rows]]) (args':=[.agg [.lit (.int .i64 g),bW ns,ae (ar ns),jJ sets,.lit (.slice none 0 0)],rQ x]) (v':=.lit (.bool (ko g ns x))) aP rfl (fun i hi _=>?_) (Q1 g hg ns sets x hin hsm hx1 hx2 cH _ ⟨_,rfl,.lit _⟩)).mono ?_
 ·match i,hi with
  | 0,_ =>
   refine .agg rfl fun i hi _=>?_
   match i,hi with
   | 0,_=>exact .lit _
   | 1,_=>exact rT _
   | 2,_ =>
    have:=Fz.rS (nx:=0) h2 (n:=ns.length) (by rw[aM,bP]) (fun c hc=>by
     obtain⟨z,_,rfl⟩:=List.mem_map.1 hc;exact⟨_,rfl⟩)
    show Fz _ _ _ _ (.vec (ar ns).length (ints (ar ns)));rw[bP];exact this
   | 3,_ =>
    have:=Fz.rS (nx:=0) h3 (n:=ns.length) (by simp [hs]) (fun c hc=>by
     obtain⟨z,_,rfl⟩:=List.mem_map.1 hc;exact⟨_,rfl⟩)
    show Fz _ _ _ _ (.vec sets.length (sets.map cR));rw[hs];exact this
   | 4,_=>exact .lit _
  | 1,_ =>
   refine .agg rfl fun i hi _=>?_
   match i,hi with
   | 0,_=>exact .lit _
   | 1,_=>exact .dk _
   | 2,_=>exact .aA _
 ·rintro r H' ⟨rfl,rfl⟩;exact hK
theorem Ra {ns:List NodeP}{k:Nat}{x:NodeP}(hx:ns[k]?=some x)(h0:∀ q∈x.parents,0<=q)(hm:(k:Int)∈x.parents):¬ mj (bB ns):=fun h=>by
 have hk:=get_lt (nG hx);have:=h k hk;rw[bG (nG hx)]at this;have h1:=uN (bB ns) (bB ns).length (dR x.parents) k (by rw[mi h0];exact decide_eq_true hm);unfold fJ at this;rw[h1]at this;cases this
set_option maxHeartbeats 4000000 in
theorem Rb (g:Int)(ns:List NodeP)(hf:iJ ns)(H:AHeap)(K:ARes->AHeap->Prop)(hK:K (.ret (if gC g ns then .tup [zc g ns,aa 0] else .tup [za,aa 50])) H):af Try.prog G0 86 [aQ g ns] H K:=by
 refine af.clo ⟨_,Try.func86,rfl,rfl⟩ fun hcl=>?_;have no:¬ NetOk g ns->∀ H',Over H H'->av Try.prog G0 H K (.tup [.agg [.lit (.int .i64 0),.lit (.slice none 0 0),.lit (.slice none 0 0),.lit (.slice none 0 0),.lit (.slice none 0 0)],.lit (.int .i64 50)]) H':=fun h H' ov=>by
  rw[DV h]at hK;refine av.bA (v':=.tup [za,aa 50]) aP hcl ov (.tup rfl fun i hi _=>?_) hK
  match i,hi with
  | 0,_ =>
   refine .agg rfl fun i hi _=>?_
   match i,hi with
   | 0,_=>exact .lit _
   | 1,_=>exact .nil
   | 2,_=>exact .nil
   | 3,_=>exact .nil
   | 4,_=>exact .nil
  | 1,_=>exact .lit _
 refine af.bf (n:=140) (rs:=[.cell 2 145,.tmp 3]) Try.func86 rfl rfl rfl (by decide) (by kernel_rfl) (by simp) ?_;simp only[go_sem,aQ,bW];have l1:=ah (cJ H (.arr 0 35 [.lit (.int .i64 g),.vec ns.length (au ns)]) [.arr 0 145 [.lit (.int .i64 0),.lit (.slice none 0 0),.lit (.slice none 0 0),.lit (.slice none 0 0),.lit (.slice none 0 0)]]);by_cases c1:g<1
 ·simp only[go_sem,c1];exact no (fun h=>by have:=h.g1;omega) _ (.ext _ _)
 by_cases c2:g > 60
 ·simp only[go_sem,l1,c1,c2];exact no (fun h=>by have:=h.g1;omega) _ (.ext _ _)
 by_cases c3:(ns.length:Int)<1
 ·simp only[go_sem,l1,c1,c2,c3];exact no (fun h=>by have:=h.n1;omega) _ (.ext _ _)
 by_cases c4:(ns.length:Int) > 8
 ·simp only[go_sem,l1,c1,c2,c3,c4];exact no (fun h=>by have:=h.n1;omega) _ (.ext _ _)
 simp only[go_sem,l1,c1,c2,c3,c4];refine W.draw 11 [0,0,2,6,14,0,32,96,224,511,0] Try.mixed (by kernel_rfl) (by kernel_rfl) ?_;simp only[go_sem,l1]
 repeat (refine And.intro (by first|omega|(simp;done)|(simp;omega)|(intros;omega)|exact⟨rfl,by omega,by omega,oK _⟩) ?_)
 obtain⟨Hb,hHb⟩:∃ Hb,Hb=ext (ext H [.arr 0 35 [.lit (.int .i64 g),.vec ns.length (au ns)],.arr 0 145 [.lit (.int .i64 0),.lit (.slice none 0 0),.lit (.slice none 0 0),.lit (.slice none 0 0),.lit (.slice none 0 0)],.arr 0 3 (List.replicate ns.length (.lit (.int .i64 0))),.arr 0 45 (List.replicate ns.length (.lit (.int .u64 0)))]) [.arr 0 145 [.lit (.int .i64 g),.vec ns.length (au ns),.own (H.next+2) 0 0 ns.length 1,.own (H.next+3) 0 0 ns.length 1,.lit (.slice none 0 0)]]:=⟨_,rfl⟩
 rw[<- hHb];have R0:RdS g ns H Hb (List.replicate ns.length 0) (List.replicate ns.length 0):=by
  rw[hHb,jT];exact⟨by simp [bJ],.ext _ _,cJ ..,bg H _ 1 (by simp),by rw[bg H _ 2 (by simp)];simp [ints,aa],by rw[bg H _ 3 (by simp)];simp [cR],bg H _ 4 (by simp),by simp,by simp⟩
 have hcard:∀ {k:Nat},(∀ x∈ns.take k,1<=x.card/\x.card<=4)->dY ((ar ns).take k):=fun {k} h=>nH (by simp [ar];omega) fun c hc=>by
  rw[show (ar ns).take k=ar (ns.take k) by simp [ar]]at hc;obtain⟨y,hy,rfl⟩:=List.mem_map.1 hc;exact h y hy
 refine W.aG 37778930737057254867176 (by rfl) (fun ρ H'=>∃ (k:Nat) (c:List Int),ρ 50=aa k/\k<=ns.length/\ρ 5=aa (aw ((ar ns).take k))/\RdS g ns H H' c (List.replicate ns.length 0)/\Hb.next<=H'.next/\c.take k=(ar ns).take k/\∀ x∈ns.take k,1<=x.card/\x.card<=4) (fun ρ H=>ns.length - (iv (ρ 50)).toNat) ?_ ?_
 ·simp only[go_sem];exact⟨0,_,rfl,by omega,by simp [fm],R0,by simp⟩
 rintro ρ H' ⟨k,c,h50,hk,h5,R,hn,hc,hall⟩;refine ab _ _ _ (by rfl) ?_;have q0:=R.l0;have q1:=R.l1;have q2:=R.l2;have q4:=R.l4;have rn:=R.nx;by_cases hb:(k:Int)<ns.length
 ·obtain⟨x,hx⟩:=get_of_lt (l:=ns) (i:=k) (by omega);have hxm:=List.mem_of_getElem? hx;have hne:=dQ hx;have e0:=kj hx;have e1:k*3+3<=(au ns).length:=by rw[fk];omega
  have R2:=R.over (.ext H' [.arr 0 69 [.lit (.int .i64 x.card),.vec x.parents.length (ints x.parents),aA x.rows]]);have p1:=R2.l1;have p2:=R2.l2;have p4:=R2.l4;have nb1:¬ H.next+1=H'.next:=by omega
  have nb2:¬ H.next+2=H'.next:=by omega
  have nb4:¬ H.next+4=H'.next:=by omega
  by_cases d1:x.card<1
  ·simp only[go_sem,h50,p1,hb,hne,e0,e1,d1];exact no (fun h=>by have:=(h.node x hxm).1;omega) _ (R2.ov.upd (by omega) _)
  by_cases d2:x.card > 4
  ·simp only[go_sem,h50,p1,hb,hne,e0,e1,d1,d2];exact no (fun h=>by have:=(h.node x hxm).1;omega) _ (R2.ov.upd (by omega) _)
  have hall':∀ y∈ns.take (k+1),1<=y.card/\y.card<=4:=fun y hy=>by
   rw[aL hx]at hy;rcases List.mem_append.1 hy with hy|hy
   ·exact hall y hy
   ·obtain rfl:=List.mem_singleton.1 hy;exact⟨by omega,by omega⟩
  have b2:=(hcard hall').prod;rw[aL (cK hx),fV]at b2;have w1:=IntWalk.i64_in ((k:Int)+1) (by omega);have w2:=IntWalk.i64_in (aw ((ar ns).take k)*x.card) (by omega);have hkc:k<c.length:=by rw[R.cl];omega
  have p0:∀ b,((ext H' [.arr 0 69 [.lit (.int .i64 x.card),.vec x.parents.length (ints x.parents),aA x.rows]]).upd (H.next+2) b).live H'.next 0=some (69,[.lit (.int .i64 x.card),.vec x.parents.length (ints x.parents),aA x.rows]):=fun b=>by
   rw[g9 (by omega)];exact ah cA
  simp only[go_sem,h50,h5,p2,p4,p0,hb,hne,e0,e1,d1,d2,w1,w2];exact⟨by omega,by rw[az,bJ];omega,⟨k+1,_,by simp,by omega,by rw[aL (cK hx),fV],R2.Q6 hkc x.card,by rw[az,bJ];omega,Rq hc hkc (cK hx),fun y hy=>hall' y hy⟩,by omega⟩
 have ek:k=ns.length:=by omega
 subst ek;rw[List.take_of_length_le (Nat.le_refl _)]at hall;rw[List.take_of_length_le (by rw[bP];omega)]at h5;have ec:c=ar ns:=by
  rw[List.take_of_length_le (by rw[R.cl];omega),List.take_of_length_le (by rw[bP];omega)]at hc;exact hc
 subst ec;by_cases c5:aw (ar ns) > 1024
 ·simp only[go_sem,h50,h5,q1,hb,c5];exact no (fun h=>by have:=h.size;omega) _ (R.ov.upd (by omega) _)
 simp only[go_sem,h50,h5,q4,hb,c5];refine W.aG 340282366920933627760096148915069392648 (by rfl) (fun ρ' H2=>∃ (k:Nat) (s:List Nat),ρ' 82=aa k/\k<=ns.length/\RdS g ns H H2 (ar ns) s/\H'.next<=H2.next/\s.take k=(bB ns).take k/\(∀ j,k<=j->s.getD j 0=0)/\∀ x∈ns.take k,dw x.parents ns.length/\iI g ns x) (fun ρ' H=>ns.length - (iv (ρ' 82)).toNat) ?_ ?_
 ·simp only[go_sem];refine⟨0,_,rfl,by omega,R,rfl,fun j _=>?_,by simp⟩;rw[List.getD_eq_getElem?_getD,List.getElem?_replicate];split<;>rfl
 rintro ρ' H2 ⟨k,s,h82,hk2,R2,hn2,hs,hs0,hall2⟩;refine ab _ _ _ (by rfl) ?_;have r2:=R2.nx;have q4:=R2.l4;by_cases hb2:(k:Int)<ns.length;rotate_left
 ·have es:s=bB ns:=by
   rw[List.take_of_length_le (by rw[R2.sl];omega),List.take_of_length_le (by simp [bB];omega)]at hs;exact hs
  subst es;rw[List.take_of_length_le (by omega)]at hall2;have hlt:∀ p∈bB ns,p<2 ^ ns.length:=uZ fun x hx q hq=>(hall2 x hx).1.2 q hq;have hsl:(bB ns).length=ns.length:=by simp [bB]
  have hlt64:∀ p∈bB ns,p<2 ^ 64:=fun p hp=>Nat.lt_of_lt_of_le (hlt p hp) (Nat.pow_le_pow_right (by decide) (by omega));have hto:=Df (ps:=bB ns) (by rw[hsl];exact hlt) (by omega);simp only[go_sem,h82,q4,hb2];have fzs:=Fz.rS (nx:=0) R2.b3 (n:=ns.length) (by simp [R2.sl]) (fun c hc=>by
   obtain⟨z,_,rfl⟩:=List.mem_map.1 hc;exact⟨_,rfl⟩)
  refine aB.clo (Q5 (bB ns) (by omega) hlt64 _ _ (by show Fz _ _ _ _ (.vec (bB ns).length _);rw[hsl];exact fzs) _ ⟨trivial,?_⟩);have q1:=R2.l1;cases hso:(eW (bB ns)).isSome
  ·simp only[go_sem,q1];exact no (fun h=>by rw[hto.2 h.acyc]at hso;cases hso) _ (R2.ov.upd (by omega) _)
  have hok:NetOk g ns:=⟨by omega,by omega,fun x hx=>⟨hall x hx,(hall2 x hx).1⟩,by omega,hto.1 hso,fun x hx=>(hall2 x hx).2⟩
  rw[DU hok]at hK;have q1b:∀ b,(H2.upd (H.next+4) b).live (H.next+1) 0=_:=fun b=>(g9 (by omega)).trans q1;simp only[go_sem,q1b,q4];have ovf:Over H ((H2.upd (H.next+4) (.arr 0 145 [.lit (.int .i64 g),.vec ns.length (au ns),.own (H.next+2) 0 0 ns.length 1,.own (H.next+3) 0 0 ns.length 1,.vec (fL ((eW (bB ns)).getD [])).length (ints (fL ((eW (bB ns)).getD [])))])).upd (H.next+1) (.arr 0 145 [.lit (.int .i64 g),.vec ns.length (au ns),.own (H.next+2) 0 0 ns.length 1,.own (H.next+3) 0 0 ns.length 1,.vec (fL ((eW (bB ns)).getD [])).length (ints (fL ((eW (bB ns)).getD [])))])):=(R2.ov.upd (by omega) _).upd (by omega) _;refine av.bA (v':=.tup [zc g ns,aa 0]) aP hcl ovf (.tup rfl fun i hi _=>?_) hK
  match i,hi with
  | 1,_=>exact .lit _
  | 0,_ =>
   refine .agg rfl fun i hi _=>?_
   match i,hi with
   | 0,_=>exact .lit _
   | 1,_=>exact rT _
   | 2,_ =>
    have hg2:∀ b b',((H2.upd (H.next+4) b).upd (H.next+1) b').get (H.next+2)=some (.arr 0 3 (ints (ar ns))):=fun b b'=>by rw[ag,if_neg (by omega),ag,if_neg (by omega)];exact R2.b2
    show Fz _ _ _ (.own (H.next+2) 0 0 ns.length 1) (.vec (ar ns).length (ints (ar ns)));rw[<- bP ns];exact .ints (by show H.next<=_;omega) (hg2 _ _) (by simp) fun i hi=>by simp [fg,hi]
   | 3,_ =>
    have hg3:∀ b b',((H2.upd (H.next+4) b).upd (H.next+1) b').get (H.next+3)=some (.arr 0 45 ((bB ns).map cR)):=fun b b'=>by rw[ag,if_neg (by omega),ag,if_neg (by omega)];exact R2.b3
    show Fz _ _ _ (.own (H.next+3) 0 0 ns.length 1) (.vec (bB ns).length ((bB ns).map cR));rw[<- hsl];refine .frz (by show H.next<=_;omega) (hg3 _ _) (by simp) fun j hj h2 h'=>?_;simp only[Nat.zero_add,List.getElem_map];exact .lit _
   | 4,_=>exact .dk _
 obtain⟨x,hx⟩:=get_of_lt (l:=ns) (i:=k) (by omega);have hxm:=List.mem_of_getElem? hx;have hne:=dQ hx;have e0:=kj hx;have e1:k*3+3<=(au ns).length:=by rw[fk];omega
 obtain⟨f1,f2,f3⟩:=hf.2 x hxm;simp only[go_sem,h82,hb2,hne,e0,e1];obtain⟨H3,hH3⟩:∃ H3,H3=ext H2 [.arr 0 69 [.lit (.int .i64 x.card),.vec x.parents.length (ints x.parents),aA x.rows]]:=⟨_,rfl⟩
 have R3:RdS g ns H H3 (ar ns) s:=by rw[hH3];exact R2.over (.ext _ _)
 have nn:H3.next=H2.next+1:=by rw[hH3];rfl
 have gN:H3.get H2.next=some (.arr 0 69 [.lit (.int .i64 x.card),.vec x.parents.length (ints x.parents),aA x.rows]):=by rw[hH3];exact cA
 rw[<- hH3];have hks:k<s.length:=by rw[R2.sl];omega
 have s0:s.set k 0=s:=by
  apply List.ext_getElem?;intro i;rw[List.getElem?_set];split
  ·rename_i h;subst h;have:=hs0 k (Nat.le_refl _);rw[List.getD_eq_getElem?_getD,List.getElem?_eq_getElem hks]at this;simp only[Option.getD_some]at this;rw[List.getElem?_eq_getElem hks,this]
  ·rfl
 refine W.aG 5316911981901723452329847966222259208 (by rfl) (fun ρ2 H4=>∃ (j:Nat) (b:Int),ρ2 90=aa j/\j<=x.parents.length/\ρ2 10=aa b/\dw (x.parents.take j) ns.length/\(x.parents.take j).getLast?.getD (-1)=b/\RdS g ns H H4 (ar ns) (s.set k (dR (x.parents.take j)))/\H3.next<=H4.next/\H4.get H2.next=some (.arr 0 69 [.lit (.int .i64 x.card),.vec x.parents.length (ints x.parents),aA x.rows])/\¬ (k:Int)∈x.parents.take j)
  (fun ρ2 H=>x.parents.length - (iv (ρ2 90)).toNat) ?_ ?_
 ·simp only[go_sem];exact⟨0,-1,rfl,by omega,rfl,.nil,rfl,by rw[show dR (x.parents.take 0)=0 from rfl,s0];exact R3,gN,by simp⟩
 rintro ρ2 H4 ⟨j,b,h90,hj,h10,hp,hbl,R4,hn4,gN4,hself⟩;refine ab _ _ _ (by rfl) ?_;have r4:=R4.nx;have t1:=R4.l1;have t3:=R4.l3;have t4:=R4.l4;have tN:=ah gN4;by_cases hb3:(j:Int)<x.parents.length
 ·obtain⟨a,ha⟩:=get_of_lt (l:=x.parents) (i:=j) (by omega);have ham:=List.mem_of_getElem? ha;have hane:=aJ ha;by_cases d1:a<=b
  ·simp only[go_sem,h90,h10,hb3,ha,hane,d1,t1];refine no (fun h=>?_) _ (R4.ov.upd (by omega) _);have hpl:=(h.node x hxm).2;have h0:=hpl.2 a ham;rcases Nat.eq_zero_or_pos j with rfl|hk0
   ·simp at hbl;omega
   ·obtain⟨i,rfl⟩:∃ i,j=i+1:=⟨j - 1,by omega⟩
    obtain⟨b',hbj⟩:=get_of_lt (l:=x.parents) (i:=i) (by omega);rw[yY hbj]at hbl;have:=hpl.lt hbj ha (by omega);simp at hbl;omega
  by_cases d2:a >= ns.length
  ·simp only[go_sem,h90,h10,hb3,ha,hane,d1,d2,t1,t4];exact no (fun h=>by have:=(h.node x hxm).2.2 a ham;omega) _ (R4.ov.upd (by omega) _)
  have h0:0<=a:=by
   rcases hg:(x.parents.take j).getLast? with _|b'
   ·rw[hg]at hbl;simp at hbl;omega
   ·rw[hg]at hbl;have:=hp.2 b' (List.mem_of_getLast? hg);simp at hbl;omega
  by_cases d3:a=k
  ·have d1':¬ (k:Int)<=b:=(by omega);have d2':¬ (k:Int) >= ns.length:=(by omega);simp only[go_sem,h90,h10,hb3,ha,hane,d1',d2',d3,t1,t4];exact no (fun h=>Ra hx (fun q hq=>((h.node x hxm).2.2 q hq).1) (by rw[<- d3];exact ham) h.acyc) _ (R4.ov.upd (id:=H.next+1) (by omega) _)
  obtain⟨u,rfl⟩:=Int.eq_ofNat_of_zero_le h0;have w1:=IntWalk.i64_in ((j:Int)+1) (by omega);have bm:dR (x.parents.take j)<2 ^ 64:=yE fun p hp'=>by have:=hp.2 p hp';omega
  have v1:=fun t x y=>ze (P:=Try.prog) (t:=t) (x:=x) (y:=y) (k':=.i64) (s:=u) (by omega);have v2:=fun t x y=>vf (P:=Try.prog) (t:=t) (x:=x) (y:=y) (b:=2 ^ u) bm (Nat.pow_lt_pow_right (by decide) (by omega));have gs:(s.set k (dR (x.parents.take j)))[k]?=some (dR (x.parents.take j)):=List.getElem?_set_self hks;simp only[go_sem,h90,h10,hb3,ha,hane,d1,d2,d3,t4];refine W.draw 7 [0,1,0,7,15,0,32] Try.mixed (by kernel_rfl) (by kernel_rfl) ?_;simp only[go_sem,h90,hb2,t3,t4,gs,v1,v2,w1]
  repeat (refine And.intro (by first|omega|(simp;done)|(simp;omega)|(intros;omega)|exact⟨rfl,by omega,by omega,oK _⟩) ?_)
  have R5:=R4.Q8 (k:=k) (by simpa using hks) (dR (x.parents.take j) ||| 2 ^ u);rw[List.set_set]at R5;have esn:dR (x.parents.take (j+1))=dR (x.parents.take j) ||| 2 ^ u:=by rw[aL ha,C9];rfl
  refine⟨by rw[az];omega,⟨j+1,u,by simp,by omega,rfl,?_,by rw[yY ha];rfl,by rw[esn];exact R5,by rw[az];omega,by rw[ag,if_neg (by omega)];exact gN4,fun hm=>?_⟩,by omega⟩
  ·rw[aL ha];exact hp.snoc ⟨by omega,by omega⟩ fun b' hb'=>by rw[hb']at hbl;simp at hbl;omega
  ·rw[aL ha]at hm;rcases List.mem_append.1 hm with hm|hm
   ·exact hself hm
   ·exact d3 (List.mem_singleton.1 hm).symm
 ·have hb3':=hb3;rw[List.take_of_length_le (by omega)]at hp hself R4;simp only[go_sem,h90,hb3,t4,tN];have hin:gA x.parents ns.length:=fun q hq=>by have:=hp.2 q hq;omega
  refine aB.clo (Q9 g ⟨by omega,by omega⟩ ns _ x hin (pR (by omega) hp hall) f2 f3 _ (H.next+2) (H.next+3) R4.b2 R4.b3 R4.sl _ ⟨trivial,?_⟩);cases hnb:ko g ns x
  ·simp only[go_sem,t1];exact no (fun h=>by rw[D0 (h.rows x hxm)]at hnb;cases hnb) _ (R4.ov.upd (by omega) _)
  have w1:=IntWalk.i64_in ((k:Int)+1) (by omega);simp only[go_sem,h82,w1];refine⟨by omega,⟨k+1,_,by simp,by omega,R4,by omega,?_,fun i hi=>?_,fun y hy=>?_⟩,by omega⟩
  ·have h1:=nG hx;rw[aL h1,aL (List.getElem?_set_self hks),List.take_set_of_le (Nat.le_refl k),hs]
  ·rw[List.getD_eq_getElem?_getD,List.getElem?_set_ne (by omega),<- List.getD_eq_getElem?_getD];exact hs0 i (by omega)
  ·rw[aL hx]at hy;rcases List.mem_append.1 hy with hy|hy
   ·exact hall2 y hy
   ·obtain rfl:=List.mem_singleton.1 hy;exact⟨hp,Q0.1 hnb⟩
theorem Rc (g:Int)(ns:List NodeP)(hf:iJ ns)(H:AHeap)(K:ARes->AHeap->Prop)(hK:K (.ret (aa (if gC g ns then 0 else 50))) H):af Try.prog G0 68 [aQ g ns] H K:=by
 refine af.clo ⟨_,Try.func68,rfl,rfl⟩ fun hcl=>?_;refine af.bf (n:=11) (rs:=[.tmp 2]) Try.func68 rfl rfl rfl (by decide) (by kernel_rfl) (by simp) ?_;simp only[go_sem,aQ,bW];refine aB.clo (Rb g ns hf _ _ ⟨trivial,?_⟩);cases hb:gC g ns
 ·rw[hb]at hK;simp only[go_sem,za,List.length_nil];exact av.bA aP hcl (.ext _ _) (.lit _) hK
 ·rw[hb]at hK;simp only[go_sem,zc,bW];exact av.bA aP hcl (.ext _ _) (.lit _) hK
def Dg (D v:Nat):List Nat := (List.range v).filter fun v => D.testBit v
def Dh (D v:Nat):Nat := (Dg D v).length
def yI (d:InfP):List Nat := Dg d.decs d.nodes.length
def PU (g card x:Int):List Int := (List.replicate card.toNat 0).set x.toNat g
def Di (ns:List NodeP)(x:NodeP):Nat := (aw (aS ns x)).toNat
def PV (g:Int)(ns:List NodeP)(c:Nat -> Nat -> Int)(p:Nat)(x:NodeP):List (List Int) := (List.range (Di ns x)).map fun r => PU g x.card (c p r)
def PW (d:InfP)(c:Nat -> Nat -> Int)(k v:Nat)(x:NodeP):NodeP := if d.decs.testBit v = true /\ Dh d.decs v < k then { x with rows := x.rows ++ PV d.grain d.nodes c (Dh d.decs v) x } else x
def PX (d:InfP)(c:Nat -> Nat -> Int)(k:Nat):List NodeP := d.nodes.zipIdx.map fun p => PW d c k p.2 p.1
def PY (d:InfP)(c:Nat -> Nat -> Int):List NodeP := PX d c (yI d).length
structure RightN (d:InfP):Prop where
 n1:1<=d.nodes.length/\d.nodes.length<=8
 decs:d.decs >>> d.nodes.length=0
 card:∀ x∈d.nodes,1<=x.card/\x.card<=4
 dec:∀ v x,d.nodes[v]?=some x->d.decs.testBit v=true->x.rows=[]/\dw x.parents d.nodes.length
structure InfFit (d:InfP):Prop where
 nodes:iJ d.nodes
 decs:d.decs<2 ^ 64
 utils:(d.utils.length:Int)<2 ^ 38/\∀ u∈d.utils,(u.vars.length:Int)<2 ^ 38/\(u.w.length:Int)<2 ^ 38
end Go.Proofs
namespace Go.Hx
variable {P:Program} {G:Nat->Option (List AVal)}
def AHeap.eQ (H:AHeap)(rk ob:Nat)(b:Blk):AHeap:=⟨fun id=>if id=rk then none else if id=ob then some b else H.get id,H.next⟩
theorem Rs {H:AHeap}(hc:Clo H){rk ob g:Nat}{e:TypeId}{cells cells':List AVal}(hob:H.get ob=some (.arr g e cells))(hne:ob≠rk)(hl:cells'.length=cells.length)
  (hcell:∀ i (h:i<cells.length) (h':i<cells'.length),Fz (fun id=>id=rk) H H.next cells[i] cells'[i]):FzH (fun id=>id=rk) H (H.eQ rk ob (.arr g e cells')) where
 gone id hs:=by simp [AHeap.eQ,hs]
 kept id b hs hb:=by
  have hbb:=hc.below id b hb;refine⟨hc.lt id b hb,?_⟩;by_cases h:id=ob
  ·subst h;rw[hob]at hb;cases hb;exact⟨.arr g e cells',by simp [AHeap.eQ,hs],rfl,rfl,hl,hcell⟩
  ·refine⟨b,by simp [AHeap.eQ,hs,h,hb],?_⟩;cases b with
   | rsv=>trivial
   | mp=>rfl
   | arr g e cells=>exact⟨rfl,rfl,rfl,fun i h _=>.dead (hbb i h)⟩
   | loop st pend n env ps asg body=>exact⟨rfl,rfl,rfl,rfl,rfl,rfl,rfl,fun t ht=>.dead (hbb t ht)⟩
 none id hs hb:=by
  by_cases h:id=ob
  ·subst h;rw[hob]at hb;cases hb
  ·simp [AHeap.eQ,hs,h,hb]
theorem dG.eQ (hG:fP G){s:St}{rk ob g:Nat}{e:TypeId}{cells cells':List AVal}(hob:s.H.get ob=some (.arr g e cells))(hne:ob≠rk)(hl:cells'.length=cells.length)
  (hcell:∀ i (h:i<cells.length) (h':i<cells'.length),Fz (fun id=>id=rk) s.H s.H.next cells[i] cells'[i]):dG P G s ⟨s.ρ,s.H.eQ rk ob (.arr g e cells')⟩:=by
 intro n wb Γ a w hs;exact dG.freeze (s:=s) (s':=⟨s.ρ,s.H.eQ rk ob (.arr g e cells')⟩) hG (Rs hs.heap.clo hob hne hl hcell) (fun t=>.dead (hs.env t).qz) n wb Γ a w hs
theorem zg {H:AHeap}{rk ob:Nat}{b:Blk}(h:ob≠rk):(H.eQ rk ob b).get ob=some b:=by simp [AHeap.eQ,h]
theorem zh {H:AHeap}{rk ob id:Nat}{b:Blk}(h:id≠rk)(h2:id≠ob):(H.eQ rk ob b).get id=H.get id:=by simp [AHeap.eQ,h,h2]
theorem D9 {S:Nat->Prop}{H:AHeap}{nx:Nat}{l:List AVal}{i:Nat}{a b:AVal}(hl:∀ v,v∈l->Fz S H nx v v)(hab:Fz S H nx a b):∀ j (h:j<(l.set i a).length) (h':j<(l.set i b).length),Fz S H nx (l.set i a)[j] (l.set i b)[j]:=by
 intro j h h';rw[List.getElem_set,List.getElem_set];split
 ·exact hab
 ·exact hl _ (List.getElem_mem _)
theorem W.rW {n:Nat}{rd:Option Nat}{Q Q':AX->St->Prop}{c:Code}{s:St}(h:W P G n rd c Q' s)(hw:∀ e s2,Q' e s2->∃ s3,dG P G s2 s3/\s2.H.next<=s3.H.next/\ef s3.H rd/\Q e s3):W P G n rd c Q s:=by
 intro wb Γ a w rb hs hr;refine wpIn_mono (h wb Γ a w rb hs hr) fun e a' w' hp=>?_;obtain⟨x,s',Γ',hx,hq,hrel,E,hn,hrd,hfr⟩:=hp;obtain⟨s3,hw3,hn3,hri,hq3⟩:=hw x s' hq;obtain⟨Γ3,hs3,E3,hrd3⟩:=hw3 n wb Γ' a' w' hrel;exact⟨x,s3,Γ3,hx,hq3,hs3,E.trans hn E3,Nat.le_trans hn hn3,hrd3 rd rb hrd hri,hfr⟩
theorem aD.ne {lo:Nat}{H:AHeap}{e:TypeId}{v:AVal}{cs:List AVal}(h:aD lo H e v cs){k:Nat}(hk:k<lo):∀ g n,v≠.own k g 0 n 1:=fun g n he=>by
 rcases h with ⟨h,_⟩|⟨i2,g2,a1,_,h,_⟩
 ·rw[h]at he;cases he
 ·rw[h]at he;have:=AVal.own.inj he;omega
def dy (lo:Nat)(H:AHeap)(e:TypeId)(z:Nat)(v:AVal)(n:Nat)(cs:List AVal):Prop :=
 (v=.lit (.slice none 0 0)/\n=0/\cs=[])\/∃ id g,lo<=id/\id<H.next/\v=.own id g 0 n z/\cs.length=n*z/\H.get id=some (.arr g e cs)
theorem dy.nil {lo:Nat}{H:AHeap}{e:TypeId}{z:Nat}:dy lo H e z (.lit (.slice none 0 0)) 0 []:=.inl ⟨rfl,rfl,rfl⟩
theorem dy.keep {lo:Nat}{H H':AHeap}{e:TypeId}{z n:Nat}{v:AVal}{cs:List AVal}(h:dy lo H e z v n cs)(hn:H.next<=H'.next)(hk:∀ id g,lo<=id->id<H.next->v=.own id g 0 n z->H'.get id=H.get id):dy lo H' e z v n cs:=by
 rcases h with h|⟨id,g,h1,h2,h3,h4,h5⟩
 ·exact .inl h
 ·exact .inr ⟨id,g,h1,by omega,h3,h4,(hk id g h1 h2 h3).trans h5⟩
theorem dy.over {lo:Nat}{H H':AHeap}{e:TypeId}{z n:Nat}{v:AVal}{cs:List AVal}(h:dy lo H e z v n cs)(ho:Over H H'):dy lo H' e z v n cs:=h.keep ho.next fun id _ _ h2 _=>ho.old id h2
theorem dy.one {lo:Nat}{H:AHeap}{e:TypeId}{z n:Nat}{v:AVal}{cs:List AVal}(h:dy lo H e z v n cs):v.one=true:=by
 rcases h with ⟨rfl,_⟩|⟨_,_,_,_,rfl,_⟩<;>rfl
theorem dy.cells {lo:Nat}{H:AHeap}{e:TypeId}{z n:Nat}{v:AVal}{cs:List AVal}(h:dy lo H e z v n cs):v.cells=[v]:=by
 rcases h with ⟨rfl,_⟩|⟨_,_,_,_,rfl,_⟩<;>rfl
theorem dy.ne {lo:Nat}{H:AHeap}{e:TypeId}{z m:Nat}{v:AVal}{cs:List AVal}(h:dy lo H e z v m cs){k:Nat}(hk:k<lo):∀ g n,v≠.own k g 0 n z:=fun g n he=>by
 rcases h with ⟨h,_⟩|⟨i2,g2,a1,_,h,_⟩
 ·rw[h]at he;cases he
 ·rw[h]at he;have:=AVal.own.inj he;omega
theorem zi {H:AHeap}{t e:TypeId}{lo n z m:Nat}{v:AVal}{cs xs:List AVal}{zs:List AVal}(ht:P.underlying t=some (.slice e))(hz:P.cellsOf e=z)(hzero:bR P e=some zs)(hx:xs.all AVal.one=true)(hxl:xs.length=z)
  (hb:(n+1)*P.bytesOf e<=2 ^ 46/\n+1<=2 ^ 46) (ho:dy lo H e z v n cs) (hlo:lo<=H.next) (hn:m=H.next+1):
  ∃ v' H',bC P (ext H [.arr 0 e xs]) m t t v (.own H.next 0 0 1 z)=some (v',H')/\dy lo H' e z v' (n+1) (cs++xs)/\H.next<=H'.next/\(∀ k,k<H.next->(∀ g n,v≠.own k g 0 n z)->H'.get k=H.get k):=by
 have hne:(ext H [.arr 0 e xs]).next=H.next+1:=rfl;have hsrc:cD (ext H [.arr 0 e xs]) z (.own H.next 0 0 1 z)=some (1,xs):=by
  unfold cD;have:=ah (H:=ext H [.arr 0 e xs]) (g:=0) (cA (b:=.arr 0 e xs));simp [this,<- hxl]
 rcases ho with ⟨rfl,rfl,rfl⟩|⟨i,g,h1,h2,rfl,h4,h5⟩
 ·refine⟨.own m 0 0 1 z,ext (ext H [.arr 0 e xs]) [.arr 0 e xs],?_,.inr ⟨m,0,by omega,by rw[bJ,hne,hn];simp,by simp,by simp [hxl],?_⟩,by rw[bJ,hne];omega,fun k hk _=>?_⟩
  ·unfold bC;rw[ht];simp only[hzero,hz,Option.bind_some];rw[hsrc];simp only[Option.bind_some];rw[if_neg (by decide),if_pos (by simpa using hb),qG (by rw[hn,hne])];rfl
  ·rw[hn,<- hne];exact cA
  ·rw[dK (by rw[hne];omega),dK hk]
 ·have h5':(ext H [.arr 0 e xs]).get i=some (.arr g e cs):=by rw[dK h2];exact h5
  refine⟨.own i (g+1) 0 (n+1) z,(ext H [.arr 0 e xs]).upd i (.arr (g+1) e (cs++xs)),?_,.inr ⟨i,g+1,h1,by rw[az,hne];omega,rfl,by simp [h4,hxl,Nat.add_mul],by rw[ag,if_pos rfl]⟩,by rw[az,hne];omega,fun k hk hne2=>?_⟩
  ·unfold bC;rw[ht];have hl:=ah h5';simp only[hzero,hz,Option.bind_some];rw[hsrc];simp only[Option.bind_some,hl];rw[if_pos ⟨trivial,trivial,by omega,hb.1,hb.2,hx⟩];simp
  ·rw[ag,if_neg,dK hk];rintro rfl;exact hne2 _ _ rfl
end Go.Hx
namespace Go.Proofs
open Go.Hx
def bt (x:NodeP):AVal:=if x.rows=[] then .lit (.slice none 0 0) else aA x.rows
def NodeP.kG (x:NodeP):List AVal:=[aa x.card,ae x.parents,bt x]
def gv (l:List NodeP):List AVal:=(l.map NodeP.kG).flatten
theorem nA (l:List NodeP):(gv l).length=l.length*3:=mh (f:=NodeP.kG) (fun _=>rfl) l
theorem Dj {l:List NodeP}{i:Nat}{x:NodeP}(h:l[i]?=some x):(gv l)[i*3]?=some (aa x.card):=ki (f:=NodeP.kG) (z:=3) (fun _=>rfl) l i 0 x h (by omega)
theorem PZ {l:List NodeP}{i:Nat}{x:NodeP}(h:l[i]?=some x):(gv l)[i*3+1]?=some (ae x.parents):=ki (f:=NodeP.kG) (z:=3) (fun _=>rfl) l i 1 x h (by omega)
theorem P0 {l:List NodeP}{i:Nat}{x:NodeP}(h:l[i]?=some x):(gv l)[i*3+2]?=some (bt x):=ki (f:=NodeP.kG) (z:=3) (fun _=>rfl) l i 2 x h (by omega)
theorem Dk (l:List NodeP)(x:NodeP):gv (l++[x])=gv l++[aa x.card,ae x.parents,bt x]:=by unfold gv;simp [NodeP.kG]
theorem Dl {x:NodeP}(h:x.rows≠[]):bt x=aA x.rows:=if_neg h
theorem P1 {S:Nat->Prop}{H:AHeap}{nx:Nat}(x:NodeP):Fz S H nx (bt x) (aA x.rows):=by
 unfold bt;split
 ·rename_i h;rw[h];exact .nil
 ·exact .aA _
theorem P2 {S:Nat->Prop}{H:AHeap}{nx:Nat}(x:NodeP):Fz S H nx (bt x) (bt x):=by
 unfold bt;split
 ·exact .lit _
 ·exact .aA _
theorem P3 {S:Nat->Prop}{H:AHeap}{nx:Nat}(l:List NodeP):∀ c∈gv l,Fz S H nx c c:=by
 intro c hc;unfold gv at hc;obtain⟨r,hr,hc⟩:=List.mem_flatten.1 hc;obtain⟨x,_,rfl⟩:=List.mem_map.1 hr;unfold NodeP.kG at hc;simp only[List.mem_cons,List.not_mem_nil,or_false]at hc;rcases hc with rfl|rfl|rfl
 ·exact .lit _
 ·exact .dk _
 ·exact P2 x
structure NodesQ (e:Nat->Prop)(ns:List NodeP)(cs:List AVal):Prop where
 len:cs.length=ns.length*3
 node:∀ (v:Nat) (x:NodeP),ns[v]?=some x->∃ rv,cs[v*3]?=some (aa x.card)/\cs[v*3+1]?=some (ae x.parents)/\cs[v*3+2]?=some rv/\(rv=aA x.rows\/rv=bt x)/\(e v->rv=bt x)
theorem NodesQ.c0 {e:Nat->Prop}{ns:List NodeP}{cs:List AVal}(h:NodesQ e ns cs){v:Nat}{x:NodeP}(hx:ns[v]?=some x):cs[v*3]?=some (aa x.card):=(h.node v x hx).elim fun _ h=>h.1
theorem NodesQ.c1 {e:Nat->Prop}{ns:List NodeP}{cs:List AVal}(h:NodesQ e ns cs){v:Nat}{x:NodeP}(hx:ns[v]?=some x):cs[v*3+1]?=some (ae x.parents):=(h.node v x hx).elim fun _ h=>h.2.1
theorem NodesQ.ne {e:Nat->Prop}{ns:List NodeP}{cs:List AVal}(h:NodesQ e ns cs){v:Nat}{x:NodeP}(hx:ns[v]?=some x):¬ cs=[]:=fun he=>by
 have:=h.c0 hx;rw[he]at this;simp at this
theorem NodesQ.part {e:Nat->Prop}{ns:List NodeP}{cs:List AVal}(h:NodesQ e ns cs){v:Nat}{x:NodeP}(hx:ns[v]?=some x):∃ rv,(cs.drop (v*3)).take 3=[aa x.card,ae x.parents,rv]/\cs[v*3+2]?=some rv/\(rv=aA x.rows\/rv=bt x)/\(e v->rv=bt x):=by
 obtain⟨rv,a,b,c,d,f⟩:=h.node v x hx;refine⟨rv,?_,c,d,f⟩;have h3:=get_lt c;rw[List.drop_eq_getElem_cons (by omega),List.drop_eq_getElem_cons (by omega),List.drop_eq_getElem_cons (by omega)];simp only[List.take_succ_cons,List.take_zero];rw[List.getElem?_eq_getElem (by omega)]at a b c;rw[Option.some.inj a,Option.some.inj b,Option.some.inj c]
theorem NodesQ.nil {e:Nat->Prop}:NodesQ e [] []:=⟨rfl,fun v x hx=>by simp at hx⟩
theorem NodesQ.snoc {e:Nat->Prop}{ns:List NodeP}{cs:List AVal}(h:NodesQ e ns cs){x:NodeP}{rv:AVal}(h1:rv=aA x.rows\/rv=bt x)(h2:e ns.length->rv=bt x):NodesQ e (ns++[x]) (cs++[aa x.card,ae x.parents,rv]):=by
 have hl:=h.len;refine⟨by simp [hl];omega,fun v y hy=>?_⟩;by_cases hv:v<ns.length
 ·rw[List.getElem?_append_left hv]at hy;obtain⟨r,a,b,c,d⟩:=h.node v y hy;exact⟨r,by rw[List.getElem?_append_left (by omega)];exact a,by rw[List.getElem?_append_left (by omega)];exact b,by rw[List.getElem?_append_left (by omega)];exact c,d⟩
 ·have:v=ns.length:=by have:=get_lt hy;simp at this;omega
  subst this;rw[List.getElem?_append_right (by omega),Nat.sub_self]at hy;cases hy;refine⟨rv,?_,?_,?_,h1,h2⟩
  ·rw[List.getElem?_append_right (by omega),show ns.length*3 - cs.length=0 by omega];rfl
  ·rw[List.getElem?_append_right (by omega),show ns.length*3+1 - cs.length=1 by omega];rfl
  ·rw[List.getElem?_append_right (by omega),show ns.length*3+2 - cs.length=2 by omega];rfl
theorem NodesQ.mono {e e':Nat->Prop}{ns:List NodeP}{cs:List AVal}(h:NodesQ e ns cs)(he:∀ v,e' v->e v):NodesQ e' ns cs:=⟨h.len,fun v x hx=>by
 obtain⟨r,a,b,c,d,f⟩:=h.node v x hx;exact⟨r,a,b,c,d,fun h=>f (he v h)⟩⟩
theorem NodesQ.P4 {e:Nat->Prop}{ns:List NodeP}{cs:List AVal}(h:NodesQ e ns cs){S:Nat->Prop}{H:AHeap}{nx:Nat}:∀ (i:Nat) (h1:i<cs.length) (h2:i<(au ns).length),Fz S H nx cs[i] (au ns)[i]:=by
 intro i h1 h2;have hb:i / 3<ns.length:=by rw[h.len]at h1;omega
 obtain⟨x,hx⟩:=get_of_lt hb;obtain⟨rv,a,b,c,d,_⟩:=h.node _ x hx;have hp:i=(i / 3)*3+i % 3:=by omega
 have g1:cs[i]?=some cs[i]:=List.getElem?_eq_getElem h1;have g2:(au ns)[i]?=some (au ns)[i]:=List.getElem?_eq_getElem h2;generalize cs[i]=u at g1 ⊢;generalize (au ns)[i]=w at g2 ⊢;have c3:i % 3=0\/i % 3=1\/i % 3=2:=by omega
 rcases c3 with c0|c0|c0
 ·rw[hp,c0,Nat.add_zero,a]at g1;rw[hp,c0,Nat.add_zero,iF hx]at g2;cases g1;cases g2;exact .lit _
 ·rw[hp,c0,b]at g1;rw[hp,c0,kS hx]at g2;cases g1;cases g2;exact .dk _
 ·rw[hp,c0,c]at g1;rw[hp,c0,ni hx]at g2;cases g1;cases g2;rcases d with d|d<;>rw[d]
  ·exact .aA _
  ·exact P1 x
theorem mr {α:Type}{l:List α}{i:Nat}{x:α}(h:l[i]?=some x):l.set i x=l:=by
 apply List.ext_getElem?;intro j;rw[List.getElem?_set];split
 ·rename_i hj;subst hj;rw[if_pos (get_lt h),h]
 ·rfl
theorem DO {lo:Nat}{H':AHeap}{v:AVal}{l:List AVal}(x:AVal)(hx:x.one=true)(h:aD lo H' 39 v l)(hlo:lo<=H'.next)(hl:l.length<2 ^ 40):
  ∃ v' H2,bC Try.prog (ext H' [.arr 0 39 [x]]) (H'.next+1) 40 40 v (.own H'.next 0 0 1 1)=some (v',H2)/\aD lo H2 39 v' (l++[x])/\H'.next<=H2.next/\(∀ k,k<H'.next->(∀ g n,v≠.own k g 0 n 1)->H2.get k=H'.get k) :=
 jv (P:=Try.prog) (H:=H') (t:=40) (x:=x) (n:=H'.next+1) Try.underlying40 Try.l8 Try.ma hx (by rw[Try.l9];omega) h hlo rfl
structure UtilOk (ns:List NodeP)(u:UtilP):Prop where
 vars:dw u.vars ns.length
 size:(u.w.length:Int)=aw (aT (ar ns) u.vars)
 w:∀ x∈u.w,-100<=x/\x<=100
def QN (d:InfP):Prop:=d.utils.length<=4/\∀ u∈d.utils,UtilOk d.nodes u
structure InfOk (d:InfP):Prop where
 n:RightN d
 net:NetOk d.grain (PY d fun _ _=>0)
 utils:QN d
structure PolOk (d:InfP)(p:List (List Int)):Prop where
 len:p.length=(yI d).length
 row:∀ (k v:Nat) (x:NodeP) (l:List Int),(yI d)[k]?=some v->d.nodes[v]?=some x->p[k]?=some l->l.length=Di d.nodes x/\∀ a∈l,0<=a/\a<x.card
end Go.Proofs
namespace Go.Hx
variable {P:Program} {G:Nat->Option (List AVal)} {n:Nat} {rd:Option Nat} {Q:AX->St->Prop}
def vg (N:Nat)(H1 H2:AHeap):Prop:=H1.next<=H2.next/\∀ id,id≠N->id<H1.next->H2.get id=H1.get id
end Go.Hx
namespace Go.Proofs
open Go.Hx
def gW (ns:List NodeP)(x:NodeP)(vals:List Int):List Int:=x.rows.getD (dx (aS ns x) (aT vals x.parents)).toNat []
def fK (ns:List NodeP)(vals:List Int)(v:Nat):Int:=match ns[v]? with
 | some x=>(gW ns x vals).getD (vals.getD v 0).toNat 0
 | none=>1
def eM (ns:List NodeP)(vals:List Int):List Int:=(List.range ns.length).map (fK ns vals)
def weight (ns:List NodeP)(vals:List Int):Int:=aw (eM ns vals)
def iG (ns:List NodeP):Nat:=(aw (ar ns)).toNat
theorem rG (ns:List NodeP)(vals:List Int):(eM ns vals).length=ns.length:=by simp [eM]
theorem uO {ns:List NodeP}{vals:List Int}{v:Nat}(h:v<ns.length):(eM ns vals)[v]?=some (fK ns vals v):=by
 unfold eM;rw[List.getElem?_map,List.getElem?_range h];rfl
theorem pP {ns:List NodeP}{x:NodeP}{vals:List Int}(hin:gA x.parents ns.length)(hf:cG (ar ns) vals):cG (aS ns x) (aT vals x.parents):=by
 refine⟨by unfold aS;rw[gZ,gZ],fun k c v h1 h2=>?_⟩;obtain⟨q,hq⟩:=get_of_lt (l:=x.parents) (i:=k) (by have:=get_lt h2;rw[gZ]at this;exact this);obtain⟨j,rfl,y,hy⟩:=nr (l:=ns) (hin q (List.mem_of_getElem? hq)).1 (hin q (List.mem_of_getElem? hq)).2;obtain⟨b,hb⟩:=get_of_lt (l:=vals) (i:=j) (by rw[hf.1,bP];exact get_lt hy);have e1:(aS ns x)[k]?=some y.card:=by rw[show (aS ns x)[k]?=_ from rN hq,Int.toNat_natCast,bG (cK hy)]
 have e2:(aT vals x.parents)[k]?=some b:=by rw[rN hq,Int.toNat_natCast,bG hb]
 rw[h1]at e1;rw[h2]at e2;cases e1;cases e2;exact hf.2 j y.card _ (cK hy) hb
structure RowAtW (g:Int)(ns:List NodeP)(x:NodeP)(vals:List Int)(v:Nat)(i:Nat)(r:List Int)(a w:Int):Prop where
 idx:dx (aS ns x) (aT vals x.parents)=i
 row:x.rows[i]?=some r
 val:vals[v]?=some a
 a0:0<=a
 hw:r[a.toNat]?=some w
 wb:0<=w/\w<=g
 eq:fK ns vals v=w
 rv:gW ns x vals=r
 len:(r.length:Int)=x.card
 al:a<r.length
theorem uX {g:Int}{ns:List NodeP}(h:NetOk g ns){v:Nat}{x:NodeP}(hx:ns[v]?=some x){vals:List Int}(hf:cG (ar ns) vals):∃ i r a w,RowAtW g ns x vals v i r a w:=by
 have hxm:=List.mem_of_getElem? hx;have hin:gA x.parents ns.length:=fun q hq=>by have:=(h.node x hxm).2.2 q hq;omega
 have hr:=nu (pP hin hf);obtain⟨r1,r2⟩:=h.rows x hxm;obtain⟨i,hi⟩:=Int.eq_ofNat_of_zero_le hr.1;obtain⟨r,hrr⟩:=get_of_lt (l:=x.rows) (i:=i) (by rw[<- r1,hi]at hr;omega);obtain⟨s1,s2,s3⟩:=r2 r (List.mem_of_getElem? hrr);obtain⟨a,ha⟩:=get_of_lt (l:=vals) (i:=v) (by rw[hf.1,bP];exact get_lt hx);have hb:=hf.2 v x.card a (cK hx) ha;obtain⟨w,hw⟩:=get_of_lt (l:=r) (i:=a.toNat) (by omega);have rv:gW ns x vals=r:=by unfold gW;rw[hi,Int.toNat_natCast,bG hrr]
 exact⟨i,r,a,w,hi,hrr,ha,hb.1,hw,s2 w (List.mem_of_getElem? hw),by unfold fK;rw[hx];simp only;rw[rv,bG ha,bG hw],rv,s1,by omega⟩
theorem QO (k:Nat)(h:k<=8):(60:Int) ^ k<=167961600000000:=by
 have h1:(60:Nat) ^ k<=60 ^ 8:=Nat.pow_le_pow_right (by decide) h;have h2:(60:Nat) ^ 8=167961600000000:=by decide
 rw[h2]at h1;have h3:=Int.ofNat_le.2 h1;rw[Int.natCast_pow]at h3;exact h3
theorem yW {g:Int}{ns:List NodeP}(h:NetOk g ns){vals:List Int}(hf:cG (ar ns) vals)(k:Nat):0<=aw ((eM ns vals).take k)/\aw ((eM ns vals).take k)<=167961600000000:=by
 have hb:∀ w∈eM ns vals,0<=w/\w<=60:=fun w hw=>by
  obtain⟨v,hv,rfl⟩:=List.mem_map.1 hw;obtain⟨x,hx⟩:=get_of_lt (List.mem_range.1 hv);obtain⟨i,r,a,w,hR⟩:=uX h hx hf;rw[hR.eq];have:=hR.wb;have:=h.g1;omega
 have h1:=nt (b:=60) (by omega) (l:=(eM ns vals).take k) fun x hx=>hb x (List.mem_of_mem_take hx);have h2:=QO ((eM ns vals).take k).length (by have:=h.n1;rw[List.length_take,rG];omega);omega
set_option maxHeartbeats 1000000 in
theorem QL (cs:List Int)(h1:∀ c∈cs,1<=c)(hs:dY cs)(i0:Int)(hi:0<=i0/\i0<=4611686018427387904)(H:AHeap)(K:ARes->AHeap->Prop)(hK:K (.ret (ae (cF cs i0))) H):af Try.prog G0 80 [ae cs,aa i0] H K:=by
 refine af.clo ⟨_,Try.func80,rfl,rfl⟩ fun hcl=>?_;have h12:=hs.1;have w0:=IntWalk.i64_in ((cs.length:Int) - 1) (by omega);refine af.bf (n:=33) (rs:=[.tmp 4]) Try.func80 rfl rfl rfl (by decide) (by kernel_rfl) (by simp) ?_;simp only[go_sem,w0];refine⟨by omega,?_⟩;refine W.aG 4294959170 (by rfl) (fun ρ H'=>∃ m:Nat,ρ 6=aa ((m:Int) - 1)/\m<=cs.length/\OwnI H H' H.next (List.replicate m 0++cF (cs.drop m) i0)/\ρ 1=aa (i0 / aw (cs.drop m))) (fun ρ H=>(iv (ρ 6)+1).toNat) ?_ ?_
 ·simp only[go_sem];refine⟨cs.length,rfl,by omega,?_,?_⟩
  ·rw[List.drop_length,show cF [] i0=[] from rfl,List.append_nil];exact .new [] _
  ·rw[List.drop_length,fm,Int.ediv_one]
 rintro ρ H' ⟨m,h6,hm,ho,h1'⟩;refine W.env fun E hE=>?_;have e0:E 0=.vec cs.length (ints cs):=by rw[hE];simp only[go_sem]
 have e1:E 1=aa (i0 / aw (cs.drop m)):=by rw[hE];simp only[go_sem,h1']
 have e5:E 5=.own H.next 0 0 cs.length 1:=by rw[hE];simp only[go_sem]
 have e6:E 6=aa ((m:Int) - 1):=by rw[hE];simp only[go_sem,h6]
 clear hE;refine ab _ _ _ (by rfl) ?_;have lN:=ho.live;have clen:(List.replicate m 0++cF (cs.drop m) i0).length=cs.length:=by simp [kT];omega
 by_cases hm0:m=0
 ·subst hm0;have e6':E 6=aa (-1):=e6;simp only[go_sem,e6',e5];exact ho.fin hcl clen.symm hK
 ·obtain⟨k,rfl⟩:∃ k,m=k+1:=⟨m - 1,by omega⟩
  have e6':E 6=aa k:=by rw[e6];congr 1;omega
  obtain⟨c,hck⟩:=get_of_lt (l:=cs) (i:=k) (by omega);have hne:=aJ hck;have c1:=h1 c (List.mem_of_getElem? hck);have hcz:¬ c=0:=by omega
  have hk0:(k:Int) >= 0:=by omega
  have hkc:(k:Int)<cs.length:=by omega
  have pp:1<=aw (cs.drop (k+1)):=jc fun c hc=>h1 c (List.mem_of_mem_drop hc);have q0:0<=i0 / aw (cs.drop (k+1)):=Int.ediv_nonneg hi.1 (by omega);have q1:i0 / aw (cs.drop (k+1))<=i0:=Int.ediv_le_self _ hi.1;have m1:(i0 / aw (cs.drop (k+1))).tmod c=i0 / aw (cs.drop (k+1)) % c:=Int.tmod_eq_emod_of_nonneg q0;have m2:(i0 / aw (cs.drop (k+1))).tdiv c=i0 / aw (cs.drop (k+1)) / c:=Int.tdiv_eq_ediv_of_nonneg q0;have m3:0<=i0 / aw (cs.drop (k+1)) / c:=Int.ediv_nonneg q0 (by omega);have m4:i0 / aw (cs.drop (k+1)) / c<=i0 / aw (cs.drop (k+1)):=Int.ediv_le_self _ q0;have w1:=IntWalk.i64_in ((k:Int) - 1) (by omega);have w2:=IntWalk.i64_in (i0 / aw (cs.drop (k+1)) / c) (by omega);simp only[go_sem,e0,e1,e5,e6',hk0,hkc,lN,hck,hne,hcz,m1,m2,w1,w2];refine⟨by rw[<- List.length_append,clen];omega,by have:=ho.hi;rw[az];omega,⟨k,rfl,by omega,?_,?_⟩,by rw[h6];simp only[aa,aK];omega⟩
  ·have:=ho.store (k:=k) (by rw[clen];omega) (i0 / aw (cs.drop (k+1)) % c);rw[show (List.replicate (k+1) (0:Int)++cF (cs.drop (k+1)) i0).set k (i0 / aw (cs.drop (k+1)) % c)=List.replicate k 0++cF (cs.drop k) i0 by
    rw[C8 hck,List.replicate_succ',List.append_assoc,List.set_append_right _ _ (by simp)];simp]at this
   exact this
  ·rw[gV hck,fH,Int.mul_comm c,Int.ediv_ediv_of_nonneg (by omega)]
theorem yU (g:Int)(ns:List NodeP)(h8:ns.length<=8)(hc:∀ y∈ns,1<=y.card/\y.card<=4)(i0:Int)(hi:0<=i0/\i0<=4611686018427387904)(H:AHeap)(K:ARes->AHeap->Prop)(hK:K (.ret (ae (cF (ar ns) i0))) H):af Try.prog G0 58 [aQ g ns,aa i0] H K:=by
 refine af.clo ⟨_,Try.func58,rfl,rfl⟩ fun hcl=>?_;have hcards:∀ c∈ar ns,1<=c/\c<=4:=fun c h=>by
  obtain⟨x,hx,rfl⟩:=List.mem_map.1 h;exact hc x hx
 have sm:dY (ar ns):=nH (by rw[bP];omega) hcards;refine af.bf (n:=9) (rs:=[.tmp 4]) Try.func58 rfl rfl rfl (by decide) (by kernel_rfl) (by simp) ?_;simp only[go_sem,aQ,bW];refine aB.clo (pQ g ns (by omega) _ _ ⟨trivial,?_⟩);simp only[go_sem];refine aB.clo (QL (ar ns) (fun c h=>(hcards c h).1) sm i0 hi _ _ ⟨trivial,?_⟩);simp only[go_sem];exact av.drop aP hcl (.dk _) hK
theorem yV (g:Int)(ns:List NodeP)(h8:ns.length<=8)(hc:∀ y∈ns,1<=y.card/\y.card<=4)(H:AHeap)(K:ARes->AHeap->Prop)(hK:K (.ret (aa (aw (ar ns)))) H):af Try.prog G0 59 [aQ g ns] H K:=by
 refine af.clo ⟨_,Try.func59,rfl,rfl⟩ fun hcl=>?_;have hcards:∀ c∈ar ns,1<=c/\c<=4:=fun c h=>by
  obtain⟨x,hx,rfl⟩:=List.mem_map.1 h;exact hc x hx
 have sm:dY (ar ns):=nH (by rw[bP];omega) hcards;refine af.bf (n:=6) (rs:=[.tmp 2]) Try.func59 rfl rfl rfl (by decide) (by kernel_rfl) (by simp) ?_;simp only[go_sem,aQ,bW];refine aB.clo (pQ g ns (by omega) _ _ ⟨trivial,?_⟩);simp only[go_sem];refine aB.clo (yX (ar ns) sm _ _ ⟨trivial,?_⟩);simp only[go_sem];exact av.drop aP hcl (.lit _) hK
end Go.Proofs
namespace Go.Hx
open Go.Proofs (get_lt get_of_lt)
variable {P:Program} {H:AHeap} {G:Nat->Option (List AVal)}
def dS (lo:Nat)(H:AHeap)(e1 e0:TypeId)(v:AVal)(rows:List (List AVal)):Prop :=
 ∃ cs:List AVal,aD lo H e1 v cs/\cs.length=rows.length/\(∀ (j:Nat) (r:List AVal) (c:AVal),rows[j]?=some r->cs[j]?=some c->aD lo H e0 c r)/\∀ (i j a g g' n n':Nat),cs[i]?=some (.own a g 0 n 1)->cs[j]?=some (.own a g' 0 n' 1)->i=j
theorem dS.nil {lo:Nat}{e1 e0:TypeId}:dS lo H e1 e0 (.lit (.slice none 0 0)) []:=⟨[],.nil,rfl,fun j r c h=>by simp at h,fun i j a g g' n n' h=>by simp at h⟩
theorem dS.rH {lo:Nat}{e1 e0:TypeId}{v:AVal}{rows:List (List AVal)}(h:dS lo H e1 e0 v rows):iV lo H e1 e0 v rows :=
 let ⟨cs,a,b,c,_⟩:=h;⟨cs,a,b,c⟩
theorem dS.lo {lo lo':Nat}{e1 e0:TypeId}{v:AVal}{rows:List (List AVal)}(h:dS lo H e1 e0 v rows)(hl:lo'<=lo):dS lo' H e1 e0 v rows :=
 let ⟨cs,a,b,c,d⟩:=h;⟨cs,a.keep hl (Nat.le_refl _) fun _ _ _ _ _ _=>rfl,b,fun j r q h1 h2=>(c j r q h1 h2).keep hl (Nat.le_refl _) fun _ _ _ _ _ _=>rfl,d⟩
theorem dS.app {Hx:AHeap}{lo n:Nat}{e1 e0:TypeId}{v x:AVal}{rows:List (List AVal)}{r:List AVal}{t:TypeId}{z:List AVal}(ht:P.underlying t=some (.slice e1))(hz:P.cellsOf e1=1)(hzero:bR P e1=some z)(hby:P.bytesOf e1=24)(hne:e1≠e0)
  (hb:rows.length<2 ^ 40) (h:dS lo Hx e1 e0 v rows) (ho:Over Hx H) (hlo:lo<=Hx.next) (hx:aD Hx.next H e0 x r) (hn:n=H.next+1):
  ∃ v' H',bC P (ext H [.arr 0 e1 [x]]) n t t v (.own H.next 0 0 1 1)=some (v',H')/\dS lo H' e1 e0 v' (rows++[r])/\H.next<=H'.next/\(∀ k,k<H.next->k<lo->H'.get k=H.get k):=by
 obtain⟨cs,h1,h2,h3,h4⟩:=h;have hon:=ho.next;have h1':=h1.over ho;obtain⟨v',H',hA,hO,hL,hp⟩:=jv (P:=P) (t:=t) ht hz hzero hx.one (by rw[hby,h2];omega) h1' (by omega) hn;have key:∀ lo' u l,aD lo' H e0 u l->aD lo' H' e0 u l:=fun lo' u l hu=>h1'.wI hu hne hL hp;have split:∀ (j:Nat) (c:AVal),(cs++[x])[j]?=some c->(j<cs.length/\cs[j]?=some c)\/(j=cs.length/\c=x):=fun j c hc=>by
  rcases Nat.lt_or_ge j cs.length with hj|hj
  ·rw[List.getElem?_append_left hj]at hc;exact .inl ⟨hj,hc⟩
  ·have:=get_lt hc;rw[List.length_append,List.length_singleton]at this;have hj:j=cs.length:=(by omega);subst hj;rw[List.getElem?_append_right (Nat.le_refl _),Nat.sub_self]at hc;exact .inr ⟨rfl,(Option.some.inj hc).symm⟩
 have old:∀ (j a g m:Nat),cs[j]?=some (.own a g 0 m 1)->a<Hx.next:=fun j a g m hc=>by
  obtain⟨r',hr'⟩:∃ r',rows[j]?=some r':=⟨_,List.getElem?_eq_getElem (by rw[<- h2];exact get_lt hc)⟩
  rcases h3 j r' _ hr' hc with ⟨e,_⟩|⟨i,g',_,b,e,_⟩
  ·cases e
  ·rw[(AVal.own.inj e).1];exact b
 have new:∀ a g m,x=.own a g 0 m 1->Hx.next<=a:=fun a g m he=>by
  rcases hx with ⟨e,_⟩|⟨i,g',b,_,e,_⟩
  ·rw[e]at he;cases he
  ·rw[e]at he;rw[<- (AVal.own.inj he).1];exact b
 refine⟨v',H',hA,⟨cs++[x],hO,by simp [h2],fun j r' c hr hc=>?_,fun i j a g g' m m' hi hj=>?_⟩,hL,fun k hk hkl=>hp k hk (h1.ne hkl)⟩
 ·rcases split j c hc with ⟨a,b⟩|⟨a,b⟩
  ·rw[List.getElem?_append_left (by omega)]at hr;exact key _ _ _ ((h3 j r' c hr b).over ho)
  ·rw[a,h2,List.getElem?_append_right (Nat.le_refl _),Nat.sub_self]at hr;cases hr;rw[b];exact key _ _ _ (hx.keep hlo (Nat.le_refl _) fun _ _ _ _ _ _=>rfl)
 ·rcases split i _ hi with ⟨a1,b1⟩|⟨a1,b1⟩<;>rcases split j _ hj with ⟨a2,b2⟩|⟨a2,b2⟩
  ·exact h4 i j a g g' m m' b1 b2
  ·have:=old i a g m b1;have:=new a g' m' b2.symm;omega
  ·have:=old j a g' m' b2;have:=new a g m b1.symm;omega
  ·omega
theorem dS.row {lo:Nat}{e1 e0:TypeId}{v:AVal}{rows:List (List AVal)}(h:dS lo H e1 e0 v rows)(hne:e1≠e0){k:Nat}{r:List AVal}(hr:rows[k]?=some r)(h0:r≠[]):
  ∃ idt gt idr gr cells,v=.own idt gt 0 rows.length 1/\H.get idt=some (.arr gt e1 cells)/\cells.length=rows.length/\lo<=idt/\idt<H.next/\cells[k]?=some (.own idr gr 0 r.length 1)/\H.get idr=some (.arr gr e0 r)/\lo<=idr/\idr<H.next /\
   ∀ r':List AVal,r'.length=r.length->dS lo (H.upd idr (.arr gr e0 r')) e1 e0 v (rows.set k r'):=by
 obtain⟨cs,h1,h2,h3,h4⟩:=h;have hk:=get_lt hr;obtain⟨c,hc⟩:=get_of_lt (l:=cs) (i:=k) (by omega);rcases h3 k r c hr hc with ⟨_,e⟩|⟨idr,gr,a1,a2,e,a4⟩
 ·exact absurd e h0
 rcases h1 with ⟨_,e'⟩|⟨idt,gt,b1,b2,e',b4⟩
 ·rw[e']at h2;simp at h2;omega
 subst e;have hit:idt≠idr:=fun e=>by rw[e,a4]at b4;cases b4;exact hne rfl
 refine⟨idt,gt,idr,gr,cs,by rw[e',h2],b4,h2,b1,b2,hc,a4,a1,a2,fun r' hl=>⟨cs,.inr ⟨idt,gt,b1,by rw[az];exact b2,e',by rw[ag,if_neg hit];exact b4⟩,by rw[List.length_set];exact h2,fun j q c' hj hc'=>?_,h4⟩⟩;by_cases e:j=k
 ·subst e;rw[List.getElem?_set_self hk]at hj;rw[hc]at hc';cases hj;cases hc';exact .inr ⟨idr,gr,a1,by rw[az];exact a2,by rw[hl],by rw[ag,if_pos rfl]⟩
 ·rw[List.getElem?_set_ne (fun h=>e h.symm)]at hj;refine(h3 j q c' hj hc').keep (Nat.le_refl _) (by rw[az];exact Nat.le_refl _) fun i g _ _ _ hv=>?_;rw[ag,if_neg];rintro rfl;rw[hv]at hc';exact e (h4 j k i g gr _ _ hc' hc)
end Go.Hx
namespace Go.Proofs
open Go.Hx
theorem rI {S:Nat->Prop}{lo nx:Nat}{H:AHeap}{e1 e0:TypeId}{v:AVal}{ps:List (List Int)}(h:iV lo H e1 e0 v (ps.map ints))(hS:∀ i,lo<=i->S i):Fz S H nx v (aA ps):=by
 have:=h.fz (S:=S) (nx:=nx) (rows':=ps.map ints) hS rfl fun j r r' h1 h2=>by
  rw[h1]at h2;cases h2;refine⟨rfl,fun i hi _=>?_⟩;rw[List.getElem?_map]at h1;obtain⟨z,_,rfl⟩:=Option.map_eq_some_iff.1 h1;have e0:(ints z)[i]?=some (ints z)[i]:=List.getElem?_eq_getElem hi;generalize (ints z)[i]=a at e0 ⊢;rw[fg]at e0;obtain⟨b,_,rfl⟩:=Option.map_eq_some_iff.1 e0;exact .lit _
 rw[List.length_map,List.map_map]at this;have e:(ps.map ((fun r:List AVal=>AVal.vec r.length r) ∘ ints))=ps.map ae:=List.map_congr_left fun z _=>by simp [Function.comp,ae,aM]
 rw[e]at this;exact this
set_option maxHeartbeats 1000000 in
theorem M0 (cs:List Int)(h1:∀ c∈cs,1<=c)(hs:dY cs)(i0:Int)(hi:0<=i0/\i0<=4611686018427387904)(H:AHeap)(K:ARes->AHeap->Prop)(hK:∀ v H',Over H H'->aD H.next H' 3 v (ints (cF cs i0))->K (.ret v) H'):af Try.prog G0 80 [ae cs,aa i0] H K:=by
 refine af.clo ⟨_,Try.func80,rfl,rfl⟩ fun hcl=>?_;have h12:=hs.1;have w0:=IntWalk.i64_in ((cs.length:Int) - 1) (by omega);refine af.bf (n:=33) (rs:=[.tmp 4]) Try.func80 rfl rfl rfl (by decide) (by kernel_rfl) (by simp) ?_;simp only[go_sem,w0];refine⟨by omega,?_⟩;refine W.aG 4294959170 (by rfl) (fun ρ H'=>∃ m:Nat,ρ 6=aa ((m:Int) - 1)/\m<=cs.length/\OwnI H H' H.next (List.replicate m 0++cF (cs.drop m) i0)/\ρ 1=aa (i0 / aw (cs.drop m))) (fun ρ H=>(iv (ρ 6)+1).toNat) ?_ ?_
 ·simp only[go_sem];refine⟨cs.length,rfl,by omega,?_,?_⟩
  ·rw[List.drop_length,show cF [] i0=[] from rfl,List.append_nil];exact .new [] _
  ·rw[List.drop_length,fm,Int.ediv_one]
 rintro ρ H' ⟨m,h6,hm,ho,h1'⟩;refine W.env fun E hE=>?_;have e0:E 0=.vec cs.length (ints cs):=by rw[hE];simp only[go_sem]
 have e1:E 1=aa (i0 / aw (cs.drop m)):=by rw[hE];simp only[go_sem,h1']
 have e5:E 5=.own H.next 0 0 cs.length 1:=by rw[hE];simp only[go_sem]
 have e6:E 6=aa ((m:Int) - 1):=by rw[hE];simp only[go_sem,h6]
 clear hE;refine ab _ _ _ (by rfl) ?_;have lN:=ho.live;have clen:(List.replicate m 0++cF (cs.drop m) i0).length=cs.length:=by simp [kT];omega
 by_cases hm0:m=0
 ·subst hm0;have e6':E 6=aa (-1):=e6;simp only[go_sem,e6',e5];refine av.mk ho.ov.next (hK _ _ ho.ov (.inr ⟨H.next,0,Nat.le_refl _,ho.hi,?_,ho.get⟩));rw[aM,kT]
 ·obtain⟨k,rfl⟩:∃ k,m=k+1:=⟨m - 1,by omega⟩
  have e6':E 6=aa k:=by rw[e6];congr 1;omega
  obtain⟨c,hck⟩:=get_of_lt (l:=cs) (i:=k) (by omega);have hne:=aJ hck;have c1:=h1 c (List.mem_of_getElem? hck);have hcz:¬ c=0:=by omega
  have hk0:(k:Int) >= 0:=by omega
  have hkc:(k:Int)<cs.length:=by omega
  have pp:1<=aw (cs.drop (k+1)):=jc fun c hc=>h1 c (List.mem_of_mem_drop hc);have q0:0<=i0 / aw (cs.drop (k+1)):=Int.ediv_nonneg hi.1 (by omega);have q1:i0 / aw (cs.drop (k+1))<=i0:=Int.ediv_le_self _ hi.1;have m1:(i0 / aw (cs.drop (k+1))).tmod c=i0 / aw (cs.drop (k+1)) % c:=Int.tmod_eq_emod_of_nonneg q0;have m2:(i0 / aw (cs.drop (k+1))).tdiv c=i0 / aw (cs.drop (k+1)) / c:=Int.tdiv_eq_ediv_of_nonneg q0;have m3:0<=i0 / aw (cs.drop (k+1)) / c:=Int.ediv_nonneg q0 (by omega);have m4:i0 / aw (cs.drop (k+1)) / c<=i0 / aw (cs.drop (k+1)):=Int.ediv_le_self _ q0;have w1:=IntWalk.i64_in ((k:Int) - 1) (by omega);have w2:=IntWalk.i64_in (i0 / aw (cs.drop (k+1)) / c) (by omega);simp only[go_sem,e0,e1,e5,e6',hk0,hkc,lN,hck,hne,hcz,m1,m2,w1,w2];refine⟨by rw[<- List.length_append,clen];omega,by have:=ho.hi;rw[az];omega,⟨k,rfl,by omega,?_,?_⟩,by rw[h6];simp only[aa,aK];omega⟩
  ·have:=ho.store (k:=k) (by rw[clen];omega) (i0 / aw (cs.drop (k+1)) % c);rw[show (List.replicate (k+1) (0:Int)++cF (cs.drop (k+1)) i0).set k (i0 / aw (cs.drop (k+1)) % c)=List.replicate k 0++cF (cs.drop k) i0 by
    rw[C8 hck,List.replicate_succ',List.append_assoc,List.set_append_right _ _ (by simp)];simp]at this
   exact this
  ·rw[gV hck,fH,Int.mul_comm c,Int.ediv_ediv_of_nonneg (by omega)]
theorem M3 (g:Int)(ns:List NodeP)(h8:ns.length<=8)(hc:∀ y∈ns,1<=y.card/\y.card<=4)(i0:Int)(hi:0<=i0/\i0<=4611686018427387904)(H:AHeap)(K:ARes->AHeap->Prop)(hK:∀ v H',Over H H'->aD H.next H' 3 v (ints (cF (ar ns) i0))->K (.ret v) H'):af Try.prog G0 58 [aQ g ns,aa i0] H K:=by
 refine af.clo ⟨_,Try.func58,rfl,rfl⟩ fun hcl=>?_;have hcards:∀ c∈ar ns,1<=c/\c<=4:=fun c h=>by
  obtain⟨x,hx,rfl⟩:=List.mem_map.1 h;exact hc x hx
 have sm:dY (ar ns):=nH (by rw[bP];omega) hcards;refine af.bf (n:=9) (rs:=[.tmp 4]) Try.func58 rfl rfl rfl (by decide) (by kernel_rfl) (by simp) ?_;simp only[go_sem,aQ,bW];refine aB.clo (pQ g ns (by omega) _ _ ⟨trivial,?_⟩);simp only[go_sem];refine aB.clo (M0 (ar ns) (fun c h=>(hcards c h).1) sm i0 hi _ _ fun v H2 ov hO=>⟨trivial,?_⟩);have vo:=hO.one;have vc:=hO.cells;simp only[go_sem];have o2:Over H H2:=(Over.ext _ _).trans ov;exact av.mk o2.next (hK _ _ o2 (hO.keep (by simp [bJ]) (Nat.le_refl _) fun _ _ _ _ _ _=>rfl))
end Go.Proofs
namespace Go.Hx
variable {P:Program} {G:Nat->Option (List AVal)} {n:Nat} {rd:Option Nat} {Q:AX->St->Prop}
def B1 (P:Program)(G:Nat->Option (List AVal))(f:FuncId)(first cap:List AVal)(xs:List (List AVal))(N:Nat)(S0:AHeap->Prop)(S:Nat->AHeap->Prop):Prop :=
 ∀ (idy:Nat) (J:Nat->AHeap->Prop) (H:AHeap) (K:ARes->AHeap->Prop),H.next=N ->
  (∀ k H1,J k H1->S0 H1)->(∀ k H1 H2,J k H1->vg (N+1) H1 H2->J k H2)->J 0 H ->
  (∀ k x H1 K1,xs[k]?=some x->J k H1->S k H1->N+4<=H1.next->(∀ H',J (k+1) H'->(∀ id,N<=id->id<N+4->H'.get id=H1.get id)->H1.next<=H'.next->K1 (.ret (.lit (.bool true))) H')->aB P G (.yld idy) x H1 K1) ->
  (∀ H',J xs.length H'->N<=H'.next->K (.ret (.tup [])) H') ->
  af P G f (first++[.yld idy]++cap) H K
theorem W.B2 {g:Operand}{ps:Array Tmp}{asg body:Code}{ρ:Env}{H:AHeap}{f:FuncId}{first cap:List AVal}{xs:List (List AVal)}{S0:AHeap->Prop}{S:Nat->AHeap->Prop}(hg:ak G ρ g=.clo f first cap)
  (hit:B1 P G f first cap xs (H.next+1) S0 S) (J:Nat->AHeap->Prop) (hS:∀ k H1,J k H1->S0 H1) (hJw:∀ k H1 H2,J k H1->vg (H.next+2) H1 H2->J k H2) (hlow:∀ k H1,J k H1->H.next<H1.next)
  (hJu:∀ k H1 b,J k H1->J k (H1.upd H.next b))
  (hJ0:∀ b,J 0 (ext H [b])) (hps:ps.toList.all (fun t=>decide (t<n))=true) (hxl:∀ x∈xs,x.length=ps.size)
  (hrd:∀ k H1,J k H1->ef H1 rd)
  (hround:∀ k x H1 B Bb,xs[k]?=some x->J k H1->S k H1->H.next+5<=H1.next->H1.get H.next=some B->(∃ st pd n' en ps' as' bo,Bb=Blk.loop st pd n' en ps' as' bo) ->
   W P G n (some H.next) asg (rV P G n H.next B Bb H1.next body (fun H'=>J (k+1) H'/\∀ id,H.next+1<=id->id<H.next+5->H'.get id=H1.get id) fun _ _=>False) ⟨kD (dp ρ n) (ps.toList.zip x),H1⟩)
  (hend:∀ H',J xs.length H'->H.next+1<=H'.next->Q .normal ⟨ρ,H'⟩):
  W P G n rd (.rangeFunc g ps asg body) Q ⟨ρ,H⟩:=by
 refine W.rangeFunc (s:=⟨ρ,H⟩) hg ⟨_,sL _ _,?_⟩;obtain⟨B,hB⟩:∃ B,B=Blk.loop .ready none n ρ ps asg body:=⟨_,rfl⟩
 obtain⟨Bb,hBb⟩:∃ B,B=Blk.loop .busy none n ρ ps asg body:=⟨_,rfl⟩
 have nx:(ext H [B]).next=H.next+1:=rfl;show af P G f (first++[.yld H.next]++cap) (ext H [Blk.loop .ready none n ρ ps asg body]) (sU rd Q ρ H.next);rw[<- hB];refine hit H.next (fun k H1=>H1.get H.next=some B/\J k H1) _ _ nx
  (fun k H1 h=>hS k H1 h.2) (fun k H1 H2 h hw=>⟨(hw.2 _ (by omega) (hlow _ _ h.2)).trans h.1,hJw _ _ _ h.2 hw⟩) ⟨cA,hJ0 B⟩ (fun k x H1 K1 hx hj hs hn hgo=>?_) (fun H' hj hn=>?_)
 ·have hxm:=hxl x (List.mem_of_getElem? hx);refine aB.yld (hj.1.trans (congrArg some hB)) hxm hps ?_;refine(hround k x H1 B Bb hx hj.2 hs (by omega) hj.1 ⟨_,_,_,_,_,_,_,hBb⟩).mono fun e s1 h1=>?_;cases e with
  | normal =>
   obtain⟨a1,a2⟩:=h1;refine⟨Bb,by rw[a1,hB,hBb];rfl,?_⟩;refine a2.mono fun e2 s2 h2=>?_;cases e2 with
   | normal =>
    obtain⟨b1,b2,b3,b4⟩:=h2;exact⟨B,by rw[b1,hB,hBb];rfl,hgo _ ⟨by rw[ag,if_pos rfl],hJu _ _ _ b3⟩ (fun id i1 i2=>by rw[ag,if_neg (by omega)];exact b4 id i1 (by omega)) b2⟩
   | ret=>exact h2.2.2.elim
   | exit i=>exact h2.2.2.elim
   | _=>exact h2.elim
  | _=>exact h1.elim
 ·refine⟨hrd _ _ hj.2,(none,.loop .exhausted none n ρ ps asg body),by rw[hj.1,hB];rfl,?_⟩;exact hend _ (hJu _ _ _ hj.2) hn
end Go.Hx
namespace Go.Proofs
open Go.Hx
def gi:List Int->List (List Int)
 | []=>[[]]
 | c :: cs=>(List.range c.toNat).flatMap fun (a:Nat)=>(gi cs).map fun w=>(a:Int) :: w
theorem Md {cs:List Int}(h:∀ c∈cs,1<=c)(a i:Int):cF cs (a*aw cs+i)=cF cs i:=by
 induction cs generalizing a with
 | nil=>rfl
 | cons c cs ih =>
  have h1:=jc (l:=cs) fun x hx=>h x (by simp [hx]);have hc:=h c (by simp);have e:a*aw (c :: cs)+i=i+a*c*aw cs:=by rw[fH];simp only[Int.mul_assoc,Int.add_comm]
  show _ :: _=_ :: _;rw[e,Int.add_mul_ediv_right _ _ (by omega),Int.add_mul_emod_self_right];congr 1;rw[Int.add_comm];exact ih (fun x hx=>h x (by simp [hx])) _
theorem Me (m:Nat):∀ c:Nat,List.range (c*m)=(List.range c).flatMap fun a=>(List.range m).map fun j=>a*m+j:=by
 intro c
 induction c with
 | zero=>simp
 | succ c ih=>rw[Nat.add_mul,Nat.one_mul,List.range_add,ih,List.range_succ,List.flatMap_append];simp
theorem ue {cs:List Int}(h:∀ c∈cs,1<=c):gi cs=(List.range (aw cs).toNat).map fun (i:Nat)=>cF cs i:=by
 induction cs with
 | nil=>rfl
 | cons c cs ih =>
  have hr:∀ x∈cs,1<=x:=fun x hx=>h x (by simp [hx]);have hm:=jc hr;have hc:=h c (by simp);obtain⟨m,e⟩:∃ m:Nat,aw cs=m:=⟨(aw cs).toNat,by omega⟩
  obtain⟨k,ek⟩:∃ k:Nat,c=k:=⟨c.toNat,by omega⟩
  have e2:(aw (c :: cs)).toNat=k*m:=by rw[fH,e,ek];exact Int.toNat_natCast (k*m)
  rw[e2,Me,List.map_flatMap];unfold gi;rw[ek,Int.toNat_natCast,ih hr,e,Int.toNat_natCast];rw[List.flatMap_def,List.flatMap_def];congr 1;refine List.map_congr_left fun a ha=>?_;rw[List.map_map,List.map_map];refine List.map_congr_left fun j hj=>?_;have ha':=List.mem_range.1 ha;have hj':=List.mem_range.1 hj;have hv:=Md hr (a:Int) (j:Int);rw[e]at hv;show _=_ :: _;rw[e];have e3:((a*m+j:Nat):Int)=a*m+j:=by simp
  rw[e3,hv];have e4:((a:Int)*m+j) / (m:Int) % (k:Int)=a:=by rw[Int.add_comm,Int.add_mul_ediv_right _ _ (by omega),Int.ediv_eq_zero_of_lt (by omega) (by omega),Int.zero_add,Int.emod_eq_of_lt (by omega) (by omega)]
  rw[e4];rfl
theorem xU {cs:List Int}(h:∀ c∈cs,1<=c){w:List Int}(hw:w∈gi cs):cG cs w:=by
 rw[ue h]at hw;obtain⟨i,_,rfl⟩:=List.mem_map.1 hw;exact uJ h _
def gO:List Int->List Int->Bool
 | x :: r,y :: vs=>(decide (x<0) || decide (x=y)) && gO r vs
 | _,_=>true
def dc:List Int->List Int->List (List Int)
 | [],_=>[[]]
 | c :: cs,r=>(List.range c.toNat).flatMap fun (a:Nat)=>if r.headD (-1)<0\/r.headD (-1)=(a:Int) then (dc cs r.tail).map fun w=>(a:Int) :: w else []
theorem uf:∀ {cs r:List Int},r.length=cs.length->dc cs r=(gi cs).filter (gO r):=by
 intro cs
 induction cs with
 | nil=>intro r h;cases r with
  | nil=>rfl
  | cons _ _=>simp at h
 | cons c cs ih =>
  intro r h;cases r with
  | nil=>simp at h
  | cons x r =>
   unfold dc gi;rw[List.filter_flatMap,List.flatMap_def,List.flatMap_def];congr 1;refine List.map_congr_left fun a _=>?_;rw[List.filter_map];by_cases hx:x<0\/x=(a:Int)
   ·rw[if_pos (by simpa using hx)];have:(gO (x :: r) ∘ fun w=>(a:Int) :: w)=gO r:=by
     funext w
     show (_ && _)=_;have:(decide (x<0) || decide (x=(a:Int)))=true:=(by simpa using hx);rw[this];rfl
    rw[this,<- ih (by simpa using h)];rfl
   ·rw[if_neg (by simpa using hx)];have:(gO (x :: r) ∘ fun w=>(a:Int) :: w)=fun _=>false:=by
     funext w
     show (_ && _)=_;have:(decide (x<0) || decide (x=(a:Int)))=false:=(by simpa using hx);rw[this];rfl
    rw[this];simp
theorem Mf (l l':List Int):(l++l').sum=l.sum+l'.sum:=List.sum_append
theorem Mg {α:Type}(f:List Int->Int)(l:List α)(g:α->List (List Int)):((l.flatMap g).map f).sum=(l.map fun a=>((g a).map f).sum).sum:=by
 induction l with
 | nil=>rfl
 | cons a l ih=>rw[List.flatMap_cons,List.map_append,Mf,ih];rfl
theorem xV {α:Type}(c:Int)(f:α->Int)(l:List α):(l.map fun a=>c*f a).sum=c*(l.map f).sum:=by
 induction l with
 | nil=>simp
 | cons a l ih=>simp only[List.map_cons,List.sum_cons,ih,Int.mul_add]
theorem Mh {α:Type}(f g:α->Int)(l:List α):(l.map fun a=>f a+g a).sum=(l.map f).sum+(l.map g).sum:=by
 induction l with
 | nil=>simp
 | cons a l ih=>simp only[List.map_cons,List.sum_cons,ih];omega
theorem Mi {α β:Type}(f:α->β->Int)(l:List α)(m:List β):(l.map fun a=>(m.map fun b=>f a b).sum).sum=(m.map fun b=>(l.map fun a=>f a b).sum).sum:=by
 induction l with
 | nil=>simp only[List.map_nil,List.sum_nil];induction m with
  | nil=>rfl
  | cons b m ih=>rw[List.map_cons,List.sum_cons,<- ih];rfl
 | cons a l ih=>simp only[List.map_cons,List.sum_cons,ih,Mh]
theorem BV {α:Type}(c:Int)(l:List α):(l.map fun _=>c).sum=l.length*c:=by
 induction l with
 | nil=>simp
 | cons a l ih=>simp only[List.map_cons,List.sum_cons,ih,List.length_cons];rw[show ((l.length+1:Nat):Int)=l.length+1 from rfl,Int.add_mul];omega
theorem mV {α:Type}{f g:α->Int}{l:List α}(h:∀ a∈l,f a=g a):(l.map f).sum=(l.map g).sum:=by rw[List.map_congr_left h]
theorem all_cons (c:Int)(cs:List Int)(f:List Int->Int):((gi (c :: cs)).map f).sum=((List.range c.toNat).map fun (a:Nat)=>((gi cs).map fun w=>f ((a:Int) :: w)).sum).sum:=by
 show (((List.range c.toNat).flatMap _).map f).sum=_;rw[Mg];refine mV fun a _=>?_;rw[List.map_map];rfl
theorem Mj:∀ {cs:List Int} {v:Nat} {c:Int},(∀ c∈cs,1<=c)->cs[v]?=some c->∀ f:List Int->Int,
  ((gi cs).map fun w=>((List.range c.toNat).map fun (a:Nat)=>f (w.set v (a:Int))).sum).sum=c*((gi cs).map f).sum:=by
 intro cs
 induction cs with
 | nil=>intro v c _ h;simp at h
 | cons d cs ih =>
  intro v c h1 h f;rw[all_cons,all_cons];cases v with
  | zero =>
   simp only[List.getElem?_cons_zero,Option.some.injEq]at h;subst h;simp only[List.set_cons_zero];rw[BV,List.length_range,Int.toNat_of_nonneg (by have:=h1 d (by simp);omega)];congr 1;exact Mi _ _ _
  | succ v =>
   simp only[List.set_cons_succ];rw[<- xV];refine mV fun a _=>?_;exact ih (fun x hx=>h1 x (by simp [hx])) (by simpa using h) fun w=>f ((a:Int) :: w)
def dC (n:Nat)(D:Nat->Bool)(f:Nat->Int):Int:=aw ((List.range n).map fun v=>if D v then f v else 1)
theorem ug (n:Nat)(D:Nat->Bool)(f:Nat->Int):dC (n+1) D f=dC n D f*(if D n then f n else 1):=by
 unfold dC;rw[List.range_succ,List.map_append,uI];simp [fH,fm]
theorem uh {D D':Nat->Bool}{v:Nat}(f:Nat->Int)(h0:D v=false)(h1:D' v=true)(he:∀ i,i≠v->D' i=D i):∀ n,dC n D' f=if v<n then dC n D f*f v else dC n D f:=by
 intro n
 induction n with
 | zero=>rfl
 | succ n ih =>
  rw[ug,ug,ih];rcases Nat.lt_trichotomy v n with h|h|h
  ·rw[if_pos h,if_pos (show v<n+1 by omega),he n (by omega)];simp only[Int.mul_assoc,Int.mul_comm (f v)]
  ·subst h;rw[if_neg (show ¬ v<v by omega),if_pos (show v<v+1 by omega),h1,h0];simp
  ·rw[if_neg (show ¬ v<n by omega),if_neg (show ¬ v<n+1 by omega),he n (by omega)]
theorem Mk {n:Nat}{D:Nat->Bool}{f g:Nat->Int}(h:∀ v,v<n->D v=true->f v=g v):dC n D f=dC n D g:=by
 unfold dC;congr 1;refine List.map_congr_left fun v hv=>?_;split
 ·rename_i hd;exact h v (List.mem_range.1 hv) hd
 ·rfl
theorem BW (n:Nat)(f:Nat->Int):dC n (fun _=>false) f=1:=by
 induction n with
 | zero=>rfl
 | succ n ih=>rw[ug,ih];simp
theorem xW {n:Nat}{D:Nat->Bool}(h:∀ v,v<n->D v=true)(f:Nat->Int):dC n D f=aw ((List.range n).map f):=by
 unfold dC;congr 1;exact List.map_congr_left fun v hv=>by rw[h v (List.mem_range.1 hv)];rfl
theorem Ml (l:List Int):((List.range l.length).map fun i=>l.getD i 0).sum=l.sum:=by
 induction l with
 | nil=>rfl
 | cons a l ih=>rw[List.length_cons,List.range_succ_eq_map,List.map_cons,List.map_map,List.sum_cons,List.sum_cons,<- ih];rfl
theorem Mm (n:Nat)(g:Int):aw ((List.range n).map fun _=>g)=g ^ n:=by
 induction n with
 | zero=>simp [fm]
 | succ n ih=>rw[List.range_succ,List.map_append,uI,ih,Int.pow_succ];simp [fH,fm]
theorem BX {w ps:List Int}{v:Nat}{a:Int}(h:∀ p∈ps,p.toNat≠v):aT (w.set v a) ps=aT w ps:=by
 unfold aT;refine List.map_congr_left fun p hp=>?_;rw[List.getD_eq_getElem?_getD,List.getD_eq_getElem?_getD,List.getElem?_set_ne (Ne.symm (h p hp))]
theorem BY {g:Int}{ns:List NodeP}(h:NetOk g ns){x:NodeP}(hx:x∈ns){w:List Int}(hw:cG (ar ns) w):∃ r,x.rows[(dx (aS ns x) (aT w x.parents)).toNat]?=some r:=by
 have hp:=(h.node x hx).2.2;have hf:cG (aS ns x) (aT w x.parents):=⟨by simp [aS,aT],fun k c b h1 h2=>by
  unfold aS aT at h1;unfold aT at h2;rw[List.getElem?_map]at h1 h2;cases hq:x.parents[k]? with
  | none=>rw[hq]at h1;cases h1
  | some q =>
   rw[hq]at h1 h2;have hr:=hp q (List.mem_of_getElem? hq);obtain⟨j,rfl,y,hy⟩:=nr (l:=ns) hr.1 hr.2;obtain⟨b',hb⟩:=get_of_lt (l:=w) (i:=j) (by rw[hw.1];have:=get_lt hy;simpa [ar] using this);simp only[Option.map_some,Option.some.injEq,Int.toNat_natCast]at h1 h2;rw[bG (cK hy)]at h1;rw[bG hb]at h2;rw[<- h1,<- h2];exact hw.2 j y.card b' (cK hy) hb⟩
 have hr:=nu hf;have hl:=(h.rows x hx).1;exact get_of_lt (by omega)
def lT (g:Int)(ns:List NodeP)(D:Nat->Bool):Prop :=
 dC ns.length D (fun v=>(ar ns).getD v 0)*((gi (ar ns)).map fun w=>dC ns.length D (fK ns w)).sum=dC ns.length D (fun _=>g)*aw (ar ns)
theorem Mn (cs:List Int)(h:∀ c∈cs,1<=c):((gi cs).map fun _=>(1:Int)).sum=aw cs:=by
 rw[BV,ue h];have:=jc h;simp;omega
theorem gp {g:Int}{ns:List NodeP}(h:NetOk g ns):∀ c∈ar ns,1<=c:=fun c hc=>by
 unfold ar at hc;obtain⟨x,hx,rfl⟩:=List.mem_map.1 hc;exact(h.node x hx).1.1
theorem Mo {g:Int}{ns:List NodeP}(h:NetOk g ns){D D':Nat->Bool}{v:Nat}(hv:v<ns.length)(h0:D v=false)(h1:D' v=true)(he:∀ i,i≠v->D' i=D i)
  (hcl:∀ (u:Nat) (x:NodeP),D u=true->ns[u]?=some x->∀ p∈x.parents,D p.toNat=true) (hpa:∀ x,ns[v]?=some x->∀ p∈x.parents,D p.toNat=true) (hs:lT g ns D):lT g ns D':=by
 obtain⟨x,hx⟩:=get_of_lt hv;have hxm:=List.mem_of_getElem? hx;have hc:=cK hx;have hc1:=gp h;unfold lT at hs ⊢;have key:x.card*((gi (ar ns)).map fun w=>dC ns.length D' (fK ns w)).sum=g*((gi (ar ns)).map fun w=>dC ns.length D (fK ns w)).sum:=by
  rw[<- Mj hc1 hc,<- xV];refine mV fun w hw=>?_;have hf:=xU hc1 hw;have hl:w.length=ns.length:=by rw[hf.1];simp [ar]
  have e1:∀ a:Nat,dC ns.length D' (fK ns (w.set v (a:Int)))=dC ns.length D (fK ns w)*(gW ns x w).getD a 0:=fun a=>by
   rw[uh _ h0 h1 he,if_pos hv];congr 1
   ·refine Mk fun u hu hd=>?_;obtain⟨y,hy⟩:=get_of_lt hu;have huv:v≠u:=fun e=>by rw[e,hd]at h0;cases h0
    unfold fK gW;rw[hy];dsimp only;rw[BX fun p hp e=>by have:=hcl u y hd hy p hp;rw[e,h0]at this;cases this];simp only[List.getD_eq_getElem?_getD,List.getElem?_set_ne huv]
   ·unfold fK gW;rw[hx];dsimp only;rw[BX fun p hp e=>by have:=hpa x hx p hp;rw[e,h0]at this;cases this];congr 1;simp only[List.getD_eq_getElem?_getD,List.getElem?_set_self (show v<w.length by omega)];rfl
  rw[mV fun a _=>e1 a,xV,Int.mul_comm g];congr 1;obtain⟨r,hr⟩:=BY h hxm hf;have hrow:gW ns x w=r:=by unfold gW;rw[bG hr]
  have ho:=(h.rows x hxm).2 r (List.mem_of_getElem? hr);rw[hrow,show x.card.toNat=r.length by have:=ho.1;omega,Ml];exact ho.2.2
 rw[uh _ h0 h1 he,uh (fun _=>g) h0 h1 he,if_pos hv,if_pos hv,bG hc,Int.mul_assoc,key,<- Int.mul_assoc,Int.mul_right_comm,hs];simp only[Int.mul_assoc,Int.mul_comm g]
theorem rf (ns:List NodeP):(bB ns).length=ns.length:=by simp [bB]
theorem sQ {n s:Nat}(h:n<=cU n s):∀ v,v<n->s.testBit v=true:=by
 have hl:=yG n s;have e:(List.range n).countP (fun i=>s.testBit i)=(List.range n).length:=by rw[List.length_range];exact Nat.le_antisymm hl h
 exact fun v hv=>List.countP_eq_length.1 e v (List.mem_range.2 hv)
theorem Mp {g:Int}{ns:List NodeP}(h:NetOk g ns):∀ (k:Nat) (out:List Nat) (done:Nat) (r:List Nat),jG (bB ns) k out done=some r->ns.length<=k+cU ns.length done ->
  (∀ (u:Nat) (x:NodeP),done.testBit u=true->ns[u]?=some x->∀ p∈x.parents,done.testBit p.toNat=true)->lT g ns (fun v=>done.testBit v)->lT g ns fun _=>true:=by
 have hp64:∀ p∈bB ns,p<2 ^ 64:=fun p hp=>uZ (n:=64) (fun x hx q hq=>by have:=(h.node x hx).2.2 q hq;have:=h.n1;omega) p hp;intro k
 induction k with
 | zero =>
  intro out done r _ hc _ hs;have hf:=sQ (n:=ns.length) (s:=done) (by omega);unfold lT at hs ⊢;have e:∀ f,dC ns.length (fun v=>done.testBit v) f=dC ns.length (fun _=>true) f:=fun f=>by
   rw[xW hf,xW fun _ _=>rfl]
  rw[e,e,mV fun w _=>e (fK ns w)]at hs;exact hs
 | succ k ih =>
  intro out done r hr hc hcl hs;unfold jG at hr;cases hn:kU (bB ns) done with
  | none=>rw[hn]at hr;cases hr
  | some v =>
   rw[hn]at hr;obtain⟨h1,h2,h3⟩:=yH hp64 hn;rw[rf]at h1;obtain⟨y,hy⟩:=get_of_lt h1;have hpa:∀ x,ns[v]?=some x->∀ p∈x.parents,done.testBit p.toNat=true:=fun x hx p hp=>by
    rw[bG (nG hx)]at h3;refine h3 _ ?_;have hpos:=fun q hq=>((h.node x (List.mem_of_getElem? hx)).2.2 q hq).1;rw[mi hpos];exact decide_eq_true (by rw[Int.toNat_of_nonneg (hpos p hp)];exact hp)
   refine ih _ _ r hr ?_ ?_ (Mo h h1 h2 (D':=fun i=>(done ||| 2 ^ v).testBit i) ?_ (fun i hi=>?_) hcl hpa hs)
   ·have:=pK (n:=ns.length) (.left done (2 ^ v)) h1 h2 (by rw[jd];simp);omega
   ·intro u x hu hx p hp;rw[jd]at hu ⊢;rw[Bool.or_eq_true]at hu ⊢;left;rcases hu with hu|hu
    ·exact hcl u x hu hx p hp
    ·have:v=u:=of_decide_eq_true hu;subst this;exact hpa x hx p hp
   ·show (done ||| 2 ^ v).testBit v=true;rw[jd];simp
   ·show (done ||| 2 ^ v).testBit i=done.testBit i;rw[jd,decide_eq_false (fun e=>hi e.symm),Bool.or_false]
theorem BZ (ns:List NodeP):aw ((List.range ns.length).map fun v=>(ar ns).getD v 0)=aw (ar ns):=by
 congr 1;refine List.ext_getElem? fun i=>?_;rw[List.getElem?_map];rcases Nat.lt_or_ge i ns.length with h|h
 ·obtain⟨x,hx⟩:=get_of_lt h;rw[List.getElem?_range h,cK hx];show some ((ar ns).getD i 0)=_;rw[bG (cK hx)]
 ·rw[List.getElem?_eq_none (by simpa using h),List.getElem?_eq_none (by simpa [ar] using h)];rfl
theorem Mq {g:Int}{ns:List NodeP}(h:NetOk g ns):((gi (ar ns)).map (weight ns)).sum=g ^ ns.length:=by
 have hc:=gp h;have hp:=jc hc;have h8:=h.n1;have hps:∀ p∈bB ns,p<2 ^ (bB ns).length:=fun p hp=>by
  rw[rf];exact uZ (n:=ns.length) (fun x hx q hq=>(h.node x hx).2.2 q hq) p hp
 have ht:=(Df hps (by rw[rf];omega)).2 h.acyc;obtain⟨r,hr⟩:=Option.isSome_iff_exists.1 ht;unfold eW at hr;rw[rf]at hr;have hs:=Mp h _ _ _ r hr (by omega) (fun u x hu=>by rw[Nat.zero_testBit]at hu;cases hu) (by
  unfold lT;have e:∀ f,dC ns.length (fun v=>(0:Nat).testBit v) f=1:=fun f=>by
   rw[show (fun v=>(0:Nat).testBit v)=fun _=>false from funext fun v=>Nat.zero_testBit v,BW]
  rw[e,e,mV fun w _=>e (fK ns w),Mn _ hc])
 unfold lT at hs;have e:∀ f,dC ns.length (fun _=>true) f=aw ((List.range ns.length).map f):=fun f=>xW (fun _ _=>rfl) f;rw[e,e,BZ,Mm,mV fun w _=>e (fK ns w)]at hs;rw[Int.mul_comm]at hs;exact Int.eq_of_mul_eq_mul_right (by omega) hs
theorem Mr {g:Int}{ns:List NodeP}(h:NetOk g ns){w:List Int}(hw:cG (ar ns) w)(v:Nat):0<=fK ns w v/\(v<ns.length->fK ns w v<=60):=by
 unfold fK;cases hx:ns[v]? with
 | none=>exact⟨show (0:Int)<=1 by decide,fun h=>by obtain⟨x,h⟩:=get_of_lt h;rw[hx]at h;cases h⟩
 | some x =>
  have hxm:=List.mem_of_getElem? hx;obtain⟨r,hr⟩:=BY h hxm hw;have hrow:gW ns x w=r:=by unfold gW;rw[bG hr]
  have ho:=(h.rows x hxm).2 r (List.mem_of_getElem? hr);have hg:=h.g1;show 0<=(gW ns x w).getD (w.getD v 0).toNat 0/\(_->(gW ns x w).getD (w.getD v 0).toNat 0<=60)
  rw[hrow,List.getD_eq_getElem?_getD];cases hy:r[(w.getD v 0).toNat]? with
  | none=>exact⟨by simp,by simp⟩
  | some y=>have:=ho.2.1 y (List.mem_of_getElem? hy);exact⟨by simp;omega,fun _=>by simp;omega⟩
theorem B0 {g:Int}{ns:List NodeP}(h:NetOk g ns){w:List Int}(hw:cG (ar ns) w):0<=weight ns w/\weight ns w<=60 ^ ns.length:=by
 have:=nt (b:=60) (l:=eM ns w) (by decide) fun y hy=>by
  unfold eM at hy;obtain⟨v,hv,rfl⟩:=List.mem_map.1 hy;have:=Mr h hw v;exact⟨this.1,this.2 (List.mem_range.1 hv)⟩
 rw[rG]at this;exact this
set_option maxHeartbeats 1000000 in
theorem QM (g:Int)(ns:List NodeP)(h:NetOk g ns)(vals:List Int)(hf:cG (ar ns) vals)(v:Nat)(x:NodeP)(hx:ns[v]?=some x)(H:AHeap)(K:ARes->AHeap->Prop)(hK:K (.ret (ae (gW ns x vals))) H):af Try.prog G0 91 [aQ g ns,aa v,ae vals] H K:=by
 refine af.clo ⟨_,Try.func91,rfl,rfl⟩ fun hcl=>?_;have n8:=h.n1;have hxm:=List.mem_of_getElem? hx;have hin:gA x.parents ns.length:=fun q hq=>by have:=(h.node x hxm).2.2 q hq;omega
 have sm:=pR n8.2 (h.node x hxm).2 fun y hy=>(h.node y hy).1;have pl:(aS ns x).length=x.parents.length:=gZ _ _;have p12:=sm.1;have hfp:=pP hin hf;obtain⟨i,r,a,w,hR⟩:=uX h hx hf;have hne:=dQ hx;have e1:=kS hx;have e2:=ni hx;have hv:(v:Int)<ns.length:=by have:=get_lt hx;omega
 have hvl:vals.length=ns.length:=by rw[hf.1,bP]
 have hri:=hR.row;have hrne:=aJ hri;have hrl:(i:Int)<x.rows.length:=by have:=get_lt hri;omega
 have hidx:=hR.idx;rw[hR.rv]at hK;have hin':∀ q∈x.parents,0<=q/\q<(vals.length:Int):=fun q hq=>by rw[hvl];exact hin q hq
 refine af.bf (n:=27) (rs:=[.tmp 6]) Try.func91 rfl rfl rfl (by decide) (by kernel_rfl) (by simp) ?_;simp only[go_sem,aQ,bW];refine W.draw 18 [0,1,0,7,15,31,0,0,192,0,0,1024,0,7168,15360,31744,65472,131008] Try.mixed (by kernel_rfl) (by kernel_rfl) ?_;simp only[go_sem,hv,hne,e1,e2];refine⟨ae (aS ns x),[],dA.pure (fun H2=>y6 g ns v x hx (by omega) (by omega) hin H2 _ ⟨rfl,rfl⟩),?_⟩;simp only[go_sem];refine⟨ae (aT vals x.parents),[],dA.pure (fun H2=>yZ vals x.parents (by omega) (by omega) hin' H2 _ ⟨rfl,rfl⟩),?_⟩;simp only[go_sem];refine⟨aa i,[],dA.pure (fun H2=>DP (aS ns x) (aT vals x.parents) sm hfp H2 _ ⟨by rw[hidx],rfl⟩),?_⟩;simp only[go_sem,hrl,aA,hri,hrne];exact av.drop aP hcl (.dk _) hK
set_option maxHeartbeats 1000000 in
theorem DN (g:Int)(ns:List NodeP)(h:NetOk g ns)(i0:Int)(hi:0<=i0/\i0<=4611686018427387904)(H:AHeap)(K:ARes->AHeap->Prop)(hK:K (.ret (aa (weight ns (cF (ar ns) i0)))) H):af Try.prog G0 72 [aQ g ns,aa i0] H K:=by
 refine af.clo ⟨_,Try.func72,rfl,rfl⟩ fun hcl=>?_;have n8:=h.n1;have hcards:∀ c∈ar ns,1<=c/\c<=4:=fun c hc=>by
  obtain⟨x,hx,rfl⟩:=List.mem_map.1 hc;exact(h.node x hx).1
 refine af.bf (n:=31) (rs:=[.tmp 4]) Try.func72 rfl rfl rfl (by decide) (by kernel_rfl) (by simp) ?_;simp only[go_sem,aQ,bW];obtain⟨H1,hH1⟩:∃ H1,H1=ext H [.arr 0 35 [.lit (.int .i64 g),.vec ns.length (au ns)]]:=⟨_,rfl⟩
 have l1:H1.live H.next 0=some (35,[.lit (.int .i64 g),.vec ns.length (au ns)]):=by rw[hH1];exact ah (cJ ..)
 have o1:Over H H1:=by rw[hH1];exact .ext _ _
 rw[<- hH1];refine aB.clo (yU g ns n8.2 (fun y hy=>(h.node y hy).1) i0 hi _ _ ⟨trivial,?_⟩);obtain⟨vals,hvals⟩:∃ vals,vals=cF (ar ns) i0:=⟨_,rfl⟩
 have hfit:cG (ar ns) vals:=by rw[hvals];exact uJ (fun c hc=>(hcards c hc).1) _
 have hvl:vals.length=ns.length:=by rw[hfit.1,bP]
 rw[<- hvals]at hK ⊢;simp only[go_sem];refine W.aG 1073739968 (by rfl) (fun ρ H'=>H'=H1/\∃ v:Nat,ρ 7=aa v/\v<=ns.length/\ρ 6=aa (aw ((eM ns vals).take v))) (fun ρ H=>ns.length - (iv (ρ 7)).toNat) ?_ ?_
 ·simp only[go_sem];exact⟨0,rfl,by omega,by simp [fm]⟩
 rintro ρ H' ⟨rfl,v,h7,hv,h6⟩;refine W.env fun E hE=>?_;have e2:E 2=.ptr H.next 0 0:=by rw[hE];simp only[go_sem]
 have e5:E 5=ae vals:=by rw[hE];simp only[go_sem]
 have e6:E 6=aa (aw ((eM ns vals).take v)):=by rw[hE];simp only[go_sem,h6]
 have e7:E 7=aa v:=by rw[hE];simp only[go_sem,h7]
 clear hE;refine ab _ _ _ (by rfl) ?_;by_cases hb:(v:Int)<ns.length
 ·obtain⟨x,hx⟩:=get_of_lt (l:=ns) (i:=v) (by omega);obtain⟨i,r,a,w,hR⟩:=uX h hx hfit;obtain⟨a',rfl⟩:=Int.eq_ofNat_of_zero_le hR.a0;have hva:=hR.val;have hvne:=aJ hva;have hvv:(v:Int)<vals.length:=by omega
  have hra:r[a']?=some w:=by have:=hR.hw;rw[Int.toNat_natCast]at this;exact this
  have hrane:=aJ hra;have hal:=hR.al;have wt:=yW h hfit (v+1);rw[aL (uO (vals:=vals) (v:=v) (by omega)),fV,hR.eq]at wt;have w1:=IntWalk.i64_in ((v:Int)+1) (by omega);have w2:=IntWalk.i64_in (aw ((eM ns vals).take v)*w) (by omega);simp only[go_sem,l1,e2,e7,hb];refine W.draw 11 [0,0,0,0,14,0,0,96,224,510,1022] Try.mixed (by kernel_rfl) (by kernel_rfl) ?_;simp only[go_sem,l1,e2,e5,e6,e7];refine⟨ae r,[],dA.pure (fun H2=>QM g ns h vals hfit v x hx H2 _ ⟨by rw[hR.rv],rfl⟩),?_⟩;simp only[go_sem,e2,e5,e6,e7,hva,hvne,hvv,hra,hrane,hal,w1,w2];refine⟨⟨v+1,rfl,by omega,?_⟩,by rw[h7];simp only[aa,aK];omega⟩;rw[aL (uO (vals:=vals) (v:=v) (by omega)),fV,hR.eq]
 ·have e:v=ns.length:=by omega
  subst e;simp only[go_sem,l1,e2,e6,e7,hb];rw[List.take_of_length_le (by rw[rG];omega)];exact av.bA aP hcl o1 (.lit _) hK
def cj (cs:List Int)(xs:List (List Int)):AVal:=.agg [ae cs,aA xs]
def rA (cs r:List Int):Prop:=r.length=cs.length/\∀ (v:Nat) (c x:Int),cs[v]?=some c->r[v]?=some x->-1<=x/\x<c
structure DataOk (cs:List Int)(xs:List (List Int)):Prop where
 c1:1<=cs.length/\cs.length<=6
 x1:xs.length<=40
 card:∀ c∈cs,2<=c/\c<=4
 size:aw cs<=1024
 row:∀ r∈xs,rA cs r
noncomputable def ja (cs:List Int)(xs:List (List Int)):Bool:=@decide (DataOk cs xs) (Classical.propDecidable _)
theorem Cz {cs:List Int}{xs:List (List Int)}(h:DataOk cs xs):ja cs xs=true:=by unfold ja;exact @decide_eq_true _ (Classical.propDecidable _) h
theorem CA {cs:List Int}{xs:List (List Int)}(h:¬ DataOk cs xs):ja cs xs=false:=by unfold ja;exact @decide_eq_false _ (Classical.propDecidable _) h
theorem NT {cs:List Int}{xs:List (List Int)}:ja cs xs=true↔DataOk cs xs:=by unfold ja;exact @decide_eq_true_iff _ (Classical.propDecidable _)
def kO (cs:List Int)(xs:List (List Int)):Prop:=(cs.length:Int)<2 ^ 38/\(xs.length:Int)<2 ^ 38/\∀ r∈xs,(r.length:Int)<2 ^ 38
theorem lY {xs:List (List Int)}{k:Nat}{r:List Int}(h:xs[k]?=some r):(xs.map ae)[k]?=some (.vec r.length (ints r)):=by rw[List.getElem?_map,h];rfl
theorem CB {l:List Int}(h:∀ c∈l,2<=c/\c<=4)(hl:l.length<=6):1<=aw l/\aw l<=4096:=by
 have h1:=nt (b:=4) (by omega) (l:=l) fun x hx=>by have:=h x hx;omega
 have h2:=jc (l:=l) fun x hx=>by have:=h x hx;omega
 have h3:(4:Nat) ^ l.length<=4 ^ 6:=Nat.pow_le_pow_right (by decide) hl;have h4:((4:Int) ^ l.length)<=4 ^ 6:=by exact_mod_cast h3
 have:(4:Int) ^ 6=4096:=by decide
 omega
theorem rA.of {cs r:List Int}(hl:r.length=cs.length)(h:∀ (v:Nat) (c x:Int),v<r.length->cs[v]?=some c->r[v]?=some x->-1<=x/\x<c):rA cs r:=⟨hl,fun v c x h1 h2=>h v c x (get_lt h2) h1 h2⟩
def xX (g:Int)(ns:List NodeP)(r:List Int):List AVal:=[aa g,.vec ns.length (au ns),ae r]
theorem B3 {cs vs:List Int}(hf:cG cs vs)(hs:dY cs)(k:Nat):0<=fI (cs.take k) (vs.take k)/\fI (cs.take k) (vs.take k)<68719476737:=by
 have ft:cG (cs.take k) (vs.take k):=⟨by simp [hf.1],fun i c b h1 h2=>by
  rw[List.getElem?_take]at h1 h2;split at h1
  ·rename_i hik;rw[if_pos hik]at h2;exact hf.2 i c b h1 h2
  ·cases h1⟩
 rw[uK ft.1];have a:=nu ft;have b:=(hs.take k).prod;omega
theorem B4 {ns:List NodeP}{x:NodeP}{vals:List Int}(hin:gA x.parents ns.length)(hf:cG (ar ns) vals){k:Nat}{q:Int}(hq:x.parents[k]?=some q):
  ∃ (j:Nat) (y:NodeP) (b:Int),q=j/\ns[j]?=some y/\vals[j]?=some b/\(aS ns x)[k]?=some y.card/\(aT vals x.parents)[k]?=some b/\0<=b/\b<y.card:=by
 obtain⟨j,rfl,y,hy⟩:=nr (l:=ns) (hin q (List.mem_of_getElem? hq)).1 (hin q (List.mem_of_getElem? hq)).2;obtain⟨b,hb⟩:=get_of_lt (l:=vals) (i:=j) (by rw[hf.1,bP];exact get_lt hy);exact⟨j,y,b,rfl,hy,hb,by rw[show (aS ns x)[k]?=_ from rN hq,Int.toNat_natCast,bG (cK hy)],by rw[rN hq,Int.toNat_natCast,bG hb],hf.2 j y.card b (cK hy) hb⟩
set_option maxHeartbeats 2000000 in
theorem Ms (g:Int)(ns:List NodeP)(h:NetOk g ns)(rc vals:List Int)(hf:cG (ar ns) vals)(H:AHeap)(K:ARes->AHeap->Prop)(hK:K (.ret (aa (weight ns vals))) H):
  af Try.prog G0 90 [.agg (xX g ns rc),ae vals] H K:=by
 refine af.clo ⟨_,Try.func90,rfl,rfl⟩ fun hcl=>?_;have n8:=h.n1;have hvl:vals.length=ns.length:=by rw[hf.1,bP]
 refine af.bf (n:=57) (rs:=[.tmp 4]) Try.func90 rfl rfl rfl (by decide) (by kernel_rfl) (by simp) ?_;simp only[go_sem,xX];obtain⟨H1,hH1⟩:∃ H1,H1=ext H [.arr 0 127 [aa g,.vec ns.length (au ns),.vec rc.length (ints rc)]]:=⟨_,rfl⟩
 have g1:H1.get H.next=some (.arr 0 127 [aa g,.vec ns.length (au ns),.vec rc.length (ints rc)]):=by rw[hH1];exact cJ ..
 have o1:Over H H1:=by rw[hH1];exact .ext _ _
 have n1:H1.next=H.next+1:=by rw[hH1];rfl
 refine W.env fun E hE=>?_;have e1:E 1=ae vals:=by rw[hE];simp only[go_sem]
 have e2:E 2=.ptr H.next 0 0:=by rw[hE];simp only[go_sem]
 have e5:E 5=aa 1:=by rw[hE];simp only[go_sem]
 have e13:E 13=.vec ns.length (au ns):=by rw[hE];simp only[go_sem]
 have e14:E 14=aa ns.length:=by rw[hE];simp only[go_sem]
 have e15:E 15=aa 0:=by rw[hE];simp only[go_sem]
 clear hE;show W _ _ _ _ _ _ ⟨E,ext H [.arr 0 127 [aa g,.vec ns.length (au ns),.vec rc.length (ints rc)]]⟩;rw[<- hH1];refine W.aG 72057594037896672 (by rfl) (fun ρ H'=>Over H1 H'/\∃ v:Nat,ρ 15=aa v/\v<=ns.length/\ρ 5=aa (aw ((eM ns vals).take v))) (fun ρ H=>ns.length - (iv (ρ 15)).toNat) ?_ ?_
 ·exact⟨.refl _,0,e15,by omega,e5.trans (by simp [fm])⟩
 rintro ρ H' ⟨o2,v,h15,hv,h5⟩;have n2:=o2.next;have l2:=ah ((o2.old H.next (by omega)).trans g1);refine W.env fun F hF=>?_;have f1:F 1=ae vals:=by rw[hF];simp only[go_sem,e1]
 have f2:F 2=.ptr H.next 0 0:=by rw[hF];simp only[go_sem,e2]
 have f5:F 5=aa (aw ((eM ns vals).take v)):=by rw[hF];simp only[go_sem,h5]
 have f13:F 13=.vec ns.length (au ns):=by rw[hF];simp only[go_sem,e13]
 have f14:F 14=aa ns.length:=by rw[hF];simp only[go_sem,e14]
 have f15:F 15=aa v:=by rw[hF];simp only[go_sem,h15]
 clear hF;by_cases hb:(v:Int)<ns.length;rotate_left
 ·have e:v=ns.length:=by omega
  subst e;refine ab _ _ _ (by rfl) ?_;simp only[go_sem,f5,f14,f15,hb];rw[List.take_of_length_le (by rw[rG];omega)];exact av.bA aP hcl (o1.trans o2) (.lit _) hK
 obtain⟨x,hx⟩:=get_of_lt (l:=ns) (i:=v) (by omega);have hxm:=List.mem_of_getElem? hx;have hin:gA x.parents ns.length:=fun q hq=>by have:=(h.node x hxm).2.2 q hq;omega
 have hfp:=pP hin hf;have pl:(aS ns x).length=x.parents.length:=gZ _ _;have vl:(aT vals x.parents).length=x.parents.length:=gZ _ _;have hsm:=pR n8.2 (h.node x hxm).2 fun y hy=>(h.node y hy).1;have hr:=B3 hfp hsm;have l12:=hsm.1;obtain⟨i,r,a,w,hR⟩:=uX h hx hf;obtain⟨a',rfl⟩:=Int.eq_ofNat_of_zero_le hR.a0;have hne:=dQ hx;have hpt:=kj hx;refine ab _ _ _ (by rfl) ?_;simp only[go_sem,f13,f14,f15,hb,hne,hpt];refine⟨by rw[fk];omega,?_⟩;obtain⟨H2,hH2⟩:∃ H2,H2=ext H' [.arr 0 69 [aa x.card,.vec x.parents.length (ints x.parents),aA x.rows]]:=⟨_,rfl⟩
 have o3:Over H' H2:=by rw[hH2];exact .ext _ _
 have n3:H2.next=H'.next+1:=by rw[hH2];rfl
 have l3:H2.live H'.next 0=some (69,[aa x.card,.vec x.parents.length (ints x.parents),aA x.rows]):=by rw[hH2];exact ah (cJ ..)
 have l4:H2.live H.next 0=some (127,[aa g,.vec ns.length (au ns),.vec rc.length (ints rc)]):=ah ((o3.old H.next (by omega)).trans ((o2.old H.next (by omega)).trans g1));refine W.env fun E3 hE3=>?_;have g1:E3 1=ae vals:=by rw[hE3];simp only[go_sem,f1]
 have g2:E3 2=.ptr H.next 0 0:=by rw[hE3];simp only[go_sem,f2]
 have g5:E3 5=aa (aw ((eM ns vals).take v)):=by rw[hE3];simp only[go_sem,f5]
 have g6:E3 6=aa v:=by rw[hE3];simp only[go_sem]
 have g7:E3 7=.ptr H'.next 0 0:=by rw[hE3];simp only[go_sem]
 have g8:E3 8=aa 0:=by rw[hE3];simp only[go_sem]
 have g13:E3 13=.vec ns.length (au ns):=by rw[hE3];simp only[go_sem,f13]
 have g14:E3 14=aa ns.length:=by rw[hE3];simp only[go_sem,f14]
 have g15:E3 15=aa v:=by rw[hE3];simp only[go_sem,f15]
 have g21:E3 21=ae x.parents:=by rw[hE3];simp only[go_sem]
 have g22:E3 22=aa x.parents.length:=by rw[hE3];simp only[go_sem]
 have g23:E3 23=aa 0:=by rw[hE3];simp only[go_sem]
 clear hE3;show W _ _ _ _ _ _ ⟨E3,ext H' [.arr 0 69 [aa x.card,.vec x.parents.length (ints x.parents),aA x.rows]]⟩;rw[<- hH2];refine W.aG 4398038123776 (by rfl) (fun ρ H3=>H3=H2/\∃ k:Nat,ρ 23=aa k/\k<=x.parents.length/\ρ 8=aa (fI ((aS ns x).take k) ((aT vals x.parents).take k))) (fun ρ H=>x.parents.length - (iv (ρ 23)).toNat) ?_ ?_
 ·exact⟨rfl,0,g23,by omega,g8⟩
 rintro ρ3 H3 ⟨e3,k,h23,hk,h8⟩;rw[e3];refine W.env fun E4 hE4=>?_;have k1:E4 1=ae vals:=by rw[hE4];simp only[go_sem,g1]
 have k2:E4 2=.ptr H.next 0 0:=by rw[hE4];simp only[go_sem,g2]
 have k5:E4 5=aa (aw ((eM ns vals).take v)):=by rw[hE4];simp only[go_sem,g5]
 have k6:E4 6=aa v:=by rw[hE4];simp only[go_sem,g6]
 have k7:E4 7=.ptr H'.next 0 0:=by rw[hE4];simp only[go_sem,g7]
 have k8:E4 8=aa (fI ((aS ns x).take k) ((aT vals x.parents).take k)):=by rw[hE4];simp only[go_sem,h8]
 have k13:E4 13=.vec ns.length (au ns):=by rw[hE4];simp only[go_sem,g13]
 have k14:E4 14=aa ns.length:=by rw[hE4];simp only[go_sem,g14]
 have k15:E4 15=aa v:=by rw[hE4];simp only[go_sem,g15]
 have k21:E4 21=ae x.parents:=by rw[hE4];simp only[go_sem,g21]
 have k22:E4 22=aa x.parents.length:=by rw[hE4];simp only[go_sem,g22]
 have k23:E4 23=aa k:=by rw[hE4];simp only[go_sem,h23]
 clear hE4;refine ab _ _ _ (by rfl) ?_;by_cases hb2:(k:Int)<x.parents.length
 ·obtain⟨q,hq⟩:=get_of_lt (l:=x.parents) (i:=k) (by omega);obtain⟨j,y,b,rfl,hy,hbv,a1,a2,a3⟩:=B4 hin hf hq;have hqn:=aJ hq;have hbn:=aJ hbv;have hyn:=dQ hy;have hy0:=iF hy;have hjn:(j:Int)<ns.length:=by have:=get_lt hy;omega
  have hjv:(j:Int)<vals.length:=by have:=get_lt hbv;omega
  have w1:=IntWalk.i64_in ((k:Int)+1) (by omega);have r1:=hr (k+1);rw[uL a1 a2]at r1;have r0:=hr k;have m0:0<=fI ((aS ns x).take k) ((aT vals x.parents).take k)*y.card:=Int.mul_nonneg r0.1 (by omega);have w2:=IntWalk.i64_in (fI ((aS ns x).take k) ((aT vals x.parents).take k)*y.card) (by omega);have w3:=IntWalk.i64_in (fI ((aS ns x).take k) ((aT vals x.parents).take k)*y.card+b) (by omega);simp only[go_sem,k21,k22,k23,hb2,hq,hqn];refine W.draw 13 [0,0,2,6,0,30,62,126,255,0,0,1536,3584] Try.mixed (by kernel_rfl) (by kernel_rfl) ?_;simp only[go_sem,l4,k1,k2,k8,k23,hbv,hbn,hyn,hy0,hjn,hjv,w1,w2,w3];exact⟨⟨k+1,rfl,by omega,by rw[uL a1 a2]⟩,by rw[h23];simp only[aa,aK];omega⟩
 have ek:k=x.parents.length:=by omega
 rw[ek,List.take_of_length_le (by rw[pl];exact Nat.le_refl _),List.take_of_length_le (by rw[vl];exact Nat.le_refl _),uK hfp.1,hR.idx]at k8;have hva:=hR.val;have hvne:=aJ hva;have hvv:(v:Int)<vals.length:=by omega
 have hra:r[a']?=some w:=by have:=hR.hw;rw[Int.toNat_natCast]at this;exact this
 have hrane:=aJ hra;have hal:(a':Int)<r.length:=hR.al;have hir:=lY hR.row;have hirn:=aJ hir;have hil:(i:Int)<x.rows.length:=by have:=get_lt hR.row;omega
 have wt:=yW h hf (v+1);rw[aL (uO (vals:=vals) (v:=v) (by omega)),fV,hR.eq]at wt;have w1:=IntWalk.i64_in ((v:Int)+1) (by omega);have w2:=IntWalk.i64_in (aw ((eM ns vals).take v)*w) (by omega);simp only[go_sem,k22,k23,hb2];refine W.draw 12 [0,0,2,0,14,30,0,0,192,448,1022,2046] Try.mixed (by kernel_rfl) (by kernel_rfl) ?_;simp only[go_sem,l3,k1,k5,k6,k7,k8,k15,aA,hil,hir,hirn,hvv,hva,hvne,hra,hrane,hal,w1,w2];exact⟨by omega,⟨o2.trans o3,v+1,rfl,by omega,by rw[aL (uO (vals:=vals) (v:=v) (by omega)),fV,hR.eq]⟩,by rw[h15];simp only[aa,aK];omega⟩
theorem Mt {α:Type}{F:Nat->List α}{c a j:Nat}{t:α}(ha:a<c)(h:(F a)[j]?=some t):((List.range c).flatMap F)[((List.range a).flatMap F).length+j]?=some t:=by
 obtain⟨m,rfl⟩:∃ m,c=a+(m+1):=⟨c - a - 1,by omega⟩
 have hj:=get_lt h;rw[List.range_add,List.flatMap_append,List.getElem?_append_right (by omega),Nat.add_sub_cancel_left,List.range_succ_eq_map,List.map_cons,List.flatMap_cons,Nat.add_zero,List.getElem?_append_left hj];exact h
def ui (cs r:List Int)(x:Int)(a:Nat):List (List Int):=if x<0\/x=(a:Int) then (dc cs r).map fun w=>(a:Int) :: w else []
theorem Mu {cs r:List Int}{i:Nat}{c x:Int}(hc:cs[i]?=some c)(hx:r[i]?=some x):dc (cs.drop i) (r.drop i)=(List.range c.toNat).flatMap (ui (cs.drop (i+1)) (r.drop (i+1)) x):=by
 rw[gV hc,gV hx];rfl
structure Own4 (n N b idy:Nat)(H:AHeap)(w:List Int):Prop where
 nx:N+4<=H.next
 y:H.get N=some (.arr 0 111 [.yld idy])
 w:H.get (N+1)=some (.arr 0 3 (ints w))
 c:H.get (N+2)=some (.arr 0 39 [.own (N+1) 0 0 n 1])
 f:H.get (N+3)=some (.arr 0 106 [.clo 89 [] [.ptr (N+2) 0 0,.ptr N 0 0,.ptr b 0 0,.ptr (N+3) 0 0]])
theorem Own4.keep {n N b idy:Nat}{H H':AHeap}{w:List Int}(h:Own4 n N b idy H w)(hn:H.next<=H'.next)(hk:∀ id,N<=id->id<N+4->H'.get id=H.get id):Own4 n N b idy H' w :=
 ⟨by have:=h.nx;omega,(hk _ (by omega) (by omega)).trans h.y,(hk _ (by omega) (by omega)).trans h.w,(hk _ (by omega) (by omega)).trans h.c,(hk _ (by omega) (by omega)).trans h.f⟩
def iX (ns:List NodeP)(r:List Int)(N:Nat):List (List AVal):=(dc (ar ns) r).map fun w=>[.own (N+1) 0 0 ns.length 1,aa (weight ns w)]
def B5 (ns:List NodeP)(r:List Int)(N:Nat)(k:Nat)(H:AHeap):Prop:=∃ w,(dc (ar ns) r)[k]?=some w/\H.get (N+1)=some (.arr 0 3 (ints w))
theorem px {cs r:List Int}(h:∀ c∈cs,1<=c)(hl:r.length=cs.length){w:List Int}(hw:w∈dc cs r):cG cs w:=by
 rw[uf hl]at hw;exact xU h (List.mem_filter.1 hw).1
theorem Mv (g:Int)(ns:List NodeP)(h:NetOk g ns)(rc vals:List Int)(hf:cG (ar ns) vals)(H:AHeap)(N n:Nat)(hN:N<H.next)(hg:H.get N=some (.arr 0 3 (ints vals)))(hn:n=vals.length):
  dA Try.prog G0 (.clo 90 [] []) [.agg [aa g,.vec ns.length (au ns),.vec rc.length (ints rc)],.own N 0 0 n 1] H (aa (weight ns vals)) [N]:=by
 subst hn;refine dA.mk (fun i hi=>by obtain rfl:=List.mem_singleton.1 hi;exact hN) fun H2 h2 _=>?_;refine(af.frame (H:=H2) (args:=[.agg [aa g,.vec ns.length (au ns),.vec rc.length (ints rc)],.own N 0 0 vals.length 1]) (args':=[.agg (xX g ns rc),ae vals]) (v':=aa (weight ns vals)) aP rfl (fun i hi _=>?_) (Ms g ns h rc vals hf cH _ ⟨_,rfl,.lit _⟩))
 match i,hi with
 | 0,_=>exact .agg rfl fun i hi _=>match i,hi with
  | 0,_=>.lit _
  | 1,_=>rT _
  | 2,_=>.dk _
 | 1,_=>exact Fz.rS ((h2 N (by simp)).trans hg) (by rw[aM]) fun c hc=>by obtain⟨z,_,rfl⟩:=List.mem_map.1 hc;exact⟨_,rfl⟩
set_option maxHeartbeats 2000000 in
theorem Mw (g:Int)(ns:List NodeP)(h:NetOk g ns)(rc:List Int)(hr:rc.length=ns.length)(b N idy:Nat)(hbN:b<N)(J:Nat->AHeap->Prop)
  (hS0:∀ k H1,J k H1->H1.get b=some (.arr 0 127 [aa g,.vec ns.length (au ns),.vec rc.length (ints rc)])) (hJw:∀ k H1 H2,J k H1->vg (N+1) H1 H2->J k H2)
  (hY:∀ k x H1 K1,(iX ns rc N)[k]?=some x->J k H1->B5 ns rc N k H1->N+4<=H1.next->(∀ H',J (k+1) H'->(∀ id,N<=id->id<N+4->H'.get id=H1.get id)->H1.next<=H'.next->K1 (.ret (.lit (.bool true))) H')->aB Try.prog G0 (.yld idy) x H1 K1):
  ∀ (d i:Nat),i+d=ns.length->∀ (k:Nat) (w:List Int) (H1:AHeap) (K1:ARes->AHeap->Prop),w.length=ns.length ->
   (∀ (j:Nat) (t:List Int),(dc ((ar ns).drop i) (rc.drop i))[j]?=some t->(dc (ar ns) rc)[k+j]?=some (w.take i++t)) ->
   J k H1->Own4 ns.length N b idy H1 w ->
   (∀ H' w',J (k+(dc ((ar ns).drop i) (rc.drop i)).length) H'->Own4 ns.length N b idy H' w'->w'.take i=w.take i->w'.length=ns.length->H1.next<=H'.next->K1 (.ret (.lit (.bool true))) H') ->
   af Try.prog G0 89 [aa i,.ptr (N+2) 0 0,.ptr N 0 0,.ptr b 0 0,.ptr (N+3) 0 0] H1 K1:=by
 have hc1:=gp h;have n8:=h.n1;have cl:(ar ns).length=ns.length:=bP ns;intro d
 induction d with
 | zero =>
  intro i hi k w H1 K1 hw hpre hj ho hK;have ei:i=ns.length:=by omega
  subst ei;have e0:dc ((ar ns).drop ns.length) (rc.drop ns.length)=[[]]:=by rw[List.drop_of_length_le (by omega)];rfl
  rw[e0]at hpre hK;have hk:=hpre 0 [] rfl;rw[List.take_of_length_le (by omega),List.append_nil,Nat.add_zero]at hk;have hfit:=px hc1 (by omega) (List.mem_of_getElem? hk);have lb:=ah (hS0 _ _ hj);have lc:=ah ho.c;have ly:=ah ho.y;have lw:=ah ho.w;refine af.bf (n:=53) (rs:=[.tmp 6]) Try.func89 rfl rfl rfl (by decide) (by kernel_rfl) (by simp) ?_;simp only[go_sem,lc,lw];refine W.draw 5 [0,0,0,0,12] Try.mixed (by kernel_rfl) (by kernel_rfl) ?_;simp only[go_sem,lc,ly,lb];refine⟨aa (weight ns w),[N+1],Mv g ns h rc w hfit H1 (N+1) ns.length (by have:=ho.nx;omega) ho.w hw.symm,?_⟩;simp only[go_sem];refine hY k [.own (N+1) 0 0 ns.length 1,aa (weight ns w)] H1 _ (by unfold iX;rw[List.getElem?_map,hk];rfl) hj ⟨w,hk,ho.w⟩ ho.nx fun H2 j2 kp n2=>⟨trivial,?_⟩
  simp only[go_sem];exact av.mk n2 (hK H2 w j2 (ho.keep n2 kp) rfl hw n2)
 | succ d ih =>
  intro i hi k w H1 K1 hw hpre hj ho hK;obtain⟨x,hx⟩:=get_of_lt (l:=ns) (i:=i) (by omega);obtain⟨q,hq⟩:=get_of_lt (l:=rc) (i:=i) (by omega);have hxc:=(h.node x (List.mem_of_getElem? hx)).1;have hcx:=cK hx;rw[Mu hcx hq]at hpre hK;obtain⟨F,hF⟩:∃ F,F=ui ((ar ns).drop (i+1)) (rc.drop (i+1)) q:=⟨_,rfl⟩
  rw[<- hF]at hpre hK;have lb:=ah (hS0 _ _ hj);have lc:=ah ho.c;have lw:=ah ho.w;have hin:¬ (i:Int)=ns.length:=by omega
  have hil:(i:Int)<ns.length:=by omega
  have hne:=dQ hx;have h0:=iF hx;refine af.bf (n:=53) (rs:=[.tmp 6]) Try.func89 rfl rfl rfl (by decide) (by kernel_rfl) (by simp) ?_;simp only[go_sem,lb,lc,lw,hin,hil,hne,h0];refine W.env fun E hE=>?_;have e0:E 0=aa i:=by rw[hE];simp only[go_sem]
  have e1:E 1=.ptr (N+2) 0 0:=by rw[hE];simp only[go_sem]
  have e2:E 2=.ptr N 0 0:=by rw[hE];simp only[go_sem]
  have e3:E 3=.ptr b 0 0:=by rw[hE];simp only[go_sem]
  have e4:E 4=.ptr (N+3) 0 0:=by rw[hE];simp only[go_sem]
  have e24:E 24=aa x.card:=by rw[hE];simp only[go_sem]
  have e25:E 25=aa 0:=by rw[hE];simp only[go_sem]
  clear hE;refine W.aG 9007199221186752 (by rfl) (fun ρ H'=>∃ (a:Nat) (w':List Int),ρ 25=aa a/\(a:Int)<=x.card/\J (k+((List.range a).flatMap F).length) H'/\Own4 ns.length N b idy H' w'/\w'.take i=w.take i/\w'.length=ns.length/\H1.next<=H'.next) (fun ρ H=>x.card.toNat - (iv (ρ 25)).toNat) ?_ ?_
  ·exact⟨0,w,e25,by omega,hj,ho,rfl,hw,Nat.le_refl _⟩
  rintro ρ H' ⟨a,w',h25,ha,hj',ho',ht',hl',hn'⟩;refine W.env fun E1 hE1=>?_;have f0:E1 0=aa i:=by rw[hE1];simp only[go_sem,e0]
  have f1:E1 1=.ptr (N+2) 0 0:=by rw[hE1];simp only[go_sem,e1]
  have f2:E1 2=.ptr N 0 0:=by rw[hE1];simp only[go_sem,e2]
  have f3:E1 3=.ptr b 0 0:=by rw[hE1];simp only[go_sem,e3]
  have f4:E1 4=.ptr (N+3) 0 0:=by rw[hE1];simp only[go_sem,e4]
  have f24:E1 24=aa x.card:=by rw[hE1];simp only[go_sem,e24]
  have f25:E1 25=aa a:=by rw[hE1];simp only[go_sem,h25]
  clear hE1;have mb:=ah (hS0 _ _ hj');have mc:=ah ho'.c;have mw:=ah ho'.w;have mf:=ah ho'.f;have hqn:=aJ hq;have hir:(i:Int)<rc.length:=by omega
  have hiw:(i:Int)<w'.length:=by omega
  have w1:=IntWalk.i64_in ((i:Int)+1) (by omega);have w2:=IntWalk.i64_in ((a:Int)+1) (by omega);by_cases hb:(a:Int)<x.card;rotate_left
  ·have ea:a=x.card.toNat:=(by omega);refine ab _ _ _ (by rfl) ?_;simp only[go_sem,f24,f25,hb];exact av.mk hn' (hK H' w' (by rw[<- ea];exact hj') ho' ht' hl' hn')
  have hset:setAt (ints w') i [aa a]=ints (w'.set i (a:Int)):=dM (by omega);obtain⟨H3,hH3⟩:∃ H3,H3=H'.upd (N+1) (.arr 0 3 (setAt (ints w') i [aa a])):=⟨_,rfl⟩
  have n3:H3.next=H'.next:=by rw[hH3];rfl
  have k3:∀ id,id≠N+1->H3.get id=H'.get id:=fun id hh=>by rw[hH3,ag,if_neg hh]
  have m3:H3.get (N+1)=some (.arr 0 3 (ints (w'.set i (a:Int)))):=by rw[hH3,ag,if_pos rfl,hset]
  have o3:Own4 ns.length N b idy H3 (w'.set i (a:Int)):=⟨by rw[n3];exact ho'.nx,(k3 _ (by omega)).trans ho'.y,m3,(k3 _ (by omega)).trans ho'.c,(k3 _ (by omega)).trans ho'.f⟩
  have mf3:(H'.upd (N+1) (.arr 0 3 (setAt (ints w') i [.lit (.int .i64 (a:Int))]))).live (N+3) 0=some (106,[.clo 89 [] [.ptr (N+2) 0 0,.ptr N 0 0,.ptr b 0 0,.ptr (N+3) 0 0]]):=by have:=ah o3.f;rw[hH3]at this;exact this
  have j3:J (k+((List.range a).flatMap F).length) H3:=hJw _ _ _ hj' ⟨by rw[n3];exact Nat.le_refl _,fun id h1 _=>k3 id h1⟩;have tk:(w'.set i (a:Int)).take (i+1)=w.take i++[(a:Int)]:=by
   rw[aL (x:=(a:Int)) (by rw[List.getElem?_set_self (by omega)]),List.take_set_of_le (Nat.le_refl _),ht']
  have fyes:(q<0\/q=(a:Int))->F a=(dc ((ar ns).drop (i+1)) (rc.drop (i+1))).map fun w=>(a:Int) :: w:=fun hh=>by rw[hF];unfold ui;rw[if_pos hh]
  have hpre3:(q<0\/q=(a:Int))->∀ (j:Nat) (t:List Int),(dc ((ar ns).drop (i+1)) (rc.drop (i+1)))[j]?=some t->(dc (ar ns) rc)[k+((List.range a).flatMap F).length+j]?=some ((w'.set i (a:Int)).take (i+1)++t):=fun hh j t hj=>by
   rw[tk,List.append_assoc,Nat.add_assoc];refine hpre _ _ (Mt (by omega) ?_);rw[fyes hh,List.getElem?_map,hj];rfl
  have pre1:((List.range (a+1)).flatMap F).length=((List.range a).flatMap F).length+(F a).length:=by
   rw[List.range_succ,List.flatMap_append,List.length_append];simp
  by_cases q0:q<0
  ·refine ab _ _ _ (by rfl) ?_;simp only[go_sem,f0,f1,f3,f4,f24,f25,mb,mc,mw,mf3,w1,hb,hq,hqn,hir,hl',q0];refine⟨by omega,by omega,?_⟩;show aB _ _ (.clo 89 [] [.ptr (N+2) 0 0,.ptr N 0 0,.ptr b 0 0,.ptr (N+3) 0 0]) [aa ((i+1:Nat):Int)] (H'.upd (N+1) (.arr 0 3 (setAt (ints w') i [aa a]))) _;rw[<- hH3];refine aB.clo (ih (i+1) (by omega) _ (w'.set i (a:Int)) H3 _ (by rw[List.length_set];exact hl') (hpre3 (.inl q0)) j3 o3 fun H4 w4 j4 o4 t4 l4 n4=>⟨trivial,?_⟩);have t4':w4.take i=w.take i:=by
    have:=congrArg (List.take i) (t4.trans tk);rw[List.take_take,Nat.min_eq_left (Nat.le_succ i),List.take_left' (by rw[List.length_take];omega)]at this;exact this
   simp only[go_sem,f25,w2];exact⟨by omega,⟨a+1,w4,rfl,by omega,by rw[pre1,fyes (.inl q0),List.length_map,<- Nat.add_assoc];exact j4,o4,t4',l4,by omega⟩,by rw[h25];simp only[aa,aK];omega⟩
  by_cases q1:q=(a:Int)
  ·have q0':¬ (a:Int)<0:=(by omega);refine ab _ _ _ (by rfl) ?_;simp only[go_sem,f0,f1,f3,f4,f24,f25,mb,mc,mw,mf3,w1,hb,hq,hqn,hir,hl',q0',q1];refine⟨by omega,by omega,?_⟩;show aB _ _ (.clo 89 [] [.ptr (N+2) 0 0,.ptr N 0 0,.ptr b 0 0,.ptr (N+3) 0 0]) [aa ((i+1:Nat):Int)] (H'.upd (N+1) (.arr 0 3 (setAt (ints w') i [aa a]))) _;rw[<- hH3];refine aB.clo (ih (i+1) (by omega) _ (w'.set i (a:Int)) H3 _ (by rw[List.length_set];exact hl') (hpre3 (.inr q1)) j3 o3 fun H4 w4 j4 o4 t4 l4 n4=>⟨trivial,?_⟩);have t4':w4.take i=w.take i:=by
    have:=congrArg (List.take i) (t4.trans tk);rw[List.take_take,Nat.min_eq_left (Nat.le_succ i),List.take_left' (by rw[List.length_take];omega)]at this;exact this
   simp only[go_sem,f25,w2];exact⟨by omega,⟨a+1,w4,rfl,by omega,by rw[pre1,fyes (.inr q1),List.length_map,<- Nat.add_assoc];exact j4,o4,t4',l4,by omega⟩,by rw[h25];simp only[aa,aK];omega⟩
  ·refine ab _ _ _ (by rfl) ?_;simp only[go_sem,f0,f3,f24,f25,mb,hb,hq,hqn,hir,q0,q1,w2];have fno:F a=[]:=(by rw[hF];unfold ui;rw[if_neg fun hh=>hh.elim q0 q1]);exact⟨hn',⟨a+1,w',rfl,by omega,by rw[pre1,fno];exact hj',ho',ht',hl',hn'⟩,by rw[h25];simp only[aa,aK];omega⟩
set_option maxHeartbeats 1000000 in
theorem B6 (g:Int)(ns:List NodeP)(h:NetOk g ns)(rc:List Int)(hr:rc.length=ns.length)(b N:Nat)(hbN:b<N):
  B1 Try.prog G0 88 [] [.ptr b 0 0] (iX ns rc N) N (fun H=>H.get b=some (.arr 0 127 [aa g,.vec ns.length (au ns),.vec rc.length (ints rc)])) (B5 ns rc N):=by
 intro idy J H K hN hS0 hJw hJ0 hY hK;have l0:=ah (hS0 0 H hJ0);have n8:=h.n1;subst hN;show af _ _ _ ([.yld idy]++[.ptr b 0 0]) _ _;refine af.bf (n:=13) (rs:=[]) Try.func88 rfl rfl rfl (by decide) (by kernel_rfl) (by simp) ?_;have lE:∀ L,(ext H L).live b 0=some (127,[aa g,.vec ns.length (au ns),.vec rc.length (ints rc)]):=fun L=>ah ((cb _ _ _ hbN).trans (hS0 0 H hJ0));have c1:∀ f a c,(AVal.clo f a c).cells=[.clo f a c]:=fun _ _ _=>rfl;have c2:∀ f a c,(AVal.clo f a c).one=true:=fun _ _ _=>rfl;have c3:∀ i,(AVal.yld i).cells=[.yld i]:=fun _=>rfl;simp only[go_sem,lE,c1,c2,c3];refine⟨by omega,?_⟩;obtain⟨bs,hbs⟩:∃ bs,bs=[Blk.arr 0 111 [.yld idy],.arr 0 3 (List.replicate ns.length (.lit (.int .i64 0))),.arr 0 39 [.own (H.next+1) 0 0 ns.length 1],.arr 0 106 [.clo 89 [] [.ptr (H.next+2) 0 0,.ptr H.next 0 0,.ptr b 0 0,.ptr (H.next+3) 0 0]]]:=⟨_,rfl⟩
 rw[<- hbs];have hrep:List.replicate ns.length (.lit (.int .i64 0))=ints (List.replicate ns.length 0):=by simp [ints,aa]
 have nx:(ext H bs).next=H.next+4:=by rw[hbs];rfl
 have hw:vg (H.next+1) H (ext H bs):=⟨by omega,fun id _ hi=>cb _ _ _ hi⟩
 refine aB.clo (Mw g ns h rc hr b H.next idy hbN J hS0 hJw hY ns.length 0 (by omega) 0 (List.replicate ns.length 0) (ext H bs) _ (by simp) (fun j t ht=>by rw[Nat.zero_add];exact ht) (hJw 0 H _ hJ0 hw)
  ⟨by omega,by rw[hbs];exact bg H _ 0 (by simp),by rw[<- hrep,hbs];exact bg H _ 1 (by simp),by rw[hbs];exact bg H _ 2 (by simp),by rw[hbs];exact bg H _ 3 (by simp)⟩ fun H2 w2 j2 o2 _ _ n2=>⟨trivial,?_⟩)
 simp only[go_sem];refine av.mk (by omega) (hK H2 ?_ (by omega));rw[Nat.zero_add,List.drop_zero,List.drop_zero]at j2;unfold iX;rw[List.length_map];exact j2
theorem B7 (g:Int)(ns:List NodeP)(rc:List Int)(H:AHeap)(K:ARes->AHeap->Prop)(hK:K (.ret (.clo 88 [] [.ptr H.next 0 0])) (ext H [.arr 0 127 [aa g,.vec ns.length (au ns),.vec rc.length (ints rc)]])):
  af Try.prog G0 70 [.agg [aa g,.vec ns.length (au ns),.vec rc.length (ints rc)]] H K:=by
 refine af.bf (n:=4) (rs:=[.tmp 2]) Try.func70 rfl rfl rfl (by decide) (by kernel_rfl) (by simp) ?_;simp only[go_sem];exact av.mk (by simp [bJ]) hK
end Go.Proofs
