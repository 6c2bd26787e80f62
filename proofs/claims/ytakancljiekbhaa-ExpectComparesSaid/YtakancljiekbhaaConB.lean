/- Own work: contracts. -/
import Derived.Test.YtakancljiekbhaaConA
set_option linter.all false
set_option maxRecDepth 100000
namespace Go.Proofs
open Go.Hx
def xw:AVal:=.agg [.lit (.int .i64 0),ae [],ae [],ae [],ae []]
def xz (g:Int)(ns:List NodeP):AVal:=.agg [.lit (.int .i64 g),cf ns,ae (ar ns),cu (bu ns),ae (fa ((el (bu ns)).getD []))]
structure RdS (g:Int)(ns:List NodeP)(H H':AHeap)(c:List Int)(s:List Nat):Prop where
 nx:H.next+5<=H'.next
 ov:Over H H'
 b0:H'.get H.next=some (.arr 0 35 [.lit (.int .i64 g),.vec ns.length (aq ns)])
 b1:H'.get (H.next+1)=some (.arr 0 145 [.lit (.int .i64 0),.lit (.slice none 0 0),.lit (.slice none 0 0),.lit (.slice none 0 0),.lit (.slice none 0 0)])
 b2:H'.get (H.next+2)=some (.arr 0 3 (ints c))
 b3:H'.get (H.next+3)=some (.arr 0 45 (s.map aV))
 b4:H'.get (H.next+4)=some (.arr 0 145 [.lit (.int .i64 g),.vec ns.length (aq ns),.own (H.next+2) 0 0 ns.length 1,.own (H.next+3) 0 0 ns.length 1,.lit (.slice none 0 0)])
 cl:c.length=ns.length
 sl:s.length=ns.length
theorem RdS.over {g:Int}{ns:List NodeP}{H H' H2:AHeap}{c:List Int}{s:List Nat}(h:RdS g ns H H' c s)(o:Over H' H2):RdS g ns H H2 c s where
 nx:=PY h.nx o.next
 ov:=h.ov.trans o
 b0:=(o.old _ (by have:=h.nx;omega)).trans h.b0
 b1:=(o.old _ (by have:=h.nx;omega)).trans h.b1
 b2:=(o.old _ (by have:=h.nx;omega)).trans h.b2
 b3:=(o.old _ (by have:=h.nx;omega)).trans h.b3
 b4:=(o.old _ (by have:=h.nx;omega)).trans h.b4
 cl:=h.cl
 sl:=h.sl
theorem RdS.OV {g:Int}{ns:List NodeP}{H H':AHeap}{c:List Int}{s:List Nat}(h:RdS g ns H H' c s){k:Nat}(hk:k<c.length)(x:Int):RdS g ns H (H'.upd (H.next+2) (.arr 0 3 (setAt (ints c) k [.lit (.int .i64 x)]))) (c.set k x) s where
 nx:=h.nx
 ov:=h.ov.upd (by omega) _
 b0:=by rw[ag,Pt (by omega)];exact h.b0
 b1:=by rw[ag,Pt (by omega)];exact h.b1
 b2:=by rw[ag,Pv rfl,fL hk]
 b3:=by rw[ag,Pt (by omega)];exact h.b3
 b4:=by rw[ag,Pt (by omega)];exact h.b4
 cl:=by simpa using h.cl
 sl:=h.sl
theorem Cr {l:List Nat}{i:Nat}{x:Nat}(h:i<l.length):setAt (l.map aV) i [.lit (.int .u64 (x:Int))]=(l.set i x).map aV:=by
 rw[gO (by simpa using h)];simp [aV]
theorem RdS.OW {g:Int}{ns:List NodeP}{H H':AHeap}{c:List Int}{s:List Nat}(h:RdS g ns H H' c s){k:Nat}(hk:k<s.length)(x:Nat):RdS g ns H (H'.upd (H.next+3) (.arr 0 45 (setAt (s.map aV) k [.lit (.int .u64 (x:Int))]))) c (s.set k x) where
 nx:=h.nx
 ov:=h.ov.upd (by omega) _
 b0:=by rw[ag,Pt (by omega)];exact h.b0
 b1:=by rw[ag,Pt (by omega)];exact h.b1
 b2:=by rw[ag,Pt (by omega)];exact h.b2
 b3:=by rw[ag,Pv rfl,Cr hk]
 b4:=by rw[ag,Pt (by omega)];exact h.b4
 cl:=h.cl
 sl:=by simpa using h.sl
theorem RdS.l0 {g:Int}{ns:List NodeP}{H H':AHeap}{c:List Int}{s:List Nat}(h:RdS g ns H H' c s):H'.live H.next 0=some (35,[.lit (.int .i64 g),.vec ns.length (aq ns)]):=aj h.b0
theorem RdS.l1 {g:Int}{ns:List NodeP}{H H':AHeap}{c:List Int}{s:List Nat}(h:RdS g ns H H' c s):H'.live (H.next+1) 0=some (145,[.lit (.int .i64 0),.lit (.slice none 0 0),.lit (.slice none 0 0),.lit (.slice none 0 0),.lit (.slice none 0 0)]):=aj h.b1
theorem RdS.l2 {g:Int}{ns:List NodeP}{H H':AHeap}{c:List Int}{s:List Nat}(h:RdS g ns H H' c s):H'.live (H.next+2) 0=some (3,ints c):=aj h.b2
theorem RdS.l3 {g:Int}{ns:List NodeP}{H H':AHeap}{c:List Int}{s:List Nat}(h:RdS g ns H H' c s):H'.live (H.next+3) 0=some (45,s.map aV):=aj h.b3
theorem RdS.l4 {g:Int}{ns:List NodeP}{H H':AHeap}{c:List Int}{s:List Nat}(h:RdS g ns H H' c s):H'.live (H.next+4) 0=some (145,[.lit (.int .i64 g),.vec ns.length (aq ns),.own (H.next+2) 0 0 ns.length 1,.own (H.next+3) 0 0 ns.length 1,.lit (.slice none 0 0)]):=aj h.b4
theorem qA {S:Nat->Prop}{H:AHeap}{nx:Nat}(ns:List NodeP):Fz S H nx (.vec ns.length (aq ns)) (.vec ns.length (aq ns)):=by
 refine .vec rfl fun i hi _=>?_;have:∀ (l:List NodeP) (c:AVal),c∈aq l->Fz S H nx c c:=by
  intro l c hc;unfold aq at hc;obtain⟨r,hr,hc⟩:=RI.1 hc;obtain⟨x,_,rfl⟩:=PQ.1 hr;unfold NodeP.cells at hc;simp only[List.mem_cons,List.not_mem_nil,or_false]at hc;rcases hc with rfl|rfl|rfl
  ·exact .lit _
  ·exact .dm _
  ·exact .ay _
 exact this ns _ (Qe _)
theorem OX (g:Int)(hg:1<=g/\g<=60)(ns:List NodeP)(sets:List Nat)(x:NodeP)(hin:im x.parents ns.length)(hsm:dC (bh ns x))(hx1:(x.rows.length:Int)<2 ^ 38)(hx2:∀ r∈x.rows,(r.length:Int)<2 ^ 38)(H:AHeap)(ci si:Nat)
  (h2:H.get ci=some (.arr 0 3 (ints (ar ns)))) (h3:H.get si=some (.arr 0 45 (sets.map aV))) (hs:sets.length=ns.length) (K:ARes->AHeap->Prop)
  (hK:K (.ret (.lit (.bool (jz g ns x)))) H):ab Try.prog G0 94 [.agg [.lit (.int .i64 g),.vec ns.length (aq ns),.own ci 0 0 ns.length 1,.own si 0 0 ns.length 1,.lit (.slice none 0 0)],.agg [.lit (.int .i64 x.card),.vec x.parents.length (ints x.parents),ay x.rows]] H K:=by
 refine(ab.frame (H:=H) (args:=[.agg [.lit (.int .i64 g),.vec ns.length (aq ns),.own ci 0 0 ns.length 1,.own si 0 0 ns.length 1,.lit (.slice none 0 0)],.agg [.lit (.int .i64 x.card),.vec x.parents.length (ints x.parents),ay x.rows]]) (args':=[.agg [.lit (.int .i64 g),cf ns,ae (ar ns),cu sets,.lit (.slice none 0 0)],qy x]) (v':=.lit (.bool (jz g ns x))) aK rfl (fun i hi _=>?_) (OP g hg ns sets x hin hsm hx1 hx2 cF _ ⟨_,rfl,.lit _⟩)).mono ?_
 ·match i,hi with
  | 0,_ =>
   refine .agg rfl fun i hi _=>?_
   match i,hi with
   | 0,_=>exact .lit _
   | 1,_=>exact qA _
   | 2,_ =>
    have:=Fz.qz (nx:=0) h2 (n:=ns.length) (by rw[aS,bR]) (fun c hc=>by
     obtain⟨z,_,rfl⟩:=PQ.1 hc;exact⟨_,rfl⟩)
    show Fz _ _ _ _ (.vec (ar ns).length (ints (ar ns)));rw[bR];exact this
   | 3,_ =>
    have:=Fz.qz (nx:=0) h3 (n:=ns.length) (by simp [hs]) (fun c hc=>by
     obtain⟨z,_,rfl⟩:=PQ.1 hc;exact⟨_,rfl⟩)
    show Fz _ _ _ _ (.vec sets.length (sets.map aV));rw[hs];exact this
   | 4,_=>exact .lit _
  | 1,_ =>
   refine .agg rfl fun i hi _=>?_
   match i,hi with
   | 0,_=>exact .lit _
   | 1,_=>exact .dm _
   | 2,_=>exact .ay _
 ·rintro r H' ⟨rfl,rfl⟩;exact hK
theorem OY {ns:List NodeP}{k:Nat}{x:NodeP}(hx:ns[k]?=some x)(h0:∀ q∈x.parents,0<=q)(hm:(k:Int)∈x.parents):¬ kQ (bu ns):=fun h=>by
 have hk:=get_lt (oF hx);have:=h k hk;rw[bH (oF hx)]at this;have h1:=w9 (bu ns) (bu ns).length (dH x.parents) k (by rw[mn h0];exact QL hm);unfold fw at this;rw[h1]at this;cases this
set_option maxHeartbeats 4000000 in
theorem OZ (g:Int)(ns:List NodeP)(hf:fM ns)(H:AHeap)(K:ARes->AHeap->Prop)(hK:K (.ret (if fy g ns then .tup [xz g ns,aa 0] else .tup [xw,aa 50])) H):ab Try.prog G0 86 [aG g ns] H K:=by
 refine ab.clo ⟨_,Try.func86,rfl,rfl⟩ fun hcl=>?_;have no:¬ NetOk g ns->∀ H',Over H H'->av Try.prog G0 H K (.tup [.agg [.lit (.int .i64 0),.lit (.slice none 0 0),.lit (.slice none 0 0),.lit (.slice none 0 0),.lit (.slice none 0 0)],.lit (.int .i64 50)]) H':=fun h H' ov=>by
  rw[Cl h]at hK;refine av.bq (v':=.tup [xw,aa 50]) aK hcl ov (.tup rfl fun i hi _=>?_) hK
  match i,hi with
  | 0,_ =>
   refine .agg rfl fun i hi _=>?_
   match i,hi with
   | 0,_=>exact .lit _
   | 1,_=>exact .nil
   | 2,_=>exact .nil
   | 3,_=>exact .nil
   | 4,_=>exact .nil
  | 1,_=>exact .lit _
 refine ab.aZ (n:=140) (rs:=[.cell 2 145,.tmp 3]) Try.func86 rfl rfl rfl (by decide) (by kernel_rfl) (by simp) ?_;simp only[go_sem,aG,cf];have l1:=aj (cD H (.arr 0 35 [.lit (.int .i64 g),.vec ns.length (aq ns)]) [.arr 0 145 [.lit (.int .i64 0),.lit (.slice none 0 0),.lit (.slice none 0 0),.lit (.slice none 0 0),.lit (.slice none 0 0)]]);by_cases c1:g<1
 ·simp only[go_sem,c1];exact no (fun h=>by have:=h.g1;omega) _ (.ext _ _)
 by_cases c2:g > 60
 ·simp only[go_sem,l1,c1,c2];exact no (fun h=>by have:=h.g1;omega) _ (.ext _ _)
 by_cases c3:(ns.length:Int)<1
 ·simp only[go_sem,l1,c1,c2,c3];exact no (fun h=>by have:=h.n1;omega) _ (.ext _ _)
 by_cases c4:(ns.length:Int) > 8
 ·simp only[go_sem,l1,c1,c2,c3,c4];exact no (fun h=>by have:=h.n1;omega) _ (.ext _ _)
 simp only[go_sem,l1,c1,c2,c3,c4];refine W.draw 11 [0,0,2,6,14,0,32,96,224,511,0] Try.mixed (by kernel_rfl) (by kernel_rfl) ?_;simp only[go_sem,l1]
 repeat (refine And.intro (by first|omega|(simp;done)|(simp;omega)|(intros;omega)|exact⟨rfl,by omega,by omega,nt _⟩) ?_)
 obtain⟨Hb,hHb⟩:∃ Hb,Hb=ext (ext H [.arr 0 35 [.lit (.int .i64 g),.vec ns.length (aq ns)],.arr 0 145 [.lit (.int .i64 0),.lit (.slice none 0 0),.lit (.slice none 0 0),.lit (.slice none 0 0),.lit (.slice none 0 0)],.arr 0 3 (List.replicate ns.length (.lit (.int .i64 0))),.arr 0 45 (List.replicate ns.length (.lit (.int .u64 0)))]) [.arr 0 145 [.lit (.int .i64 g),.vec ns.length (aq ns),.own (H.next+2) 0 0 ns.length 1,.own (H.next+3) 0 0 ns.length 1,.lit (.slice none 0 0)]]:=⟨_,rfl⟩
 rw[<- hHb];have R0:RdS g ns H Hb (List.replicate ns.length 0) (List.replicate ns.length 0):=by
  rw[hHb,i9];exact⟨by simp [bb],.ext _ _,cD ..,aY H _ 1 (by simp),by rw[aY H _ 2 (by simp)];simp [ints,aa],by rw[aY H _ 3 (by simp)];simp [aV],aY H _ 4 (by simp),by simp,by simp⟩
 have hcard:∀ {k:Nat},(∀ x∈ns.take k,1<=x.card/\x.card<=4)->dC ((ar ns).take k):=fun {k} h=>mz (by simp [ar];omega) fun c hc=>by
  rw[show (ar ns).take k=ar (ns.take k) by simp [ar]]at hc;obtain⟨y,hy,rfl⟩:=PQ.1 hc;exact h y hy
 refine W.aN 37778930737057254867176 (by rfl) (fun ρ H'=>∃ (k:Nat) (c:List Int),ρ 50=aa k/\k<=ns.length/\ρ 5=aa (au ((ar ns).take k))/\RdS g ns H H' c (List.replicate ns.length 0)/\Hb.next<=H'.next/\c.take k=(ar ns).take k/\∀ x∈ns.take k,1<=x.card/\x.card<=4) (fun ρ H=>ns.length - (iv (ρ 50)).toNat) ?_ ?_
 ·simp only[go_sem];exact⟨0,_,rfl,by omega,by simp [eY],R0,by simp⟩
 rintro ρ H' ⟨k,c,h50,hk,h5,R,hn,hc,hall⟩;refine W.vs ?_;have q0:=R.l0;have q1:=R.l1;have q2:=R.l2;have q4:=R.l4;have rn:=R.nx;by_cases hb:(k:Int)<ns.length
 ·obtain⟨x,hx⟩:=get_of_lt (l:=ns) (i:=k) (by omega);have hxm:=Pq hx;have hne:=fI hx;have e0:=oo hx;have e1:k*3+3<=(aq ns).length:=by rw[hU];omega
  have R2:=R.over (.ext H' [.arr 0 69 [.lit (.int .i64 x.card),.vec x.parents.length (ints x.parents),ay x.rows]]);have p1:=R2.l1;have p2:=R2.l2;have p4:=R2.l4;have nb1:¬ H.next+1=H'.next:=by omega
  have nb2:¬ H.next+2=H'.next:=by omega
  have nb4:¬ H.next+4=H'.next:=by omega
  by_cases d1:x.card<1
  ·simp only[go_sem,h50,p1,hb,hne,e0,e1,d1];exact no (fun h=>by have:=(h.node x hxm).1;omega) _ (R2.ov.upd (by omega) _)
  by_cases d2:x.card > 4
  ·simp only[go_sem,h50,p1,hb,hne,e0,e1,d1,d2];exact no (fun h=>by have:=(h.node x hxm).1;omega) _ (R2.ov.upd (by omega) _)
  have hall':∀ y∈ns.take (k+1),1<=y.card/\y.card<=4:=fun y hy=>by
   rw[aO hx]at hy;rcases PK.1 hy with hy|hy
   ·exact hall y hy
   ·obtain rfl:=List.mem_singleton.1 hy;exact⟨by omega,by omega⟩
  have b2:=(hcard hall').prod;rw[aO (cQ hx),fq]at b2;have w1:=Ps ((k:Int)+1) (by omega);have w2:=Ps (au ((ar ns).take k)*x.card) (by omega);have hkc:k<c.length:=by rw[R.cl];omega
  have p0:∀ b,((ext H' [.arr 0 69 [.lit (.int .i64 x.card),.vec x.parents.length (ints x.parents),ay x.rows]]).upd (H.next+2) b).live H'.next 0=some (69,[.lit (.int .i64 x.card),.vec x.parents.length (ints x.parents),ay x.rows]):=fun b=>by
   rw[iq (by omega)];exact aj cJ
  simp only[go_sem,h50,h5,p2,p4,p0,hb,hne,e0,e1,d1,d2,w1,w2];exact⟨by omega,by rw[aC,bb];omega,⟨k+1,_,by simp,by omega,by rw[aO (cQ hx),fq],R2.OV hkc x.card,by rw[aC,bb];omega,Pe hc hkc (cQ hx),fun y hy=>hall' y hy⟩,by omega⟩
 have ek:k=ns.length:=by omega
 subst ek;rw[Pw (Nat.le_refl _)]at hall;rw[Pw (by rw[bR];omega)]at h5;have ec:c=ar ns:=by
  rw[Pw (by rw[R.cl];omega),Pw (by rw[bR];omega)]at hc;exact hc
 subst ec;by_cases c5:au (ar ns) > 1024
 ·simp only[go_sem,h50,h5,q1,hb,c5];exact no (fun h=>by have:=h.size;omega) _ (R.ov.upd (by omega) _)
 simp only[go_sem,h50,h5,q4,hb,c5];refine W.aN 340282366920933627760096148915069392648 (by rfl) (fun ρ' H2=>∃ (k:Nat) (s:List Nat),ρ' 82=aa k/\k<=ns.length/\RdS g ns H H2 (ar ns) s/\H'.next<=H2.next/\s.take k=(bu ns).take k/\(∀ j,k<=j->s.getD j 0=0)/\∀ x∈ns.take k,c9 x.parents ns.length/\gp g ns x) (fun ρ' H=>ns.length - (iv (ρ' 82)).toNat) ?_ ?_
 ·simp only[go_sem];refine⟨0,_,rfl,by omega,R,rfl,fun j _=>?_,by simp⟩;rw[Pz,R9];split<;>rfl
 rintro ρ' H2 ⟨k,s,h82,hk2,R2,hn2,hs,hs0,hall2⟩;refine W.vs ?_;have r2:=R2.nx;have q4:=R2.l4;by_cases hb2:(k:Int)<ns.length;rotate_left
 ·have es:s=bu ns:=by
   rw[Pw (by rw[R2.sl];omega),Pw (by simp [bu];omega)]at hs;exact hs
  subst es;rw[Pw (by omega)]at hall2;have hlt:∀ p∈bu ns,p<2 ^ ns.length:=tH fun x hx q hq=>(hall2 x hx).1.2 q hq;have hsl:(bu ns).length=ns.length:=by simp [bu]
  have hlt64:∀ p∈bu ns,p<2 ^ 64:=fun p hp=>PE (hlt p hp) (PJ (by decide) (by omega));have hto:=BK (ps:=bu ns) (by rw[hsl];exact hlt) (by omega);simp only[go_sem,h82,q4,hb2];have fzs:=Fz.qz (nx:=0) R2.b3 (n:=ns.length) (by simp [R2.sl]) (fun c hc=>by
   obtain⟨z,_,rfl⟩:=PQ.1 hc;exact⟨_,rfl⟩)
  refine az.clo (OU (bu ns) (by omega) hlt64 _ _ (by show Fz _ _ _ _ (.vec (bu ns).length _);rw[hsl];exact fzs) _ ⟨trivial,?_⟩);have q1:=R2.l1;cases hso:(el (bu ns)).isSome
  ·simp only[go_sem,q1];exact no (fun h=>by rw[hto.2 h.acyc]at hso;cases hso) _ (R2.ov.upd (by omega) _)
  have hok:NetOk g ns:=⟨by omega,by omega,fun x hx=>⟨hall x hx,(hall2 x hx).1⟩,by omega,hto.1 hso,fun x hx=>(hall2 x hx).2⟩
  rw[xq hok]at hK;have q1b:∀ b,(H2.upd (H.next+4) b).live (H.next+1) 0=_:=fun b=>(iq (by omega)).trans q1;simp only[go_sem,q1b,q4];have ovf:Over H ((H2.upd (H.next+4) (.arr 0 145 [.lit (.int .i64 g),.vec ns.length (aq ns),.own (H.next+2) 0 0 ns.length 1,.own (H.next+3) 0 0 ns.length 1,.vec (fa ((el (bu ns)).getD [])).length (ints (fa ((el (bu ns)).getD [])))])).upd (H.next+1) (.arr 0 145 [.lit (.int .i64 g),.vec ns.length (aq ns),.own (H.next+2) 0 0 ns.length 1,.own (H.next+3) 0 0 ns.length 1,.vec (fa ((el (bu ns)).getD [])).length (ints (fa ((el (bu ns)).getD [])))])):=(R2.ov.upd (by omega) _).upd (by omega) _;refine av.bq (v':=.tup [xz g ns,aa 0]) aK hcl ovf (.tup rfl fun i hi _=>?_) hK
  match i,hi with
  | 1,_=>exact .lit _
  | 0,_ =>
   refine .agg rfl fun i hi _=>?_
   match i,hi with
   | 0,_=>exact .lit _
   | 1,_=>exact qA _
   | 2,_ =>
    have hg2:∀ b b',((H2.upd (H.next+4) b).upd (H.next+1) b').get (H.next+2)=some (.arr 0 3 (ints (ar ns))):=fun b b'=>by rw[ag,Pt (by omega),ag,Pt (by omega)];exact R2.b2
    show Fz _ _ _ (.own (H.next+2) 0 0 ns.length 1) (.vec (ar ns).length (ints (ar ns)));rw[<- bR ns];exact .ints (by show H.next<=_;omega) (hg2 _ _) (by simp) fun i hi=>by simp [fU,hi]
   | 3,_ =>
    have hg3:∀ b b',((H2.upd (H.next+4) b).upd (H.next+1) b').get (H.next+3)=some (.arr 0 45 ((bu ns).map aV)):=fun b b'=>by rw[ag,Pt (by omega),ag,Pt (by omega)];exact R2.b3
    show Fz _ _ _ (.own (H.next+3) 0 0 ns.length 1) (.vec (bu ns).length ((bu ns).map aV));rw[<- hsl];refine .frz (by show H.next<=_;omega) (hg3 _ _) (by simp) fun j hj h2 h'=>?_;simp only[Nat.zero_add,PB];exact .lit _
   | 4,_=>exact .dm _
 obtain⟨x,hx⟩:=get_of_lt (l:=ns) (i:=k) (by omega);have hxm:=Pq hx;have hne:=fI hx;have e0:=oo hx;have e1:k*3+3<=(aq ns).length:=by rw[hU];omega
 obtain⟨f1,f2,f3⟩:=hf.2 x hxm;simp only[go_sem,h82,hb2,hne,e0,e1];obtain⟨H3,hH3⟩:∃ H3,H3=ext H2 [.arr 0 69 [.lit (.int .i64 x.card),.vec x.parents.length (ints x.parents),ay x.rows]]:=⟨_,rfl⟩
 have R3:RdS g ns H H3 (ar ns) s:=by rw[hH3];exact R2.over (.ext _ _)
 have nn:H3.next=H2.next+1:=by rw[hH3];rfl
 have gN:H3.get H2.next=some (.arr 0 69 [.lit (.int .i64 x.card),.vec x.parents.length (ints x.parents),ay x.rows]):=by rw[hH3];exact cJ
 rw[<- hH3];have hks:k<s.length:=by rw[R2.sl];omega
 have s0:s.set k 0=s:=by
  apply Qf;intro i;rw[Rp];split
  ·rename_i h;subst h;have:=hs0 k (Nat.le_refl _);rw[Pz,Pr hks]at this;simp only[Option.getD_some]at this;rw[Pr hks,this]
  ·rfl
 refine W.aN 5316911981901723452329847966222259208 (by rfl) (fun ρ2 H4=>∃ (j:Nat) (b:Int),ρ2 90=aa j/\j<=x.parents.length/\ρ2 10=aa b/\c9 (x.parents.take j) ns.length/\(x.parents.take j).getLast?.getD (-1)=b/\RdS g ns H H4 (ar ns) (s.set k (dH (x.parents.take j)))/\H3.next<=H4.next/\H4.get H2.next=some (.arr 0 69 [.lit (.int .i64 x.card),.vec x.parents.length (ints x.parents),ay x.rows])/\¬ (k:Int)∈x.parents.take j)
  (fun ρ2 H=>x.parents.length - (iv (ρ2 90)).toNat) ?_ ?_
 ·simp only[go_sem];exact⟨0,-1,rfl,by omega,rfl,.nil,rfl,by rw[show dH (x.parents.take 0)=0 from rfl,s0];exact R3,gN,by simp⟩
 rintro ρ2 H4 ⟨j,b,h90,hj,h10,hp,hbl,R4,hn4,gN4,hself⟩;refine W.vs ?_;have r4:=R4.nx;have t1:=R4.l1;have t3:=R4.l3;have t4:=R4.l4;have tN:=aj gN4;by_cases hb3:(j:Int)<x.parents.length
 ·obtain⟨a,ha⟩:=get_of_lt (l:=x.parents) (i:=j) (by omega);have ham:=Pq ha;have hane:=aL ha;by_cases d1:a<=b
  ·simp only[go_sem,h90,h10,hb3,ha,hane,d1,t1];refine no (fun h=>?_) _ (R4.ov.upd (by omega) _);have hpl:=(h.node x hxm).2;have h0:=hpl.2 a ham;rcases RW j with rfl|hk0
   ·simp at hbl;omega
   ·obtain⟨i,rfl⟩:∃ i,j=i+1:=⟨j - 1,by omega⟩
    obtain⟨b',hbj⟩:=get_of_lt (l:=x.parents) (i:=i) (by omega);rw[xk hbj]at hbl;have:=hpl.lt hbj ha (by omega);simp at hbl;omega
  by_cases d2:a >= ns.length
  ·simp only[go_sem,h90,h10,hb3,ha,hane,d1,d2,t1,t4];exact no (fun h=>by have:=(h.node x hxm).2.2 a ham;omega) _ (R4.ov.upd (by omega) _)
  have h0:0<=a:=by
   rcases hg:(x.parents.take j).getLast? with _|b'
   ·rw[hg]at hbl;simp at hbl;omega
   ·rw[hg]at hbl;have:=hp.2 b' (List.mem_of_getLast? hg);simp at hbl;omega
  by_cases d3:a=k
  ·have d1':¬ (k:Int)<=b:=(by omega);have d2':¬ (k:Int) >= ns.length:=(by omega);simp only[go_sem,h90,h10,hb3,ha,hane,d1',d2',d3,t1,t4];exact no (fun h=>OY hx (fun q hq=>((h.node x hxm).2.2 q hq).1) (by rw[<- d3];exact ham) h.acyc) _ (R4.ov.upd (id:=H.next+1) (by omega) _)
  obtain⟨u,rfl⟩:=PM h0;have w1:=Ps ((j:Int)+1) (by omega);have bm:dH (x.parents.take j)<2 ^ 64:=w6 fun p hp'=>by have:=hp.2 p hp';omega
  have v1:=fun t x y=>xB (P:=Try.prog) (t:=t) (x:=x) (y:=y) (k':=.i64) (s:=u) (by omega);have v2:=fun t x y=>tO (P:=Try.prog) (t:=t) (x:=x) (y:=y) (b:=2 ^ u) bm (RL (by decide) (by omega));have gs:(s.set k (dH (x.parents.take j)))[k]?=some (dH (x.parents.take j)):=PF hks;simp only[go_sem,h90,h10,hb3,ha,hane,d1,d2,d3,t4];refine W.draw 7 [0,1,0,7,15,0,32] Try.mixed (by kernel_rfl) (by kernel_rfl) ?_;simp only[go_sem,h90,hb2,t3,t4,gs,v1,v2,w1]
  repeat (refine And.intro (by first|omega|(simp;done)|(simp;omega)|(intros;omega)|exact⟨rfl,by omega,by omega,nt _⟩) ?_)
  have R5:=R4.OW (k:=k) (by simpa using hks) (dH (x.parents.take j) ||| 2 ^ u);rw[RF]at R5;have esn:dH (x.parents.take (j+1))=dH (x.parents.take j) ||| 2 ^ u:=by rw[aO ha,BE];rfl
  refine⟨by rw[aC];omega,⟨j+1,u,by simp,by omega,rfl,?_,by rw[xk ha];rfl,by rw[esn];exact R5,by rw[aC];omega,by rw[ag,Pt (by omega)];exact gN4,fun hm=>?_⟩,by omega⟩
  ·rw[aO ha];exact hp.snoc ⟨by omega,by omega⟩ fun b' hb'=>by rw[hb']at hbl;simp at hbl;omega
  ·rw[aO ha]at hm;rcases PK.1 hm with hm|hm
   ·exact hself hm
   ·exact d3 (List.mem_singleton.1 hm).symm
 ·have hb3':=hb3;rw[Pw (by omega)]at hp hself R4;simp only[go_sem,h90,hb3,t4,tN];have hin:im x.parents ns.length:=fun q hq=>by have:=hp.2 q hq;omega
  refine az.clo (OX g ⟨by omega,by omega⟩ ns _ x hin (tG (by omega) hp hall) f2 f3 _ (H.next+2) (H.next+3) R4.b2 R4.b3 R4.sl _ ⟨trivial,?_⟩);cases hnb:jz g ns x
  ·simp only[go_sem,t1];exact no (fun h=>by rw[Cq (h.rows x hxm)]at hnb;cases hnb) _ (R4.ov.upd (by omega) _)
  have w1:=Ps ((k:Int)+1) (by omega);simp only[go_sem,h82,w1];refine⟨by omega,⟨k+1,_,by simp,by omega,R4,by omega,?_,fun i hi=>?_,fun y hy=>?_⟩,by omega⟩
  ·have h1:=oF hx;rw[aO h1,aO (PF hks),Rx (Nat.le_refl k),hs]
  ·rw[Pz,PO (by omega),<- Pz];exact hs0 i (by omega)
  ·rw[aO hx]at hy;rcases PK.1 hy with hy|hy
   ·exact hall2 y hy
   ·obtain rfl:=List.mem_singleton.1 hy;exact⟨hp,OO.1 hnb⟩
theorem O0 (g:Int)(ns:List NodeP)(hf:fM ns)(H:AHeap)(K:ARes->AHeap->Prop)(hK:K (.ret (aa (if fy g ns then 0 else 50))) H):ab Try.prog G0 68 [aG g ns] H K:=by
 refine ab.clo ⟨_,Try.func68,rfl,rfl⟩ fun hcl=>?_;refine ab.aZ (n:=11) (rs:=[.tmp 2]) Try.func68 rfl rfl rfl (by decide) (by kernel_rfl) (by simp) ?_;simp only[go_sem,aG,cf];refine az.clo (OZ g ns hf _ _ ⟨trivial,?_⟩);cases hb:fy g ns
 ·rw[hb]at hK;simp only[go_sem,xw,List.length_nil];exact av.bq aK hcl (.ext _ _) (.lit _) hK
 ·rw[hb]at hK;simp only[go_sem,xz,cf];exact av.bq aK hcl (.ext _ _) (.lit _) hK
def BL (D v:Nat):List Nat := (List.range v).filter fun v => D.testBit v
def BM (D v:Nat):Nat := (BL D v).length
def xc (d:InfP):List Nat := BL d.decs d.nodes.length
def NS (g card x:Int):List Int := (List.replicate card.toNat 0).set x.toNat g
def BN (ns:List NodeP)(x:NodeP):Nat := (au (bh ns x)).toNat
def NT (g:Int)(ns:List NodeP)(c:Nat -> Nat -> Int)(p:Nat)(x:NodeP):List (List Int) := (List.range (BN ns x)).map fun r => NS g x.card (c p r)
def NU (d:InfP)(c:Nat -> Nat -> Int)(k v:Nat)(x:NodeP):NodeP := if d.decs.testBit v = true /\ BM d.decs v < k then { x with rows := x.rows ++ NT d.grain d.nodes c (BM d.decs v) x } else x
def NV (d:InfP)(c:Nat -> Nat -> Int)(k:Nat):List NodeP := d.nodes.zipIdx.map fun p => NU d c k p.2 p.1
def NW (d:InfP)(c:Nat -> Nat -> Int):List NodeP := NV d c (xc d).length
structure RightN (d:InfP):Prop where
 n1:1<=d.nodes.length/\d.nodes.length<=8
 decs:d.decs >>> d.nodes.length=0
 card:∀ x∈d.nodes,1<=x.card/\x.card<=4
 dec:∀ v x,d.nodes[v]?=some x->d.decs.testBit v=true->x.rows=[]/\c9 x.parents d.nodes.length
structure InfFit (d:InfP):Prop where
 nodes:fM d.nodes
 decs:d.decs<2 ^ 64
 utils:(d.utils.length:Int)<2 ^ 38/\∀ u∈d.utils,(u.vars.length:Int)<2 ^ 38/\(u.w.length:Int)<2 ^ 38
end Go.Proofs
namespace Go.Hx
variable {P:Program} {G:Nat->Option (List AVal)}
def AHeap.dD (H:AHeap)(rk ob:Nat)(b:Blk):AHeap:=⟨fun id=>if id=rk then none else if id=ob then some b else H.get id,H.next⟩
theorem Pg {H:AHeap}(hc:Clo H){rk ob g:Nat}{e:TypeId}{cells cells':List AVal}(hob:H.get ob=some (.arr g e cells))(hne:ob≠rk)(hl:cells'.length=cells.length)
  (hcell:∀ i (h:i<cells.length) (h':i<cells'.length),Fz (fun id=>id=rk) H H.next cells[i] cells'[i]):FzH (fun id=>id=rk) H (H.dD rk ob (.arr g e cells')) where
 gone id hs:=by simp [AHeap.dD,hs]
 kept id b hs hb:=by
  have hbb:=hc.below id b hb;refine⟨hc.lt id b hb,?_⟩;by_cases h:id=ob
  ·subst h;rw[hob]at hb;cases hb;exact⟨.arr g e cells',by simp [AHeap.dD,hs],rfl,rfl,hl,hcell⟩
  ·refine⟨b,by simp [AHeap.dD,hs,h,hb],?_⟩;cases b with
   | rsv=>trivial
   | mp=>rfl
   | arr g e cells=>exact⟨rfl,rfl,rfl,fun i h _=>.dead (hbb i h)⟩
   | loop st pend n env ps asg body=>exact⟨rfl,rfl,rfl,rfl,rfl,rfl,rfl,fun t ht=>.dead (hbb t ht)⟩
 none id hs hb:=by
  by_cases h:id=ob
  ·subst h;rw[hob]at hb;cases hb
  ·simp [AHeap.dD,hs,h,hb]
theorem dh.dD (hG:eD G){s:St}{rk ob g:Nat}{e:TypeId}{cells cells':List AVal}(hob:s.H.get ob=some (.arr g e cells))(hne:ob≠rk)(hl:cells'.length=cells.length)
  (hcell:∀ i (h:i<cells.length) (h':i<cells'.length),Fz (fun id=>id=rk) s.H s.H.next cells[i] cells'[i]):dh P G s ⟨s.ρ,s.H.dD rk ob (.arr g e cells')⟩:=by
 intro n wb Γ a w hs;exact dh.freeze (s:=s) (s':=⟨s.ρ,s.H.dD rk ob (.arr g e cells')⟩) hG (Pg hs.heap.clo hob hne hl hcell) (fun t=>.dead (hs.env t).px) n wb Γ a w hs
theorem tQ {H:AHeap}{rk ob:Nat}{b:Blk}(h:ob≠rk):(H.dD rk ob b).get ob=some b:=by simp [AHeap.dD,h]
theorem qC {H:AHeap}{rk ob id:Nat}{b:Blk}(h:id≠rk)(h2:id≠ob):(H.dD rk ob b).get id=H.get id:=by simp [AHeap.dD,h,h2]
theorem Cy {S:Nat->Prop}{H:AHeap}{nx:Nat}{l:List AVal}{i:Nat}{a b:AVal}(hl:∀ v,v∈l->Fz S H nx v v)(hab:Fz S H nx a b):∀ j (h:j<(l.set i a).length) (h':j<(l.set i b).length),Fz S H nx (l.set i a)[j] (l.set i b)[j]:=by
 intro j h h';rw[Re,Re];split
 ·exact hab
 ·exact hl _ (Qe _)
theorem W.xC {n:Nat}{rd:Option Nat}{Q Q':AX->St->Prop}{c:Code}{s:St}(h:W P G n rd c Q' s)(hw:∀ e s2,Q' e s2->∃ s3,dh P G s2 s3/\s2.H.next<=s3.H.next/\dL s3.H rd/\Q e s3):W P G n rd c Q s:=by
 intro wb Γ a w rb hs hr;refine wpIn_mono (h wb Γ a w rb hs hr) fun e a' w' hp=>?_;obtain⟨x,s',Γ',hx,hq,hrel,E,hn,hrd,hfr⟩:=hp;obtain⟨s3,hw3,hn3,hri,hq3⟩:=hw x s' hq;obtain⟨Γ3,hs3,E3,hrd3⟩:=hw3 n wb Γ' a' w' hrel;exact⟨x,s3,Γ3,hx,hq3,hs3,E.trans hn E3,PY hn hn3,hrd3 rd rb hrd hri,hfr⟩
theorem aA.ne {lo:Nat}{H:AHeap}{e:TypeId}{v:AVal}{cs:List AVal}(h:aA lo H e v cs){k:Nat}(hk:k<lo):∀ g n,v≠.own k g 0 n 1:=fun g n he=>by
 rcases h with ⟨h,_⟩|⟨i2,g2,a1,_,h,_⟩
 ·rw[h]at he;cases he
 ·rw[h]at he;have:=AVal.own.inj he;omega
def dK (lo:Nat)(H:AHeap)(e:TypeId)(z:Nat)(v:AVal)(n:Nat)(cs:List AVal):Prop :=
 (v=.lit (.slice none 0 0)/\n=0/\cs=[])\/∃ id g,lo<=id/\id<H.next/\v=.own id g 0 n z/\cs.length=n*z/\H.get id=some (.arr g e cs)
theorem dK.nil {lo:Nat}{H:AHeap}{e:TypeId}{z:Nat}:dK lo H e z (.lit (.slice none 0 0)) 0 []:=.inl ⟨rfl,rfl,rfl⟩
theorem dK.keep {lo:Nat}{H H':AHeap}{e:TypeId}{z n:Nat}{v:AVal}{cs:List AVal}(h:dK lo H e z v n cs)(hn:H.next<=H'.next)(hk:∀ id g,lo<=id->id<H.next->v=.own id g 0 n z->H'.get id=H.get id):dK lo H' e z v n cs:=by
 rcases h with h|⟨id,g,h1,h2,h3,h4,h5⟩
 ·exact .inl h
 ·exact .inr ⟨id,g,h1,by omega,h3,h4,(hk id g h1 h2 h3).trans h5⟩
theorem dK.over {lo:Nat}{H H':AHeap}{e:TypeId}{z n:Nat}{v:AVal}{cs:List AVal}(h:dK lo H e z v n cs)(ho:Over H H'):dK lo H' e z v n cs:=h.keep ho.next fun id _ _ h2 _=>ho.old id h2
theorem dK.one {lo:Nat}{H:AHeap}{e:TypeId}{z n:Nat}{v:AVal}{cs:List AVal}(h:dK lo H e z v n cs):v.one=true:=by
 rcases h with ⟨rfl,_⟩|⟨_,_,_,_,rfl,_⟩<;>rfl
theorem dK.cells {lo:Nat}{H:AHeap}{e:TypeId}{z n:Nat}{v:AVal}{cs:List AVal}(h:dK lo H e z v n cs):v.cells=[v]:=by
 rcases h with ⟨rfl,_⟩|⟨_,_,_,_,rfl,_⟩<;>rfl
theorem dK.ne {lo:Nat}{H:AHeap}{e:TypeId}{z m:Nat}{v:AVal}{cs:List AVal}(h:dK lo H e z v m cs){k:Nat}(hk:k<lo):∀ g n,v≠.own k g 0 n z:=fun g n he=>by
 rcases h with ⟨h,_⟩|⟨i2,g2,a1,_,h,_⟩
 ·rw[h]at he;cases he
 ·rw[h]at he;have:=AVal.own.inj he;omega
theorem Cz {H:AHeap}{t e:TypeId}{lo n z m:Nat}{v:AVal}{cs xs:List AVal}{zs:List AVal}(ht:P.underlying t=some (.slice e))(hz:P.cellsOf e=z)(hzero:bM P e=some zs)(hx:xs.all AVal.one=true)(hxl:xs.length=z)
  (hb:(n+1)*P.bytesOf e<=2 ^ 46/\n+1<=2 ^ 46) (ho:dK lo H e z v n cs) (hlo:lo<=H.next) (hn:m=H.next+1):
  ∃ v' H',bC P (ext H [.arr 0 e xs]) m t t v (.own H.next 0 0 1 z)=some (v',H')/\dK lo H' e z v' (n+1) (cs++xs)/\H.next<=H'.next/\(∀ k,k<H.next->(∀ g n,v≠.own k g 0 n z)->H'.get k=H.get k):=by
 have hne:(ext H [.arr 0 e xs]).next=H.next+1:=rfl;have hsrc:ct (ext H [.arr 0 e xs]) z (.own H.next 0 0 1 z)=some (1,xs):=by
  unfold ct;have:=aj (H:=ext H [.arr 0 e xs]) (g:=0) (cJ (b:=.arr 0 e xs));simp [this,<- hxl]
 rcases ho with ⟨rfl,rfl,rfl⟩|⟨i,g,h1,h2,rfl,h4,h5⟩
 ·refine⟨.own m 0 0 1 z,ext (ext H [.arr 0 e xs]) [.arr 0 e xs],?_,.inr ⟨m,0,by omega,by rw[bb,hne,hn];simp,by simp,by simp [hxl],?_⟩,by rw[bb,hne];omega,fun k hk _=>?_⟩
  ·unfold bC;rw[ht];simp only[hzero,hz,Option.bind_some];rw[hsrc];simp only[Option.bind_some];rw[Pt (by decide),Pv (by simpa using hb),rE (by rw[hn,hne])];rfl
  ·rw[hn,<- hne];exact cJ
  ·rw[eF (by rw[hne];omega),eF hk]
 ·have h5':(ext H [.arr 0 e xs]).get i=some (.arr g e cs):=by rw[eF h2];exact h5
  refine⟨.own i (g+1) 0 (n+1) z,(ext H [.arr 0 e xs]).upd i (.arr (g+1) e (cs++xs)),?_,.inr ⟨i,g+1,h1,by rw[aC,hne];omega,rfl,by simp [h4,hxl,P6],by rw[ag,Pv rfl]⟩,by rw[aC,hne];omega,fun k hk hne2=>?_⟩
  ·unfold bC;rw[ht];have hl:=aj h5';simp only[hzero,hz,Option.bind_some];rw[hsrc];simp only[Option.bind_some,hl];rw[Pv ⟨trivial,trivial,by omega,hb.1,hb.2,hx⟩];simp
  ·rw[ag,Pt,eF hk];rintro rfl;exact hne2 _ _ rfl
end Go.Hx
namespace Go.Proofs
open Go.Hx
def bp (x:NodeP):AVal:=if x.rows=[] then .lit (.slice none 0 0) else ay x.rows
def NodeP.jN (x:NodeP):List AVal:=[aa x.card,ae x.parents,bp x]
def fJ (l:List NodeP):List AVal:=(l.map NodeP.jN).flatten
theorem mq (l:List NodeP):(fJ l).length=l.length*3:=kL (f:=NodeP.jN) (fun _=>rfl) l
theorem BO {l:List NodeP}{i:Nat}{x:NodeP}(h:l[i]?=some x):(fJ l)[i*3]?=some (aa x.card):=jx (f:=NodeP.jN) (z:=3) (fun _=>rfl) l i 0 x h (by omega)
theorem NX {l:List NodeP}{i:Nat}{x:NodeP}(h:l[i]?=some x):(fJ l)[i*3+1]?=some (ae x.parents):=jx (f:=NodeP.jN) (z:=3) (fun _=>rfl) l i 1 x h (by omega)
theorem NY {l:List NodeP}{i:Nat}{x:NodeP}(h:l[i]?=some x):(fJ l)[i*3+2]?=some (bp x):=jx (f:=NodeP.jN) (z:=3) (fun _=>rfl) l i 2 x h (by omega)
theorem BP (l:List NodeP)(x:NodeP):fJ (l++[x])=fJ l++[aa x.card,ae x.parents,bp x]:=by unfold fJ;simp [NodeP.jN]
theorem BQ {x:NodeP}(h:x.rows≠[]):bp x=ay x.rows:=Pt h
theorem NZ {S:Nat->Prop}{H:AHeap}{nx:Nat}(x:NodeP):Fz S H nx (bp x) (ay x.rows):=by
 unfold bp;split
 ·rename_i h;rw[h];exact .nil
 ·exact .ay _
theorem N0 {S:Nat->Prop}{H:AHeap}{nx:Nat}(x:NodeP):Fz S H nx (bp x) (bp x):=by
 unfold bp;split
 ·exact .lit _
 ·exact .ay _
theorem N1 {S:Nat->Prop}{H:AHeap}{nx:Nat}(l:List NodeP):∀ c∈fJ l,Fz S H nx c c:=by
 intro c hc;unfold fJ at hc;obtain⟨r,hr,hc⟩:=RI.1 hc;obtain⟨x,_,rfl⟩:=PQ.1 hr;unfold NodeP.jN at hc;simp only[List.mem_cons,List.not_mem_nil,or_false]at hc;rcases hc with rfl|rfl|rfl
 ·exact .lit _
 ·exact .dm _
 ·exact N0 x
structure NodesQ (e:Nat->Prop)(ns:List NodeP)(cs:List AVal):Prop where
 len:cs.length=ns.length*3
 node:∀ (v:Nat) (x:NodeP),ns[v]?=some x->∃ rv,cs[v*3]?=some (aa x.card)/\cs[v*3+1]?=some (ae x.parents)/\cs[v*3+2]?=some rv/\(rv=ay x.rows\/rv=bp x)/\(e v->rv=bp x)
theorem NodesQ.c0 {e:Nat->Prop}{ns:List NodeP}{cs:List AVal}(h:NodesQ e ns cs){v:Nat}{x:NodeP}(hx:ns[v]?=some x):cs[v*3]?=some (aa x.card):=(h.node v x hx).elim fun _ h=>h.1
theorem NodesQ.c1 {e:Nat->Prop}{ns:List NodeP}{cs:List AVal}(h:NodesQ e ns cs){v:Nat}{x:NodeP}(hx:ns[v]?=some x):cs[v*3+1]?=some (ae x.parents):=(h.node v x hx).elim fun _ h=>h.2.1
theorem NodesQ.ne {e:Nat->Prop}{ns:List NodeP}{cs:List AVal}(h:NodesQ e ns cs){v:Nat}{x:NodeP}(hx:ns[v]?=some x):¬ cs=[]:=fun he=>by
 have:=h.c0 hx;rw[he]at this;simp at this
theorem NodesQ.part {e:Nat->Prop}{ns:List NodeP}{cs:List AVal}(h:NodesQ e ns cs){v:Nat}{x:NodeP}(hx:ns[v]?=some x):∃ rv,(cs.drop (v*3)).take 3=[aa x.card,ae x.parents,rv]/\cs[v*3+2]?=some rv/\(rv=ay x.rows\/rv=bp x)/\(e v->rv=bp x):=by
 obtain⟨rv,a,b,c,d,f⟩:=h.node v x hx;refine⟨rv,?_,c,d,f⟩;have h3:=get_lt c;rw[Qc (by omega),Qc (by omega),Qc (by omega)];simp only[List.take_succ_cons,List.take_zero];rw[Pr (by omega)]at a b c;rw[Option.some.inj a,Option.some.inj b,Option.some.inj c]
theorem NodesQ.nil {e:Nat->Prop}:NodesQ e [] []:=⟨rfl,fun v x hx=>by simp at hx⟩
theorem NodesQ.snoc {e:Nat->Prop}{ns:List NodeP}{cs:List AVal}(h:NodesQ e ns cs){x:NodeP}{rv:AVal}(h1:rv=ay x.rows\/rv=bp x)(h2:e ns.length->rv=bp x):NodesQ e (ns++[x]) (cs++[aa x.card,ae x.parents,rv]):=by
 have hl:=h.len;refine⟨by simp [hl];omega,fun v y hy=>?_⟩;by_cases hv:v<ns.length
 ·rw[PN hv]at hy;obtain⟨r,a,b,c,d⟩:=h.node v y hy;exact⟨r,by rw[PN (by omega)];exact a,by rw[PN (by omega)];exact b,by rw[PN (by omega)];exact c,d⟩
 ·have:v=ns.length:=by have:=get_lt hy;simp at this;omega
  subst this;rw[PI (by omega),Q7]at hy;cases hy;refine⟨rv,?_,?_,?_,h1,h2⟩
  ·rw[PI (by omega),show ns.length*3 - cs.length=0 by omega];rfl
  ·rw[PI (by omega),show ns.length*3+1 - cs.length=1 by omega];rfl
  ·rw[PI (by omega),show ns.length*3+2 - cs.length=2 by omega];rfl
theorem NodesQ.mono {e e':Nat->Prop}{ns:List NodeP}{cs:List AVal}(h:NodesQ e ns cs)(he:∀ v,e' v->e v):NodesQ e' ns cs:=⟨h.len,fun v x hx=>by
 obtain⟨r,a,b,c,d,f⟩:=h.node v x hx;exact⟨r,a,b,c,d,fun h=>f (he v h)⟩⟩
theorem NodesQ.N2 {e:Nat->Prop}{ns:List NodeP}{cs:List AVal}(h:NodesQ e ns cs){S:Nat->Prop}{H:AHeap}{nx:Nat}:∀ (i:Nat) (h1:i<cs.length) (h2:i<(aq ns).length),Fz S H nx cs[i] (aq ns)[i]:=by
 intro i h1 h2;have hb:i / 3<ns.length:=by rw[h.len]at h1;omega
 obtain⟨x,hx⟩:=get_of_lt hb;obtain⟨rv,a,b,c,d,_⟩:=h.node _ x hx;have hp:i=(i / 3)*3+i % 3:=by omega
 have g1:cs[i]?=some cs[i]:=Pr h1;have g2:(aq ns)[i]?=some (aq ns)[i]:=Pr h2;generalize cs[i]=u at g1 ⊢;generalize (aq ns)[i]=w at g2 ⊢;have c3:i % 3=0\/i % 3=1\/i % 3=2:=by omega
 rcases c3 with c0|c0|c0
 ·rw[hp,c0,Nat.add_zero,a]at g1;rw[hp,c0,Nat.add_zero,jS hx]at g2;cases g1;cases g2;exact .lit _
 ·rw[hp,c0,b]at g1;rw[hp,c0,kM hx]at g2;cases g1;cases g2;exact .dm _
 ·rw[hp,c0,c]at g1;rw[hp,c0,qj hx]at g2;cases g1;cases g2;rcases d with d|d<;>rw[d]
  ·exact .ay _
  ·exact NZ x
theorem kX {α:Type}{l:List α}{i:Nat}{x:α}(h:l[i]?=some x):l.set i x=l:=by
 apply Qf;intro j;rw[Rp];split
 ·rename_i hj;subst hj;rw[Pv (get_lt h),h]
 ·rfl
structure UtilOk (ns:List NodeP)(u:UtilP):Prop where
 vars:c9 u.vars ns.length
 size:(u.w.length:Int)=au (bd (ar ns) u.vars)
 w:∀ x∈u.w,-100<=x/\x<=100
def OB (d:InfP):Prop:=d.utils.length<=4/\∀ u∈d.utils,UtilOk d.nodes u
structure InfOk (d:InfP):Prop where
 n:RightN d
 net:NetOk d.grain (NW d fun _ _=>0)
 utils:OB d
structure PolOk (d:InfP)(p:List (List Int)):Prop where
 len:p.length=(xc d).length
 row:∀ (k v:Nat) (x:NodeP) (l:List Int),(xc d)[k]?=some v->d.nodes[v]?=some x->p[k]?=some l->l.length=BN d.nodes x/\∀ a∈l,0<=a/\a<x.card
end Go.Proofs
namespace Go.Hx
variable {P:Program} {G:Nat->Option (List AVal)} {n:Nat} {rd:Option Nat} {Q:AX->St->Prop}
def tR (N:Nat)(H1 H2:AHeap):Prop:=H1.next<=H2.next/\∀ id,id≠N->id<H1.next->H2.get id=H1.get id
end Go.Hx
namespace Go.Proofs
open Go.Hx
def gh (ns:List NodeP)(x:NodeP)(vals:List Int):List Int:=x.rows.getD (eH (bh ns x) (bd vals x.parents)).toNat []
def eZ (ns:List NodeP)(vals:List Int)(v:Nat):Int:=match ns[v]? with
 | some x=>(gh ns x vals).getD (vals.getD v 0).toNat 0
 | none=>1
def eb (ns:List NodeP)(vals:List Int):List Int:=(List.range ns.length).map (eZ ns vals)
def weight (ns:List NodeP)(vals:List Int):Int:=au (eb ns vals)
def mr (ns:List NodeP):Nat:=(au (ar ns)).toNat
theorem qm (ns:List NodeP)(vals:List Int):(eb ns vals).length=ns.length:=by simp [eb]
theorem tx {ns:List NodeP}{vals:List Int}{v:Nat}(h:v<ns.length):(eb ns vals)[v]?=some (eZ ns vals v):=by
 unfold eb;rw[List.getElem?_map,Rc h];rfl
theorem xh {ns:List NodeP}{x:NodeP}{vals:List Int}(hin:im x.parents ns.length)(hf:cL (ar ns) vals):cL (bh ns x) (bd vals x.parents):=by
 refine⟨by unfold bh;rw[iP,iP],fun k c v h1 h2=>?_⟩;obtain⟨q,hq⟩:=get_of_lt (l:=x.parents) (i:=k) (by have:=get_lt h2;rw[iP]at this;exact this);obtain⟨j,rfl,y,hy⟩:=mm (l:=ns) (hin q (Pq hq)).1 (hin q (Pq hq)).2;obtain⟨b,hb⟩:=get_of_lt (l:=vals) (i:=j) (by rw[hf.1,bR];exact get_lt hy);have e1:(bh ns x)[k]?=some y.card:=by rw[show (bh ns x)[k]?=_ from qw hq,Int.toNat_natCast,bH (cQ hy)]
 have e2:(bd vals x.parents)[k]?=some b:=by rw[qw hq,Int.toNat_natCast,bH hb]
 rw[h1]at e1;rw[h2]at e2;cases e1;cases e2;exact hf.2 j y.card _ (cQ hy) hb
structure RowAtW (g:Int)(ns:List NodeP)(x:NodeP)(vals:List Int)(v:Nat)(i:Nat)(r:List Int)(a w:Int):Prop where
 idx:eH (bh ns x) (bd vals x.parents)=i
 row:x.rows[i]?=some r
 val:vals[v]?=some a
 a0:0<=a
 hw:r[a.toNat]?=some w
 wb:0<=w/\w<=g
 eq:eZ ns vals v=w
 rv:gh ns x vals=r
 len:(r.length:Int)=x.card
 al:a<r.length
theorem tE {g:Int}{ns:List NodeP}(h:NetOk g ns){v:Nat}{x:NodeP}(hx:ns[v]?=some x){vals:List Int}(hf:cL (ar ns) vals):∃ i r a w,RowAtW g ns x vals v i r a w:=by
 have hxm:=Pq hx;have hin:im x.parents ns.length:=fun q hq=>by have:=(h.node x hxm).2.2 q hq;omega
 have hr:=qk (xh hin hf);obtain⟨r1,r2⟩:=h.rows x hxm;obtain⟨i,hi⟩:=PM hr.1;obtain⟨r,hrr⟩:=get_of_lt (l:=x.rows) (i:=i) (by rw[<- r1,hi]at hr;omega);obtain⟨s1,s2,s3⟩:=r2 r (Pq hrr);obtain⟨a,ha⟩:=get_of_lt (l:=vals) (i:=v) (by rw[hf.1,bR];exact get_lt hx);have hb:=hf.2 v x.card a (cQ hx) ha;obtain⟨w,hw⟩:=get_of_lt (l:=r) (i:=a.toNat) (by omega);have rv:gh ns x vals=r:=by unfold gh;rw[hi,Int.toNat_natCast,bH hrr]
 exact⟨i,r,a,w,hi,hrr,ha,hb.1,hw,s2 w (Pq hw),by unfold eZ;rw[hx];simp only;rw[rv,bH ha,bH hw],rv,s1,by omega⟩
theorem OC (k:Nat)(h:k<=8):(60:Int) ^ k<=167961600000000:=by
 have h1:(60:Nat) ^ k<=60 ^ 8:=PJ (by decide) h;have h2:(60:Nat) ^ 8=167961600000000:=by decide
 rw[h2]at h1;have h3:=Int.ofNat_le.2 h1;rw[Sm]at h3;exact h3
theorem xi {g:Int}{ns:List NodeP}(h:NetOk g ns){vals:List Int}(hf:cL (ar ns) vals)(k:Nat):0<=au ((eb ns vals).take k)/\au ((eb ns vals).take k)<=167961600000000:=by
 have hb:∀ w∈eb ns vals,0<=w/\w<=60:=fun w hw=>by
  obtain⟨v,hv,rfl⟩:=PQ.1 hw;obtain⟨x,hx⟩:=get_of_lt (PU.1 hv);obtain⟨i,r,a,w,hR⟩:=tE h hx hf;rw[hR.eq];have:=hR.wb;have:=h.g1;omega
 have h1:=kO (b:=60) (by omega) (l:=(eb ns vals).take k) fun x hx=>hb x (PW hx);have h2:=OC ((eb ns vals).take k).length (by have:=h.n1;rw[PC,qm];omega);omega
set_option maxHeartbeats 1000000 in
theorem Oy (cs:List Int)(h1:∀ c∈cs,1<=c)(hs:dC cs)(i0:Int)(hi:0<=i0/\i0<=4611686018427387904)(H:AHeap)(K:ARes->AHeap->Prop)(hK:K (.ret (ae (cj cs i0))) H):ab Try.prog G0 80 [ae cs,aa i0] H K:=by
 refine ab.clo ⟨_,Try.func80,rfl,rfl⟩ fun hcl=>?_;have h12:=hs.1;have w0:=Ps ((cs.length:Int) - 1) (by omega);refine ab.aZ (n:=33) (rs:=[.tmp 4]) Try.func80 rfl rfl rfl (by decide) (by kernel_rfl) (by simp) ?_;simp only[go_sem,w0];refine⟨by omega,?_⟩;refine W.aN 4294959170 (by rfl) (fun ρ H'=>∃ m:Nat,ρ 6=aa ((m:Int) - 1)/\m<=cs.length/\OwnI H H' H.next (List.replicate m 0++cj (cs.drop m) i0)/\ρ 1=aa (i0 / au (cs.drop m))) (fun ρ H=>(iv (ρ 6)+1).toNat) ?_ ?_
 ·simp only[go_sem];refine⟨cs.length,rfl,by omega,?_,?_⟩
  ·rw[RJ,show cj [] i0=[] from rfl,List.append_nil];exact .new [] _
  ·rw[RJ,eY,Int.ediv_one]
 rintro ρ H' ⟨m,h6,hm,ho,h1'⟩;refine W.en (fun E=>E 0=.vec cs.length (ints cs) /\ E 1=aa (i0 / au (cs.drop m)) /\ E 5=.own H.next 0 0 cs.length 1 /\ E 6=aa ((m:Int) - 1)) (by simp only[go_sem,h1',h6]) fun E ⟨e0,e1,e5,e6⟩=>?_
 refine W.vs ?_;have lN:=ho.live;have clen:(List.replicate m 0++cj (cs.drop m) i0).length=cs.length:=by simp [kP];omega
 by_cases hm0:m=0
 ·subst hm0;have e6':E 6=aa (-1):=e6;simp only[go_sem,e6',e5];exact ho.fin hcl clen.symm hK
 ·obtain⟨k,rfl⟩:∃ k,m=k+1:=⟨m - 1,by omega⟩
  have e6':E 6=aa k:=by rw[e6];congr 1;omega
  obtain⟨c,hck⟩:=get_of_lt (l:=cs) (i:=k) (by omega);have hne:=aL hck;have c1:=h1 c (Pq hck);have hcz:¬ c=0:=by omega
  have hk0:(k:Int) >= 0:=by omega
  have hkc:(k:Int)<cs.length:=by omega
  have pp:1<=au (cs.drop (k+1)):=hZ fun c hc=>h1 c (QB hc);have q0:0<=i0 / au (cs.drop (k+1)):=RD hi.1 (by omega);have q1:i0 / au (cs.drop (k+1))<=i0:=RK _ hi.1;have m1:(i0 / au (cs.drop (k+1))).tmod c=i0 / au (cs.drop (k+1)) % c:=PP q0;have m2:(i0 / au (cs.drop (k+1))).tdiv c=i0 / au (cs.drop (k+1)) / c:=Qu q0;have m3:0<=i0 / au (cs.drop (k+1)) / c:=RD q0 (by omega);have m4:i0 / au (cs.drop (k+1)) / c<=i0 / au (cs.drop (k+1)):=RK _ q0;have w1:=Ps ((k:Int) - 1) (by omega);have w2:=Ps (i0 / au (cs.drop (k+1)) / c) (by omega);simp only[go_sem,e0,e1,e5,e6',hk0,hkc,lN,hck,hne,hcz,m1,m2,w1,w2];refine⟨by rw[<- List.length_append,clen];omega,by have:=ho.hi;rw[aC];omega,⟨k,rfl,by omega,?_,?_⟩,by rw[h6];simp only[aa,aW];omega⟩
  ·have:=ho.store (k:=k) (by rw[clen];omega) (i0 / au (cs.drop (k+1)) % c);rw[show (List.replicate (k+1) (0:Int)++cj (cs.drop (k+1)) i0).set k (i0 / au (cs.drop (k+1)) % c)=List.replicate k 0++cj (cs.drop k) i0 by
    rw[BB hck,RM,List.append_assoc,Qg _ _ (by simp)];simp]at this
   exact this
  ·rw[ie hck,gf,QM c,SL (by omega)]
theorem Ce (g:Int)(ns:List NodeP)(h8:ns.length<=8)(hc:∀ y∈ns,1<=y.card/\y.card<=4)(i0:Int)(hi:0<=i0/\i0<=4611686018427387904)(H:AHeap)(K:ARes->AHeap->Prop)(hK:K (.ret (ae (cj (ar ns) i0))) H):ab Try.prog G0 58 [aG g ns,aa i0] H K:=by
 refine ab.clo ⟨_,Try.func58,rfl,rfl⟩ fun hcl=>?_;have hcards:∀ c∈ar ns,1<=c/\c<=4:=fun c h=>by
  obtain⟨x,hx,rfl⟩:=PQ.1 h;exact hc x hx
 have sm:dC (ar ns):=mz (by rw[bR];omega) hcards;refine ab.aZ (n:=9) (rs:=[.tmp 4]) Try.func58 rfl rfl rfl (by decide) (by kernel_rfl) (by simp) ?_;simp only[go_sem,aG,cf];refine az.clo (oE g ns (by omega) _ _ ⟨trivial,?_⟩);simp only[go_sem];refine az.clo (Oy (ar ns) (fun c h=>(hcards c h).1) sm i0 hi _ _ ⟨trivial,?_⟩);simp only[go_sem];exact av.drop aK hcl (.dm _) hK
theorem Cf (g:Int)(ns:List NodeP)(h8:ns.length<=8)(hc:∀ y∈ns,1<=y.card/\y.card<=4)(H:AHeap)(K:ARes->AHeap->Prop)(hK:K (.ret (aa (au (ar ns)))) H):ab Try.prog G0 59 [aG g ns] H K:=by
 refine ab.clo ⟨_,Try.func59,rfl,rfl⟩ fun hcl=>?_;have hcards:∀ c∈ar ns,1<=c/\c<=4:=fun c h=>by
  obtain⟨x,hx,rfl⟩:=PQ.1 h;exact hc x hx
 have sm:dC (ar ns):=mz (by rw[bR];omega) hcards;refine ab.aZ (n:=6) (rs:=[.tmp 2]) Try.func59 rfl rfl rfl (by decide) (by kernel_rfl) (by simp) ?_;simp only[go_sem,aG,cf];refine az.clo (oE g ns (by omega) _ _ ⟨trivial,?_⟩);simp only[go_sem];refine az.clo (xj (ar ns) sm _ _ ⟨trivial,?_⟩);simp only[go_sem];exact av.drop aK hcl (.lit _) hK
end Go.Proofs
namespace Go.Hx
open Go.Proofs (get_lt get_of_lt)
variable {P:Program} {H:AHeap} {G:Nat->Option (List AVal)}
def dy (lo:Nat)(H:AHeap)(e1 e0:TypeId)(v:AVal)(rows:List (List AVal)):Prop :=
 ∃ cs:List AVal,aA lo H e1 v cs/\cs.length=rows.length/\(∀ (j:Nat) (r:List AVal) (c:AVal),rows[j]?=some r->cs[j]?=some c->aA lo H e0 c r)/\∀ (i j a g g' n n':Nat),cs[i]?=some (.own a g 0 n 1)->cs[j]?=some (.own a g' 0 n' 1)->i=j
theorem dy.nil {lo:Nat}{e1 e0:TypeId}:dy lo H e1 e0 (.lit (.slice none 0 0)) []:=⟨[],.nil,rfl,fun j r c h=>by simp at h,fun i j a g g' n n' h=>by simp at h⟩
theorem dy.qt {lo:Nat}{e1 e0:TypeId}{v:AVal}{rows:List (List AVal)}(h:dy lo H e1 e0 v rows):gY lo H e1 e0 v rows :=
 let ⟨cs,a,b,c,_⟩:=h;⟨cs,a,b,c⟩
theorem dy.lo {lo lo':Nat}{e1 e0:TypeId}{v:AVal}{rows:List (List AVal)}(h:dy lo H e1 e0 v rows)(hl:lo'<=lo):dy lo' H e1 e0 v rows :=
 let ⟨cs,a,b,c,d⟩:=h;⟨cs,a.keep hl (Nat.le_refl _) fun _ _ _ _ _ _=>rfl,b,fun j r q h1 h2=>(c j r q h1 h2).keep hl (Nat.le_refl _) fun _ _ _ _ _ _=>rfl,d⟩
theorem dy.app {Hx:AHeap}{lo n:Nat}{e1 e0:TypeId}{v x:AVal}{rows:List (List AVal)}{r:List AVal}{t:TypeId}{z:List AVal}(ht:P.underlying t=some (.slice e1))(hz:P.cellsOf e1=1)(hzero:bM P e1=some z)(hby:P.bytesOf e1=24)(hne:e1≠e0)
  (hb:rows.length<2 ^ 40) (h:dy lo Hx e1 e0 v rows) (ho:Over Hx H) (hlo:lo<=Hx.next) (hx:aA Hx.next H e0 x r) (hn:n=H.next+1):
  ∃ v' H',bC P (ext H [.arr 0 e1 [x]]) n t t v (.own H.next 0 0 1 1)=some (v',H')/\dy lo H' e1 e0 v' (rows++[r])/\H.next<=H'.next/\(∀ k,k<H.next->k<lo->H'.get k=H.get k):=by
 obtain⟨cs,h1,h2,h3,h4⟩:=h;have hon:=ho.next;have h1':=h1.over ho;obtain⟨v',H',hA,hO,hL,hp⟩:=jc (P:=P) (t:=t) ht hz hzero hx.one (by rw[hby,h2];omega) h1' (by omega) hn;have key:∀ lo' u l,aA lo' H e0 u l->aA lo' H' e0 u l:=fun lo' u l hu=>h1'.uR hu hne hL hp;have split:∀ (j:Nat) (c:AVal),(cs++[x])[j]?=some c->(j<cs.length/\cs[j]?=some c)\/(j=cs.length/\c=x):=fun j c hc=>by
  rcases PR j cs.length with hj|hj
  ·rw[PN hj]at hc;exact .inl ⟨hj,hc⟩
  ·have:=get_lt hc;rw[List.length_append,QY]at this;have hj:j=cs.length:=(by omega);subst hj;rw[PI (Nat.le_refl _),Q7]at hc;exact .inr ⟨rfl,(Option.some.inj hc).symm⟩
 have old:∀ (j a g m:Nat),cs[j]?=some (.own a g 0 m 1)->a<Hx.next:=fun j a g m hc=>by
  obtain⟨r',hr'⟩:∃ r',rows[j]?=some r':=⟨_,Pr (by rw[<- h2];exact get_lt hc)⟩
  rcases h3 j r' _ hr' hc with ⟨e,_⟩|⟨i,g',_,b,e,_⟩
  ·cases e
  ·rw[(AVal.own.inj e).1];exact b
 have new:∀ a g m,x=.own a g 0 m 1->Hx.next<=a:=fun a g m he=>by
  rcases hx with ⟨e,_⟩|⟨i,g',b,_,e,_⟩
  ·rw[e]at he;cases he
  ·rw[e]at he;rw[<- (AVal.own.inj he).1];exact b
 refine⟨v',H',hA,⟨cs++[x],hO,by simp [h2],fun j r' c hr hc=>?_,fun i j a g g' m m' hi hj=>?_⟩,hL,fun k hk hkl=>hp k hk (h1.ne hkl)⟩
 ·rcases split j c hc with ⟨a,b⟩|⟨a,b⟩
  ·rw[PN (by omega)]at hr;exact key _ _ _ ((h3 j r' c hr b).over ho)
  ·rw[a,h2,PI (Nat.le_refl _),Q7]at hr;cases hr;rw[b];exact key _ _ _ (hx.keep hlo (Nat.le_refl _) fun _ _ _ _ _ _=>rfl)
 ·rcases split i _ hi with ⟨a1,b1⟩|⟨a1,b1⟩<;>rcases split j _ hj with ⟨a2,b2⟩|⟨a2,b2⟩
  ·exact h4 i j a g g' m m' b1 b2
  ·have:=old i a g m b1;have:=new a g' m' b2.symm;omega
  ·have:=old j a g' m' b2;have:=new a g m b1.symm;omega
  ·omega
theorem dy.row {lo:Nat}{e1 e0:TypeId}{v:AVal}{rows:List (List AVal)}(h:dy lo H e1 e0 v rows)(hne:e1≠e0){k:Nat}{r:List AVal}(hr:rows[k]?=some r)(h0:r≠[]):
  ∃ idt gt idr gr cells,v=.own idt gt 0 rows.length 1/\H.get idt=some (.arr gt e1 cells)/\cells.length=rows.length/\lo<=idt/\idt<H.next/\cells[k]?=some (.own idr gr 0 r.length 1)/\H.get idr=some (.arr gr e0 r)/\lo<=idr/\idr<H.next /\
   ∀ r':List AVal,r'.length=r.length->dy lo (H.upd idr (.arr gr e0 r')) e1 e0 v (rows.set k r'):=by
 obtain⟨cs,h1,h2,h3,h4⟩:=h;have hk:=get_lt hr;obtain⟨c,hc⟩:=get_of_lt (l:=cs) (i:=k) (by omega);rcases h3 k r c hr hc with ⟨_,e⟩|⟨idr,gr,a1,a2,e,a4⟩
 ·exact absurd e h0
 rcases h1 with ⟨_,e'⟩|⟨idt,gt,b1,b2,e',b4⟩
 ·rw[e']at h2;simp at h2;omega
 subst e;have hit:idt≠idr:=fun e=>by rw[e,a4]at b4;cases b4;exact hne rfl
 refine⟨idt,gt,idr,gr,cs,by rw[e',h2],b4,h2,b1,b2,hc,a4,a1,a2,fun r' hl=>⟨cs,.inr ⟨idt,gt,b1,by rw[aC];exact b2,e',by rw[ag,Pt hit];exact b4⟩,by rw[Py];exact h2,fun j q c' hj hc'=>?_,h4⟩⟩;by_cases e:j=k
 ·subst e;rw[PF hk]at hj;rw[hc]at hc';cases hj;cases hc';exact .inr ⟨idr,gr,a1,by rw[aC];exact a2,by rw[hl],by rw[ag,Pv rfl]⟩
 ·rw[PO (fun h=>e h.symm)]at hj;refine(h3 j q c' hj hc').keep (Nat.le_refl _) (by rw[aC];exact Nat.le_refl _) fun i g _ _ _ hv=>?_;rw[ag,Pt];rintro rfl;rw[hv]at hc';exact e (h4 j k i g gr _ _ hc' hc)
theorem dh.Om (hG:eD G){s:St}{n t0:Nat}{v':AVal}(hv:Fz (fun id=>n<=id) s.H s.H.next (s.ρ t0) v'):dh P G s ⟨fun t=>if t=t0 then v' else s.ρ t,s.H.cut n⟩:=by
 intro m wb Γ a w hs;refine dh.freeze (s:=s) (s':=⟨fun t=>if t=t0 then v' else s.ρ t,s.H.cut n⟩) hG (zl hs.heap.clo n) (fun t=>?_) m wb Γ a w hs;by_cases h:t=t0
 ·subst h;simp only[if_true];exact hv
 ·simp only[h,if_false];exact .dead (hs.env t).px
end Go.Hx
namespace Go.Proofs
open Go.Hx
theorem qu {S:Nat->Prop}{lo nx:Nat}{H:AHeap}{e1 e0:TypeId}{v:AVal}{ps:List (List Int)}(h:gY lo H e1 e0 v (ps.map ints))(hS:∀ i,lo<=i->S i):Fz S H nx v (ay ps):=by
 have:=h.fz (S:=S) (nx:=nx) (rows':=ps.map ints) hS rfl fun j r r' h1 h2=>by
  rw[h1]at h2;cases h2;refine⟨rfl,fun i hi _=>?_⟩;rw[List.getElem?_map]at h1;obtain⟨z,_,rfl⟩:=an.1 h1;have e0:(ints z)[i]?=some (ints z)[i]:=Pr hi;generalize (ints z)[i]=a at e0 ⊢;rw[fU]at e0;obtain⟨b,_,rfl⟩:=an.1 e0;exact .lit _
 rw[Px,RZ]at this;have e:(ps.map ((fun r:List AVal=>AVal.vec r.length r) ∘ ints))=ps.map ae:=P9 fun z _=>by simp [Function.comp,ae,aS]
 rw[e]at this;exact this
set_option maxHeartbeats 1000000 in
theorem K4 (cs:List Int)(h1:∀ c∈cs,1<=c)(hs:dC cs)(i0:Int)(hi:0<=i0/\i0<=4611686018427387904)(H:AHeap)(K:ARes->AHeap->Prop)(hK:∀ v H',Over H H'->aA H.next H' 3 v (ints (cj cs i0))->K (.ret v) H'):ab Try.prog G0 80 [ae cs,aa i0] H K:=by
 refine ab.clo ⟨_,Try.func80,rfl,rfl⟩ fun hcl=>?_;have h12:=hs.1;have w0:=Ps ((cs.length:Int) - 1) (by omega);refine ab.aZ (n:=33) (rs:=[.tmp 4]) Try.func80 rfl rfl rfl (by decide) (by kernel_rfl) (by simp) ?_;simp only[go_sem,w0];refine⟨by omega,?_⟩;refine W.aN 4294959170 (by rfl) (fun ρ H'=>∃ m:Nat,ρ 6=aa ((m:Int) - 1)/\m<=cs.length/\OwnI H H' H.next (List.replicate m 0++cj (cs.drop m) i0)/\ρ 1=aa (i0 / au (cs.drop m))) (fun ρ H=>(iv (ρ 6)+1).toNat) ?_ ?_
 ·simp only[go_sem];refine⟨cs.length,rfl,by omega,?_,?_⟩
  ·rw[RJ,show cj [] i0=[] from rfl,List.append_nil];exact .new [] _
  ·rw[RJ,eY,Int.ediv_one]
 rintro ρ H' ⟨m,h6,hm,ho,h1'⟩;refine W.en (fun E=>E 0=.vec cs.length (ints cs) /\ E 1=aa (i0 / au (cs.drop m)) /\ E 5=.own H.next 0 0 cs.length 1 /\ E 6=aa ((m:Int) - 1)) (by simp only[go_sem,h1',h6]) fun E ⟨e0,e1,e5,e6⟩=>?_
 refine W.vs ?_;have lN:=ho.live;have clen:(List.replicate m 0++cj (cs.drop m) i0).length=cs.length:=by simp [kP];omega
 by_cases hm0:m=0
 ·subst hm0;have e6':E 6=aa (-1):=e6;simp only[go_sem,e6',e5];refine av.mk ho.ov.next (hK _ _ ho.ov (.inr ⟨H.next,0,Nat.le_refl _,ho.hi,?_,ho.get⟩));rw[aS,kP]
 ·obtain⟨k,rfl⟩:∃ k,m=k+1:=⟨m - 1,by omega⟩
  have e6':E 6=aa k:=by rw[e6];congr 1;omega
  obtain⟨c,hck⟩:=get_of_lt (l:=cs) (i:=k) (by omega);have hne:=aL hck;have c1:=h1 c (Pq hck);have hcz:¬ c=0:=by omega
  have hk0:(k:Int) >= 0:=by omega
  have hkc:(k:Int)<cs.length:=by omega
  have pp:1<=au (cs.drop (k+1)):=hZ fun c hc=>h1 c (QB hc);have q0:0<=i0 / au (cs.drop (k+1)):=RD hi.1 (by omega);have q1:i0 / au (cs.drop (k+1))<=i0:=RK _ hi.1;have m1:(i0 / au (cs.drop (k+1))).tmod c=i0 / au (cs.drop (k+1)) % c:=PP q0;have m2:(i0 / au (cs.drop (k+1))).tdiv c=i0 / au (cs.drop (k+1)) / c:=Qu q0;have m3:0<=i0 / au (cs.drop (k+1)) / c:=RD q0 (by omega);have m4:i0 / au (cs.drop (k+1)) / c<=i0 / au (cs.drop (k+1)):=RK _ q0;have w1:=Ps ((k:Int) - 1) (by omega);have w2:=Ps (i0 / au (cs.drop (k+1)) / c) (by omega);simp only[go_sem,e0,e1,e5,e6',hk0,hkc,lN,hck,hne,hcz,m1,m2,w1,w2];refine⟨by rw[<- List.length_append,clen];omega,by have:=ho.hi;rw[aC];omega,⟨k,rfl,by omega,?_,?_⟩,by rw[h6];simp only[aa,aW];omega⟩
  ·have:=ho.store (k:=k) (by rw[clen];omega) (i0 / au (cs.drop (k+1)) % c);rw[show (List.replicate (k+1) (0:Int)++cj (cs.drop (k+1)) i0).set k (i0 / au (cs.drop (k+1)) % c)=List.replicate k 0++cj (cs.drop k) i0 by
    rw[BB hck,RM,List.append_assoc,Qg _ _ (by simp)];simp]at this
   exact this
  ·rw[ie hck,gf,QM c,SL (by omega)]
theorem K5 (g:Int)(ns:List NodeP)(h8:ns.length<=8)(hc:∀ y∈ns,1<=y.card/\y.card<=4)(i0:Int)(hi:0<=i0/\i0<=4611686018427387904)(H:AHeap)(K:ARes->AHeap->Prop)(hK:∀ v H',Over H H'->aA H.next H' 3 v (ints (cj (ar ns) i0))->K (.ret v) H'):ab Try.prog G0 58 [aG g ns,aa i0] H K:=by
 refine ab.clo ⟨_,Try.func58,rfl,rfl⟩ fun hcl=>?_;have hcards:∀ c∈ar ns,1<=c/\c<=4:=fun c h=>by
  obtain⟨x,hx,rfl⟩:=PQ.1 h;exact hc x hx
 have sm:dC (ar ns):=mz (by rw[bR];omega) hcards;refine ab.aZ (n:=9) (rs:=[.tmp 4]) Try.func58 rfl rfl rfl (by decide) (by kernel_rfl) (by simp) ?_;simp only[go_sem,aG,cf];refine az.clo (oE g ns (by omega) _ _ ⟨trivial,?_⟩);simp only[go_sem];refine az.clo (K4 (ar ns) (fun c h=>(hcards c h).1) sm i0 hi _ _ fun v H2 ov hO=>⟨trivial,?_⟩);have vo:=hO.one;have vc:=hO.cells;simp only[go_sem];have o2:Over H H2:=(Over.ext _ _).trans ov;exact av.mk o2.next (hK _ _ o2 (hO.keep (by simp [bb]) (Nat.le_refl _) fun _ _ _ _ _ _=>rfl))
end Go.Proofs
namespace Go.Hx
variable {P:Program} {G:Nat->Option (List AVal)} {n:Nat} {rd:Option Nat} {Q:AX->St->Prop}
def Av (P:Program)(G:Nat->Option (List AVal))(f:FuncId)(first cap:List AVal)(xs:List (List AVal))(N:Nat)(S0:AHeap->Prop)(S:Nat->AHeap->Prop):Prop :=
 ∀ (idy:Nat) (J:Nat->AHeap->Prop) (H:AHeap) (K:ARes->AHeap->Prop),H.next=N ->
  (∀ k H1,J k H1->S0 H1)->(∀ k H1 H2,J k H1->tR (N+1) H1 H2->J k H2)->J 0 H ->
  (∀ k x H1 K1,xs[k]?=some x->J k H1->S k H1->N+4<=H1.next->(∀ H',J (k+1) H'->(∀ id,N<=id->id<N+4->H'.get id=H1.get id)->H1.next<=H'.next->K1 (.ret (.lit (.bool true))) H')->az P G (.yld idy) x H1 K1) ->
  (∀ H',J xs.length H'->N<=H'.next->K (.ret (.tup [])) H') ->
  ab P G f (first++[.yld idy]++cap) H K
theorem W.KC {g:Operand}{ps:Array Tmp}{asg body:Code}{ρ:Env}{H:AHeap}{f:FuncId}{first cap:List AVal}{xs:List (List AVal)}{S0:AHeap->Prop}{S:Nat->AHeap->Prop}(hg:ah G ρ g=.clo f first cap)
  (hit:Av P G f first cap xs (H.next+1) S0 S) (J:Nat->AHeap->Prop) (hS:∀ k H1,J k H1->S0 H1) (hJw:∀ k H1 H2,J k H1->tR (H.next+2) H1 H2->J k H2) (hlow:∀ k H1,J k H1->H.next<H1.next)
  (hJu:∀ k H1 b,J k H1->J k (H1.upd H.next b))
  (hJ0:∀ b,J 0 (ext H [b])) (hps:ps.toList.all (fun t=>decide (t<n))=true) (hxl:∀ x∈xs,x.length=ps.size)
  (hrd:∀ k H1,J k H1->dL H1 rd)
  (hround:∀ k x H1 B Bb,xs[k]?=some x->J k H1->S k H1->H.next+5<=H1.next->H1.get H.next=some B->(∃ st pd n' en ps' as' bo,Bb=Blk.loop st pd n' en ps' as' bo) ->
   W P G n (some H.next) asg (tP P G n H.next B Bb H1.next body (fun H'=>J (k+1) H'/\∀ id,H.next+1<=id->id<H.next+5->H'.get id=H1.get id) fun _ _=>False) ⟨ki (eE ρ n) (ps.toList.zip x),H1⟩)
  (hend:∀ H',J xs.length H'->H.next+1<=H'.next->Q .normal ⟨ρ,H'⟩):
  W P G n rd (.rangeFunc g ps asg body) Q ⟨ρ,H⟩:=by
 refine W.rangeFunc (s:=⟨ρ,H⟩) hg ⟨_,q8 _ _,?_⟩;obtain⟨B,hB⟩:∃ B,B=Blk.loop .ready none n ρ ps asg body:=⟨_,rfl⟩
 obtain⟨Bb,hBb⟩:∃ B,B=Blk.loop .busy none n ρ ps asg body:=⟨_,rfl⟩
 have nx:(ext H [B]).next=H.next+1:=rfl;show ab P G f (first++[.yld H.next]++cap) (ext H [Blk.loop .ready none n ρ ps asg body]) (ru rd Q ρ H.next);rw[<- hB];refine hit H.next (fun k H1=>H1.get H.next=some B/\J k H1) _ _ nx
  (fun k H1 h=>hS k H1 h.2) (fun k H1 H2 h hw=>⟨(hw.2 _ (by omega) (hlow _ _ h.2)).trans h.1,hJw _ _ _ h.2 hw⟩) ⟨cJ,hJ0 B⟩ (fun k x H1 K1 hx hj hs hn hgo=>?_) (fun H' hj hn=>?_)
 ·have hxm:=hxl x (Pq hx);refine az.yld (hj.1.trans (congrArg some hB)) hxm hps ?_;refine(hround k x H1 B Bb hx hj.2 hs (by omega) hj.1 ⟨_,_,_,_,_,_,_,hBb⟩).mono fun e s1 h1=>?_;cases e with
  | normal =>
   obtain⟨a1,a2⟩:=h1;refine⟨Bb,by rw[a1,hB,hBb];rfl,?_⟩;refine a2.mono fun e2 s2 h2=>?_;cases e2 with
   | normal =>
    obtain⟨b1,b2,b3,b4⟩:=h2;exact⟨B,by rw[b1,hB,hBb];rfl,hgo _ ⟨by rw[ag,Pv rfl],hJu _ _ _ b3⟩ (fun id i1 i2=>by rw[ag,Pt (by omega)];exact b4 id i1 (by omega)) b2⟩
   | ret=>exact h2.2.2.elim
   | exit i=>exact h2.2.2.elim
   | _=>exact h2.elim
  | _=>exact h1.elim
 ·refine⟨hrd _ _ hj.2,(none,.loop .exhausted none n ρ ps asg body),by rw[hj.1,hB];rfl,?_⟩;exact hend _ (hJu _ _ _ hj.2) hn
end Go.Hx
namespace Go.Proofs
open Go.Hx
def fF:List Int->List (List Int)
 | []=>[[]]
 | c :: cs=>(List.range c.toNat).flatMap fun (a:Nat)=>(fF cs).map fun w=>(a:Int) :: w
theorem Kk {cs:List Int}(h:∀ c∈cs,1<=c)(a i:Int):cj cs (a*au cs+i)=cj cs i:=by
 induction cs generalizing a with
 | nil=>rfl
 | cons c cs ih =>
  have h1:=hZ (l:=cs) fun x hx=>h x (by simp [hx]);have hc:=h c (by simp);have e:a*au (c :: cs)+i=i+a*c*au cs:=by rw[gf];simp only[RC,Sy]
  show _ :: _=_ :: _;rw[e,SP _ _ (by omega),Int.add_mul_emod_self_right];congr 1;rw[Sy];exact ih (fun x hx=>h x (by simp [hx])) _
theorem Kl (m:Nat):∀ c:Nat,List.range (c*m)=(List.range c).flatMap fun a=>(List.range m).map fun j=>a*m+j:=by
 intro c
 induction c with
 | zero=>simp
 | succ c ih=>rw[P6,Nat.one_mul,List.range_add,ih,Qx,Sp];simp
theorem sT {cs:List Int}(h:∀ c∈cs,1<=c):fF cs=(List.range (au cs).toNat).map fun (i:Nat)=>cj cs i:=by
 induction cs with
 | nil=>rfl
 | cons c cs ih =>
  have hr:∀ x∈cs,1<=x:=fun x hx=>h x (by simp [hx]);have hm:=hZ hr;have hc:=h c (by simp);obtain⟨m,e⟩:∃ m:Nat,au cs=m:=⟨(au cs).toNat,by omega⟩
  obtain⟨k,ek⟩:∃ k:Nat,c=k:=⟨c.toNat,by omega⟩
  have e2:(au (c :: cs)).toNat=k*m:=by rw[gf,e,ek];exact Int.toNat_natCast (k*m)
  rw[e2,Kl,List.map_flatMap];unfold fF;rw[ek,Int.toNat_natCast,ih hr,e,Int.toNat_natCast];rw[Sc,Sc];congr 1;refine P9 fun a ha=>?_;rw[RZ,RZ];refine P9 fun j hj=>?_;have ha':=PU.1 ha;have hj':=PU.1 hj;have hv:=Kk hr (a:Int) (j:Int);rw[e]at hv;show _=_ :: _;rw[e];have e3:((a*m+j:Nat):Int)=a*m+j:=by simp
  rw[e3,hv];have e4:((a:Int)*m+j) / (m:Int) % (k:Int)=a:=by rw[Sy,SP _ _ (by omega),SO (by omega) (by omega),Int.zero_add,Int.emod_eq_of_lt (by omega) (by omega)]
  rw[e4];rfl
theorem vW {cs:List Int}(h:∀ c∈cs,1<=c){w:List Int}(hw:w∈fF cs):cL cs w:=by
 rw[sT h]at hw;obtain⟨i,_,rfl⟩:=PQ.1 hw;exact wZ h _
def gG:List Int->List Int->Bool
 | x :: r,y :: vs=>(decide (x<0) || decide (x=y)) && gG r vs
 | _,_=>true
def dp:List Int->List Int->List (List Int)
 | [],_=>[[]]
 | c :: cs,r=>(List.range c.toNat).flatMap fun (a:Nat)=>if r.headD (-1)<0\/r.headD (-1)=(a:Int) then (dp cs r.tail).map fun w=>(a:Int) :: w else []
theorem sU:∀ {cs r:List Int},r.length=cs.length->dp cs r=(fF cs).filter (gG r):=by
 intro cs
 induction cs with
 | nil=>intro r h;cases r with
  | nil=>rfl
  | cons _ _=>simp at h
 | cons c cs ih =>
  intro r h;cases r with
  | nil=>simp at h
  | cons x r =>
   unfold dp fF;rw[List.filter_flatMap,Sc,Sc];congr 1;refine P9 fun a _=>?_;rw[List.filter_map];by_cases hx:x<0\/x=(a:Int)
   ·rw[Pv (by simpa using hx)];have:(gG (x :: r) ∘ fun w=>(a:Int) :: w)=gG r:=by
     funext w
     show (_ && _)=_;have:(decide (x<0) || decide (x=(a:Int)))=true:=(by simpa using hx);rw[this];rfl
    rw[this,<- ih (by simpa using h)];rfl
   ·rw[Pt (by simpa using hx)];have:(gG (x :: r) ∘ fun w=>(a:Int) :: w)=fun _=>false:=by
     funext w
     show (_ && _)=_;have:(decide (x<0) || decide (x=(a:Int)))=false:=(by simpa using hx);rw[this];rfl
    rw[this];simp
theorem Km (l l':List Int):(l++l').sum=l.sum+l'.sum:=Sj
theorem Kn {α:Type}(f:List Int->Int)(l:List α)(g:α->List (List Int)):((l.flatMap g).map f).sum=(l.map fun a=>((g a).map f).sum).sum:=by
 induction l with
 | nil=>rfl
 | cons a l ih=>rw[List.flatMap_cons,Qj,Km,ih];rfl
theorem vX {α:Type}(c:Int)(f:α->Int)(l:List α):(l.map fun a=>c*f a).sum=c*(l.map f).sum:=by
 induction l with
 | nil=>simp
 | cons a l ih=>simp only[List.map_cons,Qd,ih,Rl]
theorem Ko {α:Type}(f g:α->Int)(l:List α):(l.map fun a=>f a+g a).sum=(l.map f).sum+(l.map g).sum:=by
 induction l with
 | nil=>simp
 | cons a l ih=>simp only[List.map_cons,Qd,ih];omega
theorem Kp {α β:Type}(f:α->β->Int)(l:List α)(m:List β):(l.map fun a=>(m.map fun b=>f a b).sum).sum=(m.map fun b=>(l.map fun a=>f a b).sum).sum:=by
 induction l with
 | nil=>simp only[List.map_nil,List.sum_nil];induction m with
  | nil=>rfl
  | cons b m ih=>rw[List.map_cons,Qd,<- ih];rfl
 | cons a l ih=>simp only[List.map_cons,Qd,ih,Ko]
theorem As {α:Type}(c:Int)(l:List α):(l.map fun _=>c).sum=l.length*c:=by
 induction l with
 | nil=>simp
 | cons a l ih=>simp only[List.map_cons,Qd,ih,List.length_cons];rw[show ((l.length+1:Nat):Int)=l.length+1 from rfl,SE];omega
theorem lS {α:Type}{f g:α->Int}{l:List α}(h:∀ a∈l,f a=g a):(l.map f).sum=(l.map g).sum:=by rw[P9 h]
theorem all_cons (c:Int)(cs:List Int)(f:List Int->Int):((fF (c :: cs)).map f).sum=((List.range c.toNat).map fun (a:Nat)=>((fF cs).map fun w=>f ((a:Int) :: w)).sum).sum:=by
 show (((List.range c.toNat).flatMap _).map f).sum=_;rw[Kn];refine lS fun a _=>?_;rw[RZ];rfl
theorem Kq:∀ {cs:List Int} {v:Nat} {c:Int},(∀ c∈cs,1<=c)->cs[v]?=some c->∀ f:List Int->Int,
  ((fF cs).map fun w=>((List.range c.toNat).map fun (a:Nat)=>f (w.set v (a:Int))).sum).sum=c*((fF cs).map f).sum:=by
 intro cs
 induction cs with
 | nil=>intro v c _ h;simp at h
 | cons d cs ih =>
  intro v c h1 h f;rw[all_cons,all_cons];cases v with
  | zero =>
   simp only[List.getElem?_cons_zero,Option.some.injEq]at h;subst h;simp only[List.set_cons_zero];rw[As,QO,Rz (by have:=h1 d (by simp);omega)];congr 1;exact Kp _ _ _
  | succ v =>
   simp only[List.set_cons_succ];rw[<- vX];refine lS fun a _=>?_;exact ih (fun x hx=>h1 x (by simp [hx])) (by simpa using h) fun w=>f ((a:Int) :: w)
def dB (n:Nat)(D:Nat->Bool)(f:Nat->Int):Int:=au ((List.range n).map fun v=>if D v then f v else 1)
theorem vY (n:Nat)(D:Nat->Bool)(f:Nat->Int):dB (n+1) D f=dB n D f*(if D n then f n else 1):=by
 unfold dB;rw[Qx,Qj,wY];simp [gf,eY]
theorem vZ {D D':Nat->Bool}{v:Nat}(f:Nat->Int)(h0:D v=false)(h1:D' v=true)(he:∀ i,i≠v->D' i=D i):∀ n,dB n D' f=if v<n then dB n D f*f v else dB n D f:=by
 intro n
 induction n with
 | zero=>rfl
 | succ n ih =>
  rw[vY,vY,ih];rcases QN v n with h|h|h
  ·rw[Pv h,Pv (show v<n+1 by omega),he n (by omega)];simp only[RC,QM (f v)]
  ·subst h;rw[Pt (show ¬ v<v by omega),Pv (show v<v+1 by omega),h1,h0];simp
  ·rw[Pt (show ¬ v<n by omega),Pt (show ¬ v<n+1 by omega),he n (by omega)]
theorem Kr {n:Nat}{D:Nat->Bool}{f g:Nat->Int}(h:∀ v,v<n->D v=true->f v=g v):dB n D f=dB n D g:=by
 unfold dB;congr 1;refine P9 fun v hv=>?_;split
 ·rename_i hd;exact h v (PU.1 hv) hd
 ·rfl
theorem Ks (n:Nat)(f:Nat->Int):dB n (fun _=>false) f=1:=by
 induction n with
 | zero=>rfl
 | succ n ih=>rw[vY,ih];simp
theorem v9 {n:Nat}{D:Nat->Bool}(h:∀ v,v<n->D v=true)(f:Nat->Int):dB n D f=au ((List.range n).map f):=by
 unfold dB;congr 1;exact P9 fun v hv=>by rw[h v (PU.1 hv)];rfl
theorem Kt (l:List Int):((List.range l.length).map fun i=>l.getD i 0).sum=l.sum:=by
 induction l with
 | nil=>rfl
 | cons a l ih=>rw[List.length_cons,Se,List.map_cons,RZ,Qd,Qd,<- ih];rfl
theorem Ku (n:Nat)(g:Int):au ((List.range n).map fun _=>g)=g ^ n:=by
 induction n with
 | zero=>simp [eY]
 | succ n ih=>rw[Qx,Qj,wY,ih,Sl];simp [gf,eY]
theorem At {w ps:List Int}{v:Nat}{a:Int}(h:∀ p∈ps,p.toNat≠v):bd (w.set v a) ps=bd w ps:=by
 unfold bd;refine P9 fun p hp=>?_;rw[Pz,Pz,PO (Ne.symm (h p hp))]
theorem Au {g:Int}{ns:List NodeP}(h:NetOk g ns){x:NodeP}(hx:x∈ns){w:List Int}(hw:cL (ar ns) w):∃ r,x.rows[(eH (bh ns x) (bd w x.parents)).toNat]?=some r:=by
 have hp:=(h.node x hx).2.2;have hf:cL (bh ns x) (bd w x.parents):=⟨by simp [bh,bd],fun k c b h1 h2=>by
  unfold bh bd at h1;unfold bd at h2;rw[List.getElem?_map]at h1 h2;cases hq:x.parents[k]? with
  | none=>rw[hq]at h1;cases h1
  | some q =>
   rw[hq]at h1 h2;have hr:=hp q (Pq hq);obtain⟨j,rfl,y,hy⟩:=mm (l:=ns) hr.1 hr.2;obtain⟨b',hb⟩:=get_of_lt (l:=w) (i:=j) (by rw[hw.1];have:=get_lt hy;simpa [ar] using this);simp only[Option.map_some,Option.some.injEq,Int.toNat_natCast]at h1 h2;rw[bH (cQ hy)]at h1;rw[bH hb]at h2;rw[<- h1,<- h2];exact hw.2 j y.card b' (cQ hy) hb⟩
 have hr:=qk hf;have hl:=(h.rows x hx).1;exact get_of_lt (by omega)
def kG (g:Int)(ns:List NodeP)(D:Nat->Bool):Prop :=
 dB ns.length D (fun v=>(ar ns).getD v 0)*((fF (ar ns)).map fun w=>dB ns.length D (eZ ns w)).sum=dB ns.length D (fun _=>g)*au (ar ns)
theorem Kv (cs:List Int)(h:∀ c∈cs,1<=c):((fF cs).map fun _=>(1:Int)).sum=au cs:=by
 rw[As,sT h];have:=hZ h;simp;omega
theorem jQ {g:Int}{ns:List NodeP}(h:NetOk g ns):∀ c∈ar ns,1<=c:=fun c hc=>by
 unfold ar at hc;obtain⟨x,hx,rfl⟩:=PQ.1 hc;exact(h.node x hx).1.1
theorem Kw {g:Int}{ns:List NodeP}(h:NetOk g ns){D D':Nat->Bool}{v:Nat}(hv:v<ns.length)(h0:D v=false)(h1:D' v=true)(he:∀ i,i≠v->D' i=D i)
  (hcl:∀ (u:Nat) (x:NodeP),D u=true->ns[u]?=some x->∀ p∈x.parents,D p.toNat=true) (hpa:∀ x,ns[v]?=some x->∀ p∈x.parents,D p.toNat=true) (hs:kG g ns D):kG g ns D':=by
 obtain⟨x,hx⟩:=get_of_lt hv;have hxm:=Pq hx;have hc:=cQ hx;have hc1:=jQ h;unfold kG at hs ⊢;have key:x.card*((fF (ar ns)).map fun w=>dB ns.length D' (eZ ns w)).sum=g*((fF (ar ns)).map fun w=>dB ns.length D (eZ ns w)).sum:=by
  rw[<- Kq hc1 hc,<- vX];refine lS fun w hw=>?_;have hf:=vW hc1 hw;have hl:w.length=ns.length:=by rw[hf.1];simp [ar]
  have e1:∀ a:Nat,dB ns.length D' (eZ ns (w.set v (a:Int)))=dB ns.length D (eZ ns w)*(gh ns x w).getD a 0:=fun a=>by
   rw[vZ _ h0 h1 he,Pv hv];congr 1
   ·refine Kr fun u hu hd=>?_;obtain⟨y,hy⟩:=get_of_lt hu;have huv:v≠u:=fun e=>by rw[e,hd]at h0;cases h0
    unfold eZ gh;rw[hy];dsimp only;rw[At fun p hp e=>by have:=hcl u y hd hy p hp;rw[e,h0]at this;cases this];simp only[Pz,PO huv]
   ·unfold eZ gh;rw[hx];dsimp only;rw[At fun p hp e=>by have:=hpa x hx p hp;rw[e,h0]at this;cases this];congr 1;simp only[Pz,PF (show v<w.length by omega)];rfl
  rw[lS fun a _=>e1 a,vX,QM g];congr 1;obtain⟨r,hr⟩:=Au h hxm hf;have hrow:gh ns x w=r:=by unfold gh;rw[bH hr]
  have ho:=(h.rows x hxm).2 r (Pq hr);rw[hrow,show x.card.toNat=r.length by have:=ho.1;omega,Kt];exact ho.2.2
 rw[vZ _ h0 h1 he,vZ (fun _=>g) h0 h1 he,Pv hv,Pv hv,bH hc,RC,key,<- RC,Int.mul_right_comm,hs];simp only[RC,QM g]
theorem sV (ns:List NodeP):(bu ns).length=ns.length:=by simp [bu]
theorem rj {n s:Nat}(h:n<=cM n s):∀ v,v<n->s.testBit v=true:=by
 have hl:=xa n s;have e:(List.range n).countP (fun i=>s.testBit i)=(List.range n).length:=by rw[QO];exact Nat.le_antisymm hl h
 exact fun v hv=>RG.1 e v (PU.2 hv)
theorem Kx {g:Int}{ns:List NodeP}(h:NetOk g ns):∀ (k:Nat) (out:List Nat) (done:Nat) (r:List Nat),iM (bu ns) k out done=some r->ns.length<=k+cM ns.length done ->
  (∀ (u:Nat) (x:NodeP),done.testBit u=true->ns[u]?=some x->∀ p∈x.parents,done.testBit p.toNat=true)->kG g ns (fun v=>done.testBit v)->kG g ns fun _=>true:=by
 have hp64:∀ p∈bu ns,p<2 ^ 64:=fun p hp=>tH (n:=64) (fun x hx q hq=>by have:=(h.node x hx).2.2 q hq;have:=h.n1;omega) p hp;intro k
 induction k with
 | zero =>
  intro out done r _ hc _ hs;have hf:=rj (n:=ns.length) (s:=done) (by omega);unfold kG at hs ⊢;have e:∀ f,dB ns.length (fun v=>done.testBit v) f=dB ns.length (fun _=>true) f:=fun f=>by
   rw[v9 hf,v9 fun _ _=>rfl]
  rw[e,e,lS fun w _=>e (eZ ns w)]at hs;exact hs
 | succ k ih =>
  intro out done r hr hc hcl hs;unfold iM at hr;cases hn:jT (bu ns) done with
  | none=>rw[hn]at hr;cases hr
  | some v =>
   rw[hn]at hr;obtain⟨h1,h2,h3⟩:=xb hp64 hn;rw[sV]at h1;obtain⟨y,hy⟩:=get_of_lt h1;have hpa:∀ x,ns[v]?=some x->∀ p∈x.parents,done.testBit p.toNat=true:=fun x hx p hp=>by
    rw[bH (oF hx)]at h3;refine h3 _ ?_;have hpos:=fun q hq=>((h.node x (Pq hx)).2.2 q hq).1;rw[mn hpos];exact QL (by rw[Rz (hpos p hp)];exact hp)
   refine ih _ _ r hr ?_ ?_ (Kw h h1 h2 (D':=fun i=>(done ||| 2 ^ v).testBit i) ?_ (fun i hi=>?_) hcl hpa hs)
   ·have:=ou (n:=ns.length) (.left done (2 ^ v)) h1 h2 (by rw[ij];simp);omega
   ·intro u x hu hx p hp;rw[ij]at hu ⊢;rw[Rm]at hu ⊢;left;rcases hu with hu|hu
    ·exact hcl u x hu hx p hp
    ·have:v=u:=of_decide_eq_true hu;subst this;exact hpa x hx p hp
   ·show (done ||| 2 ^ v).testBit v=true;rw[ij];simp
   ·show (done ||| 2 ^ v).testBit i=done.testBit i;rw[ij,Q1 (fun e=>hi e.symm),Bool.or_false]
theorem Ky (ns:List NodeP):au ((List.range ns.length).map fun v=>(ar ns).getD v 0)=au (ar ns):=by
 congr 1;refine Qf fun i=>?_;rw[List.getElem?_map];rcases PR i ns.length with h|h
 ·obtain⟨x,hx⟩:=get_of_lt h;rw[Rc h,cQ hx];show some ((ar ns).getD i 0)=_;rw[bH (cQ hx)]
 ·rw[PD (by simpa using h),PD (by simpa [ar] using h)];rfl
theorem Kz {g:Int}{ns:List NodeP}(h:NetOk g ns):((fF (ar ns)).map (weight ns)).sum=g ^ ns.length:=by
 have hc:=jQ h;have hp:=hZ hc;have h8:=h.n1;have hps:∀ p∈bu ns,p<2 ^ (bu ns).length:=fun p hp=>by
  rw[sV];exact tH (n:=ns.length) (fun x hx q hq=>(h.node x hx).2.2 q hq) p hp
 have ht:=(BK hps (by rw[sV];omega)).2 h.acyc;obtain⟨r,hr⟩:=P2.1 ht;unfold el at hr;rw[sV]at hr;have hs:=Kx h _ _ _ r hr (by omega) (fun u x hu=>by rw[Qs]at hu;cases hu) (by
  unfold kG;have e:∀ f,dB ns.length (fun v=>(0:Nat).testBit v) f=1:=fun f=>by
   rw[show (fun v=>(0:Nat).testBit v)=fun _=>false from funext fun v=>Qs v,Ks]
  rw[e,e,lS fun w _=>e (eZ ns w),Kv _ hc])
 unfold kG at hs;have e:∀ f,dB ns.length (fun _=>true) f=au ((List.range ns.length).map f):=fun f=>v9 (fun _ _=>rfl) f;rw[e,e,Ky,Ku,lS fun w _=>e (eZ ns w)]at hs;rw[QM]at hs;exact Int.eq_of_mul_eq_mul_right (by omega) hs
theorem KA {g:Int}{ns:List NodeP}(h:NetOk g ns){w:List Int}(hw:cL (ar ns) w)(v:Nat):0<=eZ ns w v/\(v<ns.length->eZ ns w v<=60):=by
 unfold eZ;cases hx:ns[v]? with
 | none=>exact⟨show (0:Int)<=1 by decide,fun h=>by obtain⟨x,h⟩:=get_of_lt h;rw[hx]at h;cases h⟩
 | some x =>
  have hxm:=Pq hx;obtain⟨r,hr⟩:=Au h hxm hw;have hrow:gh ns x w=r:=by unfold gh;rw[bH hr]
  have ho:=(h.rows x hxm).2 r (Pq hr);have hg:=h.g1;show 0<=(gh ns x w).getD (w.getD v 0).toNat 0/\(_->(gh ns x w).getD (w.getD v 0).toNat 0<=60)
  rw[hrow,Pz];cases hy:r[(w.getD v 0).toNat]? with
  | none=>exact⟨by simp,by simp⟩
  | some y=>have:=ho.2.1 y (Pq hy);exact⟨by simp;omega,fun _=>by simp;omega⟩
theorem KB {g:Int}{ns:List NodeP}(h:NetOk g ns){w:List Int}(hw:cL (ar ns) w):0<=weight ns w/\weight ns w<=60 ^ ns.length:=by
 have:=kO (b:=60) (l:=eb ns w) (by decide) fun y hy=>by
  unfold eb at hy;obtain⟨v,hv,rfl⟩:=PQ.1 hy;have:=KA h hw v;exact⟨this.1,this.2 (PU.1 hv)⟩
 rw[qm]at this;exact this
set_option maxHeartbeats 1000000 in
theorem Oz (g:Int)(ns:List NodeP)(h:NetOk g ns)(vals:List Int)(hf:cL (ar ns) vals)(v:Nat)(x:NodeP)(hx:ns[v]?=some x)(H:AHeap)(K:ARes->AHeap->Prop)(hK:K (.ret (ae (gh ns x vals))) H):ab Try.prog G0 91 [aG g ns,aa v,ae vals] H K:=by
 refine ab.clo ⟨_,Try.func91,rfl,rfl⟩ fun hcl=>?_;have n8:=h.n1;have hxm:=Pq hx;have hin:im x.parents ns.length:=fun q hq=>by have:=(h.node x hxm).2.2 q hq;omega
 have sm:=tG n8.2 (h.node x hxm).2 fun y hy=>(h.node y hy).1;have pl:(bh ns x).length=x.parents.length:=iP _ _;have p12:=sm.1;have hfp:=xh hin hf;obtain⟨i,r,a,w,hR⟩:=tE h hx hf;have hne:=fI hx;have e1:=kM hx;have e2:=qj hx;have hv:(v:Int)<ns.length:=by have:=get_lt hx;omega
 have hvl:vals.length=ns.length:=by rw[hf.1,bR]
 have hri:=hR.row;have hrne:=aL hri;have hrl:(i:Int)<x.rows.length:=by have:=get_lt hri;omega
 have hidx:=hR.idx;rw[hR.rv]at hK;have hin':∀ q∈x.parents,0<=q/\q<(vals.length:Int):=fun q hq=>by rw[hvl];exact hin q hq
 refine ab.aZ (n:=27) (rs:=[.tmp 6]) Try.func91 rfl rfl rfl (by decide) (by kernel_rfl) (by simp) ?_;simp only[go_sem,aG,cf];refine W.draw 18 [0,1,0,7,15,31,0,0,192,0,0,1024,0,7168,15360,31744,65472,131008] Try.mixed (by kernel_rfl) (by kernel_rfl) ?_;simp only[go_sem,hv,hne,e1,e2];refine⟨ae (bh ns x),[],cI.pure (fun H2=>Ci g ns v x hx (by omega) (by omega) hin H2 _ ⟨rfl,rfl⟩),?_⟩;simp only[go_sem];refine⟨ae (bd vals x.parents),[],cI.pure (fun H2=>Ch vals x.parents (by omega) (by omega) hin' H2 _ ⟨rfl,rfl⟩),?_⟩;simp only[go_sem];refine⟨aa i,[],cI.pure (fun H2=>OD (bh ns x) (bd vals x.parents) sm hfp H2 _ ⟨by rw[hidx],rfl⟩),?_⟩;simp only[go_sem,hrl,ay,hri,hrne];exact av.drop aK hcl (.dm _) hK
set_option maxHeartbeats 1000000 in
theorem OA (g:Int)(ns:List NodeP)(h:NetOk g ns)(i0:Int)(hi:0<=i0/\i0<=4611686018427387904)(H:AHeap)(K:ARes->AHeap->Prop)(hK:K (.ret (aa (weight ns (cj (ar ns) i0)))) H):ab Try.prog G0 72 [aG g ns,aa i0] H K:=by
 refine ab.clo ⟨_,Try.func72,rfl,rfl⟩ fun hcl=>?_;have n8:=h.n1;have hcards:∀ c∈ar ns,1<=c/\c<=4:=fun c hc=>by
  obtain⟨x,hx,rfl⟩:=PQ.1 hc;exact(h.node x hx).1
 refine ab.aZ (n:=31) (rs:=[.tmp 4]) Try.func72 rfl rfl rfl (by decide) (by kernel_rfl) (by simp) ?_;simp only[go_sem,aG,cf];obtain⟨H1,hH1⟩:∃ H1,H1=ext H [.arr 0 35 [.lit (.int .i64 g),.vec ns.length (aq ns)]]:=⟨_,rfl⟩
 have l1:H1.live H.next 0=some (35,[.lit (.int .i64 g),.vec ns.length (aq ns)]):=by rw[hH1];exact aj (cD ..)
 have o1:Over H H1:=by rw[hH1];exact .ext _ _
 rw[<- hH1];refine az.clo (Ce g ns n8.2 (fun y hy=>(h.node y hy).1) i0 hi _ _ ⟨trivial,?_⟩);obtain⟨vals,hvals⟩:∃ vals,vals=cj (ar ns) i0:=⟨_,rfl⟩
 have hfit:cL (ar ns) vals:=by rw[hvals];exact wZ (fun c hc=>(hcards c hc).1) _
 have hvl:vals.length=ns.length:=by rw[hfit.1,bR]
 rw[<- hvals]at hK ⊢;simp only[go_sem];refine W.aN 1073739968 (by rfl) (fun ρ H'=>H'=H1/\∃ v:Nat,ρ 7=aa v/\v<=ns.length/\ρ 6=aa (au ((eb ns vals).take v))) (fun ρ H=>ns.length - (iv (ρ 7)).toNat) ?_ ?_
 ·simp only[go_sem];exact⟨0,rfl,by omega,by simp [eY]⟩
 rintro ρ H' ⟨rfl,v,h7,hv,h6⟩;refine W.en (fun E=>E 2=.ptr H.next 0 0 /\ E 5=ae vals /\ E 6=aa (au ((eb ns vals).take v)) /\ E 7=aa v) (by simp only[go_sem,h6,h7]) fun E ⟨e2,e5,e6,e7⟩=>?_
 refine W.vs ?_;by_cases hb:(v:Int)<ns.length
 ·obtain⟨x,hx⟩:=get_of_lt (l:=ns) (i:=v) (by omega);obtain⟨i,r,a,w,hR⟩:=tE h hx hfit;obtain⟨a',rfl⟩:=PM hR.a0;have hva:=hR.val;have hvne:=aL hva;have hvv:(v:Int)<vals.length:=by omega
  have hra:r[a']?=some w:=by have:=hR.hw;rw[Int.toNat_natCast]at this;exact this
  have hrane:=aL hra;have hal:=hR.al;have wt:=xi h hfit (v+1);rw[aO (tx (vals:=vals) (v:=v) (by omega)),fq,hR.eq]at wt;have w1:=Ps ((v:Int)+1) (by omega);have w2:=Ps (au ((eb ns vals).take v)*w) (by omega);simp only[go_sem,l1,e2,e7,hb];refine W.draw 11 [0,0,0,0,14,0,0,96,224,510,1022] Try.mixed (by kernel_rfl) (by kernel_rfl) ?_;simp only[go_sem,l1,e2,e5,e6,e7];refine⟨ae r,[],cI.pure (fun H2=>Oz g ns h vals hfit v x hx H2 _ ⟨by rw[hR.rv],rfl⟩),?_⟩;simp only[go_sem,e2,e5,e6,e7,hva,hvne,hvv,hra,hrane,hal,w1,w2];refine⟨⟨v+1,rfl,by omega,?_⟩,by rw[h7];simp only[aa,aW];omega⟩;rw[aO (tx (vals:=vals) (v:=v) (by omega)),fq,hR.eq]
 ·have e:v=ns.length:=by omega
  subst e;simp only[go_sem,l1,e2,e6,e7,hb];rw[Pw (by rw[qm];omega)];exact av.bq aK hcl o1 (.lit _) hK
def bt (cs:List Int)(xs:List (List Int)):AVal:=.agg [ae cs,ay xs]
def qh (cs r:List Int):Prop:=r.length=cs.length/\∀ (v:Nat) (c x:Int),cs[v]?=some c->r[v]?=some x->-1<=x/\x<c
structure DataOk (cs:List Int)(xs:List (List Int)):Prop where
 c1:1<=cs.length/\cs.length<=6
 x1:xs.length<=40
 card:∀ c∈cs,2<=c/\c<=4
 size:au cs<=1024
 row:∀ r∈xs,qh cs r
noncomputable def gL (cs:List Int)(xs:List (List Int)):Bool:=@decide (DataOk cs xs) (Classical.propDecidable _)
theorem Bf {cs:List Int}{xs:List (List Int)}(h:DataOk cs xs):gL cs xs=true:=by unfold gL;exact @decide_eq_true _ (Classical.propDecidable _) h
theorem Bg {cs:List Int}{xs:List (List Int)}(h:¬ DataOk cs xs):gL cs xs=false:=by unfold gL;exact @decide_eq_false _ (Classical.propDecidable _) h
theorem Mh {cs:List Int}{xs:List (List Int)}:gL cs xs=true↔DataOk cs xs:=by unfold gL;exact @decide_eq_true_iff _ (Classical.propDecidable _)
def js (cs:List Int)(xs:List (List Int)):Prop:=(cs.length:Int)<2 ^ 38/\(xs.length:Int)<2 ^ 38/\∀ r∈xs,(r.length:Int)<2 ^ 38
theorem lZ {xs:List (List Int)}{k:Nat}{r:List Int}(h:xs[k]?=some r):(xs.map ae)[k]?=some (.vec r.length (ints r)):=by rw[List.getElem?_map,h];rfl
theorem Bh {l:List Int}(h:∀ c∈l,2<=c/\c<=4)(hl:l.length<=6):1<=au l/\au l<=4096:=by
 have h1:=kO (b:=4) (by omega) (l:=l) fun x hx=>by have:=h x hx;omega
 have h2:=hZ (l:=l) fun x hx=>by have:=h x hx;omega
 have h3:(4:Nat) ^ l.length<=4 ^ 6:=PJ (by decide) hl;have h4:((4:Int) ^ l.length)<=4 ^ 6:=by exact_mod_cast h3
 have:(4:Int) ^ 6=4096:=by decide
 omega
theorem qh.of {cs r:List Int}(hl:r.length=cs.length)(h:∀ (v:Nat) (c x:Int),v<r.length->cs[v]?=some c->r[v]?=some x->-1<=x/\x<c):qh cs r:=⟨hl,fun v c x h1 h2=>h v c x (get_lt h2) h1 h2⟩
def we (g:Int)(ns:List NodeP)(r:List Int):List AVal:=[aa g,.vec ns.length (aq ns),ae r]
theorem KD {cs vs:List Int}(hf:cL cs vs)(hs:dC cs)(k:Nat):0<=ig (cs.take k) (vs.take k)/\ig (cs.take k) (vs.take k)<68719476737:=by
 have ft:cL (cs.take k) (vs.take k):=⟨by simp [hf.1],fun i c b h1 h2=>by
  rw[Rh]at h1 h2;split at h1
  ·rename_i hik;rw[Pv hik]at h2;exact hf.2 i c b h1 h2
  ·cases h1⟩
 rw[BC ft.1];have a:=qk ft;have b:=(hs.take k).prod;omega
theorem KE {ns:List NodeP}{x:NodeP}{vals:List Int}(hin:im x.parents ns.length)(hf:cL (ar ns) vals){k:Nat}{q:Int}(hq:x.parents[k]?=some q):
  ∃ (j:Nat) (y:NodeP) (b:Int),q=j/\ns[j]?=some y/\vals[j]?=some b/\(bh ns x)[k]?=some y.card/\(bd vals x.parents)[k]?=some b/\0<=b/\b<y.card:=by
 obtain⟨j,rfl,y,hy⟩:=mm (l:=ns) (hin q (Pq hq)).1 (hin q (Pq hq)).2;obtain⟨b,hb⟩:=get_of_lt (l:=vals) (i:=j) (by rw[hf.1,bR];exact get_lt hy);exact⟨j,y,b,rfl,hy,hb,by rw[show (bh ns x)[k]?=_ from qw hq,Int.toNat_natCast,bH (cQ hy)],by rw[qw hq,Int.toNat_natCast,bH hb],hf.2 j y.card b (cQ hy) hb⟩
set_option maxHeartbeats 2000000 in
theorem KG (g:Int)(ns:List NodeP)(h:NetOk g ns)(rc vals:List Int)(hf:cL (ar ns) vals)(H:AHeap)(K:ARes->AHeap->Prop)(hK:K (.ret (aa (weight ns vals))) H):
  ab Try.prog G0 90 [.agg (we g ns rc),ae vals] H K:=by
 refine ab.clo ⟨_,Try.func90,rfl,rfl⟩ fun hcl=>?_;have n8:=h.n1;have hvl:vals.length=ns.length:=by rw[hf.1,bR]
 refine ab.aZ (n:=57) (rs:=[.tmp 4]) Try.func90 rfl rfl rfl (by decide) (by kernel_rfl) (by simp) ?_;simp only[go_sem,we];obtain⟨H1,hH1⟩:∃ H1,H1=ext H [.arr 0 127 [aa g,.vec ns.length (aq ns),.vec rc.length (ints rc)]]:=⟨_,rfl⟩
 have g1:H1.get H.next=some (.arr 0 127 [aa g,.vec ns.length (aq ns),.vec rc.length (ints rc)]):=by rw[hH1];exact cD ..
 have o1:Over H H1:=by rw[hH1];exact .ext _ _
 have n1:H1.next=H.next+1:=by rw[hH1];rfl
 refine W.en (fun E=>E 1=ae vals /\ E 2=.ptr H.next 0 0 /\ E 5=aa 1 /\ E 13=.vec ns.length (aq ns) /\ E 14=aa ns.length /\ E 15=aa 0) (by simp only[go_sem]) fun E ⟨e1,e2,e5,e13,e14,e15⟩=>?_
 show W _ _ _ _ _ _ ⟨E,ext H [.arr 0 127 [aa g,.vec ns.length (aq ns),.vec rc.length (ints rc)]]⟩;rw[<- hH1];refine W.aN 72057594037896672 (by rfl) (fun ρ H'=>Over H1 H'/\∃ v:Nat,ρ 15=aa v/\v<=ns.length/\ρ 5=aa (au ((eb ns vals).take v))) (fun ρ H=>ns.length - (iv (ρ 15)).toNat) ?_ ?_
 ·exact⟨.refl _,0,e15,by omega,e5.trans (by simp [eY])⟩
 rintro ρ H' ⟨o2,v,h15,hv,h5⟩;have n2:=o2.next;have l2:=aj ((o2.old H.next (by omega)).trans g1);refine W.en (fun F=>F 1=ae vals /\ F 2=.ptr H.next 0 0 /\ F 5=aa (au ((eb ns vals).take v)) /\ F 13=.vec ns.length (aq ns) /\ F 14=aa ns.length /\ F 15=aa v) (by simp only[go_sem,e1,e2,h5,e13,e14,h15]) fun F ⟨f1,f2,f5,f13,f14,f15⟩=>?_
 by_cases hb:(v:Int)<ns.length;rotate_left
 ·have e:v=ns.length:=by omega
  subst e;refine W.vs ?_;simp only[go_sem,f5,f14,f15,hb];rw[Pw (by rw[qm];omega)];exact av.bq aK hcl (o1.trans o2) (.lit _) hK
 obtain⟨x,hx⟩:=get_of_lt (l:=ns) (i:=v) (by omega);have hxm:=Pq hx;have hin:im x.parents ns.length:=fun q hq=>by have:=(h.node x hxm).2.2 q hq;omega
 have hfp:=xh hin hf;have pl:(bh ns x).length=x.parents.length:=iP _ _;have vl:(bd vals x.parents).length=x.parents.length:=iP _ _;have hsm:=tG n8.2 (h.node x hxm).2 fun y hy=>(h.node y hy).1;have hr:=KD hfp hsm;have l12:=hsm.1;obtain⟨i,r,a,w,hR⟩:=tE h hx hf;obtain⟨a',rfl⟩:=PM hR.a0;have hne:=fI hx;have hpt:=oo hx;refine W.vs ?_;simp only[go_sem,f13,f14,f15,hb,hne,hpt];refine⟨by rw[hU];omega,?_⟩;obtain⟨H2,hH2⟩:∃ H2,H2=ext H' [.arr 0 69 [aa x.card,.vec x.parents.length (ints x.parents),ay x.rows]]:=⟨_,rfl⟩
 have o3:Over H' H2:=by rw[hH2];exact .ext _ _
 have n3:H2.next=H'.next+1:=by rw[hH2];rfl
 have l3:H2.live H'.next 0=some (69,[aa x.card,.vec x.parents.length (ints x.parents),ay x.rows]):=by rw[hH2];exact aj (cD ..)
 have l4:H2.live H.next 0=some (127,[aa g,.vec ns.length (aq ns),.vec rc.length (ints rc)]):=aj ((o3.old H.next (by omega)).trans ((o2.old H.next (by omega)).trans g1));refine W.en (fun E3=>E3 1=ae vals /\ E3 2=.ptr H.next 0 0 /\ E3 5=aa (au ((eb ns vals).take v)) /\ E3 6=aa v /\ E3 7=.ptr H'.next 0 0 /\ E3 8=aa 0 /\ E3 13=.vec ns.length (aq ns) /\ E3 14=aa ns.length /\ E3 15=aa v /\ E3 21=ae x.parents /\ E3 22=aa x.parents.length /\ E3 23=aa 0) (by simp only[go_sem,f1,f2,f5,f13,f14,f15]) fun E3 ⟨g1,g2,g5,g6,g7,g8,g13,g14,g15,g21,g22,g23⟩=>?_
 show W _ _ _ _ _ _ ⟨E3,ext H' [.arr 0 69 [aa x.card,.vec x.parents.length (ints x.parents),ay x.rows]]⟩;rw[<- hH2];refine W.aN 4398038123776 (by rfl) (fun ρ H3=>H3=H2/\∃ k:Nat,ρ 23=aa k/\k<=x.parents.length/\ρ 8=aa (ig ((bh ns x).take k) ((bd vals x.parents).take k))) (fun ρ H=>x.parents.length - (iv (ρ 23)).toNat) ?_ ?_
 ·exact⟨rfl,0,g23,by omega,g8⟩
 rintro ρ3 H3 ⟨e3,k,h23,hk,h8⟩;rw[e3];refine W.en (fun E4=>E4 1=ae vals /\ E4 2=.ptr H.next 0 0 /\ E4 5=aa (au ((eb ns vals).take v)) /\ E4 6=aa v /\ E4 7=.ptr H'.next 0 0 /\ E4 8=aa (ig ((bh ns x).take k) ((bd vals x.parents).take k)) /\ E4 13=.vec ns.length (aq ns) /\ E4 14=aa ns.length /\ E4 15=aa v /\ E4 21=ae x.parents /\ E4 22=aa x.parents.length /\ E4 23=aa k) (by simp only[go_sem,g1,g2,g5,g6,g7,h8,g13,g14,g15,g21,g22,h23]) fun E4 ⟨k1,k2,k5,k6,k7,k8,k13,k14,k15,k21,k22,k23⟩=>?_
 refine W.vs ?_;by_cases hb2:(k:Int)<x.parents.length
 ·obtain⟨q,hq⟩:=get_of_lt (l:=x.parents) (i:=k) (by omega);obtain⟨j,y,b,rfl,hy,hbv,a1,a2,a3⟩:=KE hin hf hq;have hqn:=aL hq;have hbn:=aL hbv;have hyn:=fI hy;have hy0:=jS hy;have hjn:(j:Int)<ns.length:=by have:=get_lt hy;omega
  have hjv:(j:Int)<vals.length:=by have:=get_lt hbv;omega
  have w1:=Ps ((k:Int)+1) (by omega);have r1:=hr (k+1);rw[BD a1 a2]at r1;have r0:=hr k;have m0:0<=ig ((bh ns x).take k) ((bd vals x.parents).take k)*y.card:=Rt r0.1 (by omega);have w2:=Ps (ig ((bh ns x).take k) ((bd vals x.parents).take k)*y.card) (by omega);have w3:=Ps (ig ((bh ns x).take k) ((bd vals x.parents).take k)*y.card+b) (by omega);simp only[go_sem,k21,k22,k23,hb2,hq,hqn];refine W.draw 13 [0,0,2,6,0,30,62,126,255,0,0,1536,3584] Try.mixed (by kernel_rfl) (by kernel_rfl) ?_;simp only[go_sem,l4,k1,k2,k8,k23,hbv,hbn,hyn,hy0,hjn,hjv,w1,w2,w3];exact⟨⟨k+1,rfl,by omega,by rw[BD a1 a2]⟩,by rw[h23];simp only[aa,aW];omega⟩
 have ek:k=x.parents.length:=by omega
 rw[ek,Pw (by rw[pl];exact Nat.le_refl _),Pw (by rw[vl];exact Nat.le_refl _),BC hfp.1,hR.idx]at k8;have hva:=hR.val;have hvne:=aL hva;have hvv:(v:Int)<vals.length:=by omega
 have hra:r[a']?=some w:=by have:=hR.hw;rw[Int.toNat_natCast]at this;exact this
 have hrane:=aL hra;have hal:(a':Int)<r.length:=hR.al;have hir:=lZ hR.row;have hirn:=aL hir;have hil:(i:Int)<x.rows.length:=by have:=get_lt hR.row;omega
 have wt:=xi h hf (v+1);rw[aO (tx (vals:=vals) (v:=v) (by omega)),fq,hR.eq]at wt;have w1:=Ps ((v:Int)+1) (by omega);have w2:=Ps (au ((eb ns vals).take v)*w) (by omega);simp only[go_sem,k22,k23,hb2];refine W.draw 12 [0,0,2,0,14,30,0,0,192,448,1022,2046] Try.mixed (by kernel_rfl) (by kernel_rfl) ?_;simp only[go_sem,l3,k1,k5,k6,k7,k8,k15,ay,hil,hir,hirn,hvv,hva,hvne,hra,hrane,hal,w1,w2];exact⟨by omega,⟨o2.trans o3,v+1,rfl,by omega,by rw[aO (tx (vals:=vals) (v:=v) (by omega)),fq,hR.eq]⟩,by rw[h15];simp only[aa,aW];omega⟩
theorem KH {α:Type}{F:Nat->List α}{c a j:Nat}{t:α}(ha:a<c)(h:(F a)[j]?=some t):((List.range c).flatMap F)[((List.range a).flatMap F).length+j]?=some t:=by
 obtain⟨m,rfl⟩:∃ m,c=a+(m+1):=⟨c - a - 1,by omega⟩
 have hj:=get_lt h;rw[List.range_add,Sp,PI (by omega),Rb,Se,List.map_cons,List.flatMap_cons,Nat.add_zero,PN hj];exact h
def sW (cs r:List Int)(x:Int)(a:Nat):List (List Int):=if x<0\/x=(a:Int) then (dp cs r).map fun w=>(a:Int) :: w else []
theorem KI {cs r:List Int}{i:Nat}{c x:Int}(hc:cs[i]?=some c)(hx:r[i]?=some x):dp (cs.drop i) (r.drop i)=(List.range c.toNat).flatMap (sW (cs.drop (i+1)) (r.drop (i+1)) x):=by
 rw[ie hc,ie hx];rfl
structure Own4 (n N b idy:Nat)(H:AHeap)(w:List Int):Prop where
 nx:N+4<=H.next
 y:H.get N=some (.arr 0 111 [.yld idy])
 w:H.get (N+1)=some (.arr 0 3 (ints w))
 c:H.get (N+2)=some (.arr 0 39 [.own (N+1) 0 0 n 1])
 f:H.get (N+3)=some (.arr 0 106 [.clo 89 [] [.ptr (N+2) 0 0,.ptr N 0 0,.ptr b 0 0,.ptr (N+3) 0 0]])
theorem Own4.keep {n N b idy:Nat}{H H':AHeap}{w:List Int}(h:Own4 n N b idy H w)(hn:H.next<=H'.next)(hk:∀ id,N<=id->id<N+4->H'.get id=H.get id):Own4 n N b idy H' w :=
 ⟨by have:=h.nx;omega,(hk _ (by omega) (by omega)).trans h.y,(hk _ (by omega) (by omega)).trans h.w,(hk _ (by omega) (by omega)).trans h.c,(hk _ (by omega) (by omega)).trans h.f⟩
def kH (ns:List NodeP)(r:List Int)(N:Nat):List (List AVal):=(dp (ar ns) r).map fun w=>[.own (N+1) 0 0 ns.length 1,aa (weight ns w)]
def Aw (ns:List NodeP)(r:List Int)(N:Nat)(k:Nat)(H:AHeap):Prop:=∃ w,(dp (ar ns) r)[k]?=some w/\H.get (N+1)=some (.arr 0 3 (ints w))
theorem Ax {cs r:List Int}(h:∀ c∈cs,1<=c)(hl:r.length=cs.length){w:List Int}(hw:w∈dp cs r):cL cs w:=by
 rw[sU hl]at hw;exact vW h (List.mem_filter.1 hw).1
theorem KJ (g:Int)(ns:List NodeP)(h:NetOk g ns)(rc vals:List Int)(hf:cL (ar ns) vals)(H:AHeap)(N n:Nat)(hN:N<H.next)(hg:H.get N=some (.arr 0 3 (ints vals)))(hn:n=vals.length):
  cI Try.prog G0 (.clo 90 [] []) [.agg [aa g,.vec ns.length (aq ns),.vec rc.length (ints rc)],.own N 0 0 n 1] H (aa (weight ns vals)) [N]:=by
 subst hn;refine cI.mk (fun i hi=>by obtain rfl:=List.mem_singleton.1 hi;exact hN) fun H2 h2 _=>?_;refine(ab.frame (H:=H2) (args:=[.agg [aa g,.vec ns.length (aq ns),.vec rc.length (ints rc)],.own N 0 0 vals.length 1]) (args':=[.agg (we g ns rc),ae vals]) (v':=aa (weight ns vals)) aK rfl (fun i hi _=>?_) (KG g ns h rc vals hf cF _ ⟨_,rfl,.lit _⟩))
 match i,hi with
 | 0,_=>exact .agg rfl fun i hi _=>match i,hi with
  | 0,_=>.lit _
  | 1,_=>qA _
  | 2,_=>.dm _
 | 1,_=>exact Fz.qz ((h2 N (by simp)).trans hg) (by rw[aS]) fun c hc=>by obtain⟨z,_,rfl⟩:=PQ.1 hc;exact⟨_,rfl⟩
set_option maxHeartbeats 2000000 in
theorem KK (g:Int)(ns:List NodeP)(h:NetOk g ns)(rc:List Int)(hr:rc.length=ns.length)(b N idy:Nat)(hbN:b<N)(J:Nat->AHeap->Prop)
  (hS0:∀ k H1,J k H1->H1.get b=some (.arr 0 127 [aa g,.vec ns.length (aq ns),.vec rc.length (ints rc)])) (hJw:∀ k H1 H2,J k H1->tR (N+1) H1 H2->J k H2)
  (hY:∀ k x H1 K1,(kH ns rc N)[k]?=some x->J k H1->Aw ns rc N k H1->N+4<=H1.next->(∀ H',J (k+1) H'->(∀ id,N<=id->id<N+4->H'.get id=H1.get id)->H1.next<=H'.next->K1 (.ret (.lit (.bool true))) H')->az Try.prog G0 (.yld idy) x H1 K1):
  ∀ (d i:Nat),i+d=ns.length->∀ (k:Nat) (w:List Int) (H1:AHeap) (K1:ARes->AHeap->Prop),w.length=ns.length ->
   (∀ (j:Nat) (t:List Int),(dp ((ar ns).drop i) (rc.drop i))[j]?=some t->(dp (ar ns) rc)[k+j]?=some (w.take i++t)) ->
   J k H1->Own4 ns.length N b idy H1 w ->
   (∀ H' w',J (k+(dp ((ar ns).drop i) (rc.drop i)).length) H'->Own4 ns.length N b idy H' w'->w'.take i=w.take i->w'.length=ns.length->H1.next<=H'.next->K1 (.ret (.lit (.bool true))) H') ->
   ab Try.prog G0 89 [aa i,.ptr (N+2) 0 0,.ptr N 0 0,.ptr b 0 0,.ptr (N+3) 0 0] H1 K1:=by
 have hc1:=jQ h;have n8:=h.n1;have cl:(ar ns).length=ns.length:=bR ns;intro d
 induction d with
 | zero =>
  intro i hi k w H1 K1 hw hpre hj ho hK;have ei:i=ns.length:=by omega
  subst ei;have e0:dp ((ar ns).drop ns.length) (rc.drop ns.length)=[[]]:=by rw[Sf (by omega)];rfl
  rw[e0]at hpre hK;have hk:=hpre 0 [] rfl;rw[Pw (by omega),List.append_nil,Nat.add_zero]at hk;have hfit:=Ax hc1 (by omega) (Pq hk);have lb:=aj (hS0 _ _ hj);have lc:=aj ho.c;have ly:=aj ho.y;have lw:=aj ho.w;refine ab.aZ (n:=53) (rs:=[.tmp 6]) Try.func89 rfl rfl rfl (by decide) (by kernel_rfl) (by simp) ?_;simp only[go_sem,lc,lw];refine W.draw 5 [0,0,0,0,12] Try.mixed (by kernel_rfl) (by kernel_rfl) ?_;simp only[go_sem,lc,ly,lb];refine⟨aa (weight ns w),[N+1],KJ g ns h rc w hfit H1 (N+1) ns.length (by have:=ho.nx;omega) ho.w hw.symm,?_⟩;simp only[go_sem];refine hY k [.own (N+1) 0 0 ns.length 1,aa (weight ns w)] H1 _ (by unfold kH;rw[List.getElem?_map,hk];rfl) hj ⟨w,hk,ho.w⟩ ho.nx fun H2 j2 kp n2=>⟨trivial,?_⟩
  simp only[go_sem];exact av.mk n2 (hK H2 w j2 (ho.keep n2 kp) rfl hw n2)
 | succ d ih =>
  intro i hi k w H1 K1 hw hpre hj ho hK;obtain⟨x,hx⟩:=get_of_lt (l:=ns) (i:=i) (by omega);obtain⟨q,hq⟩:=get_of_lt (l:=rc) (i:=i) (by omega);have hxc:=(h.node x (Pq hx)).1;have hcx:=cQ hx;rw[KI hcx hq]at hpre hK;obtain⟨F,hF⟩:∃ F,F=sW ((ar ns).drop (i+1)) (rc.drop (i+1)) q:=⟨_,rfl⟩
  rw[<- hF]at hpre hK;have lb:=aj (hS0 _ _ hj);have lc:=aj ho.c;have lw:=aj ho.w;have hin:¬ (i:Int)=ns.length:=by omega
  have hil:(i:Int)<ns.length:=by omega
  have hne:=fI hx;have h0:=jS hx;refine ab.aZ (n:=53) (rs:=[.tmp 6]) Try.func89 rfl rfl rfl (by decide) (by kernel_rfl) (by simp) ?_;simp only[go_sem,lb,lc,lw,hin,hil,hne,h0];refine W.en (fun E=>E 0=aa i /\ E 1=.ptr (N+2) 0 0 /\ E 2=.ptr N 0 0 /\ E 3=.ptr b 0 0 /\ E 4=.ptr (N+3) 0 0 /\ E 24=aa x.card /\ E 25=aa 0) (by simp only[go_sem]) fun E ⟨e0,e1,e2,e3,e4,e24,e25⟩=>?_
  refine W.aN 9007199221186752 (by rfl) (fun ρ H'=>∃ (a:Nat) (w':List Int),ρ 25=aa a/\(a:Int)<=x.card/\J (k+((List.range a).flatMap F).length) H'/\Own4 ns.length N b idy H' w'/\w'.take i=w.take i/\w'.length=ns.length/\H1.next<=H'.next) (fun ρ H=>x.card.toNat - (iv (ρ 25)).toNat) ?_ ?_
  ·exact⟨0,w,e25,by omega,hj,ho,rfl,hw,Nat.le_refl _⟩
  rintro ρ H' ⟨a,w',h25,ha,hj',ho',ht',hl',hn'⟩;refine W.en (fun E1=>E1 0=aa i /\ E1 1=.ptr (N+2) 0 0 /\ E1 2=.ptr N 0 0 /\ E1 3=.ptr b 0 0 /\ E1 4=.ptr (N+3) 0 0 /\ E1 24=aa x.card /\ E1 25=aa a) (by simp only[go_sem,e0,e1,e2,e3,e4,e24,h25]) fun E1 ⟨f0,f1,f2,f3,f4,f24,f25⟩=>?_
  have mb:=aj (hS0 _ _ hj');have mc:=aj ho'.c;have mw:=aj ho'.w;have mf:=aj ho'.f;have hqn:=aL hq;have hir:(i:Int)<rc.length:=by omega
  have hiw:(i:Int)<w'.length:=by omega
  have w1:=Ps ((i:Int)+1) (by omega);have w2:=Ps ((a:Int)+1) (by omega);by_cases hb:(a:Int)<x.card;rotate_left
  ·have ea:a=x.card.toNat:=(by omega);refine W.vs ?_;simp only[go_sem,f24,f25,hb];exact av.mk hn' (hK H' w' (by rw[<- ea];exact hj') ho' ht' hl' hn')
  have hset:setAt (ints w') i [aa a]=ints (w'.set i (a:Int)):=fL (by omega);obtain⟨H3,hH3⟩:∃ H3,H3=H'.upd (N+1) (.arr 0 3 (setAt (ints w') i [aa a])):=⟨_,rfl⟩
  have n3:H3.next=H'.next:=by rw[hH3];rfl
  have k3:∀ id,id≠N+1->H3.get id=H'.get id:=fun id hh=>by rw[hH3,ag,Pt hh]
  have m3:H3.get (N+1)=some (.arr 0 3 (ints (w'.set i (a:Int)))):=by rw[hH3,ag,Pv rfl,hset]
  have o3:Own4 ns.length N b idy H3 (w'.set i (a:Int)):=⟨by rw[n3];exact ho'.nx,(k3 _ (by omega)).trans ho'.y,m3,(k3 _ (by omega)).trans ho'.c,(k3 _ (by omega)).trans ho'.f⟩
  have mf3:(H'.upd (N+1) (.arr 0 3 (setAt (ints w') i [.lit (.int .i64 (a:Int))]))).live (N+3) 0=some (106,[.clo 89 [] [.ptr (N+2) 0 0,.ptr N 0 0,.ptr b 0 0,.ptr (N+3) 0 0]]):=by have:=aj o3.f;rw[hH3]at this;exact this
  have j3:J (k+((List.range a).flatMap F).length) H3:=hJw _ _ _ hj' ⟨by rw[n3];exact Nat.le_refl _,fun id h1 _=>k3 id h1⟩;have tk:(w'.set i (a:Int)).take (i+1)=w.take i++[(a:Int)]:=by
   rw[aO (x:=(a:Int)) (by rw[PF (by omega)]),Rx (Nat.le_refl _),ht']
  have fyes:(q<0\/q=(a:Int))->F a=(dp ((ar ns).drop (i+1)) (rc.drop (i+1))).map fun w=>(a:Int) :: w:=fun hh=>by rw[hF];unfold sW;rw[Pv hh]
  have hpre3:(q<0\/q=(a:Int))->∀ (j:Nat) (t:List Int),(dp ((ar ns).drop (i+1)) (rc.drop (i+1)))[j]?=some t->(dp (ar ns) rc)[k+((List.range a).flatMap F).length+j]?=some ((w'.set i (a:Int)).take (i+1)++t):=fun hh j t hj=>by
   rw[tk,List.append_assoc,QK];refine hpre _ _ (KH (by omega) ?_);rw[fyes hh,List.getElem?_map,hj];rfl
  have pre1:((List.range (a+1)).flatMap F).length=((List.range a).flatMap F).length+(F a).length:=by
   rw[Qx,Sp,List.length_append];simp
  by_cases q0:q<0
  ·refine W.vs ?_;simp only[go_sem,f0,f1,f3,f4,f24,f25,mb,mc,mw,mf3,w1,hb,hq,hqn,hir,hl',q0];refine⟨by omega,by omega,?_⟩;show az _ _ (.clo 89 [] [.ptr (N+2) 0 0,.ptr N 0 0,.ptr b 0 0,.ptr (N+3) 0 0]) [aa ((i+1:Nat):Int)] (H'.upd (N+1) (.arr 0 3 (setAt (ints w') i [aa a]))) _;rw[<- hH3];refine az.clo (ih (i+1) (by omega) _ (w'.set i (a:Int)) H3 _ (by rw[Py];exact hl') (hpre3 (.inl q0)) j3 o3 fun H4 w4 j4 o4 t4 l4 n4=>⟨trivial,?_⟩);have t4':w4.take i=w.take i:=by
    have:=congrArg (List.take i) (t4.trans tk);rw[So,QR (Rw i),List.take_left' (by rw[PC];omega)]at this;exact this
   simp only[go_sem,f25,w2];exact⟨by omega,⟨a+1,w4,rfl,by omega,by rw[pre1,fyes (.inl q0),Px,<- QK];exact j4,o4,t4',l4,by omega⟩,by rw[h25];simp only[aa,aW];omega⟩
  by_cases q1:q=(a:Int)
  ·have q0':¬ (a:Int)<0:=(by omega);refine W.vs ?_;simp only[go_sem,f0,f1,f3,f4,f24,f25,mb,mc,mw,mf3,w1,hb,hq,hqn,hir,hl',q0',q1];refine⟨by omega,by omega,?_⟩;show az _ _ (.clo 89 [] [.ptr (N+2) 0 0,.ptr N 0 0,.ptr b 0 0,.ptr (N+3) 0 0]) [aa ((i+1:Nat):Int)] (H'.upd (N+1) (.arr 0 3 (setAt (ints w') i [aa a]))) _;rw[<- hH3];refine az.clo (ih (i+1) (by omega) _ (w'.set i (a:Int)) H3 _ (by rw[Py];exact hl') (hpre3 (.inr q1)) j3 o3 fun H4 w4 j4 o4 t4 l4 n4=>⟨trivial,?_⟩);have t4':w4.take i=w.take i:=by
    have:=congrArg (List.take i) (t4.trans tk);rw[So,QR (Rw i),List.take_left' (by rw[PC];omega)]at this;exact this
   simp only[go_sem,f25,w2];exact⟨by omega,⟨a+1,w4,rfl,by omega,by rw[pre1,fyes (.inr q1),Px,<- QK];exact j4,o4,t4',l4,by omega⟩,by rw[h25];simp only[aa,aW];omega⟩
  ·refine W.vs ?_;simp only[go_sem,f0,f3,f24,f25,mb,hb,hq,hqn,hir,q0,q1,w2];have fno:F a=[]:=(by rw[hF];unfold sW;rw[Pt fun hh=>hh.elim q0 q1]);exact⟨hn',⟨a+1,w',rfl,by omega,by rw[pre1,fno];exact hj',ho',ht',hl',hn'⟩,by rw[h25];simp only[aa,aW];omega⟩
set_option maxHeartbeats 1000000 in
theorem KL (g:Int)(ns:List NodeP)(h:NetOk g ns)(rc:List Int)(hr:rc.length=ns.length)(b N:Nat)(hbN:b<N):
  Av Try.prog G0 88 [] [.ptr b 0 0] (kH ns rc N) N (fun H=>H.get b=some (.arr 0 127 [aa g,.vec ns.length (aq ns),.vec rc.length (ints rc)])) (Aw ns rc N):=by
 intro idy J H K hN hS0 hJw hJ0 hY hK;have l0:=aj (hS0 0 H hJ0);have n8:=h.n1;subst hN;show ab _ _ _ ([.yld idy]++[.ptr b 0 0]) _ _;refine ab.aZ (n:=13) (rs:=[]) Try.func88 rfl rfl rfl (by decide) (by kernel_rfl) (by simp) ?_;have lE:∀ L,(ext H L).live b 0=some (127,[aa g,.vec ns.length (aq ns),.vec rc.length (ints rc)]):=fun L=>aj ((bY _ _ _ hbN).trans (hS0 0 H hJ0));have c1:∀ f a c,(AVal.clo f a c).cells=[.clo f a c]:=fun _ _ _=>rfl;have c2:∀ f a c,(AVal.clo f a c).one=true:=fun _ _ _=>rfl;have c3:∀ i,(AVal.yld i).cells=[.yld i]:=fun _=>rfl;simp only[go_sem,lE,c1,c2,c3];refine⟨by omega,?_⟩;obtain⟨bs,hbs⟩:∃ bs,bs=[Blk.arr 0 111 [.yld idy],.arr 0 3 (List.replicate ns.length (.lit (.int .i64 0))),.arr 0 39 [.own (H.next+1) 0 0 ns.length 1],.arr 0 106 [.clo 89 [] [.ptr (H.next+2) 0 0,.ptr H.next 0 0,.ptr b 0 0,.ptr (H.next+3) 0 0]]]:=⟨_,rfl⟩
 rw[<- hbs];have hrep:List.replicate ns.length (.lit (.int .i64 0))=ints (List.replicate ns.length 0):=by simp [ints,aa]
 have nx:(ext H bs).next=H.next+4:=by rw[hbs];rfl
 have hw:tR (H.next+1) H (ext H bs):=⟨by omega,fun id _ hi=>bY _ _ _ hi⟩
 refine az.clo (KK g ns h rc hr b H.next idy hbN J hS0 hJw hY ns.length 0 (by omega) 0 (List.replicate ns.length 0) (ext H bs) _ (by simp) (fun j t ht=>by rw[Nat.zero_add];exact ht) (hJw 0 H _ hJ0 hw)
  ⟨by omega,by rw[hbs];exact aY H _ 0 (by simp),by rw[<- hrep,hbs];exact aY H _ 1 (by simp),by rw[hbs];exact aY H _ 2 (by simp),by rw[hbs];exact aY H _ 3 (by simp)⟩ fun H2 w2 j2 o2 _ _ n2=>⟨trivial,?_⟩)
 simp only[go_sem];refine av.mk (by omega) (hK H2 ?_ (by omega));rw[Nat.zero_add,List.drop_zero,List.drop_zero]at j2;unfold kH;rw[Px];exact j2
theorem KM (g:Int)(ns:List NodeP)(rc:List Int)(H:AHeap)(K:ARes->AHeap->Prop)(hK:K (.ret (.clo 88 [] [.ptr H.next 0 0])) (ext H [.arr 0 127 [aa g,.vec ns.length (aq ns),.vec rc.length (ints rc)]])):
  ab Try.prog G0 70 [.agg [aa g,.vec ns.length (aq ns),.vec rc.length (ints rc)]] H K:=by
 refine ab.aZ (n:=4) (rs:=[.tmp 2]) Try.func70 rfl rfl rfl (by decide) (by kernel_rfl) (by simp) ?_;simp only[go_sem];exact av.mk (by simp [bb]) hK
def dc (ns:List NodeP)(r:List Int):Int:=((dp (ar ns) r).map (weight ns)).sum
theorem KN {g:Int}{ns:List NodeP}(h:NetOk g ns){r:List Int}(hr:r.length=ns.length):(dp (ar ns) r).length<=1024:=by
 have h1:=jQ h;rw[sU (by rw[hr,bR])];refine PY (SQ _ _) ?_;rw[sT h1,Px,QO];have:=h.size;omega
theorem Ay {g:Int}{ns:List NodeP}(h:NetOk g ns){w:List Int}(hw:cL (ar ns) w):0<=weight ns w/\weight ns w<=167961600000000:=by
 have:=xi h hw ns.length;rw[Pw (by rw[qm];exact Nat.le_refl _)]at this;exact this
theorem Az {l:List Int}{b:Int}(h:∀ x∈l,0<=x/\x<=b):0<=l.sum/\l.sum<=l.length*b:=by
 induction l with
 | nil=>simp
 | cons a l ih =>
  have h1:=h a (by simp);have h2:=ih fun x hx=>h x (by simp [hx]);rw[Qd,List.length_cons,show ((l.length+1:Nat):Int)=l.length+1 from rfl,SE];omega
theorem AA {g:Int}{ns:List NodeP}(h:NetOk g ns){r:List Int}(hr:r.length=ns.length)(k:Nat):
  0<=(((dp (ar ns) r).take k).map (weight ns)).sum/\(((dp (ar ns) r).take k).map (weight ns)).sum<=171992678400000000:=by
 have h1:=Az (l:=((dp (ar ns) r).take k).map (weight ns)) (b:=167961600000000) fun x hx=>by
  obtain⟨w,hw,rfl⟩:=PQ.1 hx;exact Ay h (Ax (jQ h) (by rw[hr,bR]) (PW hw))
 have h2:=KN h hr;rw[Px,PC]at h1;have h3:((min k (dp (ar ns) r).length:Nat):Int)*167961600000000<=1024*167961600000000:=by omega
 omega
def eT (ns:List NodeP)(xs:List (List Int))(k:Nat):List Int:=(xs.take k).map (dc ns)++List.replicate (xs.length - k) 0
theorem KO (ns:List NodeP)(xs:List (List Int))(k:Nat)(hk:k<=xs.length):(eT ns xs k).length=xs.length:=by simp [eT];omega
theorem KP {ns:List NodeP}{xs:List (List Int)}{k:Nat}{r:List Int}(h:xs[k]?=some r):eT ns xs (k+1)=(eT ns xs k).set k (dc ns r):=by
 have hl:=get_lt h;unfold eT;rw[aO h,Qj,Qg _ _ (by simp;omega)];have e:k - ((xs.take k).map (dc ns)).length=0:=by simp;omega
 rw[e,show xs.length - k=(xs.length - (k+1))+1 by omega,Ry];simp
theorem KR {α:Type}{l:List α}{i:Nat}{x:α}(h:l[i]?=some x):l.set i x=l:=by
 refine Qf fun j=>?_;rw[Rp];split
 ·rename_i e;subst e;rw[Pv (get_lt h),h]
 ·rfl
theorem KS {ns:List NodeP}{xs:List (List Int)}{k:Nat}{r:List Int}(h:xs[k]?=some r):(eT ns xs k)[k]?=some 0:=by
 have hl:=get_lt h;unfold eT;rw[PI (by simp;omega),R9];rw[Pv (by simp;omega)]
set_option maxHeartbeats 2000000 in
theorem AB (g:Int)(ns:List NodeP)(h:NetOk g ns)(cs:List Int)(xs:List (List Int))(hx40:xs.length<=64)(hrow:∀ r∈xs,r.length=ns.length)(H:AHeap)(K:ARes->AHeap->Prop)(hK:K (.ret (ae (xs.map (dc ns)))) H):
  ab Try.prog G0 42 [aG g ns,bt cs xs] H K:=by
 refine ab.clo ⟨_,Try.func42,rfl,rfl⟩ fun hcl=>?_;have n8:=h.n1;refine ab.aZ (n:=37) (rs:=[.tmp 4]) Try.func42 rfl rfl rfl (by decide) (by kernel_rfl) (by simp) ?_;simp only[go_sem,aG,cf,bt,ay];refine⟨by omega,?_⟩;obtain⟨H1,hH1⟩:∃ H1,H1=ext H [.arr 0 35 [aa g,.vec ns.length (aq ns)],.arr 0 42 [.vec cs.length (ints cs),.vec xs.length (xs.map ae)],.arr 0 3 (List.replicate xs.length (aa 0)),.arr 0 39 [.own (H.next+2) 0 0 xs.length 1]]:=⟨_,rfl⟩
 have n1:H1.next=H.next+4:=by rw[hH1];rfl
 have o1:Over H H1:=by rw[hH1];exact .ext _ _
 have g0:H1.get H.next=some (.arr 0 35 [aa g,.vec ns.length (aq ns)]):=by rw[hH1];exact aY H _ 0 (by simp)
 have g2:H1.get (H.next+2)=some (.arr 0 3 (ints (eT ns xs 0))):=by
  rw[hH1,aY H _ 2 (by simp)];simp [eT,ints,aa]
 have g3:H1.get (H.next+3)=some (.arr 0 39 [.own (H.next+2) 0 0 xs.length 1]):=by rw[hH1];exact aY H _ 3 (by simp)
 refine W.en (fun E=>E 2=.ptr H.next 0 0 /\ E 5=.ptr (H.next+3) 0 0 /\ E 15=.vec xs.length (xs.map ae) /\ E 16=aa xs.length /\ E 17=aa 0) (by simp only[go_sem]) fun E ⟨e2,e5,e15,e16,e17⟩=>?_
 show W _ _ _ _ _ _ ⟨E,ext H [.arr 0 35 [aa g,.vec ns.length (aq ns)],.arr 0 42 [.vec cs.length (ints cs),.vec xs.length (xs.map ae)],.arr 0 3 (List.replicate xs.length (aa 0)),.arr 0 39 [.own (H.next+2) 0 0 xs.length 1]]⟩;rw[<- hH1];refine W.aN 34426716352 (by rfl) (fun ρ H'=>∃ i:Nat,ρ 17=aa i/\i<=xs.length/\H1.next<=H'.next/\(∀ id,id<H1.next->id≠H.next+2->H'.get id=H1.get id)/\H'.get (H.next+2)=some (.arr 0 3 (ints (eT ns xs i)))) (fun ρ H=>xs.length - (iv (ρ 17)).toNat) ?_ ?_
 ·exact⟨0,e17,by omega,Nat.le_refl _,fun _ _ _=>rfl,g2⟩
 rintro ρ H' ⟨i,h17,hi,hn,hk,hg2⟩;refine W.en (fun F=>F 2=.ptr H.next 0 0 /\ F 5=.ptr (H.next+3) 0 0 /\ F 15=.vec xs.length (xs.map ae) /\ F 16=aa xs.length /\ F 17=aa i) (by simp only[go_sem,e2,e5,e15,e16,h17]) fun F ⟨f2,f5,f15,f16,f17⟩=>?_
 by_cases hb:(i:Int)<xs.length;rotate_left
 ·have ei:i=xs.length:=by omega
  refine W.vs ?_;have l3:=aj ((hk (H.next+3) (by omega) (by omega)).trans g3);simp only[go_sem,f5,f16,f17,hb,l3];have em:eT ns xs i=xs.map (dc ns):=by rw[ei];simp [eT]
  rw[em]at hg2;have ovx:Over H H':=⟨by omega,fun id hi=>(hk id (by omega) (by omega)).trans (o1.old id hi)⟩
  exact av.bq (v':=ae (xs.map (dc ns))) aK hcl ovx (Fz.ints (by omega) hg2 (by simp) fun j hj=>by rw[Nat.zero_add,fU];simp only[Pr hj,Option.map_some]) hK
 obtain⟨r,hr⟩:=get_of_lt (l:=xs) (i:=i) (by omega);have hr':=lZ hr;have hrn:=aL hr';have hrl:=hrow r (Pq hr);have lE:∀ L,(ext H' L).live H.next 0=some (35,[aa g,.vec ns.length (aq ns)]):=fun L=>aj ((bY _ _ _ (by omega)).trans ((hk H.next (by omega) (by omega)).trans g0));refine W.vs ?_;simp only[go_sem,f2,f15,f16,f17,hb,hr',hrn,lE];obtain⟨Ha,hHa⟩:∃ Ha,Ha=ext H' [.arr 0 3 [aa i]]:=⟨_,rfl⟩
 obtain⟨Hb,hHb⟩:∃ Hb,Hb=ext Ha [.arr 0 127 [aa g,.vec ns.length (aq ns),.vec r.length (ints r)]]:=⟨_,rfl⟩
 have na:Ha.next=H'.next+1:=by rw[hHa];rfl
 have nb:Hb.next=H'.next+2:=by rw[hHb];show Ha.next+1=_;rw[na]
 have ka:Ha.get H'.next=some (.arr 0 3 [aa i]):=by rw[hHa];exact cJ
 have kb:Hb.get (H'.next+1)=some (.arr 0 127 [aa g,.vec ns.length (aq ns),.vec r.length (ints r)]):=by rw[hHb,<- na];exact cJ
 have oab:∀ id,id<H'.next+1->Hb.get id=Ha.get id:=fun id hh=>by rw[hHb];exact eF (by omega)
 have oa:∀ id,id<H'.next->Hb.get id=H'.get id:=fun id hh=>by rw[oab id (by omega),hHa];exact eF hh
 refine az.clo (KM g ns r _ _ ⟨trivial,?_⟩);simp only[go_sem];refine W.env fun E1 hE1=>?_;have k2:E1 2=.ptr H.next 0 0:=by rw[hE1];simp only[go_sem,f2]
 have k5:E1 5=.ptr (H.next+3) 0 0:=by rw[hE1];simp only[go_sem,f5]
 have k6:E1 6=.ptr H'.next 0 0:=by rw[hE1];simp only[go_sem]
 have k15:E1 15=.vec xs.length (xs.map ae):=by rw[hE1];simp only[go_sem,f15]
 have k16:E1 16=aa xs.length:=by rw[hE1];simp only[go_sem,f16]
 have k17:E1 17=aa i:=by rw[hE1];simp only[go_sem,f17]
 have k25:E1 25=.clo 88 [] [.ptr (H'.next+1) 0 0]:=by rw[hE1];rfl
 clear hE1;show W _ _ _ _ _ _ ⟨E1,ext (ext H' [.arr 0 3 [aa i]]) [.arr 0 127 [aa g,.vec ns.length (aq ns),.vec r.length (ints r)]]⟩;rw[<- hHa,<- hHb];have w1:=Ps ((i:Int)+1) (by omega);have mt:=AA h hrl;obtain⟨D,hD⟩:∃ D,D=dp (ar ns) r:=⟨_,rfl⟩
 have hDl:(kH ns r (Hb.next+1)).length=D.length:=by unfold kH;rw[Px,hD]
 rw[<- hD]at mt;have hm:dc ns r=(D.map (weight ns)).sum:=by rw[hD];rfl
 refine W.KC (f:=88) (first:=[]) (cap:=[.ptr (H'.next+1) 0 0]) (by show E1 25=_;exact k25) (KL g ns h r hrl (H'.next+1) (Hb.next+1) (by omega))
  (fun k Hx=>Hb.next<Hx.next/\(∀ id,id<Hb.next->id≠H.next+2->Hx.get id=Hb.get id)/\Hx.get (H.next+2)=some (.arr 0 3 (ints ((eT ns xs i).set i ((D.take k).map (weight ns)).sum))))
  (fun k Hx hj=>(hj.2.1 _ (by omega) (by omega)).trans kb)
  (fun k H1 H3 hj hw=>⟨by have:=hw.1;omega,fun id h1 h2=>(hw.2 _ (by omega) (by have:=hj.1;omega)).trans (hj.2.1 id h1 h2),(hw.2 _ (by omega) (by have:=hj.1;omega)).trans hj.2.2⟩)
  (fun k Hx hj=>hj.1)
  (fun k H1 b hj=>⟨hj.1,fun id h1 h2=>by rw[ag,Pt (by omega)];exact hj.2.1 id h1 h2,by rw[ag,Pt (by omega)];exact hj.2.2⟩)
  (fun b=>⟨by rw[bb];simp,fun id h1 h2=>eF h1,by
   rw[eF (by omega),oa _ (by omega),hg2];congr 2;simp only[List.take_zero,List.map_nil,List.sum_nil];rw[KR (KS hr)]⟩) (by decide)
  (fun x hx=>by
   unfold kH at hx;obtain⟨w,_,rfl⟩:=PQ.1 hx;rfl) (fun _ _ _=>trivial) (fun k y Hx B Bb hy hj hs hn2 hB hBb=>?_) (fun Hx hj hn2=>?_)
 ·obtain⟨hh1,hh2,hh3⟩:=hj;obtain⟨w,hw,hwN⟩:=hs;rw[<- hD]at hw;have hy':y=[.own (Hb.next+1+1) 0 0 ns.length 1,aa (weight ns w)]:=by
   unfold kH at hy;rw[<- hD,List.getElem?_map,hw]at hy;exact(Option.some.inj hy).symm
  subst hy';refine W.vs ?_;simp only[go_sem,ki,eE,tP,Rk,List.foldl_nil,RX,List.zip_nil_right,hB];obtain⟨H3,hH3⟩:∃ H3,H3=Hx.upd Hb.next Bb:=⟨_,rfl⟩
  rw[<- hH3];obtain⟨st,pd,n',en,ps',as',bo,hBe⟩:=hBb;have n3:H3.next=Hx.next:=by rw[hH3];rfl
  have o3:∀ id,id≠Hb.next->H3.get id=Hx.get id:=fun id hh=>by rw[hH3,ag,Pt hh]
  have jB:H3.get Hb.next=some Bb:=by rw[hH3,ag,Pv rfl]
  refine W.en (fun E2=>E2 5=.ptr (H.next+3) 0 0 /\ E2 6=.ptr H'.next 0 0 /\ E2 9=aa (weight ns w)) (by simp only[go_sem,eE,k5,k6]) fun E2 ⟨m5,m6,m9⟩=>?_
  have l3:=aj ((o3 (H.next+3) (by omega)).trans ((hh2 _ (by omega) (by omega)).trans ((oa _ (by omega)).trans ((hk _ (by omega) (by omega)).trans g3))));have l6:=aj ((o3 H'.next (by omega)).trans ((hh2 _ (by omega) (by omega)).trans ((oab _ (by omega)).trans ka)));have l2:=aj ((o3 (H.next+2) (by omega)).trans hh3);have hml:=KO ns xs i hi;have hil:i<(eT ns xs i).length:=by omega
  have mt1:=mt (k+1);have es:((D.take (k+1)).map (weight ns)).sum=((D.take k).map (weight ns)).sum+weight ns w:=by rw[aO hw];simp
  rw[es]at mt1;have w2:=Ps (((D.take k).map (weight ns)).sum+weight ns w) (by omega);have hgv:((eT ns xs i).set i ((D.take k).map (weight ns)).sum)[i]?=some ((D.take k).map (weight ns)).sum:=PF hil;refine W.vs ?_;simp only[go_sem,m5,m6,m9,l2,l3,l6,hb,hgv,w2,mA];refine⟨by rw[Py];omega,?_⟩;obtain⟨H4,hH4⟩:∃ H4,H4=H3.upd (H.next+2) (.arr 0 3 (setAt (ints ((eT ns xs i).set i ((D.take k).map (weight ns)).sum)) i [.lit (.int .i64 (((D.take k).map (weight ns)).sum+weight ns w))])):=⟨_,rfl⟩
  rw[<- hH4];have n4:H4.next=Hx.next:=by rw[hH4];exact n3
  have k4:∀ id,id≠H.next+2->id≠Hb.next->H4.get id=Hx.get id:=fun id h1 h2=>by rw[hH4,ag,Pt h1,o3 id h2]
  have e4:H4.get (H.next+2)=some (.arr 0 3 (ints ((eT ns xs i).set i ((D.take (k+1)).map (weight ns)).sum))):=by
   rw[hH4,ag,Pv rfl,fL (by rw[Py];omega),RF,es]
  exact⟨by rw[hH4,ag,Pt (by omega)];exact jB,by omega,⟨by omega,fun id h1 h2=>(k4 id h2 (by omega)).trans (hh2 id h1 h2),e4⟩,fun id h1 h2=>k4 id (by omega) (by omega)⟩
 ·rw[hDl,Pw (Nat.le_refl _),<- hm]at hj;simp only[go_sem,k17,w1];have hi1:(i:Int)<xs.length:=hb;refine⟨by omega,⟨i+1,rfl,by omega,by omega,fun id h1 h2=>(hj.2.1 id (by omega) h2).trans ((oa id (by omega)).trans (hk id h1 h2)),by rw[KP hr];exact hj.2.2⟩,by rw[h17];simp only[aa,aW];omega⟩
end Go.Proofs
