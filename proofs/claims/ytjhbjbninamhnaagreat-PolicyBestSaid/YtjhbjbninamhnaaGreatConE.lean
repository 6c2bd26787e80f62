/- Own work: contracts. -/
import Derived.Test.YtjhbjbninamhnaaGreatConD
import Derived.Test.YtjhbjbninamhnaaGreatConC
import Derived.Test.YtjhbjbninamhnaaGreatConB
import Derived.ProofKit
set_option linter.all false
set_option maxRecDepth 100000
namespace Go.Proofs
open Go.Hx
theorem DS {α:Type}{a b:List α}{k:Nat}{x:α}(h:a.take k=b.take k)(ha:a[k]?=some x)(hb:b[k]?=some x):a.take (k+1)=b.take (k+1):=by
 rw[aT ha,aT hb,h]
theorem DT {α:Type}{a b:List α}{k:Nat}(h:a.take k=b.take k)(ha:a.length<=k)(hb:b.length<=k):a=b:=by
 rw[List.take_of_length_le ha,List.take_of_length_le hb]at h;exact h
set_option maxHeartbeats 1000000 in
theorem vG (a b:List (List Int))(ha:(a.length:Int)<2 ^ 62)(har:∀ r∈a,(r.length:Int)<2 ^ 62)(H:AHeap)(K:ARes->AHeap->Prop)(hK:K (.ret (.lit (.bool (decide (a=b))))) H):ae Tryz.prog G0 26 [aA a,aA b] H K:=by
 refine ae.aP (n:=53) (rs:=[.tmp 4]) Tryz.func26 rfl rfl rfl (by decide) (by kernel_rfl) (by simp) ?_;have no:a≠b->ar Tryz.prog G0 H K (.lit (.bool false)) H:=fun h=>by
  rw[decide_eq_false h]at hK;exact ar.mk (Nat.le_refl _) hK
 by_cases hl:(a.length:Int)=b.length;rotate_left
 ·simp only[go_sem,aA,hl];exact no fun h=>hl (by rw[h])
 simp only[go_sem,aA,hl];refine W.aK 9007199254737008 (by rfl) (fun ρ Hx=>Hx=H/\∃ k:Nat,ρ 5=aa k/\k<=a.length/\a.take k=b.take k) (fun ρ H=>a.length - (iv (ρ 5)).toNat) ?_ ?_
 ·simp only[go_sem];exact⟨0,rfl,by omega,rfl⟩
 rintro ρ Hx ⟨rfl,k,h5,hk,he⟩;refine af _ _ _ (by rfl) ?_;by_cases hb:(k:Int)<a.length;rotate_left
 ·simp only[go_sem,h5,hl];have hab:a=b:=DT he (by omega) (by omega);rw[decide_eq_true hab]at hK;have hb2:¬ (k:Int)<b.length:=by omega
  simp only[go_sem,hb2];exact ar.mk (Nat.le_refl _) hK
 obtain⟨x,hx⟩:=get_of_lt (l:=a) (i:=k) (by omega);obtain⟨y,hy⟩:=get_of_lt (l:=b) (i:=k) (by omega);have hx':(a.map ah)[k]?=some (ah x):=by rw[List.getElem?_map,hx];rfl
 have hy':(b.map ah)[k]?=some (ah y):=by rw[List.getElem?_map,hy];rfl
 have hxn:=aL hx;have hyn:=aL hy;have hb2:(k:Int)<b.length:=by omega
 have hxr:=har x (List.mem_of_getElem? hx);have w1:=IntWalk.i64_in ((k:Int)+1) (by omega);have nxy:x≠y->a≠b:=fun h e=>h (by subst e;rw[hx]at hy;exact Option.some.inj hy);simp only[go_sem,h5,hl,hb2];refine W.draw 10 [0,0,3,7,15,0,0,96,224,480] Tryz.mixed (by kernel_rfl) (by kernel_rfl) ?_;by_cases hxy:(x.length:Int)=y.length;rotate_left
 ·simp only[go_sem,h5,hb,hb2,hx',hy',hxn,hyn,hxy];exact no (nxy fun e=>hxy (by rw[e]))
 simp only[go_sem,h5,hb,hb2,hx',hy',hxn,hyn,hxy];refine W.aK 9007198717870160 (by rfl) (fun ρ2 Hz=>Hz=Hx/\∃ j:Nat,ρ2 6=aa j/\j<=x.length/\x.take j=y.take j) (fun ρ2 H=>x.length - (iv (ρ2 6)).toNat) ?_ ?_
 ·simp only[go_sem];exact⟨0,rfl,by omega,rfl⟩
 rintro ρ2 Hz ⟨rfl,j,h6,hj,he2⟩;refine af _ _ _ (by rfl) ?_;by_cases hc:(j:Int)<y.length;rotate_left
 ·simp only[go_sem,h5,h6,hb,hx',hxn,hxy,hc,w1];have hxy2:x=y:=DT he2 (by omega) (by omega);exact⟨⟨k+1,by simp,by omega,DS he hx (by rw[hxy2];exact hy)⟩,by omega⟩
 obtain⟨u,hu⟩:=get_of_lt (l:=x) (i:=j) (by omega);obtain⟨v,hv⟩:=get_of_lt (l:=y) (i:=j) (by omega);have hun:=aL hu;have hvn:=aL hv;have hc2:(j:Int)<x.length:=by omega
 have w2:=IntWalk.i64_in ((j:Int)+1) (by omega);simp only[go_sem,h5,h6,hb,hx',hxn,hxy,hc];refine W.draw 14 [0,0,3,7,0,31,63,0,0,384,896,0,3968,8064] Tryz.mixed (by kernel_rfl) (by kernel_rfl) ?_;by_cases huv:u=v
 ·subst huv;simp only[go_sem,h5,h6,hb,hb2,hx',hy',hxn,hyn,hxy,hc,hu,hv,hun,hvn,w2];exact⟨⟨j+1,by simp,by omega,DS he2 hu hv⟩,by omega⟩
 ·simp only[go_sem,h5,h6,hb,hb2,hx',hy',hxn,hyn,hxy,hc,hu,hv,hun,hvn,huv];exact no (nxy fun e=>huv (by subst e;rw[hu]at hv;exact Option.some.inj hv))
structure RatF (S D a b g:Int):Prop where
 g1:1<=g
 n:a*g=S
 d:b*g=D
 b1:1<=b
 cop:Int.gcd a b=1
theorem vI {S D:Int}(hD:1<=D):∃ a b g:Int,fW S D=.agg [.lit (.int .i64 a),.lit (.int .i64 b)]/\RatF S D a b g:=by
 obtain⟨G,hG⟩:∃ G,G=Int.gcd S D:=⟨_,rfl⟩
 have g0:0<G:=by rw[hG];exact Int.gcd_pos_of_ne_zero_right _ (by omega)
 obtain⟨a,ha⟩:(G:Int) ∣ S:=by rw[hG];exact Int.gcd_dvd_left ..
 obtain⟨b,hb⟩:(G:Int) ∣ D:=by rw[hG];exact Int.gcd_dvd_right ..
 have gne:(G:Int)≠0:=by omega
 have hgc:G=G*Int.gcd a b:=by
  have h:=Int.gcd_mul_left (G:Int) a b;rw[<- ha,<- hb,<- hG,Int.natAbs_natCast]at h;exact h
 have hc:Int.gcd a b=1:=by
  have:G*1=G*Int.gcd a b:=by omega
  exact(Nat.eq_of_mul_eq_mul_left g0 this).symm
 have hb1:1<=b:=by
  rcases Int.lt_or_le b 1 with h|h
  ·have:(G:Int)*b<=(G:Int)*0:=Int.mul_le_mul_of_nonneg_left (by omega) (by omega);omega
  ·exact h
 refine⟨a,b,G,?_,by omega,by rw[Int.mul_comm];exact ha.symm,by rw[Int.mul_comm];exact hb.symm,hb1,hc⟩;unfold fW;rw[<- hG];have e1:S.tdiv (G:Int)=a:=by rw[ha];exact Int.mul_tdiv_cancel_left a gne
 have e2:D.tdiv (G:Int)=b:=by rw[hb];exact Int.mul_tdiv_cancel_left b gne
 rw[e1,e2]
theorem RatF.bound {S D a b g:Int}(h:RatF S D a b g):a.natAbs<=S.natAbs/\b<=D:=by
 have h1:S.natAbs=a.natAbs*g.natAbs:=by rw[<- h.n,Int.natAbs_mul]
 have h2:D.natAbs=b.natAbs*g.natAbs:=by rw[<- h.d,Int.natAbs_mul]
 have hg:0<g.natAbs:=by have:=h.g1;omega
 have l1:=Nat.le_mul_of_pos_right a.natAbs hg;have l2:=Nat.le_mul_of_pos_right b.natAbs hg;have l3:b.natAbs<=D.natAbs:=by omega
 have hb:=h.b1;have hD:0<=D:=by rw[<- h.d];exact Int.mul_nonneg (by omega) (by have:=h.g1;omega)
 omega
theorem DU {x y m:Int}(hm:1<=m):R01.cK (x*m) (y*m)=R01.cK x y:=by
 have h1:x*m<y*m↔x<y:=Int.mul_lt_mul_right (by omega);have h2:x*m=y*m↔x=y:=⟨fun h=>Int.eq_of_mul_eq_mul_right (by omega) h,fun h=>by rw[h]⟩
 unfold R01.cK;simp only[h1,h2]
theorem RatF.cmp {S1 S2 D a1 b1 g1 a2 b2 g2:Int}(hD:1<=D)(h1:RatF S1 D a1 b1 g1)(h2:RatF S2 D a2 b2 g2):R01.cK (a1*b2) (a2*b1)=R01.cK S1 S2:=by
 have hg:1<=g1*g2:=by
  have:=Int.mul_le_mul h1.g1 h2.g1 (by omega) (by have:=h1.g1;omega);omega
 rw[<- DU hg,<- DU (x:=S1) (y:=S2) hD];congr 1
 ·rw[<- h1.n,<- h2.d];simp only[Int.mul_assoc,Int.mul_comm,Int.mul_left_comm]
 ·rw[<- h2.n,<- h1.d];simp only[Int.mul_assoc,Int.mul_comm,Int.mul_left_comm]
theorem RatF.check {S D a b g:Int}(h:RatF S D a b g)(hS:S.natAbs<=4611686018427387903)(hD:D<=4611686018427387903):R01.lW a b=0:=by
 have hb:=h.bound;have:=h.b1;unfold R01.lW R01.tf;rw[if_neg (by omega),if_neg (by rw[h.cop];simp)]
theorem zd {x:InfP}(hok:InfOk x):1<=x.grain ^ x.nodes.length/\x.grain ^ x.nodes.length<=167961600000000:=by
 have hg:=hok.net.g1;refine⟨Int.pow_pos (by omega),?_⟩;have h1:=nI (b:=60) (by omega) (l:=List.replicate x.nodes.length x.grain) fun c hc=>by rw[List.eq_of_mem_replicate hc];omega
 rw[List.length_replicate]at h1;have h2:=sO x.nodes.length (by have:=hok.n.n1;omega);have h3:∀ k:Nat,az (List.replicate k x.grain)=x.grain ^ k:=fun k=>by
  induction k with
  | zero=>rw[List.replicate_zero,iL,Int.pow_zero]
  | succ k ih=>rw[List.replicate_succ,jT,ih,Int.pow_succ,Int.mul_comm]
 rw[h3]at h1;omega
theorem QG {S:Nat->Prop}{lo nx:Nat}{H:AHeap}{e1 e0:TypeId}{v:AVal}{ids:List Nat}{p:List (List Int)}(h:OwnM lo H e1 e0 v ids (p.map ints))(hS:∀ i,lo<=i->S i):Fz S H nx v (aA p):=by
 have:=h.fz (S:=S) (nx:=nx) hS fun r hr c hc=>by
  obtain⟨q,_,rfl⟩:=List.mem_map.1 hr;obtain⟨a,_,rfl⟩:=List.mem_map.1 hc;exact .lit _
 rw[List.length_map,List.map_map]at this;have e:(p.map ((fun r:List AVal=>AVal.vec r.length r) ∘ ints))=p.map ah:=List.map_congr_left fun r _=>by
  show AVal.vec (ints r).length (ints r)=ah r;rw[aR];rfl
 rw[e]at this;exact this
def DG (d:InfP)(lvh:AVal)(tot:Int):List AVal:=[.lit (.int .i64 d.grain),.vec d.nodes.length (aB d.nodes),.lit (.int .u64 (d.decs:Int)),.vec d.utils.length (aS d.utils),lvh,ah (dm d),ah (de d),.lit (.int .i64 tot)]
theorem DH {d:InfP}{s:Nat}{lvh:AVal}{tot:Int}(hok:InfOk d)(ht:-1000000000000000000<=tot/\tot<=1000000000000000000)(hw:1<=d.grain ^ d.nodes.length/\d.grain ^ d.nodes.length<=1000000000000000000)(H:AHeap)(hs:H.get s=some (.arr 0 130 (DG d lvh tot)))(hl:s<H.next)(K:ARes->AHeap->Prop)(hK:K (.ret (fW tot (d.grain ^ d.nodes.length))) H):
  ae Tryz.prog G0 48 [.ptr s 0 0] H K:=by
 refine ae.clo ⟨_,Tryz.func48,rfl,rfl⟩ fun hcl=>?_;have n8:=hok.n.n1;have hg:=hok.net.g1;refine ae.d4 (n:=20) (rs:=[.cell 2 41]) Tryz.func48 rfl rfl rfl (by decide) (by simp) ?_;refine W.seq (af _ _ _ (by rfl) ?_);simp only[go_sem];obtain⟨H1,hH1⟩:∃ H1,H1=ext H [.arr 0 41 [.lit (.int .i64 0),.lit (.int .i64 0)]]:=⟨_,rfl⟩
 have g1:H1.get H.next=some (.arr 0 41 [.lit (.int .i64 0),.lit (.int .i64 0)]):=by rw[hH1];exact bL
 have o1:Over H H1:=by rw[hH1];exact .ext _ _
 rw[<- hH1];clear hH1;have l1:=ag g1;have ls:=ag ((o1.old s hl).trans hs);unfold DG at ls;refine W.seq ?_;refine W.draw 16 [0,1,3,7,0,16,48,112,240,0,512,1536,3584,7680,15872,32752] Tryz.mixed (by kernel_rfl) (by kernel_rfl) ?_;simp only[go_sem,ls];refine⟨_,[],bX.pure fun H2=>CY d.grain d.nodes.length hg (by omega) H2 _ ⟨rfl,rfl⟩,?_⟩;refine ay.clo (CZ tot (d.grain ^ d.nodes.length) (by omega) (by omega) H1 _ ⟨trivial,?_⟩);unfold fW at hK ⊢;simp only[go_sem,l1];obtain⟨H2,hH2⟩:∃ H2,H2=H1.upd H.next (.arr 0 41 [.lit (.int .i64 (tot.tdiv (Int.gcd tot (d.grain ^ d.nodes.length):Int))),.lit (.int .i64 ((d.grain ^ d.nodes.length).tdiv (Int.gcd tot (d.grain ^ d.nodes.length):Int)))]):=⟨_,rfl⟩
 have o2:Over H H2:=by rw[hH2];exact Over.upd (id:=H.next) o1 (Nat.le_refl _) _
 have l2:H2.live H.next 0=_:=ag (show H2.get H.next=_ by rw[hH2,aj,if_pos rfl]);rw[<- hH2];refine af _ _ _ (by rfl) ?_;simp only[go_sem,l2];refine ar.bB aI hcl o2 (.agg rfl fun i hi _=>?_) hK
 match i,hi with
 | 0,_=>exact .lit _
 | 1,_=>exact .lit _
theorem QH {d:InfP}{r:List Nat}{lo s:Nat}{lvh:AVal}{I:Nat->Nat->Nat}{T:TabS}{tot:Int}(hok:InfOk d)(ht:-1000000000000000000<=tot/\tot<=1000000000000000000)(hw:1<=d.grain ^ d.nodes.length/\d.grain ^ d.nodes.length<=1000000000000000000)(H:AHeap)(hS:SolvH d r lo s lvh I T tot H)(K:ARes->AHeap->Prop)(hK:∀ H',Over H H'->K (.ret (fW tot (d.grain ^ d.nodes.length))) H'):
  ae Tryz.prog G0 48 [.ptr s 0 0] H K :=
 DH hok ht hw H hS.top hS.slo.2 K (hK H (.refl _))
theorem vz (d:InfP)(hf:InfFit d)(h6:d.nodes.length<=6)(H:AHeap)(K:ARes->AHeap->Prop)
  (hE:cQ d=4->K (.ret (.tup [.lit (.slice none 0 0),.agg [aa 0,aa 0],aa 210])) H)
  (hE2:cQ d≠4->cQ d≠0->K (.ret (.tup [.lit (.slice none 0 0),.agg [aa 0,aa 0],aa (cQ d)])) H)
  (hK:∀ r,fT d=some r->InfOk d->OrdR d r->K (.ret (.tup [aA (fM d r),fW (gJ d r) (d.grain ^ d.nodes.length),aa 0])) H):
  ae Tryz.prog G0 11 [dW d] H K:=by
 refine ae.clo ⟨_,Tryz.func11,rfl,rfl⟩ fun hcl=>?_;refine ae.d4 (n:=20) (rs:=[.tmp 2,.cell 3 41,.tmp 4]) Tryz.func11 rfl rfl rfl (by decide) (by simp) ?_;refine W.seq (af _ _ _ (by rfl) ?_);simp only[go_sem,iA,cw];obtain⟨H1,hH1⟩:∃ H1,H1=ext H [.arr 0 38 [.lit (.int .i64 d.grain),.vec d.nodes.length (aB d.nodes),.lit (.int .u64 (d.decs:Int)),.vec d.utils.length (aS d.utils)],.arr 0 41 [.lit (.int .i64 0),.lit (.int .i64 0)]]:=⟨_,rfl⟩
 have g1:H1.get H.next=some (.arr 0 38 [.lit (.int .i64 d.grain),.vec d.nodes.length (aB d.nodes),.lit (.int .u64 (d.decs:Int)),.vec d.utils.length (aS d.utils)]):=by rw[hH1];exact bR ..
 have g2:H1.get (H.next+1)=some (.arr 0 41 [.lit (.int .i64 0),.lit (.int .i64 0)]):=by rw[hH1];exact aZ H _ 1 (by simp)
 have n1:H1.next=H.next+2:=by rw[hH1];rfl
 have o1:Over H H1:=by rw[hH1];exact .ext _ _
 rw[<- hH1];clear hH1;have l1:=ag g1;refine W.seq (af _ _ _ (by rfl) ?_);simp only[go_sem,l1];have zero:∀ (H2:AHeap) (e:Int),Over H1 H2->K (.ret (.tup [.lit (.slice none 0 0),.agg [aa 0,aa 0],aa e])) H->ar Tryz.prog G0 H K (.tup [.lit (.slice none 0 0),.agg [aa 0,aa 0],aa e]) (H2.upd (H.next+1) (.arr 0 41 [aa 0,aa 0])):=fun H2 e ho hk=>by
  refine ar.bB aI hcl (Over.upd (id:=H.next+1) (o1.trans ho) (Nat.le_succ _) _) (.tup rfl fun i hi _=>?_) hk
  match i,hi with
  | 0,_=>exact .lit _
  | 1,_ =>
   refine .agg rfl fun i hi _=>?_
   match i,hi with
   | 0,_=>exact .lit _
   | 1,_=>exact .lit _
  | 2,_=>exact .lit _
 refine ay.clo (Dp d hf h6 H1 _ (fun H2 ho he=>⟨trivial,?_⟩) (fun H2 ho he he2=>⟨trivial,?_⟩) fun r s lvh I H2 hr hok ho hS hnil=>⟨trivial,?_⟩)
 ·have g2':=ag ((ho.old _ (by omega)).trans g2);simp only[go_sem];refine W.seq (af _ _ _ (by rfl) ?_);simp only[go_sem,g2'];exact zero H2 210 ho (hE he)
 ·have g2':=ag ((ho.old _ (by omega)).trans g2);simp only[go_sem];refine W.seq (af _ _ _ (by rfl) ?_);simp only[go_sem,he2,g2'];exact zero H2 (cQ d) ho (hE2 he he2)
 simp only[go_sem];refine W.seq (af _ _ _ (by rfl) ?_);simp only[go_sem];obtain⟨hPo,hT,_⟩:=yL hok (qG hr);have hro:=qG hr;have hrl:r.length<=12:=by
  have h1:=Dn _ _ _ _ hr;have h2:(aE d).length<=d.nodes.length:=jg;simp at h1;omega
 have hb:=sj h6 (fM d r) hok hPo _ (Nat.le_refl _);have hsum:gY (bY d (fixC (fM d r))) d.utils (bH d.nodes)=gJ d r:=by rw[<- hT];exact sg hok hPo
 rw[hsum]at hb;have htot:iV (aq d r) 0=gJ d r:=if_pos (.inr rfl);rw[htot]at hS;have hK:=hK r hr hok hro;have hsl:=hS.slo;refine af _ _ _ (by rfl) ?_;simp only[go_sem];refine ay.clo (choose_spec hok hro hrl (by omega) H2 hS hnil _ fun v ids T' H3 n3 o3 hS3 hM=>⟨trivial,?_⟩);simp only[go_sem];refine ay.clo (QH hok hb (by have:=zd hok;omega) H3 hS3 _ fun H4 o4=>⟨trivial,?_⟩);have k4:∀ i,i<H1.next->H4.get i=H1.get i:=fun i h=>by
  rw[o4.old i (by have:=ho.next;omega),o3 i (by have:=ho.next;omega) (by omega) fun k j h1 h2=>by have:=(hS.levs.rng k j h1 h2).1;omega];exact ho.old i h
 have l4:=ag ((k4 _ (by omega)).trans g2);unfold fW at hK ⊢;simp only[go_sem,l4];have o5:Over H H4:=⟨by have:=o4.next;have:=ho.next;omega,fun i h=>(k4 i (by omega)).trans (o1.old i h)⟩
 have hM4:=hM.keep (H':=H4) o4.next fun i _ h=>o4.old i h;have hM5:∀ b,OwnM H1.next (H4.upd (H.next+1) b) 46 3 v ids ((fM d r).map ints):=fun b=>hM4.keep (by rw[aG];exact Nat.le_refl _) fun i h _=>by rw[aj,if_neg (by omega)]
 refine ar.bB (v':=.tup [aA (fM d r),_,aa 0]) aI hcl (Over.upd (id:=H.next+1) o5 (Nat.le_succ _) _) (.tup rfl fun i hi _=>?_) hK
 match i,hi with
 | 0,_=>exact QG (hM5 _) fun i h=>by omega
 | 1,_ =>
  refine .agg rfl fun i hi _=>?_
  match i,hi with
  | 0,_=>exact .lit _
  | 1,_=>exact .lit _
 | 2,_=>exact .lit _
theorem QI {S1 S2 D a1 b1 g1 a2 b2 g2:Int}(e1:fW S1 D=.agg [.lit (.int .i64 a1),.lit (.int .i64 b1)])(h1:RatF S1 D a1 b1 g1)(e2:fW S2 D=.agg [.lit (.int .i64 a2),.lit (.int .i64 b2)])(h2:RatF S2 D a2 b2 g2):(a1 == a2 && b1 == b2)=decide (S1=S2):=by
 by_cases h:S1=S2
 ·subst h;rw[e1]at e2;injection e2 with e2
  injection e2 with p q
  injection q with q _
  injection p with p
  injection q with q
  injection p with _ p
  injection q with _ q
  rw[p,q];simp
 ·rw[decide_eq_false h];by_cases ha:a1=a2
  ·by_cases hb:b1=b2
   ·exfalso;subst ha hb;have:b1*g1=b1*g2:=(by rw[h1.d,h2.d]);have:=Int.eq_of_mul_eq_mul_left (by have:=h1.b1;omega) this;exact h (by rw[<- h1.n,<- h2.n,this])
   ·simp [hb]
  ·simp [ha]
theorem vA (d:InfP)(hf:InfFit d)(h6:d.nodes.length<=6)(p:List (List Int))(hp:po p)(H:AHeap)(K:ARes->AHeap->Prop)
  (hE:cQ d=4->K (.ret (.tup [.lit (.bool false),aa 210])) H)
  (hE2:cQ d≠4->cQ d≠0->K (.ret (.tup [.lit (.bool false),aa (cQ d)])) H)
  (hP:cQ d=0->eC d p≠0->K (.ret (.tup [.lit (.bool false),aa (eC d p)])) H)
  (hK:∀ r,fT d=some r->InfOk d->OrdR d r->PolOk d p->K (.ret (.tup [.lit (.bool (decide (gK d p=gJ d r))),aa 0])) H):
  ae Tryz.prog G0 15 [dW d,aA p] H K:=by
 refine ae.clo ⟨_,Tryz.func15,rfl,rfl⟩ fun hcl=>?_;have two:∀ (b:Bool) (e:Int),Fz (fun id=>H.next<=id) H H.next (.tup [.lit (.bool b),aa e]) (.tup [.lit (.bool b),aa e]):=fun b e=>.tup rfl fun i hi _=>match i,hi with
  | 0,_=>.lit _
  | 1,_=>.lit _
 refine ae.d4 (n:=30) (rs:=[.tmp 4,.tmp 5]) Tryz.func15 rfl rfl rfl (by decide) (by simp) ?_;refine W.seq (af _ _ _ (by rfl) ?_);simp only[go_sem,iA,cw];obtain⟨H1,hH1⟩:∃ H1,H1=ext H [.arr 0 38 [.lit (.int .i64 d.grain),.vec d.nodes.length (aB d.nodes),.lit (.int .u64 (d.decs:Int)),.vec d.utils.length (aS d.utils)]]:=⟨_,rfl⟩
 have g1:H1.get H.next=some (.arr 0 38 [.lit (.int .i64 d.grain),.vec d.nodes.length (aB d.nodes),.lit (.int .u64 (d.decs:Int)),.vec d.utils.length (aS d.utils)]):=by rw[hH1];exact bR ..
 have n1:H1.next=H.next+1:=by rw[hH1];rfl
 have o1:Over H H1:=by rw[hH1];exact .ext _ _
 rw[<- hH1];clear hH1;have l1:=ag g1;have fin:∀ (H2:AHeap) (b:Bool) (e:Int),Over H H2->K (.ret (.tup [.lit (.bool b),aa e])) H->ar Tryz.prog G0 H K (.tup [.lit (.bool b),aa e]) H2:=fun H2 b e ho hk=>by
  refine ar.bB aI hcl ho (.tup rfl fun i hi _=>?_) hk
  match i,hi with
  | 0,_=>exact .lit _
  | 1,_=>exact .lit _
 refine W.seq (af _ _ _ (by rfl) ?_);simp only[go_sem,l1];refine ay.clo (Dp d hf h6 H1 _ (fun H2 ho he=>⟨trivial,?_⟩) (fun H2 ho he he2=>⟨trivial,?_⟩) fun r s lvh I H2 hr hok ho hS hnil=>⟨trivial,?_⟩)
 ·simp only[go_sem];refine W.seq (af _ _ _ (by rfl) ?_);simp only[go_sem];exact fin H2 false 210 (o1.trans ho) (hE he)
 ·simp only[go_sem];refine W.seq (af _ _ _ (by rfl) ?_);simp only[go_sem,he2];exact fin H2 false (cQ d) (o1.trans ho) (hE2 he he2)
 have l2:=ag ((ho.old _ (by omega)).trans g1);have hro:=qG hr;have re:cQ d=0:=by unfold cQ;rw[eM hok,hr];rfl
 simp only[go_sem];refine W.seq (af _ _ _ (by rfl) ?_);simp only[go_sem];refine W.seq (af _ _ _ (by rfl) ?_);simp only[go_sem,l2];refine ay.clo (uQ d hf p hp (sj h6 p) _ _ ⟨trivial,?_⟩);by_cases hpe:eC d p=0;rotate_left
 ·have hv:mE d p=.agg [.lit (.int .i64 0),.lit (.int .i64 0)]:=if_neg hpe;rw[hv];simp only[go_sem];refine W.seq (af _ _ _ (by rfl) ?_);simp only[go_sem,hpe];exact fin _ false (eC d p) ((o1.trans ho).trans (.ext _ _)) (hP re hpe)
 have hpo:=(yT.1 hpe).2;have gp:=zd hok;obtain⟨D,hD⟩:∃ D,D=d.grain ^ d.nodes.length:=⟨_,rfl⟩
 rw[<- hD]at gp;obtain⟨ua,ub,ug,hu,huF⟩:=vI (S:=gK d p) (D:=D) gp.1;obtain⟨va,vb,vg,hv,hvF⟩:=vI (S:=gJ d r) (D:=D) gp.1;rw[hpe,yo hok hpo,<- hD,hu];simp only[go_sem];obtain⟨H3,hH3⟩:∃ H3,H3=ext H2 [.arr 0 41 [.lit (.int .i64 ua),.lit (.int .i64 ub)]]:=⟨_,rfl⟩
 have g3:H3.get H2.next=some (.arr 0 41 [.lit (.int .i64 ua),.lit (.int .i64 ub)]):=by rw[hH3];exact bL
 have o3:Over H2 H3:=by rw[hH3];exact .ext _ _
 rw[<- hH3];clear hH3;have l3:=ag g3;have hS3:=hS.keep (H':=H3) o3.next fun i _ h=>o3.old i h;obtain⟨hPo,hT,_⟩:=yL hok hro;have hb:=sj h6 (fM d r) hok hPo _ (Nat.le_refl _);have hsum:gY (bY d (fixC (fM d r))) d.utils (bH d.nodes)=gJ d r:=by rw[<- hT];exact sg hok hPo
 rw[hsum]at hb;have htot:iV (aq d r) 0=gJ d r:=if_pos (.inr rfl);rw[htot]at hS3;have hK:=hK r hr hok hro hpo;rw[<- QI hu huF hv hvF]at hK;refine W.seq (af _ _ _ (by rfl) ?_);simp only[go_sem];refine W.seq ?_;refine W.draw 3 [0,0,2] Tryz.mixed (by kernel_rfl) (by kernel_rfl) ?_;simp only[go_sem,l3];refine⟨_,[s],bX.mk (fun i hi=>by obtain rfl:=List.mem_singleton.1 hi;exact hS3.slo.2) fun H4 h4 h4n=>DH hok hb (by rw[<- hD];omega) H4 ((h4 s (by simp)).trans hS3.top) (by have:=hS3.slo;omega) _ ⟨rfl,rfl⟩,?_⟩;rw[<- hD,hv];simp only[go_sem,AY];refine af _ _ _ (by rfl) ?_;simp only[go_sem];exact fin _ _ 0 ((o1.trans ho).trans o3) hK
theorem RV (d : InfP) (hok : InfOk d) (hf : InfFit d) (p : List (List Int)) (hp : PolOk d p) (hpf : po p) (v0 : Nat) (h0 : v0<d.nodes.length) (hb : d.decs.testBit v0=false)
    (H:AHeap) (K:ARes->AHeap->Prop) (hK:K (.ret (.tup [.lit (.slice none 0 0),aa 2])) H):ae Tryz.prog G0 23 [dW d,aA p,aa v0] H K:=by
  refine ae.clo ⟨_,Tryz.func23,rfl,rfl⟩ fun hcl=>?_;have n8:=hok.n.n1;have hD:=hf.decs;refine ae.aP (n:=74) (rs:=[.tmp 6,.tmp 7]) Tryz.func23 rfl rfl rfl (by decide) (by kernel_rfl) (by simp) ?_;simp only[go_sem,iA,cw,aW];refine ay.clo (yS d hf p hpf _ _ ⟨trivial,?_⟩);rw[nP hok hp];have c1:¬ (v0:Int)<0:=by omega
  have c2:¬ (v0:Int) >= d.nodes.length:=by omega
  have s1:=fun t x y=>lY (P:=Tryz.prog) (t:=t) (x:=x) (y:=y) (k':=.i64) (s:=v0) hD;have s2:=fun t x y=>mW (P:=Tryz.prog) (t:=t) (x:=x) (y:=y) (s:=v0) hD;simp only[go_sem,c1,c2,s1,s2,hb,aW];refine ar.drop aI hcl (.tup rfl fun i hi _=>?_) hK
  match i,hi with
  | 0,_=>exact .lit _
  | 1,_=>exact .lit _
theorem q8 {H:AHeap}{n nx:Nat}(hn:n<=H.next){a:List Int}{e1 e0:TypeId}:Fz (fun id=>n<=id) (ext H [.arr 0 e0 (ints a),.arr 0 e1 [.own H.next 0 0 a.length 1]]) nx (.own (H.next+1) 0 0 1 1) (aA [a]) :=
  FzL.own (by omega) (aZ H _ 1 (by simp)) rfl (.cons (FzL.own hn (bR ..) (by rw[aR,Nat.mul_one]) (zw a)) .nil)
theorem wa {H:AHeap}{n nx:Nat}(hn:n<=H.next){a b:List Int}{e1 e0:TypeId}:Fz (fun id=>n<=id) (ext H [.arr 0 e0 (ints a),.arr 0 e0 (ints b),.arr 0 e1 [.own H.next 0 0 a.length 1,.own (H.next+1) 0 0 b.length 1]]) nx (.own (H.next+2) 0 0 2 1) (aA [a,b]) :=
  FzL.own (by omega) (aZ H _ 2 (by simp)) rfl (.cons (FzL.own hn (bR ..) (by rw[aR,Nat.mul_one]) (zw a)) (.cons (FzL.own (by omega) (aZ H _ 1 (by simp)) (by rw[aR,Nat.mul_one]) (zw b)) .nil))
set_option maxHeartbeats 4000000 in
theorem RW (H:AHeap)(K:ARes->AHeap->Prop)(hK:K (.ret (.lit (.bool true))) H):ae Tryz.prog G0 21 [] H K:=by
  refine ae.clo ⟨_,Tryz.func21,rfl,rfl⟩ fun hcl=>?_;have fA:=uI kR;have fE:=uI pB;have fN:=uI Ea;have rA:∀ r,fT dA=some r->[1]=r:=fun r h=>Option.some.inj (zr.symm.trans h);have rE:∀ r,fT dE=some r->[0,2]=r:=fun r h=>Option.some.inj (zt.symm.trans h);refine ae.d4 (n:=173) (rs:=[.tmp 0]) Tryz.func21 rfl rfl rfl (by decide) (by simp) ?_;refine W.seq (af _ _ _ (by rfl) ?_);simp only[go_sem,aW];refine W.seq (af _ _ _ (by rfl) ?_);simp only[go_sem,aW];refine ay.clo (RT _ _ ⟨trivial,?_⟩);simp only[go_sem,aW];refine ay.clo (RU _ _ ⟨trivial,?_⟩);simp only[go_sem,iA,cw,aW];obtain⟨H1,hH1⟩:∃ H1,H1=ext H [.arr 0 38 [.lit (.int .i64 dA.grain),.vec dA.nodes.length (aB dA.nodes),.lit (.int .u64 (dA.decs:Int)),.vec dA.utils.length (aS dA.utils)],.arr 0 38 [.lit (.int .i64 dE.grain),.vec dE.nodes.length (aB dE.nodes),.lit (.int .u64 (dE.decs:Int)),.vec dE.utils.length (aS dE.utils)]]:=⟨_,rfl⟩
  have g1:H1.get H.next=some (.arr 0 38 [.lit (.int .i64 dA.grain),.vec dA.nodes.length (aB dA.nodes),.lit (.int .u64 (dA.decs:Int)),.vec dA.utils.length (aS dA.utils)]):=by rw[hH1];exact bR ..
  have g2:H1.get (H.next+1)=some (.arr 0 38 [.lit (.int .i64 dE.grain),.vec dE.nodes.length (aB dE.nodes),.lit (.int .u64 (dE.decs:Int)),.vec dE.utils.length (aS dE.utils)]):=by rw[hH1];exact aZ H _ 1 (by simp)
  have n1:H1.next=H.next+2:=by rw[hH1];rfl
  have o1:Over H H1:=by rw[hH1];exact .ext _ _
  rw[<- hH1];clear hH1;have l1:=ag g1;refine W.seq (af _ _ _ (by rfl) ?_);simp only[go_sem,l1,aW];refine ay.clo (vz dA fA (by decide) H1 _ (fun he=>absurd (qZ.symm.trans he) (by decide)) (fun _ he=>absurd qZ he) fun r hr _ _=>⟨trivial,?_⟩);rw[<- rA r hr,RK,zu,RI];simp only[go_sem,aW];obtain⟨H2,hH2⟩:∃ H2,H2=ext H1 [.arr 0 41 [.lit (.int .i64 33),.lit (.int .i64 4)]]:=⟨_,rfl⟩
  have q1:H2.get H1.next=some (.arr 0 41 [.lit (.int .i64 33),.lit (.int .i64 4)]):=by rw[hH2];exact bL
  have n2:H2.next=H1.next+1:=by rw[hH2];rfl
  have o2:Over H1 H2:=by rw[hH2];exact .ext _ _
  rw[<- hH2];clear hH2;have l2:=ag ((o2.old _ (by omega)).trans g2);refine W.seq (af _ _ _ (by rfl) ?_);simp only[go_sem,l2,aW];refine ay.clo (vz dE fE (by decide) H2 _ (fun he=>absurd (vZ.symm.trans he) (by decide)) (fun _ he=>absurd vZ he) fun r hr _ _=>⟨trivial,?_⟩);rw[<- rE r hr,RL,Eg,RJ];simp only[go_sem,aW];obtain⟨H3,hH3⟩:∃ H3,H3=ext H2 [.arr 0 41 [.lit (.int .i64 4),.lit (.int .i64 1)]]:=⟨_,rfl⟩
  have q2:H3.get H2.next=some (.arr 0 41 [.lit (.int .i64 4),.lit (.int .i64 1)]):=by rw[hH3];exact bL
  have n3:H3.next=H2.next+1:=by rw[hH3];rfl
  have o3:Over H1 H3:=by rw[hH3];exact o2.trans (.ext _ _)
  have q1:H3.get H1.next=some (.arr 0 41 [.lit (.int .i64 33),.lit (.int .i64 4)]):=by rw[hH3,bE (by omega)];exact q1
  rw[<- hH3];clear hH3;have g1:=(o3.old _ (by omega)).trans g1;have g2:=(o3.old _ (by omega)).trans g2;have l1:=ag g1;have l2:=ag g2;refine W.seq (af _ _ _ (by rfl) ?_);simp only[go_sem,l1,aW]
  repeat (refine⟨by decide,?_⟩)
  refine ay.iX aI (.ext H3 _) (.cons (qX dA) (.cons (q8 (a:=[1,0]) (Nat.le_refl _)) .nil)) fun H4 o4=>vA dA fA (by decide) [[1,0]] (mB kR Ec) _ _ (fun he=>absurd (qZ.symm.trans he) (by decide)) (fun _ he=>absurd qZ he) (fun _ he=>absurd (nP kR Ec) he) fun r hr _ _ _=>⟨trivial,?_⟩
  rw[<- rA r hr,zu,RM];have l1:=ag ((o4.old _ (by omega)).trans g1);simp only[go_sem,aW];refine W.seq (af _ _ _ (by rfl) ?_);simp only[go_sem,l1,aW]
  repeat (refine⟨by decide,?_⟩)
  refine ay.iX aI (o4.trans (.ext H4 _)) (.cons (qX dA) (.cons (q8 (a:=[1,1]) o4.next) .nil)) fun H5 o5=>vA dA fA (by decide) [[1,1]] (mB kR Ed) _ _ (fun he=>absurd (qZ.symm.trans he) (by decide)) (fun _ he=>absurd qZ he) (fun _ he=>absurd (nP kR Ed) he) fun r hr _ _ _=>⟨trivial,?_⟩
  rw[<- rA r hr,zu,decide_eq_false RN];have l2:=ag ((o5.old _ (by omega)).trans g2);simp only[go_sem,aW];refine W.seq (af _ _ _ (by rfl) ?_);simp only[go_sem,l2,aW]
  repeat (refine⟨by decide,?_⟩)
  refine ay.iX aI (o5.trans (.ext H5 _)) (.cons (qX dE) (.cons (wa (a:=[1]) (b:=[1,1,1,0]) o5.next) .nil)) fun H6 o6=>vA dE fE (by decide) [[1],[1,1,1,0]] (mB pB Ee) _ _ (fun he=>absurd (vZ.symm.trans he) (by decide)) (fun _ he=>absurd vZ he) (fun _ he=>absurd (nP pB Ee) he) fun r hr _ _ _=>⟨trivial,?_⟩
  rw[<- rE r hr,Eg,RO];have l1:=ag ((o6.old _ (by omega)).trans g1);simp only[go_sem,aW];refine W.seq (af _ _ _ (by rfl) ?_);simp only[go_sem,l1,aW]
  repeat (refine⟨by decide,?_⟩)
  refine ay.iX aI (o6.trans (.ext H6 _)) (.cons (qX dA) (.cons (q8 (a:=[0,0]) o6.next) (.cons (.lit _) .nil))) fun H7 o7=>D3 dA kR fA (by decide) [[0,0]] vY (mB kR vY) 1 (by decide) _ _ ⟨trivial,?_⟩;rw[RP];have l2:=ag ((o7.old _ (by omega)).trans g2);simp only[go_sem,aW];refine W.seq (af _ _ _ (by rfl) ?_);simp only[go_sem,l2,aW]
  repeat (refine⟨by decide,?_⟩)
  refine ay.iX aI (o7.trans (.ext H7 _)) (.cons (qX dE) (.cons (wa (a:=[1]) (b:=[0,0,1,0]) o7.next) (.cons (.lit _) .nil))) fun H8 o8=>D3 dE pB fE (by decide) [[1],[0,0,1,0]] Ef (mB pB Ef) 0 (by decide) _ _ ⟨trivial,?_⟩;rw[RQ];have l1:=ag ((o8.old _ (by omega)).trans g1);simp only[go_sem,aW];refine W.seq (af _ _ _ (by rfl) ?_);simp only[go_sem,l1,aW]
  repeat (refine⟨by decide,?_⟩)
  refine ay.iX aI (o8.trans (.ext H8 _)) (.cons (qX dA) (.cons (q8 (a:=[0,0]) o8.next) (.cons (.lit _) .nil))) fun H9 o9=>RV dA kR fA [[0,0]] vY (mB kR vY) 0 (by decide) (by decide) _ _ ⟨trivial,?_⟩;simp only[go_sem,aW];refine W.seq (af _ _ _ (by rfl) ?_);simp only[go_sem,aW]
  repeat (refine⟨by decide,?_⟩)
  refine ay.iX aI (o9.trans (.ext H9 _)) (.cons (FzL.agg ?_) .nil) fun HA oA=>vz dN fN (by decide) HA _ (fun _=>⟨trivial,?_⟩) (fun he=>absurd RH he) fun r hr _ _=>absurd (Eb.symm.trans hr) (by simp)
  · repeat (first|exact FzL.nil|refine FzL.cons ?_ ?_|exact Fz.lit _|exact Fz.nil|refine FzL.own o9.next (bR ..) rfl ?_)
  have lq1:=ag ((oA.old _ (by omega)).trans q1);have lq2:=ag ((oA.old _ (by omega)).trans q2);have ev:∀ (a b:Int) o1 o2,bp Tryz.prog .eql 41 o1 o2 (.agg [.lit (.int .i64 a),.lit (.int .i64 b)]) (.agg [.lit (.int .i64 a),.lit (.int .i64 b)])=some (.lit (.bool true)):=fun a b o1 o2=>by rw[AY];simp
  have e1:=ev 33 4;have e2:=ev 4 1;simp only[go_sem,aW];obtain⟨HB,hHB⟩:∃ HB,HB=ext HA [.arr 0 41 [.lit (.int .i64 0),.lit (.int .i64 0)]]:=⟨_,rfl⟩
  have oB:Over H3 HB:=by rw[hHB];exact oA.trans (.ext _ _)
  rw[<- hHB];clear hHB;have lq1:=ag ((oB.old _ (by omega)).trans q1);refine W.seq (af _ _ _ (by rfl) ?_);simp only[go_sem,lq1,e1,aW]
  repeat (refine⟨by decide,?_⟩)
  refine ay.iX aI (oB.trans (.ext HB _)) (.cons (oY _) (.cons (q8 (a:=[1,0]) oB.next) .nil)) fun HC oC=>vG [[1,0]] [[1,0]] (by decide) (by decide) _ _ ⟨trivial,?_⟩;rw[decide_eq_true (rfl:([[1,0]]:List (List Int))=[[1,0]])];have lq2:=ag ((oC.old _ (by omega)).trans q2);simp only[go_sem,lq2,e2,aW]
  repeat (refine⟨by decide,?_⟩)
  refine ay.iX aI (oC.trans (.ext HC _)) (.cons (oY _) (.cons (wa (a:=[1]) (b:=[0,0,1,0]) oC.next) .nil)) fun HD oD=>vG [[1],[0,0,1,0]] [[1],[0,0,1,0]] (by decide) (by decide) _ _ ⟨trivial,?_⟩;rw[decide_eq_true (rfl:([[1],[0,0,1,0]]:List (List Int))=[[1],[0,0,1,0]])];simp only[go_sem,aW];refine W.seq (af _ _ _ (by rfl) ?_);simp only[go_sem,aW]
  repeat (refine⟨by decide,?_⟩)
  refine ay.iX aI (oD.trans (.ext HD _)) (.cons (oY _) (.cons (wa (a:=[0,48]) (b:=[480,264]) oD.next) .nil)) fun HF oF=>vG [[0,48],[480,264]] [[0,48],[480,264]] (by decide) (by decide) _ _ ⟨trivial,?_⟩;rw[decide_eq_true (rfl:([[0,48],[480,264]]:List (List Int))=[[0,48],[480,264]])];simp only[go_sem,aW]
  repeat (refine⟨by decide,?_⟩)
  refine ay.iX aI (oF.trans (.ext HF _)) (.cons (oY _) (.cons (q8 (a:=[8,32]) oF.next) .nil)) fun HG oG=>vG [[8,32]] [[8,32]] (by decide) (by decide) _ _ ⟨trivial,?_⟩;rw[decide_eq_true (rfl:([[8,32]]:List (List Int))=[[8,32]])];simp only[go_sem,aW];have oK:Over H HG:=o1.trans (o3.trans oG)
  first
  | exact ar.bB aI hcl oK (.lit _) hK
  | (refine af _ _ _ (by rfl) ?_
     simp only[go_sem,aW];exact ar.bB aI hcl oK (.lit _) hK)
theorem RX {f:FuncId}{H:AHeap}{K:ARes->AHeap->Prop}(d:InfP)(h:ae Tryz.prog G0 f [dW d] H K):ae Tryz.prog G0 f [lK d] H K :=
 ae.Ca (args':=[dW d]) aI rfl (fun i hi _=>match i,hi with|0,_=>Cb d) h
theorem zx {f:FuncId}{H:AHeap}{K:ARes->AHeap->Prop}(d:InfP)(p:List (List Int))(h:ae Tryz.prog G0 f [dW d,aA p] H K):ae Tryz.prog G0 f [lK d,aA p] H K :=
 ae.Ca (args':=[dW d,aA p]) aI rfl (fun i hi _=>match i,hi with|0,_=>Cb d|1,_=>oY p) h
theorem RY {x:InfP}(h:DrI true x):∃ r,fT x=some r/\cQ x=0:=by
 have hs:=Lg h;obtain⟨r,hr⟩:=Option.isSome_iff_exists.1 hs;exact⟨r,hr,by unfold cQ;rw[eM h.ok,hr];rfl⟩
set_option maxHeartbeats 2000000 in
theorem Rk (d:InfP)(hf:InfFit d)(hok:InfOk d)(p:List (List Int))(hp:PolOk d p)(H:AHeap)(K:ARes->AHeap->Prop)(hK:K (.ret (.lit (.bool true))) H):ae Tryz.prog G0 18 [lK d,aA p] H K:=by
 refine ae.clo ⟨_,Tryz.func18,rfl,rfl⟩ fun hcl=>?_;refine ae.aP (n:=64) (rs:=[.tmp 4]) Tryz.func18 rfl rfl rfl (by decide) (by kernel_rfl) (by simp) ?_;simp only[go_sem,yu,sk];refine ay.clo (B8 d hf hok _ _ ⟨trivial,?_⟩);obtain⟨L,hL⟩:∃ L,L=dh d:=⟨_,rfl⟩
 have hLl:L.length=(aE d).length:=by rw[hL];exact K2 d
 have hpl:p.length=L.length:=by rw[hp.len,hLl]
 have dl8:(aE d).length<=d.nodes.length:=jg;have hn8:=hok.n.n1.2;rw[<- hL];have hplI:(p.length:Int)=L.length:=by omega
 simp only[go_sem,aA,hplI];obtain⟨R,hR⟩:∃ R,R=ext H [.arr 0 38 [.lit (.int .i64 d.grain),.vec d.nodes.length (bb d.nodes),.lit (.int .u64 (d.decs:Int)),.vec d.utils.length (aS d.utils)]]:=⟨_,rfl⟩
 have oR:Over H R:=by rw[hR];exact .ext _ _
 rw[<- hR];refine W.env fun E hE=>?_;have e1:E 1=aA p:=by rw[hE];simp only[go_sem,aA]
 have e5:E 5=.vec L.length (gH L):=by rw[hE];simp only[go_sem]
 have e6:E 6=aa 0:=by rw[hE];simp only[go_sem]
 clear hE;refine W.aK 18446744073709519056 (by rfl) (fun ρ Hx=>Hx=R/\∃ k:Nat,ρ 6=aa k/\k<=L.length) (fun ρ H=>L.length - (iv (ρ 6)).toNat) ?_ ?_
 ·simp only[go_sem,e6];exact⟨0,rfl,by omega⟩
 rintro ρ Hx ⟨rfl,k,h6,hk⟩;refine W.env fun E2 hE2=>?_;have f1:E2 1=aA p:=by rw[hE2];simp only[go_sem,e1]
 have f5:E2 5=.vec L.length (gH L):=by rw[hE2];simp only[go_sem,e5]
 have f6:E2 6=aa k:=by rw[hE2];simp only[go_sem,h6]
 clear hE2;refine af _ _ _ (by rfl) ?_;by_cases hb:(k:Int)<L.length;rotate_left
 ·simp only[go_sem,f5,f6,hb];exact ar.bB aI hcl oR (.lit _) hK
 obtain⟨v,hv⟩:=get_of_lt (l:=aE d) (i:=k) (by omega);obtain⟨v1,v2,v3⟩:=kH hv;obtain⟨x,hx⟩:=get_of_lt (l:=d.nodes) (i:=v) v1;obtain⟨l,hl⟩:=get_of_lt (l:=p) (i:=k) (by omega);obtain⟨ll,lr⟩:=hp.row k v x l hv hx hl;have hrk:L[k]?=some ((bF d.nodes x:Int),x.card):=by
  rw[hL,K0 hv];unfold iu;rw[hx]
 have p0:=yj hrk;have p1:=B6 hrk;have pne:=B7 hrk;have hlg:(p.map ah)[k]?=some (ah l):=by rw[List.getElem?_map,hl];rfl
 have hln:=aL hl;have hbp:(k:Int)<p.length:=by omega
 have hll:(l.length:Int)=bF d.nodes x:=by omega
 have w1:=IntWalk.i64_in ((k:Int)+1) (by omega);have hl38:=(mB hok hp).2 l (List.mem_of_getElem? hl);simp only[go_sem,f5,f6,hb];refine W.draw 10 [0,0,3,7,15,0,0,96,224,480] Tryz.mixed (by kernel_rfl) (by kernel_rfl) ?_;simp only[go_sem,f1,f5,f6,hb,hbp,aA,hlg,hln,p0,pne,hll];refine W.env fun E3 hE3=>?_;have r1:E3 1=aA p:=by rw[hE3];simp only[go_sem,f1]
 have r5:E3 5=.vec L.length (gH L):=by rw[hE3];simp only[go_sem,f5]
 have r6:E3 6=aa k:=by rw[hE3];simp only[go_sem,f6]
 have r7:E3 7=aa 0:=by rw[hE3];simp only[go_sem]
 clear hE3;refine W.aK 18446744069414584464 (by rfl) (fun ρ2 Hz=>Hz=Hx/\∃ j:Nat,ρ2 7=aa j/\j<=l.length) (fun ρ2 H=>l.length - (iv (ρ2 7)).toNat) ?_ ?_
 ·simp only[go_sem,r7];exact⟨0,rfl,by omega⟩
 rintro ρ2 Hz ⟨rfl,j,h7,hj⟩;refine W.env fun E4 hE4=>?_;have s1:E4 1=aA p:=by rw[hE4];simp only[go_sem,r1]
 have s5:E4 5=.vec L.length (gH L):=by rw[hE4];simp only[go_sem,r5]
 have s6:E4 6=aa k:=by rw[hE4];simp only[go_sem,r6]
 have s7:E4 7=aa j:=by rw[hE4];simp only[go_sem,h7]
 clear hE4;refine af _ _ _ (by rfl) ?_;by_cases hc:(j:Int)<l.length
 ·obtain⟨a,ha⟩:=get_of_lt (l:=l) (i:=j) (by omega);have har:=lr a (List.mem_of_getElem? ha);have han:=aL ha;have c1:¬ a<0:=by omega
  have c2:¬ a >= x.card:=by omega
  have w2:=IntWalk.i64_in ((j:Int)+1) (by omega);simp only[go_sem,s1,s6,s7,aA,hlg,hln,hbp,hc];refine W.draw 21 [0,0,3,7,0,31,63,127,255,511,511,2047,4095,511,16383,32767,511,511,197119,459263,983551] Tryz.mixed (by kernel_rfl) (by kernel_rfl) ?_;simp only[go_sem,s1,s5,s6,s7,aA,hlg,hln,hbp,hb,hc,ha,han,p1,pne,c1,c2,w2];exact⟨⟨j+1,by simp,by omega⟩,by first|omega|(rw[h7];simp only[aa,aU];omega)⟩
 ·simp only[go_sem,s1,s6,s7,aA,hlg,hln,hbp,hc,w1];exact⟨⟨k+1,by simp,by omega⟩,by first|omega|(rw[h6];simp only[aa,aU];omega)⟩
end Go.Proofs
namespace Go.Hx
open Go.Proofs (get_lt get_of_lt)
variable {P:Program} {H:AHeap} {G:Nat->Option (List AVal)}
def fk (lo:Nat)(H:AHeap)(e1 e0:TypeId)(v:AVal)(rows:List (List AVal)):Prop :=
 ∃ cs:List AVal,aD lo H e1 v cs/\cs.length=rows.length/\(∀ (j:Nat) (r:List AVal) (c:AVal),rows[j]?=some r->cs[j]?=some c->aD lo H e0 c r)/\∀ (i j a g g' n n':Nat),cs[i]?=some (.own a g 0 n 1)->cs[j]?=some (.own a g' 0 n' 1)->i=j
theorem fk.nil {lo:Nat}{e1 e0:TypeId}:fk lo H e1 e0 (.lit (.slice none 0 0)) []:=⟨[],.nil,rfl,fun j r c h=>by simp at h,fun i j a g g' n n' h=>by simp at h⟩
theorem fk.RZ {lo:Nat}{e1 e0:TypeId}{v:AVal}{rows:List (List AVal)}(h:fk lo H e1 e0 v rows):gF lo H e1 e0 v rows :=
 let ⟨cs,a,b,c,_⟩:=h;⟨cs,a,b,c⟩
theorem fk.lo {lo lo':Nat}{e1 e0:TypeId}{v:AVal}{rows:List (List AVal)}(h:fk lo H e1 e0 v rows)(hl:lo'<=lo):fk lo' H e1 e0 v rows :=
 let ⟨cs,a,b,c,d⟩:=h;⟨cs,a.keep hl (Nat.le_refl _) fun _ _ _ _ _ _=>rfl,b,fun j r q h1 h2=>(c j r q h1 h2).keep hl (Nat.le_refl _) fun _ _ _ _ _ _=>rfl,d⟩
theorem fk.app {Hx:AHeap}{lo n:Nat}{e1 e0:TypeId}{v x:AVal}{rows:List (List AVal)}{r:List AVal}{t:TypeId}{z:List AVal}(ht:P.underlying t=some (.slice e1))(hz:P.cellsOf e1=1)(hzero:bZ P e1=some z)(hby:P.bytesOf e1=24)(hne:e1≠e0)
  (hb:rows.length<2 ^ 40) (h:fk lo Hx e1 e0 v rows) (ho:Over Hx H) (hlo:lo<=Hx.next) (hx:aD Hx.next H e0 x r) (hn:n=H.next+1):
  ∃ v' H',bO P (ext H [.arr 0 e1 [x]]) n t t v (.own H.next 0 0 1 1)=some (v',H')/\fk lo H' e1 e0 v' (rows++[r])/\H.next<=H'.next/\(∀ k,k<H.next->k<lo->H'.get k=H.get k):=by
 obtain⟨cs,h1,h2,h3,h4⟩:=h;have hon:=ho.next;have h1':=h1.over ho;obtain⟨v',H',hA,hO,hL,hp⟩:=iK (P:=P) (t:=t) ht hz hzero hx.one (by rw[hby,h2];omega) h1' (by omega) hn;have key:∀ lo' u l,aD lo' H e0 u l->aD lo' H' e0 u l:=fun lo' u l hu=>h1'.rW hu hne hL hp;have split:∀ (j:Nat) (c:AVal),(cs++[x])[j]?=some c->(j<cs.length/\cs[j]?=some c)\/(j=cs.length/\c=x):=fun j c hc=>by
  rcases Nat.lt_or_ge j cs.length with hj|hj
  ·rw[List.getElem?_append_left hj]at hc;exact .inl ⟨hj,hc⟩
  ·have:=get_lt hc;rw[List.length_append,List.length_singleton]at this;have hj:j=cs.length:=(by omega);subst hj;rw[List.getElem?_append_right (Nat.le_refl _),Nat.sub_self]at hc;exact .inr ⟨rfl,(Option.some.inj hc).symm⟩
 have old:∀ (j a g m:Nat),cs[j]?=some (.own a g 0 m 1)->a<Hx.next:=fun j a g m hc=>by
  obtain⟨r',hr'⟩:∃ r',rows[j]?=some r':=⟨_,List.getElem?_eq_getElem (by rw[<- h2];exact get_lt hc)⟩
  rcases h3 j r' _ hr' hc with ⟨e,_⟩|⟨i,g',_,b,e,_⟩
  ·cases e
  ·rw[(AVal.own.inj e).1];exact b
 have new:∀ a g m,x=.own a g 0 m 1->Hx.next<=a:=fun a g m he=>by
  rcases hx with ⟨e,_⟩|⟨i,g',b,_,e,_⟩
  ·rw[e]at he;cases he
  ·rw[e]at he;rw[<- (AVal.own.inj he).1];exact b
 refine⟨v',H',hA,⟨cs++[x],hO,by simp [h2],fun j r' c hr hc=>?_,fun i j a g g' m m' hi hj=>?_⟩,hL,fun k hk hkl=>hp k hk (h1.ne hkl)⟩
 ·rcases split j c hc with ⟨a,b⟩|⟨a,b⟩
  ·rw[List.getElem?_append_left (by omega)]at hr;exact key _ _ _ ((h3 j r' c hr b).over ho)
  ·rw[a,h2,List.getElem?_append_right (Nat.le_refl _),Nat.sub_self]at hr;cases hr;rw[b];exact key _ _ _ (hx.keep hlo (Nat.le_refl _) fun _ _ _ _ _ _=>rfl)
 ·rcases split i _ hi with ⟨a1,b1⟩|⟨a1,b1⟩<;>rcases split j _ hj with ⟨a2,b2⟩|⟨a2,b2⟩
  ·exact h4 i j a g g' m m' b1 b2
  ·have:=old i a g m b1;have:=new a g' m' b2.symm;omega
  ·have:=old j a g' m' b2;have:=new a g m b1.symm;omega
  ·omega
theorem fk.row {lo:Nat}{e1 e0:TypeId}{v:AVal}{rows:List (List AVal)}(h:fk lo H e1 e0 v rows)(hne:e1≠e0){k:Nat}{r:List AVal}(hr:rows[k]?=some r)(h0:r≠[]):
  ∃ idt gt idr gr cells,v=.own idt gt 0 rows.length 1/\H.get idt=some (.arr gt e1 cells)/\cells.length=rows.length/\lo<=idt/\idt<H.next/\cells[k]?=some (.own idr gr 0 r.length 1)/\H.get idr=some (.arr gr e0 r)/\lo<=idr/\idr<H.next /\
   ∀ r':List AVal,r'.length=r.length->fk lo (H.upd idr (.arr gr e0 r')) e1 e0 v (rows.set k r'):=by
 obtain⟨cs,h1,h2,h3,h4⟩:=h;have hk:=get_lt hr;obtain⟨c,hc⟩:=get_of_lt (l:=cs) (i:=k) (by omega);rcases h3 k r c hr hc with ⟨_,e⟩|⟨idr,gr,a1,a2,e,a4⟩
 ·exact absurd e h0
 rcases h1 with ⟨_,e'⟩|⟨idt,gt,b1,b2,e',b4⟩
 ·rw[e']at h2;simp at h2;omega
 subst e;have hit:idt≠idr:=fun e=>by rw[e,a4]at b4;cases b4;exact hne rfl
 refine⟨idt,gt,idr,gr,cs,by rw[e',h2],b4,h2,b1,b2,hc,a4,a1,a2,fun r' hl=>⟨cs,.inr ⟨idt,gt,b1,by rw[aG];exact b2,e',by rw[aj,if_neg hit];exact b4⟩,by rw[List.length_set];exact h2,fun j q c' hj hc'=>?_,h4⟩⟩;by_cases e:j=k
 ·subst e;rw[List.getElem?_set_self hk]at hj;rw[hc]at hc';cases hj;cases hc';exact .inr ⟨idr,gr,a1,by rw[aG];exact a2,by rw[hl],by rw[aj,if_pos rfl]⟩
 ·rw[List.getElem?_set_ne (fun h=>e h.symm)]at hj;refine(h3 j q c' hj hc').keep (Nat.le_refl _) (by rw[aG];exact Nat.le_refl _) fun i g _ _ _ hv=>?_;rw[aj,if_neg];rintro rfl;rw[hv]at hc';exact e (h4 j k i g gr _ _ hc' hc)
theorem dM.R7 (hG:fu G){s:St}{n t0:Nat}{v':AVal}(hv:Fz (fun id=>n<=id) s.H s.H.next (s.ρ t0) v'):dM P G s ⟨fun t=>if t=t0 then v' else s.ρ t,s.H.cut n⟩:=by
 intro m wb Γ a w hs;refine dM.freeze (s:=s) (s':=⟨fun t=>if t=t0 then v' else s.ρ t,s.H.cut n⟩) hG (AS hs.heap.clo n) (fun t=>?_) m wb Γ a w hs;by_cases h:t=t0
 ·subst h;simp only[if_true];exact hv
 ·simp only[h,if_false];exact .dead (hs.env t).qf
end Go.Hx
namespace Go.Proofs
open Go.Hx
theorem R8 {S:Nat->Prop}{lo nx:Nat}{H:AHeap}{e1 e0:TypeId}{v:AVal}{ps:List (List Int)}(h:gF lo H e1 e0 v (ps.map ints))(hS:∀ i,lo<=i->S i):Fz S H nx v (aA ps):=by
 have:=h.fz (S:=S) (nx:=nx) (rows':=ps.map ints) hS rfl fun j r r' h1 h2=>by
  rw[h1]at h2;cases h2;refine⟨rfl,fun i hi _=>?_⟩;rw[List.getElem?_map]at h1;obtain⟨z,_,rfl⟩:=Option.map_eq_some_iff.1 h1;have e0:(ints z)[i]?=some (ints z)[i]:=List.getElem?_eq_getElem hi;generalize (ints z)[i]=a at e0 ⊢;rw[d9]at e0;obtain⟨b,_,rfl⟩:=Option.map_eq_some_iff.1 e0;exact .lit _
 rw[List.length_map,List.map_map]at this;have e:(ps.map ((fun r:List AVal=>AVal.vec r.length r) ∘ ints))=ps.map ah:=List.map_congr_left fun z _=>by simp [Function.comp,ah,aR]
 rw[e]at this;exact this
set_option maxHeartbeats 4000000 in
theorem R9 (d:InfP)(hf:InfFit d)(hok:InfOk d)(bs:List Int)(hbl:(bs.length:Int)<2 ^ 63)(hb8:∀ x∈bs,U8 x)(H:AHeap)(K:ARes->AHeap->Prop)(hF:Clo H->∀ p v H',PolOk d p->Over H H'->fk H.next H' 46 3 v (p.map ints)->ar Tryz.prog G0 H K v H'):ae Tryz.prog G0 14 [lK d,.vec bs.length (ba bs)] H K:=by
 refine ae.clo ⟨_,Tryz.func14,rfl,rfl⟩ fun hcl=>?_;have hn8:=hok.n.n1.2;refine ae.aP (n:=57) (rs:=[.tmp 4]) Tryz.func14 rfl rfl rfl (by decide) (by kernel_rfl) (by simp) ?_;simp only[go_sem,yu,sk];obtain⟨H1,hH1⟩:∃ H1,H1=ext H [.arr 0 38 [.lit (.int .i64 d.grain),.vec d.nodes.length (bb d.nodes),.lit (.int .u64 (d.decs:Int)),.vec d.utils.length (aS d.utils)]]:=⟨_,rfl⟩
 have n1:H1.next=H.next+1:=by rw[hH1];rfl
 have o1:Over H H1:=by rw[hH1];exact .ext _ _
 rw[<- hH1];clear hH1;refine ay.clo (B8 d hf hok _ _ ⟨trivial,?_⟩);have rl:(dh d).length=(aE d).length:=by simp [dh]
 have dl8:(aE d).length<=d.nodes.length:=jg;have rr:∀ p∈dh d,1<=p.1/\p.1<=1024/\1<=p.2/\p.2<=4:=fun p hp=>by
  unfold dh at hp;obtain⟨v,hv,rfl⟩:=List.mem_map.1 hp;obtain⟨v1,v2⟩:=fK.1 hv;exact qz hok v1 v2
 generalize hL:dh d=L at rl rr;simp only[go_sem];refine W.aK 72057594037915552 (by rfl) (fun ρ Hx=>∃ (k at':Nat) (ps:List (List Int)),ρ 8=aa k/\k<=L.length/\ρ 7=aa at'/\at'<=k*1024/\H1.next<=Hx.next/\(∀ id,id<H1.next->Hx.get id=H1.get id)/\fk H1.next Hx 46 3 (ρ 5) (ps.map ints)/\B9 (L.take k) ps) (fun ρ H=>L.length - (iv (ρ 8)).toNat) ?_ ?_
 ·simp only[go_sem];exact⟨0,0,[],rfl,by omega,rfl,by omega,.nil,rfl,fun k p r _ h=>by simp at h⟩
 rintro ρ Hx ⟨k,at',ps,h8,hk,h7,hat,hnx,hold,h5,hfit⟩;obtain⟨ov,hov⟩:∃ ov,ov=ρ 5:=⟨_,rfl⟩
 rw[<- hov]at h5;refine W.env fun E hE=>?_;have e1:E 1=.vec bs.length (ba bs):=by rw[hE];simp only[go_sem]
 have e5:E 5=ov:=by rw[hE];simp only[go_sem,hov]
 have e6:E 6=.vec L.length (gH L):=by rw[hE];simp only[go_sem]
 have e7:E 7=aa at':=by rw[hE];simp only[go_sem,h7]
 have e8:E 8=aa k:=by rw[hE];simp only[go_sem,h8]
 clear hE;refine af _ _ _ (by rfl) ?_;by_cases hb:(k:Int)<L.length
 ·obtain⟨⟨c1,c2⟩,hp⟩:=get_of_lt (l:=L) (i:=k) (by omega);obtain⟨r1,r2,r3,r4⟩:=rr _ (List.mem_of_getElem? hp);dsimp only at r1 r2 r3 r4;have p0:=yj hp;have p1:=B6 hp;have pne:=B7 hp;have w1:=IntWalk.i64_in ((k:Int)+1) (by omega);simp only[go_sem,e6,e8,hb];refine W.aK 4503599626325632 (by rfl) (fun ρ2 Hy=>∃ (j:Nat) (q:List Int),ρ2 10=aa j/\(j:Int)<=c1/\q.length=j/\ρ2 7=aa ((at'+j:Nat):Int)/\(∀ a∈q,0<=a/\a<c2)/\Over Hx Hy/\aD Hx.next Hy 3 (ρ2 9) (ints q)) (fun ρ2 H=>c1.toNat - (iv (ρ2 10)).toNat) ?_ ?_
  ·simp only[go_sem,e7];exact⟨0,[],rfl,by omega,rfl,rfl,by simp,.refl _,.nil⟩
  rintro ρ2 Hy ⟨j,q,h10,hj,hql,h7',hq,hxy,h9⟩;obtain⟨qv,hqv⟩:∃ qv,qv=ρ2 9:=⟨_,rfl⟩
  rw[<- hqv]at h9;refine W.env fun E2 hE2=>?_;have f1:E2 1=.vec bs.length (ba bs):=by rw[hE2];simp only[go_sem,e1]
  have f5:E2 5=ov:=by rw[hE2];simp only[go_sem,e5]
  have f6:E2 6=.vec L.length (gH L):=by rw[hE2];simp only[go_sem,e6]
  have f7:E2 7=aa ((at'+j:Nat):Int):=by rw[hE2];simp only[go_sem,h7']
  have f8:E2 8=aa k:=by rw[hE2];simp only[go_sem,e8]
  have f9:E2 9=qv:=by rw[hE2];simp only[go_sem,hqv]
  have f10:E2 10=aa j:=by rw[hE2];simp only[go_sem,h10]
  clear hE2;refine af _ _ _ (by rfl) ?_;by_cases hb2:(j:Int)<c1
  ·obtain⟨m,hm⟩:∃ m:Nat,m=at'+j:=⟨_,rfl⟩
   rw[<- hm]at f7;have w2:=IntWalk.i64_in ((j:Int)+1) (by omega);have w3:=IntWalk.i64_in ((m:Int)+1) (by omega);have app:∀ a:Int,0<=a/\a<c2->∃ v' H2,bO Tryz.prog (ext Hy [.arr 0 3 [.lit (.int .i64 a)]]) (Hy.next+1) 46 46 qv (.own Hy.next 0 0 1 1)=some (v',H2)/\Hx.next<=H2.next/\∀ a' ,a'=a->(∀ b∈q++[a'],0<=b/\b<c2)/\Over Hx H2/\aD Hx.next H2 3 v' (ints (q++[a'])):=fun a ha=>by
    obtain⟨v',H2,hA,ho2,hO2,hn2,_⟩:=kh a hxy h9 (by omega);refine⟨v',H2,hA,by have:=hxy.next;omega,fun a' ha'=>?_⟩;subst ha';exact⟨fun b hb=>by rcases List.mem_append.1 hb with h|h;exact hq b h;obtain rfl:=List.mem_singleton.1 h;exact ha,ho2,hO2⟩
   by_cases hz:(bs.length:Int) > 0
   ·have hzn:¬ (bs.length:Int)=0:=(by omega);have m1:(m:Int).tmod bs.length=((m % bs.length:Nat):Int):=(by rw[Int.tmod_eq_emod_of_nonneg (by omega)];rfl);have m2:=Nat.mod_lt m (show bs.length > 0 by omega);obtain⟨z,hzz⟩:∃ z,z=m % bs.length:=⟨_,rfl⟩
    rw[<- hzz]at m1 m2;have hz0:(z:Int) >= 0:=(by omega);have hzl:(z:Int)<bs.length:=(by omega);obtain⟨b,hbg⟩:=get_of_lt (l:=bs) (i:=z) m2;have b8:=hb8 b (List.mem_of_getElem? hbg);have hbg':=qx hbg;have hbne:=aL hbg';unfold U8 at b8;have w4:IntKind.i64.wrap b=b:=IntWalk.i64_in _ (by omega);have c2n:¬ c2=0:=(by omega);have tb:b.tmod c2=b % c2:=Int.tmod_eq_emod_of_nonneg b8.1;have tb0:=Int.emod_nonneg b c2n;have tb1:=Int.emod_lt_of_pos b (show 0<c2 by omega);have w5:IntKind.i64.wrap (b % c2)=b % c2:=IntWalk.i64_in _ (by omega);obtain⟨v',Hj,hA,hjn,fin⟩:=app (b % c2) ⟨tb0,tb1⟩;obtain⟨fi1,fi2,fi3⟩:=fin _ rfl;simp only[go_sem,f1,f6,f8,f10,p0,pne,hb,hb2,hz];refine W.draw 13 [0,0,0,4,14,31,63,127,0,0,768,1792,3840] Tryz.mixed (by kernel_rfl) (by kernel_rfl) ?_;simp only[go_sem,f1,f6,f7,f8,f9,f10,p1,pne,hb,hzn,m1,hz0,hzl,hbg',hbne,w4,c2n,tb,w2,w3,hA];exact⟨by omega,⟨j+1,q++[_],rfl,by omega,by simp;omega,by rw[show ((at'+(j+1):Nat):Int)=(m:Int)+1 by omega],fi1,fi2,fi3⟩,by rw[h10];simp only[aa,aU];omega⟩
   ·obtain⟨v',Hj,hA,hjn,fin⟩:=app 0 ⟨by omega,by omega⟩;obtain⟨fi1,fi2,fi3⟩:=fin _ rfl;simp only[go_sem,f1,f6,f7,f8,f9,f10,p0,pne,hb,hb2,hz,w2,w3,hA];exact⟨by omega,⟨j+1,q++[_],rfl,by omega,by simp;omega,by rw[show ((at'+(j+1):Nat):Int)=(m:Int)+1 by omega],fi1,fi2,fi3⟩,by rw[h10];simp only[aa,aU];omega⟩
  ·have hjc:(j:Int)=c1:=(by omega);have h9':aD H1.next Hy 3 qv (ints q):=h9.keep hnx (Nat.le_refl _) fun _ _ _ _ _ _=>rfl;have xyn:=hxy.next;obtain⟨ov',Hj,hA,hO',hnj,hpj⟩:=fk.app (P:=Tryz.prog) (n:=Hy.next+1) (t:=33) Tryz.underlying33 Tryz.qk Tryz.qo Tryz.qm (by decide) (by rw[List.length_map,hfit.1,List.length_take];omega) h5 hxy (by omega) h9 rfl;have qvc:=h9.cells;simp only[go_sem,f5,f6,f7,f8,f9,f10,p0,pne,hb,hb2,w1,qvc,List.length_singleton,List.drop_one,List.tail_cons,List.append_nil,hA];have pl:=hfit.1;rw[List.length_take]at pl;refine⟨by omega,⟨k+1,at'+j,ps++[q],rfl,by omega,rfl,by omega,by omega,fun id h=>by rw[hpj id (by omega) h,hxy.old id (by omega)];exact hold id h,by rw[List.map_append];exact hO',by rw[aT hp];simp;omega,fun i p r hp' hr=>?_⟩,by rw[h8];simp only[aa,aU];omega⟩;rw[aT hp]at hp';rcases Nat.lt_or_ge i ps.length with h|h
   ·rw[List.getElem?_append_left h]at hr;rw[List.getElem?_append_left (by rw[List.length_take];omega)]at hp';exact hfit.2 i p r hp' hr
   ·have hi:=get_lt hr;simp at hi;obtain rfl:i=ps.length:=(by omega);rw[List.getElem?_append_right (by omega)]at hr;rw[List.getElem?_append_right (by rw[List.length_take];omega),List.length_take]at hp';rw[Nat.sub_self]at hr;rw[show ps.length - min k L.length=0 by omega]at hp';cases hr;cases hp';exact⟨by omega,hq⟩
 ·simp only[go_sem,e5,e6,e8,hb];have hke:k=L.length:=by omega
  rw[hke,List.take_of_length_le (Nat.le_refl _)]at hfit;exact hF hcl ps ov Hx (yk.2 (by rw[hL];exact hfit)) ⟨by omega,fun id h=>by rw[hold id (by omega)];exact o1.old id h⟩ (h5.lo (by omega))
theorem Sa (d:InfP)(hf:InfFit d)(hok:InfOk d)(bs:List Int)(hbl:(bs.length:Int)<2 ^ 63)(hb8:∀ x∈bs,U8 x)(H:AHeap)(K:ARes->AHeap->Prop)(hK:∀ p v H',PolOk d p->Over H H'->fk H.next H' 46 3 v (p.map ints)->K (.ret v) H'):ae Tryz.prog G0 14 [lK d,.vec bs.length (ba bs)] H K :=
 R9 d hf hok bs hbl hb8 H K fun _ p v H' hp ho hO=>ar.mk ho.next (hK p v H' hp ho hO)
end Go.Proofs
set_option linter.unusedVariables false
namespace Go.Proofs
open Go.Hx Go.RowKit Go.Lib
theorem Sb (w:World):Calls Tryz.prog 98 #[.slice none 0 0,.int .i64 0] w fun e w'=>e=.returned (.slice none 0 0)/\w'=w:=by
 have h1:¬ ((0:Int)<0):=by omega
 have h2:wrap64 ((0:Int) - (0:Int))=0:=by unfold wrap64;omega
 have h4:¬ (0:Int) > 0:=by omega
 go_enter Tryz.func98,Tryz.ntmps98
 go_wp2
 all_goals (go_ret;exact⟨rfl,rfl⟩)
theorem Sc (H:AHeap)(K:ARes->AHeap->Prop)(hK:K (.ret (.lit (.slice none 0 0))) H):ae Tryz.prog G0 98 [.lit (.slice none 0 0),.lit (.int .i64 0)] H K:=by
 refine⟨⟨_,Tryz.func98,rfl,rfl⟩,fun Γ w cargs R hr=>?_⟩;have hc:cargs=#[.slice none 0 0,.int .i64 0]:=by
  obtain⟨hs,hr⟩:=hr;have h1:=uq (hr 0 (by simp) (by rw[hs];simp));have h2:=uq (hr 1 (by simp) (by rw[hs];simp));apply Array.ext
  ·simpa using hs
  ·intro i hi1 hi2;simp only[List.size_toArray,List.length_cons,List.length_nil]at hi2
   match i,hi2 with
   | 0,_=>exact h1
   | 1,_=>exact h2
 rw[hc];refine(callsIn_wide.2 (Sb w)).mono ?_;rintro e w' ⟨rfl,rfl⟩;exact⟨.ret (.lit (.slice none 0 0)),H,Γ,.lit _,hK,R,Evo.refl _ _ _,Nat.le_refl _⟩
theorem concat_nil (H:AHeap)(K:ARes->AHeap->Prop)(hK:K (.ret (ah [])) H):ae Tryz.prog G0 40 [aA []] H K:=by
 refine ae.clo ⟨_,Tryz.func40,rfl,rfl⟩ fun hcl=>?_;refine ae.aP (n:=36) (rs:=[.tmp 2]) Tryz.func40 rfl rfl rfl (by decide) (by kernel_rfl) (by simp) ?_;simp only[go_sem,aA,List.length_nil,List.map_nil];refine W.aK 8386600 (by rfl) (fun ρ H'=>H=H'/\ρ 11=aa 0/\ρ 3=aa 0) (fun ρ H=>0) ?_ ?_
 ·simp only[go_sem]
 rintro ρ H' ⟨rfl,h11,h3⟩;refine af _ _ _ (by rfl) ?_;simp only[go_sem,h11,h3];refine ay.clo (Sc _ _ ⟨trivial,?_⟩);simp only[go_sem];refine W.aK 34225520960 (by rfl) (fun ρ H'=>H=H'/\ρ 27=aa 0/\ρ 6=.lit (.slice none 0 0)) (fun ρ H=>0) ?_ ?_
 ·simp only[go_sem]
 rintro ρ2 H2 ⟨rfl,h27,h6⟩;refine af _ _ _ (by rfl) ?_;simp only[go_sem,h27,h6];exact ar.bB aI hcl (.refl _) .nil hK
theorem Sd {x y:List Int}(h:r8 y x)(hx:(x.length:Int)<2 ^ 40)(H:AHeap)(K:ARes->AHeap->Prop)(hK:K (.ret (.lit (.int .i64 1))) H):ae Tryz.prog G0 39 [ah x,ah y] H K:=by
 obtain⟨i,a,b,h2,h1,h3,h4⟩:=A1 h;have hi:i<x.length:=(List.getElem?_eq_some_iff.1 h1).1;have hi2:i<y.length:=(List.getElem?_eq_some_iff.1 h2).1;have hxn:¬ x=[]:=by rintro rfl;simp at hi
 have hyn:¬ y=[]:=by rintro rfl;simp at hi2
 refine ae.aP (n:=36) (rs:=[.tmp 4]) Tryz.func39 rfl rfl rfl (by decide) (by kernel_rfl) (by simp) ?_;simp only[go_sem];refine W.aK 2147482096 (by rfl) (fun ρ H'=>H'=H/\∃ k:Nat,ρ 11=aa k/\k<=i) (fun ρ H=>x.length - (iv (ρ 11)).toNat) ?_ ?_
 ·simp only[go_sem];exact⟨0,rfl,by omega⟩
 rintro ρ H' ⟨rfl,k,h11,hk⟩;refine af _ _ _ (by rfl) ?_;have b1:(k:Int)<x.length:=by omega
 have b2:¬ (y.length:Int)<=k:=by omega
 have b3:(k:Int)<y.length:=by omega
 have w1:=IntWalk.i64_in ((k:Int)+1) (by omega);by_cases hki:k=i
 ·subst hki;simp only[go_sem,h11,b1,b2,b3,h1,h2,hxn,hyn];refine ay.clo (xJ b a _ _ ⟨trivial,?_⟩);rw[if_neg (by omega),if_pos h3];simp only[go_sem];exact ar.mk (Nat.le_refl _) hK
 ·have e:=h4 k (by omega);obtain⟨c,hc⟩:∃ c,x[k]?=some c:=⟨_,List.getElem?_eq_getElem (by omega)⟩
  rw[hc]at e;simp only[go_sem,h11,b1,b2,b3,hc,e,hxn,hyn];refine ay.clo (xJ c c _ _ ⟨trivial,?_⟩);have hcc:¬ c<c:=by omega
  rw[if_neg hcc,if_neg hcc];simp only[go_sem,w1,h11];exact⟨⟨k+1,by simp,by omega⟩,by omega⟩
theorem Se (x:List Int)(hx:(x.length:Int)<2 ^ 40)(H:AHeap)(K:ARes->AHeap->Prop)(hK:K (.ret (.lit (.int .i64 0))) H):ae Tryz.prog G0 39 [ah x,ah x] H K:=by
 refine ae.aP (n:=36) (rs:=[.tmp 4]) Tryz.func39 rfl rfl rfl (by decide) (by kernel_rfl) (by simp) ?_;simp only[go_sem];refine W.aK 2147482096 (by rfl) (fun ρ H'=>H'=H/\∃ k:Nat,ρ 11=aa k/\k<=x.length) (fun ρ H=>x.length - (iv (ρ 11)).toNat) ?_ ?_
 ·simp only[go_sem];exact⟨0,rfl,by omega⟩
 rintro ρ H' ⟨rfl,k,h11,hk⟩;refine af _ _ _ (by rfl) ?_;have w1:=IntWalk.i64_in ((k:Int)+1) (by omega);by_cases b1:(k:Int)<x.length
 ·have b2:¬ (x.length:Int)<=k:=by omega
  obtain⟨c,hc⟩:=get_of_lt (l:=x) (i:=k) (by omega);have hxn:=aL hc;simp only[go_sem,h11,b1,b2,hc,hxn];refine ay.clo (xJ c c _ _ ⟨trivial,?_⟩);have hcc:¬ c<c:=by omega
  rw[if_neg hcc,if_neg hcc];simp only[go_sem,w1,h11];exact⟨⟨k+1,by simp,by omega⟩,by omega⟩
 ·have b4:¬ (x.length:Int)<x.length:=by omega
  simp only[go_sem,h11,b1,b4];exact ar.mk (Nat.le_refl _) hK
end Go.Proofs
namespace Go.Proofs
open Go.Hx
structure By4 where
 l:List (List Int)
def By4.cells (x:By4):List AVal:=x.l.map fun r=>.vec r.length (ba r)
structure By4.Ok (x:By4):Prop where
 len:x.l.length=4
 each:∀ r∈x.l,(r.length:Int)<2 ^ 63/\∀ c∈r,U8 c
theorem Eh {d:InfP}(hok:InfOk d){p:List (List Int)}(hp:PolOk d p):p.length<=8/\(∀ r∈p,1<=r.length/\r.length<=1024)/\(p.flatten.length:Int)<2 ^ 40:=by
 have hR:=yk.1 hp;have h8:p.length<=8:=by rw[hp.len];have:=jg (D:=d.decs) (n:=d.nodes.length);have:=hok.n.n1.2;unfold aE;omega
 have hr:∀ r∈p,1<=r.length/\r.length<=1024:=fun r h=>by
  obtain⟨k,hk⟩:=List.mem_iff_getElem?.1 h;obtain⟨a,ha⟩:=get_of_lt (l:=dh d) (i:=k) (by have:=get_lt hk;rw[hR.1]at this;exact this);have h1:=(hR.2 k a r ha hk).1;have h2:=K3 hok a (List.mem_of_getElem? ha);omega
 refine⟨h8,hr,?_⟩;have key:∀ l:List (List Int),(∀ r∈l,r.length<=1024)->l.flatten.length<=1024*l.length:=by
  intro l
  induction l with
  | nil=>intro _;simp
  | cons a l ih =>
   intro h;have h1:=ih fun r hr=>h r (by simp [hr]);have h2:=h a (by simp);rw[List.flatten_cons,List.length_append,List.length_cons];omega
 have:=key p fun r h=>(hr r h).2;omega
theorem Ei {d:InfP}(hok:InfOk d){p:List (List Int)}(hp:PolOk d p)(H:AHeap)(K:ARes->AHeap->Prop)(hK:K (.ret (ah p.flatten)) H):ae Tryz.prog G0 40 [aA p] H K:=by
 obtain⟨h1,h2,_⟩:=Eh hok hp;cases p with
 | nil=>exact concat_nil H K hK
 | cons r l =>
  refine K8 (r :: l) h1 (fun q h=>(h2 q h).2) ?_ H K hK;have:=(h2 r (by simp)).1;unfold lens;simp only[List.map_cons,List.sum_cons];omega
theorem Sf {lo:Nat}{H:AHeap}{e:TypeId}{v:AVal}{cs:List AVal}(h:aD lo H e v cs):ko Tryz.prog H 33 v=some (aa cs.length):=by
 rcases h with ⟨h1,h2⟩|⟨id,g,_,_,h1,h2⟩
 ·rw[h1,h2];rfl
 ·rw[h1];simp only[go_sem];rw[ag h2];rfl
set_option maxHeartbeats 8000000 in
theorem Sg (d:D20)(hd:d.Ok)(b4:By4)(hb4:b4.Ok)(H:AHeap)(K:ARes->AHeap->Prop)(hK:∀ H',H.next<=H'.next->K (.ret (.lit (.bool true))) H'):
  ae Tryz.prog G0 9 [.agg d.cells,.agg b4.cells] H K:=by
 have hd':D20.Ok ⟨d.g,d.ps,d.ord,d.decs,true,d.us⟩:=⟨hd.g,hd.ps,hd.pl,hd.ol,hd.o8,hd.decs,hd.us,hd.ul⟩
 obtain⟨l0,l1,l2,l3,hl⟩:∃ l0 l1 l2 l3,b4.l=[l0,l1,l2,l3]:=by
  have:=hb4.len
  match h:b4.l,this with
  | [a,b,c,e],_=>exact⟨a,b,c,e,rfl⟩
 have hcl:b4.cells=[.vec l0.length (ba l0),.vec l1.length (ba l1),.vec l2.length (ba l2),.vec l3.length (ba l3)]:=by unfold By4.cells;rw[hl];rfl
 have hea:=hb4.each;rw[hl]at hea;rw[hcl];refine ae.d4 (n:=162) (rs:=[.tmp 4]) Tryz.func9 rfl rfl rfl (by decide) (by simp) ?_;refine W.seq (af _ _ _ (by rfl) ?_);simp only[go_sem,D20.cells];refine W.seq (af _ _ _ (by rfl) ?_);simp only[go_sem];refine ay.clo (RW _ _ ⟨trivial,?_⟩);simp only[go_sem];refine W.seq (af _ _ _ (by rfl) ?_);simp only[go_sem];obtain⟨H1,hH1⟩:∃ H1,H1=ext H [.arr 0 28 [.lit (.int .u8 d.g),.vec d.ps.length (fa d.ps),.vec d.ord.length (ba d.ord),.lit (.int .u8 d.decs),.lit (.bool true),.vec d.us.length (kJ d.us)],.arr 0 98 [.vec l0.length (ba l0),.vec l1.length (ba l1),.vec l2.length (ba l2),.vec l3.length (ba l3)]]:=⟨_,rfl⟩
 have g2:H1.get H.next=some (.arr 0 28 [.lit (.int .u8 d.g),.vec d.ps.length (fa d.ps),.vec d.ord.length (ba d.ord),.lit (.int .u8 d.decs),.lit (.bool true),.vec d.us.length (kJ d.us)]):=by rw[hH1];exact bR ..
 have g3:H1.get (H.next+1)=some (.arr 0 98 [.vec l0.length (ba l0),.vec l1.length (ba l1),.vec l2.length (ba l2),.vec l3.length (ba l3)]):=by rw[hH1];exact aZ H _ 1 (by simp)
 have n1:H1.next=H.next+2:=by rw[hH1];rfl
 rw[<- hH1];clear hH1;have l2':=ag g2;refine W.seq (af _ _ _ (by rfl) ?_);simp only[go_sem,l2'];refine ay.clo (NH ⟨d.g,d.ps,d.ord,d.decs,true,d.us⟩ hd' _ _ fun x hx=>⟨trivial,?_⟩);have hok:=hx.ok;have hf:=uI hok;have n8:=hok.n.n1;have h6:x.nodes.length<=6:=by have:=hx.n5;omega
 obtain⟨r0,hr0,hre⟩:=RY hx;simp only[go_sem,yu,sk];obtain⟨H2,hH2⟩:∃ H2,H2=ext H1 [.arr 0 38 [.lit (.int .i64 x.grain),.vec x.nodes.length (bb x.nodes),.lit (.int .u64 (x.decs:Int)),.vec x.utils.length (aS x.utils)]]:=⟨_,rfl⟩
 have g5:H2.get H1.next=some (.arr 0 38 [.lit (.int .i64 x.grain),.vec x.nodes.length (bb x.nodes),.lit (.int .u64 (x.decs:Int)),.vec x.utils.length (aS x.utils)]):=by rw[hH2];exact bL
 have g3:=(show H2.get (H.next+1)=H1.get (H.next+1) by rw[hH2,bE (by omega)]).trans g3;have n2:H2.next=H1.next+1:=by rw[hH2];rfl
 rw[<- hH2];clear hH2;have l5:=ag g5;refine W.seq (af _ _ _ (by rfl) ?_);simp only[go_sem,l5];have gp:=zd hok;obtain⟨D,hD⟩:∃ D,D=x.grain ^ x.nodes.length:=⟨_,rfl⟩
 refine ay.clo (RX x (vz x hf h6 _ _ (fun he=>absurd (hre.symm.trans he) (by decide)) (fun _ he=>absurd hre he) fun r hr _ hro=>⟨trivial,?_⟩));obtain rfl:r0=r:=Option.some.inj (hr0.symm.trans hr);rw[<- hD]at gp ⊢;obtain⟨hPo,hPT,hPall⟩:=yL hok hro;have hsb:=fun q (hq:PolOk x q)=>Rc hok h6 (fixC q);obtain⟨P,hP⟩:∃ P,P=fM x r0:=⟨_,rfl⟩
 rw[<- hP]at hPo hPT hPall ⊢;have hPT':gK x P=gJ x r0:=by rw[<- hPT];exact sg hok hPo
 have hPf:=mB hok hPo;obtain⟨va,vb,vg,hv,hvF⟩:=vI (S:=gJ x r0) (D:=D) gp.1;rw[hv];simp only[go_sem];obtain⟨H3,hH3⟩:∃ H3,H3=ext H2 [.arr 0 41 [.lit (.int .i64 va),.lit (.int .i64 vb)]]:=⟨_,rfl⟩
 have g7:H3.get H2.next=some (.arr 0 41 [.lit (.int .i64 va),.lit (.int .i64 vb)]):=by rw[hH3];exact bL
 have g5:=(show H3.get H1.next=H2.get H1.next by rw[hH3,bE (by omega)]).trans g5;have g3:=(show H3.get (H.next+1)=H2.get (H.next+1) by rw[hH3,bE (by omega)]).trans g3;have n3:H3.next=H2.next+1:=by rw[hH3];rfl
 rw[<- hH3];clear hH3;have l5:=ag g5;refine W.env fun E1 hE1=>?_;have a3:E1 3=.ptr (H.next+1) 0 0:=by rw[hE1];simp only[go_sem]
 have a5:E1 5=.ptr H1.next 0 0:=by rw[hE1];simp only[go_sem]
 have a6:E1 6=aA P:=by rw[hE1];simp only[go_sem]
 have a7:E1 7=.ptr H2.next 0 0:=by rw[hE1];simp only[go_sem]
 have a8:E1 8=aa 0:=by rw[hE1];simp only[go_sem]
 clear hE1;refine W.seq (af _ _ _ (by rfl) ?_);simp only[go_sem,a5,a6,l5];refine ay.clo (zx x _ (uQ x hf _ hPf (sj h6 _) _ _ ⟨trivial,?_⟩));rw[nP hok hPo,yo hok hPo,<- hD,hPT',hv];simp only[go_sem];obtain⟨H4,hH4⟩:∃ H4,H4=ext H3 [.arr 0 41 [.lit (.int .i64 va),.lit (.int .i64 vb)]]:=⟨_,rfl⟩
 have g9:H4.get H3.next=some (.arr 0 41 [.lit (.int .i64 va),.lit (.int .i64 vb)]):=by rw[hH4];exact bL
 have g7:=(show H4.get H2.next=H3.get H2.next by rw[hH4,bE (by omega)]).trans g7;have g5:=(show H4.get H1.next=H3.get H1.next by rw[hH4,bE (by omega)]).trans g5;have g3:=(show H4.get (H.next+1)=H3.get (H.next+1) by rw[hH4,bE (by omega)]).trans g3;have n4:H4.next=H3.next+1:=by rw[hH4];rfl
 rw[<- hH4];clear hH4;have l5:=ag g5;have l7:=ag g7;have l9:=ag g9;have l3':=ag g3;have nq:∀ o1 o2,bp Tryz.prog .neq 41 o1 o2 (.agg [.lit (.int .i64 va),.lit (.int .i64 vb)]) (.agg [.lit (.int .i64 va),.lit (.int .i64 vb)])=some (.lit (.bool false)):=fun o1 o2=>by rw[KZ];simp
 have sP:=hsb P hPo;have hPs:=sg hok hPo;have hcv:=hvF.check (by omega) (by omega);have hvb:=hvF.bound;have hv1:=hvF.b1;refine W.env fun E2 hE2=>?_;have b3:E2 3=.ptr (H.next+1) 0 0:=by rw[hE2];simp only[go_sem,a3]
 have b5:E2 5=.ptr H1.next 0 0:=by rw[hE2];simp only[go_sem,a5]
 have b6:E2 6=aA P:=by rw[hE2];simp only[go_sem,a6]
 have b7:E2 7=.ptr H2.next 0 0:=by rw[hE2];simp only[go_sem,a7]
 have b8:E2 8=aa 0:=by rw[hE2];simp only[go_sem,a8]
 have b9:E2 9=.ptr H3.next 0 0:=by rw[hE2];simp only[go_sem]
 have b10:E2 10=aa 0:=by rw[hE2];simp only[go_sem]
 clear hE2;refine W.seq (af _ _ _ (by rfl) ?_);simp only[go_sem,b7,b8,b9,b10,l7,l9,nq];refine ay.clo (R01.DR va vb (by unfold R01.g8;omega) (by unfold R01.g8;omega) _ _ ⟨trivial,?_⟩);rw[decide_eq_true hcv];simp only[go_sem,b5,b6,l5];refine ay.clo (Rk x hf hok P hPo _ _ ⟨trivial,?_⟩);simp only[go_sem];refine W.seq (af _ _ _ (by rfl) ?_);simp only[go_sem,b3,l3'];refine W.env fun E3 hE3=>?_;have c5:E3 5=.ptr H1.next 0 0:=by rw[hE3];simp only[go_sem,b5]
 have c6:E3 6=aA P:=by rw[hE3];simp only[go_sem,b6]
 have c7:E3 7=.ptr H2.next 0 0:=by rw[hE3];simp only[go_sem,b7]
 have c60:E3 60=.agg [.vec l0.length (ba l0),.vec l1.length (ba l1),.vec l2.length (ba l2),.vec l3.length (ba l3)]:=by rw[hE3];simp only[go_sem]
 have c61:E3 61=aa 0:=by rw[hE3];simp only[go_sem]
 clear hE3;refine W.aK 5846006549323611672814739330862826235614518573072 (by kernel_rfl) (fun ρ Hx=>∃ i:Nat,ρ 61=aa i/\i<=4/\Over H4 Hx) (fun ρ Hx=>4 - (iv (ρ 61)).toNat) ?_ ?_
 ·exact⟨0,c61,by omega,.refl _⟩
 rintro ρ Hx ⟨i,h61,hi,ox⟩;refine W.env fun E4 hE4=>?_;have d5:E4 5=.ptr H1.next 0 0:=by rw[hE4];simp only[go_sem,c5]
 have d6:E4 6=aA P:=by rw[hE4];simp only[go_sem,c6]
 have d7:E4 7=.ptr H2.next 0 0:=by rw[hE4];simp only[go_sem,c7]
 have d60:E4 60=.agg [.vec l0.length (ba l0),.vec l1.length (ba l1),.vec l2.length (ba l2),.vec l3.length (ba l3)]:=by rw[hE4];simp only[go_sem,c60]
 have d61:E4 61=aa i:=by rw[hE4];simp only[go_sem,h61]
 clear hE4;by_cases hb:(i:Int)<4;rotate_left
 ·refine af _ _ _ (by rfl) ?_;simp only[go_sem,d61,hb];refine af _ _ _ (by rfl) ?_;simp only[go_sem];have:=ox.next;exact ar.mk (by omega) (hK _ (by omega))
 obtain⟨bs,hbs⟩:∃ bs,bs=if i=0 then l0 else if i=1 then l1 else if i=2 then l2 else l3:=⟨_,rfl⟩
 obtain⟨hbl,hb8⟩:(bs.length:Int)<2 ^ 63/\∀ c∈bs,U8 c:=hea bs (by rw[hbs];(repeat' split)<;>simp);refine W.seq (af _ _ _ (by rfl) ?_);simp only[go_sem,d61,hb];refine W.seq (af _ _ _ (by rfl) ?_);simp only[go_sem];refine W.seq (W.block ?_);refine W.jR (fun s'=>s'.H=Hx/\s'.ρ 5=.ptr H1.next 0 0/\s'.ρ 6=aA P/\s'.ρ 7=.ptr H2.next 0 0/\s'.ρ 11=aa i/\s'.ρ 12=.vec bs.length (ba bs)/\s'.ρ 61=aa i) ?_ ?_
 ·refine af _ _ _ (by rfl) ?_;rcases(show i=0\/i=1\/i=2\/i=3 by omega) with e|e|e|e
  ·subst e;simp only[go_sem,d5,d6,d7,d60,d61];rw[hbs];rfl
  ·subst e;simp only[go_sem,d5,d6,d7,d60,d61];rw[hbs];rfl
  ·subst e;simp only[go_sem,d5,d6,d7,d60,d61];rw[hbs];rfl
  ·subst e;simp only[go_sem,d5,d6,d7,d60,d61];rw[hbs];rfl
 rintro⟨ρ3,Hz⟩ ⟨hHz,t5,t6,t7,t11,t12,t61⟩;simp only at hHz t5 t6 t7 t11 t12 t61;rw[hHz];clear hHz Hz;have l5:=ag ((ox.old _ (by omega)).trans g5);refine W.seq (af _ _ _ (by rfl) ?_);simp only[go_sem,t5,t12,l5];refine ay.clo (Sa x hf hok bs hbl hb8 _ _ fun Q0 qv H5 hQ0 o5 hO0=>⟨trivial,?_⟩);simp only[go_sem];refine W.env fun E5 hE5=>?_;have m5:E5 5=.ptr H1.next 0 0:=by rw[hE5];simp only[go_sem,t5]
 have m6:E5 6=aA P:=by rw[hE5];simp only[go_sem,t6]
 have m7:E5 7=.ptr H2.next 0 0:=by rw[hE5];simp only[go_sem,t7]
 have m11:E5 11=aa i:=by rw[hE5];simp only[go_sem,t11]
 have m12:E5 12=.vec bs.length (ba bs):=by rw[hE5];simp only[go_sem,t12]
 have m13:E5 13=qv:=by rw[hE5];simp only[go_sem]
 have m61:E5 61=aa i:=by rw[hE5];simp only[go_sem,t61]
 clear hE5;have oxn:=ox.next;refine W.jR (fun s'=>∃ Q,PolOk x Q/\s'.ρ 13=aA Q/\Over H4 s'.H/\s'.ρ 5=.ptr H1.next 0 0/\s'.ρ 6=aA P/\s'.ρ 7=.ptr H2.next 0 0/\s'.ρ 61=aa i) ?_ ?_
 ·refine W.qY (Q':=fun e s2=>e=.normal/\∃ Q,PolOk x Q/\fk Hx.next s2.H 46 3 (s2.ρ 13) (Q.map ints)/\Over H4 s2.H/\s2.ρ 5=.ptr H1.next 0 0/\s2.ρ 6=aA P/\s2.ρ 7=.ptr H2.next 0 0/\s2.ρ 61=aa i) ?_ ?_;rotate_left
  ·rintro e s2 ⟨rfl,Q,q1,q2,q3,q5,q6,q7,q61⟩;exact⟨_,dM.R7 aI (n:=H4.next) (t0:=13) (v':=aA Q) (R8 q2.RZ fun i h=>by omega),Nat.le_refl _,trivial,rfl,Q,q1,rfl,q3.cut,q5,q6,q7,q61⟩
  have ho5:Over H4 H5:=ox.trans o5;by_cases hi0:(i:Int)=0;rotate_left
  ·refine W.seq (af _ _ _ (by rfl) ?_);simp only[go_sem,m11,hi0];refine W.cond (t:=false) (by simp only[go_sem]) ?_;refine af _ _ _ (by rfl) ?_;simp only[go_sem,m5,m6,m7,m13,m61];exact⟨Q0,hQ0,hO0,ho5⟩
  refine W.seq (af _ _ _ (by rfl) ?_);simp only[go_sem,m11,hi0];refine W.cond (t:=true) (by simp only[go_sem]) ?_;have hql:(Q0.map ints).length=(aE x).length:=by rw[List.length_map,hQ0.len]
  have hlen:ko Tryz.prog H5 33 qv=some (aa (aE x).length):=by
   obtain⟨cs,w1,w2,_⟩:=hO0;have:=Sf w1;rw[w2,hql]at this;exact this
  have hdl:(aE x).length<=x.nodes.length:=jg;refine W.seq (af _ _ _ (by rfl) ?_);simp only[go_sem,m13,hlen];refine W.env fun E6 hE6=>?_;have u5:E6 5=.ptr H1.next 0 0:=by rw[hE6];simp only[go_sem,m5]
  have u6:E6 6=aA P:=by rw[hE6];simp only[go_sem,m6]
  have u7:E6 7=.ptr H2.next 0 0:=by rw[hE6];simp only[go_sem,m7]
  have u12:E6 12=.vec bs.length (ba bs):=by rw[hE6];simp only[go_sem,m12]
  have u13:E6 13=qv:=by rw[hE6];simp only[go_sem,m13]
  have u61:E6 61=aa i:=by rw[hE6];simp only[go_sem,m61]
  have u71:E6 71=aa (aE x).length:=by rw[hE6];simp only[go_sem]
  have u72:E6 72=aa 0:=by rw[hE6];simp only[go_sem]
  clear hE6;refine W.block ?_;refine W.aK 41538374868273898661761100988596224 (by kernel_rfl) (fun ρ Hw=>∃ (k:Nat) (Q:List (List Int)),ρ 72=aa k/\k<=(aE x).length/\PolOk x Q/\fk Hx.next Hw 46 3 qv (Q.map ints)/\Over H4 Hw/\Hw.next=H5.next) (fun ρ Hw=>(aE x).length - (iv (ρ 72)).toNat) ?_ ?_
  ·exact⟨0,Q0,u72,by omega,hQ0,hO0,ho5,rfl⟩
  rintro ρ4 Hw ⟨k,Q,h72,hk,hQ,hO,ow,hwn⟩;refine W.env fun E7 hE7=>?_;have v5:E7 5=.ptr H1.next 0 0:=by rw[hE7];simp only[go_sem,u5]
  have v6:E7 6=aA P:=by rw[hE7];simp only[go_sem,u6]
  have v7:E7 7=.ptr H2.next 0 0:=by rw[hE7];simp only[go_sem,u7]
  have v12:E7 12=.vec bs.length (ba bs):=by rw[hE7];simp only[go_sem,u12]
  have v13:E7 13=qv:=by rw[hE7];simp only[go_sem,u13]
  have v61:E7 61=aa i:=by rw[hE7];simp only[go_sem,u61]
  have v71:E7 71=aa (aE x).length:=by rw[hE7];simp only[go_sem,u71]
  have v72:E7 72=aa k:=by rw[hE7];simp only[go_sem,h72]
  clear hE7;by_cases hb3:(k:Int)<(aE x).length;rotate_left
  ·refine af _ _ _ (by rfl) ?_;simp only[go_sem,v5,v6,v7,v13,v61,v71,v72,hb3];exact⟨Q,hQ,hO,ow,by rw[hi0]⟩
  obtain⟨v0,hv0⟩:=get_of_lt (l:=aE x) (i:=k) (by omega);obtain⟨v1,v2,hpl⟩:=kH hv0;obtain⟨y,hy⟩:=get_of_lt v1;have hvm:v0∈aE x:=List.mem_of_getElem? hv0;have hyc:=hok.n.card y (List.mem_of_getElem? hy);obtain⟨nr,nc⟩:=iP hy (by omega);have hrc:=qz hok v1 v2;have hnr:1<=cr x v0/\cr x v0<=1024:=by unfold cr;omega
  rw[nr]at hnr;obtain⟨n,hn⟩:∃ n,n=bF x.nodes y:=⟨_,rfl⟩
  rw[<- hn]at hnr;obtain⟨pl,hpk⟩:=get_of_lt (l:=P) (i:=k) (by rw[hPo.len];omega);obtain⟨pll,plr⟩:=hPo.row k v0 y pl hv0 hy hpk;rw[<- hn]at pll;have hPl:(P.length:Int)=(aE x).length:=by rw[hPo.len]
  have hgp:(P.map ah)[k]?=some (ah pl):=by rw[List.getElem?_map,hpk];rfl
  have hgpn:=aL hgp;have mz:∀ (Q:List (List Int)) (Hw:AHeap),PolOk x Q->fk Hx.next Hw 46 3 qv (Q.map ints)->∃ l:List Int,Q[k]?=some l/\l.length=n/\∃ idt gt idr gr cells,qv=.own idt gt 0 (aE x).length 1/\Hw.live idt gt=some (46,cells)/\cells.length=(aE x).length/\cells[k]?=some (.own idr gr 0 n 1)/\Hw.live idr gr=some (3,ints l)/\Hx.next<=idr /\
   ∀ r':List Int,r'.length=n->fk Hx.next (Hw.upd idr (.arr gr 3 (ints r'))) 46 3 qv ((Q.set k r').map ints):=fun Q Hw hQ hO=>by
   obtain⟨l,hl⟩:=get_of_lt (l:=Q) (i:=k) (by rw[hQ.len];omega);obtain⟨ll,_⟩:=hQ.row k v0 y l hv0 hy hl;rw[<- hn]at ll;have hil:=aR l;obtain⟨idt,gt,idr,gr,cells,w1,w2,w3,_,_,w6,w7,w8,_,w10⟩:=hO.row (by decide) (k:=k) (r:=ints l) (by rw[List.getElem?_map,hl];rfl) (fun e=>by rw[e]at hil;simp at hil;omega);rw[List.length_map,hQ.len]at w1 w3;rw[aR,ll]at w6;exact⟨l,hl,ll,idt,gt,idr,gr,cells,w1,ag w2,w3,w6,ag w7,w8,fun r' hr=>by
    have:=w10 (ints r') (by rw[aR,aR,hr,ll]);rw[List.map_set];exact this⟩
  obtain⟨l,hl,ll,idt,gt,idr,gr,cells,w1,w2,w3,w6,w7,w8,_⟩:=mz Q Hw hQ hO;have w6n:=aL w6;rw[w1]at v13;refine W.seq (af _ _ _ (by rfl) ?_);simp only[go_sem,v71,v72,hb3];refine W.seq (af _ _ _ (by rfl) ?_);simp only[go_sem];refine W.seq (W.block ?_);refine W.seq (af _ _ _ (by rfl) ?_);simp only[go_sem,v72];refine W.seq (af _ _ _ (by rfl) ?_);have hil:=aR l;rw[ll]at hil;simp only[go_sem,v13,w2,w6,w7,hb3];refine W.env fun E8 hE8=>?_;have x5:E8 5=.ptr H1.next 0 0:=by rw[hE8];simp only[go_sem,v5]
  have x6:E8 6=aA P:=by rw[hE8];simp only[go_sem,v6]
  have x7:E8 7=.ptr H2.next 0 0:=by rw[hE8];simp only[go_sem,v7]
  have x12:E8 12=.vec bs.length (ba bs):=by rw[hE8];simp only[go_sem,v12]
  have x13:E8 13=qv:=by rw[hE8,w1];simp only[go_sem,v13]
  have x14:E8 14=aa k:=by rw[hE8];simp only[go_sem]
  have x72:E8 72=aa k:=by rw[hE8];simp only[go_sem,v72]
  have x79:E8 79=aa n:=by rw[hE8];simp only[go_sem]
  have x80:E8 80=aa 0:=by rw[hE8];simp only[go_sem]
  clear hE8 w1 w2 w3 w6 w7 w8;refine W.block ?_;refine W.aK 20769187432930384694507356142206976 (by kernel_rfl) (fun ρ Hv=>∃ (j:Nat) (Q:List (List Int)),ρ 80=aa j/\j<=n/\PolOk x Q/\fk Hx.next Hv 46 3 qv (Q.map ints)/\Over H4 Hv/\Hv.next=Hw.next) (fun ρ Hv=>n - (iv (ρ 80)).toNat) ?_ ?_
  ·exact⟨0,Q,x80,by omega,hQ,hO,ow,rfl⟩
  rintro ρ5 Hv ⟨j,Q,h80,hj,hQ,hO,ow,hvn⟩;refine W.env fun E9 hE9=>?_;have y5:E9 5=.ptr H1.next 0 0:=by rw[hE9];simp only[go_sem,x5]
  have y6:E9 6=aA P:=by rw[hE9];simp only[go_sem,x6]
  have y7:E9 7=.ptr H2.next 0 0:=by rw[hE9];simp only[go_sem,x7]
  have y12:E9 12=.vec bs.length (ba bs):=by rw[hE9];simp only[go_sem,x12]
  have y13:E9 13=qv:=by rw[hE9];simp only[go_sem,x13]
  have y14:E9 14=aa k:=by rw[hE9];simp only[go_sem,x14]
  have y72:E9 72=aa k:=by rw[hE9];simp only[go_sem,x72]
  have y79:E9 79=aa n:=by rw[hE9];simp only[go_sem,x79]
  have y80:E9 80=aa j:=by rw[hE9];simp only[go_sem,h80]
  clear hE9;by_cases hb4:(j:Int)<n;rotate_left
  ·refine af _ _ _ (by rfl) ?_;simp only[go_sem,y79,y80,hb4];have wk:=IntWalk.i64_in ((k:Int)+1) (by omega);refine af _ _ _ (by rfl) ?_;simp only[go_sem,y72,wk];exact⟨by omega,⟨k+1,Q,rfl,by omega,hQ,hO,ow,by omega⟩,by rw[h72];simp only[aa,aU];omega⟩
  refine W.seq (af _ _ _ (by rfl) ?_);simp only[go_sem,y79,y80,hb4];refine W.seq (af _ _ _ (by rfl) ?_);simp only[go_sem];refine W.seq (W.block ?_);refine W.seq (af _ _ _ (by rfl) ?_);simp only[go_sem,y80];have wj:=IntWalk.i64_in ((j:Int)+1) (by omega);have w3k:=IntWalk.i64_in (3*(k:Int)) (by omega);have w3j:=IntWalk.i64_in ((j:Int)+3*(k:Int)) (by omega);obtain⟨l,hl,ll,idt,gt,idr,gr,cells,w1,w2,w3,w6,w7,w8,w10⟩:=mz Q Hv hQ hO;have w6n:=aL w6;have hil:=aR l;rw[ll]at hil;obtain⟨a,ha⟩:=get_of_lt (l:=pl) (i:=j) (by omega);have han:=aL ha;have hpll:(pl.length:Int)=n:=by omega
  refine W.jR (fun s'=>s'.H=Hv/\s'.ρ 6=aA P/\s'.ρ 13=qv/\s'.ρ 14=aa k/\s'.ρ 15=aa j/\s'.ρ 80=aa j/\∃ t,s'.ρ 99=.lit (.bool t)) ?_ ?_
  ·refine af _ _ _ (by rfl) ?_;by_cases hz:(bs.length:Int) > 0;rotate_left
   ·simp only[go_sem,y6,y12,y13,y14,y80,hz];exact⟨_,rfl⟩
   have hzn:¬ (bs.length:Int)=0:=(by omega);have m1:((j:Int)+3*(k:Int)).tmod bs.length=(((j+3*k) % bs.length:Nat):Int):=(by rw[show (j:Int)+3*(k:Int)=((j+3*k:Nat):Int) by omega,Int.tmod_eq_emod_of_nonneg (by omega)];rfl);have m2:=Nat.mod_lt (j+3*k) (show bs.length > 0 by omega);obtain⟨z,hzz⟩:∃ z,z=(j+3*k) % bs.length:=⟨_,rfl⟩
   rw[<- hzz]at m1 m2;have hz0:(z:Int) >= 0:=(by omega);have hzl:(z:Int)<bs.length:=(by omega);have wz:=IntWalk.i64_in (z:Int) (by omega);obtain⟨b,hbg⟩:=get_of_lt (l:=bs) (i:=z) m2;have hbg':=qx hbg;have hbne:=aL hbg';simp only[go_sem,y6,y12,y13,y14,y80,hz,w3k,w3j,hzn,m1,hz0,hzl,hbg',hbne];exact⟨_,rfl⟩
  rintro⟨ρ6,Hq⟩ ⟨hHq,q6,q13,q14,q15,q80,t,q99⟩;simp only at hHq q6 q13 q14 q15 q80 q99;rw[hHq];rw[w1]at q13;cases t with
  | false =>
   refine W.cond (t:=false) q99 ?_;refine af _ _ _ (by rfl) ?_;simp only[go_sem];refine af _ _ _ (by rfl) ?_;simp only[go_sem,q80,wj];exact⟨by omega,⟨j+1,Q,rfl,by omega,hQ,hO,ow,hvn⟩,by rw[h80];simp only[aa,aU];omega⟩
  | true =>
   refine W.cond (t:=true) q99 ?_;have es:setAt (ints l) j [.lit (.int .i64 a)]=ints (l.set j a):=fV (by omega);have jn:(j:Int)<n:=(by omega);refine W.draw 12 [0,0,3,7,0,0,0,96,224,0,992,2016] Tryz.mixed (by kernel_rfl) (by kernel_rfl) ?_;simp only[go_sem,q6,q13,q14,q15,w2,w6,w7,hil,aA,hPl,hb3,hgp,hgpn,ha,han,hpll,jn,es];have hQ':PolOk x (Q.set k (l.set j a)):=by
    have:=BQ hQ hy v2 (l:=l.set j a) (by rw[List.length_set,ll,hn]) fun c hc=>by
     rcases List.mem_or_eq_of_mem_set hc with h|h
     ·exact(hQ.row k v0 y l hv0 hy hl).2 c h
     ·rw[h];exact plr a (List.mem_of_getElem? ha)
    rw[hpl]at this;exact this
   have hO':=w10 (l.set j a) (by rw[List.length_set];exact ll);have ow':Over H4 (Hv.upd idr (.arr gr 3 (ints (l.set j a)))):=Over.upd (id:=idr) ow (by omega) _;refine⟨by omega,af _ _ _ (by rfl) ?_⟩;simp only[go_sem,q80,wj];exact⟨by rw[aG];omega,⟨j+1,_,rfl,by omega,hQ',hO',ow',by rw[aG];exact hvn⟩,by rw[h80];simp only[aa,aU];omega⟩
 rintro⟨ρ7,Hq⟩ ⟨Q,hQ,t13,ow,t5,t6,t7,t61⟩;simp only at t13 t5 t6 t7 t61 ow;have own:=ow.next;have hQf:=mB hok hQ;have hQe:=nP hok hQ;obtain⟨hQle,hQeq⟩:=hPall Q hQ;have hQs:=sg hok hQ;rw[<- hQs]at hQle hQeq;have sQ:=hsb Q hQ;rw[<- hQs]at sQ;have l5:=ag ((ow.old _ (by omega)).trans g5);refine W.seq (af _ _ _ (by rfl) ?_);simp only[go_sem,t5,t13,l5];refine ay.clo (zx x _ (uQ x hf _ hQf (sj h6 _) _ _ ⟨trivial,?_⟩));obtain⟨ua,ub,ug,hu,huF⟩:=vI (S:=gK x Q) (D:=D) gp.1;rw[hQe,yo hok hQ,<- hD,hu];simp only[go_sem];obtain⟨H6,hH6⟩:∃ H6,H6=ext Hq [.arr 0 41 [.lit (.int .i64 ua),.lit (.int .i64 ub)]]:=⟨_,rfl⟩
 have g16:H6.get Hq.next=some (.arr 0 41 [.lit (.int .i64 ua),.lit (.int .i64 ub)]):=by rw[hH6];exact bL
 have o6:Over H4 H6:=by rw[hH6];exact ow.trans (.ext _ _)
 have n6:H6.next=Hq.next+1:=by rw[hH6];rfl
 rw[<- hH6];clear hH6;have l16:=ag g16;have l5:=ag ((o6.old _ (by omega)).trans g5);have l7:=ag ((o6.old _ (by omega)).trans g7);refine W.seq (af _ _ _ (by rfl) ?_);simp only[go_sem,t5,t13,l5];refine ay.clo (zx x Q (vA x hf h6 Q hQf _ _ (fun he=>absurd (hre.symm.trans he) (by decide)) (fun _ he=>absurd hre he) (fun _ he=>absurd hQe he) fun r hr' _ _ _=>⟨trivial,?_⟩));obtain rfl:r0=r:=Option.some.inj (hr0.symm.trans hr');simp only[go_sem];refine W.env fun EA hEA=>?_;have z6:EA 6=aA P:=by rw[hEA];simp only[go_sem,t6]
 have z7:EA 7=.ptr H2.next 0 0:=by rw[hEA];simp only[go_sem,t7]
 have z13:EA 13=aA Q:=by rw[hEA];simp only[go_sem,t13]
 have z16:EA 16=.ptr Hq.next 0 0:=by rw[hEA];simp only[go_sem]
 have z17:EA 17=aa 0:=by rw[hEA];simp only[go_sem]
 have z18:EA 18=.lit (.bool (decide (gK x Q=gJ x r0))):=by rw[hEA];simp only[go_sem]
 have z19:EA 19=aa 0:=by rw[hEA];simp only[go_sem]
 have z61:EA 61=aa i:=by rw[hEA];simp only[go_sem,t61]
 clear hEA;have hcu:=huF.check (by omega) (by omega);have hub:=huF.bound;have hu1:=huF.b1;have hcmp:=huF.cmp gp.1 hvF;have wi:=IntWalk.i64_in ((i:Int)+1) (by omega);refine W.seq (af _ _ _ (by rfl) ?_);simp only[go_sem,z16,z17,z19,l16];refine ay.clo (R01.DR ua ub (by unfold R01.g8;omega) (by unfold R01.g8;omega) _ _ ⟨trivial,?_⟩);rw[decide_eq_true hcu];simp only[go_sem];refine W.seq (af _ _ _ (by rfl) ?_);simp only[go_sem,z7,z16,l16,l7];refine ay.clo (R01.Rj ua ub va vb (by unfold R01.g8;omega) (by unfold R01.g8;omega) (by unfold R01.g8;omega) (by unfold R01.g8;omega) hu1 hv1 _ _ ⟨trivial,?_⟩);rw[hcmp];by_cases hEq:gK x Q=gJ x r0
 ·have hc:R01.cK (gK x Q) (gJ x r0)=0:=by rw[hEq];unfold R01.cK;simp
  rw[hc];rw[decide_eq_true hEq]at z18;simp only[go_sem];refine W.seq (af _ _ _ (by rfl) ?_);simp only[go_sem,z13,z18,R01.uR Tryz.underlying4];refine ay.clo (Ei hok hQ _ _ ⟨trivial,?_⟩);simp only[go_sem,z6,R01.uR Tryz.underlying4];refine ay.clo (Ei hok hPo _ _ ⟨trivial,?_⟩);simp only[go_sem,R01.uR Tryz.underlying4];obtain⟨_,_,hQ40⟩:=Eh hok hQ;rcases hQeq hEq with e|hlt
  ·rw[e];rw[e]at hQ40;refine ay.clo (Se P.flatten hQ40 _ _ ⟨trivial,?_⟩);simp only[go_sem];refine W.cond (t:=false) (by simp only[go_sem]) ?_;refine af _ _ _ (by rfl) ?_;simp only[go_sem];refine af _ _ _ (by rfl) ?_;simp only[go_sem,z61,wi];exact⟨o6.next,⟨i+1,rfl,by omega,o6⟩,by rw[h61];simp only[aa,aU];omega⟩
  ·refine ay.clo (Sd hlt hQ40 _ _ ⟨trivial,?_⟩);simp only[go_sem];refine W.cond (t:=false) (by simp only[go_sem]) ?_;refine af _ _ _ (by rfl) ?_;simp only[go_sem];refine af _ _ _ (by rfl) ?_;simp only[go_sem,z61,wi];exact⟨o6.next,⟨i+1,rfl,by omega,o6⟩,by rw[h61];simp only[aa,aU];omega⟩
 ·have hc:R01.cK (gK x Q) (gJ x r0)=-1:=by unfold R01.cK;rw[if_pos (by omega)]
  rw[hc];rw[decide_eq_false hEq]at z18;simp only[go_sem];refine W.seq (af _ _ _ (by rfl) ?_);simp only[go_sem,z18,R01.uR Tryz.underlying4];refine W.cond (t:=false) (by simp only[go_sem]) ?_;refine af _ _ _ (by rfl) ?_;simp only[go_sem];refine af _ _ _ (by rfl) ?_;simp only[go_sem,z61,wi];exact⟨o6.next,⟨i+1,rfl,by omega,o6⟩,by rw[h61];simp only[aa,aU];omega⟩
end Go.Proofs
namespace Go.Proofs.YtjhbjbninamhnaaGreat
open Go.ChangeShapes Go.WideShapes Go.ChangeAt Go.RowKit Go.Hx
section
variable {W:World} {H:Type} {enc:TypeId × Value->H} {spare:Nat->Bool} {held:Bool}
theorem KV {r:Reach}{b:Nat}{v:Value}{d:DataW H}{ps:List MemPlace}(hval:Value.okWide Tryz.prog W r b 98 v)(hd:DataW.Trod enc Tryz.prog W 0 spare held 98 v d ps):
  ∃ x:By4,RelV Tryz.prog kj dw W (.agg x.cells) v/\x.Ok:=by
 have hop:fF enc Tryz.prog W spare held 98 fun _ zs=>∃ x:By4,zs=x.cells/\x.Ok :=
  (FO Tryz.underlying98 (by rw[Tryz.Bn,Tryz.uu]) (tL Tryz.underlying23 Tryz.underlying5 Tryz.qj)).mono fun d zs h=>by
   obtain⟨ds,rows,_,rfl,hr,hl,_⟩:=h;obtain⟨l,rfl,hq⟩:=xc (f:=fun r:List Int=>[AVal.vec r.length (rL .u8 r)]) (q:=fun r=>r.length<=maxLen/\∀ c,c∈r->(Lit.int .u8 c).wf=true) (fun d zs ⟨n,h2,h3⟩=>⟨n,h2,h3⟩) hr;exact⟨⟨l⟩,Ar _ l,by simpa using hl,fun r h=>⟨qi (hq r h).1,fun c hc=>nE ((hq r h).2 c hc)⟩⟩
 obtain⟨xs,h1,x,rfl,h2⟩:=As hop (.inr ⟨_,_,Tryz.underlying98⟩) hval hd;exact⟨x,h1,h2⟩
end
end Go.Proofs.YtjhbjbninamhnaaGreat
