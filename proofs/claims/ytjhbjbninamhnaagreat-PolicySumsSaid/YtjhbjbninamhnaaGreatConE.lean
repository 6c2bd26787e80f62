/- Own work: contracts. -/
import Derived.Test.YtjhbjbninamhnaaGreatConD
import Derived.Test.YtjhbjbninamhnaaGreatConC
import Derived.Test.YtjhbjbninamhnaaGreatConB
set_option linter.all false
set_option maxRecDepth 100000
namespace Go.Proofs
open Go.Hx
theorem Qm {S:Nat->Prop}{lo nx:Nat}{H:AHeap}{e1 e0:TypeId}{v:AVal}{ids:List Nat}{p:List (List Int)}(h:OwnM lo H e1 e0 v ids (p.map ints))(hS:∀ i,lo<=i->S i):Fz S H nx v (aD p):=by
 have:=h.fz (S:=S) (nx:=nx) hS fun r hr c hc=>by
  obtain⟨q,_,rfl⟩:=List.mem_map.1 hr;obtain⟨a,_,rfl⟩:=List.mem_map.1 hc;exact .lit _
 rw[List.length_map,List.map_map]at this;have e:(p.map ((fun r:List AVal=>AVal.vec r.length r) ∘ ints))=p.map ah:=List.map_congr_left fun r _=>by
  show AVal.vec (ints r).length (ints r)=ah r;rw[aX];rfl
 rw[e]at this;exact this
def Do (d:InfP)(lvh:AVal)(tot:Int):List AVal:=[.lit (.int .i64 d.grain),.vec d.nodes.length (aC d.nodes),.lit (.int .u64 (d.decs:Int)),.vec d.utils.length (aS d.utils),lvh,ah (dm d),ah (de d),.lit (.int .i64 tot)]
theorem Dp {d:InfP}{s:Nat}{lvh:AVal}{tot:Int}(hok:InfOk d)(ht:-1000000000000000000<=tot/\tot<=1000000000000000000)(hw:1<=d.grain ^ d.nodes.length/\d.grain ^ d.nodes.length<=1000000000000000000)(H:AHeap)(hs:H.get s=some (.arr 0 130 (Do d lvh tot)))(hl:s<H.next)(K:ARes->AHeap->Prop)(hK:K (.ret (eB tot (d.grain ^ d.nodes.length))) H):
  ae Tryz.prog G0 48 [.ptr s 0 0] H K:=by
 refine ae.clo ⟨_,Tryz.func48,rfl,rfl⟩ fun hcl=>?_;have n8:=hok.n.n1;have hg:=hok.net.g1;refine ae.dZ (n:=20) (rs:=[.cell 2 41]) Tryz.func48 rfl rfl rfl (by decide) (by simp) ?_;refine W.seq (af _ _ _ (by rfl) ?_);simp only[go_sem];obtain⟨H1,hH1⟩:∃ H1,H1=ext H [.arr 0 41 [.lit (.int .i64 0),.lit (.int .i64 0)]]:=⟨_,rfl⟩
 have g1:H1.get H.next=some (.arr 0 41 [.lit (.int .i64 0),.lit (.int .i64 0)]):=by rw[hH1];exact bR
 have o1:Over H H1:=by rw[hH1];exact .ext _ _
 rw[<- hH1];clear hH1;have l1:=ag g1;have ls:=ag ((o1.old s hl).trans hs);unfold Do at ls;refine W.seq ?_;refine W.draw 16 [0,1,3,7,0,16,48,112,240,0,512,1536,3584,7680,15872,32752] Tryz.mixed (by kernel_rfl) (by kernel_rfl) ?_;simp only[go_sem,ls];refine⟨_,[],cI.pure fun H2=>CH d.grain d.nodes.length hg (by omega) H2 _ ⟨rfl,rfl⟩,?_⟩;refine az.clo (CI tot (d.grain ^ d.nodes.length) (by omega) (by omega) H1 _ ⟨trivial,?_⟩);unfold eB at hK ⊢;simp only[go_sem,l1];obtain⟨H2,hH2⟩:∃ H2,H2=H1.upd H.next (.arr 0 41 [.lit (.int .i64 (tot.tdiv (Int.gcd tot (d.grain ^ d.nodes.length):Int))),.lit (.int .i64 ((d.grain ^ d.nodes.length).tdiv (Int.gcd tot (d.grain ^ d.nodes.length):Int)))]):=⟨_,rfl⟩
 have o2:Over H H2:=by rw[hH2];exact Over.upd (id:=H.next) o1 (Nat.le_refl _) _
 have l2:H2.live H.next 0=_:=ag (show H2.get H.next=_ by rw[hH2,aj,if_pos rfl]);rw[<- hH2];refine af _ _ _ (by rfl) ?_;simp only[go_sem,l2];refine au.bE aK hcl o2 (.agg rfl fun i hi _=>?_) hK
 match i,hi with
 | 0,_=>exact .lit _
 | 1,_=>exact .lit _
theorem Qn {d:InfP}{r:List Nat}{lo s:Nat}{lvh:AVal}{I:Nat->Nat->Nat}{T:TabS}{tot:Int}(hok:InfOk d)(ht:-1000000000000000000<=tot/\tot<=1000000000000000000)(hw:1<=d.grain ^ d.nodes.length/\d.grain ^ d.nodes.length<=1000000000000000000)(H:AHeap)(hS:SolvH d r lo s lvh I T tot H)(K:ARes->AHeap->Prop)(hK:∀ H',Over H H'->K (.ret (eB tot (d.grain ^ d.nodes.length))) H'):
  ae Tryz.prog G0 48 [.ptr s 0 0] H K :=
 Dp hok ht hw H hS.top hS.slo.2 K (hK H (.refl _))
theorem ve (d:InfP)(hf:InfFit d)(h6:d.nodes.length<=6)(H:AHeap)(K:ARes->AHeap->Prop)
  (hE:cQ d=4->K (.ret (.tup [.lit (.slice none 0 0),.agg [aa 0,aa 0],aa 210])) H)
  (hE2:cQ d≠4->cQ d≠0->K (.ret (.tup [.lit (.slice none 0 0),.agg [aa 0,aa 0],aa (cQ d)])) H)
  (hK:∀ r,fQ d=some r->InfOk d->OrdR d r->K (.ret (.tup [aD (fw d r),eB (jD d r) (d.grain ^ d.nodes.length),aa 0])) H):
  ae Tryz.prog G0 11 [dI d] H K:=by
 refine ae.clo ⟨_,Tryz.func11,rfl,rfl⟩ fun hcl=>?_;refine ae.dZ (n:=20) (rs:=[.tmp 2,.cell 3 41,.tmp 4]) Tryz.func11 rfl rfl rfl (by decide) (by simp) ?_;refine W.seq (af _ _ _ (by rfl) ?_);simp only[go_sem,iu,cz];obtain⟨H1,hH1⟩:∃ H1,H1=ext H [.arr 0 38 [.lit (.int .i64 d.grain),.vec d.nodes.length (aC d.nodes),.lit (.int .u64 (d.decs:Int)),.vec d.utils.length (aS d.utils)],.arr 0 41 [.lit (.int .i64 0),.lit (.int .i64 0)]]:=⟨_,rfl⟩
 have g1:H1.get H.next=some (.arr 0 38 [.lit (.int .i64 d.grain),.vec d.nodes.length (aC d.nodes),.lit (.int .u64 (d.decs:Int)),.vec d.utils.length (aS d.utils)]):=by rw[hH1];exact cu ..
 have g2:H1.get (H.next+1)=some (.arr 0 41 [.lit (.int .i64 0),.lit (.int .i64 0)]):=by rw[hH1];exact aZ H _ 1 (by simp)
 have n1:H1.next=H.next+2:=by rw[hH1];rfl
 have o1:Over H H1:=by rw[hH1];exact .ext _ _
 rw[<- hH1];clear hH1;have l1:=ag g1;refine W.seq (af _ _ _ (by rfl) ?_);simp only[go_sem,l1];have zero:∀ (H2:AHeap) (e:Int),Over H1 H2->K (.ret (.tup [.lit (.slice none 0 0),.agg [aa 0,aa 0],aa e])) H->au Tryz.prog G0 H K (.tup [.lit (.slice none 0 0),.agg [aa 0,aa 0],aa e]) (H2.upd (H.next+1) (.arr 0 41 [aa 0,aa 0])):=fun H2 e ho hk=>by
  refine au.bE aK hcl (Over.upd (id:=H.next+1) (o1.trans ho) (Nat.le_succ _) _) (.tup rfl fun i hi _=>?_) hk
  match i,hi with
  | 0,_=>exact .lit _
  | 1,_ =>
   refine .agg rfl fun i hi _=>?_
   match i,hi with
   | 0,_=>exact .lit _
   | 1,_=>exact .lit _
  | 2,_=>exact .lit _
 refine az.clo (C7 d hf h6 H1 _ (fun H2 ho he=>⟨trivial,?_⟩) (fun H2 ho he he2=>⟨trivial,?_⟩) fun r s lvh I H2 hr hok ho hS hnil=>⟨trivial,?_⟩)
 ·have g2':=ag ((ho.old _ (by omega)).trans g2);simp only[go_sem];refine W.seq (af _ _ _ (by rfl) ?_);simp only[go_sem,g2'];exact zero H2 210 ho (hE he)
 ·have g2':=ag ((ho.old _ (by omega)).trans g2);simp only[go_sem];refine W.seq (af _ _ _ (by rfl) ?_);simp only[go_sem,he2,g2'];exact zero H2 (cQ d) ho (hE2 he he2)
 simp only[go_sem];refine W.seq (af _ _ _ (by rfl) ?_);simp only[go_sem];obtain⟨hPo,hT,_⟩:=uK hok (qz hr);have hro:=qz hr;have hrl:r.length<=12:=by
  have h1:=C5 _ _ _ _ hr;have h2:(aE d).length<=d.nodes.length:=jw;simp at h1;omega
 have hb:=uy h6 (fw d r) hok hPo _ (Nat.le_refl _);have hsum:gW (b7 d (fixC (fw d r))) d.utils (bH d.nodes)=jD d r:=by rw[<- hT];exact um hok hPo
 rw[hsum]at hb;have htot:iS (ar d r) 0=jD d r:=if_pos (.inr rfl);rw[htot]at hS;have hK:=hK r hr hok hro;have hsl:=hS.slo;refine af _ _ _ (by rfl) ?_;simp only[go_sem];refine az.clo (choose_spec hok hro hrl (by omega) H2 hS hnil _ fun v ids T' H3 n3 o3 hS3 hM=>⟨trivial,?_⟩);simp only[go_sem];refine az.clo (Qn hok hb (by have:=yQ hok;omega) H3 hS3 _ fun H4 o4=>⟨trivial,?_⟩);have k4:∀ i,i<H1.next->H4.get i=H1.get i:=fun i h=>by
  rw[o4.old i (by have:=ho.next;omega),o3 i (by have:=ho.next;omega) (by omega) fun k j h1 h2=>by have:=(hS.levs.rng k j h1 h2).1;omega];exact ho.old i h
 have l4:=ag ((k4 _ (by omega)).trans g2);unfold eB at hK ⊢;simp only[go_sem,l4];have o5:Over H H4:=⟨by have:=o4.next;have:=ho.next;omega,fun i h=>(k4 i (by omega)).trans (o1.old i h)⟩
 have hM4:=hM.keep (H':=H4) o4.next fun i _ h=>o4.old i h;have hM5:∀ b,OwnM H1.next (H4.upd (H.next+1) b) 46 3 v ids ((fw d r).map ints):=fun b=>hM4.keep (by rw[aH];exact Nat.le_refl _) fun i h _=>by rw[aj,if_neg (by omega)]
 refine au.bE (v':=.tup [aD (fw d r),_,aa 0]) aK hcl (Over.upd (id:=H.next+1) o5 (Nat.le_succ _) _) (.tup rfl fun i hi _=>?_) hK
 match i,hi with
 | 0,_=>exact Qm (hM5 _) fun i h=>by omega
 | 1,_ =>
  refine .agg rfl fun i hi _=>?_
  match i,hi with
  | 0,_=>exact .lit _
  | 1,_=>exact .lit _
 | 2,_=>exact .lit _
end Go.Proofs
namespace Go.Proofs
open Go.Hx
theorem Qo {S1 S2 D a1 b1 g1 a2 b2 g2:Int}(e1:eB S1 D=.agg [.lit (.int .i64 a1),.lit (.int .i64 b1)])(h1:RatF S1 D a1 b1 g1)(e2:eB S2 D=.agg [.lit (.int .i64 a2),.lit (.int .i64 b2)])(h2:RatF S2 D a2 b2 g2):(a1 == a2 && b1 == b2)=decide (S1=S2):=by
 by_cases h:S1=S2
 ·subst h;rw[e1]at e2;injection e2 with e2
  injection e2 with p q
  injection q with q _
  injection p with p
  injection q with q
  injection p with _ p
  injection q with _ q
  rw[p,q];simp
 ·rw[decide_eq_false h];by_cases ha:a1=a2
  ·by_cases hb:b1=b2
   ·exfalso;subst ha hb;have:b1*g1=b1*g2:=(by rw[h1.d,h2.d]);have:=Int.eq_of_mul_eq_mul_left (by have:=h1.b1;omega) this;exact h (by rw[<- h1.n,<- h2.n,this])
   ·simp [hb]
  ·simp [ha]
theorem yM (d:InfP)(hf:InfFit d)(h6:d.nodes.length<=6)(p:List (List Int))(hp:oX p)(H:AHeap)(K:ARes->AHeap->Prop)
  (hE:cQ d=4->K (.ret (.tup [.lit (.bool false),aa 210])) H)
  (hE2:cQ d≠4->cQ d≠0->K (.ret (.tup [.lit (.bool false),aa (cQ d)])) H)
  (hP:cQ d=0->eC d p≠0->K (.ret (.tup [.lit (.bool false),aa (eC d p)])) H)
  (hK:∀ r,fQ d=some r->InfOk d->OrdR d r->PolOk d p->K (.ret (.tup [.lit (.bool (decide (iP d p=jD d r))),aa 0])) H):
  ae Tryz.prog G0 15 [dI d,aD p] H K:=by
 refine ae.clo ⟨_,Tryz.func15,rfl,rfl⟩ fun hcl=>?_;have two:∀ (b:Bool) (e:Int),Fz (fun id=>H.next<=id) H H.next (.tup [.lit (.bool b),aa e]) (.tup [.lit (.bool b),aa e]):=fun b e=>.tup rfl fun i hi _=>match i,hi with
  | 0,_=>.lit _
  | 1,_=>.lit _
 refine ae.dZ (n:=30) (rs:=[.tmp 4,.tmp 5]) Tryz.func15 rfl rfl rfl (by decide) (by simp) ?_;refine W.seq (af _ _ _ (by rfl) ?_);simp only[go_sem,iu,cz];obtain⟨H1,hH1⟩:∃ H1,H1=ext H [.arr 0 38 [.lit (.int .i64 d.grain),.vec d.nodes.length (aC d.nodes),.lit (.int .u64 (d.decs:Int)),.vec d.utils.length (aS d.utils)]]:=⟨_,rfl⟩
 have g1:H1.get H.next=some (.arr 0 38 [.lit (.int .i64 d.grain),.vec d.nodes.length (aC d.nodes),.lit (.int .u64 (d.decs:Int)),.vec d.utils.length (aS d.utils)]):=by rw[hH1];exact cu ..
 have n1:H1.next=H.next+1:=by rw[hH1];rfl
 have o1:Over H H1:=by rw[hH1];exact .ext _ _
 rw[<- hH1];clear hH1;have l1:=ag g1;have fin:∀ (H2:AHeap) (b:Bool) (e:Int),Over H H2->K (.ret (.tup [.lit (.bool b),aa e])) H->au Tryz.prog G0 H K (.tup [.lit (.bool b),aa e]) H2:=fun H2 b e ho hk=>by
  refine au.bE aK hcl ho (.tup rfl fun i hi _=>?_) hk
  match i,hi with
  | 0,_=>exact .lit _
  | 1,_=>exact .lit _
 refine W.seq (af _ _ _ (by rfl) ?_);simp only[go_sem,l1];refine az.clo (C7 d hf h6 H1 _ (fun H2 ho he=>⟨trivial,?_⟩) (fun H2 ho he he2=>⟨trivial,?_⟩) fun r s lvh I H2 hr hok ho hS hnil=>⟨trivial,?_⟩)
 ·simp only[go_sem];refine W.seq (af _ _ _ (by rfl) ?_);simp only[go_sem];exact fin H2 false 210 (o1.trans ho) (hE he)
 ·simp only[go_sem];refine W.seq (af _ _ _ (by rfl) ?_);simp only[go_sem,he2];exact fin H2 false (cQ d) (o1.trans ho) (hE2 he he2)
 have l2:=ag ((ho.old _ (by omega)).trans g1);have hro:=qz hr;have re:cQ d=0:=by unfold cQ;rw[eO hok,hr];rfl
 simp only[go_sem];refine W.seq (af _ _ _ (by rfl) ?_);simp only[go_sem];refine W.seq (af _ _ _ (by rfl) ?_);simp only[go_sem,l2];refine az.clo (qu d hf p hp (uy h6 p) _ _ ⟨trivial,?_⟩);by_cases hpe:eC d p=0;rotate_left
 ·have hv:jW d p=.agg [.lit (.int .i64 0),.lit (.int .i64 0)]:=if_neg hpe;rw[hv];simp only[go_sem];refine W.seq (af _ _ _ (by rfl) ?_);simp only[go_sem,hpe];exact fin _ false (eC d p) ((o1.trans ho).trans (.ext _ _)) (hP re hpe)
 have hpo:=(yB.1 hpe).2;have gp:=yQ hok;obtain⟨D,hD⟩:∃ D,D=d.grain ^ d.nodes.length:=⟨_,rfl⟩
 rw[<- hD]at gp;obtain⟨ua,ub,ug,hu,huF⟩:=vp (S:=iP d p) (D:=D) gp.1;obtain⟨va,vb,vg,hv,hvF⟩:=vp (S:=jD d r) (D:=D) gp.1;rw[hpe,BS hok hpo,<- hD,hu];simp only[go_sem];obtain⟨H3,hH3⟩:∃ H3,H3=ext H2 [.arr 0 41 [.lit (.int .i64 ua),.lit (.int .i64 ub)]]:=⟨_,rfl⟩
 have g3:H3.get H2.next=some (.arr 0 41 [.lit (.int .i64 ua),.lit (.int .i64 ub)]):=by rw[hH3];exact bR
 have o3:Over H2 H3:=by rw[hH3];exact .ext _ _
 rw[<- hH3];clear hH3;have l3:=ag g3;have hS3:=hS.keep (H':=H3) o3.next fun i _ h=>o3.old i h;obtain⟨hPo,hT,_⟩:=uK hok hro;have hb:=uy h6 (fw d r) hok hPo _ (Nat.le_refl _);have hsum:gW (b7 d (fixC (fw d r))) d.utils (bH d.nodes)=jD d r:=by rw[<- hT];exact um hok hPo
 rw[hsum]at hb;have htot:iS (ar d r) 0=jD d r:=if_pos (.inr rfl);rw[htot]at hS3;have hK:=hK r hr hok hro hpo;rw[<- Qo hu huF hv hvF]at hK;refine W.seq (af _ _ _ (by rfl) ?_);simp only[go_sem];refine W.seq ?_;refine W.draw 3 [0,0,2] Tryz.mixed (by kernel_rfl) (by kernel_rfl) ?_;simp only[go_sem,l3];refine⟨_,[s],cI.mk (fun i hi=>by obtain rfl:=List.mem_singleton.1 hi;exact hS3.slo.2) fun H4 h4 h4n=>Dp hok hb (by rw[<- hD];omega) H4 ((h4 s (by simp)).trans hS3.top) (by have:=hS3.slo;omega) _ ⟨rfl,rfl⟩,?_⟩;rw[<- hD,hv];simp only[go_sem,AI];refine af _ _ _ (by rfl) ?_;simp only[go_sem];exact fin _ _ 0 ((o1.trans ho).trans o3) hK
end Go.Proofs
namespace Go.Proofs
open Go.Hx
theorem Rv (d : InfP) (hok : InfOk d) (hf : InfFit d) (p : List (List Int)) (hp : PolOk d p) (hpf : oX p) (v0 : Nat) (h0 : v0<d.nodes.length) (hb : d.decs.testBit v0=false)
    (H:AHeap) (K:ARes->AHeap->Prop) (hK:K (.ret (.tup [.lit (.slice none 0 0),aa 2])) H):ae Tryz.prog G0 23 [dI d,aD p,aa v0] H K:=by
  refine ae.clo ⟨_,Tryz.func23,rfl,rfl⟩ fun hcl=>?_;have n8:=hok.n.n1;have hD:=hf.decs;refine ae.aT (n:=74) (rs:=[.tmp 6,.tmp 7]) Tryz.func23 rfl rfl rfl (by decide) (by kernel_rfl) (by simp) ?_;simp only[go_sem,iu,cz,bI];refine az.clo (yA d hf p hpf _ _ ⟨trivial,?_⟩);rw[oN hok hp];have c1:¬ (v0:Int)<0:=by omega
  have c2:¬ (v0:Int) >= d.nodes.length:=by omega
  have s1:=fun t x y=>lU (P:=Tryz.prog) (t:=t) (x:=x) (y:=y) (k':=.i64) (s:=v0) hD;have s2:=fun t x y=>mQ (P:=Tryz.prog) (t:=t) (x:=x) (y:=y) (s:=v0) hD;simp only[go_sem,c1,c2,s1,s2,hb,bI];refine au.drop aK hcl (.tup rfl fun i hi _=>?_) hK
  match i,hi with
  | 0,_=>exact .lit _
  | 1,_=>exact .lit _
theorem qS {H:AHeap}{n nx:Nat}(hn:n<=H.next){a:List Int}{e1 e0:TypeId}:Fz (fun id=>n<=id) (ext H [.arr 0 e0 (ints a),.arr 0 e1 [.own H.next 0 0 a.length 1]]) nx (.own (H.next+1) 0 0 1 1) (aD [a]) :=
  FzL.own (by omega) (aZ H _ 1 (by simp)) rfl (.cons (FzL.own hn (cu ..) (by rw[aX,Nat.mul_one]) (zf a)) .nil)
theorem vK {H:AHeap}{n nx:Nat}(hn:n<=H.next){a b:List Int}{e1 e0:TypeId}:Fz (fun id=>n<=id) (ext H [.arr 0 e0 (ints a),.arr 0 e0 (ints b),.arr 0 e1 [.own H.next 0 0 a.length 1,.own (H.next+1) 0 0 b.length 1]]) nx (.own (H.next+2) 0 0 2 1) (aD [a,b]) :=
  FzL.own (by omega) (aZ H _ 2 (by simp)) rfl (.cons (FzL.own hn (cu ..) (by rw[aX,Nat.mul_one]) (zf a)) (.cons (FzL.own (by omega) (aZ H _ 1 (by simp)) (by rw[aX,Nat.mul_one]) (zf b)) .nil))
set_option maxHeartbeats 4000000 in
theorem Rw (H:AHeap)(K:ARes->AHeap->Prop)(hK:K (.ret (.lit (.bool true))) H):ae Tryz.prog G0 21 [] H K:=by
  refine ae.clo ⟨_,Tryz.func21,rfl,rfl⟩ fun hcl=>?_;have fA:=ux kQ;have fE:=ux po;have fN:=ux DR;have rA:∀ r,fQ dA=some r->[1]=r:=fun r h=>Option.some.inj (zc.symm.trans h);have rE:∀ r,fQ dE=some r->[0,2]=r:=fun r h=>Option.some.inj (zd.symm.trans h);refine ae.dZ (n:=173) (rs:=[.tmp 0]) Tryz.func21 rfl rfl rfl (by decide) (by simp) ?_;refine W.seq (af _ _ _ (by rfl) ?_);simp only[go_sem,bI];refine W.seq (af _ _ _ (by rfl) ?_);simp only[go_sem,bI];refine az.clo (Rt _ _ ⟨trivial,?_⟩);simp only[go_sem,bI];refine az.clo (Ru _ _ ⟨trivial,?_⟩);simp only[go_sem,iu,cz,bI];obtain⟨H1,hH1⟩:∃ H1,H1=ext H [.arr 0 38 [.lit (.int .i64 dA.grain),.vec dA.nodes.length (aC dA.nodes),.lit (.int .u64 (dA.decs:Int)),.vec dA.utils.length (aS dA.utils)],.arr 0 38 [.lit (.int .i64 dE.grain),.vec dE.nodes.length (aC dE.nodes),.lit (.int .u64 (dE.decs:Int)),.vec dE.utils.length (aS dE.utils)]]:=⟨_,rfl⟩
  have g1:H1.get H.next=some (.arr 0 38 [.lit (.int .i64 dA.grain),.vec dA.nodes.length (aC dA.nodes),.lit (.int .u64 (dA.decs:Int)),.vec dA.utils.length (aS dA.utils)]):=by rw[hH1];exact cu ..
  have g2:H1.get (H.next+1)=some (.arr 0 38 [.lit (.int .i64 dE.grain),.vec dE.nodes.length (aC dE.nodes),.lit (.int .u64 (dE.decs:Int)),.vec dE.utils.length (aS dE.utils)]):=by rw[hH1];exact aZ H _ 1 (by simp)
  have n1:H1.next=H.next+2:=by rw[hH1];rfl
  have o1:Over H H1:=by rw[hH1];exact .ext _ _
  rw[<- hH1];clear hH1;have l1:=ag g1;refine W.seq (af _ _ _ (by rfl) ?_);simp only[go_sem,l1,bI];refine az.clo (ve dA fA (by decide) H1 _ (fun he=>absurd (qR.symm.trans he) (by decide)) (fun _ he=>absurd qR he) fun r hr _ _=>⟨trivial,?_⟩);rw[<- rA r hr,Rl,ze,Rj];simp only[go_sem,bI];obtain⟨H2,hH2⟩:∃ H2,H2=ext H1 [.arr 0 41 [.lit (.int .i64 33),.lit (.int .i64 4)]]:=⟨_,rfl⟩
  have q1:H2.get H1.next=some (.arr 0 41 [.lit (.int .i64 33),.lit (.int .i64 4)]):=by rw[hH2];exact bR
  have n2:H2.next=H1.next+1:=by rw[hH2];rfl
  have o2:Over H1 H2:=by rw[hH2];exact .ext _ _
  rw[<- hH2];clear hH2;have l2:=ag ((o2.old _ (by omega)).trans g2);refine W.seq (af _ _ _ (by rfl) ?_);simp only[go_sem,l2,bI];refine az.clo (ve dE fE (by decide) H2 _ (fun he=>absurd (vJ.symm.trans he) (by decide)) (fun _ he=>absurd vJ he) fun r hr _ _=>⟨trivial,?_⟩);rw[<- rE r hr,Rm,DX,Rk];simp only[go_sem,bI];obtain⟨H3,hH3⟩:∃ H3,H3=ext H2 [.arr 0 41 [.lit (.int .i64 4),.lit (.int .i64 1)]]:=⟨_,rfl⟩
  have q2:H3.get H2.next=some (.arr 0 41 [.lit (.int .i64 4),.lit (.int .i64 1)]):=by rw[hH3];exact bR
  have n3:H3.next=H2.next+1:=by rw[hH3];rfl
  have o3:Over H1 H3:=by rw[hH3];exact o2.trans (.ext _ _)
  have q1:H3.get H1.next=some (.arr 0 41 [.lit (.int .i64 33),.lit (.int .i64 4)]):=by rw[hH3,bO (by omega)];exact q1
  rw[<- hH3];clear hH3;have g1:=(o3.old _ (by omega)).trans g1;have g2:=(o3.old _ (by omega)).trans g2;have l1:=ag g1;have l2:=ag g2;refine W.seq (af _ _ _ (by rfl) ?_);simp only[go_sem,l1,bI]
  repeat (refine⟨by decide,?_⟩)
  refine az.iU aK (.ext H3 _) (.cons (qQ dA) (.cons (qS (a:=[1,0]) (Nat.le_refl _)) .nil)) fun H4 o4=>yM dA fA (by decide) [[1,0]] (nL kQ DT) _ _ (fun he=>absurd (qR.symm.trans he) (by decide)) (fun _ he=>absurd qR he) (fun _ he=>absurd (oN kQ DT) he) fun r hr _ _ _=>⟨trivial,?_⟩
  rw[<- rA r hr,ze,Rn];have l1:=ag ((o4.old _ (by omega)).trans g1);simp only[go_sem,bI];refine W.seq (af _ _ _ (by rfl) ?_);simp only[go_sem,l1,bI]
  repeat (refine⟨by decide,?_⟩)
  refine az.iU aK (o4.trans (.ext H4 _)) (.cons (qQ dA) (.cons (qS (a:=[1,1]) o4.next) .nil)) fun H5 o5=>yM dA fA (by decide) [[1,1]] (nL kQ DU) _ _ (fun he=>absurd (qR.symm.trans he) (by decide)) (fun _ he=>absurd qR he) (fun _ he=>absurd (oN kQ DU) he) fun r hr _ _ _=>⟨trivial,?_⟩
  rw[<- rA r hr,ze,decide_eq_false Ro];have l2:=ag ((o5.old _ (by omega)).trans g2);simp only[go_sem,bI];refine W.seq (af _ _ _ (by rfl) ?_);simp only[go_sem,l2,bI]
  repeat (refine⟨by decide,?_⟩)
  refine az.iU aK (o5.trans (.ext H5 _)) (.cons (qQ dE) (.cons (vK (a:=[1]) (b:=[1,1,1,0]) o5.next) .nil)) fun H6 o6=>yM dE fE (by decide) [[1],[1,1,1,0]] (nL po DV) _ _ (fun he=>absurd (vJ.symm.trans he) (by decide)) (fun _ he=>absurd vJ he) (fun _ he=>absurd (oN po DV) he) fun r hr _ _ _=>⟨trivial,?_⟩
  rw[<- rE r hr,DX,Rp];have l1:=ag ((o6.old _ (by omega)).trans g1);simp only[go_sem,bI];refine W.seq (af _ _ _ (by rfl) ?_);simp only[go_sem,l1,bI]
  repeat (refine⟨by decide,?_⟩)
  refine az.iU aK (o6.trans (.ext H6 _)) (.cons (qQ dA) (.cons (qS (a:=[0,0]) o6.next) (.cons (.lit _) .nil))) fun H7 o7=>yV dA kQ fA (by decide) [[0,0]] vI (nL kQ vI) 1 (by decide) _ _ ⟨trivial,?_⟩;rw[Rq];have l2:=ag ((o7.old _ (by omega)).trans g2);simp only[go_sem,bI];refine W.seq (af _ _ _ (by rfl) ?_);simp only[go_sem,l2,bI]
  repeat (refine⟨by decide,?_⟩)
  refine az.iU aK (o7.trans (.ext H7 _)) (.cons (qQ dE) (.cons (vK (a:=[1]) (b:=[0,0,1,0]) o7.next) (.cons (.lit _) .nil))) fun H8 o8=>yV dE po fE (by decide) [[1],[0,0,1,0]] DW (nL po DW) 0 (by decide) _ _ ⟨trivial,?_⟩;rw[Rr];have l1:=ag ((o8.old _ (by omega)).trans g1);simp only[go_sem,bI];refine W.seq (af _ _ _ (by rfl) ?_);simp only[go_sem,l1,bI]
  repeat (refine⟨by decide,?_⟩)
  refine az.iU aK (o8.trans (.ext H8 _)) (.cons (qQ dA) (.cons (qS (a:=[0,0]) o8.next) (.cons (.lit _) .nil))) fun H9 o9=>Rv dA kQ fA [[0,0]] vI (nL kQ vI) 0 (by decide) (by decide) _ _ ⟨trivial,?_⟩;simp only[go_sem,bI];refine W.seq (af _ _ _ (by rfl) ?_);simp only[go_sem,bI]
  repeat (refine⟨by decide,?_⟩)
  refine az.iU aK (o9.trans (.ext H9 _)) (.cons (FzL.agg ?_) .nil) fun HA oA=>ve dN fN (by decide) HA _ (fun _=>⟨trivial,?_⟩) (fun he=>absurd Ri he) fun r hr _ _=>absurd (DS.symm.trans hr) (by simp)
  · repeat (first|exact FzL.nil|refine FzL.cons ?_ ?_|exact Fz.lit _|exact Fz.nil|refine FzL.own o9.next (cu ..) rfl ?_)
  have lq1:=ag ((oA.old _ (by omega)).trans q1);have lq2:=ag ((oA.old _ (by omega)).trans q2);have ev:∀ (a b:Int) o1 o2,bq Tryz.prog .eql 41 o1 o2 (.agg [.lit (.int .i64 a),.lit (.int .i64 b)]) (.agg [.lit (.int .i64 a),.lit (.int .i64 b)])=some (.lit (.bool true)):=fun a b o1 o2=>by rw[AI];simp
  have e1:=ev 33 4;have e2:=ev 4 1;simp only[go_sem,bI];obtain⟨HB,hHB⟩:∃ HB,HB=ext HA [.arr 0 41 [.lit (.int .i64 0),.lit (.int .i64 0)]]:=⟨_,rfl⟩
  have oB:Over H3 HB:=by rw[hHB];exact oA.trans (.ext _ _)
  rw[<- hHB];clear hHB;have lq1:=ag ((oB.old _ (by omega)).trans q1);refine W.seq (af _ _ _ (by rfl) ?_);simp only[go_sem,lq1,e1,bI]
  repeat (refine⟨by decide,?_⟩)
  refine az.iU aK (oB.trans (.ext HB _)) (.cons (nM _) (.cons (qS (a:=[1,0]) oB.next) .nil)) fun HC oC=>vo [[1,0]] [[1,0]] (by decide) (by decide) _ _ ⟨trivial,?_⟩;rw[decide_eq_true (rfl:([[1,0]]:List (List Int))=[[1,0]])];have lq2:=ag ((oC.old _ (by omega)).trans q2);simp only[go_sem,lq2,e2,bI]
  repeat (refine⟨by decide,?_⟩)
  refine az.iU aK (oC.trans (.ext HC _)) (.cons (nM _) (.cons (vK (a:=[1]) (b:=[0,0,1,0]) oC.next) .nil)) fun HD oD=>vo [[1],[0,0,1,0]] [[1],[0,0,1,0]] (by decide) (by decide) _ _ ⟨trivial,?_⟩;rw[decide_eq_true (rfl:([[1],[0,0,1,0]]:List (List Int))=[[1],[0,0,1,0]])];simp only[go_sem,bI];refine W.seq (af _ _ _ (by rfl) ?_);simp only[go_sem,bI]
  repeat (refine⟨by decide,?_⟩)
  refine az.iU aK (oD.trans (.ext HD _)) (.cons (nM _) (.cons (vK (a:=[0,48]) (b:=[480,264]) oD.next) .nil)) fun HF oF=>vo [[0,48],[480,264]] [[0,48],[480,264]] (by decide) (by decide) _ _ ⟨trivial,?_⟩;rw[decide_eq_true (rfl:([[0,48],[480,264]]:List (List Int))=[[0,48],[480,264]])];simp only[go_sem,bI]
  repeat (refine⟨by decide,?_⟩)
  refine az.iU aK (oF.trans (.ext HF _)) (.cons (nM _) (.cons (qS (a:=[8,32]) oF.next) .nil)) fun HG oG=>vo [[8,32]] [[8,32]] (by decide) (by decide) _ _ ⟨trivial,?_⟩;rw[decide_eq_true (rfl:([[8,32]]:List (List Int))=[[8,32]])];simp only[go_sem,bI];have oK:Over H HG:=o1.trans (o3.trans oG)
  first
  | exact au.bE aK hcl oK (.lit _) hK
  | (refine af _ _ _ (by rfl) ?_
     simp only[go_sem,bI];exact au.bE aK hcl oK (.lit _) hK)
end Go.Proofs
namespace Go.Proofs
open Go.Hx
end Go.Proofs
namespace Go.Proofs
open Go.Hx
theorem Rx {f:FuncId}{H:AHeap}{K:ARes->AHeap->Prop}(d:InfP)(h:ae Tryz.prog G0 f [dI d] H K):ae Tryz.prog G0 f [kJ d] H K :=
 ae.xW (args':=[dI d]) aK rfl (fun i hi _=>match i,hi with|0,_=>xX d) h
theorem Ry {f:FuncId}{H:AHeap}{K:ARes->AHeap->Prop}(d:InfP)(p:List (List Int))(h:ae Tryz.prog G0 f [dI d,aD p] H K):ae Tryz.prog G0 f [kJ d,aD p] H K :=
 ae.xW (args':=[dI d,aD p]) aK rfl (fun i hi _=>match i,hi with|0,_=>xX d|1,_=>nM p) h
theorem Rz {x:InfP}(h:DrI true x):∃ r,fQ x=some r/\cQ x=0:=by
 have hs:=KR h;obtain⟨r,hr⟩:=Option.isSome_iff_exists.1 hs;exact⟨r,hr,by unfold cQ;rw[eO h.ok,hr];rfl⟩
end Go.Proofs
namespace Go.Proofs
open Go.Hx
set_option maxHeartbeats 2000000 in
theorem QR (d:InfP)(hf:InfFit d)(hok:InfOk d)(p:List (List Int))(hp:PolOk d p)(H:AHeap)(K:ARes->AHeap->Prop)(hK:K (.ret (.lit (.bool true))) H):ae Tryz.prog G0 18 [kJ d,aD p] H K:=by
 refine ae.clo ⟨_,Tryz.func18,rfl,rfl⟩ fun hcl=>?_;refine ae.aT (n:=64) (rs:=[.tmp 4]) Tryz.func18 rfl rfl rfl (by decide) (by kernel_rfl) (by simp) ?_;simp only[go_sem,yd,rW];refine az.clo (BO d hf hok _ _ ⟨trivial,?_⟩);obtain⟨L,hL⟩:∃ L,L=dG d:=⟨_,rfl⟩
 have hLl:L.length=(aE d).length:=by rw[hL];exact KJ d
 have hpl:p.length=L.length:=by rw[hp.len,hLl]
 have dl8:(aE d).length<=d.nodes.length:=jw;have hn8:=hok.n.n1.2;rw[<- hL];have hplI:(p.length:Int)=L.length:=by omega
 simp only[go_sem,aD,hplI];obtain⟨R,hR⟩:∃ R,R=ext H [.arr 0 38 [.lit (.int .i64 d.grain),.vec d.nodes.length (ba d.nodes),.lit (.int .u64 (d.decs:Int)),.vec d.utils.length (aS d.utils)]]:=⟨_,rfl⟩
 have oR:Over H R:=by rw[hR];exact .ext _ _
 rw[<- hR];refine W.env fun E hE=>?_;have e1:E 1=aD p:=by rw[hE];simp only[go_sem,aD]
 have e5:E 5=.vec L.length (gG L):=by rw[hE];simp only[go_sem]
 have e6:E 6=aa 0:=by rw[hE];simp only[go_sem]
 clear hE;refine W.aO 18446744073709519056 (by rfl) (fun ρ Hx=>Hx=R/\∃ k:Nat,ρ 6=aa k/\k<=L.length) (fun ρ H=>L.length - (iv (ρ 6)).toNat) ?_ ?_
 ·simp only[go_sem,e6];exact⟨0,rfl,by omega⟩
 rintro ρ Hx ⟨rfl,k,h6,hk⟩;refine W.env fun E2 hE2=>?_;have f1:E2 1=aD p:=by rw[hE2];simp only[go_sem,e1]
 have f5:E2 5=.vec L.length (gG L):=by rw[hE2];simp only[go_sem,e5]
 have f6:E2 6=aa k:=by rw[hE2];simp only[go_sem,h6]
 clear hE2;refine af _ _ _ (by rfl) ?_;by_cases hb:(k:Int)<L.length;rotate_left
 ·simp only[go_sem,f5,f6,hb];exact au.bE aK hcl oR (.lit _) hK
 obtain⟨v,hv⟩:=aq (l:=aE d) (i:=k) (by omega);obtain⟨v1,v2,v3⟩:=kF hv;obtain⟨x,hx⟩:=aq (l:=d.nodes) (i:=v) v1;obtain⟨l,hl⟩:=aq (l:=p) (i:=k) (by omega);obtain⟨ll,lr⟩:=hp.row k v x l hv hx hl;have hrk:L[k]?=some ((bG d.nodes x:Int),x.card):=by
  rw[hL,KI hv];unfold im;rw[hx]
 have p0:=xV hrk;have p1:=BM hrk;have pne:=BN hrk;have hlg:(p.map ah)[k]?=some (ah l):=by rw[List.getElem?_map,hl];rfl
 have hln:=aL hl;have hbp:(k:Int)<p.length:=by omega
 have hll:(l.length:Int)=bG d.nodes x:=by omega
 have w1:=IntWalk.i64_in ((k:Int)+1) (by omega);have hl38:=(nL hok hp).2 l (List.mem_of_getElem? hl);simp only[go_sem,f5,f6,hb];refine W.draw 10 [0,0,3,7,15,0,0,96,224,480] Tryz.mixed (by kernel_rfl) (by kernel_rfl) ?_;simp only[go_sem,f1,f5,f6,hb,hbp,aD,hlg,hln,p0,pne,hll];refine W.env fun E3 hE3=>?_;have r1:E3 1=aD p:=by rw[hE3];simp only[go_sem,f1]
 have r5:E3 5=.vec L.length (gG L):=by rw[hE3];simp only[go_sem,f5]
 have r6:E3 6=aa k:=by rw[hE3];simp only[go_sem,f6]
 have r7:E3 7=aa 0:=by rw[hE3];simp only[go_sem]
 clear hE3;refine W.aO 18446744069414584464 (by rfl) (fun ρ2 Hz=>Hz=Hx/\∃ j:Nat,ρ2 7=aa j/\j<=l.length) (fun ρ2 H=>l.length - (iv (ρ2 7)).toNat) ?_ ?_
 ·simp only[go_sem,r7];exact⟨0,rfl,by omega⟩
 rintro ρ2 Hz ⟨rfl,j,h7,hj⟩;refine W.env fun E4 hE4=>?_;have s1:E4 1=aD p:=by rw[hE4];simp only[go_sem,r1]
 have s5:E4 5=.vec L.length (gG L):=by rw[hE4];simp only[go_sem,r5]
 have s6:E4 6=aa k:=by rw[hE4];simp only[go_sem,r6]
 have s7:E4 7=aa j:=by rw[hE4];simp only[go_sem,h7]
 clear hE4;refine af _ _ _ (by rfl) ?_;by_cases hc:(j:Int)<l.length
 ·obtain⟨a,ha⟩:=aq (l:=l) (i:=j) (by omega);have har:=lr a (List.mem_of_getElem? ha);have han:=aL ha;have c1:¬ a<0:=by omega
  have c2:¬ a >= x.card:=by omega
  have w2:=IntWalk.i64_in ((j:Int)+1) (by omega);simp only[go_sem,s1,s6,s7,aD,hlg,hln,hbp,hc];refine W.draw 21 [0,0,3,7,0,31,63,127,255,511,511,2047,4095,511,16383,32767,511,511,197119,459263,983551] Tryz.mixed (by kernel_rfl) (by kernel_rfl) ?_;simp only[go_sem,s1,s5,s6,s7,aD,hlg,hln,hbp,hb,hc,ha,han,p1,pne,c1,c2,w2];exact⟨⟨j+1,by simp,by omega⟩,by first|omega|(rw[h7];simp only[aa,aW];omega)⟩
 ·simp only[go_sem,s1,s6,s7,aD,hlg,hln,hbp,hc,w1];exact⟨⟨k+1,by simp,by omega⟩,by first|omega|(rw[h6];simp only[aa,aW];omega)⟩
end Go.Proofs
namespace Go.Proofs
open Go.Hx
theorem RA {f:FuncId}{H:AHeap}{K:ARes->AHeap->Prop}(d:InfP)(p:List (List Int))(a:Int)(h:ae Tryz.prog G0 f [dI d,aD p,aa a] H K):ae Tryz.prog G0 f [kJ d,aD p,aa a] H K :=
 ae.xW (args':=[dI d,aD p,aa a]) aK rfl (fun i hi _=>match i,hi with|0,_=>xX d|1,_=>nM p|2,_=>.lit _) h
theorem RB (a c:Int):IntKind.i64.wrap (a+18446744073709551616*c)=IntKind.i64.wrap a:=by
 simp [IntKind.wrap,IntKind.bits,IntKind.signed,Int.add_mul_emod_self_left]
theorem wrap_add (a b:Int):IntKind.i64.wrap (IntKind.i64.wrap a+b)=IntKind.i64.wrap (a+b):=by
 obtain⟨c,hc⟩:∃ c,IntKind.i64.wrap a=a+18446744073709551616*c:=by
  simp only[IntKind.wrap,IntKind.bits,IntKind.signed,Bool.true_and,decide_eq_true_eq,Nat.reduceSub,Int.reducePow];split
  ·exact⟨-(a / 18446744073709551616) - 1,by omega⟩
  ·exact⟨-(a / 18446744073709551616),by omega⟩
 rw[hc,show a+18446744073709551616*c+b=a+b+18446744073709551616*c by omega,RB]
theorem RC {g:Int}(hg:1<=g/\g<=60){k:Nat}(hk:k<=8):0<=g ^ k/\g ^ k<=167961600000000:=by
 have key:∀ k:Nat,0<=g ^ k/\g ^ k<=60 ^ k:=fun k=>by
  induction k with
  | zero=>simp
  | succ k ih =>
   rw[Int.pow_succ,Int.pow_succ];exact⟨Int.mul_nonneg ih.1 (by omega),Int.mul_le_mul ih.2 hg.2 (by omega) (by have:=Int.pow_pos (n:=60) (m:=k) (by decide);omega)⟩
 have h1:=key k;have h2:=qJ k hk;exact⟨h1.1,Int.le_trans h1.2 h2⟩
theorem RD {d:InfP}(hok:InfOk d){r:List Nat}(hr:OrdR d r){v:Nat}(hv:v∈aE d):mu d (fw d r) v:=by
 obtain⟨hP,hT,hall⟩:=uK hok hr;refine Classical.byContradiction fun h=>?_;have h1:=Bx hok hP hv h;have h2:=(hall _ (Bu hok hP hv)).1;omega
def mR (d:InfP)(p:List (List Int))(v j:Nat):Int:=SS j fun r=>fU d (fixC p) v r (fixC p (bn d.decs v) r)
set_option maxHeartbeats 8000000 in
theorem RE (d:D20)(hd:d.Ok)(bs:List Int)(hbl:(bs.length:Int)<2 ^ 63)(hb8:∀ x∈bs,U8 x)(H:AHeap)(K:ARes->AHeap->Prop)(hK:∀ H',H.next<=H'.next->K (.ret (.lit (.bool true))) H'):
  ae Tryz.prog G0 5 [.agg d.cells,.vec bs.length (bM bs)] H K:=by
 have hd':D20.Ok ⟨d.g,d.ps,d.ord,d.decs,true,d.us⟩:=⟨hd.g,hd.ps,hd.pl,hd.ol,hd.o8,hd.decs,hd.us,hd.ul⟩
 refine ae.dZ (n:=147) (rs:=[.tmp 4]) Tryz.func5 rfl rfl rfl (by decide) (by simp) ?_;refine W.seq (af _ _ _ (by rfl) ?_);simp only[go_sem,D20.cells];refine W.seq (af _ _ _ (by rfl) ?_);simp only[go_sem];refine az.clo (Rw _ _ ⟨trivial,?_⟩);simp only[go_sem];refine W.seq (af _ _ _ (by rfl) ?_);simp only[go_sem];obtain⟨H1,hH1⟩:∃ H1,H1=ext H [.arr 0 28 [.lit (.int .u8 d.g),.vec d.ps.length (eY d.ps),.vec d.ord.length (bM d.ord),.lit (.int .u8 d.decs),.lit (.bool true),.vec d.us.length (kH d.us)]]:=⟨_,rfl⟩
 have g2:H1.get H.next=some (.arr 0 28 [.lit (.int .u8 d.g),.vec d.ps.length (eY d.ps),.vec d.ord.length (bM d.ord),.lit (.int .u8 d.decs),.lit (.bool true),.vec d.us.length (kH d.us)]):=by rw[hH1];exact cu ..
 have n1:H1.next=H.next+1:=by rw[hH1];rfl
 rw[<- hH1];clear hH1;have l2:=ag g2;refine W.seq (af _ _ _ (by rfl) ?_);simp only[go_sem,l2];refine az.clo (Nb ⟨d.g,d.ps,d.ord,d.decs,true,d.us⟩ hd' _ _ fun x hx=>⟨trivial,?_⟩);have hok:=hx.ok;have hf:=ux hok;have n8:=hok.n.n1;have h6:x.nodes.length<=6:=by have:=hx.n5;omega
 have hg:=hok.net.g1;obtain⟨r0,hr0,hre⟩:=Rz hx;simp only[go_sem,yd,rW];obtain⟨H2,hH2⟩:∃ H2,H2=ext H1 [.arr 0 38 [.lit (.int .i64 x.grain),.vec x.nodes.length (ba x.nodes),.lit (.int .u64 (x.decs:Int)),.vec x.utils.length (aS x.utils)]]:=⟨_,rfl⟩
 have g5:H2.get H1.next=some (.arr 0 38 [.lit (.int .i64 x.grain),.vec x.nodes.length (ba x.nodes),.lit (.int .u64 (x.decs:Int)),.vec x.utils.length (aS x.utils)]):=by rw[hH2];exact bR
 have n2:H2.next=H1.next+1:=by rw[hH2];rfl
 rw[<- hH2];clear hH2;have l5:=ag g5;refine W.seq (af _ _ _ (by rfl) ?_);simp only[go_sem,l5];have gp:=yQ hok;obtain⟨D,hD⟩:∃ D,D=x.grain ^ x.nodes.length:=⟨_,rfl⟩
 refine az.clo (Rx x (ve x hf h6 _ _ (fun he=>absurd (hre.symm.trans he) (by decide)) (fun _ he=>absurd hre he) fun r hr _ hro=>⟨trivial,?_⟩));obtain rfl:r0=r:=Option.some.inj (hr0.symm.trans hr);rw[<- hD]at gp ⊢;obtain⟨va,vb,vg,hv,hvF⟩:=vp (S:=jD x r0) (D:=D) gp.1;have hPo:=(uK hok hro).1;have hPb:=fun v hv=>RD hok hro (v:=v) hv;obtain⟨P0,hP0⟩:∃ P0,P0=fw x r0:=⟨_,rfl⟩
 rw[hv,<- hP0];rw[<- hP0]at hPo hPb;simp only[go_sem];obtain⟨H3,hH3⟩:∃ H3,H3=ext H2 [.arr 0 41 [.lit (.int .i64 va),.lit (.int .i64 vb)]]:=⟨_,rfl⟩
 have g5:=(show H3.get H1.next=H2.get H1.next by rw[hH3,bO (by omega)]).trans g5;have n3:H3.next=H2.next+1:=by rw[hH3];rfl
 rw[<- hH3];clear hH3;have l5:=ag g5;refine W.env fun E1 hE1=>?_;have a1:E1 1=.vec bs.length (bM bs):=by rw[hE1];simp only[go_sem]
 have a5:E1 5=.ptr H1.next 0 0:=by rw[hE1];simp only[go_sem]
 have a6:E1 6=aD P0:=by rw[hE1];simp only[go_sem]
 have a8:E1 8=aa 0:=by rw[hE1];simp only[go_sem]
 clear hE1;refine W.seq (af _ _ _ (by rfl) ?_);simp only[go_sem,a5,a6,a8,l5];refine az.clo (QR x hf hok P0 hPo _ _ ⟨trivial,?_⟩);simp only[go_sem];refine W.seq (af _ _ _ (by rfl) ?_);simp only[go_sem];refine W.seq (af _ _ _ (by rfl) ?_);simp only[go_sem,a5,l5];refine W.env fun E2 hE2=>?_;have b1:E2 1=.vec bs.length (bM bs):=by rw[hE2];simp only[go_sem,a1]
 have b5:E2 5=.ptr H1.next 0 0:=by rw[hE2];simp only[go_sem,a5]
 have b6:E2 6=aD P0:=by rw[hE2];simp only[go_sem,a6]
 have b9:E2 9=aa 1:=by rw[hE2];simp only[go_sem]
 have b42:E2 42=aa x.nodes.length:=by rw[hE2];simp only[go_sem]
 have b43:E2 43=aa 0:=by rw[hE2];simp only[go_sem]
 clear hE2;refine W.aO 1117103813820928 (by rfl) (fun ρ Hx=>Hx=H3/\∃ k:Nat,ρ 43=aa k/\k<=x.nodes.length/\ρ 9=aa (x.grain ^ k)) (fun ρ H=>x.nodes.length - (iv (ρ 43)).toNat) ?_ ?_
 ·exact⟨rfl,0,b43,by omega,b9.trans (by rw[Int.pow_zero])⟩
 rintro ρ Hx ⟨hHx,k,h43,hk,h9⟩;rw[hHx];refine W.env fun E3 hE3=>?_;have f1:E3 1=.vec bs.length (bM bs):=by rw[hE3];simp only[go_sem,b1]
 have f5:E3 5=.ptr H1.next 0 0:=by rw[hE3];simp only[go_sem,b5]
 have f6:E3 6=aD P0:=by rw[hE3];simp only[go_sem,b6]
 have f9:E3 9=aa (x.grain ^ k):=by rw[hE3];simp only[go_sem,h9]
 have f42:E3 42=aa x.nodes.length:=by rw[hE3];simp only[go_sem,b42]
 have f43:E3 43=aa k:=by rw[hE3];simp only[go_sem,h43]
 clear hE3;by_cases hb:(k:Int)<x.nodes.length
 ·have h1:=RC hg (k:=k+1) (by omega);rw[Int.pow_succ]at h1;have w1:=IntWalk.i64_in (x.grain ^ k*x.grain) (by omega);have w2:=IntWalk.i64_in ((k:Int)+1) (by omega);refine af _ _ _ (by rfl) ?_;simp only[go_sem,f5,f9,f42,f43,hb,l5,w1,w2];exact⟨⟨k+1,rfl,by omega,by rw[Int.pow_succ]⟩,by rw[h43];simp only[aa,aW];omega⟩
 have hkn:k=x.nodes.length:=by omega
 rw[hkn,<- hD]at f9;refine af _ _ _ (by rfl) ?_;simp only[go_sem,f42,f43,hb];refine W.seq (af _ _ _ (by rfl) ?_);simp only[go_sem,f1,f5,f6,l5];refine az.clo (Nr x hf hok bs hbl hb8 _ _ fun Q hQ=>⟨trivial,?_⟩);simp only[go_sem];refine W.env fun E4 hE4=>?_;have k5:E4 5=.ptr H1.next 0 0:=by rw[hE4];simp only[go_sem,f5]
 have k9:E4 9=aa D:=by rw[hE4];simp only[go_sem,f9]
 have k54:E4 54=.agg [aD P0,aD Q]:=by rw[hE4];simp only[go_sem]
 have k55:E4 55=aa 0:=by rw[hE4];simp only[go_sem]
 clear hE4;refine W.aO 178405961588244985132285746145158095030975504 (by kernel_rfl) (fun ρ Hx=>∃ i:Nat,ρ 55=aa i/\i<=2/\Over H3 Hx) (fun ρ Hx=>2 - (iv (ρ 55)).toNat) ?_ ?_
 ·exact⟨0,k55,by omega,.refl _⟩
 rintro ρ2 Hy ⟨i,h55,hi,oy⟩;refine W.env fun E5 hE5=>?_;have m5:E5 5=.ptr H1.next 0 0:=by rw[hE5];simp only[go_sem,k5]
 have m9:E5 9=aa D:=by rw[hE5];simp only[go_sem,k9]
 have m54:E5 54=.agg [aD P0,aD Q]:=by rw[hE5];simp only[go_sem,k54]
 have m55:E5 55=aa i:=by rw[hE5];simp only[go_sem,h55]
 clear hE5;by_cases hb2:(i:Int)<2;rotate_left
 ·refine af _ _ _ (by rfl) ?_;simp only[go_sem,m55,hb2];refine af _ _ _ (by rfl) ?_;simp only[go_sem];have:=oy.next;exact au.mk (by omega) (hK _ (by omega))
 obtain⟨P,hPe⟩:∃ P,P=if i=0 then P0 else Q:=⟨_,rfl⟩
 have hPok:PolOk x P:=by rw[hPe];split;exact hPo;exact hQ
 have hPb2:i=0->∀ v,v∈aE x->mu x P v:=fun h=>by rw[hPe,if_pos h];exact hPb
 refine W.seq (af _ _ _ (by rfl) ?_);simp only[go_sem,m55,hb2];refine W.seq (af _ _ _ (by rfl) ?_);simp only[go_sem];refine W.seq (W.block ?_);refine W.jR (fun s'=>s'.H=Hy/\s'.ρ 5=.ptr H1.next 0 0/\s'.ρ 9=aa D/\s'.ρ 10=aa i/\s'.ρ 11=aD P/\s'.ρ 55=aa i) ?_ ?_
 ·refine af _ _ _ (by rfl) ?_;rcases(show i=0\/i=1 by omega) with e|e
  ·rw[if_pos e]at hPe;subst e;simp only[go_sem,m5,m9,m54,m55];rw[hPe]
  ·rw[if_neg (by omega)]at hPe;subst e;simp only[go_sem,m5,m9,m54,m55];rw[hPe]
 rintro⟨ρ3,Hz⟩ ⟨hHz,t5,t9,t10,t11,t55⟩;simp only at hHz t5 t9 t10 t11 t55;rw[hHz];clear hHz Hz;have hPf:=nL hok hPok;have hPe0:=oN hok hPok;have l5:=ag ((oy.old _ (by omega)).trans g5);refine W.seq (af _ _ _ (by rfl) ?_);simp only[go_sem,t5,t11,l5];refine az.clo (Ry x _ (qu x hf _ hPf (uy h6 _) _ _ ⟨trivial,?_⟩));obtain⟨ua,ub,ug,hu,huF⟩:=vp (S:=iP x P) (D:=D) gp.1;rw[hPe0,BS hok hPok,<- hD,hu];simp only[go_sem];obtain⟨H6,hH6⟩:∃ H6,H6=ext Hy [.arr 0 41 [.lit (.int .i64 ua),.lit (.int .i64 ub)]]:=⟨_,rfl⟩
 have g12:H6.get Hy.next=some (.arr 0 41 [.lit (.int .i64 ua),.lit (.int .i64 ub)]):=by rw[hH6];exact bR
 have o6:Over Hy H6:=by rw[hH6];exact .ext _ _
 have n6:H6.next=Hy.next+1:=by rw[hH6];rfl
 rw[<- hH6];clear hH6;have l12:=ag g12;have l5:=ag (((oy.trans o6).old _ (by omega)).trans g5);refine W.seq (af _ _ _ (by rfl) ?_);simp only[go_sem];refine W.seq (af _ _ _ (by rfl) ?_);simp only[go_sem,t5,l5];refine az.clo (NI x hf.decs (by omega) _ _ ⟨trivial,?_⟩);have dl:(aU (aE x)).length=(aE x).length:=by simp [aU]
 simp only[go_sem,dl];refine W.env fun E6 hE6=>?_;have u5:E6 5=.ptr H1.next 0 0:=by rw[hE6];simp only[go_sem,t5]
 have u9:E6 9=aa D:=by rw[hE6];simp only[go_sem,t9]
 have u10:E6 10=aa i:=by rw[hE6];simp only[go_sem,t10]
 have u11:E6 11=aD P:=by rw[hE6];simp only[go_sem,t11]
 have u12:E6 12=.ptr Hy.next 0 0:=by rw[hE6];simp only[go_sem]
 have u55:E6 55=aa i:=by rw[hE6];simp only[go_sem,t55]
 have u68:E6 68=.vec (aE x).length (ints (aU (aE x))):=by rw[hE6];simp only[go_sem]
 have u69:E6 69=aa (aE x).length:=by rw[hE6];simp only[go_sem]
 have u70:E6 70=aa 0:=by rw[hE6];simp only[go_sem]
 clear hE6;refine W.block ?_;refine W.aO 89202980794122492566141692498972728614699024 (by kernel_rfl) (fun ρ Hw=>∃ k:Nat,ρ 70=aa k/\k<=(aE x).length/\Hw=H6) (fun ρ Hw=>(aE x).length - (iv (ρ 70)).toNat) ?_ ?_
 ·exact⟨0,u70,by omega,rfl⟩
 rintro ρ4 Hw ⟨k2,h70,hk2,hHw⟩;rw[hHw];refine W.env fun E7 hE7=>?_;have v5:E7 5=.ptr H1.next 0 0:=by rw[hE7];simp only[go_sem,u5]
 have v9:E7 9=aa D:=by rw[hE7];simp only[go_sem,u9]
 have v10:E7 10=aa i:=by rw[hE7];simp only[go_sem,u10]
 have v11:E7 11=aD P:=by rw[hE7];simp only[go_sem,u11]
 have v12:E7 12=.ptr Hy.next 0 0:=by rw[hE7];simp only[go_sem,u12]
 have v55:E7 55=aa i:=by rw[hE7];simp only[go_sem,u55]
 have v68:E7 68=.vec (aE x).length (ints (aU (aE x))):=by rw[hE7];simp only[go_sem,u68]
 have v69:E7 69=aa (aE x).length:=by rw[hE7];simp only[go_sem,u69]
 have v70:E7 70=aa k2:=by rw[hE7];simp only[go_sem,h70]
 clear hE7;by_cases hb3:(k2:Int)<(aE x).length;rotate_left
 ·refine af _ _ _ (by rfl) ?_;simp only[go_sem,v69,v70,hb3];have wi:=IntWalk.i64_in ((i:Int)+1) (by omega);refine af _ _ _ (by rfl) ?_;simp only[go_sem,v55,wi];exact⟨by have:=(oy.trans o6).next;omega,⟨i+1,rfl,by omega,oy.trans o6⟩,by rw[h55];simp only[aa,aW];omega⟩
 obtain⟨v0,hv0⟩:=aq (l:=aE x) (i:=k2) (by omega);have hvm:v0∈aE x:=List.mem_of_getElem? hv0;obtain⟨v1,v2,hpl⟩:=kF hv0;obtain⟨y,hy⟩:=aq v1;have hyc:=hok.n.card y (List.mem_of_getElem? hy);obtain⟨nr,nc⟩:=iK hy (by omega);have hdl:(aE x).length<=x.nodes.length:=jw;have hrc:=rV hok v1 v2;have hnr:1<=bD x v0/\bD x v0<=1024:=by unfold bD;omega
 obtain⟨l,hl⟩:=aq (l:=P) (i:=k2) (by rw[hPok.len];omega);obtain⟨ll,lr⟩:=hPok.row k2 v0 y l hv0 hy hl;rw[<- nr]at ll;have hvi:(aU (aE x))[k2]?=some (v0:Int):=by unfold aU;rw[List.getElem?_map,hv0];rfl
 have hvne:=aL hvi;have hgl:(P.map ah)[k2]?=some (ah l):=by rw[List.getElem?_map,hl];rfl
 have hgln:=aL hgl;have hPl:(P.length:Int)=(aE x).length:=by rw[hPok.len]
 have tl:=Q3 x (fixC P) v0;refine W.seq (af _ _ _ (by rfl) ?_);simp only[go_sem,v69,v70,hb3];refine W.seq (af _ _ _ (by rfl) ?_);simp only[go_sem];refine W.seq (W.block ?_);refine W.seq (af _ _ _ (by rfl) ?_);simp only[go_sem,v68,v70,hb3,hvi,hvne];refine W.seq (af _ _ _ (by rfl) ?_);simp only[go_sem,v5,v11,l5];refine az.clo (RA x P v0 (yV x hok hf h6 P hPok hPf v0 hvm _ _ ⟨trivial,?_⟩));simp only[go_sem];refine W.seq (af _ _ _ (by rfl) ?_);simp only[go_sem,aD,v11,tl,hPl,hb3,hgl,hgln,ll];refine W.seq (af _ _ _ (by rfl) ?_);simp only[go_sem];refine W.seq (af _ _ _ (by rfl) ?_);simp only[go_sem];refine W.env fun E8 hE8=>?_;have c5:E8 5=.ptr H1.next 0 0:=by rw[hE8];simp only[go_sem,v5]
 have c9:E8 9=aa D:=by rw[hE8];simp only[go_sem,v9]
 have c10:E8 10=aa i:=by rw[hE8];simp only[go_sem,v10]
 have c11:E8 11=aD P:=by rw[hE8];simp only[go_sem,v11]
 have c12:E8 12=.ptr Hy.next 0 0:=by rw[hE8];simp only[go_sem,v12]
 have c14:E8 14=aa k2:=by rw[hE8];simp only[go_sem]
 have c15:E8 15=aa v0:=by rw[hE8];simp only[go_sem]
 have c18:E8 18=aa 0:=by rw[hE8];simp only[go_sem]
 have c70:E8 70=aa k2:=by rw[hE8];simp only[go_sem,v70]
 have c94:E8 94=.vec (bD x v0) ((iB x (fixC P) v0).map ah):=by rw[hE8];simp only[go_sem]
 have c95:E8 95=aa (bD x v0):=by rw[hE8];simp only[go_sem]
 have c96:E8 96=aa 0:=by rw[hE8];simp only[go_sem]
 clear hE8;refine W.aO 1393796574908084718183468127702929052008464 (by kernel_rfl) (fun ρ Hv=>∃ j:Nat,ρ 96=aa j/\j<=bD x v0/\Hv=H6/\ρ 18=aa (IntKind.i64.wrap (mR x P v0 j))) (fun ρ Hv=>bD x v0 - (iv (ρ 96)).toNat) ?_ ?_
 ·exact⟨0,c96,by omega,rfl,c18.trans (by unfold mR;rw[lH];rfl)⟩
 rintro ρ5 Hv ⟨j,h96,hj,hHv,h18⟩;rw[hHv];refine W.env fun E9 hE9=>?_;have d5:E9 5=.ptr H1.next 0 0:=by rw[hE9];simp only[go_sem,c5]
 have d9:E9 9=aa D:=by rw[hE9];simp only[go_sem,c9]
 have d10:E9 10=aa i:=by rw[hE9];simp only[go_sem,c10]
 have d11:E9 11=aD P:=by rw[hE9];simp only[go_sem,c11]
 have d12:E9 12=.ptr Hy.next 0 0:=by rw[hE9];simp only[go_sem,c12]
 have d14:E9 14=aa k2:=by rw[hE9];simp only[go_sem,c14]
 have d15:E9 15=aa v0:=by rw[hE9];simp only[go_sem,c15]
 have d18:E9 18=aa (IntKind.i64.wrap (mR x P v0 j)):=by rw[hE9];simp only[go_sem,h18]
 have d70:E9 70=aa k2:=by rw[hE9];simp only[go_sem,c70]
 have d94:E9 94=.vec (bD x v0) ((iB x (fixC P) v0).map ah):=by rw[hE9];simp only[go_sem,c94]
 have d95:E9 95=aa (bD x v0):=by rw[hE9];simp only[go_sem,c95]
 have d96:E9 96=aa j:=by rw[hE9];simp only[go_sem,h96]
 clear hE9;by_cases hb4:(j:Int)<bD x v0;rotate_left
 ·have hjn:j=bD x v0:=by omega
  have hs1:mR x P v0 j=iP x P:=by rw[um hok hPok,hjn];exact(Bv hok P hvm).symm
  have hsb:=QQ hok h6 (fixC P);rw[<- um hok hPok]at hsb;rw[hs1,IntWalk.i64_in _ (by omega)]at d18;refine af _ _ _ (by rfl) ?_;simp only[go_sem,d95,d96,hb4];refine W.jR (fun s'=>s'.H=H6/\s'.ρ 70=aa k2/\s'.ρ 144=.lit (.bool false)) ?_ ?_
  ·have nq:∀ o1 o2,bq Tryz.prog .neq 41 o1 o2 (.agg [.lit (.int .i64 ua),.lit (.int .i64 ub)]) (.agg [.lit (.int .i64 ua),.lit (.int .i64 ub)])=some (.lit (.bool false)):=fun o1 o2=>by rw[KH];simp
   refine W.draw 4 [0,0,0,6] Tryz.mixed (by kernel_rfl) (by kernel_rfl) ?_;simp only[go_sem,d9,d12,d18,l12];refine⟨_,[],cI.pure fun H2=>R01.N4 (iP x P) D (by omega) (by omega) H2 _ ⟨rfl,rfl⟩,?_⟩;rw[hu];simp only[go_sem,nq,d70]
  rintro⟨ρ6,Hq⟩ ⟨hHq,q70,q144⟩;simp only at hHq q70 q144;rw[hHq];have wk:=IntWalk.i64_in ((k2:Int)+1) (by omega);refine W.cond (t:=false) q144 ?_;refine af _ _ _ (by rfl) ?_;simp only[go_sem];refine af _ _ _ (by rfl) ?_;simp only[go_sem,q70,wk];exact⟨⟨k2+1,rfl,by omega⟩,by rw[h70];simp only[aa,aW];omega⟩
 have hjn:j<bD x v0:=by omega
 have gr:((iB x (fixC P) v0).map ah)[j]?=some (ah (gX x (fixC P) v0 j (bU x v0))):=by rw[List.getElem?_map,Q2 hjn];rfl
 have grn:=aL gr;obtain⟨a,ha⟩:=aq (l:=l) (i:=j) (by omega);obtain⟨a0,a1⟩:=lr a (List.mem_of_getElem? ha);obtain⟨c,rfl⟩:=Int.eq_ofNat_of_zero_le a0;have han:=aL ha;have hrl:=xP x (fixC P) v0 j (bU x v0);have hcl:(c:Int)<bU x v0:=by omega
 have ge:=xO (d:=x) (c:=fixC P) (v0:=v0) (r:=j) (n:=bU x v0) (x:=c) (by omega);have gen:=aL ge;have hfx:fixC P (bn x.decs v0) j=c:=by rw[hpl];unfold fixC;simp [List.getD_eq_getElem?_getD,hl,ha]
 have hst:mR x P v0 j+fU x (fixC P) v0 j c=mR x P v0 (j+1):=by unfold mR;rw[eM,hfx]
 have hwr:=wrap_add (mR x P v0 j) (fU x (fixC P) v0 j c);rw[hst]at hwr;have y0:=nI hy;have yne:=Bf hy;have hll:(l.length:Int)=bD x v0:=by omega
 have v0l:(v0:Int)<x.nodes.length:=by omega
 have jl:(j:Int)<l.length:=by omega
 have ncne:((bU x v0:Nat):Int)=y.card:=nc;refine W.seq (af _ _ _ (by rfl) ?_);simp only[go_sem,d95,d96,hb4];refine W.seq (af _ _ _ (by rfl) ?_);simp only[go_sem];refine W.seq (W.block ?_);refine W.seq (af _ _ _ (by rfl) ?_);simp only[go_sem,d94,d96,gr,grn,hb4];refine W.seq (af _ _ _ (by rfl) ?_);simp only[go_sem,d5,d15,l5,y0,yne,hrl,v0l,ncne];refine W.seq (af _ _ _ (by rfl) ?_);simp only[go_sem,aD,d11,d14,d18,hgl,hgln,hPl,hb3,ha,han,jl,ge,gen,hcl,hwr];have wj:=IntWalk.i64_in ((j:Int)+1) (by omega);refine W.jR (fun s'=>s'.H=H6/\s'.ρ 18=aa (IntKind.i64.wrap (mR x P v0 (j+1)))/\s'.ρ 96=aa j/\s'.ρ 138=.lit (.bool false)) ?_ ?_
 ·refine W.draw 15 [0,1,3,7,15,7,7,7,199,455,7,1991,4039,8167,16359] Tryz.mixed (by kernel_rfl) (by kernel_rfl) ?_;by_cases hi0:(i:Int)=0
  ·have hm:fU x (fixC P) v0 j c=fI (gX x (fixC P) v0 j (bU x v0)):=(by rw[<- hfx];exact hPb2 (by omega) v0 hvm j hjn);have hmx:∀ H2 K,K (.ret (aa (fI (gX x (fixC P) v0 j (bU x v0))))) H2->ae Tryz.prog G0 28 [.vec (bU x v0) (ints (gX x (fixC P) v0 j (bU x v0)))] H2 K:=fun H2 K hk=>by
    have:=DA (gX x (fixC P) v0 j (bU x v0)) (fun e=>by rw[e]at hrl;simp at hrl;omega) (by rw[hrl];omega) H2 K hk;unfold ah at this;rw[hrl]at this;exact this
   have hgt:¬ fI (gX x (fixC P) v0 j (bU x v0)) > fU x (fixC P) v0 j c:=(by omega);simp only[go_sem,aD,d10,d11,d14,d96,hi0,hgl,hgln,hPl,hb3,ha,han,jl,ge,gen,hcl];refine⟨_,[],cI.pure fun H2=>hmx H2 _ ⟨rfl,rfl⟩,?_⟩;simp only[go_sem,d96,hgt]
  ·simp only[go_sem,d10,d96,hi0]
 rintro⟨ρ7,Hq⟩ ⟨hHq,q18,q96,q138⟩;simp only at hHq q18 q96 q138;rw[hHq];refine W.cond (t:=false) q138 ?_;refine af _ _ _ (by rfl) ?_;simp only[go_sem];refine af _ _ _ (by rfl) ?_;simp only[go_sem,q18,q96,wj];exact⟨⟨j+1,rfl,by omega,rfl⟩,by rw[h96];simp only[aa,aW];omega⟩
end Go.Proofs
