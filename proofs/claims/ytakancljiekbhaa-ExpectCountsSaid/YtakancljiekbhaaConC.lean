/- Own work: contracts. -/
import Derived.Test.YtakancljiekbhaaConBc
import Derived.Test.YtakancljiekbhaaConA
set_option linter.all false
set_option maxRecDepth 100000
namespace Go.Proofs
open Go.Hx
def lp (ns:List NodeP)(xs:List (List Int)):Bool:=decide ((0:Int) ∉ xs.map (fP ns))
set_option maxHeartbeats 1000000 in
theorem LF (g:Int)(ns:List NodeP)(h:NetOk g ns)(cs:List Int)(xs:List (List Int))(hx40:xs.length<=64)(hrow:∀ r∈xs,r.length=ns.length)(H:AHeap)(K:ARes->AHeap->Prop)(hK:K (.ret (.lit (.bool (lp ns xs)))) H):
  af Try.prog G0 14 [aY g ns,cB cs xs] H K:=by
 refine af.clo ⟨_,Try.func14,rfl,rfl⟩ fun hcl=>?_;refine af.bf (n:=21) (rs:=[.tmp 4]) Try.func14 rfl rfl rfl (by decide) (by kernel_rfl) (by simp) ?_;simp only[go_sem,aY,cH,cB,aC];obtain⟨H1,hH1⟩:∃ H1,H1=ext H [.arr 0 35 [.lit (.int .i64 g),.vec ns.length (az ns)],.arr 0 42 [.vec cs.length (ints cs),.vec xs.length (xs.map ae)]]:=⟨_,rfl⟩
 have l1:H1.live H.next 0=some (35,[.lit (.int .i64 g),.vec ns.length (az ns)]):=by rw[hH1];exact ak (cS ..)
 have l2:H1.live (H.next+1) 0=some (42,[.vec cs.length (ints cs),.vec xs.length (xs.map ae)]):=by rw[hH1];exact ak (bG H _ 1 (by simp))
 have o1:Over H H1:=by rw[hH1];exact .ext _ _
 rw[<- hH1];refine W.aI 2097136 (by rfl) (fun ρ H'=>H'=H1/\∃ k:Nat,ρ 5=aa k/\k<=xs.length/\∀ j,j<k->∀ r,xs[j]?=some r->fP ns r≠0) (fun ρ H=>xs.length - (iv (ρ 5)).toNat) ?_ ?_
 ·simp only[go_sem];exact⟨0,rfl,by omega,fun j h=>absurd h (Nat.not_lt_zero _)⟩
 rintro ρ H' ⟨hHx,k,h5,hk,hall⟩;rw[hHx];refine W.env fun E hE=>?_;have e2:E 2=.ptr H.next 0 0:=by rw[hE];simp only[go_sem]
 have e3:E 3=.ptr (H.next+1) 0 0:=by rw[hE];simp only[go_sem]
 have e5:E 5=aa k:=by rw[hE];simp only[go_sem,h5]
 clear hE;have w1:=IntWalk.i64_in ((k:Int)+1) (by omega);refine ab _ _ _ (by rfl) ?_;by_cases hb:(k:Int)<xs.length;rotate_left
 ·simp only[go_sem,e3,e5,l2,hb];have:lp ns xs=true:=by
   refine decide_eq_true fun hm=>?_;obtain⟨r,hr,h0⟩:=List.mem_map.1 hm;obtain⟨j,hj⟩:=List.getElem?_of_mem hr;exact hall j (by have:=get_lt hj;omega) r hj h0
  rw[this]at hK;exact av.bI aP hcl o1 (.lit _) hK
 obtain⟨r,hr⟩:=get_of_lt (l:=xs) (i:=k) (by omega);have hr':=lu hr;have hrn:=aJ hr';have hrm:=List.mem_of_getElem? hr;simp only[go_sem,e3,e5,l2,hb];refine W.draw 6 [0,0,2,0,14,30] Try.mixed (by kernel_rfl) (by kernel_rfl) ?_;simp only[go_sem,e2,e3,e5,l1,l2,hb,hr',hrn];refine aw.clo (LC g ns h r (hrow r hrm) _ _ ⟨trivial,?_⟩);by_cases h0:fP ns r=0
 ·simp only[go_sem,h0];have:lp ns xs=false:=by
   refine decide_eq_false fun hm=>hm ?_;rw[<- h0];exact List.mem_map.2 ⟨r,hrm,rfl⟩
  rw[this]at hK;exact av.bI aP hcl o1 (.lit _) hK
 ·simp only[go_sem,e5,h0,w1];refine⟨⟨k+1,rfl,by omega,fun j hj r' hr2=>?_⟩,by rw[h5];simp only[aa,aK];omega⟩;rcases Nat.lt_or_ge j k with hh|hh
  ·exact hall j hh r' hr2
  ·obtain rfl:j=k:=(by omega);rw[hr]at hr2;cases hr2;exact h0
theorem LG {c:List Int}(h:mH c 720 0)(H:AHeap)(K:ARes->AHeap->Prop)(hK:K (.ret (ae (gh c))) H):af Try.prog G0 46 [ae c,aa 720,aa 0] H K:=Ol h H K hK
set_option maxHeartbeats 4000000 in
theorem LH (g:Int)(ns:List NodeP)(h:NetOk g ns)(h6:ns.length<=6)(cs:List Int)(xs:List (List Int))(hx40:xs.length<=64)(hrow:∀ r∈xs,r.length=ns.length)(v:Nat)(x:NodeP)(hx:ns[v]?=some x)
  (H:AHeap) (K:ARes->AHeap->Prop) (hK:K (.ret (ae (eE ns x v xs))) H):
  af Try.prog G0 15 [aY g ns,cB cs xs,aa v] H K:=by
 refine af.clo ⟨_,Try.func15,rfl,rfl⟩ fun hcl=>?_;have n8:=h.n1;have hxm:=List.mem_of_getElem? hx;have hxc:=(h.node x hxm).1;have hrc:=qv h hx;have hvn:(v:Int)<ns.length:=by have:=get_lt hx;omega
 have hne:=eS hx;have h0:=js hx;have h2:=oT hx;have wL:=IntWalk.i64_in ((x.rows.length:Int)*x.card) (by omega);obtain⟨L,hL⟩:∃ L:Nat,(x.rows.length:Int)*x.card=L:=⟨((x.rows.length:Int)*x.card).toNat,by omega⟩
 have hLn:x.rows.length*x.card.toNat=L:=by
  have:((x.rows.length*x.card.toNat:Nat):Int)=x.rows.length*x.card:=by rw[Int.natCast_mul,Int.toNat_of_nonneg (by omega)]
  omega
 rw[hL]at wL hrc;have hbL:(L:Int)*8<=2 ^ 46/\(L:Int)<=2 ^ 46:=by omega
 refine af.bf (n:=61) (rs:=[.tmp 6]) Try.func15 rfl rfl rfl (by decide) (by kernel_rfl) (by simp) ?_;simp only[go_sem,aY,cH,cB,aC];refine W.draw 13 [0,1,0,7,15,31,63,0,128,0,896,1920,3968] Try.mixed (by kernel_rfl) (by kernel_rfl) ?_;simp only[go_sem,hvn,hne,h0,h2,aC,hL,wL,hbL];obtain⟨H1,hH1⟩:∃ H1,H1=ext H [.arr 0 35 [aa g,.vec ns.length (az ns)],.arr 0 42 [.vec cs.length (ints cs),.vec xs.length (xs.map ae)],.arr 0 3 (List.replicate L (aa 0))]:=⟨_,rfl⟩
 have n1:H1.next=H.next+3:=by rw[hH1];rfl
 have o1:Over H H1:=by rw[hH1];exact .ext _ _
 have g0:H1.get H.next=some (.arr 0 35 [aa g,.vec ns.length (az ns)]):=by rw[hH1];exact cS ..
 have g1:H1.get (H.next+1)=some (.arr 0 42 [.vec cs.length (ints cs),.vec xs.length (xs.map ae)]):=by rw[hH1];exact bG H _ 1 (by simp)
 have hz:List.replicate L (aa 0)=ints (List.replicate L 0):=by simp [ints,aa]
 have g2:H1.get (H.next+2)=some (.arr 0 3 (ints (eE ns x v (xs.take 0)))):=by
  rw[hH1,bG H _ 2 (by simp)];show some (Blk.arr 0 _ (List.replicate L (aa 0)))=some (.arr 0 _ (ints (List.replicate (x.rows.length*x.card.toNat) 0)));rw[hz,hLn]
 refine W.env fun E hE=>?_;have e2:E 2=aa v:=by rw[hE];simp only[go_sem]
 have e3:E 3=.ptr H.next 0 0:=by rw[hE];simp only[go_sem]
 have e4:E 4=.ptr (H.next+1) 0 0:=by rw[hE];simp only[go_sem]
 have e7:E 7=.own (H.next+2) 0 0 L 1:=by rw[hE];simp only[go_sem]
 have e8:E 8=aa 0:=by rw[hE];simp only[go_sem]
 clear hE;show W _ _ _ _ _ _ ⟨E,ext H [.arr 0 35 [aa g,.vec ns.length (az ns)],.arr 0 42 [.vec cs.length (ints cs),.vec xs.length (xs.map ae)],.arr 0 3 (List.replicate L (aa 0))]⟩;rw[<- hH1];refine W.aI 1152921504539739904 (by rfl) (fun ρ H'=>∃ i:Nat,ρ 8=aa i/\i<=xs.length/\H1.next<=H'.next/\(∀ id,id<H1.next->id≠H.next+2->H'.get id=H1.get id)/\H'.get (H.next+2)=some (.arr 0 3 (ints (eE ns x v (xs.take i))))) (fun ρ H=>xs.length - (iv (ρ 8)).toNat) ?_ ?_
 ·exact⟨0,e8,by omega,Nat.le_refl _,fun _ _ _=>rfl,g2⟩
 rintro ρ H' ⟨i,h8,hi,hn,hk,hg2⟩;have hxt:∀ r∈xs.take i,r.length=ns.length:=fun r hr=>hrow r (List.mem_of_mem_take hr);obtain⟨el,er⟩:=xg h h6 hx (xs.take i) hxt;obtain⟨X,hX⟩:∃ X,X=eE ns x v (xs.take i):=⟨_,rfl⟩
 rw[<- hX]at el er hg2;rw[hL]at el;have hXl:X.length=L:=by omega
 have l0:=ak ((hk H.next (by omega) (by omega)).trans g0);have l1:=ak ((hk (H.next+1) (by omega) (by omega)).trans g1);refine W.env fun F hF=>?_;have f2:F 2=aa v:=by rw[hF];simp only[go_sem,e2]
 have f3:F 3=.ptr H.next 0 0:=by rw[hF];simp only[go_sem,e3]
 have f4:F 4=.ptr (H.next+1) 0 0:=by rw[hF];simp only[go_sem,e4]
 have f7:F 7=.own (H.next+2) 0 0 L 1:=by rw[hF];simp only[go_sem,e7]
 have f8:F 8=aa i:=by rw[hF];simp only[go_sem,h8]
 clear hF;have w1:=IntWalk.i64_in ((i:Int)+1) (by omega);by_cases hb:(i:Int)<xs.length;rotate_left
 ·have ei:i=xs.length:=by omega
  refine ab _ _ _ (by rfl) ?_;simp only[go_sem,f4,f7,f8,l1,hb];rw[ei,List.take_length]at hX;rw[<- hX]at hK;exact av.bI (v':=ae X) aP hcl ⟨by omega,fun id hi=>(hk id (by omega) (by omega)).trans (o1.old id hi)⟩ (Fz.ints (by omega) hg2 hXl.symm fun j hj=>by rw[Nat.zero_add,fa];simp only[List.getElem?_eq_getElem hj,Option.map_some]) hK
 obtain⟨r,hr⟩:=get_of_lt (l:=xs) (i:=i) (by omega);have hr':=lu hr;have hrn:=aJ hr';have hrl:=hrow r (List.mem_of_getElem? hr);have hro:=xd h h6 hx hrl;obtain⟨_,rl,_,rr⟩:=xe hro;obtain⟨pa,_,_⟩:=oH h hx (cZ (ar ns) r) fun w hw=>oF (gf h) (by rw[hrl,bO]) hw;have pa':((g9 ns x v r).length:Int)=x.rows.length*x.card:=pa;rw[hL]at pa';have hXs:eE ns x v (xs.take (i+1))=fg X (gh (g9 ns x v r)):=by rw[aL hr,xc,<- hX]
 obtain⟨R,hR⟩:∃ R,R=gh (g9 ns x v r):=⟨_,rfl⟩
 refine ab _ _ _ (by rfl) ?_;simp only[go_sem,f4,f8,l1,hb];refine W.draw 7 [0,0,2,0,14,30,0] Try.mixed (by kernel_rfl) (by kernel_rfl) ?_;simp only[go_sem,f2,f3,f4,f8,l0,l1,hb,hr',hrn];refine aw.clo (LD g ns h r hrl v x hx _ _ ⟨trivial,?_⟩);simp only[go_sem];refine aw.clo (LG hro _ _ ⟨trivial,?_⟩);rw[<- hR]at rl rr hXs ⊢;have hRl:R.length=L:=by omega
 simp only[go_sem];refine W.env fun E2 hE2=>?_;have m2:E2 2=aa v:=by rw[hE2];simp only[go_sem,f2]
 have m3:E2 3=.ptr H.next 0 0:=by rw[hE2];simp only[go_sem,f3]
 have m4:E2 4=.ptr (H.next+1) 0 0:=by rw[hE2];simp only[go_sem,f4]
 have m7:E2 7=.own (H.next+2) 0 0 L 1:=by rw[hE2];simp only[go_sem,f7]
 have m8:E2 8=aa i:=by rw[hE2];simp only[go_sem,f8]
 have m9:E2 9=ae R:=by rw[hE2];simp only[go_sem]
 have m10:E2 10=aa 0:=by rw[hE2];simp only[go_sem]
 clear hE2;refine W.aI 1152917106560336896 (by rfl) (fun ρ H4=>∃ j:Nat,ρ 10=aa j/\j<=L/\H'.next<=H4.next/\(∀ id,id<H1.next->id≠H.next+2->H4.get id=H1.get id)/\H4.get (H.next+2)=some (.arr 0 3 (ints (fg (X.take j) (R.take j)++X.drop j)))) (fun ρ H=>L - (iv (ρ 10)).toNat) ?_ ?_
 ·exact⟨0,m10,by omega,Nat.le_refl _,hk,by rw[hg2];rfl⟩
 rintro ρ4 H4 ⟨j,h10,hj,n4,hk4,hg4'⟩;refine W.env fun E3 hE3=>?_;have p7:E3 7=.own (H.next+2) 0 0 L 1:=by rw[hE3];simp only[go_sem,m7]
 have p8:E3 8=aa i:=by rw[hE3];simp only[go_sem,m8]
 have p9:E3 9=ae R:=by rw[hE3];simp only[go_sem,m9]
 have p10:E3 10=aa j:=by rw[hE3];simp only[go_sem,h10]
 clear hE3;by_cases hb3:(j:Int)<R.length;rotate_left
 ·have ej:j=L:=by omega
  refine ab _ _ _ (by rfl) ?_;simp only[go_sem,p8,p9,p10,hb3,w1];refine⟨by omega,⟨i+1,rfl,by omega,by omega,hk4,?_⟩,by rw[h8];simp only[aa,aK];omega⟩;rw[hg4',ej,List.take_of_length_le (by omega),List.take_of_length_le (by omega),List.drop_of_length_le (by omega),List.append_nil,hXs]
 obtain⟨a,ha⟩:=get_of_lt (l:=X) (i:=j) (by omega);obtain⟨b,hbj⟩:=get_of_lt (l:=R) (i:=j) (by omega);have hbn:=aJ hbj;have ha2:=er a (List.mem_of_getElem? ha);have hb2:=rr b (List.mem_of_getElem? hbj);have hil:(xs.take i).length<=64:=by rw[List.length_take];omega
 have w2:=IntWalk.i64_in (a+b) (by omega);have w3:=IntWalk.i64_in ((j:Int)+1) (by omega);have avl:(fg (X.take j) (R.take j)).length=j:=by rw[xf (by simp;omega)];simp;omega
 have hln:(fg (X.take j) (R.take j)++X.drop j).length=L:=by rw[List.length_append,avl,List.length_drop];omega
 have hgj:(fg (X.take j) (R.take j)++X.drop j)[j]?=some a:=by
  rw[List.getElem?_append_right (by omega),avl,Nat.sub_self,gK ha];rfl
 have lX:=ak hg4';have hjL:(j:Int)<L:=by omega
 refine ab _ _ _ (by rfl) ?_;simp only[go_sem,p9,p10,hb3];refine W.draw 11 [0,0,0,0,12,28,0,0,192,448,1020] Try.mixed (by kernel_rfl) (by kernel_rfl) ?_;simp only[go_sem,p7,p9,p10,hb3,hbj,hbn,lX,hln,hgj,hjL,w2,w3];refine⟨by omega,by rw[aA];omega,⟨j+1,rfl,by omega,by rw[aA];omega,fun id h1 h2=>by rw[ag,if_neg h2];exact hk4 id h1 h2,?_⟩,by rw[h10];simp only[aa,aK];omega⟩;rw[ag,if_pos rfl,dF (by omega)];congr 3;rw[List.set_append_right _ _ (by omega),avl,Nat.sub_self,gK ha,aL ha,aL hbj];show _++(a+b) :: _=_;unfold fg;rw[List.zipWith_append (by simp;omega),List.append_assoc];rfl
theorem tI {S:Nat->Prop}{H:AHeap}{nx:Nat}{cv xv:AVal}{cs:List Int}{xs:List (List Int)}(h1:Fz S H nx cv (ae cs))(h2:Fz S H nx xv (aC xs)):Fz S H nx (.agg [cv,xv]) (cB cs xs):=by
 refine .agg rfl fun i hi _=>?_
 match i,hi with
 | 0,_=>exact h1
 | 1,_=>exact h2
noncomputable def fD (g:Int)(ns:List NodeP)(cs:List Int)(xs:List (List Int)):Int:=if gu g ns=true then (if iQ cs xs=true then (if ar ns=cs then 0 else 261) else 250) else 50
set_option maxHeartbeats 1000000 in
theorem ME (g:Int)(ns:List NodeP)(cs:List Int)(xs:List (List Int))(hn:jY ns)(hf:kz cs xs)(H:AHeap)(K:ARes->AHeap->Prop)(hK:K (.ret (aa (fD g ns cs xs))) H):af Try.prog G0 13 [aY g ns,cB cs xs] H K:=by
 refine af.clo ⟨_,Try.func13,rfl,rfl⟩ fun hcl=>?_;have hf':=hf;obtain⟨f1,f2,f3⟩:=hf;have hn1:=hn.1;refine af.bf (n:=38) (rs:=[.tmp 4]) Try.func13 rfl rfl rfl (by decide) (by kernel_rfl) (by simp) ?_;simp only[go_sem,cB,aC,aY,cH];obtain⟨H1,hH1⟩:∃ H1,H1=ext H [.arr 0 35 [.lit (.int .i64 g),.vec ns.length (az ns)],.arr 0 42 [.vec cs.length (ints cs),.vec xs.length (xs.map ae)]]:=⟨_,rfl⟩
 have l1:H1.live H.next 0=some (35,[.lit (.int .i64 g),.vec ns.length (az ns)]):=by rw[hH1];exact ak (cS ..)
 have l2:H1.live (H.next+1) 0=some (42,[.vec cs.length (ints cs),.vec xs.length (xs.map ae)]):=by rw[hH1];exact ak (bG H _ 1 (by simp))
 have o1:Over H H1:=by rw[hH1];exact .ext _ _
 rw[<- hH1];refine aw.clo (PB g ns hn _ _ ⟨trivial,?_⟩);cases hN:gu g ns
 ·simp only[go_sem];unfold fD at hK;rw[if_neg (by rw[hN];decide)]at hK;exact av.bI aP hcl o1 (.lit _) hK
 simp only[go_sem,l2];refine aw.clo (MA cs xs hf' _ _ ⟨trivial,?_⟩);cases hD:iQ cs xs
 ·simp only[go_sem];unfold fD at hK;rw[if_pos hN,if_neg (by rw[hD];decide)]at hK;exact av.bI aP hcl o1 (.lit _) hK
 have unl:¬ ar ns=cs->av Try.prog G0 H K (aa 261) H1:=fun h=>by
  unfold fD at hK;rw[if_pos hN,if_pos hD,if_neg h]at hK;exact av.bI aP hcl o1 (.lit _) hK
 by_cases hl:(ns.length:Int)=cs.length;rotate_left
 ·simp only[go_sem,l1,l2,hl];exact unl fun h=>hl (by rw[<- h,bO])
 simp only[go_sem,l1,l2,hl];refine W.aI 274877382704 (by rfl) (fun ρ H'=>H'=H1/\∃ k:Nat,ρ 5=aa k/\k<=ns.length/\(ar ns).take k=cs.take k) (fun ρ H=>ns.length - (iv (ρ 5)).toNat) ?_ ?_
 ·simp only[go_sem];exact⟨0,rfl,by omega,rfl⟩
 rintro ρ H' ⟨rfl,k,h5,hk,he⟩;refine ab _ _ _ (by rfl) ?_;by_cases hb:(k:Int)<cs.length
 ·obtain⟨x,hx⟩:=get_of_lt (l:=ns) (i:=k) (by omega);obtain⟨c,hc⟩:=get_of_lt (l:=cs) (i:=k) (by omega);have hne:=eS hx;have e0:=js hx;have hcn:=aJ hc;have hbn:(k:Int)<ns.length:=by omega
  simp only[go_sem,h5,hb,l2];refine W.draw 11 [0,1,0,7,15,31,0,64,0,448,960] Try.mixed (by kernel_rfl) (by kernel_rfl) ?_;by_cases hd:x.card=c
  ·have w1:=IntWalk.i64_in ((k:Int)+1) (by omega);simp only[go_sem,h5,hb,hl,hne,e0,l1,l2,hc,hcn,hd,w1];exact⟨⟨k+1,rfl,by omega,by rw[aL (cI hx),aL hc,he,hd]⟩,by omega⟩
  ·simp only[go_sem,h5,hb,hl,hne,e0,l1,l2,hc,hcn,hd];exact unl fun h=>hd (by have:=cI hx;rw[h,hc]at this;exact(Option.some.inj this).symm)
 ·simp only[go_sem,h5,hb,l2];rw[List.take_of_length_le (by rw[bO];omega),List.take_of_length_le (by omega)]at he;unfold fD at hK;rw[if_pos hN,if_pos hD,if_pos he]at hK;exact av.bI aP hcl o1 (.lit _) hK
theorem LI (g:Int)(ns:List NodeP)(cs:List Int)(xs:List (List Int)):mA [(g,ns)] cs xs=fD g ns cs xs:=by
 unfold mA fD;simp
theorem LJ (l:List (Int × List NodeP))(cs:List Int)(xs:List (List Int))(hn:∀ p∈l,jY p.2)(hf:kz cs xs)(hl4:l.length<=4)(H:AHeap){id:Nat}(hg:H.get id=some (.arr 0 35 (ef l))):
  af Try.prog G0 40 [.agg [.vec cs.length (ints cs),.vec xs.length (xs.map ae)],.own id 0 0 l.length 2] H fun r H'=>r=.ret (aa (mA l cs xs))/\H'=H:=by
 refine af.frame (H:=H) (args:=[.agg [.vec cs.length (ints cs),.vec xs.length (xs.map ae)],.own id 0 0 l.length 2]) (args':=[cB cs xs,.vec l.length (ef l)]) (v':=aa (mA l cs xs)) aP rfl (fun i hi _=>match i,hi with
  | 0,_=>?_
  | 1,_=>?_) (Lp l cs xs hn hf hl4 cF _ ⟨_,rfl,.lit _⟩)
 ·exact .agg rfl fun i hi _=>match i,hi with
   | 0,_=>.dw _
   | 1,_=>.aC _
 ·refine .frz trivial hg (by rw[tx]) fun i hi h2 h'=>?_;have hm:∀ c∈ef l,Fz (fun _=>True) H 0 c c:=fun c hc=>by
   unfold ef at hc;obtain⟨q,hq,hcq⟩:=List.mem_flatten.1 hc;obtain⟨p,_,rfl⟩:=List.mem_map.1 hq;rcases List.mem_cons.1 hcq with rfl|hcq
   ·exact .lit _
   ·rw[List.mem_singleton.1 hcq];exact ud _
  have e:(ef l)[0+i]=(ef l)[i]:=by congr 1;omega
  rw[e];exact hm _ (List.getElem_mem _)
noncomputable def tz (g:Int)(ns:List NodeP)(cs:List Int)(xs:List (List Int))(v:Int):AVal :=
 if fD g ns cs xs≠0 then .tup [ae [],aa (fD g ns cs xs)]
 else if v<0\/v >= ns.length then .tup [ae [],aa 2]
 else if lp ns xs=true then .tup [ae (eE ns (ns.getD v.toNat ⟨0,[],[]⟩) v.toNat xs),aa 0]
 else .tup [ae [],aa 7]
theorem xi {g:Int}{ns:List NodeP}{cs:List Int}{xs:List (List Int)}(h:fD g ns cs xs=0):NetOk g ns/\DataOk cs xs/\ar ns=cs:=by
 unfold fD at h;split at h
 ·rename_i h1;split at h
  ·rename_i h2;split at h
   ·rename_i h3;exact⟨CP.1 h1,My.1 h2,h3⟩
   ·cases h
  ·cases h
 ·cases h
theorem Bt {g:Int}{ns:List NodeP}{cs:List Int}{xs:List (List Int)}(h:fD g ns cs xs=0):ns.length<=6/\xs.length<=40/\∀ r∈xs,r.length=ns.length:=by
 obtain⟨h1,h2,h3⟩:=xi h;have e:ns.length=cs.length:=by rw[<- h3,bO]
 refine⟨by have:=h2.c1;omega,h2.x1,fun r hr=>by rw[(h2.row r hr).1,e]⟩
set_option maxHeartbeats 1000000 in
theorem LK (g:Int)(ns:List NodeP)(cs:List Int)(xs:List (List Int))(hn:jY ns)(hf:kz cs xs)(v:Int)(H:AHeap)(K:ARes->AHeap->Prop)(hK:K (.ret (tz g ns cs xs v)) H):
  af Try.prog G0 12 [aY g ns,cB cs xs,aa v] H K:=by
 refine af.clo ⟨_,Try.func12,rfl,rfl⟩ fun hcl=>?_;have hn1:=hn.1;have nil:∀ e H',Over H H'->K (.ret (.tup [ae [],aa e])) H->av Try.prog G0 H K (.tup [.lit (.slice none 0 0),aa e]) H':=fun e H' ov hk=>av.bI (v':=.tup [ae [],aa e]) aP hcl ov (.tup rfl fun i hi _=>match i,hi with
  | 0,_=>.nil
  | 1,_=>.lit _) hk
 refine af.bf (n:=35) (rs:=[.tmp 6,.tmp 7]) Try.func12 rfl rfl rfl (by decide) (by kernel_rfl) (by simp) ?_;simp only[go_sem,aY,cH,cB,aC];obtain⟨H1,hH1⟩:∃ H1,H1=ext H [.arr 0 35 [aa g,.vec ns.length (az ns)],.arr 0 42 [.vec cs.length (ints cs),.vec xs.length (xs.map ae)],.arr 0 35 [aa g,.vec ns.length (az ns)]]:=⟨_,rfl⟩
 have n1:H1.next=H.next+3:=by rw[hH1];rfl
 have o1:Over H H1:=by rw[hH1];exact .ext _ _
 have g0:H1.get H.next=some (.arr 0 35 [aa g,.vec ns.length (az ns)]):=by rw[hH1];exact cS ..
 have g1:H1.get (H.next+1)=some (.arr 0 42 [.vec cs.length (ints cs),.vec xs.length (xs.map ae)]):=by rw[hH1];exact bG H _ 1 (by simp)
 have g2:H1.get (H.next+2)=some (.arr 0 35 (ef [(g,ns)])):=by rw[hH1];exact bG H _ 2 (by simp)
 show aw _ _ _ _ (ext H [.arr 0 35 [aa g,.vec ns.length (az ns)],.arr 0 42 [.vec cs.length (ints cs),.vec xs.length (xs.map ae)],.arr 0 35 [aa g,.vec ns.length (az ns)]]) _;rw[<- hH1];have l0:=ak g0;have l1:=ak g1;refine aw.clo ((LJ [(g,ns)] cs xs (fun p hp=>by rw[List.mem_singleton.1 hp];exact hn) hf (by simp) H1 g2).mono ?_);rintro rres Hq ⟨hrq,hHq⟩;rw[hHq,hrq,LI];refine⟨trivial,?_⟩;unfold tz at hK;obtain⟨e,he⟩:∃ e,e=fD g ns cs xs:=⟨_,rfl⟩
 rw[<- he]at hK ⊢;by_cases h0:e=0;rotate_left
 ·rw[if_pos h0]at hK;simp only[go_sem,h0];exact nil e H1 o1 hK
 rw[if_neg (fun hh=>hh h0)]at hK;rw[h0]at he ⊢;obtain⟨hok,hdk,hca⟩:=xi he.symm;obtain⟨h6,h40,hrow⟩:=Bt he.symm;by_cases v0:v<0
 ·rw[if_pos (.inl v0)]at hK;simp only[go_sem,v0];exact nil 2 H1 o1 hK
 by_cases v1:v >= ns.length
 ·rw[if_pos (.inr v1)]at hK;simp only[go_sem,l0,v0,v1];exact nil 2 H1 o1 hK
 rw[if_neg (fun hh=>hh.elim v0 v1)]at hK;obtain⟨u,rfl⟩:∃ u:Nat,v=u:=⟨v.toNat,by omega⟩
 obtain⟨x,hx⟩:=get_of_lt (l:=ns) (i:=u) (by omega);rw[Int.toNat_natCast,bE hx]at hK;simp only[go_sem,l0,l1,v0,v1];refine aw.clo (Lk g ns hok cs xs (by omega) hrow _ _ ⟨trivial,?_⟩);simp only[go_sem];refine aw.clo (Lo (xs.map (fP ns)) (by rw[List.length_map];omega) _ _ ⟨trivial,?_⟩);unfold lp at hK;by_cases hz:(0:Int)∈xs.map (fP ns)
 ·rw[decide_eq_false (fun hh=>hh hz),if_neg (by decide)]at hK;simp only[go_sem,hz];exact nil 7 H1 o1 hK
 rw[decide_eq_true hz,if_pos rfl]at hK;simp only[go_sem,hz,l0,l1];refine aw.clo (Lz g ns hok h6 cs xs (by omega) hrow u x hx _ _ ⟨trivial,?_⟩);simp only[go_sem];exact av.bI (v':=.tup [ae (eE ns x u xs),aa 0]) aP hcl o1 (.tup rfl fun i hi _=>match i,hi with
  | 0,_=>.dw _
  | 1,_=>.lit _) hK
end Go.Proofs
namespace Go.Proofs.R01
open Go.Hx
section
variable {P:Program} {t:TypeId} {x y:Operand} {k k':IntKind} {a b:Int}
end
section
variable {P:Program} {G:Nat->Option (List AVal)}
end
end Go.Proofs.R01
namespace Go.Proofs.R01
open Go.Hx
def val:List Int -> Nat
  | [] => 0
  | a :: l => a.toNat + 10000 * val l
end Go.Proofs.R01
namespace Go.Proofs.R01
open Go.Hx
theorem mP {H H' H2:AHeap}{v:AVal}{cs:List AVal}{e:TypeId}(ov:Over H H')(h:aF H.next H' e v cs)(hn:H'.next<=H2.next)(hp:∀ k,k<H'.next->(∀ g n,v≠.own k g 0 n 1)->H2.get k=H'.get k):Over H H2 :=
 ⟨by have:=ov.next;omega,fun id hid=>by
  rw[hp id (by have:=ov.next;omega) fun g n he=>?_,ov.old id hid];rcases h with ⟨h,_⟩|⟨i2,g2,a1,_,h,_⟩
  ·rw[h]at he;cases he
  ·rw[h]at he;have:=AVal.own.inj he;omega⟩
end Go.Proofs.R01
namespace Go.Proofs.R01
open Go.Hx
end Go.Proofs.R01
namespace Go.Proofs.R01
open Go.Hx
theorem dF {l:List Int}{k:Nat}(v:Int)(h:k<l.length):setAt (ints l) k [.lit (.int .i64 v)]=ints (l.set k v):=by
 unfold setAt ints;rw[List.map_set,List.set_eq_take_append_cons_drop,if_pos (by simpa using h)];simp [aa]
end Go.Proofs.R01
namespace Go.Proofs.R01
open Go.Hx
end Go.Proofs.R01
namespace Go.Proofs.R01
open Go.Hx
end Go.Proofs.R01
namespace Go.Proofs.R01
open Go.Hx
end Go.Proofs.R01
namespace Go.Proofs.R01
open Go.Hx
end Go.Proofs.R01
namespace Go.Proofs
open Go.Hx
def aX (l:List Int):List AVal:=l.map fun n=>.lit (.int .u8 n)
theorem qA {l:List Int}{k:Nat}{a:Int}(h:l[k]?=some a):(aX l)[k]?=some (.lit (.int .u8 a)):=by unfold aX;rw[List.getElem?_map,h];rfl
theorem Mo (l:List Int):(aX l).length=l.length:=by simp [aX]
end Go.Proofs
namespace Go.Hx
variable {P:Program} {H H':AHeap}
theorem oX {t e:TypeId}{lo n m:Nat}{v x:AVal}{cs src:List AVal}{z:List AVal}(ht:P.underlying t=some (.slice e))(hz:P.cellsOf e=1)(hzero:bP P e=some z)(hsrc:cu H 1 x=some (m,src))(hm:src.length=m)(hx:src.all AVal.one=true)
  (hb:(cs.length+m)*P.bytesOf e<=2 ^ 46/\cs.length+m<=2 ^ 46) (ho:aF lo H e v cs) (hlo:lo<=H.next) (hn:n=H.next):
  ∃ v' H',bA P H n t t v x=some (v',H')/\aF lo H' e v' (cs++src)/\H.next<=H'.next/\(∀ k,k<H.next->(∀ g n,v≠.own k g 0 n 1)->H'.get k=H.get k):=by
 subst hm;obtain⟨v',H',hA,h2⟩:=rZ (H:=H) (n:=n) ht hz hzero hx hb ho hlo hn;refine⟨v',H',?_,h2⟩;rw[<- hA];have e2:cu H 1 (.vec src.length src)=some (src.length,src):=by unfold cu;simp
 unfold bA;rw[ht];simp only[hz,hsrc,e2]
end Go.Hx
namespace Go.Proofs
open Go.Hx
def U8 (n:Int):Prop:=0<=n/\n<256
theorem OM (n:Nat)(hn:n<=5)(ord:List Int)(H:AHeap)(K:ARes->AHeap->Prop)(hK:K (.ret (ae (List.replicate n 1))) H):
  af Try.prog G0 66 [.agg [.vec n (aX (List.replicate n 0)),(.lit (.int .u16 0)),.vec ord.length (aX ord)]] H K:=by
 refine af.clo ⟨_,Try.func66,rfl,rfl⟩ fun hcl=>?_;refine af.bf (n:=28) (rs:=[.tmp 2]) Try.func66 rfl rfl rfl (by decide) (by kernel_rfl) (by simp) ?_;simp only[go_sem];obtain⟨H1,hH1⟩:∃ H1,H1=ext H [.arr 0 83 [.vec n (aX (List.replicate n 0)),.lit (.int .u16 0),.vec ord.length (aX ord)]]:=⟨_,rfl⟩
 have l1:=ak (show H1.get H.next=some (.arr 0 83 [.vec n (aX (List.replicate n 0)),.lit (.int .u16 0),.vec ord.length (aX ord)]) by rw[hH1];exact cS ..);have n1:H1.next=H.next+1:=by rw[hH1];rfl
 have o1:Over H H1:=by rw[hH1];exact .ext _ _
 rw[<- hH1];refine W.aI 134217720 (by rfl) (fun ρ H'=>∃ k:Nat,ρ 4=aa k/\k<=n/\Over H1 H'/\aF H1.next H' 3 (ρ 3) (ints (List.replicate k 1))) (fun ρ H=>n - (iv (ρ 4)).toNat) ?_ ?_
 ·simp only[go_sem];exact⟨0,rfl,by omega,.refl _,.nil⟩
 rintro ρ H' ⟨k,h4,hk,ov,h3⟩;refine W.env fun E hE=>?_;have e1:E 1=.ptr H.next 0 0:=by rw[hE];simp only[go_sem]
 have e3:E 3=ρ 3:=by rw[hE];simp only[go_sem]
 have e4:E 4=aa k:=by rw[hE];simp only[go_sem,h4]
 clear hE;refine ab _ _ _ (by rfl) ?_;have l2:=(ov.live (g:=0) (by omega:H.next<H1.next)).trans l1;by_cases hb:(k:Int)<n
 ·have h5:(k:Int)<5:=by omega
  have hg:(aX (List.replicate n 0))[k]?=some (.lit (.int .u8 0)):=qA (by rw[List.getElem?_replicate,if_pos (by omega)]);have hne:=aJ hg;obtain⟨v',H2,hA,ov2,hO,hn2,_⟩:=kF 1 ov h3 (by simp;omega);have w1:=IntWalk.i64_in ((k:Int)+1) (by omega);have hk0:(k:Int) >= 0:=by omega
  have w5:IntKind.i64.wrap (1+IntKind.i64.wrap (Int.tmod 0 4))=1:=by decide
  simp only[go_sem,e1,e3,e4,l2,hb,h5,hk0,hg,hne,w1,w5,hA];refine⟨by have:=ov2.next;omega,⟨k+1,rfl,by omega,ov2,?_⟩,by rw[h4];simp only[aa,aK];omega⟩;rw[List.replicate_succ'];exact hO
 ·simp only[go_sem,e1,e3,e4,l2,hb];obtain rfl:k=n:=by omega
  exact av.bI aP hcl (o1.trans ov) (h3.iH fun i hi=>by omega) hK
structure IsPerm (n:Nat)(p:List Int):Prop where
 len:p.length=n
 nd:p.Nodup
 rng:∀ x∈p,0<=x/\x<n
theorem ON {n:Nat}{p:List Int}(h:IsPerm n p)(at':Nat)(ha:at'<=n):IsPerm (n+1) (p.take at'++(n:Int) :: p.drop at'):=by
 have hperm:(p.take at'++(n:Int) :: p.drop at').Perm ((n:Int) :: p):=by
  have:=List.perm_middle (a:=(n:Int)) (l₁:=p.take at') (l₂:=p.drop at')
  rwa [List.take_append_drop]at this
 refine⟨by rw[hperm.length_eq];simp [h.len],(hperm.nodup_iff).2 (List.nodup_cons.2 ⟨fun hm=>?_,h.nd⟩),fun x hx=>?_⟩
 ·have:=h.rng _ hm;omega
 ·rcases List.mem_cons.1 (hperm.mem_iff.1 hx) with rfl|h2
  ·omega
  ·have:=h.rng x h2;omega
def kD (ord:List Int)(k:Nat):Nat:=if k<ord.length then (ord.getD k 0 % ((k:Int)+1)).toNat else 0
def fS (ord:List Int):Nat->List Int
 | 0=>[]
 | k+1=>(fS ord k).take (kD ord k)++(k:Int) :: (fS ord k).drop (kD ord k)
theorem OO (ord:List Int)(k:Nat):kD ord k<=k:=by
 unfold kD;split
 ·have:=Int.emod_lt_of_pos (ord.getD k 0) (show 0<(k:Int)+1 by omega);omega
 ·omega
theorem xO (ord:List Int):∀ n:Nat,IsPerm n (fS ord n)
 | 0=>⟨rfl,by simp [fS],by simp [fS]⟩
 | n+1=>ON (xO ord n) _ (OO ord n)
set_option maxHeartbeats 1000000 in
theorem OP (n:Nat)(hn:n<=5)(ord:List Int)(hol:(ord.length:Int)<2 ^ 63)(ho8:∀ x∈ord,U8 x)(H:AHeap)(K:ARes->AHeap->Prop)(hK:∀ v H',Over H H'->aF H.next H' 3 v (ints (fS ord n))->K (.ret v) H'):
  af Try.prog G0 35 [.agg [.vec n (aX (List.replicate n 0)),.lit (.int .u16 0),.vec ord.length (aX ord)]] H K:=by
 refine af.clo ⟨_,Try.func35,rfl,rfl⟩ fun hcl=>?_;refine af.bf (n:=42) (rs:=[.tmp 2]) Try.func35 rfl rfl rfl (by decide) (by kernel_rfl) (by simp) ?_;simp only[go_sem];obtain⟨H1,hH1⟩:∃ H1,H1=ext H [.arr 0 83 [.vec n (aX (List.replicate n 0)),.lit (.int .u16 0),.vec ord.length (aX ord)]]:=⟨_,rfl⟩
 have l1:=ak (show H1.get H.next=some (.arr 0 83 [.vec n (aX (List.replicate n 0)),.lit (.int .u16 0),.vec ord.length (aX ord)]) by rw[hH1];exact cS ..);have n1:H1.next=H.next+1:=by rw[hH1];rfl
 have o1:Over H H1:=by rw[hH1];exact .ext _ _
 rw[<- hH1];refine W.aI 2199023255544 (by rfl) (fun ρ H'=>∃ (k:Nat) (p:List Int),ρ 4=aa k/\k<=n/\p=fS ord k/\Over H1 H'/\aF H1.next H' 3 (ρ 3) (ints p)) (fun ρ H=>n - (iv (ρ 4)).toNat) ?_ ?_
 ·simp only[go_sem];exact⟨0,[],rfl,by omega,rfl,.refl _,.nil⟩
 rintro ρ H' ⟨k,p,h4,hk,hpe,ov,h3⟩;have hp:IsPerm k p:=by rw[hpe];exact xO ord k
 refine W.env fun E hE=>?_;have e1:E 1=.ptr H.next 0 0:=by rw[hE];simp only[go_sem]
 have e3:E 3=ρ 3:=by rw[hE];simp only[go_sem]
 have e4:E 4=aa k:=by rw[hE];simp only[go_sem,h4]
 clear hE;refine ab _ _ _ (by rfl) ?_;have l2:=(ov.live (g:=0) (by omega:H.next<H1.next)).trans l1;simp only[go_sem,e1,l2];refine aw.clo (OM n hn ord _ _ ⟨trivial,?_⟩);by_cases hb:(k:Int)<n;rotate_left
 ·simp only[go_sem,List.length_replicate,e3,e4,hb];obtain rfl:k=n:=by omega
  exact av.mk (o1.trans ov).next (hK _ _ (o1.trans ov) (by rw[<- hpe];exact h3.keep (by omega) (Nat.le_refl _) fun _ _ _ _ _ _=>rfl))
  -- the place
 rcases h3 with ⟨h3n,hpn⟩|⟨oi,og,hoi1,hoi2,h3o,hog⟩
 ·have p0:p=[]:=by cases p with
   | nil=>rfl
   | cons a l=>simp [ints]at hpn
  have pl:=hp.len;rw[p0]at pl;obtain rfl:k=0:=by simpa using pl.symm
  rw[h3n]at e3;have e4':E 4=aa 0:=e4;have hb':(0:Int)<n:=hb;by_cases ho:(0:Int)<ord.length
  ·obtain⟨b,hbg⟩:=get_of_lt (l:=ord) (i:=0) (by omega);have b8:=ho8 b (List.mem_of_getElem? hbg);have hbg':=qA hbg;have hbne:=aJ hbg';have w2:IntKind.i64.wrap b=b:=IntWalk.i64_in b (by have:=b8.1;have:=b8.2;omega);have w1:IntKind.i64.wrap 1=1:=(by decide);have m1:b.tmod 1=0:=(by simp);obtain⟨v2,Hb,hA2,ovB,hO2,hn2,hp2⟩:=kF (H:=H') (H':=H') (l:=[]) (v:=.lit (.slice none 0 0)) (0:Int) (.refl _) aF.nil (by simp);obtain⟨v3,Hc,hA3,hO3,hn3,hp3⟩:=oX (P:=Try.prog) (H:=Hb) (t:=39) (n:=Hb.next) (m:=0) (v:=v2) (x:=.lit (.slice none 0 0)) (src:=[]) Try.underlying39 Try.dT Try.eG rfl rfl rfl (by rw[Try.fh];exact⟨by decide,by decide⟩) hO2 ovB.next rfl;have ovC:Over H' Hc:=mP ovB hO2 hn3 hp3;have hA1:bA Try.prog H' H'.next 39 39 (.lit (.slice none 0 0)) (.lit (.slice none 0 0))=some (.lit (.slice none 0 0),H'):=by
    unfold bA;rw[Try.underlying39];simp only[Try.eG,Try.dT,Option.bind_some,vh,if_true]
   have hO3':aF H1.next Hc 3 v3 (ints [0]):=by
    rw[List.append_nil]at hO3;exact hO3.keep ov.next (Nat.le_refl _) fun _ _ _ _ _ _=>rfl
   simp only[go_sem,List.length_replicate,e1,e3,e4',l2,hb',ho,hbg',hbne,w1,w2,m1,hA1,hA2,hA3];refine⟨by have:=ovC.next;have:=ov.next;omega,⟨1,[0],rfl,by omega,by simp [fS],ov.trans ovC,hO3'⟩,by rw[h4];simp only[aa,aK];omega⟩
  ·have w1:IntKind.i64.wrap 1=1:=(by decide);obtain⟨v2,Hb,hA2,ovB,hO2,hn2,hp2⟩:=kF (H:=H') (H':=H') (l:=[]) (v:=.lit (.slice none 0 0)) (0:Int) (.refl _) aF.nil (by simp);obtain⟨v3,Hc,hA3,hO3,hn3,hp3⟩:=oX (P:=Try.prog) (H:=Hb) (t:=39) (n:=Hb.next) (m:=0) (v:=v2) (x:=.lit (.slice none 0 0)) (src:=[]) Try.underlying39 Try.dT Try.eG rfl rfl rfl (by rw[Try.fh];exact⟨by decide,by decide⟩) hO2 ovB.next rfl;have ovC:Over H' Hc:=mP ovB hO2 hn3 hp3;have hA1:bA Try.prog H' H'.next 39 39 (.lit (.slice none 0 0)) (.lit (.slice none 0 0))=some (.lit (.slice none 0 0),H'):=by
    unfold bA;rw[Try.underlying39];simp only[Try.eG,Try.dT,Option.bind_some,vh,if_true]
   have hO3':aF H1.next Hc 3 v3 (ints [0]):=by
    rw[List.append_nil]at hO3;exact hO3.keep ov.next (Nat.le_refl _) fun _ _ _ _ _ _=>rfl
   simp only[go_sem,List.length_replicate,e1,e3,e4',l2,hb',ho,w1,hA1,hA2,hA3];refine⟨by have:=ovC.next;have:=ov.next;omega,⟨1,[0],rfl,by omega,by simp [fS],ov.trans ovC,hO3'⟩,by rw[h4];simp only[aa,aK];omega⟩
 rw[h3o]at e3;have lo:=ak hog;by_cases ho:(k:Int)<ord.length
 ·obtain⟨b,hbg⟩:=get_of_lt (l:=ord) (i:=k) (by omega);have b8:=ho8 b (List.mem_of_getElem? hbg);have hbg':=qA hbg;have hbne:=aJ hbg';have w0:=IntWalk.i64_in ((k:Int)+1) (by omega);have w1:=w0;have w2:IntKind.i64.wrap b=b:=IntWalk.i64_in b (by have:=b8.1;have:=b8.2;omega);have m1:b.tmod ((k:Int)+1)=b % ((k:Int)+1):=Int.tmod_eq_emod_of_nonneg b8.1;have m2:=Int.emod_nonneg b (show (k:Int)+1≠0 by omega);have m3:=Int.emod_lt_of_pos b (show 0<(k:Int)+1 by omega);have hz:¬ (k:Int)+1=0:=by omega
  obtain⟨a,hat⟩:=Int.eq_ofNat_of_zero_le m2;have ha:a<=k:=by omega
  have hac:(0:Int)<=(a:Int):=by omega
  have hap:(a:Int)<=(p.length:Int):=by rw[hp.len];omega
  have hak:(0:Int)<=(a:Int)/\(a:Int)<=(p.length:Int):=⟨hac,hap⟩
  have pl:p.length=k:=hp.len;obtain⟨v1,Ha,hA1,hO1,hn1,hp1⟩:=oX (P:=Try.prog) (H:=H') (t:=39) (n:=H'.next) (m:=a) (v:=.lit (.slice none 0 0)) (x:=.own oi og 0 a 1) (src:=(ints p).take a) Try.underlying39 Try.dT Try.eG
   (by rw[pW,if_pos rfl,lo];simp) (by simp [aO]<;>omega) (List.all_eq_true.2 fun c hc=>by
    obtain⟨z,_,rfl⟩:=List.mem_map.1 (List.mem_of_mem_take hc);rfl) (by rw[Try.fh];simp<;>omega) aF.nil (Nat.le_refl _) rfl
  have ovA:Over H' Ha:=⟨hn1,fun id hi=>hp1 id hi fun g n h=>by cases h⟩
  rw[List.nil_append,CX]at hO1;obtain⟨v2,Hb,hA2,ovB,hO2,hn2,hp2⟩:=kF (k:Int) ovA hO1 (by simp<;>omega);have hcl2:(ints (p.take a++[(k:Int)])).length<=k+1:=by rw[aO,List.length_append,List.length_take];simp<;>omega
  have hlb:Hb.live oi og=some (3,ints p):=(ovB.live hoi2).trans lo;obtain⟨v3,Hc,hA3,hO3,hn3,hp3⟩:=oX (P:=Try.prog) (H:=Hb) (t:=39) (n:=Hb.next) (m:=p.length - a) (v:=v2) (x:=.own oi og a (p.length - a) 1) (src:=(ints p).drop a) Try.underlying39 Try.dT Try.eG
   (by rw[pW,if_pos rfl,hlb];simp [List.take_of_length_le,aO]) (by simp [aO]) (List.all_eq_true.2 fun c hc=>by
    obtain⟨z,_,rfl⟩:=List.mem_map.1 (List.mem_of_mem_drop hc);rfl) (by rw[Try.fh];omega) hO2 ovB.next rfl
  have ovC:Over H' Hc:=mP ovB hO2 hn3 hp3;have hla:Ha.live oi og=some (3,ints p):=(ovA.live hoi2).trans lo;rw[CY]at hO3;have hO3':aF H1.next Hc 3 v3 (ints (p.take a++(k:Int) :: p.drop a)):=by
   have:ints (p.take a++[(k:Int)])++ints (p.drop a)=ints (p.take a++(k:Int) :: p.drop a):=(by simp [ints]);rw[this]at hO3;exact hO3.keep ov.next (Nat.le_refl _) fun _ _ _ _ _ _=>rfl
  simp only[go_sem,List.length_replicate,e1,e3,e4,l2,hb,ho,hbg',hbne,w0,w2,m1,hz,hat,hac,hap,Int.toNat_natCast,lo,hlb,hA1,hA2,hA3];refine⟨by have:=ovC.next;omega,⟨k+1,_,rfl,by omega,by rw[fS,<- hpe,show kD ord k=a by unfold kD;rw[if_pos (by omega),bE hbg,hat];rfl],ov.trans ovC,hO3'⟩,by rw[h4];simp only[aa,aK];omega⟩
 ·have w0:=IntWalk.i64_in ((k:Int)+1) (by omega);have pl:p.length=k:=hp.len;obtain⟨v1,Ha,hA1,hO1,hn1,hp1⟩:=oX (P:=Try.prog) (H:=H') (t:=39) (n:=H'.next) (m:=0) (v:=.lit (.slice none 0 0)) (x:=.own oi og 0 0 1) (src:=(ints p).take 0) Try.underlying39 Try.dT Try.eG
   (by rw[pW,if_pos rfl,lo];simp) (by simp [aO]<;>omega) (List.all_eq_true.2 fun c hc=>by
    obtain⟨z,_,rfl⟩:=List.mem_map.1 (List.mem_of_mem_take hc);rfl) (by rw[Try.fh];simp<;>omega) aF.nil (Nat.le_refl _) rfl
  have ovA:Over H' Ha:=⟨hn1,fun id hi=>hp1 id hi fun g n h=>by cases h⟩
  rw[List.nil_append,CX]at hO1;obtain⟨v2,Hb,hA2,ovB,hO2,hn2,hp2⟩:=kF (k:Int) ovA hO1 (by simp<;>omega);have hcl2:(ints (p.take 0++[(k:Int)])).length<=k+1:=by rw[aO,List.length_append,List.length_take];simp<;>omega
  have hlb:Hb.live oi og=some (3,ints p):=(ovB.live hoi2).trans lo;obtain⟨v3,Hc,hA3,hO3,hn3,hp3⟩:=oX (P:=Try.prog) (H:=Hb) (t:=39) (n:=Hb.next) (m:=p.length) (v:=v2) (x:=.own oi og 0 (p.length) 1) (src:=(ints p).drop 0) Try.underlying39 Try.dT Try.eG
   (by rw[pW,if_pos rfl,hlb];simp [List.take_of_length_le,aO]) (by simp [aO]) (List.all_eq_true.2 fun c hc=>by
    obtain⟨z,_,rfl⟩:=List.mem_map.1 (List.mem_of_mem_drop hc);rfl) (by rw[Try.fh];omega) hO2 ovB.next rfl
  have ovC:Over H' Hc:=mP ovB hO2 hn3 hp3;have hla:Ha.live oi og=some (3,ints p):=(ovA.live hoi2).trans lo;rw[CY]at hO3;have hO3':aF H1.next Hc 3 v3 (ints (p.take 0++(k:Int) :: p.drop 0)):=by
   have:ints (p.take 0++[(k:Int)])++ints (p.drop 0)=ints (p.take 0++(k:Int) :: p.drop 0):=(by simp [ints]);rw[this]at hO3;exact hO3.keep ov.next (Nat.le_refl _) fun _ _ _ _ _ _=>rfl
  simp only[go_sem,List.length_replicate,e1,e3,e4,l2,hb,ho,w0,lo,hlb,hA1,hA2,hA3];refine⟨by have:=ovC.next;omega,⟨k+1,_,rfl,by omega,by rw[fS,<- hpe,show kD ord k=0 by unfold kD;rw[if_neg (by omega)]],ov.trans ovC,hO3'⟩,by rw[h4];simp only[aa,aK];omega⟩
structure D25 where
 cards:List Int
 cases:List (List Int)
 follow:Int
 miss:List Int
def MB (l:List (List Int)):List AVal:=(l.map aX).flatten
def D25.cells (d:D25):List AVal:=[.vec d.cards.length (aX d.cards),.vec d.cases.length (MB d.cases),.lit (.int .u8 d.follow),.vec d.miss.length (aX d.miss)]
structure D25.Ok (d:D25):Prop where
 cl:(d.cards.length:Int)<2 ^ 63
 c8:∀ x∈d.cards,U8 x
 xl:(d.cases.length:Int)<2 ^ 63
 x8:∀ r∈d.cases,r.length=5/\∀ x∈r,U8 x
 f8:U8 d.follow
 ml:(d.miss.length:Int)<2 ^ 63
 m8:∀ x∈d.miss,U8 x
def mD (n:Nat)(xs:List (List Int)):Prop:=∀ r∈xs,r.length=n
theorem mD.set {n:Nat}{xs:List (List Int)}(h:mD n xs){i:Nat}{r:List Int}(hr:r.length=n):mD n (xs.set i r):=fun q hq=>by
 rcases List.mem_or_eq_of_mem_set hq with h'|rfl
 ·exact h q h'
 ·exact hr
end Go.Proofs
namespace Go.Hx
variable {P:Program} {G:Nat->Option (List AVal)}
theorem iI.upd {lo:Nat}{H:AHeap}{e1 e0:TypeId}{v:AVal}{rows:List (List AVal)}(h:iI lo H e1 e0 v rows){k:Nat}{b:Blk}(hk:k<lo):iI lo (H.upd k b) e1 e0 v rows:=by
 obtain⟨cs,c1,c2,c3⟩:=h;refine⟨cs,c1.keep (Nat.le_refl _) (by rw[aA];exact Nat.le_refl _) fun id _ h1 _ _ _=>by rw[ag,if_neg (by omega)],c2,fun j r c hr hc=>(c3 j r c hr hc).keep (Nat.le_refl _) (by rw[aA];exact Nat.le_refl _) fun id _ h1 _ _ _=>by rw[ag,if_neg (by omega)]⟩
end Go.Hx
namespace Go.Proofs
open Go.Hx
theorem mO {l:List Int}(h:∀ x∈l,0<=x):0<=l.sum:=by
 induction l with
 | nil=>simp
 | cons a l ih =>
  rw[List.sum_cons];have:=h a (by simp);have:=ih fun x hx=>h x (by simp [hx]);omega
theorem Cj {l:List Int}{i:Nat}{a b:Int}(h:l[i]?=some a):(l.set i b).sum=l.sum - a+b:=by
 induction l generalizing i with
 | nil=>simp at h
 | cons x l ih =>
  cases i with
  | zero=>simp at h;subst h;simp only[List.set_cons_zero,List.sum_cons];omega
  | succ i =>
   simp only[List.set_cons_succ,List.sum_cons];rw[ih (by simpa using h)];omega
theorem OQ {l:List Int}{b:Int}(h:∀ x∈l,0<=x/\x<=b):l.sum<=b*l.length:=by
 induction l with
 | nil=>simp
 | cons a l ih =>
  rw[List.sum_cons,List.length_cons];have:=(h a (by simp)).2;have:=ih fun x hx=>h x (by simp [hx]);rw[show b*((l.length+1:Nat):Int)=b*l.length+b by rw[Int.natCast_add,Int.mul_add];simp];omega
def wF (n:Nat)(bs:List Int)(from':Int):List Int:=(List.range n).map fun (k:Nat)=>if bs.length=0 then 0 else bs.getD ((from'+(k:Int)) % (bs.length:Int)).toNat 0 % 8
theorem Ck (n:Nat)(bs:List Int)(from':Int):(wF n bs from').length=n:=by simp [wF]
theorem Cl {n:Nat}(bs:List Int)(from':Int){k:Nat}(h:k<n):(wF n bs from')[k]?=some (if bs.length=0 then 0 else bs.getD ((from'+(k:Int)) % (bs.length:Int)).toNat 0 % 8):=by
 unfold wF;rw[List.getElem?_map,List.getElem?_range h];rfl
theorem OS (n:Nat)(bs:List Int)(from':Int):∀ x∈wF n bs from',0<=x/\x<=7:=fun x hx=>by
 unfold wF at hx;obtain⟨k,_,rfl⟩:=List.mem_map.1 hx;split<;>omega
def tT (g s:Int)(st:List Int × Nat)(m:Nat):List Int × Nat:=if 0<st.1.getD m 0 then (st.1.set m (g*st.1.getD m 0 / s),m) else st
def im (g:Int)(c:List Int)(m:Nat):List Int × Nat:=(List.range m).foldl (tT g c.sum) (c,0)
theorem Cm (g:Int)(c:List Int)(m:Nat):im g c (m+1)=tT g c.sum (im g c m) m:=by unfold im;rw[List.range_succ,List.foldl_append];rfl
def oY (g:Int)(n:Nat)(bs:List Int)(from':Int):List Int:=(im g (wF n bs from') n).1.set (im g (wF n bs from') n).2 ((im g (wF n bs from') n).1.getD (im g (wF n bs from') n).2 0+(g - (im g (wF n bs from') n).1.sum))
structure RInv (g:Int)(c:List Int)(m:Nat)(d:List Int)(last:Nat):Prop where
 dl:d.length=c.length
 d0:∀ x∈d,0<=x
 dd:d.drop m=c.drop m
 dg:(d.take m).sum<=g
 ds:c.sum*(d.take m).sum<=g*(c.take m).sum
 la:last<c.length
theorem Cn {g:Int}{c:List Int}(hg:1<=g)(hc:∀ x∈c,0<=x)(hl:0<c.length):∀ m,m<=c.length->RInv g c m (im g c m).1 (im g c m).2:=by
 intro m
 induction m with
 | zero=>intro _;exact⟨rfl,hc,rfl,by simp;omega,by simp,hl⟩
 | succ m ih =>
  intro hm;obtain⟨hdl,hd0,hdd,hdg,hds,hla⟩:=ih (by omega);rw[Cm];generalize im g c m=st at *
  obtain⟨d,last⟩:=st;simp only at hdl hd0 hdd hdg hds hla;obtain⟨x,hcx⟩:=get_of_lt (l:=c) (i:=m) (by omega);have hx0:=hc x (List.mem_of_getElem? hcx);have hdx:d[m]?=some x:=by
   have h1:(d.drop m)[0]?=d[m]?:=(by rw[List.getElem?_drop];rfl);have h2:(c.drop m)[0]?=c[m]?:=(by rw[List.getElem?_drop];rfl);rw[<- h1,hdd,h2,hcx]
  have hdd':d.drop (m+1)=c.drop (m+1):=by
   have:=congrArg (List.drop 1) hdd
   rwa [List.drop_drop,List.drop_drop]at this
  have hct:(c.take (m+1)).sum=(c.take m).sum+x:=by rw[aL hcx];simp
  have hcs:(c.take (m+1)).sum+(c.drop (m+1)).sum=c.sum:=by rw[<- List.sum_append,List.take_append_drop]
  have hcd0:=mO (l:=c.drop (m+1)) fun y hy=>hc y (List.mem_of_mem_drop hy);have hc00:=mO (l:=c.take m) fun y hy=>hc y (List.mem_of_mem_take hy);have hd00:=mO (l:=d.take m) fun y hy=>hd0 y (List.mem_of_mem_take hy);unfold tT;rw[bE hdx];by_cases hx:0<x
  ·rw[if_pos hx];have gx:0<=g*x:=Int.mul_nonneg (by omega) hx0;have y0:0<=g*x / c.sum:=Int.ediv_nonneg gx (by omega);have y2:c.sum*(g*x / c.sum)<=g*x:=Int.mul_ediv_self_le (by omega);have dt:((d.set m (g*x / c.sum)).take (m+1)).sum=(d.take m).sum+g*x / c.sum:=by
    rw[aL (List.getElem?_set_self (by omega)),List.take_set_of_le (Nat.le_refl _)];simp
   have hs2:c.sum*((d.take m).sum+g*x / c.sum)<=g*(c.take (m+1)).sum:=by
    rw[Int.mul_add,hct,Int.mul_add];omega
   have hle:(d.take m).sum+g*x / c.sum<=g:=by
    have h1:g*(c.take (m+1)).sum<=g*c.sum:=Int.mul_le_mul_of_nonneg_left (by omega) (by omega);have h2:c.sum*((d.take m).sum+g*x / c.sum)<=c.sum*g:=(by rw[Int.mul_comm c.sum g];omega);exact Int.le_of_mul_le_mul_left h2 (by omega)
   refine⟨by simp [hdl],fun y hy=>?_,?_,by dsimp only;rw[dt];exact hle,by dsimp only;rw[dt];exact hs2,by dsimp only;omega⟩
   ·rcases List.mem_or_eq_of_mem_set hy with h|h
    ·exact hd0 y h
    ·omega
   ·rw[<- hdd',List.drop_set_of_lt (by omega)]
  ·rw[if_neg hx];have x0:x=0:=(by omega);have dt:(d.take (m+1)).sum=(d.take m).sum:=(by rw[aL hdx,x0];simp);rw[x0,Int.add_zero]at hct;exact⟨hdl,hd0,hdd',by dsimp only;rw[dt];exact hdg,by dsimp only;rw[dt,hct];exact hds,hla⟩
theorem OT {g:Int}{n:Nat}(hg:1<=g)(hn:1<=n)(bs:List Int)(from':Int):jz g n (oY g n bs from'):=by
 have hw:=Ck n bs from';have I:=Cn (g:=g) (c:=wF n bs from') hg (fun x hx=>(OS n bs from' x hx).1) (by omega) n (by omega);unfold oY;generalize im g (wF n bs from') n=st at *
 obtain⟨d,last⟩:=st;obtain⟨hdl,hd0,hdd,hdg,hds,hla⟩:=I;dsimp only at hdl hd0 hdd hdg hds hla ⊢;obtain⟨y,hy⟩:=get_of_lt (l:=d) (i:=last) (by omega);have y0:=hd0 y (List.mem_of_getElem? hy);rw[bE hy];rw[List.take_of_length_le (by omega)]at hdg;have hs:(d.set last (y+(g - d.sum))).sum=g:=by rw[Cj hy];omega
 have h0:∀ w∈d.set last (y+(g - d.sum)),0<=w:=fun w hw=>by
  rcases List.mem_or_eq_of_mem_set hw with h|h
  ·exact hd0 w h
  ·omega
 exact⟨by simp [hdl,hw],fun w hw=>⟨h0 w hw,by have:=mU h0 w hw;omega⟩,hs⟩
set_option maxHeartbeats 2000000 in
theorem OU (g:Int)(n:Nat)(hg:1<=g/\g<=60)(hn:1<=n/\n<=4)(bs:List Int)(hbl:(bs.length:Int)<2 ^ 63)(hb8:∀ x∈bs,U8 x)(from':Int)(hf:0<=from'/\from'<=1000000)(H:AHeap)(K:ARes->AHeap->Prop)(hK:∀ v H',Over H H'->aF H.next H' 3 v (ints (oY g n bs from'))->K (.ret v) H'):
  af Try.prog G0 38 [aa g,aa n,.vec bs.length (aX bs),aa from'] H K:=by
 refine af.clo ⟨_,Try.func38,rfl,rfl⟩ fun hcl=>?_;refine af.bf (n:=84) (rs:=[.tmp 8]) Try.func38 rfl rfl rfl (by decide) (by kernel_rfl) (by simp) ?_;simp only[go_sem];refine⟨by omega,?_⟩;refine W.aI 35184371960832 (by rfl) (fun ρ H'=>∃ (k:Nat) (c:List Int),ρ 11=aa k/\k<=n/\c.length=n/\(∀ x∈c,0<=x/\x<=7)/\(∀ j x,k<=j->c[j]?=some x->x=0)/\(∀ j,j<k->c[j]?=(wF n bs from')[j]?)/\ρ 10=aa c.sum/\OwnI H H' H.next c) (fun ρ H=>n - (iv (ρ 11)).toNat) ?_ ?_
 ·simp only[go_sem];refine⟨0,List.replicate n 0,rfl,by omega,by simp,fun x hx=>?_,fun j x _ hx=>?_,fun j hj=>by omega,by simp,?_⟩
  ·have:=List.eq_of_mem_replicate hx;omega
  ·exact List.eq_of_mem_replicate (List.mem_of_getElem? hx)
  ·exact .new [] _
 rintro ρ H' ⟨k,c,h11,hk,hcl',hc7,hc0,hcw,h10,ho⟩;refine W.env fun E hE=>?_;have e0:E 0=aa g:=by rw[hE];simp only[go_sem]
 have e1:E 1=aa n:=by rw[hE];simp only[go_sem]
 have e2:E 2=.vec bs.length (aX bs):=by rw[hE];simp only[go_sem]
 have e3:E 3=aa from':=by rw[hE];simp only[go_sem]
 have e9:E 9=.own H.next 0 0 n 1:=by rw[hE];simp only[go_sem]
 have e10:E 10=aa c.sum:=by rw[hE];simp only[go_sem,h10]
 have e11:E 11=aa k:=by rw[hE];simp only[go_sem,h11]
 clear hE;refine ab _ _ _ (by rfl) ?_;have lN:=ho.live;have hs0:=mO fun x hx=>(hc7 x hx).1;have hs1:=OQ hc7;by_cases hb:(k:Int)<n
 ·have hck:c[k]?=some 0:=by
   obtain⟨a,ha⟩:=get_of_lt (l:=c) (i:=k) (by omega);rw[ha,hc0 k a (Nat.le_refl _) ha]
  have hcne:=aJ hck;have hk0:(k:Int) >= 0:=by omega
  have w1:=IntWalk.i64_in ((k:Int)+1) (by omega);by_cases hz:(0:Int)<bs.length
  ·have hzn:¬ (bs.length:Int)=0:=(by omega);have w2:=IntWalk.i64_in (from'+k) (by omega);have m1:(from'+(k:Int)).tmod bs.length=(from'+k) % bs.length:=Int.tmod_eq_emod_of_nonneg (by omega);have m2:=Int.emod_nonneg (from'+k) hzn;have m3:=Int.emod_lt_of_pos (from'+k) hz;obtain⟨q,hq⟩:=Int.eq_ofNat_of_zero_le m2;have hq0:(q:Int) >= 0:=(by omega);have hql:(q:Int)<bs.length:=(by omega);obtain⟨b,hbg⟩:=get_of_lt (l:=bs) (i:=q) (by omega);have b8:=hb8 b (List.mem_of_getElem? hbg);have hbg':=qA hbg;have hbne:=aJ hbg';have t1:b.tmod 8=b % 8:=Int.tmod_eq_emod_of_nonneg b8.1;have w3:IntKind.u8.wrap (b % 8)=b % 8:=IntWalk.u8_in _ (by omega);have w4:IntKind.i64.wrap (b % 8)=b % 8:=IntWalk.i64_in _ (by omega);have w5:=IntWalk.i64_in (c.sum+b % 8) (by omega);have hsg:(setAt (ints c) k [.lit (.int .i64 (b % 8))])[k]?=some (.lit (.int .i64 (b % 8))):=by
    rw[dF (by omega),fa,List.getElem?_set_self (by omega)];rfl
   simp only[go_sem,hsg,e1,e2,e3,e9,e10,e11,hb,hz,hzn,w1,w2,m1,hq,hq0,hql,hbg',hbne,t1,w4,w5,hk0,lN];refine⟨by omega,by have:=ho.hi;rw[aA];omega,⟨k+1,c.set k (b % 8),rfl,by omega,by simp [hcl'],fun x hx=>?_,fun j x hj hx=>?_,fun j hj=>?_,by rw[Cj hck,Int.sub_zero],ho.store (by omega) _⟩,by rw[h11];simp only[aa,aK];omega⟩
   ·rcases List.mem_or_eq_of_mem_set hx with h|h
    ·exact hc7 x h
    ·omega
   ·rw[List.getElem?_set_ne (by omega)]at hx;exact hc0 j x (by omega) hx
   ·by_cases hjk:j=k
    ·subst hjk;rw[List.getElem?_set_self (by omega),Cl bs from' (by omega),if_neg (by omega),hq,Int.toNat_natCast,bE hbg]
    ·rw[List.getElem?_set_ne (by omega)];exact hcw j (by omega)
  ·have w5:=IntWalk.i64_in (c.sum+0) (by omega);rw[Int.add_zero]at w5;simp only[go_sem,e1,e2,e9,e10,e11,hb,hz,w1,w5,Int.add_zero,hk0,hck,lN];refine⟨by have:=ho.hi;omega,⟨k+1,c,rfl,by omega,hcl',hc7,fun j x hj hx=>hc0 j x (by omega) hx,fun j hj=>by
    by_cases hjk:j=k
    ·subst hjk;rw[hck,Cl bs from' (by omega),if_pos (by omega)]
    ·exact hcw j (by omega),rfl,ho⟩,by rw[h11];simp only[aa,aK];omega⟩
 ·obtain rfl:k=n:=by omega
  simp only[go_sem,e1,e11,hb];have hcwF:c=wF k bs from':=by
   apply List.ext_getElem?;intro j;rcases Nat.lt_or_ge j k with h|h
   ·exact hcw j h
   ·rw[List.getElem?_eq_none (by omega),List.getElem?_eq_none (by rw[Ck];exact h)]
  have hRI:=fun m (hm:m<=k)=>Cn (g:=g) (c:=c) hg.1 (fun x hx=>(hc7 x hx).1) (by omega) m (by omega);refine W.aI 18889465861109836705792 (by rfl) (fun ρ H2=>∃ (m last:Nat) (d:List Int),ρ 14=aa m/\m<=k/\im g c m=(d,last)/\ρ 12=aa (g - (d.take m).sum)/\ρ 13=aa last/\H'.next<=H2.next/\OwnI H H2 H.next d) (fun ρ H=>k - (iv (ρ 14)).toNat) ?_ ?_
  ·simp only[go_sem,e0];exact⟨0,0,c,rfl,by omega,rfl,by simp,rfl,ho⟩
  rintro ρ2 H2 ⟨m,last,d,h14,hm,hrf,h12,h13,hnn,hod⟩;obtain⟨hdl,hd0,hdd,hdg,hds,hlast⟩:RInv g c m d last:=by have:=hRI m hm;rw[hrf]at this;exact this
  rw[hcl']at hdl hlast;have hrs:=Cm g c m;rw[hrf]at hrs;unfold tT at hrs;dsimp only at hrs;refine W.env fun E2 hE2=>?_;have f0:E2 0=aa g:=by rw[hE2];simp only[go_sem,e0]
  have f1:E2 1=aa k:=by rw[hE2];simp only[go_sem,e1]
  have f9:E2 9=.own H.next 0 0 k 1:=by rw[hE2];simp only[go_sem,e9]
  have f10:E2 10=aa c.sum:=by rw[hE2];simp only[go_sem,e10]
  have f12:E2 12=aa (g - (d.take m).sum):=by rw[hE2];simp only[go_sem,h12]
  have f13:E2 13=aa last:=by rw[hE2];simp only[go_sem,h13]
  have f14:E2 14=aa m:=by rw[hE2];simp only[go_sem,h14]
  clear hE2;refine ab _ _ _ (by rfl) ?_;have lN2:=hod.live;by_cases hb2:(m:Int)<k
  ·obtain⟨x,hcx⟩:=get_of_lt (l:=c) (i:=m) (by omega);have hx7:=hc7 x (List.mem_of_getElem? hcx);have hdx:d[m]?=some x:=by
    have h1:(d.drop m)[0]?=d[m]?:=(by rw[List.getElem?_drop];rfl);have h2:(c.drop m)[0]?=c[m]?:=(by rw[List.getElem?_drop];rfl);rw[<- h1,hdd,h2,hcx]
   have hdne:=aJ hdx;have hm0:(m:Int) >= 0:=(by omega);have w1:=IntWalk.i64_in ((m:Int)+1) (by omega);have hdd':d.drop (m+1)=c.drop (m+1):=by
    have:=congrArg (List.drop 1) hdd
    rwa [List.drop_drop,List.drop_drop]at this
   have hct:(c.take (m+1)).sum=(c.take m).sum+x:=(by rw[aL hcx];simp);have hcs:(c.take (m+1)).sum+(c.drop (m+1)).sum=c.sum:=(by rw[<- List.sum_append,List.take_append_drop]);have hcd0:=mO (l:=c.drop (m+1)) fun y hy=>(hc7 y (List.mem_of_mem_drop hy)).1;have hc00:=mO (l:=c.take m) fun y hy=>(hc7 y (List.mem_of_mem_take hy)).1;have hd00:=mO (l:=d.take m) fun y hy=>hd0 y (List.mem_of_mem_take hy);by_cases hx:0<x
   ·have hsz:¬ c.sum=0:=(by omega);have gx:0<=g*x:=Int.mul_nonneg (by omega) hx7.1;have gx2:g*x<=60*7:=Int.mul_le_mul hg.2 hx7.2 hx7.1 (by omega);have w2:=IntWalk.i64_in (g*x) (by omega);have t1:(g*x).tdiv c.sum=g*x / c.sum:=Int.tdiv_eq_ediv_of_nonneg gx;have y0:0<=g*x / c.sum:=Int.ediv_nonneg gx hs0;have y1:g*x / c.sum<=g*x:=Int.ediv_le_self _ gx;have y2:c.sum*(g*x / c.sum)<=g*x:=Int.mul_ediv_self_le (by omega);have w3:=IntWalk.i64_in (g*x / c.sum) (by omega);have w4:=IntWalk.i64_in (g - (d.take m).sum - g*x / c.sum) (by omega);have hsg:(setAt (ints d) m [.lit (.int .i64 (g*x / c.sum))])[m]?=some (.lit (.int .i64 (g*x / c.sum))):=by
     rw[dF (by omega),fa,List.getElem?_set_self (by omega)];rfl
    have dt:((d.set m (g*x / c.sum)).take (m+1)).sum=(d.take m).sum+g*x / c.sum:=by
     rw[aL (List.getElem?_set_self (by omega)),List.take_set_of_le (Nat.le_refl _)];simp
    have hs2:c.sum*((d.take m).sum+g*x / c.sum)<=g*(c.take (m+1)).sum:=by
     rw[Int.mul_add,hct,Int.mul_add];omega
    have hle:(d.take m).sum+g*x / c.sum<=g:=by
     have h1:g*(c.take (m+1)).sum<=g*c.sum:=Int.mul_le_mul_of_nonneg_left (by omega) (by omega);have h2:c.sum*((d.take m).sum+g*x / c.sum)<=c.sum*g:=(by rw[Int.mul_comm c.sum g];omega);exact Int.le_of_mul_le_mul_left h2 (by omega)
    simp only[go_sem,hsg,f0,f1,f9,f10,f12,f13,f14,hb2,hx,hsz,w1,w2,t1,w3,w4,hm0,hdx,lN2];rw[bE hdx,if_pos hx]at hrs;exact⟨by omega,by rw[aA];exact hnn,⟨m+1,m,d.set m (g*x / c.sum),rfl,by omega,hrs,by rw[dt];congr 2;omega,rfl,by rw[aA];exact hnn,hod.store (by omega) _⟩,by rw[h14];simp only[aa,aK];omega⟩
   ·have x0:x=0:=(by omega);have w4:=IntWalk.i64_in (g - (d.take m).sum) (by omega);simp only[go_sem,f1,f9,f12,f13,f14,hb2,x0,w1,w4,hm0,hdx,Int.sub_zero,lN2];have dt:(d.take (m+1)).sum=(d.take m).sum:=(by rw[aL hdx,x0];simp);rw[x0,Int.add_zero]at hct;rw[bE hdx,if_neg hx]at hrs;exact⟨hnn,⟨m+1,last,d,rfl,by omega,hrs,by rw[dt],rfl,hnn,hod⟩,by rw[h14];simp only[aa,aK];omega⟩
  ·obtain rfl:m=k:=(by omega);obtain⟨y,hy⟩:=get_of_lt (l:=d) (i:=last) (by omega);have hyne:=aJ hy;have hl0:(last:Int) >= 0:=(by omega);have hlk:(last:Int)<m:=(by omega);have y0:=hd0 y (List.mem_of_getElem? hy);rw[List.take_of_length_le (by omega)]at hdg hds h12 f12;have hyle:=mU hd0 y (List.mem_of_getElem? hy);have w1:=IntWalk.i64_in (y+(g - d.sum)) (by omega);have hle:last+1<=d.length:=(by omega);simp only[go_sem,f1,f9,f12,f13,f14,hb2,hl0,hlk,hy,lN2,w1];refine⟨hle,?_⟩;have hrow:oY g m bs from'=d.set last (y+(g - d.sum)):=by
    unfold oY;rw[<- hcwF,hrf];dsimp only;rw[bE hy]
   rw[hrow]at hK;have ho2:=hod.store (k:=last) (by omega) (y+(g - d.sum));refine av.mk ho2.ov.next (hK _ _ ho2.ov (.inr ⟨_,0,ho2.lo,ho2.hi,?_,ho2.get⟩));rw[aO,List.length_set,hdl]
structure DrP where
 card:Int
 par:Int
 w:List Int
def DrP.cells (x:DrP):List AVal:=[.lit (.int .u8 x.card),.lit (.int .u8 x.par),.vec x.w.length (aX x.w)]
def eJ (l:List DrP):List AVal:=(l.map DrP.cells).flatten
def DrP.Ok (x:DrP):Prop:=U8 x.card/\U8 x.par/\(x.w.length:Int)<2 ^ 63/\∀ b∈x.w,U8 b
def Co (g:Int)(ps:List DrP)(ord:List Int):AVal:=.agg [.lit (.int .u8 g),.vec ps.length (eJ ps),.vec ord.length (aX ord)]
theorem Cp {l:List DrP}{i:Nat}{x:DrP}(h:l[i]?=some x):((eJ l).drop (i*3)).take 3=[.lit (.int .u8 x.card),.lit (.int .u8 x.par),.vec x.w.length (aX x.w)]:=oS (f:=DrP.cells) (z:=3) (fun _=>rfl) l i x h
theorem Cq (l:List DrP):(eJ l).length=l.length*3:=lG (f:=DrP.cells) (fun _=>rfl) l
def NodeP.cf (x:NodeP):List AVal:=if x.rows=[] then [aa x.card,.lit (.slice none 0 0),.lit (.slice none 0 0)] else [aa x.card,ae x.parents,aC x.rows]
def bD (l:List NodeP):List AVal:=(l.map NodeP.cf).flatten
theorem jv (x:NodeP):x.cf.length=3:=by unfold NodeP.cf;split<;>rfl
theorem Cr (l:List NodeP):(bD l).length=l.length*3:=lG (f:=NodeP.cf) jv l
theorem Cs {l:List NodeP}{i:Nat}{x:NodeP}(h:l[i]?=some x):(bD l)[i*3]?=some (aa x.card):=by
 have:=jX (f:=NodeP.cf) (z:=3) jv l i 0 x h (by omega);rw[Nat.add_zero]at this;rw[show (bD l)[i*3]?=_ from this];unfold NodeP.cf;split<;>rfl
theorem OV {l:List NodeP}(h:∀ x∈l,x.rows≠[]):bD l=az l:=by
 unfold bD az;congr 1;exact List.map_congr_left fun x hx=>if_neg (h x hx)
theorem xP {α:Type}{f:α->List AVal}{z:Nat}(hz:∀ a,(f a).length=z):∀ (l:List α) (i:Nat) (a:α),i<l.length->((l.set i a).map f).flatten=((l.map f).flatten).take (i*z)++f a++((l.map f).flatten).drop (i*z+z):=by
 intro l
 induction l with
 | nil=>intro i a h;simp at h
 | cons b l ih =>
  intro i a h;cases i with
  | zero=>simp [hz]
  | succ i =>
   have hb:=hz b;simp only[List.set_cons_succ,List.map_cons,List.flatten_cons];rw[ih i a (by simpa using h),show (i+1)*z=z+i*z by rw[Nat.add_mul];omega,List.take_append,List.drop_append,hb];rw[List.take_of_length_le (l:=f b) (i:=z+i*z) (by omega),List.drop_of_length_le (l:=f b) (i:=z+i*z+z) (by omega),show z+i*z - z=i*z by omega,show z+i*z+z - z=i*z+z by omega];simp
theorem Ct {S:Nat->Prop}{H:AHeap}{nx:Nat}{A B:List AVal}{i:Nat}{a b:AVal}(h:∀ j (h:j<A.length) (h':j<B.length),Fz S H nx A[j] B[j])(hab:Fz S H nx a b):∀ j (h:j<(A.set i a).length) (h':j<(B.set i b).length),Fz S H nx (A.set i a)[j] (B.set i b)[j]:=by
 intro j h1 h2;rw[List.getElem_set,List.getElem_set];split
 ·exact hab
 ·exact h j (by simpa using h1) (by simpa using h2)
theorem qG {S:Nat->Prop}{H:AHeap}{nx:Nat}(l:List (List Int)):Fz S H nx (aC l) (aC l):=.vec rfl fun i hi _=>by simp only[List.getElem_map];exact .dw _
theorem OW {S:Nat->Prop}{H:AHeap}{nx:Nat}(x:NodeP):∀ c∈x.cf,Fz S H nx c c:=by
 intro c hc;unfold NodeP.cf at hc;split at hc
 ·simp only[List.mem_cons,List.not_mem_nil,or_false]at hc;rcases hc with rfl|rfl|rfl<;>exact .lit _
 ·simp only[List.mem_cons,List.not_mem_nil,or_false]at hc;rcases hc with rfl|rfl|rfl
  ·exact .lit _
  ·exact .dw _
  ·exact qG _
theorem Cu {S:Nat->Prop}{H:AHeap}{nx:Nat}(l:List NodeP):∀ c∈bD l,Fz S H nx c c:=by
 intro c hc;unfold bD at hc;obtain⟨r,hr,hc⟩:=List.mem_flatten.1 hc;obtain⟨x,_,rfl⟩:=List.mem_map.1 hr;exact OW x c hc
theorem OX {S:Nat->Prop}{H:AHeap}{nx:Nat}:∀ (l:List NodeP),(∀ x∈l,x.rows=[]->x.parents=[])->∀ (i:Nat) (h:i<(bD l).length) (h':i<(az l).length),Fz S H nx (bD l)[i] (az l)[i]:=by
 intro l
 induction l with
 | nil=>intro _ i h;simp [bD]at h
 | cons x l ih =>
  intro hx i h h';have e1:bD (x :: l)=x.cf++bD l:=by simp [bD]
  have e2:az (x :: l)=x.cells++az l:=by simp [az]
  have l1:=jv x;have l2:x.cells.length=3:=rfl;have hc:∀ (i:Nat) (h:i<x.cf.length) (h':i<x.cells.length),Fz S H nx x.cf[i] x.cells[i]:=by
   intro i h h';by_cases hr:x.rows=[]
   ·have hp:=hx x (by simp) hr;have ez:x.cf=[aa x.card,.lit (.slice none 0 0),.lit (.slice none 0 0)]:=if_pos hr;have ec:x.cells=[aa x.card,ae [],aC []]:=(by unfold NodeP.cells;rw[hr,hp]);simp only[ez,ec]
    match i,h' with
    | 0,_=>exact .lit _
    | 1,_=>exact .nil
    | 2,_=>exact .nil
   ·have ez:x.cf=x.cells:=if_neg hr;simp only[ez]
    match i,h' with
    | 0,_=>exact .lit _
    | 1,_=>exact .dw _
    | 2,_=>exact qG _
  simp only[e1,e2];by_cases hi:i<3
  ·rw[List.getElem_append_left (by omega),List.getElem_append_left (by omega)];exact hc i (by omega) (by omega)
  ·rw[List.getElem_append_right (by omega),List.getElem_append_right (by omega)];simp only[l1,l2];exact ih (fun y hy=>hx y (by simp [hy])) (i - 3) _ _
theorem OY {l:List NodeP}{i:Nat}{x y:NodeP}(h:l[i]?=some x)(hy:y.card=x.card):az (l.set i y)=((az l).set (i*3+1) (ae y.parents)).set (i*3+2) (aC y.rows):=by
 have hl:=get_lt h;have h1:=xP (f:=NodeP.cells) (z:=3) (fun _=>rfl) l i y hl;have h2:=oS (f:=NodeP.cells) (z:=3) (fun _=>rfl) l i x h;unfold az;rw[h1];have h3:(l.map NodeP.cells).flatten=((l.map NodeP.cells).flatten).take (i*3)++(x.cells++((l.map NodeP.cells).flatten).drop (i*3+3)):=by
  rw[<- h2,<- List.drop_drop,List.take_append_drop,List.take_append_drop]
 have hlen:(((l.map NodeP.cells).flatten).take (i*3)).length=i*3:=by
  rw[List.length_take,lG (f:=NodeP.cells) (z:=3) (fun _=>rfl)];omega
 conv=>rhs;rw[h3]
 rw[List.set_append_right _ _ (by omega),List.set_append_right _ _ (by omega),hlen,show i*3+1 - i*3=1 by omega,show i*3+2 - i*3=2 by omega];unfold NodeP.cells;simp [hy]
theorem xQ {lo:Nat}{H:AHeap}{e:TypeId}{v:AVal}{cs:List AVal}(h:aF lo H e v cs){d:Option TypeDesc}{t:TypeId}(hd:d=some (.slice t)):mj d H v=some (.lit (.int .i64 cs.length)):=by
 subst hd;rcases h with ⟨rfl,rfl⟩|⟨id,g,_,_,rfl,h4⟩
 ·rfl
 ·rw[ve,zZ,ak h4];rfl
theorem OZ (l p:List Int)(hl:(l.length:Int)<2 ^ 40)(hp:(p.length:Int)<2 ^ 39)(hin:∀ q∈p,0<=q/\q<l.length)(H:AHeap)(K:ARes->AHeap->Prop)(hK:∀ v H',Over H H'->aF H.next H' 3 v (ints (aS l p))->K (.ret v) H'):af Try.prog G0 67 [ae l,ae p] H K:=by
 refine af.clo ⟨_,Try.func67,rfl,rfl⟩ fun hcl=>?_;refine af.bf (n:=24) (rs:=[.tmp 4]) Try.func67 rfl rfl rfl (by decide) (by kernel_rfl) (by simp) ?_;simp only[go_sem];refine W.aI 8388576 (by rfl) (fun ρ H'=>∃ k:Nat,ρ 6=aa k/\k<=p.length/\Over H H'/\aF H.next H' 3 (ρ 5) (ints (aS l (p.take k)))) (fun ρ H=>p.length - (iv (ρ 6)).toNat) ?_ ?_
 ·simp only[go_sem];exact⟨0,rfl,by omega,.refl _,.nil⟩
 rintro ρ H' ⟨k,h6,hk,ov,h5⟩;refine ab _ _ _ (by rfl) ?_;by_cases hb:(k:Int)<p.length
 ·obtain⟨q,hq⟩:=get_of_lt (l:=p) (i:=k) (by omega);obtain⟨j,rfl,a,ha⟩:=mJ (hin q (List.mem_of_getElem? hq)).1 (hin q (List.mem_of_getElem? hq)).2;have hne:=aJ hq;have hne2:=aJ ha;have hj:=get_lt ha;have hj':(j:Int)<l.length:=by omega
  obtain⟨v',H2,hA,ov2,hO,hn2,_⟩:=kF a ov h5 (by simp [aS];omega);have w1:=IntWalk.i64_in ((k:Int)+1) (by omega);simp only[go_sem,h6,hb,hq,hne,ha,hne2,hj',w1,hA];refine⟨by have:=ov2.next;omega,⟨k+1,by simp,by omega,ov2,?_⟩,by omega⟩;rw[CK hq,Int.toNat_natCast,bE ha];exact hO
 ·simp only[go_sem,h6,hb];rw[List.take_of_length_le (by omega)]at h5;exact av.mk ov.next (hK _ _ ov h5)
theorem O0 (g:Int)(ns:List NodeP)(v:Nat)(x:NodeP)(hx:ns[v]?=some x)(hl:(ns.length:Int)<2 ^ 39)(hp:(x.parents.length:Int)<2 ^ 39)(hin:gp x.parents ns.length)(H:AHeap)(K:ARes->AHeap->Prop)
  (hK:∀ v H',Over H H'->aF H.next H' 3 v (ints (aR ns x))->K (.ret v) H'):af Try.prog G0 37 [aY g ns,aa v] H K:=by
 refine af.clo ⟨_,Try.func37,rfl,rfl⟩ fun hcl=>?_;have hne:=eS hx;have e1:=lH hx;have hv:(v:Int)<ns.length:=by have:=get_lt hx;omega
 refine af.bf (n:=14) (rs:=[.tmp 4]) Try.func37 rfl rfl rfl (by decide) (by kernel_rfl) (by simp) ?_;simp only[go_sem,aY,cH];refine W.draw 8 [0,1,0,4,0,28,60,124] Try.mixed (by kernel_rfl) (by kernel_rfl) ?_;simp only[go_sem];refine⟨ae (ar ns),[],dI.pure fun H2=>pe g ns hl H2 _ ⟨rfl,rfl⟩,?_⟩;simp only[go_sem,hv,hne,e1];refine aw.clo (OZ (ar ns) x.parents (by rw[bO];omega) hp (by rw[bO];exact hin) _ _ fun w H3 ov ho=>⟨trivial,?_⟩);simp only[go_sem];have o1:Over H H3:=(Over.ext _ _).trans ov;exact av.mk o1.next (hK _ _ o1 (ho.keep (by simp [bY]) (Nat.le_refl _) fun _ _ _ _ _ _=>rfl))
theorem O1 {ns:List NodeP}{P:List Int}(hP:IsPerm ns.length P)(hall:∀ v:Nat,v<ns.length->(v:Int)∈P)(hr:∀ (j v:Nat) (x:NodeP),P[j]?=some (v:Int)->ns[v]?=some x->∀ q∈x.parents,0<=q/\∃ k,k<j/\P[k]?=some q):lJ (bt ns):=by
 intro v hv;have hl:(bt ns).length=ns.length:=by simp [bt]
 rw[hl]at hv;obtain⟨j,hj⟩:=List.mem_iff_getElem?.1 (hall v hv);have h0:∀ p∈P.take j,0<=p:=fun p hp=>(hP.rng p (List.mem_of_mem_take hp)).1;have sub:∀ (k u:Nat) (x:NodeP),k<=j->P[k]?=some (u:Int)->ns[u]?=some x->Sub ((bt ns).getD u 0) (dK (P.take j)):=fun k u x hk hu hx i hi=>by
  rw[bE (mS hx)]at hi;have hp0:∀ p∈x.parents,0<=p:=fun p hp=>(hr k u x hu hx p hp).1;rw[lI hp0]at hi;obtain⟨_,k',hk',hq⟩:=hr k u x hu hx _ (of_decide_eq_true hi);rw[lI h0];refine decide_eq_true ?_;exact List.mem_iff_getElem?.2 ⟨k',by rw[List.getElem?_take_of_lt (by omega)];exact hq⟩
 have hcl:lK (bt ns) (dK (P.take j)):=fun u hu ht=>by
  rw[hl]at hu;rw[lI h0]at ht;obtain⟨k,hk⟩:=List.mem_iff_getElem?.1 (of_decide_eq_true ht);have hkl:=get_lt hk;rw[List.length_take]at hkl;rw[List.getElem?_take_of_lt (by omega)]at hk;obtain⟨x,hx⟩:=get_of_lt hu;exact sub k u x (by omega) hk hx
 obtain⟨x,hx⟩:=get_of_lt hv;have h1:=tQ hcl (bt ns).length (sub j v x (Nat.le_refl _) hj hx);cases hb:(fG (bt ns) ((bt ns).getD v 0)).testBit v with
 | false=>rfl
 | true =>
  exfalso;have h2:=h1 v hb;rw[lI h0]at h2;obtain⟨k,hk⟩:=List.mem_iff_getElem?.1 (of_decide_eq_true h2);have hkl:=get_lt hk;rw[List.length_take]at hkl;rw[List.getElem?_take_of_lt (by omega)]at hk;have e:P[k]?=P[j]?:=by rw[hk,hj]
  have:=(List.getElem?_inj (get_lt hk) hP.nd).1 e;omega
theorem oO {lo:Nat}{H:AHeap}{e1 e0:TypeId}{v:AVal}{rows:List (List AVal)}(h:dL lo H e1 e0 v rows):v.one=true/\v.cells=[v]:=let ⟨_,a,_⟩:=h;⟨a.one,a.cells⟩
theorem jV {lo:Nat}{H:AHeap}{e1 e0:TypeId}{v:AVal}{rows:List (List AVal)}(h:dL lo H e1 e0 v rows){k:Nat}{b:Blk}(hk:k<lo):dL lo (H.upd k b) e1 e0 v rows :=
 let ⟨cs,a,b',c,e⟩:=h
 have u:∀ {u:AVal} {e:TypeId} {l:List AVal},aF lo H e u l->aF lo (H.upd k b) e u l:=fun h=>h.keep (Nat.le_refl _) (by rw[aA];exact Nat.le_refl _) fun i _ h1 _ _ _=>by rw[ag,if_neg (by omega)]
 ⟨cs,u a,b',fun j r q h1 h2=>u (c j r q h1 h2),e⟩
abbrev fC (a b:AVal):Blk:=.arr 0 42 [a,b]
def tA (p:Int)(k:Nat):Bool:=decide (IntKind.u8.wrap (((BitVec.ofInt IntKind.u8.bits (p.fdiv (2 ^ (min ((k:Int)).toNat IntKind.u8.bits))) &&& BitVec.ofInt IntKind.u8.bits 1).toNat:Nat):Int)=1)
def jU (ms:List Int)(i v:Nat):Bool:=match ms[i]? with
 | some m=>tA m v
 | none=>false
def gH (ms:List Int)(i k:Nat)(vals:List Int):List Int:=(List.range vals.length).map fun v=>if v<k/\jU ms i v=true then -1 else vals.getD v 0
theorem mB (ms:List Int)(i k:Nat)(vals:List Int):(gH ms i k vals).length=vals.length:=by simp [gH]
theorem LN (ms:List Int)(i:Nat)(vals:List Int):gH ms i 0 vals=vals:=by
 refine List.ext_getElem? fun j=>?_;unfold gH;rw[List.getElem?_map];rcases Nat.lt_or_ge j vals.length with h|h
 ·obtain⟨x,hx⟩:=get_of_lt h;rw[List.getElem?_range h,hx];show some (if j<0/\_ then _ else vals.getD j 0)=_;rw[if_neg (by omega),bE hx]
 ·rw[List.getElem?_eq_none (by simpa using h),List.getElem?_eq_none h];rfl
theorem xj {ms:List Int}{i k:Nat}{vals:List Int}{v:Nat}{x:Int}(h:vals[v]?=some x):(gH ms i k vals)[v]?=some (if v<k/\jU ms i v=true then -1 else x):=by
 unfold gH;rw[List.getElem?_map,List.getElem?_range (get_lt h)];show some (if v<k/\jU ms i v=true then -1 else vals.getD v 0)=_;rw[bE h]
theorem LO {ms:List Int}{i k:Nat}{vals:List Int}(hk:k<vals.length):gH ms i (k+1) vals=if jU ms i k=true then (gH ms i k vals).set k (-1) else gH ms i k vals:=by
 refine List.ext_getElem? fun j=>?_;rcases Nat.lt_or_ge j vals.length with h|h
 ·obtain⟨x,hx⟩:=get_of_lt h;rw[xj hx];by_cases hm:jU ms i k=true
  ·rw[if_pos hm,List.getElem?_set];by_cases hj:k=j
   ·subst hj;rw[if_pos rfl,if_pos (⟨by omega,hm⟩:k<k+1/\jU ms i k=true),if_pos (by rw[mB];exact h)]
   ·rw[if_neg hj,xj hx];by_cases hjk:j<k
    ·simp [hjk,show j<k+1 by omega]
    ·simp [hjk,show ¬ j<k+1 by omega]
  ·rw[if_neg hm,xj hx];by_cases hj:j=k
   ·subst hj;simp [hm]
   ·by_cases hjk:j<k
    ·simp [hjk,show j<k+1 by omega]
    ·simp [hjk,show ¬ j<k+1 by omega]
 ·rw[List.getElem?_eq_none (by rw[mB];exact h)];split
  ·rw[List.getElem?_eq_none (by rw[List.length_set,mB];exact h)]
  ·rw[List.getElem?_eq_none (by rw[mB];exact h)]
def fQ (l:List Int):List AVal:=l.map fun n=>.lit (.int .u16 n)
theorem LP {l:List Int}{k:Nat}{a:Int}(h:l[k]?=some a):(fQ l)[k]?=some (.lit (.int .u16 a)):=by unfold fQ;rw[List.getElem?_map,h];rfl
theorem LQ (l:List Int):(fQ l).length=l.length:=by simp [fQ]
def oI (ns:List NodeP)(ws ms:List Int)(i:Nat):List Int:=gH ms i ns.length (cD (ar ns) (ws.getD i 0 % au (ar ns)))
def hU (ns:List NodeP)(ws ms:List Int):List (List Int):=(List.range (min 12 ws.length)).map (oI ns ws ms)
def oJ (ns:List NodeP)(ws ms:List Int)(k:Nat):List (List Int):=(List.range k).map (oI ns ws ms)
set_option maxHeartbeats 4000000 in
theorem LR (g:Int)(ns:List NodeP)(h8:1<=ns.length/\ns.length<=8)(hc:∀ y∈ns,1<=y.card/\y.card<=4)(hsz:au (ar ns)<=1024)(ws ms:List Int)(hws:∀ x∈ws,0<=x/\x<65536)(hms:∀ x∈ms,0<=x/\x<256)
  (hwl:(ws.length:Int)<2 ^ 63) (hml:(ms.length:Int)<2 ^ 63) (H:AHeap) (K:ARes->AHeap->Prop) (hK:K (.ret (cB (ar ns) (hU ns ws ms))) H):
  af Try.prog G0 27 [aY g ns,.vec ws.length (fQ ws),.vec ms.length (aX ms)] H K:=by
 refine af.clo ⟨_,Try.func27,rfl,rfl⟩ fun hcl=>?_;have hp:=iR (l:=ar ns) fun c hcm=>by obtain⟨y,hy,rfl⟩:=List.mem_map.1 hcm;exact(hc y hy).1
 have wll:=LQ ws;have mll:=Mo ms;refine af.bf (n:=64) (rs:=[.cell 6 42]) Try.func27 rfl rfl rfl (by decide) (by kernel_rfl) (by simp) ?_;simp only[go_sem,aY,cH];refine aw.clo (pe g ns (by omega) _ _ ⟨trivial,?_⟩);simp only[go_sem];obtain⟨cs,hcs⟩:∃ cs,cs=ar ns:=⟨_,rfl⟩
 rw[<- hcs];obtain⟨H1,hH1⟩:∃ H1,H1=ext H [.arr 0 35 [aa g,.vec ns.length (az ns)],.arr 0 42 [.lit (.slice none 0 0),.lit (.slice none 0 0)],.arr 0 42 [.vec cs.length (ints cs),.lit (.slice none 0 0)]]:=⟨_,rfl⟩
 have n1:H1.next=H.next+3:=by rw[hH1];rfl
 have o1:Over H H1:=by rw[hH1];exact .ext _ _
 have g0:H1.get H.next=some (.arr 0 35 [aa g,.vec ns.length (az ns)]):=by rw[hH1];exact cS ..
 have g1:H1.get (H.next+1)=some (.arr 0 42 [.lit (.slice none 0 0),.lit (.slice none 0 0)]):=by rw[hH1];exact bG H _ 1 (by simp)
 have g2:H1.get (H.next+2)=some (fC (ae cs) (.lit (.slice none 0 0))):=by rw[hH1];exact bG H _ 2 (by simp)
 refine W.env fun E hE=>?_;have e1:E 1=.vec ws.length (fQ ws):=by rw[hE];simp only[go_sem]
 have e2:E 2=.vec ms.length (aX ms):=by rw[hE];simp only[go_sem]
 have e3:E 3=.ptr H.next 0 0:=by rw[hE];simp only[go_sem]
 have e6:E 6=.ptr (H.next+1) 0 0:=by rw[hE];simp only[go_sem]
 have e7:E 7=.ptr (H.next+2) 0 0:=by rw[hE];simp only[go_sem]
 have e8:E 8=aa 0:=by rw[hE];simp only[go_sem]
 clear hE;show W _ _ _ _ _ _ ⟨E,ext H [.arr 0 35 [aa g,.vec ns.length (az ns)],.arr 0 42 [.lit (.slice none 0 0),.lit (.slice none 0 0)],.arr 0 42 [.vec cs.length (ints cs),.lit (.slice none 0 0)]]⟩;rw[<- hH1];refine W.aI 9223372036854761216 (by rfl) (fun ρ Hi=>∃ (i:Nat) (xv:AVal),ρ 8=aa i/\i<=min 12 ws.length/\H1.next<=Hi.next/\(∀ id,id<H.next+2->Hi.get id=H1.get id)/\Hi.get (H.next+2)=some (fC (ae cs) xv)/\dL (H.next+3) Hi 39 3 xv ((oJ ns ws ms i).map ints)) (fun ρ Hi=>12 - (iv (ρ 8)).toNat) ?_ ?_
 ·exact⟨0,_,e8,by omega,Nat.le_refl _,fun _ _=>rfl,g2,.nil⟩
 rintro ρ Hi ⟨i,xv,h8i,hi,hni,holdi,hbi,hD⟩;refine W.env fun E1 hE1=>?_;have a1:E1 1=.vec ws.length (fQ ws):=by rw[hE1];simp only[go_sem,e1]
 have a2:E1 2=.vec ms.length (aX ms):=by rw[hE1];simp only[go_sem,e2]
 have a3:E1 3=.ptr H.next 0 0:=by rw[hE1];simp only[go_sem,e3]
 have a6:E1 6=.ptr (H.next+1) 0 0:=by rw[hE1];simp only[go_sem,e6]
 have a7:E1 7=.ptr (H.next+2) 0 0:=by rw[hE1];simp only[go_sem,e7]
 have a8:E1 8=aa i:=by rw[hE1];simp only[go_sem,h8i]
 clear hE1;have l0:=ak ((holdi _ (by omega)).trans g0);have l1:=ak ((holdi _ (by omega)).trans g1);have l2:=ak hbi;obtain⟨xone,xcells⟩:=oO hD;have fin:i=min 12 ws.length->av Try.prog G0 H K (.agg [ae cs,xv]) (Hi.upd (H.next+1) (fC (ae cs) xv)):=fun hm=>by
  have hcl2:hU ns ws ms=oJ ns ws ms i:=by rw[hm];rfl
  rw[hcl2,<- hcs]at hK;exact av.bI aP hcl ⟨by rw[aA];omega,fun id h=>by rw[ag,if_neg (by omega),holdi id (by omega)];exact o1.old id h⟩ (tI (.dw _) (qI (jV hD (by omega)).qH fun i h=>by omega)) hK
 by_cases c1:(i:Int)<ws.length;rotate_left
 ·refine ab _ _ _ (by rfl) ?_;simp only[go_sem,a1,a6,a7,a8,l1,l2,c1,xone];exact fin (by omega)
 by_cases c2:(i:Int)<12;rotate_left
 ·refine ab _ _ _ (by rfl) ?_;simp only[go_sem,a1,a6,a7,a8,l1,l2,c1,c2,xone];exact fin (by omega)
 obtain⟨wd,hwd⟩:=get_of_lt (l:=ws) (i:=i) (by omega);have hwr:=hws wd (List.mem_of_getElem? hwd);have hwg:=LP hwd;have hwn:=aJ hwg;have wu:=IntWalk.i64_in wd (by omega);have wm:wd.tmod (au cs)=wd % au cs:=by rw[hcs];exact Int.tmod_eq_emod_of_nonneg hwr.1
 have wmr:=Int.emod_lt_of_pos wd (show 0<au cs by rw[hcs];omega);have wmn:=Int.emod_nonneg wd (show au cs≠0 by rw[hcs];omega);have wmw:=IntWalk.i64_in (wd % au cs) (by rw[hcs]at wmr wmn ⊢;omega);have hpz:¬ au cs=0:=by rw[hcs];omega
 refine ab _ _ _ (by rfl) ?_;simp only[go_sem,a1,a8,c1,c2];refine W.draw 9 [0,0,0,6,14,30,0,64,254] Try.mixed (by kernel_rfl) (by kernel_rfl) ?_;simp only[go_sem,a1,a3,a8,l0,c1,hwg,hwn,wu];refine⟨aa (au cs),[],dI.pure (fun H2=>xX g ns h8.2 hc H2 _ ⟨by rw[hcs],rfl⟩),?_⟩;simp only[go_sem,hpz,wm];refine aw.clo (LM g ns h8.2 hc (wd % au cs) (by rw[hcs]at wmr wmn ⊢;omega) _ _ fun cv Hk ov hO=>⟨trivial,?_⟩);rw[<- hcs]at hO;obtain⟨vals,hvals⟩:∃ vals,vals=cD cs (wd % au cs):=⟨_,rfl⟩
 have hvl:vals.length=ns.length:=by rw[hvals,kB,hcs,bO]
 rw[<- hvals]at hO;rcases hO with ⟨_,e⟩|⟨ic,gc,ic1,ic2,rfl,hgc⟩
 ·have:=congrArg List.length e;rw[aO,hvl,List.length_nil]at this;omega
 rw[aO,hvl];have ovn:=ov.next;simp only[go_sem];refine W.env fun E2 hE2=>?_;have b1:E2 1=.vec ws.length (fQ ws):=by rw[hE2];simp only[go_sem,a1]
 have b2:E2 2=.vec ms.length (aX ms):=by rw[hE2];simp only[go_sem,a2]
 have b3:E2 3=.ptr H.next 0 0:=by rw[hE2];simp only[go_sem,a3]
 have b6:E2 6=.ptr (H.next+1) 0 0:=by rw[hE2];simp only[go_sem,a6]
 have b7:E2 7=.ptr (H.next+2) 0 0:=by rw[hE2];simp only[go_sem,a7]
 have b8:E2 8=aa i:=by rw[hE2];simp only[go_sem,a8]
 have b9:E2 9=.own ic gc 0 ns.length 1:=by rw[hE2];simp only[go_sem]
 have b10:E2 10=aa 0:=by rw[hE2];simp only[go_sem]
 clear hE2;refine W.aI 144115170895987712 (by rfl) (fun ρ Hj=>∃ v:Nat,ρ 10=aa v/\v<=ns.length/\Hj.next=Hk.next/\(∀ id,id≠ic->Hj.get id=Hk.get id)/\Hj.get ic=some (.arr gc 3 (ints (gH ms i v vals)))) (fun ρ Hj=>ns.length - (iv (ρ 10)).toNat) ?_ ?_
 ·exact⟨0,b10,by omega,rfl,fun _ _=>rfl,by rw[LN];exact hgc⟩
 rintro ρ3 Hj ⟨v,h10,hv,nj,oj,gj⟩;refine W.env fun E3 hE3=>?_;have d1:E3 1=.vec ws.length (fQ ws):=by rw[hE3];simp only[go_sem,b1]
 have d2:E3 2=.vec ms.length (aX ms):=by rw[hE3];simp only[go_sem,b2]
 have d3:E3 3=.ptr H.next 0 0:=by rw[hE3];simp only[go_sem,b3]
 have d6:E3 6=.ptr (H.next+1) 0 0:=by rw[hE3];simp only[go_sem,b6]
 have d7:E3 7=.ptr (H.next+2) 0 0:=by rw[hE3];simp only[go_sem,b7]
 have d8:E3 8=aa i:=by rw[hE3];simp only[go_sem,b8]
 have d9:E3 9=.own ic gc 0 ns.length 1:=by rw[hE3];simp only[go_sem,b9]
 have d10:E3 10=aa v:=by rw[hE3];simp only[go_sem,h10]
 clear hE3;have ljc:=ak gj;have mrl:=mB ms i v vals;by_cases c3:(v:Int)<ns.length;rotate_left
 ·have ev:v=ns.length:=by omega
  subst ev;have w1:=IntWalk.i64_in ((i:Int)+1) (by omega);have hcase:oI ns ws ms i=gH ms i ns.length vals:=by unfold oI;rw[bE hwd,<- hcs,<- hvals]
  have ovj:Over Hi Hj:=⟨by omega,fun id h=>(oj id (by omega)).trans (ov.old id h)⟩
  have hOj:aF Hi.next Hj 3 (.own ic gc 0 ns.length 1) (ints (gH ms i ns.length vals)):=.inr ⟨ic,gc,ic1,by omega,by rw[aO,mrl,hvl],gj⟩;obtain⟨xv2,H5,hA,hD5,hn5,hp5⟩:=dL.app (P:=Try.prog) (n:=Hj.next+1) (t:=40) Try.underlying40 Try.mE Try.mG Try.mF (by decide) (by simp [oJ];omega) hD ovj (by omega) hOj rfl;have k2:Hj.live (H.next+2) 0=some (42,[ae cs,xv]):=(ovj.live (g:=0) (by omega:H.next+2<Hi.next)).trans l2;have k2e:∀ L,(ext Hj L).live (H.next+2) 0=some (42,[ae cs,xv]):=fun L=>(eQ (by omega)).trans k2;have k5:H5.live (H.next+2) 0=some (42,[ae cs,xv]):=ak ((hp5 _ (by omega) (by omega)).trans ((ovj.old _ (by omega)).trans hbi));obtain⟨xone2,xcells2⟩:=oO hD5;refine ab _ _ _ (by rfl) ?_;simp only[go_sem,d7,d8,d9,d10,ljc,c3,k2,hA,k5,xone2,xcells2,w1];refine⟨by rw[aA];omega,⟨i+1,xv2,rfl,by omega,by rw[aA];omega,fun id h=>by rw[ag,if_neg (by omega),hp5 id (by omega) (by omega),ovj.old id (by omega)];exact holdi id h,by rw[ag,if_pos rfl],?_⟩,by rw[h8i];simp only[aa,aK];omega⟩;have eK:(oJ ns ws ms (i+1)).map ints=(oJ ns ws ms i).map ints++[ints (gH ms i ns.length vals)]:=by
   unfold oJ;rw[List.range_succ,List.map_append,List.map_append,<- hcase];rfl
  rw[eK];exact jV hD5 (by omega)
 have w2:=IntWalk.i64_in ((v:Int)+1) (by omega);have msc:=LO (ms:=ms) (i:=i) (k:=v) (vals:=vals) (by omega);by_cases c4:(i:Int)<ms.length;rotate_left
 ·have hq:jU ms i v=false:=by unfold jU;rw[List.getElem?_eq_none (by omega)]
  rw[hq,if_neg (by decide)]at msc;refine ab _ _ _ (by rfl) ?_;simp only[go_sem,d2,d8,d9,d10,ljc,c3,c4,w2];exact⟨by omega,⟨v+1,rfl,by omega,nj,oj,by rw[msc];exact gj⟩,by rw[h10];simp only[aa,aK];omega⟩
 obtain⟨m,hm⟩:=get_of_lt (l:=ms) (i:=i) (by omega);have hmg:=qA hm;have hmn:=aJ hmg;have hq:jU ms i v=tA m v:=by unfold jU;rw[hm]
 obtain⟨r1,hr1⟩:∃ r1,m.fdiv (2 ^ (min ((v:Int)).toNat IntKind.u8.bits))=r1:=⟨_,rfl⟩
 obtain⟨r2,hr2⟩:∃ r2,IntKind.u8.wrap (((BitVec.ofInt IntKind.u8.bits r1 &&& BitVec.ofInt IntKind.u8.bits 1).toNat:Nat):Int)=r2:=⟨_,rfl⟩
 have s1:∀ t o1 o2,aW Try.prog .shr t o1 o2 (.lit (.int .u8 m)) (.lit (.int .i64 (v:Int)))=some (.lit (.int .u8 r1)):=fun t o1 o2=>by rw[qS (by omega),hr1]
 have s2:∀ t o1 o2,aW Try.prog .and t o1 o2 (.lit (.int .u8 r1)) (.lit (.int .u8 1))=some (.lit (.int .u8 r2)):=fun t o1 o2=>by rw[ue,hr2]
 have hb8:tA m v=decide (r2=1):=by unfold tA;rw[hr1,hr2]
 rw[hq,hb8]at msc;by_cases hr:r2=1
 ·rw[decide_eq_true hr,if_pos rfl]at msc;refine ab _ _ _ (by rfl) ?_;simp only[go_sem,d2,d8,d9,d10,ljc,mrl,hvl,c3,c4,hmg,hmn,s1,s2,hr,w2];refine⟨by omega,by rw[aA];omega,⟨v+1,rfl,by omega,by rw[aA];exact nj,fun id h=>by rw[ag,if_neg h];exact oj id h,?_⟩,by rw[h10];simp only[aa,aK];omega⟩;rw[ag,if_pos rfl,dF (by omega),msc]
 ·rw[decide_eq_false hr,if_neg (by decide)]at msc;refine ab _ _ _ (by rfl) ?_;simp only[go_sem,d2,d8,d9,d10,ljc,c3,c4,hmg,hmn,s1,s2,hr,w2];exact⟨by omega,⟨v+1,rfl,by omega,nj,oj,by rw[msc];exact gj⟩,by rw[h10];simp only[aa,aK];omega⟩
def eF (w a n:Int)(cs:List Int)(xs:List (List Int)):List Int × List (List Int) :=
 if w % 6=0 then (cs.set (a % (cs.length:Int)).toNat n,xs)
 else if w % 6=1/\0<xs.length then
  (cs,xs.set (a / 4 % (xs.length:Int)).toNat ((xs.getD (a / 4 % (xs.length:Int)).toNat []).set (a % ((xs.getD (a / 4 % (xs.length:Int)).toNat []).length:Int)).toNat n))
 else if w % 6=2/\0<xs.length then (cs,xs.set (a % (xs.length:Int)).toNat ((xs.getD (a % (xs.length:Int)).toNat []).drop 1))
 else if w % 6=3 then (cs,xs++List.replicate (41 - xs.length) (List.replicate cs.length 0))
 else if w % 6=4 then ([4,4,4,4,4,4],[])
 else ([],xs)
def oQ (w a n:Int):List AVal:=[.lit (.int .u8 w),.lit (.int .u8 a),.lit (.int .i64 n)]
abbrev xz (w a n:Int):Blk:=.arr 0 30 [.lit (.int .u8 w),.lit (.int .u8 a),.lit (.int .i64 n)]
theorem MC {S:Nat->Prop}{lo nx idt gt idr gr k:Nat}{Hi Hz:AHeap}{ocs:List AVal}{xs:List (List Int)}{r:List Int}(hS:∀ i,lo<=i->S i)(oL:ocs.length=(xs.map ints).length)(oC:∀ (j:Nat) (q:List AVal) (c:AVal),(xs.map ints)[j]?=some q->ocs[j]?=some c->aF lo Hi 3 c q)
  (hit:lo<=idt) (hgt:Hz.get idt=some (.arr gt 39 (ocs.set k (.own idr gr 1 (r.length - 1) 1)))) (hn:idt<Hz.next) (hir:lo<=idr) (hgr:Hz.get idr=some (.arr gr 3 (ints r))) (hkeep:∀ id g c,lo<=id->Hi.get id=some (.arr g 3 c)->Hz.get id=Hi.get id) (hnx:Hi.next<=Hz.next):
  Fz S Hz nx (.own idt gt 0 xs.length 1) (aC (xs.set k (r.drop 1))):=by
 rw[List.length_map]at oL;have hG:aF lo Hz 39 (.own idt gt 0 xs.length 1) (ocs.set k (.own idr gr 1 (r.length - 1) 1)):=.inr ⟨idt,gt,hit,hn,by rw[List.length_set,oL],hgt⟩;have:=hG.fz (S:=S) (nx:=nx) (cs':=(xs.set k (r.drop 1)).map ae) hS (by simp [oL]) fun i h h'=>by
  simp only[List.getElem_map,List.getElem_set];split
  ·have hl:(ae (r.drop 1))=.vec (r.length - 1) (ints (r.drop 1)):=(by unfold ae;rw[List.length_drop]);rw[hl];refine .frz (hS _ hir) hgr (by rw[aO,List.length_drop];omega) fun j a b c=>?_;simp only[ints,List.getElem_map,List.getElem_drop];exact .lit _
  ·rw[List.length_set]at h;refine aF.iH (lo:=lo) (e:=3) ?_ hS;have h1:ocs[i]?=some ocs[i]:=List.getElem?_eq_getElem h;have h2:(xs.map ints)[i]?=some (ints (xs[i]'(by omega))):=(by rw[List.getElem?_map,List.getElem?_eq_getElem (by omega)];rfl);exact(oC i _ _ h2 h1).keep (Nat.le_refl _) hnx fun id g a _ b _=>hkeep id g _ a b
 rw[List.length_map,List.length_set]at this;unfold aC;rw[List.length_set];exact this
set_option maxHeartbeats 4000000 in
theorem MD (w a n:Int)(hw:U8 w)(ha:U8 a)(cs:List Int)(xs:List (List Int))(hc:1<=cs.length/\cs.length<=64)(hx:xs.length<=41)(hr:mD cs.length xs)(H:AHeap)(K:ARes->AHeap->Prop)(hK:K (.ret (cB (eF w a n cs xs).1 (eF w a n cs xs).2)) H):
  af Try.prog G0 39 [.agg (oQ w a n),cB cs xs] H K:=by
 refine af.clo ⟨_,Try.func39,rfl,rfl⟩ fun hcl=>?_;unfold U8 at hw ha;refine af.dv (n:=138) (rs:=[.cell 4 42]) Try.func39 rfl rfl rfl (by decide) (by simp) ?_;refine W.seq (ab _ _ _ (by rfl) ?_);simp only[go_sem,oQ,cB,aC];obtain⟨H1,hH1⟩:∃ H1,H1=ext H [xz w a n,fC (ae cs) (.vec xs.length (xs.map ae)),fC (.lit (.slice none 0 0)) (.lit (.slice none 0 0))]:=⟨_,rfl⟩
 have b0:H1.get H.next=some (xz w a n):=by rw[hH1];exact cS ..
 have b1:H1.get (H.next+1)=some (fC (ae cs) (.vec xs.length (xs.map ae))):=by rw[hH1];exact bG H _ 1 (by simp)
 have b2:H1.get (H.next+2)=some (fC (.lit (.slice none 0 0)) (.lit (.slice none 0 0))):=by rw[hH1];exact bG H _ 2 (by simp)
 have n1:H1.next=H.next+3:=by rw[hH1];rfl
 have o1:Over H H1:=by rw[hH1];exact .ext _ _
 refine W.env fun E hE=>?_;have e2:E 2=.ptr H.next 0 0:=by rw[hE];simp only[go_sem]
 have e3:E 3=.ptr (H.next+1) 0 0:=by rw[hE];simp only[go_sem]
 have e4:E 4=.ptr (H.next+2) 0 0:=by rw[hE];simp only[go_sem]
 clear hE;show W _ _ _ _ _ _ ⟨E,ext H [xz w a n,fC (ae cs) (.vec xs.length (xs.map ae)),fC (.lit (.slice none 0 0)) (.lit (.slice none 0 0))]⟩;rw[<- hH1];clear hH1;have l1:=ak b1;have l1e:∀ L,(ext H1 L).live (H.next+1) 0=_:=fun L=>(eQ (by omega)).trans l1;obtain⟨cv,Hq,hA1,hcO,hqn,hqp⟩:=rZ (P:=Try.prog) (H:=ext H1 [.arr 0 3 []]) (t:=39) (n:=H1.next+1) (lo:=H1.next) (src:=ints cs) Try.underlying39 Try.dT Try.eG (nT _) (by rw[Try.fh,aO,List.length_nil];omega) (aF.new (H:=H1) (cs:=[])) (by rw[bY];simp) rfl;rw[List.nil_append]at hcO;rw[aO]at hA1;simp only[List.length_nil]at hA1;have cone:=hcO.one;have ccells:=hcO.cells;have rz:List.replicate 0 (AVal.lit (.int .i64 0))=[]:=rfl;refine W.seq (ab _ _ _ (by rfl) ?_);simp only[go_sem,e3,l1e,hA1,cone,ccells,rz];have hxn:(ext H1 [.arr 0 3 []]).next=H1.next+1:=rfl;have oq:Over H1 Hq:=⟨by omega,fun id h=>by rw[hqp id (by omega) (fun g m e=>by have:=(AVal.own.inj e).1;omega),cb _ _ _ h]⟩
 obtain⟨Hs,hHs⟩:∃ Hs,Hs=ext Hq [fC cv (.lit (.slice none 0 0))]:=⟨_,rfl⟩
 have ns:Hs.next=Hq.next+1:=by rw[hHs];rfl
 have os:Over Hq Hs:=by rw[hHs];exact .ext _ _
 have b5:Hs.get Hq.next=some (fC cv (.lit (.slice none 0 0))):=by rw[hHs];exact cP
 have oall:=(o1.trans oq).trans os;have c0:=(os.old _ (by omega)).trans ((oq.old _ (by omega)).trans b0);have c1:=(os.old _ (by omega)).trans ((oq.old _ (by omega)).trans b1);have c2:=(os.old _ (by omega)).trans ((oq.old _ (by omega)).trans b2);have csO:=hcO.over os;rw[<- hHs];refine W.env fun E hE=>?_;have f2:E 2=.ptr H.next 0 0:=by rw[hE];simp only[go_sem,e2]
 have f3:E 3=.ptr (H.next+1) 0 0:=by rw[hE];simp only[go_sem,e3]
 have f4:E 4=.ptr (H.next+2) 0 0:=by rw[hE];simp only[go_sem,e4]
 have f5:E 5=.ptr Hq.next 0 0:=by rw[hE];simp only[go_sem]
 clear hE hHs;obtain⟨idc,gc,ic1,ic2,hcv,hgc⟩:∃ id g,H1.next<=id/\id<Hq.next/\cv=.own id g 0 cs.length 1/\Hs.get id=some (.arr g 3 (ints cs)):=by
  rcases hcO with ⟨_,e⟩|⟨id,g,h1,h2,h3,h4⟩
  ·have:=congrArg List.length e;rw[aO,List.length_nil]at this;omega
  ·rw[aO]at h3;exact⟨id,g,h1,h2,h3,(os.old _ h2).trans h4⟩
 clear csO hcO cone ccells hqp hA1;refine W.da (fun s'=>s'.ρ 2=.ptr H.next 0 0/\s'.ρ 3=.ptr (H.next+1) 0 0/\s'.ρ 4=.ptr (H.next+2) 0 0/\s'.ρ 5=.ptr Hq.next 0 0/\Hs.next<=s'.H.next/\(∀ id,id<Hq.next->s'.H.get id=Hs.get id)/\∃ xv,s'.H.get Hq.next=some (fC cv xv)/\dL Hs.next s'.H 39 3 xv (xs.map ints)) ?_ ?_
 ·refine W.seq (ab _ _ _ (by rfl) ?_);simp only[go_sem];refine W.block ?_;refine W.aI 8589918272 (by rfl) (fun ρ Hi=>∃ (i:Nat) (xv:AVal),ρ 6=aa i/\i<=xs.length/\Hs.next<=Hi.next/\(∀ id,id<Hq.next->Hi.get id=Hs.get id)/\Hi.get Hq.next=some (fC cv xv)/\dL Hs.next Hi 39 3 xv ((xs.take i).map ints)) (fun ρ H=>xs.length - (iv (ρ 6)).toNat) ?_ ?_
  ·simp only[go_sem];exact⟨0,_,rfl,by omega,b5,.nil⟩
  rintro ρ Hi ⟨i,xv,h6,hi,hni,holdi,hbi,hD⟩;refine ab _ _ _ (by rfl) ?_;have l1:=ak ((holdi _ (by omega)).trans c1);have l5:=ak hbi;by_cases g1:(i:Int)<xs.length;rotate_left
  ·simp only[go_sem,f2,f3,f4,f5,h6,l1,g1];rw[List.take_of_length_le (by omega)]at hD;exact⟨hni,holdi,xv,hbi,hD⟩
  obtain⟨r,hrr⟩:=get_of_lt (l:=xs) (i:=i) (by omega);have rl:=hr r (List.mem_of_getElem? hrr);have hr':=lu hrr;have hrn:=aJ hr';have l1e:∀ L,(ext Hi L).live (H.next+1) 0=_:=fun L=>(eQ (by omega)).trans l1;have l5e:∀ L,(ext Hi L).live Hq.next 0=_:=fun L=>(eQ (by omega)).trans l5;obtain⟨rv,Hx,hA1,rO,hxn',hxp⟩:=rZ (P:=Try.prog) (H:=ext Hi [.arr 0 3 []]) (t:=39) (n:=Hi.next+1) (lo:=Hi.next) (src:=ints r) Try.underlying39 Try.dT Try.eG (nT _) (by rw[Try.fh,aO,List.length_nil];omega) (aF.new (H:=Hi) (cs:=[])) (by rw[bY];simp) rfl;rw[List.nil_append]at rO;rw[aO]at hA1;simp only[List.length_nil]at hA1;have hen:(ext Hi [.arr 0 3 []]).next=Hi.next+1:=rfl;have ox:Over Hi Hx:=⟨by omega,fun id h=>by rw[hxp id (by omega) (fun g m e=>by have:=(AVal.own.inj e).1;omega),cb _ _ _ h]⟩
  have rone:=rO.one;have rcells:=rO.cells;obtain⟨xv2,H5,hA2,hD5,hn5,hp⟩:=dL.app (P:=Try.prog) (n:=Hx.next+1) (t:=40) Try.underlying40 Try.mE Try.mG Try.mF (by decide) (by rw[List.length_map,List.length_take];omega) hD ox hni rO rfl;have k5:H5.live Hq.next 0=_:=ak ((hp _ (by omega) (by omega)).trans ((ox.old _ (by omega)).trans hbi));obtain⟨xone,xcells⟩:=oO hD5;have w1:=IntWalk.i64_in ((i:Int)+1) (by omega);simp only[go_sem,f3,h6,l1,g1];refine W.draw 10 [0,1,0,0,8,0,56,120,252,508] Try.mixed (by kernel_rfl) (by kernel_rfl) ?_;simp only[go_sem,f3,f5,h6,l5,l1e,g1,hr',hrn,hA1,rcells,hA2,k5,xone,xcells,rz,w1];refine⟨⟨fun _ h=>by omega,fun _ h=>by omega⟩,fun _ h=>by omega,fun _ h=>by omega,⟨fun _ h=>by omega,fun _ h=>by omega⟩,⟨fun _ h=>by omega,fun _ h=>by omega⟩,by rw[aA];omega,⟨i+1,xv2,rfl,by omega,by rw[aA];omega,fun id h=>by rw[ag,if_neg (by omega),hp id (by omega) (by omega),ox.old id (by omega)];exact holdi id h,by rw[ag,if_pos rfl],?_⟩,by omega⟩;rw[aL hrr,List.map_append];exact jV hD5 (by omega)
 rintro⟨ρ1,Hi⟩ ⟨p2,p3,p4,p5,hni,hold,xv,hb5,hD⟩;simp only at p2 p3 p4 p5 hni hold hb5 hD;have k0:=ak ((hold _ (by omega)).trans c0);have k2:=ak ((hold _ (by omega)).trans c2);have k5:=ak hb5;have gci:=(hold _ ic2).trans hgc;have kc:=ak gci;obtain⟨xone,xcells⟩:=oO hD;have oi:Over H Hi:=⟨by have:=oall.next;omega,fun id h=>(hold id (by omega)).trans (oall.old id h)⟩
 have wm:w.tmod 6=w % 6:=Int.tmod_eq_emod_of_nonneg hw.1;have wu:IntKind.u8.wrap (w % 6)=w % 6:=IntWalk.u8_in _ (by omega);have ai:=IntWalk.i64_in a (by omega);have fin:∀ (Hz:AHeap) (cv' xv':AVal) (cs':List Int) (xs':List (List Int)),H.next<=Hz.next->(∀ id,id<H.next->Hz.get id=H.get id)->Fz (fun id=>H.next<=id) Hz H.next cv' (ae cs')->Fz (fun id=>H.next<=id) Hz H.next xv' (aC xs')->(cs',xs')=eF w a n cs xs->av Try.prog G0 H K (.agg [cv',xv']) Hz:=fun Hz cv' xv' cs' xs' h1 h2 h3 h4 h5=>by
  rw[<- h5]at hK;exact av.bI aP hcl ⟨h1,h2⟩ (tI h3 h4) hK
 rw[hcv]at k5 hb5;have own:∀ (Hz:AHeap) (cs':List Int),idc<Hz.next->cs'.length=cs.length->Hz.get idc=some (.arr gc 3 (ints cs'))->Fz (fun id=>H.next<=id) Hz H.next (.own idc gc 0 cs.length 1) (ae cs'):=fun Hz cs' h1 h2 h3=>by
  rw[<- h2];exact aF.iH (lo:=H.next) (.inr ⟨idc,gc,by omega,h1,by rw[aO],h3⟩) fun i h=>h
 have kl:(0:Int)<cs.length:=by omega
 have cz:¬ (cs.length:Int)=0:=by omega
 have hlen:mj (some (TypeDesc.slice 39)) Hi xv=some (.lit (.int .i64 xs.length)):=by
  obtain⟨ocs,oG,oL,_,_⟩:=hD;have:=xQ oG (d:=some (.slice 39)) rfl;rw[oL,List.length_map]at this;exact this
 have u2:∀ b,(Hi.upd Hq.next b).live (H.next+2) 0=_:=fun b=>(jC (by omega)).trans k2;have onext:=oi.next;have nilC:eF w a n cs xs=([],xs)->av Try.prog G0 H K (.agg [.lit (.slice none 0 0),xv]) ((Hi.upd Hq.next (fC (.lit (.slice none 0 0)) xv)).upd (H.next+2) (fC (.lit (.slice none 0 0)) xv)):=fun hb =>
  fin _ _ _ [] xs (by rw[aA,aA];omega) (fun id h=>by rw[ag,if_neg (by omega),ag,if_neg (by omega)];exact oi.old id h) .nil (qI (jV (jV hD (by omega)) (by omega)).qH fun i hi=>by omega) hb.symm
 refine ab _ _ _ (by rfl) ?_;have hw6:w % 6=0\/w % 6=1\/w % 6=2\/w % 6=3\/w % 6=4\/w % 6=5:=by omega
 rcases hw6 with d|d|d|d|d|d
 ·have jr:=Int.emod_lt_of_pos a kl;have jn:=Int.emod_nonneg a cz;obtain⟨j,hj⟩:=Int.eq_ofNat_of_zero_le jn;have jt:a.tmod (cs.length:Int)=j:=by rw[Int.tmod_eq_emod_of_nonneg ha.1];exact hj
  have jl:(j:Int)<cs.length:=by omega
  have u5:∀ b,(Hi.upd idc b).live Hq.next 0=_:=fun b=>(jC (by omega)).trans k5;have u2:∀ b,(Hi.upd idc b).live (H.next+2) 0=_:=fun b=>(jC (by omega)).trans k2;simp only[go_sem,p2,k0,wm,d];refine W.draw 11 [0,1,0,4,12,0,32,96,252,0,512] Try.mixed (by kernel_rfl) (by kernel_rfl) ?_;simp only[go_sem,p2,p4,p5,k0,k5,ai,jt,cz,jl,kc,u5,u2,xone];refine⟨by omega,fin _ _ _ (cs.set j n) xs (by rw[aA,aA];have:=oi.next;omega) (fun id h=>by rw[ag,if_neg (by omega),ag,if_neg (by omega)];exact oi.old id h) (own _ _ (by rw[aA,aA];omega) (by simp) (by rw[ag,if_neg (by omega),ag,if_pos rfl,dF (by omega)])) (qI (jV (jV hD (by omega)) (by omega)).qH fun i hi=>by omega) ?_⟩;unfold eF;rw[if_pos d,hj];rfl
 ·by_cases hxl:(xs.length:Int) > 0;rotate_left
  ·simp only[go_sem,p2,p4,p5,k0,k5,wm,d,hlen,hxl,xone,u2];refine nilC ?_;have:¬ 0<xs.length:=(by omega);unfold eF;rw[d,if_neg (by decide),if_neg (fun h=>this h.2),if_neg (fun h=>this h.2),if_neg (by decide),if_neg (by decide)]
  have kr:=Int.emod_lt_of_pos (a / 4) (show (0:Int)<xs.length by omega);have kn:=Int.emod_nonneg (a / 4) (show (xs.length:Int)≠0 by omega);obtain⟨k,hk⟩:=Int.eq_ofNat_of_zero_le kn;obtain⟨r,hrr⟩:=get_of_lt (l:=xs) (i:=k) (by omega);have rl:=hr r (List.mem_of_getElem? hrr);have jr:=Int.emod_lt_of_pos a (show (0:Int)<r.length by omega);have jn:=Int.emod_nonneg a (show (r.length:Int)≠0 by omega);obtain⟨j,hj⟩:=Int.eq_ofNat_of_zero_le jn;obtain⟨idt,gt,idr,gr,cells,hxv,hgt,hcl2,it1,it2,hck,hgr,ir1,ir2,hset⟩:=dL.row hD (by decide) (k:=k) (r:=ints r) (by rw[List.getElem?_map,hrr];rfl) (by intro e;have:=congrArg List.length e;rw[aO,List.length_nil]at this;omega);rw[List.length_map]at hxv hcl2;rw[aO]at hck;have lt:=ak hgt;have lr:=ak hgr;have cne:=aJ hck;have q4:a.tdiv 4=a / 4:=Int.tdiv_eq_ediv_of_nonneg ha.1;have v1:IntKind.u8.wrap (a / 4)=a / 4:=IntWalk.u8_in _ (by omega);have v2:=IntWalk.i64_in (a / 4) (by omega);have v3:(a / 4).tmod (xs.length:Int)=k:=by rw[Int.tmod_eq_emod_of_nonneg (by omega)];exact hk
  have v6:a.tmod (r.length:Int)=j:=by rw[Int.tmod_eq_emod_of_nonneg (by omega)];exact hj
  have x0:¬ (xs.length:Int)=0:=by omega
  have r0:¬ (r.length:Int)=0:=by omega
  have kl':(k:Int)<xs.length:=by omega
  have jl:(j:Int)<r.length:=by omega
  have hset':=hset (ints (r.set j n)) (by rw[aO,aO,List.length_set]);rw[hxv]at k5 hlen xone xcells hset';have u5:∀ b,(Hi.upd idr b).live Hq.next 0=_:=fun b=>(jC (by omega)).trans k5;have u2':∀ b,(Hi.upd idr b).live (H.next+2) 0=_:=fun b=>(jC (by omega)).trans k2;simp only[go_sem,p2,p5,k0,k5,wm,d,hlen,hxl];refine W.draw 10 [0,1,0,4,12,28,0,64,192,508] Try.mixed (by kernel_rfl) (by kernel_rfl) ?_;simp only[go_sem,p2,p5,k0,k5,q4,v1,v2,v3,x0,kl',lt,hck];refine W.draw 9 [0,0,2,6,0,16,62,0,128] Try.mixed (by kernel_rfl) (by kernel_rfl) ?_;simp only[go_sem,p2,p4,p5,k0,ai,v6,r0,jl,lr,u5,u2',xone];rw[dF (by omega)];have e:(xs.map ints).set k (ints (r.set j n))=(xs.set k (r.set j n)).map ints:=by rw[List.map_set]
  rw[e]at hset';refine⟨by omega,fin _ _ _ cs (xs.set k (r.set j n)) (by rw[aA,aA];omega) (fun id h=>by rw[ag,if_neg (by omega),ag,if_neg (by omega)];exact oi.old id h) (own _ _ (by rw[aA,aA];omega) rfl (by rw[ag,if_neg (by omega),ag,if_neg (by omega)];exact gci)) (qI (jV hset' (by omega)).qH fun i hi=>by omega) ?_⟩;unfold eF;rw[if_neg (by omega),if_pos ⟨d,by omega⟩];simp only[hk,Int.ofNat_eq_natCast,Int.toNat_natCast,bE hrr,hj]
 ·by_cases hxl:(xs.length:Int) > 0;rotate_left
  ·simp only[go_sem,p2,p4,p5,k0,k5,wm,d,hlen,hxl,xone,u2];refine nilC ?_;have:¬ 0<xs.length:=(by omega);unfold eF;rw[d,if_neg (by decide),if_neg (fun h=>this h.2),if_neg (fun h=>this h.2),if_neg (by decide),if_neg (by decide)]
  have kr:=Int.emod_lt_of_pos a (show (0:Int)<xs.length by omega);have kn:=Int.emod_nonneg a (show (xs.length:Int)≠0 by omega);obtain⟨k,hk⟩:=Int.eq_ofNat_of_zero_le kn;obtain⟨r,hrr⟩:=get_of_lt (l:=xs) (i:=k) (by omega);have rl:=hr r (List.mem_of_getElem? hrr);obtain⟨ocs,oG,oL,oC,oD⟩:=hD;have hri:(xs.map ints)[k]?=some (ints r):=by rw[List.getElem?_map,hrr];rfl
  obtain⟨ck,hck⟩:=get_of_lt (l:=ocs) (i:=k) (by rw[oL,List.length_map];omega);have okR:=oC k _ ck hri hck;rcases oG with ⟨_,e⟩|⟨idt,gt,it1,it2,hxv,hgt⟩
  ·rw[e]at hck;cases hck
  rcases okR with ⟨_,e⟩|⟨idr,gr,ir1,ir2,hcr,hgr⟩
  ·have:=congrArg List.length e;rw[aO,List.length_nil]at this;omega
  rw[oL,List.length_map]at hxv;rw[aO]at hcr;rw[hcr]at hck;have lt:=ak hgt;have cne:=aJ hck;have v3:a.tmod (xs.length:Int)=k:=by rw[Int.tmod_eq_emod_of_nonneg (by omega)];exact hk
  have v4:=IntWalk.i64_in (k:Int) (by omega);have x0:¬ (xs.length:Int)=0:=by omega
  have kl':(k:Int)<xs.length:=by omega
  have r1:(1:Int)<=r.length:=by omega
  rw[hxv]at k5 hlen xone xcells;have u5:∀ b,(Hi.upd idt b).live Hq.next 0=_:=fun b=>(jC (by omega)).trans k5;have u2':∀ b,(Hi.upd idt b).live (H.next+2) 0=_:=fun b=>(jC (by omega)).trans k2;simp only[go_sem,p2,p5,k0,k5,wm,d,hlen,hxl,ai,v3,x0];refine W.draw 9 [0,1,0,0,8,0,56,120,248] Try.mixed (by kernel_rfl) (by kernel_rfl) ?_;have lr:=ak hgr;simp only[go_sem,p4,p5,k5,kl',lt,lr,hck,r1,u5,u2',xone];have hlt:Hi.next<=((Hi.upd idt (.arr gt 39 (setAt ocs k [.own idr gr 1 (r.length - 1) 1]))).upd (H.next+2) (fC (.own idc gc 0 cs.length 1) (.own idt gt 0 xs.length 1))).next:=by rw[aA,aA];exact Nat.le_refl _
  refine⟨by rw[oL,List.length_map];omega,fin _ _ _ cs (xs.set k (r.drop 1)) (Nat.le_trans onext hlt) (fun id h=>by rw[ag,if_neg (by omega),ag,if_neg (by omega)];exact oi.old id h) (own _ _ (Nat.lt_of_lt_of_le (show idc<Hi.next by omega) hlt) rfl (by rw[ag,if_neg (by omega),ag,if_neg (by omega)];exact gci)) ?_ ?_⟩
  ·have hne2:idr≠idt:=fun e=>by rw[e,hgt]at hgr;cases hgr
   refine MC (lo:=Hs.next) (Hi:=Hi) (fun i h=>by omega) oL oC it1 (by rw[ag,if_neg (by omega),ag,if_pos rfl,iu (by rw[oL,List.length_map];omega)]) (Nat.lt_of_lt_of_le it2 hlt) ir1 (by rw[ag,if_neg (by omega),ag,if_neg hne2];exact hgr) (fun id g c h1 h2=>?_) hlt;rw[ag,if_neg (by omega),ag,if_neg];rintro rfl;rw[hgt]at h2;cases h2
  ·unfold eF;rw[if_neg (by omega),if_neg (fun h=>by omega),if_pos ⟨d,by omega⟩];simp only[hk,Int.ofNat_eq_natCast,Int.toNat_natCast,bE hrr]
 ·simp only[go_sem,p2,k0,wm,d];refine W.aI 1360963314184280739369385453844537802752 (by rfl) (fun ρ Hj=>∃ (m:Nat) (xv':AVal),m+xs.length<=41/\Hi.next<=Hj.next/\(∀ id,id<Hq.next->Hj.get id=Hi.get id)/\Hj.get Hq.next=some (fC (.own idc gc 0 cs.length 1) xv')/\dL Hs.next Hj 39 3 xv' ((xs++List.replicate m (List.replicate cs.length 0)).map ints)) (fun _ Hj=>match Hj.get Hq.next with|some (.arr _ _ [_,.own _ _ _ l _])=>41 - l|_=>42) ?_ ?_
  ·simp only[go_sem];exact⟨0,xv,by omega,hb5,by simpa using hD⟩
  rintro ρ Hj ⟨m,xv',hm,hnj,holdj,hbj,hDj⟩;refine ab _ _ _ (by rfl) ?_;have j2:=ak ((holdj _ (by omega)).trans ((hold _ (by omega)).trans c2));have j5:=ak hbj;obtain⟨yone,ycells⟩:=oO hDj;have hlenj:mj (some (TypeDesc.slice 39)) Hj xv'=some (.lit (.int .i64 ((xs.length+m:Nat):Int))):=by
   obtain⟨ocs,oG,oL,_,_⟩:=hDj;have:=xQ oG (d:=some (.slice 39)) rfl;rw[oL,List.length_map,List.length_append,List.length_replicate]at this;exact this
  by_cases g1:((xs.length+m:Nat):Int)<41;rotate_left
  ·simp only[go_sem,p4,p5,j2,j5,hlenj,g1,yone];obtain rfl:m=41 - xs.length:=(by omega);refine fin _ _ _ cs (xs++List.replicate (41 - xs.length) (List.replicate cs.length 0)) (by rw[aA];omega) (fun id h=>by rw[ag,if_neg (by omega),holdj id (by omega)];exact oi.old id h) (own _ _ (by rw[aA];omega) rfl (by rw[ag,if_neg (by omega)];exact(holdj _ ic2).trans gci)) (qI (jV hDj (by omega)).qH fun i hi=>by omega) ?_;unfold eF;rw[d,if_neg (by decide),if_neg (fun h=>absurd h.1 (by decide)),if_neg (fun h=>absurd h.1 (by decide)),if_pos rfl]
  have zr:List.replicate cs.length (AVal.lit (.int .i64 0))=ints (List.replicate cs.length 0):=by simp [ints,aa]
  have zO:aF Hj.next (ext Hj [.arr 0 3 (ints (List.replicate cs.length 0))]) 3 (.own Hj.next 0 0 cs.length 1) (ints (List.replicate cs.length 0)):=by
   have:=aF.new (H:=Hj) (e:=3) (cs:=ints (List.replicate cs.length 0));rw[aO,List.length_replicate]at this;exact this
  have zn:(ext Hj [.arr 0 3 (ints (List.replicate cs.length 0))]).next=Hj.next+1:=rfl;obtain⟨xv2,H5,hA2,hD5,hn5,hp⟩:=dL.app (P:=Try.prog) (n:=Hj.next+1+1) (t:=40) Try.underlying40 Try.mE Try.mG Try.mF (by decide) (by rw[List.length_map,List.length_append,List.length_replicate];omega) hDj (.ext _ _) (by omega) zO (by rw[zn]);rw[zn]at hA2 hn5 hp;have k5':H5.live Hq.next 0=_:=ak ((hp _ (by omega) (by omega)).trans ((cb _ _ _ (by omega)).trans hbj));obtain⟨xone2,xcells2⟩:=oO hD5;have kcj:=ak ((holdj _ ic2).trans gci);simp only[go_sem,p5,j5,hlenj,g1];refine W.draw 7 [0,1,0,4,12,28,60] Try.mixed (by kernel_rfl) (by kernel_rfl) ?_;simp only[go_sem,p5,j5,kcj,zr,hA2,k5',xone2,xcells2];refine⟨⟨by omega,by omega⟩,⟨fun _ h=>by omega,fun _ h=>by omega⟩,⟨fun _ h=>by omega,fun _ h=>by omega⟩,by rw[aA];omega,⟨m+1,xv2,by omega,by rw[aA];omega,fun id h=>by rw[ag,if_neg (by omega),hp id (by omega) (by omega),cb _ _ _ (by omega)];exact holdj id h,by rw[ag,if_pos rfl],?_⟩,?_⟩
  ·rw[show List.replicate (m+1) (List.replicate cs.length (0:Int))=List.replicate m (List.replicate cs.length 0)++[List.replicate cs.length 0] from List.replicate_succ',<- List.append_assoc,List.map_append];exact jV hD5 (by omega)
  ·rw[ag,if_pos rfl,hbj];have e2:∃ i2 g2,xv2=.own i2 g2 0 (xs.length+m+1) 1:=by
    obtain⟨ocs,oG,oL,_,_⟩:=hD5;rw[List.length_append,List.length_map,List.length_append,List.length_replicate,List.length_singleton]at oL;rcases oG with ⟨_,e⟩|⟨i2,g2,_,_,h,_⟩
    ·rw[e]at oL;simp at oL
    ·rw[oL]at h;exact⟨i2,g2,h⟩
   obtain⟨i2,g2,rfl⟩:=e2;have e1:xv'=.lit (.slice none 0 0)\/∃ i1 g1,xv'=.own i1 g1 0 (xs.length+m) 1:=by
    obtain⟨ocs,oG,oL,_,_⟩:=hDj;rw[List.length_map,List.length_append,List.length_replicate]at oL;rcases oG with ⟨h,_⟩|⟨i1,g1,_,_,h,_⟩
    ·exact .inl h
    ·rw[oL]at h;exact .inr ⟨i1,g1,h⟩
   rcases e1 with rfl|⟨i1,g1',rfl⟩
   ·show 41 - (xs.length+m+1)<42;omega
   ·show 41 - (xs.length+m+1)<41 - (xs.length+m);omega
 ·simp only[go_sem,p2,p5,k0,wm,d];refine⟨by decide,by decide,by decide,by decide,by decide,by decide,?_⟩;have u5:∀ L,(ext Hi L).live Hq.next 0=_:=fun L=>(eQ (by omega)).trans k5;have u2:∀ L b,((ext Hi L).upd Hq.next b).live (H.next+2) 0=_:=fun L b=>(jC (by omega)).trans ((eQ (by omega)).trans k2);simp only[go_sem,p4,p5,u5,u2];refine fin _ _ _ [4,4,4,4,4,4] [] (by rw[aA,aA,bY];omega) (fun id h=>by rw[ag,if_neg (by omega),ag,if_neg (by omega),cb _ _ _ (by omega)];exact oi.old id h) (aF.iH (lo:=H.next) (l:=[4,4,4,4,4,4]) (.inr ⟨Hi.next,0,by omega,by rw[aA,aA,bY];simp,rfl,by rw[ag,if_neg (by omega),ag,if_neg (by omega)];exact cP⟩) fun i h=>h) .nil ?_;unfold eF;rw[d,if_neg (by decide),if_neg (fun h=>absurd h.1 (by decide)),if_neg (fun h=>absurd h.1 (by decide)),if_neg (by decide),if_pos rfl]
 ·simp only[go_sem,p2,p4,p5,k0,k5,wm,d,xone,u2];refine nilC ?_;unfold eF;rw[d,if_neg (by decide),if_neg (fun h=>absurd h.1 (by decide)),if_neg (fun h=>absurd h.1 (by decide)),if_neg (by decide),if_neg (by decide)]
end Go.Proofs
namespace Go.Hx
variable {P:Program}
structure OwnM (lo:Nat)(H:AHeap)(e1 e0:TypeId)(v:AVal)(ids:List Nat)(rows:List (List AVal)):Prop where
 len:ids.length=rows.length
 nd:ids.Nodup
 rng:∀ i∈ids,lo<=i/\i<H.next
 top:aF lo H e1 v (List.zipWith (fun i n=>AVal.own i 0 0 n 1) ids (rows.map List.length))
 row:∀ (k id:Nat) (r:List AVal),ids[k]?=some id->rows[k]?=some r->H.get id=some (.arr 0 e0 r)
theorem OwnM.nil {lo:Nat}{H:AHeap}{e1 e0:TypeId}:OwnM lo H e1 e0 (.lit (.slice none 0 0)) [] [] :=
 ⟨rfl,.nil,fun i h=>(by cases h),.nil,fun k id r h=>(by simp at h)⟩
theorem OwnM.keep {lo:Nat}{H H':AHeap}{e1 e0:TypeId}{v:AVal}{ids:List Nat}{rows:List (List AVal)}(h:OwnM lo H e1 e0 v ids rows)(hn:H.next<=H'.next)(hk:∀ id,lo<=id->id<H.next->H'.get id=H.get id):OwnM lo H' e1 e0 v ids rows :=
 ⟨h.len,h.nd,fun i hi=>⟨(h.rng i hi).1,by have:=(h.rng i hi).2;omega⟩,h.top.keep (Nat.le_refl _) hn fun id _ h1 h2 _ _=>hk id h1 h2,fun k id r h1 h2=>by
  have:=h.rng id (List.mem_of_getElem? h1);rw[hk id this.1 this.2];exact h.row k id r h1 h2⟩
theorem OwnM.app {lo n:Nat}{H:AHeap}{e1 e0:TypeId}{v:AVal}{ids:List Nat}{rows:List (List AVal)}{r:List AVal}{t:TypeId}{z:List AVal}(ht:P.underlying t=some (.slice e1))(hz:P.cellsOf e1=1)(hzero:bP P e1=some z)(hby:P.bytesOf e1=24)(hne:e1≠e0)
  (hb:rows.length<2 ^ 40) (h:OwnM lo H e1 e0 v ids rows) (hlo:lo<=H.next) (hn:n=H.next+2):
  ∃ v' H',bA P (ext (ext H [.arr 0 e0 r]) [.arr 0 e1 [.own H.next 0 0 r.length 1]]) n t t v (.own (H.next+1) 0 0 1 1)=some (v',H')/\OwnM lo H' e1 e0 v' (ids++[H.next]) (rows++[r])/\H.next<=H'.next/\(∀ k,k<H.next->k<lo->H'.get k=H.get k):=by
 obtain⟨Hb,hHb⟩:∃ Hb,Hb=ext H [.arr 0 e0 r]:=⟨_,rfl⟩
 have nb:Hb.next=H.next+1:=by rw[hHb];rfl
 have ob:Over H Hb:=by rw[hHb];exact .ext _ _
 have gb:Hb.get H.next=some (.arr 0 e0 r):=by rw[hHb];exact cP
 have htop:=h.top.over ob;obtain⟨v',H',hA,hO,hL,hp⟩:=jK (P:=P) (H:=Hb) (t:=t) (x:=.own H.next 0 0 r.length 1) (n:=n) ht hz hzero rfl (by rw[hby];simp [h.len];omega) htop (by omega) (by omega);rw[nb,hHb]at hA;have old:∀ id g,lo<=id->id<Hb.next->Hb.get id=some (.arr g e0 r)->H'.get id=Hb.get id:=fun id g h1 h2 h3=>hp id h2 fun g' m he=>by
  rcases htop with ⟨hv,_⟩|⟨i,g2,_,_,hv,h4⟩
  ·rw[hv]at he;cases he
  ·rw[hv]at he;obtain rfl:i=id:=(AVal.own.inj he).1;rw[h4]at h3;cases h3;exact hne rfl
 have oldr:∀ id g q,lo<=id->id<Hb.next->Hb.get id=some (.arr g e0 q)->H'.get id=Hb.get id:=fun id g q h1 h2 h3=>hp id h2 fun g' m he=>by
  rcases htop with ⟨hv,_⟩|⟨i,g2,_,_,hv,h4⟩
  ·rw[hv]at he;cases he
  ·rw[hv]at he;obtain rfl:i=id:=(AVal.own.inj he).1;rw[h4]at h3;cases h3;exact hne rfl
 refine⟨v',H',hA,⟨by simp [h.len],List.nodup_append.2 ⟨h.nd,by simp,fun a ha b hb=>by
  obtain rfl:=List.mem_singleton.1 hb;have:=(h.rng a ha).2;omega⟩,fun i hi=>?_,?_,fun k id q h1 h2=>?_⟩,by omega,fun k hk hkl=>?_⟩
 ·rcases List.mem_append.1 hi with h1|h1
  ·have:=h.rng i h1;omega
  ·obtain rfl:=List.mem_singleton.1 h1;omega
 ·rw[List.map_append,List.zipWith_append (by rw[List.length_map];exact h.len)];exact hO
 ·have hk:=List.getElem?_eq_some_iff.1 h1;obtain⟨hk,_⟩:=hk;rw[List.length_append,List.length_singleton]at hk;rcases Nat.lt_or_ge k ids.length with hlt|hge
  ·rw[List.getElem?_append_left hlt]at h1;rw[List.getElem?_append_left (by rw[<- h.len];exact hlt)]at h2;have hr:=h.rng id (List.mem_of_getElem? h1);have hg:=h.row k id q h1 h2;rw[oldr id 0 q hr.1 (by omega) ((ob.old id hr.2).trans hg),ob.old id hr.2];exact hg
  ·obtain rfl:k=ids.length:=(by omega);rw[List.getElem?_append_right (Nat.le_refl _),Nat.sub_self]at h1;rw[h.len,List.getElem?_append_right (Nat.le_refl _),Nat.sub_self]at h2;cases h1;cases h2;rw[oldr H.next 0 r hlo (by omega) gb];exact gb
 ·rw[hp k (by omega) fun g m he=>?_,ob.old k hk];rcases htop with ⟨hv,_⟩|⟨i,g2,a1,_,hv,h4⟩
  ·rw[hv]at he;cases he
  ·rw[hv]at he;have:=(AVal.own.inj he).1;omega
theorem OwnM.C3 {lo:Nat}{H:AHeap}{e1 e0:TypeId}{v:AVal}{ids:List Nat}{rows:List (List AVal)}(h:OwnM lo H e1 e0 v ids rows)(h0:rows≠[]):∃ id g,lo<=id/\id<H.next/\v=.own id g 0 rows.length 1/\H.get id=some (.arr g e1 (List.zipWith (fun i n=>AVal.own i 0 0 n 1) ids (rows.map List.length)))/\(e1≠e0->id ∉ ids):=by
 have hzl:(List.zipWith (fun i n=>AVal.own i 0 0 n 1) ids (rows.map List.length)).length=rows.length:=by simp [h.len]
 rcases h.top with ⟨hv,h4⟩|⟨i,g,a,b,hv,h4⟩
 ·rw[h4]at hzl;exact absurd (List.eq_nil_of_length_eq_zero hzl.symm) h0
 ·refine⟨i,g,a,b,by rw[hv,hzl],h4,fun hne hm=>?_⟩;obtain⟨k,hk⟩:=List.mem_iff_getElem?.1 hm;have hkl:k<rows.length:=by rw[<- h.len];exact(List.getElem?_eq_some_iff.1 hk).1
  have:=h.row k i _ hk (List.getElem?_eq_getElem hkl);rw[h4]at this;exact hne (Blk.arr.inj (Option.some.inj this)).2.1
theorem OwnM.store {lo:Nat}{H:AHeap}{e1 e0:TypeId}{v:AVal}{ids:List Nat}{rows:List (List AVal)}(h:OwnM lo H e1 e0 v ids rows)(hne:e1≠e0){k id:Nat}{r r':List AVal}(hk:ids[k]?=some id)(hr:rows[k]?=some r)(hl:r'.length=r.length):OwnM lo (H.upd id (.arr 0 e0 r')) e1 e0 v ids (rows.set k r'):=by
 have hid:=h.rng id (List.mem_of_getElem? hk);have h0:rows≠[]:=fun e=>by rw[e]at hr;simp at hr
 refine⟨by rw[List.length_set];exact h.len,h.nd,fun i hi=>by rw[aA];exact h.rng i hi,?_,fun j id' q h1 h2=>?_⟩
 ·have e:(rows.set k r').map List.length=rows.map List.length:=by
   rw[List.map_set,hl];apply List.ext_getElem?;intro i;rw[List.getElem?_set];split
   ·rename_i hi;subst hi;have hkl:=(List.getElem?_eq_some_iff.1 hr).1;rw[if_pos (by rw[List.length_map];exact hkl),List.getElem?_map,hr];rfl
   ·rfl
  rw[e];obtain⟨i,g,a,b,_,h4,h5⟩:=h.C3 h0;refine h.top.keep (Nat.le_refl _) (by rw[aA];exact Nat.le_refl _) fun i2 g2 _ _ h3 _=>?_;rw[ag,if_neg];rintro rfl;rw[h.row k i2 r hk hr]at h3;cases h3;exact hne rfl
 ·rw[ag];by_cases hj:j=k
  ·subst hj;rw[hk]at h1;cases h1;rw[List.getElem?_set_self (List.getElem?_eq_some_iff.1 hr).1]at h2;cases h2;rw[if_pos rfl]
  ·rw[List.getElem?_set_ne (fun e=>hj e.symm)]at h2;rw[if_neg,h.row j id' q h1 h2];rintro rfl;exact hj ((List.getElem?_inj (List.getElem?_eq_some_iff.1 h1).1 h.nd).1 (by rw[h1,hk]))
theorem OwnM.fz {S:Nat->Prop}{lo nx:Nat}{H:AHeap}{e1 e0:TypeId}{v:AVal}{ids:List Nat}{rows:List (List AVal)}(h:OwnM lo H e1 e0 v ids rows)(hS:∀ i,lo<=i->S i)(hr:∀ r∈rows,∀ c∈r,Fz S H nx c c):
  Fz S H nx v (.vec rows.length (rows.map fun r=>.vec r.length r)):=by
 have hz:(List.zipWith (fun i n=>AVal.own i 0 0 n 1) ids (rows.map List.length)).length=rows.length:=by simp [h.len]
 have:=h.top.fz (S:=S) (nx:=nx) (cs':=rows.map fun r=>.vec r.length r) hS (by simp [h.len]) fun i hi hi'=>by
  simp only[List.getElem_map,List.getElem_zipWith];have hil:i<rows.length:=by omega
  have hii:i<ids.length:=by rw[h.len];exact hil
  refine .frz (hS _ (h.rng _ (List.getElem_mem hii)).1) (h.row i _ _ (List.getElem?_eq_getElem hii) (List.getElem?_eq_getElem hil)) (by simp) fun j hj h2 h'=>?_;have e0:(0:Nat)+j=j:=Nat.zero_add j;have h3:=hr rows[i] (List.getElem_mem hil) _ (List.getElem_mem h');simpa only[e0] using h3
 rw[List.length_map]at this;exact this
end Go.Hx
