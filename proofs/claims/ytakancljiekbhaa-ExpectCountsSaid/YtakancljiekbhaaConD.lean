/- Own work: contracts. -/
import Derived.Test.YtakancljiekbhaaConCb
import Derived.Test.YtakancljiekbhaaProg
import Derived.Test.YtakancljiekbhaaLibC
import Derived.Test.YtakancljiekbhaaConA
import Derived.Test.YtakancljiekbhaaRows
import Derived.ProofKit
set_option linter.all false
set_option maxRecDepth 100000
namespace Go.Proofs
open Go.Hx
def kE (H1 H':AHeap)(N:Nat)(cs:List AVal):Prop:=H1.next<=H'.next/\(∀ id,id<H1.next->id≠N->H'.get id=H1.get id)/\H'.get N=some (.arr 0 69 cs)
theorem O2 {l:List NodeP}{i:Nat}{x y:NodeP}(h:l[i]?=some x)(hr:x.rows=[])(hy:y.rows=[]):bD (l.set i y)=(bD l).set (i*3) (aa y.card):=by
 have hl:=get_lt h;have h1:=xP (f:=NodeP.cf) (z:=3) jv l i y hl;have h2:=oS (f:=NodeP.cf) (z:=3) jv l i x h;have e1:x.cf=[aa x.card,.lit (.slice none 0 0),.lit (.slice none 0 0)]:=if_pos hr;have e2:y.cf=[aa y.card,.lit (.slice none 0 0),.lit (.slice none 0 0)]:=if_pos hy;unfold bD;rw[h1,e2];rw[e1]at h2;have h3:(l.map NodeP.cf).flatten=((l.map NodeP.cf).flatten).take (i*3)++([aa x.card,.lit (.slice none 0 0),.lit (.slice none 0 0)]++((l.map NodeP.cf).flatten).drop (i*3+3)):=by
  rw[<- h2,<- List.drop_drop,List.take_append_drop,List.take_append_drop]
 have hlen:(((l.map NodeP.cf).flatten).take (i*3)).length=i*3:=by
  rw[List.length_take,lG (f:=NodeP.cf) (z:=3) jv];omega
 conv=>rhs;rw[h3]
 rw[List.set_append_right _ _ (by omega),hlen];simp
theorem tU (ord:List Int):∀ (n v:Nat),v<n->(v:Int)∈fS ord n
 | 0,v,h=>by omega
 | n+1,v,h=>by
  unfold fS;by_cases hv:v=n
  ·subst hv;simp
  ·have:=tU ord n v (by omega);rw[<- List.take_append_drop (kD ord n) (fS ord n)]at this;rcases List.mem_append.1 this with h|h
   ·exact List.mem_append_left _ h
   ·exact List.mem_append_right _ (List.mem_cons_of_mem _ h)
structure DoneN (g:Int)(cs P:List Int)(n j:Nat)(x:NodeP):Prop where
 pl:dk x.parents n
 p3:x.parents.length<=3
 rk:∀ q∈x.parents,∃ k,k<j/\P[k]?=some q
 rl:(x.rows.length:Int)=au (aS cs x.parents)
 ro:∀ r∈x.rows,jz g x.card r
 ne:x.rows≠[]
structure LoopN (g:Int)(cs P:List Int)(n i:Nat)(ns:List NodeP):Prop where
 len:ns.length=n
 cards:ar ns=cs
 todo:∀ (j v:Nat) (x:NodeP),i<=j->P[j]?=some (v:Int)->ns[v]?=some x->x.rows=[]/\x.parents=[]
 done:∀ (j v:Nat) (x:NodeP),j<i->P[j]?=some (v:Int)->ns[v]?=some x->DoneN g cs P n j x
theorem O3 {l:List NodeP}{i:Nat}{x y:NodeP}(h:l[i]?=some x)(hy:y.card=x.card)(hr:y.rows≠[]):bD (l.set i y)=((bD l).set (i*3+1) (ae y.parents)).set (i*3+2) (aC y.rows):=by
 have hl:=get_lt h;have h1:=xP (f:=NodeP.cf) (z:=3) jv l i y hl;have h2:=oS (f:=NodeP.cf) (z:=3) jv l i x h;unfold bD;rw[h1];have h3:(l.map NodeP.cf).flatten=((l.map NodeP.cf).flatten).take (i*3)++(x.cf++((l.map NodeP.cf).flatten).drop (i*3+3)):=by
  rw[<- h2,<- List.drop_drop,List.take_append_drop,List.take_append_drop]
 have hlen:(((l.map NodeP.cf).flatten).take (i*3)).length=i*3:=by
  rw[List.length_take,lG (f:=NodeP.cf) (z:=3) jv];omega
 have ex:∃ b c,x.cf=[aa x.card,b,c]:=by unfold NodeP.cf;split<;>exact⟨_,_,rfl⟩
 obtain⟨b,c,ex⟩:=ex;have ey:y.cf=[aa y.card,ae y.parents,aC y.rows]:=if_neg hr
 conv=>rhs;rw[h3]
 rw[List.set_append_right _ _ (by omega),List.set_append_right _ _ (by omega),hlen,show i*3+1 - i*3=1 by omega,show i*3+2 - i*3=2 by omega,ex,ey];simp [hy]
structure ParU (P:List Int)(i u k:Nat)(l:List Int):Prop where
 pw:l.Pairwise (·<·)
 rng:∀ q∈l,0<=q/\(q<u\/(q=u/\∃ k',k'<k/\P[k']?=some q))
 p3:l.length<=3
 rk:∀ q∈l,∃ k',k'<i/\P[k']?=some q
theorem ParU.skip {P:List Int}{i u k:Nat}{l:List Int}(h:ParU P i u k l):ParU P i u (k+1) l:=⟨h.pw,fun q hq=>⟨(h.rng q hq).1,(h.rng q hq).2.imp id fun ⟨a,k',b,c⟩=>⟨a,k',by omega,c⟩⟩,h.p3,h.rk⟩
theorem ParU.next {P:List Int}{i u k:Nat}{l:List Int}(h:ParU P i u k l):ParU P i (u+1) 0 l:=⟨h.pw,fun q hq=>⟨(h.rng q hq).1,.inl (by rcases(h.rng q hq).2 with h1|h1<;>omega)⟩,h.p3,h.rk⟩
theorem ParU.add {P:List Int}{n i u k:Nat}{l:List Int}(hP:IsPerm n P)(h:ParU P i u k l)(hk:k<i)(hu:P[k]?=some (u:Int))(h3:l.length<3):ParU P i u (k+1) (l++[(u:Int)]):=by
 have lt:∀ q∈l,q<u:=fun q hq=>by
  rcases(h.rng q hq).2 with h1|⟨h1,k',h2,h4⟩
  ·exact h1
  ·exfalso;have e:P[k']?=P[k]?:=(by rw[h4,hu,h1]);have:=(List.getElem?_inj (get_lt h4) hP.nd).1 e;omega
 refine⟨List.pairwise_append.2 ⟨h.pw,by simp,fun a ha b hb=>by obtain rfl:=List.mem_singleton.1 hb;exact lt a ha⟩,fun q hq=>?_,by simp;omega,fun q hq=>?_⟩
 ·rcases List.mem_append.1 hq with h1|h1
  ·exact⟨(h.rng q h1).1,.inl (lt q h1)⟩
  ·obtain rfl:=List.mem_singleton.1 h1;exact⟨by omega,.inr ⟨rfl,k,by omega,hu⟩⟩
 ·rcases List.mem_append.1 hq with h1|h1
  ·exact h.rk q h1
  ·obtain rfl:=List.mem_singleton.1 h1;exact⟨k,hk,hu⟩
def xR (Hz Hx:AHeap)(N at':Nat)(C:List AVal)(pv:AVal)(l:List Int):Prop:=kE Hz Hx N (C.set at' pv)/\aF Hz.next Hx 3 pv (ints l)
set_option maxHeartbeats 4000000 in
theorem O4 (g0:Int)(ps:List DrP)(ord:List Int)(hg0:U8 g0)(hps:∀ x∈ps,x.Ok)(hpl:(ps.length:Int)<2 ^ 63)(hol:(ord.length:Int)<2 ^ 63)(ho8:∀ x∈ord,U8 x)(H:AHeap)(K:ARes->AHeap->Prop)
  (hK:∀ g ns N H',Over H H'->H.next<=N->N<H'.next->H'.get N=some (.arr 0 69 (az ns))->NetOk g ns->ns.length<=5->(∀ x∈ns,x.parents.length<=3)->K (.ret (.agg [aa g,.own N 0 0 ns.length 3])) H'):
  af Try.prog G0 9 [Co g0 ps ord] H K:=by
 refine af.bf (n:=187) (rs:=[.cell 2 35]) Try.func9 rfl rfl rfl (by decide) (by kernel_rfl) (by simp) ?_;obtain⟨n,hn⟩:∃ n:Nat,min (max ps.length 1) 5=n:=⟨_,rfl⟩
 have h51:1<=n/\n<=5:=by omega
 have hmn:(if 5<(if (1:Int) > ps.length then 1 else (ps.length:Int)) then 5 else (if (1:Int) > ps.length then 1 else (ps.length:Int)))=(n:Int):=by split<;>split<;>omega
 have t0:g0.tmod 60=g0 % 60:=Int.tmod_eq_emod_of_nonneg hg0.1;have w0:IntKind.u8.wrap (g0 % 60)=g0 % 60:=IntWalk.u8_in _ (by omega);have w1:IntKind.i64.wrap (g0 % 60)=g0 % 60:=IntWalk.i64_in _ (by omega);have w2:=IntWalk.i64_in (1+g0 % 60) (by omega);obtain⟨g,hg⟩:∃ g,1+g0 % 60=g:=⟨_,rfl⟩
 have hg1:1<=g/\g<=60:=by omega
 rw[hg]at w2;simp only[go_sem,Co];refine W.draw 9 [0,1,3,7,15,0,32,127,0] Try.mixed (by kernel_rfl) (by kernel_rfl) ?_;simp only[go_sem,hmn,t0,w1,hg,w2];refine⟨by omega,⟨⟨by omega,by omega⟩,⟨by omega,by omega⟩,?_⟩⟩;obtain⟨H1,hH1⟩:∃ H1,H1=ext (ext H [.arr 0 25 [.lit (.int .u8 g0),.vec ps.length (eJ ps),.vec ord.length (aX ord)],.arr 0 35 [.lit (.int .i64 0),.lit (.slice none 0 0)],.arr 0 69 (List.replicate n [AVal.lit (.int .i64 0),.lit (.slice none 0 0),.lit (.slice none 0 0)]).flatten]) [.arr 0 35 [.lit (.int .i64 g),.own (H.next+2) 0 0 n 3]]:=⟨_,rfl⟩
 refine W.env fun E hE=>?_;have e1:E 1=.ptr H.next 0 0:=by rw[hE];simp only[go_sem]
 have e2:E 2=.ptr (H.next+1) 0 0:=by rw[hE];simp only[go_sem]
 have e3:E 3=aa n:=by rw[hE];simp only[go_sem]
 have e4:E 4=.ptr (H.next+3) 0 0:=by rw[hE];simp only[go_sem]
 clear hE;show W _ _ _ _ _ _ ⟨E,ext (ext H [.arr 0 25 [.lit (.int .u8 g0),.vec ps.length (eJ ps),.vec ord.length (aX ord)],.arr 0 35 [.lit (.int .i64 0),.lit (.slice none 0 0)],.arr 0 69 (List.replicate n [AVal.lit (.int .i64 0),.lit (.slice none 0 0),.lit (.slice none 0 0)]).flatten]) [.arr 0 35 [.lit (.int .i64 g),.own (H.next+2) 0 0 n 3]]⟩;rw[<- hH1];have n1:H1.next=H.next+4:=by rw[hH1];rfl
 have o1:Over H H1:=by rw[hH1];exact(Over.ext _ _).trans (.ext _ _)
 have g0':H1.get H.next=some (.arr 0 25 [.lit (.int .u8 g0),.vec ps.length (eJ ps),.vec ord.length (aX ord)]):=by rw[hH1,nU];exact cS ..
 have g1':H1.get (H.next+1)=some (.arr 0 35 [.lit (.int .i64 0),.lit (.slice none 0 0)]):=by rw[hH1,nU];exact bG H _ 1 (by simp)
 have g2':H1.get (H.next+2)=some (.arr 0 69 (bD (List.replicate n ⟨0,[],[]⟩))):=by
  rw[hH1,nU,show bD (List.replicate n ⟨0,[],[]⟩)=(List.replicate n [AVal.lit (.int .i64 0),.lit (.slice none 0 0),.lit (.slice none 0 0)]).flatten by unfold bD;rw[List.map_replicate];rfl];exact bG H _ 2 (by simp)
 have g3':H1.get (H.next+3)=some (.arr 0 35 [.lit (.int .i64 g),.own (H.next+2) 0 0 n 3]):=by rw[hH1,nU];exact bG H _ 3 (by simp)
 clear hH1;have l0:=ak g0';have l1:=ak (show (ext H1 [.arr 0 5 (List.replicate n (.lit (.int .u8 0)))]).get H.next=some (.arr 0 25 [.lit (.int .u8 g0),.vec ps.length (eJ ps),.vec ord.length (aX ord)]) by rw[cb _ _ _ (by omega)];exact g0');refine W.draw 4 [0,1,0,4] Try.mixed (by kernel_rfl) (by kernel_rfl) ?_;simp only[go_sem,e1,e3,l1];refine⟨⟨by omega,by omega⟩,by omega,by omega,?_⟩;obtain⟨H2,hH2⟩:∃ H2,H2=ext H1 [.arr 0 5 (List.replicate n (.lit (.int .u8 0)))]:=⟨_,rfl⟩
 have gb:H2.get H1.next=some (.arr 0 5 (List.replicate n (.lit (.int .u8 0)))):=by rw[hH2];exact cP
 rw[<- hH2];refine aw.clo ((af.frame (H:=H2) (args:=[.agg [.own H1.next 0 0 n 1,.lit (.int .u16 0),.vec ord.length (aX ord)]]) (args':=[.agg [.vec n (aX (List.replicate n 0)),.lit (.int .u16 0),.vec ord.length (aX ord)]]) (v':=ae (fS ord n)) aP rfl (fun i hi _=>?_) (OP n h51.2 ord hol ho8 cF _ fun v H' _ ho=>⟨_,rfl,ho.qQ⟩)).mono fun r H' hr=>?_)
 ·match i,hi with
  | 0,_ =>
   refine .agg rfl fun i hi _=>?_
   match i,hi with
   | 0,_ =>
    have:aX (List.replicate n 0)=List.replicate n (.lit (.int .u8 0)):=(by unfold aX;rw[List.map_replicate]);rw[this];exact Fz.qR gb (by simp) fun c hc=>⟨_,List.eq_of_mem_replicate hc⟩
   | 1,_=>exact .lit _
   | 2,_=>exact .vec rfl fun i hi _=>by simp only[aX,List.getElem_map];exact .lit _
 obtain⟨rfl,rfl⟩:=hr;refine⟨trivial,?_⟩;have hperm:=xO ord n;obtain⟨P,hP⟩:∃ P,P=fS ord n:=⟨_,rfl⟩
 rw[<- hP]at hperm ⊢;have n2:H'.next=H1.next+1:=by rw[hH2];rfl
 have F0:kE H1 H' (H.next+2) (bD (List.replicate n ⟨0,[],[]⟩)):=by
  rw[hH2];exact⟨by simp [bY],fun id h _=>cb _ _ _ h,by rw[cb _ _ _ (by omega)];exact g2'⟩
 clear hH2 gb;simp only[go_sem,e3];have bs:∀ k:Nat,k<=5->(3:Int) ^ k<=243:=fun k hk=>by
  have:(3:Nat) ^ k<=3 ^ 5:=Nat.pow_le_pow_right (by decide) hk;have h2:((3 ^ k:Nat):Int)<=((3 ^ 5:Nat):Int):=by exact_mod_cast this
  push_cast at h2
  exact h2
 refine W.aI 151115727451794287100864 (by rfl) (fun ρ Hx=>∃ (i:Nat) (ns:List NodeP) (Wd:Int),ρ 7=aa i/\i<=n/\ns.length=n/\(∀ x∈ns,x.rows=[]/\x.parents=[])/\(∀ j v:Nat,j<i->P[j]?=some (v:Int)->∃ x,ns[v]?=some x/\2<=x.card/\x.card<=3)/\ρ 6=aa Wd/\1<=Wd/\Wd<=3 ^ i/\H'.next<=Hx.next/\kE H1 Hx (H.next+2) (bD ns)) (fun ρ H=>n - (iv (ρ 7)).toNat) ?_ ?_
 ·simp only[go_sem];exact⟨0,_,1,rfl,by omega,by simp,fun x hx=>by obtain rfl:=List.eq_of_mem_replicate hx;exact⟨rfl,rfl⟩,fun j v hj=>by omega,rfl,by omega,by simp,F0⟩
 rintro ρ Hx ⟨i,ns,Wd,h7,hi,hnl,hnz,hnc,h6,hW1,hW3,hnx,hF⟩;refine W.env fun E2 hE2=>?_;have f1:E2 1=.ptr H.next 0 0:=by rw[hE2];simp only[go_sem,e1]
 have f2:E2 2=.ptr (H.next+1) 0 0:=by rw[hE2];simp only[go_sem,e2]
 have f3:E2 3=aa n:=by rw[hE2];simp only[go_sem,e3]
 have f4:E2 4=.ptr (H.next+3) 0 0:=by rw[hE2];simp only[go_sem,e4]
 have f5:E2 5=ae P:=by rw[hE2];simp only[go_sem]
 have f6:E2 6=aa Wd:=by rw[hE2];simp only[go_sem,h6]
 have f7:E2 7=aa i:=by rw[hE2];simp only[go_sem,h7]
 clear hE2;refine ab _ _ _ (by rfl) ?_;have hPl:=hperm.len;have hFn:=hF.1;have m0:=ak ((hF.2.1 H.next (by omega) (by omega)).trans g0');have m3:=ak ((hF.2.1 (H.next+3) (by omega) (by omega)).trans g3');have mN:=ak hF.2.2;have m0':∀ L,(ext Hx L).live H.next 0=some (25,[.lit (.int .u8 g0),.vec ps.length (eJ ps),.vec ord.length (aX ord)]):=fun L=>(eQ (by omega)).trans m0;have m3':∀ L,(ext Hx L).live (H.next+3) 0=some (35,[.lit (.int .i64 g),.own (H.next+2) 0 0 n 3]):=fun L=>(eQ (by omega)).trans m3;have mN':∀ L,(ext Hx L).live (H.next+2) 0=some (69,bD ns):=fun L=>(eQ (by omega)).trans mN;by_cases hb:(i:Int)<n
 ·obtain⟨pv,hpv⟩:=get_of_lt (l:=P) (i:=i) (by omega);have hpr:=hperm.rng pv (List.mem_of_getElem? hpv);obtain⟨v,rfl⟩:=Int.eq_ofNat_of_zero_le hpr.1;obtain⟨x,hx⟩:=get_of_lt (l:=ns) (i:=v) (by omega);have hpne:=aJ hpv;have hz0:=Cs hx;have hzne:=aJ hz0;have hzl:=Cr ns;have hv:(v:Int)<n:=hpr.2;have hv0:(v:Int) >= 0:=hpr.1;have hiP:(i:Int)<P.length:=by omega
  have w3:=bs i (by omega);have i1:=IntWalk.i64_in ((i:Int)+1) (by omega);have i2:=IntWalk.i64_in ((n:Int) - 1) (by omega);have i3:=IntWalk.i64_in ((n:Int) - 1 - i) (by omega);have i4:=IntWalk.u64_in ((n:Int) - 1 - i) (by omega);have fin:∀ (c:Int) (B:Blk),2<=c/\c<=3->v*3+1<=(bD ns).length/\H'.next<=((ext Hx [B]).upd (H.next+2) (.arr 0 69 (setAt (bD ns) (v*3) [.lit (.int .i64 c)]))).next /\
    (∃ (i_1:Nat) (ns_1:List NodeP) (Wd_1:Int),AVal.lit (.int .i64 ((i:Int)+1))=.lit (.int .i64 i_1)/\i_1<=n/\ns_1.length=n/\(∀ x∈ns_1,x.rows=[]/\x.parents=[])/\(∀ j v:Nat,j<i_1->P[j]?=some (v:Int)->∃ x,ns_1[v]?=some x/\2<=x.card/\x.card<=3) /\
     AVal.lit (.int .i64 (Wd*c))=.lit (.int .i64 Wd_1)/\1<=Wd_1/\Wd_1<=3 ^ i_1/\H'.next<=((ext Hx [B]).upd (H.next+2) (.arr 0 69 (setAt (bD ns) (v*3) [.lit (.int .i64 c)]))).next/\kE H1 ((ext Hx [B]).upd (H.next+2) (.arr 0 69 (setAt (bD ns) (v*3) [.lit (.int .i64 c)]))) (H.next+2) (bD ns_1)) /\
    n - ((i:Int)+1).toNat<n - (iv (ρ 7)).toNat:=by
   intro c B c23;have p1:2<=Wd*c/\Wd*c<=3 ^ i*3:=by
    constructor
    ·have:=Int.mul_le_mul hW1 c23.1 (by omega) (by omega);omega
    ·exact Int.mul_le_mul hW3 c23.2 (by omega) (by omega)
   have nn:((ext Hx [B]).upd (H.next+2) (.arr 0 69 (setAt (bD ns) (v*3) [.lit (.int .i64 c)]))).next=Hx.next+1:=rfl;refine⟨by rw[hzl];have:=get_lt hx;omega,by rw[nn];omega,⟨i+1,ns.set v ⟨c,[],[]⟩,Wd*c,rfl,by omega,by simp [hnl],fun z hz=>?_,fun j u hj hu=>?_,rfl,by omega,by rw[Int.pow_succ];omega,by rw[nn];omega,?_⟩,by rw[h7];simp only[aa,aK];omega⟩
   ·rcases List.mem_or_eq_of_mem_set hz with h|h
    ·exact hnz z h
    ·rw[h];exact⟨rfl,rfl⟩
   ·by_cases huv:u=v
    ·subst huv;exact⟨_,List.getElem?_set_self (get_lt hx),by dsimp only;omega,by dsimp only;omega⟩
    ·rw[List.getElem?_set_ne (by omega)];refine hnc j u ?_ hu;rcases Nat.lt_or_ge j i with h|h
     ·exact h
     ·obtain rfl:j=i:=(by omega);rw[hpv]at hu;exact absurd (by have:=Option.some.inj hu;omega) huv
   ·refine⟨by rw[nn];omega,fun id h1 h2=>by rw[ag,if_neg h2,cb _ _ _ (by omega)];exact hF.2.1 id h1 h2,?_⟩;rw[ag,if_pos rfl,O2 hx (hnz x (List.mem_of_getElem? hx)).1 rfl];congr 2;exact iu (by rw[hzl];have:=get_lt hx;omega)
  by_cases hp:(i:Int)<ps.length
  ·obtain⟨y,hy⟩:=get_of_lt (l:=ps) (i:=i) (by omega);have hyo:=hps y (List.mem_of_getElem? hy);have hc0:=Cp hy;have hc1:i*3+3<=(eJ ps).length:=(by rw[Cq];omega);have hcne:¬ eJ ps=[]:=fun h=>by rw[h]at hc1;simp at hc1
   have c8:=hyo.1;have t1:y.card.tmod 2=y.card % 2:=Int.tmod_eq_emod_of_nonneg c8.1;have i5:=IntWalk.u8_in (y.card % 2) (by omega);have i6:=IntWalk.i64_in (y.card % 2) (by omega);have i7:=IntWalk.i64_in (2+y.card % 2) (by omega);have c23:2<=(2+y.card % 2)/\(2+y.card % 2)<=3:=(by omega);have p1:2<=Wd*(2+y.card % 2)/\Wd*(2+y.card % 2)<=3 ^ i*3:=by
    constructor
    ·have:=Int.mul_le_mul hW1 c23.1 (by omega) (by omega);omega
    ·exact Int.mul_le_mul hW3 c23.2 (by omega) (by omega)
   have p2:2<=Wd*2/\Wd*2<=3 ^ i*3:=(by omega);have j1:=IntWalk.i64_in (Wd*(2+y.card % 2)) (by omega);have j2:=IntWalk.i64_in (Wd*2) (by omega);obtain⟨q,hq⟩:∃ q,IntKind.i64.wrap (Wd*(2+y.card % 2)*2 ^ (min ((n:Int) - 1 - i).toNat IntKind.i64.bits))=q:=⟨_,rfl⟩
   have hsh:∀ t o1 o2,aW Try.prog .shl t o1 o2 (.lit (.int .i64 (Wd*(2+y.card % 2)))) (.lit (.int .u64 ((n:Int) - 1 - i)))=some (.lit (.int .i64 q)):=fun t o1 o2=>by rw[pg (by omega),hq]
   by_cases hq1:q > 100
   ·simp only[go_sem,f1,f3,f6,f7,m0',hb,hp,i2,i3,i4,j1,j2,hsh,hc0,hc1,hcne,t1,i6,i7,hq1];refine W.draw 7 [0,1,0,0,12,28,0] Try.mixed (by kernel_rfl) (by kernel_rfl) ?_;simp only[go_sem,f4,f5,f6,f7,m3',mN',i1,hpv,hpne,hv,hv0,hiP];exact fin 2 _ (by omega)
   ·simp only[go_sem,f1,f3,f6,f7,m0',hb,hp,i2,i3,i4,j1,hsh,hc0,hc1,hcne,t1,i6,i7,hq1];refine W.draw 7 [0,1,0,0,12,28,0] Try.mixed (by kernel_rfl) (by kernel_rfl) ?_;simp only[go_sem,f4,f5,f6,f7,m3',mN',i1,hpv,hpne,hv,hv0,hiP];exact fin (2+y.card % 2) _ c23
  ·have p2:2<=Wd*2/\Wd*2<=3 ^ i*3:=(by omega);have i5:IntKind.i64.wrap (2+IntKind.i64.wrap (Int.tmod 0 2))=2:=(by decide);have j2:=IntWalk.i64_in (Wd*2) (by omega);obtain⟨q,hq⟩:∃ q,IntKind.i64.wrap (Wd*2*2 ^ (min ((n:Int) - 1 - i).toNat IntKind.i64.bits))=q:=⟨_,rfl⟩
   have hsh:∀ t o1 o2,aW Try.prog .shl t o1 o2 (.lit (.int .i64 (Wd*2))) (.lit (.int .u64 ((n:Int) - 1 - i)))=some (.lit (.int .i64 q)):=fun t o1 o2=>by rw[pg (by omega),hq]
   by_cases hq1:q > 100
   ·simp only[go_sem,f1,f3,f6,f7,m0',hb,hp,i2,i3,i4,j2,hsh,i5,hq1];refine W.draw 7 [0,1,0,0,12,28,0] Try.mixed (by kernel_rfl) (by kernel_rfl) ?_;simp only[go_sem,f4,f5,f6,f7,m3',mN',i1,hpv,hpne,hv,hv0,hiP];exact fin 2 _ (by omega)
   ·simp only[go_sem,f1,f3,f6,f7,m0',hb,hp,i2,i3,i4,j2,hsh,i5,hq1];refine W.draw 7 [0,1,0,0,12,28,0] Try.mixed (by kernel_rfl) (by kernel_rfl) ?_;simp only[go_sem,f4,f5,f6,f7,m3',mN',i1,hpv,hpne,hv,hv0,hiP];exact fin 2 _ (by omega)
 ·obtain rfl:n=i:=by omega
  clear bs hW1 hW3 h6 f6;simp only[go_sem,f3,f7,hb];obtain⟨cs,hcs⟩:∃ cs,cs=ar ns:=⟨_,rfl⟩
  have csl:cs.length=n:=by rw[hcs,bO,hnl]
  have hc23:∀ c∈cs,2<=c/\c<=3:=fun c hc=>by
   obtain⟨v,hv⟩:=List.mem_iff_getElem?.1 hc;have hvn:=get_lt hv;have hm:=tU ord n v (by omega);rw[<- hP]at hm;obtain⟨j,hj⟩:=List.mem_iff_getElem?.1 hm;obtain⟨x,hx,h2,h3⟩:=hnc j v (by have:=get_lt hj;omega) hj;rw[hcs,cI hx]at hv;cases hv;exact⟨h2,h3⟩
  have L0:LoopN g cs P n 0 ns:=⟨hnl,hcs.symm,fun j v x _ _ hx=>hnz x (List.mem_of_getElem? hx),fun j v x h=>by omega⟩
  clear hnc hnz h7;refine W.aI 98079714615416886934934209737619636635871851991103765504 (by rfl) (fun ρ Hy=>∃ (i:Nat) (ns:List NodeP),ρ 10=aa i/\i<=n/\LoopN g cs P n i ns/\Hx.next<=Hy.next/\kE H1 Hy (H.next+2) (bD ns)) (fun ρ H=>n - (iv (ρ 10)).toNat) ?_ ?_
  ·simp only[go_sem];exact⟨0,ns,rfl,by omega,L0,hF⟩
  clear L0 hF m0 m3 mN m0' m3' mN' hFn hnl hcs f7;rintro ρ Hy ⟨i,ns,h10,hi,L,hny,hF⟩;refine W.env fun E hE=>?_;have e1:E 1=.ptr H.next 0 0:=by rw[hE];simp only[go_sem,f1]
  have e2:E 2=.ptr (H.next+1) 0 0:=by rw[hE];simp only[go_sem,f2]
  have e3:E 3=aa n:=by rw[hE];simp only[go_sem,f3]
  have e4:E 4=.ptr (H.next+3) 0 0:=by rw[hE];simp only[go_sem,f4]
  have e5:E 5=ae P:=by rw[hE];simp only[go_sem,f5]
  have e10:E 10=aa i:=by rw[hE];simp only[go_sem,h10]
  clear hE;refine ab _ _ _ (by rfl) ?_;have hFn:=hF.1;have m0:=ak ((hF.2.1 H.next (by omega) (by omega)).trans g0');have m1:=ak ((hF.2.1 (H.next+1) (by omega) (by omega)).trans g1');have m3:=ak ((hF.2.1 (H.next+3) (by omega) (by omega)).trans g3');have m0':∀ L,(ext Hy L).live H.next 0=some (25,[.lit (.int .u8 g0),.vec ps.length (eJ ps),.vec ord.length (aX ord)]):=fun L=>(eQ (by omega)).trans m0;by_cases hb:(i:Int)<n
  ·obtain⟨pv,hpv⟩:=get_of_lt (l:=P) (i:=i) (by omega);have hpr:=hperm.rng pv (List.mem_of_getElem? hpv);obtain⟨v,rfl⟩:=Int.eq_ofNat_of_zero_le hpr.1;have hnl:=L.len;obtain⟨x,hx⟩:=get_of_lt (l:=ns) (i:=v) (by omega);have hpne:=aJ hpv;have hiP:(i:Int)<P.length:=(by omega);have hP1:∀ k:Nat,k<n->∃ u:Nat,P[k]?=some (u:Int)/\u<n:=fun k hk=>by
    obtain⟨q,hq⟩:=get_of_lt (l:=P) (i:=k) (by omega);have:=hperm.rng q (List.mem_of_getElem? hq);obtain⟨u,rfl⟩:=Int.eq_ofNat_of_zero_le this.1;exact⟨u,hq,by omega⟩
   have hpc:∀ (B:List AVal),B=(if (i:Int)<ps.length then (eJ ps).drop (i*3) |>.take 3 else [.lit (.int .u8 0),.lit (.int .u8 0),.lit (.slice none 0 0)])->∃ (pc par:Int) (bs:List Int) (wv:AVal),B=[.lit (.int .u8 pc),.lit (.int .u8 par),wv]/\U8 par/\(∀ b∈bs,U8 b)/\(bs.length:Int)<2 ^ 63/\wv.one=true/\wv.cells=[wv]/\∀ H0,Fz (fun _=>True) H0 0 wv (.vec bs.length (aX bs)):=by
    rintro B rfl;by_cases hp:(i:Int)<ps.length
    ·obtain⟨y,hy⟩:=get_of_lt (l:=ps) (i:=i) (by omega);have hyo:=hps y (List.mem_of_getElem? hy);rw[if_pos hp,Cp hy];exact⟨y.card,y.par,y.w,_,rfl,hyo.2.1,hyo.2.2.2,hyo.2.2.1,rfl,rfl,fun H0=>.vec rfl fun i hi _=>by simp only[aX,List.getElem_map];exact .lit _⟩
    ·rw[if_neg hp];exact⟨0,0,[],_,rfl,by unfold U8;omega,by simp,by simp,rfl,rfl,fun H0=>.nil⟩
   by_cases hp:(i:Int)<ps.length
   case' pos =>
    have hc1:i*3+3<=(eJ ps).length:=(by rw[Cq];omega);have hcne:¬ eJ ps=[]:=fun h=>by rw[h]at hc1;simp at hc1
    rw[if_pos hp]at hpc;obtain⟨pc,par,bs,wv,hc0,hpar,hbs,hbl,hwo,hwc,hwf⟩:=hpc _ rfl;simp only[go_sem,e1,e3,e5,e10,m0',hb,hp,hc0,hc1,hcne,hpv,hpne,hiP,hwo,Bool.and_true];obtain⟨Hz,hHz⟩:∃ Hz,Hz=ext Hy [.arr 0 86 [.lit (.int .u8 pc),.lit (.int .u8 par),wv]]:=⟨_,rfl⟩
    clear hpc hc0 hc1 hcne hp
   case' neg =>
    rw[if_neg hp]at hpc;obtain⟨pc,par,bs,wv,hc0,hpar,hbs,hbl,hwo,hwc,hwf⟩:=hpc _ rfl;simp only[go_sem,e1,e3,e5,e10,m0',hb,hp,hpv,hpne,hiP];rw[hc0];obtain⟨Hz,hHz⟩:∃ Hz,Hz=ext Hy [.arr 0 86 [.lit (.int .u8 pc),.lit (.int .u8 par),wv]]:=⟨_,rfl⟩
    clear hpc hc0 hp
   all_goals
    rw[<- hHz];refine W.env fun E3 hE3=>?_;have k1:E3 1=.ptr H.next 0 0:=(by rw[hE3];simp only[go_sem,e1]);have k2:E3 2=.ptr (H.next+1) 0 0:=(by rw[hE3];simp only[go_sem,e2]);have k3:E3 3=aa n:=(by rw[hE3];simp only[go_sem,e3]);have k4:E3 4=.ptr (H.next+3) 0 0:=(by rw[hE3];simp only[go_sem,e4]);have k5:E3 5=ae P:=(by rw[hE3];simp only[go_sem,e5]);have k10:E3 10=aa i:=(by rw[hE3];simp only[go_sem,e10]);have k11:E3 11=.ptr Hy.next 0 0:=(by rw[hE3];simp only[go_sem]);have k12:E3 12=aa v:=(by rw[hE3];simp only[go_sem]);have k13:E3 13=aa 0:=(by rw[hE3];simp only[go_sem]);clear hE3;have nz:Hz.next=Hy.next+1:=(by rw[hHz];rfl);have z3:Hz.get (H.next+3)=some (.arr 0 35 [.lit (.int .i64 g),.own (H.next+2) 0 0 n 3]):=(by rw[hHz,cb _ _ _ (by omega)];exact(hF.2.1 (H.next+3) (by omega) (by omega)).trans g3');have zP:Hz.get Hy.next=some (.arr 0 86 [.lit (.int .u8 pc),.lit (.int .u8 par),wv]):=(by rw[hHz];exact cP);have zN:Hz.get (H.next+2)=some (.arr 0 69 (bD ns)):=(by rw[hHz,cb _ _ _ (by omega)];exact hF.2.2);have zO:∀ id,id<H1.next->id≠H.next+2->Hz.get id=H1.get id:=fun id h1 h2=>by rw[hHz,cb _ _ _ (by omega)];exact hF.2.1 id h1 h2
    obtain⟨xr,xp⟩:=L.todo i v x (Nat.le_refl _) hpv hx;have hzl:=Cr ns;have hvn:=get_lt hx;have hcx:(bD ns)[v*3+1]?=some (.lit (.slice none 0 0)):=by
     have:=jX (f:=NodeP.cf) (z:=3) jv ns v 1 x hx (by omega);rw[show (bD ns)[v*3+1]?=_ from this];unfold NodeP.cf;rw[if_pos xr];rfl
    clear hHz e1 e2 e3 e4 e5 e10 f1 f2 f3 f4 f5 m0' m0 m1 m3;have vlt:(v:Int)<n:=hpr.2;have v0:(v:Int) >= 0:=hpr.1;have hset:∀ pv pv',setAt ((bD ns).set (v*3+1) pv) (v*3+1) [pv']=(bD ns).set (v*3+1) pv':=fun pv pv'=>by rw[iu (by rw[List.length_set];omega),List.set_set]
    have hgetc:∀ pv,((bD ns).set (v*3+1) pv)[v*3+1]?=some pv:=fun pv=>List.getElem?_set_self (by omega);refine W.yk (Q':=fun e s2=>e=.exit 4/\∃ pv l,s2.ρ 1=.ptr H.next 0 0/\s2.ρ 2=.ptr (H.next+1) 0 0/\s2.ρ 3=aa n/\s2.ρ 4=.ptr (H.next+3) 0 0/\s2.ρ 5=ae P/\s2.ρ 10=aa i/\s2.ρ 11=.ptr Hy.next 0 0/\s2.ρ 12=aa v/\xR Hz s2.H (H.next+2) (v*3+1) (bD ns) pv l/\ParU P i n 0 l) ?_ ?_
    ·refine W.aI 44601490397061167054908922280959129468035072 (by rfl) (fun ρ Hu=>∃ (u:Nat) (pv:AVal) (l:List Int),ρ 13=aa u/\u<=n/\xR Hz Hu (H.next+2) (v*3+1) (bD ns) pv l/\ParU P i u 0 l) (fun ρ H=>n - (iv (ρ 13)).toNat) ?_ ?_
     ·simp only[go_sem,k13];refine⟨0,.lit (.slice none 0 0),[],rfl,by omega,⟨⟨Nat.le_refl _,fun _ _ _=>rfl,?_⟩,.nil⟩,⟨by simp,by simp,by simp,by simp⟩⟩;rw[zN,lR hcx]
     rintro ρu Hu ⟨u,pv,l,h13,hu,hS,hL⟩;refine W.env fun E4 hE4=>?_;have q3:E4 3=aa n:=(by rw[hE4];simp only[go_sem,k3]);have q4:E4 4=.ptr (H.next+3) 0 0:=(by rw[hE4];simp only[go_sem,k4]);have q5:E4 5=ae P:=(by rw[hE4];simp only[go_sem,k5]);have q10:E4 10=aa i:=(by rw[hE4];simp only[go_sem,k10]);have q11:E4 11=.ptr Hy.next 0 0:=(by rw[hE4];simp only[go_sem,k11]);have q12:E4 12=aa v:=(by rw[hE4];simp only[go_sem,k12]);have q13:E4 13=aa u:=(by rw[hE4];simp only[go_sem,h13]);have q1:E4 1=.ptr H.next 0 0:=(by rw[hE4];simp only[go_sem,k1]);have q2:E4 2=.ptr (H.next+1) 0 0:=(by rw[hE4];simp only[go_sem,k2]);clear hE4;refine ab _ _ _ (by rfl) ?_;by_cases hub:(u:Int)<n
     ·have u1:=IntWalk.i64_in ((u:Int)+1) (by omega);simp only[go_sem,q3,q13,hub];refine W.aI 44601490397058710981870980086493729605566464 (by rfl) (fun ρ Hk=>∃ (k:Nat) (pv:AVal) (l:List Int),ρ 14=aa k/\k<=i/\Hu.next<=Hk.next/\xR Hz Hk (H.next+2) (v*3+1) (bD ns) pv l/\ParU P i u k l) (fun ρ H=>i - (iv (ρ 14)).toNat) ?_ ?_
      ·simp only[go_sem];exact⟨0,pv,l,rfl,by omega,hS,hL⟩
      clear hS hL;rintro ρk Hk ⟨k,pv,l,h14,hk,hnk,hS,hL⟩;refine W.env fun E5 hE5=>?_;have r4:E5 4=.ptr (H.next+3) 0 0:=(by rw[hE5];simp only[go_sem,q4]);have r5:E5 5=ae P:=(by rw[hE5];simp only[go_sem,q5]);have r10:E5 10=aa i:=(by rw[hE5];simp only[go_sem,q10]);have r11:E5 11=.ptr Hy.next 0 0:=(by rw[hE5];simp only[go_sem,q11]);have r12:E5 12=aa v:=(by rw[hE5];simp only[go_sem,q12]);have r13:E5 13=aa u:=(by rw[hE5];simp only[go_sem,q13]);have r14:E5 14=aa k:=(by rw[hE5];simp only[go_sem,h14]);clear hE5;refine ab _ _ _ (by rfl) ?_;by_cases hki:(k:Int)<i
      ·obtain⟨hFz,hOz⟩:=hS;have hFz1:=hFz.1;obtain⟨a,ha,han⟩:=hP1 k (by omega);have hane:=aJ ha;have hkP:(k:Int)<P.length:=(by omega);have s1:=IntWalk.i64_in ((k:Int)+1) (by omega);have s2:=IntWalk.u64_in (k:Int) (by omega);have y3:=ak ((hFz.2.1 (H.next+3) (by omega) (by omega)).trans z3);have yP:=ak ((hFz.2.1 Hy.next (by omega) (by omega)).trans zP);have yN:=ak hFz.2.2;have hgc:=hgetc pv;have hcne2:=aJ hgc;obtain⟨r1,hr1⟩:∃ r1,∀ t o1 o2,aW Try.prog .shr t o1 o2 (.lit (.int .u8 par)) (.lit (.int .u64 (k:Int)))=some (.lit (.int .u8 r1)):=⟨_,fun _ _ _=>qS (by omega)⟩
       obtain⟨r2,hr2⟩:∃ r2,∀ t o1 o2,aW Try.prog .and t o1 o2 (.lit (.int .u8 r1)) (.lit (.int .u8 1))=some (.lit (.int .u8 r2)):=⟨_,fun _ _ _=>ue⟩
       have hlen:=xQ hOz (d:=some (.slice 3)) rfl;rw[ve,aO]at hlen;by_cases hau:(a:Int)=u
       ·have hau':a=u:=(by omega);by_cases hr:r2=1
        ·by_cases hl3:(l.length:Int)<3
         ·simp only[go_sem,r4,r5,r10,r11,r12,r13,r14,hki,ha,hane,hkP,s2,y3,yP,yN,hgc,hr1,hr2,hlen,hau,hr,hl3,vlt,v0];obtain⟨pv',Hj,hA,hO',hn',hpr'⟩:=jK (P:=Try.prog) (H:=Hk) (t:=39) (x:=aa u) (n:=Hk.next+1) Try.underlying39 Try.dT Try.eG rfl (by rw[Try.fh,aO];omega) hOz hFz1 rfl;simp only[aa]at hA;have keep:∀ id,id<Hz.next->Hj.get id=Hk.get id:=fun id h=>hpr' id (by omega) (hOz.ne h);have y3j:=ak ((keep _ (by omega)).trans ((hFz.2.1 (H.next+3) (by omega) (by omega)).trans z3));have yNj:=ak ((keep _ (by omega)).trans hFz.2.2);refine W.draw 12 [0,1,0,0,8,0,56,120,248,0,512,2040] Try.mixed (by kernel_rfl) (by kernel_rfl) ?_;simp only[go_sem,r4,r12,r13,r14,y3,yN,yNj,hgc,vlt,v0,hA,s1];have hdj:kR (if jI pv=true then { eff:=aH pv,rs:=aH pv++[Hk.next] } else { eff:=[Hk.next+1],rs:=[Hk.next] }) { eff:=[],rs:=[H.next+3] }:=by
           rcases hOz with ⟨hO1,_⟩|⟨id,gg,hO1,hO2,hO3,_⟩
           ·rw[hO1];show kR { eff:=[Hk.next+1],rs:=[Hk.next] } _;exact⟨fun a ha=>by (obtain rfl:a=Hk.next+1:=by simpa using ha);simp;omega,fun a ha=>by simp at ha⟩
           ·rw[hO3];show kR { eff:=[id],rs:=[id]++[Hk.next] } _;exact⟨fun a ha=>by (obtain rfl:a=id:=by simpa using ha);simp;omega,fun a ha=>by simp at ha⟩
          have hpc1:=hO'.cells;rw[hpc1];refine⟨⟨by omega,by omega,by omega,by omega,by omega,by omega,by omega⟩,⟨hdj,hdj⟩,⟨rfl,by simp [hO'.one],by rw[List.length_set];simp;omega⟩,by rw[aA];omega,⟨k+1,pv',l++[(u:Int)],rfl,by omega,by rw[aA];omega,⟨⟨by rw[aA];omega,fun id h1 h2=>by rw[ag,if_neg h2,keep _ h1];exact hFz.2.1 id h1 h2,?_⟩,?_⟩,hL.add hperm (by omega) (by rw[ha,hau]) (by omega)⟩,by rw[h14];simp only[aa,aK];omega⟩
          ·rw[ag,if_pos rfl,hset]
          ·have:=hO'.keep (lo':=Hz.next) (H':=Hj.upd (H.next+2) (.arr 0 69 (setAt ((bD ns).set (v*3+1) pv) (v*3+1) [pv']))) (Nat.le_refl _) (Nat.le_refl _) fun id _ h1 _ _ _=>by rw[ag,if_neg (by omega)]
           simpa [ints,aa] using this
         ·simp only[go_sem,r4,r5,r10,r11,r12,r13,r14,hki,ha,hane,hkP,s1,s2,y3,yP,yN,hgc,hr1,hr2,hlen,hau,hr,hl3,vlt,v0];exact⟨hnk,⟨k+1,pv,l,rfl,by omega,hnk,⟨hFz,hOz⟩,hL.skip⟩,by rw[h14];simp only[aa,aK];omega⟩
        ·simp only[go_sem,r5,r10,r11,r13,r14,hki,ha,hane,hkP,s1,s2,yP,hr1,hr2,hau,hr];exact⟨hnk,⟨k+1,pv,l,rfl,by omega,hnk,⟨hFz,hOz⟩,hL.skip⟩,by rw[h14];simp only[aa,aK];omega⟩
       ·simp only[go_sem,r5,r10,r13,r14,hki,ha,hane,hkP,s1,hau];exact⟨hnk,⟨k+1,pv,l,rfl,by omega,hnk,⟨hFz,hOz⟩,hL.skip⟩,by rw[h14];simp only[aa,aK];omega⟩
      ·obtain rfl:k=i:=(by omega);simp only[go_sem,r10,r13,r14,hki,u1];exact⟨by have:=hS.1.1;omega,⟨u+1,pv,l,rfl,by omega,hS,hL.next⟩,by rw[h13];simp only[aa,aK];omega⟩
     ·obtain rfl:u=n:=(by omega);simp only[go_sem,q1,q2,q3,q4,q5,q10,q11,q12,q13,hub];exact⟨pv,l,hS,hL⟩
    ·rintro e s2 ⟨rfl,pv,l,a1,a2,a3,a4,a5,a10,a11,a12,⟨hFz,hOz⟩,hL⟩;have hFz1:=hFz.1;obtain⟨rk,hrk,hfz⟩:∃ rk,Hz.next<=rk/\Fz (fun id=>id=rk) s2.H s2.H.next pv (ae l):=by
      rcases hOz with ⟨hO1,hO2⟩|⟨id,gg,hO1,hO2,hO3,hO4⟩
      ·have:l=[]:=by cases l with
        | nil=>rfl
        | cons b l=>simp [ints]at hO2
       rw[hO1,this];exact⟨s2.H.next,hFz1,.nil⟩
      ·refine⟨id,hO1,?_⟩;rw[hO3,aO];refine .frz rfl hO4 (by rw[Nat.mul_one,aO]) fun j hj h2 h'=>?_;simp only[Nat.zero_add,ints,List.getElem_map];exact .lit _
     have hne2:H.next+2≠rk:=(by omega);refine⟨⟨s2.ρ,s2.H.eL rk (H.next+2) (.arr 0 69 ((bD ns).set (v*3+1) (ae l)))⟩,eu.eL aP hFz.2.2 hne2 (by simp) (C0 (Cu ns) hfz),Nat.le_refl _,trivial,?_⟩;obtain⟨Hm,hHm⟩:∃ Hm,Hm=s2.H.eL rk (H.next+2) (.arr 0 69 ((bD ns).set (v*3+1) (ae l))):=⟨_,rfl⟩
     rw[<- hHm];have hFm:kE Hz Hm (H.next+2) ((bD ns).set (v*3+1) (ae l)):=by
      rw[hHm];exact⟨hFz1,fun id h1 h2=>(yj (by omega) h2).trans (hFz.2.1 id h1 h2),yi hne2⟩
     clear hFz hOz hfz hHm hne2 hrk;simp only[go_sem];refine W.env fun E6 hE6=>?_;have y1:E6 1=.ptr H.next 0 0:=(by rw[hE6];simp only[go_sem,a1]);have y2:E6 2=.ptr (H.next+1) 0 0:=(by rw[hE6];simp only[go_sem,a2]);have y3:E6 3=aa n:=(by rw[hE6];simp only[go_sem,a3]);have y4:E6 4=.ptr (H.next+3) 0 0:=(by rw[hE6];simp only[go_sem,a4]);have y5:E6 5=ae P:=(by rw[hE6];simp only[go_sem,a5]);have y10:E6 10=aa i:=(by rw[hE6];simp only[go_sem,a10]);have y11:E6 11=.ptr Hy.next 0 0:=(by rw[hE6];simp only[go_sem,a11]);have y12:E6 12=aa v:=(by rw[hE6];simp only[go_sem,a12]);have y15:E6 15=aa 0:=(by rw[hE6];simp only[go_sem]);clear hE6 a1 a2 a3 a4 a5 a10 a11 a12;have lsm:dR (aS cs l):=mT (by rw[gO];have:=hL.p3;omega) fun c hc=>by
      unfold aS at hc;obtain⟨q,hq,rfl⟩:=List.mem_map.1 hc;have hqr:=hL.rng q hq;obtain⟨c,hc⟩:=get_of_lt (l:=cs) (i:=q.toNat) (by rw[csl];rcases hqr.2 with h|⟨_,k',h,_⟩<;>omega);rw[bE hc];have:=hc23 c (List.mem_of_getElem? hc);omega
     have lpos:0<au (aS cs l)/\au (aS cs l)<=27:=by
      have c3:∀ c∈aS cs l,1<=c/\c<=3:=fun c hc=>by
       unfold aS at hc;obtain⟨q,hq,rfl⟩:=List.mem_map.1 hc;have hqr:=hL.rng q hq;obtain⟨c,hc⟩:=get_of_lt (l:=cs) (i:=q.toNat) (by rw[csl];rcases hqr.2 with h|⟨_,k',h,_⟩<;>omega);rw[bE hc];have:=hc23 c (List.mem_of_getElem? hc);omega
      have h1:=iR fun c hc=>(c3 c hc).1;have h2:=(mK (b:=3) (by omega) fun c hc=>⟨by have:=(c3 c hc).1;omega,(c3 c hc).2⟩).2;have h3:(3:Int) ^ (aS cs l).length<=3 ^ 3:=by
       have:(3:Nat) ^ (aS cs l).length<=3 ^ 3:=Nat.pow_le_pow_right (by decide) (by rw[gO];exact hL.p3)
       exact_mod_cast this
      omega
     obtain⟨R,hR⟩:=Int.eq_ofNat_of_zero_le (show 0<=au (aS cs l) by omega);have hxc:2<=x.card/\x.card<=3:=hc23 x.card (by rw[<- L.cards];exact List.mem_of_getElem? (cI hx));have hFm1:=hFm.1;have w3:Hm.get (H.next+3)=some (.arr 0 35 [.lit (.int .i64 g),.own (H.next+2) 0 0 n 3]):=(hFm.2.1 _ (by omega) (by omega)).trans z3;have wP:Hm.get Hy.next=some (.arr 0 86 [.lit (.int .u8 pc),.lit (.int .u8 par),wv]):=(hFm.2.1 _ (by omega) (by omega)).trans zP;obtain⟨C1,hC1⟩:∃ C1,C1=(bD ns).set (v*3+1) (ae l):=⟨_,rfl⟩
     have c1l:C1.length=ns.length*3:=(by rw[hC1,List.length_set,hzl]);have hcx2:C1[v*3+2]?=some (.lit (.slice none 0 0)):=by
      have:=jX (f:=NodeP.cf) (z:=3) jv ns v 2 x hx (by omega);rw[hC1,List.getElem?_set_ne (by omega),show (bD ns)[v*3+2]?=_ from this];unfold NodeP.cf;rw[if_pos xr];rfl
     have hcx0:C1[v*3]?=some (aa x.card):=(by rw[hC1,List.getElem?_set_ne (by omega)];exact Cs hx);rw[<- hC1]at hFm;have hset2:∀ rv rv',setAt (C1.set (v*3+2) rv) (v*3+2) [rv']=C1.set (v*3+2) rv':=fun rv rv'=>by rw[iu (by rw[List.length_set];omega),List.set_set]
     have hgc2:∀ rv,(C1.set (v*3+2) rv)[v*3+2]?=some rv:=fun rv=>List.getElem?_set_self (by omega);have hgc0:∀ rv,(C1.set (v*3+2) rv)[v*3]?=some (aa x.card):=fun rv=>by rw[List.getElem?_set_ne (by omega)];exact hcx0
     refine W.yk (Q':=fun e s2=>e=.exit 8/\∃ (rv:AVal) (rows:List (List Int)),s2.ρ 1=.ptr H.next 0 0/\s2.ρ 2=.ptr (H.next+1) 0 0/\s2.ρ 3=aa n/\s2.ρ 4=.ptr (H.next+3) 0 0/\s2.ρ 5=ae P/\s2.ρ 10=aa i/\rows.length=R/\(∀ r∈rows,jz g x.card r)/\kE Hm s2.H (H.next+2) (C1.set (v*3+2) rv)/\aF Hm.next s2.H 39 rv (rows.map ae)) ?_ ?_
     ·refine W.aI 98079714615372285444537148491336716315054007096738611200 (by rfl) (fun ρ Hr=>∃ (r:Nat) (rv:AVal) (rows:List (List Int)),ρ 15=aa r/\r<=R/\rows.length=r/\(∀ r∈rows,jz g x.card r)/\kE Hm Hr (H.next+2) (C1.set (v*3+2) rv)/\aF Hm.next Hr 39 rv (rows.map ae)) (fun ρ H=>R - (iv (ρ 15)).toNat) ?_ ?_
      ·simp only[go_sem,y15];refine⟨0,.lit (.slice none 0 0),[],rfl,by omega,rfl,by simp,⟨Nat.le_refl _,fun _ _ _=>rfl,?_⟩,.nil⟩;rw[hFm.2.2,lR hcx2]
      rintro ρr Hr ⟨r,rv,rows,h15,hr,hrl,hrows,hFr,hOr⟩;refine W.env fun E7 hE7=>?_;have b1:E7 1=.ptr H.next 0 0:=(by rw[hE7];simp only[go_sem,y1]);have b2:E7 2=.ptr (H.next+1) 0 0:=(by rw[hE7];simp only[go_sem,y2]);have b3:E7 3=aa n:=(by rw[hE7];simp only[go_sem,y3]);have b4:E7 4=.ptr (H.next+3) 0 0:=(by rw[hE7];simp only[go_sem,y4]);have b5:E7 5=ae P:=(by rw[hE7];simp only[go_sem,y5]);have b10:E7 10=aa i:=(by rw[hE7];simp only[go_sem,y10]);have b11:E7 11=.ptr Hy.next 0 0:=(by rw[hE7];simp only[go_sem,y11]);have b12:E7 12=aa v:=(by rw[hE7];simp only[go_sem,y12]);have b15:E7 15=aa r:=(by rw[hE7];simp only[go_sem,h15]);clear hE7;refine ab _ _ _ (by rfl) ?_;have hFr1:=hFr.1;have v3:=ak ((hFr.2.1 (H.next+3) (by omega) (by omega)).trans w3);have vP:=ak ((hFr.2.1 Hy.next (by omega) (by omega)).trans wP);have vN:=ak hFr.2.2;have hzp:∀ z∈ns,z.rows=[]->z.parents=[]:=fun z hz hz0=>by
       obtain⟨u,hu⟩:=List.mem_iff_getElem?.1 hz;have hm:=tU ord n u (by have:=get_lt hu;omega);rw[<- hP]at hm;obtain⟨j,hj⟩:=List.mem_iff_getElem?.1 hm;rcases Nat.lt_or_ge j i with h|h
       ·exact absurd hz0 (L.done j u z h hj hu).ne
       ·exact(L.todo j u z h hj hu).2
      have hcard:ar (ns.set v ⟨x.card,l,rows⟩)=cs:=by
       have h1:ar (ns.set v ⟨x.card,l,rows⟩)=(ar ns).set v x.card:=(by unfold ar;rw[List.map_set]);rw[h1,lR (cI hx),L.cards]
      have hpar:aR (ns.set v ⟨x.card,l,rows⟩) ⟨x.card,l,rows⟩=aS cs l:=(by unfold aR;rw[hcard]);have fzN:Fz (fun _=>True) Hr 0 (.agg [aa g,.own (H.next+2) 0 0 n 3]) (aY g (ns.set v ⟨x.card,l,rows⟩)):=by
       refine .agg rfl fun i hi _=>?_
       match i,hi with
       | 0,_=>exact .lit _
       | 1,_ =>
        show Fz _ _ _ _ (.vec (ns.set v ⟨x.card,l,rows⟩).length (az (ns.set v ⟨x.card,l,rows⟩)));rw[List.length_set,hnl,OY (y:=⟨x.card,l,rows⟩) hx rfl];refine .frz trivial hFr.2.2 (by rw[List.length_set,List.length_set,jq];omega) fun j hj h2 h'=>?_;simp only[Nat.zero_add];refine Ct (A:=C1) (B:=(az ns).set (v*3+1) (ae l)) ?_ ?_ j _ _
        ·rw[hC1];exact Ct (OX ns hzp) (.dw _)
        ·have:=hOr.fz (S:=fun _=>True) (nx:=0) (cs':=rows.map ae) (fun _ _=>trivial) rfl fun i hi _=>by simp only[List.getElem_map];exact .dw _
         rw[List.length_map]at this;exact this
      simp only[go_sem,b4,b12,b15,v3];refine aw.clo ((af.frame (H:=Hr) (args:=[.agg [aa g,.own (H.next+2) 0 0 n 3],aa v]) (args':=[aY g (ns.set v ⟨x.card,l,rows⟩),aa v]) (v':=ae (aS cs l)) aP rfl (fun i hi _=>?_) (O0 g (ns.set v ⟨x.card,l,rows⟩) v ⟨x.card,l,rows⟩ (List.getElem?_set_self hvn) (by rw[List.length_set];omega) (by show (l.length:Int)<_;have:=hL.p3;omega) (fun q hq=>by
        have hqr:=hL.rng q hq;rw[List.length_set];rcases hqr.2 with h|⟨_,k',h,_⟩<;>omega) cF _ fun w Hq _ ho=>⟨_,rfl,by rw[hpar]at ho;exact ho.qQ⟩)).mono fun r1 H1' hr1=>?_)
      ·match i,hi with
       | 0,_=>exact fzN
       | 1,_=>exact .lit _
      obtain⟨rfl,rfl⟩:=hr1;refine⟨trivial,?_⟩;simp only[go_sem];refine aw.clo (xZ (aS cs l) lsm _ _ ⟨trivial,?_⟩);rw[hR];by_cases hrR:(r:Int)<R
      ·simp only[go_sem,hrR];obtain⟨xn,hxn⟩:=Int.eq_ofNat_of_zero_le (show 0<=x.card by omega);have rc:0<=(r:Int)*(x.card+1)/\(r:Int)*(x.card+1)<=27*4:=⟨Int.mul_nonneg (by omega) (by omega),Int.mul_le_mul (by omega) (by omega) (by omega) (by omega)⟩
       have c1:=IntWalk.i64_in (x.card+1) (by omega);have c2:=IntWalk.i64_in ((r:Int)*(x.card+1)) (by omega);have c3:=IntWalk.i64_in ((r:Int)+1) (by omega);have hg2:=hgc2 rv;have hg0':=hgc0 rv;have hg2n:=aJ hg2;obtain⟨row,hrow⟩:∃ row,row=oY g xn bs ((r:Int)*(x.card+1)):=⟨_,rfl⟩
       have hrok:jz g x.card row:=(by rw[hrow,hxn];exact OT hg1.1 (by omega) _ _);have hpc84:∀ Hq,dI Try.prog G0 (.clo 38 [] []) [aa g,aa x.card,wv,aa ((r:Int)*(x.card+1))] Hq (ae row) []:=fun Hq=>by
        refine dI.mk (fun i hi=>by cases hi) fun H2 _ _=>?_;refine af.frame (H:=H2) (args:=[aa g,aa x.card,wv,aa ((r:Int)*(x.card+1))]) (args':=[aa g,aa xn,.vec bs.length (aX bs),aa ((r:Int)*(x.card+1))]) (v':=ae row) aP rfl (fun i hi _=>?_) (OU g xn hg1 (by omega) bs hbl hbs _ (by omega) cF _ fun w Hw _ ho=>⟨_,rfl,by rw[hrow];exact ho.qQ⟩)
        match i,hi with
        | 0,_=>exact .lit _
        | 1,_=>rw[hxn];exact .lit _
        | 2,_=>exact hwf _
        | 3,_=>exact .lit _
       obtain⟨rv',Hj,hA,hO',hn',hpr'⟩:=jK (P:=Try.prog) (H:=H1') (t:=40) (x:=ae row) (n:=H1'.next+1) Try.underlying40 Try.mE Try.mG rfl (by rw[Try.mF,List.length_map];omega) hOr hFr1 rfl;have keep:∀ id,id<Hm.next->Hj.get id=H1'.get id:=fun id h=>hpr' id (by omega) (hOr.ne h);have v3j:=ak ((keep _ (by omega)).trans ((hFr.2.1 (H.next+3) (by omega) (by omega)).trans w3));have vNj:=ak ((keep _ (by omega)).trans hFr.2.2);have hA':bA Try.prog (ext H1' [.arr 0 39 [.vec row.length (ints row)]]) (H1'.next+1) 40 40 rv (.own H1'.next 0 0 1 1)=some (rv',Hj):=hA;refine W.draw 31 [0,1,0,0,8,0,56,120,248,0,512,0,2048,0,14336,30720,63488,0,131072,0,0,1048576,0,7340032,15728640,32505856,66060288,133693440,268434944,536870400,1073741816] Try.mixed (by kernel_rfl) (by kernel_rfl) ?_;simp only[go_sem,b4,b11,b12,b15,v3,vP,vN,hg2,hg0',vlt,v0,c1,c2];refine⟨ae row,[],hpc84 _,?_⟩;simp only[go_sem,b4,b11,b12,b15,vNj,vlt,v0,c3,hA'];have hdj:kR (if jI rv=true then { eff:=aH rv,rs:=aH rv++[H1'.next] } else { eff:=[H1'.next+1],rs:=[H1'.next] }) { eff:=[],rs:=[H.next+3] }:=by
        rcases hOr with ⟨hO1,_⟩|⟨id,gg,hO1,hO2,hO3,_⟩
        ·rw[hO1];show kR { eff:=[H1'.next+1],rs:=[H1'.next] } _;exact⟨fun a ha=>by (obtain rfl:a=H1'.next+1:=by simpa using ha);simp;omega,fun a ha=>by simp at ha⟩
        ·rw[hO3];show kR { eff:=[id],rs:=[id]++[H1'.next] } _;exact⟨fun a ha=>by (obtain rfl:a=id:=by simpa using ha);simp;omega,fun a ha=>by simp at ha⟩
       rw[hO'.cells];refine⟨⟨by omega,by omega,by omega,by omega,by omega,by omega,by omega⟩,⟨hdj,hdj⟩,⟨rfl,by simp [hO'.one],by rw[List.length_set,c1l];simp;omega⟩,by rw[aA];omega,⟨r+1,rv',rows++[row],rfl,by omega,by simp [hrl],fun q hq=>?_,⟨by rw[aA];omega,fun id h1 h2=>by rw[ag,if_neg h2,keep _ h1];exact hFr.2.1 id h1 h2,?_⟩,?_⟩,by rw[h15];simp only[aa,aK];omega⟩
       ·rcases List.mem_append.1 hq with h|h
        ·exact hrows q h
        ·obtain rfl:=List.mem_singleton.1 h;exact hrok
       ·rw[ag,if_pos rfl,hset2]
       ·have:=hO'.keep (lo':=Hm.next) (H':=Hj.upd (H.next+2) (.arr 0 69 (setAt (C1.set (v*3+2) rv) (v*3+2) [rv']))) (Nat.le_refl _) (Nat.le_refl _) fun id _ h1 _ _ _=>by rw[ag,if_neg (by omega)]
        simpa using this
      ·simp only[go_sem,b1,b2,b3,b4,b5,b10,hrR];exact⟨rv,rows,by omega,hrows,hFr,hOr⟩
     ·rintro e s3 ⟨rfl,rv,rows,a1,a2,a3,a4,a5,a10,hrl,hrows,hFr,hOr⟩;have hFr1:=hFr.1;obtain⟨rk,hrk,hfz⟩:∃ rk,Hm.next<=rk/\Fz (fun id=>id=rk) s3.H s3.H.next rv (aC rows):=by
       rcases hOr with ⟨hO1,hO2⟩|⟨id,gg,hO1,hO2,hO3,hO4⟩
       ·have:rows=[]:=by cases rows with
         | nil=>rfl
         | cons b l=>simp at hO2
        rw[hO1,this];exact⟨s3.H.next,hFr1,.nil⟩
       ·refine⟨id,hO1,?_⟩;rw[hO3,List.length_map];refine .frz rfl hO4 (by rw[Nat.mul_one,List.length_map]) fun j hj h2 h'=>?_;simp only[Nat.zero_add,List.getElem_map];exact .dw _
      have hne2:H.next+2≠rk:=(by omega);have hC1z:∀ c∈C1,Fz (fun id=>id=rk) s3.H s3.H.next c c:=fun c hc=>by
       rw[hC1]at hc;rcases List.mem_or_eq_of_mem_set hc with h|h
       ·exact Cu ns c h
       ·rw[h];exact .dw _
      refine⟨⟨s3.ρ,s3.H.eL rk (H.next+2) (.arr 0 69 (C1.set (v*3+2) (aC rows)))⟩,eu.eL aP hFr.2.2 hne2 (by simp) (C0 hC1z hfz),Nat.le_refl _,trivial,?_⟩;obtain⟨He,hHe⟩:∃ He,He=s3.H.eL rk (H.next+2) (.arr 0 69 (C1.set (v*3+2) (aC rows))):=⟨_,rfl⟩
      rw[<- hHe];have hFe:kE Hm He (H.next+2) (C1.set (v*3+2) (aC rows)):=by
       rw[hHe];exact⟨hFr1,fun id h1 h2=>(yj (by omega) h2).trans (hFr.2.1 id h1 h2),yi hne2⟩
      clear hFr hOr hfz hHe hne2 hrk;have hFe1:=hFe.1;have i1:=IntWalk.i64_in ((i:Int)+1) (by omega);simp only[go_sem,a10,i1];have hiv:∀ j u:Nat,P[j]?=some (u:Int)->u=v->j=i:=fun j u h1 h2=>by
       subst h2;exact(List.getElem?_inj (get_lt h1) hperm.nd).1 (by rw[h1,hpv])
      have hrne:rows≠[]:=fun h=>by rw[h]at hrl;simp at hrl;omega
      have hdone:DoneN g cs P n i ⟨x.card,l,rows⟩:=⟨⟨hL.pw,fun q hq=>⟨(hL.rng q hq).1,by rcases(hL.rng q hq).2 with h|⟨_,k',h,_⟩<;>omega⟩⟩,hL.p3,hL.rk,by show (rows.length:Int)=_;rw[hrl,hR],hrows,hrne⟩
      refine⟨by omega,⟨i+1,ns.set v ⟨x.card,l,rows⟩,rfl,by omega,⟨by rw[List.length_set];exact hnl,?_,fun j u z hj hu hz=>?_,fun j u z hj hu hz=>?_⟩,by omega,by omega,fun id h1 h2=>?_,?_⟩,by rw[h10];simp only[aa,aK];omega⟩
      ·have h1:ar (ns.set v ⟨x.card,l,rows⟩)=(ar ns).set v x.card:=(by unfold ar;rw[List.map_set]);rw[h1,lR (cI hx),L.cards]
      ·have huv:¬ u=v:=fun h=>by have:=hiv j u hu h;omega
       rw[List.getElem?_set_ne (by omega)]at hz;exact L.todo j u z (by omega) hu hz
      ·by_cases huv:u=v
       ·obtain rfl:=hiv j u hu huv;rw[huv,List.getElem?_set_self hvn]at hz;cases hz;exact hdone
       ·rw[List.getElem?_set_ne (by omega)]at hz;have:j≠i:=fun h=>by
         rw[h,hpv]at hu;exact huv (by have:=Option.some.inj hu;omega)
        exact L.done j u z (by omega) hu hz
      ·rw[hFe.2.1 id (by omega) h2,hFm.2.1 id (by omega) h2];exact zO id h1 h2
      ·rw[hFe.2.2,O3 (y:=⟨x.card,l,rows⟩) hx rfl hrne,hC1]
  ·obtain rfl:i=n:=(by omega);simp only[go_sem,e2,e3,e4,e10,hb,m1,m3];have hnl:=L.len;have hall:∀ v:Nat,v<ns.length->(v:Int)∈P:=fun v hv=>by rw[hP];exact tU ord i v (by omega)
   have hdn:∀ (v:Nat) (x:NodeP),ns[v]?=some x->∃ j,DoneN g cs P i j x:=fun v x hx=>by
    obtain⟨j,hj⟩:=List.mem_iff_getElem?.1 (hall v (get_lt hx));exact⟨j,L.done j v x (by have:=get_lt hj;have:=hperm.len;omega) hj hx⟩
   have hdm:∀ x∈ns,∃ j,DoneN g cs P i j x:=fun x hx=>by
    obtain⟨v,hv⟩:=List.mem_iff_getElem?.1 hx;exact hdn v x hv
   have ov:Over H (Hy.upd (H.next+1) (.arr 0 35 [.lit (.int .i64 g),.own (H.next+2) 0 0 i 3])):=⟨by rw[aA];omega,fun id h=>by rw[ag,if_neg (by omega),hF.2.1 id (by omega) (by omega)];exact o1.old id h⟩
   have hz:bD ns=az ns:=OV fun x hx=>(hdm x hx).elim fun j hj=>hj.ne;have hcl8:∀ x∈ns,2<=x.card/\x.card<=3:=fun x hx=>hc23 x.card (by rw[<- L.cards];exact List.mem_map.2 ⟨x,hx,rfl⟩);have hnet:NetOk g ns:=by
    refine⟨hg1,by omega,fun x hx=>?_,?_,O1 (P:=P) (by rw[hnl];exact hperm) hall fun j v x hj hx q hq=>?_,fun x hx=>?_⟩
    ·obtain⟨j,hj⟩:=hdm x hx;have:=hcl8 x hx;exact⟨by omega,by rw[hnl];exact hj.pl⟩
    ·have h2:=(mK (b:=3) (by omega) (l:=ar ns) fun c hc=>by have:=hc23 c (by rw[<- L.cards];exact hc);omega).2;have h3:(3:Int) ^ (ar ns).length<=3 ^ 5:=by
      have:(3:Nat) ^ (ar ns).length<=3 ^ 5:=Nat.pow_le_pow_right (by decide) (by rw[bO];omega)
      exact_mod_cast this
     omega
    ·have hd:=L.done j v x (by have:=get_lt hj;have:=hperm.len;omega) hj hx;exact⟨(hd.pl.2 q hq).1,hd.rk q hq⟩
    ·obtain⟨j,hj⟩:=hdm x hx;unfold iq aR;rw[L.cards];exact⟨hj.rl,hj.ro⟩
   rw[<- hnl];rw[<- hnl]at ov;refine av.mk ov.next (hK g ns (H.next+2) _ ov (by omega) (by rw[aA];omega) ?_ hnet (by omega) fun x hx=>?_)
   ·rw[ag,if_neg (by omega),hF.2.2,hz]
   ·obtain⟨j,hj⟩:=hdm x hx;exact hj.p3
def C4 (args:Array Value):Sem Value:=do
  let (x, y, c) ← Extern.MathBitsCarry.three "Add64" args
  pure (Extern.MathBitsCarry.pair ((x+y+c) % Extern.MathBitsCarry.m64) ((x+y+c) / Extern.MathBitsCarry.m64))
def dD:List AVal->Option AVal
  | [.lit (.int .u64 a),.lit (.int .u64 b),.lit (.int .u64 c)]=>bif Nat.ble c.toNat 1 then some (.tup [.lit (.int .u64 (Int.ofNat ((a.toNat+b.toNat+c.toNat) % 18446744073709551616))),.lit (.int .u64 (Int.ofNat ((a.toNat+b.toNat+c.toNat) / 18446744073709551616)))]) else none
  | _=>none
theorem P9 {P:Program}(a b:Nat)(Γ:aB)(H:AHeap)(w:World):RelV P Γ H w (.tup [.lit (.int .u64 (Int.ofNat a)),.lit (.int .u64 (Int.ofNat b))]) (Extern.MathBitsCarry.pair a b):=by
  unfold Extern.MathBitsCarry.pair;refine RelV.tup (cs:=[.int .u64 (Int.ofNat a),.int .u64 (Int.ofNat b)]) rfl fun i h _=>?_
  match i,h with
  | 0,_=>exact .lit _
  | 1,_=>exact .lit _
theorem Qa {P:Program}(s:String)(w:World)(a b c:Int)(hc:¬ c.toNat > 1):(Extern.MathBitsCarry.three s #[.int .u64 a,.int .u64 b,.int .u64 c]).run P w=.ok (a.toNat,b.toNat,c.toNat) w:=by
  have h1:∀ x:Int,(asInt (.int .u64 x)).run P w=.ok x w:=fun x=>rfl;show (do
    let c:=(<- asInt (.int .u64 c)).toNat
    if c > 1 then unsupported _
    pure ((<- asInt (.int .u64 a)).toNat,(<- asInt (.int .u64 b)).toNat,c):Sem (Nat × Nat × Nat)).run P w=_
  rw[ao (h1 c)];simp only[hc,if_false];rfl
theorem Qb {a b c:Int}{r:AVal}(h:dD [.lit (.int .u64 a),.lit (.int .u64 b),.lit (.int .u64 c)]=some r){H:AHeap}{K:ARes->AHeap->Prop}(hK:K (.ret r) H):aw Try.prog qs (.clo 78 [] []) [.lit (.int .u64 a),.lit (.int .u64 b),.lit (.int .u64 c)] H K:=by
  simp only[dD]at h;cases hb:Nat.ble c.toNat 1 with
  | false=>rw[hb]at h;cases h
  | true =>
    rw[hb]at h;have hc:¬ c.toNat > 1:=(by have:=Nat.le_of_ble_eq_true hb;omega);cases h;refine aw.ext (e:=C4) (vs:=[.int .u64 a,.int .u64 b,.int .u64 c]) Try.func78 rfl (by kernel_rfl) (by kernel_rfl) (by kernel_rfl) rfl (fun w=>?_) (fun Γ H w=>P9 _ _ Γ H w) hK;unfold C4;rw[ao (Qa _ w a b c hc)];rfl
theorem Qc:∀ {args:List AVal} {r:AVal},dD args=some r->∃ a b c,args=[.lit (.int .u64 a),.lit (.int .u64 b),.lit (.int .u64 c)]:=by
  intro args r h;unfold dD at h;split at h
  · exact⟨_,_,_,rfl⟩
  · cases h
def yl:FuncId->Option (List AVal->Option AVal):=fun f=>bif Nat.beq f 78 then some dD else none
theorem Qd {E:EP}(hP:E.P=Try.prog)(hG:E.G=qs)(hx:E.ext=yl):ow E:=by
  intro f e h args r hr H K hK;rw[hx]at h;rw[hP,hG];unfold yl at h;cases h1:Nat.beq f 78 with
  | true =>
    rw[h1]at h;have e1:=Nat.eq_of_beq_eq_true h1;subst e1;cases h;obtain⟨a,b,c,rfl⟩:=Qc hr;exact Qb hr hK
  | false=>rw[h1]at h;cases h
noncomputable def Try.C5:EP:={ P:=Try.prog,G:=G0,gd:=fun _=>none,known:=tn [],ext:=yl }
theorem Try.Qf:EOk Try.C5:=.KI (l:=[]) rfl aP Try.mixed (fun _ _ h=>by cases h) trivial (Qd rfl rfl rfl)
theorem Try.Qg:wT Try.C5 1000000 17 [] (.lit (.bool true))=true:=by kernel_rfl
theorem Qh (H:AHeap)(K:ARes->AHeap->Prop)(hK:K (.ret (.lit (.bool true))) H):af Try.prog G0 17 [] H K :=
 (af.frame (args':=[]) aP rfl (fun i h _=>absurd h (Nat.not_lt_zero _)) (KJ Try.Qf Try.Qg)).mono fun r H' ⟨h1,h2⟩=>by rw[h1,h2];exact hK
end Go.Proofs
namespace Go.Hx
variable {P:Program} {G:Nat->Option (List AVal)}
theorem Qe {H:AHeap}(hc:Clo H):FzH (fun _=>False) H H where
 gone id hs:=hs.elim
 kept id b _ hb:=by
  have hbb:=hc.below id b hb;refine⟨hc.lt id b hb,b,hb,?_⟩;cases b with
  | rsv=>trivial
  | mp=>rfl
  | arr g e cells=>exact⟨rfl,rfl,rfl,fun i h _=>.dead (hbb i h)⟩
  | loop st pend n env ps asg body=>exact⟨rfl,rfl,rfl,rfl,rfl,rfl,rfl,fun t ht=>.dead (hbb t ht)⟩
 none id _ hb:=hb
theorem af.lU {H:AHeap}{f:FuncId}{args args':List AVal}{K:ARes->AHeap->Prop}(hG:fV G)(hl:args'.length=args.length)(hv:∀ i (h:i<args.length) (h':i<args'.length),Fz (fun _=>False) H H.next args[i] args'[i])
  (h:af P G f args' H K):af P G f args H K:=by
 refine⟨h.1,fun Γ w cargs R hr=>?_⟩;have F:=Qe R.clo;have R0:=F.rel hG R;have E0:Evo Γ H w (eZ (fun _=>False) Γ) H w:=F.aV;refine(h.2 _ w cargs R0 ⟨by have:=hr.1;omega,fun i h1 h2=>(hv i (by omega) h1).sound R F (hr.2 i (by omega) h2)⟩).mono ?_;rintro e w' ⟨r,H',Γ',h1,h2,h3,h4,h5⟩;exact⟨r,H',Γ',h1,h2,h3,E0.trans (Nat.le_refl _) h4,h5⟩
end Go.Hx
namespace Go.Proofs
open Go.Hx
theorem LU {S:Nat->Prop}{H:AHeap}{nx:Nat}(l:List NodeP):∀ c∈az l,Fz S H nx c c:=by
 intro c hc;unfold az at hc;obtain⟨r,hr,hc⟩:=List.mem_flatten.1 hc;obtain⟨x,_,rfl⟩:=List.mem_map.1 hr;unfold NodeP.cells at hc;simp only[List.mem_cons,List.not_mem_nil,or_false]at hc;rcases hc with rfl|rfl|rfl
 ·exact .lit _
 ·exact .dw _
 ·exact qG _
noncomputable def tC (g:Int)(ns:List NodeP)(cs:List Int)(xs:List (List Int))(v:Int):Int:=if fD g ns cs xs≠0 then fD g ns cs xs else if v<0\/v >= ns.length then 2 else if lp ns xs=true then 0 else 7
noncomputable def tD (g:Int)(ns:List NodeP)(cs:List Int)(xs:List (List Int))(v:Int):List Int:=if fD g ns cs xs≠0 then [] else if v<0\/v >= ns.length then [] else if lp ns xs=true then eE ns (ns.getD v.toNat ⟨0,[],[]⟩) v.toNat xs else []
theorem LV (g:Int)(ns:List NodeP)(cs:List Int)(xs:List (List Int))(v:Int):tz g ns cs xs v=.tup [ae (tD g ns cs xs v),aa (tC g ns cs xs v)]:=by
 unfold tz tD tC;split
 ·rfl
 ·split
  ·rfl
  ·split<;>rfl
def qw (g0:Int)(ps:List DrP)(ord:List Int)(cw ca cr cn:Int)(ws ms:List Int)(bw ba bn:Int):List AVal :=
 [.lit (.int .u8 g0),.vec ps.length (eJ ps),.vec ord.length (aX ord),.lit (.int .u8 cw),.lit (.int .u8 ca),.lit (.int .u8 cr),.lit (.int .i64 cn),.vec ws.length (fQ ws),.vec ms.length (aX ms),.lit (.int .u8 bw),.lit (.int .u8 ba),.lit (.int .i64 bn)]
theorem LW {g:Int}{ns:List NodeP}(hok:NetOk g ns)(hp3:∀ x∈ns,x.parents.length<=3):SmallN 600 ns:=by
 have nn8:=hok.n1.2;refine⟨by omega,fun x hx=>?_⟩;have hx3:=hp3 x hx;have hrow:=hok.rows x hx;have hin:gp x.parents ns.length:=fun q hq=>by have:=(hok.node x hx).2.2 q hq;omega
 have hpc:=CQ hin fun y hy=>(hok.node y hy).1;have hpl3:(aR ns x).length<=3:=by rw[show (aR ns x).length=_ from gO _ _];exact hx3
 have hp:=mK (b:=4) (by omega) (l:=aR ns x) fun c hc=>by have:=hpc c hc;omega
 have h4:(4:Nat) ^ (aR ns x).length<=4 ^ 3:=Nat.pow_le_pow_right (by decide) hpl3;have h5:((4:Int) ^ (aR ns x).length)<=4 ^ 3:=by exact_mod_cast h4
 have h6:(4:Int) ^ 3=64:=by decide
 have hcard:=(hok.node x hx).1;exact⟨by omega,by have:=hrow.1;omega,fun r hr=>by have:=(hrow.2 r hr).1;exact⟨fun e=>by rw[e]at this;simp at this;omega,by omega⟩⟩
set_option maxHeartbeats 8000000 in
theorem LX (g0:Int)(ps:List DrP)(ord:List Int)(hg0:U8 g0)(hps:∀ x∈ps,x.Ok)(hpl:(ps.length:Int)<2 ^ 63)(hol:(ord.length:Int)<2 ^ 63)(ho8:∀ x∈ord,U8 x)
  (cw ca cr cn:Int) (hcw:U8 cw) (hca:U8 ca) (hcr:U8 cr) (ws ms:List Int) (hws:∀ x∈ws,0<=x/\x<65536) (hms:∀ x∈ms,0<=x/\x<256) (hwl:(ws.length:Int)<2 ^ 63) (hml:(ms.length:Int)<2 ^ 63)
  (bw ba bn:Int) (hbw:U8 bw) (hba:U8 ba) (v:Int) (H:AHeap) (K:ARes->AHeap->Prop) (hK:∀ H',H.next<=H'.next->K (.ret (.lit (.bool true))) H'):
  af Try.prog G0 3 [.agg (qw g0 ps ord cw ca cr cn ws ms bw ba bn),aa v] H K:=by
 refine af.dv (n:=93) (rs:=[.tmp 4]) Try.func3 rfl rfl rfl (by decide) (by simp) ?_;refine W.seq (ab _ _ _ (by rfl) ?_);simp only[go_sem,qw];obtain⟨H1,hH1⟩:∃ H1,H1=ext H [.arr 0 32 (qw g0 ps ord cw ca cr cn ws ms bw ba bn)]:=⟨_,rfl⟩
 have b0:H1.get H.next=some (.arr 0 32 [.lit (.int .u8 g0),.vec ps.length (eJ ps),.vec ord.length (aX ord),.lit (.int .u8 cw),.lit (.int .u8 ca),.lit (.int .u8 cr),.lit (.int .i64 cn),.vec ws.length (fQ ws),.vec ms.length (aX ms),.lit (.int .u8 bw),.lit (.int .u8 ba),.lit (.int .i64 bn)]):=by rw[hH1];exact cS ..
 have n1:H1.next=H.next+1:=by rw[hH1];rfl
 have o1:Over H H1:=by rw[hH1];exact .ext _ _
 refine W.env fun E hE=>?_;have e1:E 1=aa v:=by rw[hE];simp only[go_sem]
 have e2:E 2=.ptr H.next 0 0:=by rw[hE];simp only[go_sem]
 clear hE;show W _ _ _ _ _ _ ⟨E,ext H [.arr 0 32 (qw g0 ps ord cw ca cr cn ws ms bw ba bn)]⟩;rw[<- hH1];clear hH1;have l0:=ak b0;refine W.seq (ab _ _ _ (by rfl) ?_);simp only[go_sem,e2,l0];refine aw.clo (O4 g0 ps ord hg0 hps hpl hol ho8 _ _ fun g ns N H2 o2 hN1 hN2 hN hok hn5 hp3=>⟨trivial,?_⟩);simp only[go_sem];have o2n:=o2.next;have hob:(ext H2 [.arr 0 35 [.lit (.int .i64 g),.own N 0 0 ns.length 3]]).get H2.next=some (.arr 0 35 [.lit (.int .i64 g),.own N 0 0 ns.length 3]):=cP;refine W.DZ (eu.eL aP (rk:=N) (ob:=H2.next) (cells':=[.lit (.int .i64 g),.vec ns.length (az ns)]) hob (by omega) rfl (fun i hi _=>?_)) (Nat.le_refl _) trivial ?_
 ·match i,hi with
  | 0,_=>exact .lit _
  | 1,_=>exact .frz (cells:=az ns) rfl (by show (ext H2 _).get N=_;rw[cb _ _ _ hN2];exact hN) (jq ns) fun j h1 h2 h3=>by simp only[Nat.zero_add];exact LU ns _ (List.getElem_mem _)
 obtain⟨H3,hH3⟩:∃ H3,H3=(ext H2 [.arr 0 35 [.lit (.int .i64 g),.own N 0 0 ns.length 3]]).eL N H2.next (.arr 0 35 [.lit (.int .i64 g),.vec ns.length (az ns)]):=⟨_,rfl⟩
 have n3:H3.next=H2.next+1:=by rw[hH3];rfl
 have g3:∀ id,id<H.next+1->H3.get id=H1.get id:=fun id h=>by
  rw[hH3,yj (by omega) (by omega),cb _ _ _ (by omega)];exact o2.old id (by omega)
 have gn:H3.get H2.next=some (.arr 0 35 [.lit (.int .i64 g),.vec ns.length (az ns)]):=by rw[hH3];exact yi (by omega)
 refine W.env fun E1 hE1=>?_;have f1:E1 1=aa v:=by rw[hE1];simp only[go_sem,e1]
 have f2:E1 2=.ptr H.next 0 0:=by rw[hE1];simp only[go_sem,e2]
 have f5:E1 5=.ptr H2.next 0 0:=by rw[hE1];simp only[go_sem]
 clear hE1 e1 e2;rw[<- hH3];clear hH3 hob;have ln:=ak gn;have ls:=ak ((g3 _ (by omega)).trans b0);have nn8:=hok.n1.2;have nn1:=hok.n1.1;have sm:=LW hok hp3;obtain⟨B,hB⟩:∃ B,B=ie (cw % 12) (ca % (ns.length:Int)).toNat cr cn g ns:=⟨_,rfl⟩
 obtain⟨bS,bQ,bL⟩:=Mn (A:=(ca % (ns.length:Int)).toNat) (c:=cw % 12) (r:=cr) (n:=cn) (g:=g) sm;rw[<- hB]at bS bQ bL;refine W.seq (W.seq ?_);refine W.draw 7 [0,0,2,0,14,31,0] Try.mixed (by kernel_rfl) (by kernel_rfl) ?_;simp only[go_sem,f2,f5,ls,ln];refine⟨.agg [aa B.1,.vec B.2.1.length B.2.2],[],dI.pure (fun Hz=>L8 cw ca cr cn (by unfold U8 at hcw;omega) (by unfold U8 at hca;omega) (by unfold U8 at hcr;omega) g ns 600 (by omega) sm Hz _ fun g2 ns2 c2 h2 _ _ _=>⟨by rw[hB,<- h2],rfl⟩),?_⟩;simp only[go_sem];refine W.block ?_;obtain⟨L4,hL4⟩:∃ L4,L4=[AVal.lit (.int .i64 g),.vec ns.length (az ns),.lit (.int .i64 B.1),.vec B.2.1.length B.2.2]:=⟨_,rfl⟩
 refine W.env fun E3 hE3=>?_;have m1:E3 1=aa v:=by rw[hE3];simp only[go_sem,f1]
 have m2:E3 2=.ptr H.next 0 0:=by rw[hE3];simp only[go_sem,f2]
 have m5:E3 5=.ptr H2.next 0 0:=by rw[hE3];simp only[go_sem,f5]
 have m24:E3 24=.agg L4:=by rw[hE3,hL4];simp only[go_sem]
 have m25:E3 25=aa 0:=by rw[hE3];simp only[go_sem]
 clear hE3;refine W.aI 4951760157141521099563006608 (by kernel_rfl) (fun ρ Hx=>Over H3 Hx/\∃ k:Nat,ρ 25=aa k/\k<=2) (fun ρ H=>2 - (iv (ρ 25)).toNat) ?_ ?_
 ·exact⟨.refl _,0,m25,by omega⟩
 rintro ρ2 Hx ⟨ov,k,h25,hk⟩;have ovn:=ov.next;refine W.env fun E hE=>?_;have q1:E 1=aa v:=by rw[hE];simp only[go_sem,m1]
 have q2:E 2=.ptr H.next 0 0:=by rw[hE];simp only[go_sem,m2]
 have q5:E 5=.ptr H2.next 0 0:=by rw[hE];simp only[go_sem,m5]
 have q24:E 24=.agg L4:=by rw[hE];simp only[go_sem,m24]
 have q25:E 25=aa k:=by rw[hE];simp only[go_sem,h25]
 clear hE;by_cases hb:(k:Int)<2;rotate_left
 ·refine ab _ _ _ (by rfl) ?_;simp only[go_sem,q25,hb];refine ab _ _ _ (by rfl) ?_;simp only[go_sem];refine aw.clo (Qh _ _ ⟨trivial,?_⟩);simp only[go_sem];exact av.mk (by have:=o1.next;omega) (hK _ (by have:=o1.next;omega))
 obtain⟨gk,nk,ck,hpart,fitN,eN,hQ⟩:∃ (gk:Int) (nk:List NodeP) (ck:List AVal),(L4.drop (k*2)).take 2=[.lit (.int .i64 gk),.vec nk.length ck]/\jY nk/\∃ e:Nat->Prop,NodesQ e nk ck:=by
  have hk2:k=0\/k=1:=by omega
  rcases hk2 with rfl|rfl
  ·exact⟨g,ns,az ns,by rw[hL4];rfl,sm.fit (by omega),fun _=>False,⟨jq ns,fun v x hx=>⟨_,js hx,lH hx,oT hx,.inl rfl,fun h=>h.elim⟩⟩⟩
  ·exact⟨B.1,B.2.1,B.2.2,by rw[hL4];rfl,bS.fit (by omega),_,bQ⟩
 have l4:L4.length=4:=by rw[hL4];rfl
 have kb:k*2+2<=4:=by omega
 have lnE:∀ L,(ext Hx L).live H2.next 0=some (35,[.lit (.int .i64 g),.vec ns.length (az ns)]):=fun L=>(eQ (by omega)).trans (ak ((ov.old _ (by omega)).trans gn));have lsE:∀ L,(ext Hx L).live H.next 0=some (32,[.lit (.int .u8 g0),.vec ps.length (eJ ps),.vec ord.length (aX ord),.lit (.int .u8 cw),.lit (.int .u8 ca),.lit (.int .u8 cr),.lit (.int .i64 cn),.vec ws.length (fQ ws),.vec ms.length (aX ms),.lit (.int .u8 bw),.lit (.int .u8 ba),.lit (.int .i64 bn)]):=fun L=>(eQ (by omega)).trans (ak ((ov.old _ (by omega)).trans ((g3 _ (by omega)).trans b0)));refine ab _ _ _ (by rfl) ?_;simp only[go_sem,q2,q5,q24,q25,hb,hpart,l4,kb,lnE,lsE];obtain⟨H6,hH6⟩:∃ H6,H6=ext Hx [.arr 0 35 [.lit (.int .i64 gk),.vec nk.length ck]]:=⟨_,rfl⟩
 have n6:H6.next=Hx.next+1:=by rw[hH6];rfl
 have o6:Over Hx H6:=by rw[hH6];exact .ext _ _
 have gm:H6.get Hx.next=some (.arr 0 35 [.lit (.int .i64 gk),.vec nk.length ck]):=by rw[hH6];exact cP
 have hc4:∀ y∈ns,1<=y.card/\y.card<=4:=fun y hy=>(hok.node y hy).1;refine aw.clo (LS [.lit (.int .u8 g0),.vec ps.length (eJ ps),.vec ord.length (aX ord)] [.lit (.int .u8 cw),.lit (.int .u8 ca),.lit (.int .u8 cr),.lit (.int .i64 cn)] rfl rfl (fun c hc=>by
  simp only[List.cons_append,List.nil_append,List.mem_cons,List.not_mem_nil,or_false]at hc;rcases hc with rfl|rfl|rfl|rfl|rfl|rfl|rfl<;>rfl) g ns hok.n1 hc4 hok.size ws ms hws hms hwl hml bw ba bn hbw hba _ _ ⟨trivial,?_⟩)
 rw[<- hH6];obtain⟨D3,hD3⟩:∃ D3,D3=xk ns ws ms bw ba bn:=⟨_,rfl⟩
 obtain⟨L6,hL6⟩:∃ L6,L6=tB D3:=⟨_,rfl⟩
 rw[<- hD3,<- hL6];have csl:(ar ns).length=ns.length:=bO ns;have cxl:(hU ns ws ms).length<=12:=by unfold hU;rw[List.length_map,List.length_range];omega
 have crw:mD (ar ns).length (hU ns ws ms):=fun r hr=>by
  unfold hU at hr;obtain⟨j,_,rfl⟩:=List.mem_map.1 hr;unfold oI;rw[mB,kB]
 have dfit:=MF (w:=bw) (a:=ba) (n:=bn) (cs:=ar ns) (xs:=hU ns ws ms) (by omega) (by omega) crw;have l6:L6.length=6:=by rw[hL6,hD3];rfl
 simp only[go_sem];refine W.env fun E2 hE2=>?_;have s1:E2 1=aa v:=by rw[hE2];simp only[go_sem,q1]
 have s2:E2 2=.ptr H.next 0 0:=by rw[hE2];simp only[go_sem,q2]
 have s5:E2 5=.ptr H2.next 0 0:=by rw[hE2];simp only[go_sem,q5]
 have s7:E2 7=.ptr Hx.next 0 0:=by rw[hE2];simp only[go_sem]
 have s24:E2 24=.agg L4:=by rw[hE2];simp only[go_sem,q24]
 have s25:E2 25=aa k:=by rw[hE2];simp only[go_sem,q25]
 have s30:E2 30=.agg L6:=by rw[hE2];simp only[go_sem]
 have s31:E2 31=aa 0:=by rw[hE2];simp only[go_sem]
 clear hE2;have w1:=IntWalk.i64_in ((k:Int)+1) (by omega);refine W.aI 2475880078570760547650828816 (by kernel_rfl) (fun ρ Hy=>Over H6 Hy/\∃ j:Nat,ρ 31=aa j/\j<=3) (fun ρ H=>3 - (iv (ρ 31)).toNat) ?_ ?_
 ·exact⟨.refl _,0,s31,by omega⟩
 rintro ρ4 Hy ⟨ovy,j,h31,hj⟩;have ovyn:=ovy.next;refine W.env fun E4 hE4=>?_;have t1:E4 1=aa v:=by rw[hE4];simp only[go_sem,s1]
 have t7:E4 7=.ptr Hx.next 0 0:=by rw[hE4];simp only[go_sem,s7]
 have t25:E4 25=aa k:=by rw[hE4];simp only[go_sem,s25]
 have t30:E4 30=.agg L6:=by rw[hE4];simp only[go_sem,s30]
 have t31:E4 31=aa j:=by rw[hE4];simp only[go_sem,h31]
 clear hE4;by_cases hb2:(j:Int)<3;rotate_left
 ·refine ab _ _ _ (by rfl) ?_;simp only[go_sem,t25,t31,hb2,w1];exact⟨by omega,⟨ov.trans (o6.trans ovy),k+1,rfl,by omega⟩,by rw[h25];simp only[aa,aK];omega⟩
 obtain⟨yc,yx,hpart2,fitD⟩:∃ (yc:List Int) (yx:List (List Int)),(L6.drop (j*2)).take 2=[ae yc,aC yx]/\kz yc yx:=by
  have hj3:j=0\/j=1\/j=2:=by omega
  rcases hj3 with rfl|rfl|rfl
  ·exact⟨ar ns,hU ns ws ms,by rw[hL6,hD3];rfl,lx (by omega) (by omega) fun r hr=>by rw[crw r hr];omega⟩
  ·exact⟨_,_,by rw[hL6,hD3];rfl,dfit⟩
  ·exact⟨[2,2],[[0,-1]],by rw[hL6,hD3];rfl,lx (by simp) (by simp) fun r hr=>by rw[List.mem_singleton.1 hr];simp⟩
 have jb:j*2+2<=6:=by omega
 have gmE:∀ L,(ext Hy L).live Hx.next 0=some (35,[.lit (.int .i64 gk),.vec nk.length ck]):=fun L=>(eQ (by omega)).trans (ak ((ovy.old _ (by omega)).trans gm));have nkl:=fitN.1;obtain⟨mx,hmx⟩:∃ mx:Int,(if (nk.length:Int) > 1 then (nk.length:Int) else 1)=mx:=⟨_,rfl⟩
 have hmx1:1<=mx/\mx<2 ^ 38:=by rw[<- hmx];split<;>omega
 have mxu:=IntWalk.u64_in mx (by omega);have mxz:¬ mx=0:=by omega
 refine ab _ _ _ (by rfl) ?_;simp only[go_sem,t1,t7,t30,t31,hb2,hpart2,l6,jb,gmE,ae,aC,builtin_max,hmx,mxu,mxz];obtain⟨H7,hH7⟩:∃ H7,H7=ext Hy [.arr 0 42 [.vec yc.length (ints yc),.vec yx.length (yx.map ae)]]:=⟨_,rfl⟩
 have n7:H7.next=Hy.next+1:=by rw[hH7];rfl
 have o7:Over Hy H7:=by rw[hH7];exact .ext _ _
 have gd:H7.get Hy.next=some (.arr 0 42 [.vec yc.length (ints yc),.vec yx.length (yx.map ae)]):=by rw[hH7];exact cP
 have gm7:H7.get Hx.next=some (.arr 0 35 [.lit (.int .i64 gk),.vec nk.length ck]):=(o7.old _ (by omega)).trans ((ovy.old _ (by omega)).trans gm);refine W.env fun E5 hE5=>?_;have u7:E5 7=.ptr Hx.next 0 0:=by rw[hE5];simp only[go_sem,t7]
 have u9:E5 9=.ptr Hy.next 0 0:=by rw[hE5];simp only[go_sem]
 have u25:E5 25=aa k:=by rw[hE5];simp only[go_sem,t25]
 have u31:E5 31=aa j:=by rw[hE5];simp only[go_sem,t31]
 have u45:E5 45=aa 0:=by rw[hE5];simp only[go_sem]
 obtain⟨uu,u44⟩:∃ uu:Int,E5 44=.agg [aa v,aa uu]:=⟨_,by rw[hE5];rfl⟩
 clear hE5;show W _ _ _ _ _ _ ⟨E5,ext Hy [.arr 0 42 [.vec yc.length (ints yc),.vec yx.length (yx.map ae)]]⟩;rw[<- hH7];have w2:=IntWalk.i64_in ((j:Int)+1) (by omega);refine W.aI 1237940039285345090527098896 (by kernel_rfl) (fun ρ Hz=>Over H7 Hz/\∃ i:Nat,ρ 45=aa i/\i<=2) (fun ρ H=>2 - (iv (ρ 45)).toNat) ?_ ?_
 ·exact⟨.refl _,0,u45,by omega⟩
 rintro ρ6 Hz ⟨ovz,i,h45,hi⟩;have ovzn:=ovz.next;refine W.env fun E6 hE6=>?_;have z7:E6 7=.ptr Hx.next 0 0:=by rw[hE6];simp only[go_sem,u7]
 have z9:E6 9=.ptr Hy.next 0 0:=by rw[hE6];simp only[go_sem,u9]
 have z25:E6 25=aa k:=by rw[hE6];simp only[go_sem,u25]
 have z31:E6 31=aa j:=by rw[hE6];simp only[go_sem,u31]
 have z44:E6 44=.agg [aa v,aa uu]:=by rw[hE6];simp only[go_sem,u44]
 have z45:E6 45=aa i:=by rw[hE6];simp only[go_sem,h45]
 clear hE6;by_cases hb3:(i:Int)<2;rotate_left
 ·refine ab _ _ _ (by rfl) ?_;simp only[go_sem,z31,z45,hb3,w2];exact⟨by omega,⟨ovy.trans (o7.trans ovz),j+1,rfl,by omega⟩,by rw[h31];simp only[aa,aK];omega⟩
 obtain⟨w,hw⟩:∃ w:Int,[AVal.lit (.int .i64 v),.lit (.int .i64 uu)][i]?=some (.lit (.int .i64 w)):=by
  have hi2:i=0\/i=1:=by omega
  rcases hi2 with rfl|rfl
  ·exact⟨v,rfl⟩
  ·exact⟨uu,rfl⟩
 have w3:=IntWalk.i64_in ((i:Int)+1) (by omega);have ib:i*1+1<=2:=by omega
 have lm:=ak ((ovz.old _ (by omega)).trans gm7);have ld:=ak ((ovz.old _ (by omega)).trans gd);have fz2:∀ (Hq:AHeap) (i:Nat) (h:i<[AVal.agg [.lit (.int .i64 gk),.vec nk.length ck],.agg [.vec yc.length (ints yc),.vec yx.length (yx.map ae)]].length) (h':i<[aY gk nk,cB yc yx].length),Fz (fun _=>False) Hq Hq.next [AVal.agg [.lit (.int .i64 gk),.vec nk.length ck],.agg [.vec yc.length (ints yc),.vec yx.length (yx.map ae)]][i] [aY gk nk,cB yc yx][i]:=fun Hq i h h' =>
  match i,h with
  | 0,_=>BJ hQ gk
  | 1,_=>tI (.dw _) (qG yx)
 have fz3:∀ (Hq:AHeap) (i:Nat) (h:i<[AVal.agg [.lit (.int .i64 gk),.vec nk.length ck],.agg [.vec yc.length (ints yc),.vec yx.length (yx.map ae)],aa w].length) (h':i<[aY gk nk,cB yc yx,aa w].length),Fz (fun _=>False) Hq Hq.next [AVal.agg [.lit (.int .i64 gk),.vec nk.length ck],.agg [.vec yc.length (ints yc),.vec yx.length (yx.map ae)],aa w][i] [aY gk nk,cB yc yx,aa w][i]:=fun Hq i h h' =>
  match i,h with
  | 0,_=>BJ hQ gk
  | 1,_=>tI (.dw _) (qG yx)
  | 2,_=>.lit _
 refine ab _ _ _ (by rfl) ?_;simp only[go_sem,z7,z9,z44,z45,hb3,hw,lm,ld];refine aw.clo (af.lU (args':=[aY gk nk,cB yc yx,aa w]) aP rfl (fz3 _) (LK gk nk yc yx fitN fitD w _ _ ⟨trivial,?_⟩));rw[LV];obtain⟨lst,hLst⟩:∃ l,l=tD gk nk yc yx w:=⟨_,rfl⟩
 obtain⟨err,hErr⟩:∃ e,e=tC gk nk yc yx w:=⟨_,rfl⟩
 rw[<- hLst,<- hErr];simp only[go_sem,z7,z9,lm,ld];refine aw.clo (af.lU (args':=[aY gk nk,cB yc yx]) aP rfl (fz2 _) (ME gk nk yc yx fitN fitD _ _ ⟨trivial,?_⟩));unfold tD at hLst;unfold tC at hErr;have fzE:∀ (Hq:AHeap) (i:Nat) (h:i<[AVal.vec 0 [],.lit (.slice none 0 0)].length) (h':i<[ae [],ae []].length),Fz (fun _=>False) Hq Hq.next [AVal.vec 0 [],.lit (.slice none 0 0)][i] [ae [],ae []][i]:=fun Hq i h h' =>
  match i,h with
  | 0,_=>(.dw []:Fz (fun _=>False) Hq Hq.next (ae []) (ae []))
  | 1,_=>.nil
 obtain⟨le,hle⟩:∃ e,e=fD gk nk yc yx:=⟨_,rfl⟩
 rw[<- hle]at hLst hErr ⊢;by_cases h0:le=0;rotate_left
 ·rw[if_pos h0]at hLst hErr;subst hLst;simp only[go_sem,h0,hErr];refine aw.clo (af.lU (args':=[ae [],ae []]) aP rfl (fzE _) (qM [] [] (by decide) _ _ ⟨trivial,?_⟩));rw[decide_eq_true (rfl:([]:List Int)=[])];simp only[go_sem,z45,w3];exact⟨by omega,⟨ovz,i+1,rfl,by omega⟩,by rw[h45];simp only[aa,aK];omega⟩
 rw[if_neg (fun hh=>hh h0)]at hLst hErr;rw[h0]at hle ⊢;obtain⟨kok,kdk,kca⟩:=xi hle.symm;obtain⟨h6,h40,hrow⟩:=Bt hle.symm;by_cases v0:w<0
 ·rw[if_pos (.inl v0)]at hLst hErr;subst hLst;simp only[go_sem,v0,hErr];refine aw.clo (af.lU (args':=[ae [],ae []]) aP rfl (fzE _) (qM [] [] (by decide) _ _ ⟨trivial,?_⟩));rw[decide_eq_true (rfl:([]:List Int)=[])];simp only[go_sem,z45,w3];exact⟨by omega,⟨ovz,i+1,rfl,by omega⟩,by rw[h45];simp only[aa,aK];omega⟩
 by_cases v1:w >= nk.length
 ·rw[if_pos (.inr v1)]at hLst hErr;subst hLst;simp only[go_sem,z7,lm,v0,v1,hErr];refine aw.clo (af.lU (args':=[ae [],ae []]) aP rfl (fzE _) (qM [] [] (by decide) _ _ ⟨trivial,?_⟩));rw[decide_eq_true (rfl:([]:List Int)=[])];simp only[go_sem,z45,w3];exact⟨by omega,⟨ovz,i+1,rfl,by omega⟩,by rw[h45];simp only[aa,aK];omega⟩
 rw[if_neg (fun hh=>hh.elim v0 v1)]at hLst hErr;obtain⟨u,rfl⟩:∃ u:Nat,w=u:=⟨w.toNat,by omega⟩
 obtain⟨x,hx⟩:=get_of_lt (l:=nk) (i:=u) (by omega);rw[Int.toNat_natCast,bE hx]at hLst;simp only[go_sem,z7,z9,lm,ld,v0,v1];refine aw.clo (af.lU (args':=[aY gk nk,cB yc yx]) aP rfl (fz2 _) (LF gk nk kok yc yx (by omega) hrow _ _ ⟨trivial,?_⟩));cases hP:lp nk yx
 ·rw[hP,if_neg (by decide)]at hLst hErr;subst hLst;simp only[go_sem,hErr];refine aw.clo (af.lU (args':=[ae [],ae []]) aP rfl (fzE _) (qM [] [] (by decide) _ _ ⟨trivial,?_⟩));rw[decide_eq_true (rfl:([]:List Int)=[])];simp only[go_sem,z45,w3];exact⟨by omega,⟨ovz,i+1,rfl,by omega⟩,by rw[h45];simp only[aa,aK];omega⟩
 rw[hP,if_pos rfl]at hLst hErr;simp only[go_sem,z7,z9,lm,ld,hErr];refine aw.clo (af.lU (args':=[aY gk nk,cB yc yx,aa (u:Int)]) aP rfl (fz3 _) (LH gk nk kok h6 yc yx (by omega) hrow u x hx _ _ ⟨trivial,?_⟩));rw[<- hLst];simp only[go_sem];have hll:(lst.length:Int)<2 ^ 62:=by
  have:=(xg kok h6 hx yx hrow).1;have:=qv kok hx;rw[hLst];omega
 refine aw.clo (qM lst lst hll _ _ ⟨trivial,?_⟩);rw[decide_eq_true (rfl:lst=lst)];simp only[go_sem,z45,w3];exact⟨by omega,⟨ovz,i+1,rfl,by omega⟩,by rw[h45];simp only[aa,aK];omega⟩
structure StoryP where
 g0:Int
 ps:List DrP
 ord:List Int
 cw:Int
 ca:Int
 cr:Int
 cn:Int
 ws:List Int
 ms:List Int
 bw:Int
 ba:Int
 bn:Int
def StoryP.cells (s:StoryP):List AVal:=qw s.g0 s.ps s.ord s.cw s.ca s.cr s.cn s.ws s.ms s.bw s.ba s.bn
structure StoryP.Ok (s:StoryP):Prop where
 g:U8 s.g0
 p:∀ x∈s.ps,x.Ok
 pl:(s.ps.length:Int)<2 ^ 63
 ol:(s.ord.length:Int)<2 ^ 63
 o8:∀ x∈s.ord,U8 x
 cw:U8 s.cw
 ca:U8 s.ca
 cr:U8 s.cr
 ws:∀ x∈s.ws,0<=x/\x<65536
 ms:∀ x∈s.ms,0<=x/\x<256
 wl:(s.ws.length:Int)<2 ^ 63
 ml:(s.ms.length:Int)<2 ^ 63
 bw:U8 s.bw
 ba:U8 s.ba
end Go.Proofs
namespace Go.Proofs.Ytakancljiekbhaa
open Go.ChangeShapes Go.WideShapes Go.ChangeAt Go.RowKit Go.Hx
theorem Try.own:ownKnob Try.prog.godebug=none:=by kernel_rfl
theorem Try.laidOut:laidOutB Try.prog=true:=by kernel_rfl
theorem Try.Mp:Try.prog.underlying 4=some .bool:=by kernel_rfl
section
variable {W:World} {H:Type} {enc:TypeId × Value->H} {spare:Nat->Bool} {held:Bool}
theorem qB {n:Nat}(h:n<=maxLen):(n:Int)<2 ^ 63:=by
 have:maxLen=9223372036854775807:=by decide
 omega
theorem ky {n:Int}(h:(Lit.int .u8 n).wf=true):U8 n:=by
 have:=wf_u8 h;unfold U8;omega
theorem Mq {n:Int}(h:(Lit.int .u16 n).wf=true):0<=n/\n<65536:=by
 have:0<=n/\n<=65535:=by simpa [Lit.wf,IntKind.min,IntKind.max,IntKind.signed,IntKind.bits] using h
 omega
theorem Mr:eW enc Try.prog W spare held 86 fun _ zs=>∃ x:DrP,zs=x.cells/\x.Ok:=by
 have hu:=Try.underlying86;have c1:=Try.oR;have c2:=Try.tJ;refine(pN (φ:=fun i _ xs=>if i=2 then ∃ l:List Int,xs=[.vec l.length (pO .u8 l)]/\l.length<=maxLen/\∀ c,c∈l->(Lit.int .u8 c).wf=true else ∃ n,xs=[.lit (.int .u8 n)]/\(Lit.int .u8 n).wf=true) hu
  (fun cs hcs=>by
   have hc:Try.prog.cellsOf 86=3:=(by kernel_rfl);rw[hc]at hcs
   match cs,hcs with
   | [a,b,c],_=>simp [c1,c2])
  (fun i hi=>match i,hi with
   | 0,_=>(iF Try.underlying5).mono fun _ _ ⟨n,_,h,w⟩=>⟨n,h,w⟩
   | 1,_=>(iF Try.underlying5).mono fun _ _ ⟨n,_,h,w⟩=>⟨n,h,w⟩
   | 2,_=>(rA Try.underlying23 Try.underlying5 c1).mono fun _ _ h=>h)).mono fun d zs ⟨ds,rows,_,e,hl1,hl2,hall⟩=>?_
 match rows,ds,hl2,hl1,hall with
 | [x,y,z],[d0,d1,d2],_,_,hall =>
  obtain⟨n0,e0,w0⟩:=hall 0 (by simp) (by simp);obtain⟨n1,e1,w1⟩:=hall 1 (by simp) (by simp);obtain⟨l,e2,w2,w3⟩:=hall 2 (by simp) (by simp);simp only[List.getElem_cons_zero,List.getElem_cons_succ]at e0 e1 e2;subst e0;subst e1;subst e2;refine⟨⟨n0,n1,l⟩,by rw[e];rfl,?_⟩;exact⟨ky w0,ky w1,qB w2,fun c hc=>ky (w3 c hc)⟩
theorem Ms {α:Type}{t e:TypeId}{f:α->List AVal}{q:α->Prop}(ht:Try.prog.underlying t=some (.slice e))(hz:0<Try.prog.cellsOf e)(he:eW enc Try.prog W spare held e fun _ zs=>∃ x:α,zs=f x/\q x):
  eW enc Try.prog W spare held t fun _ zs=>∃ l:List α,zs=[.vec l.length (l.map f).flatten]/\l.length<=maxLen/\∀ x∈l,q x :=
 (zk ht hz he).mono fun d zs h=>by
  rcases h with ⟨_,rfl⟩|⟨ds,rest,rows,_,rfl,hr,_,hl⟩
  ·exact⟨[],rfl,Nat.zero_le _,fun c h=>by cases h⟩
  ·obtain⟨l,rfl,hq⟩:=zl (f:=f) (q:=q) (fun d zs h=>h) hr;exact⟨l,by rw[List.length_map],by simpa using hl,hq⟩
theorem Mt:eW enc Try.prog W spare held 25 fun _ zs=>∃ (g:Int) (ps:List DrP) (ord:List Int),zs=[.lit (.int .u8 g),.vec ps.length (eJ ps),.vec ord.length (aX ord)]/\U8 g/\(∀ x∈ps,x.Ok)/\(ps.length:Int)<2 ^ 63/\(ord.length:Int)<2 ^ 63/\∀ x∈ord,U8 x:=by
 have hu:=Try.underlying25;have c1:=Try.oR;have c2:=Try.tJ;have c3:=Try.BL;have c4:=Try.BV;refine(pN (φ:=fun i _ xs=>if i=2 then ∃ l:List Int,xs=[.vec l.length (pO .u8 l)]/\l.length<=maxLen/\∀ c,c∈l->(Lit.int .u8 c).wf=true else if i=1 then ∃ l:List DrP,xs=[.vec l.length (l.map DrP.cells).flatten]/\l.length<=maxLen/\∀ x∈l,x.Ok else ∃ n,xs=[.lit (.int .u8 n)]/\(Lit.int .u8 n).wf=true) hu
  (fun cs hcs=>by
   have hc:Try.prog.cellsOf 25=3:=(by kernel_rfl);rw[hc]at hcs
   match cs,hcs with
   | [a,b,c],_=>simp [c1,c2,c3])
  (fun i hi=>match i,hi with
   | 0,_=>(iF Try.underlying5).mono fun _ _ ⟨n,_,h,w⟩=>⟨n,h,w⟩
   | 1,_=>(Ms Try.underlying22 (by rw[c4];decide) Mr).mono fun _ _ h=>h
   | 2,_=>(rA Try.underlying23 Try.underlying5 c1).mono fun _ _ h=>h)).mono fun d zs ⟨ds,rows,_,e,hl1,hl2,hall⟩=>?_
 match rows,ds,hl2,hl1,hall with
 | [x,y,z],[d0,d1,d2],_,_,hall =>
  obtain⟨n0,e0,w0⟩:=hall 0 (by simp) (by simp);obtain⟨ps,e1,w1,w1'⟩:=hall 1 (by simp) (by simp);obtain⟨l,e2,w2,w3⟩:=hall 2 (by simp) (by simp);simp only[List.getElem_cons_zero,List.getElem_cons_succ]at e0 e1 e2;subst e0;subst e1;subst e2;exact⟨n0,ps,l,by rw[e];rfl,ky w0,w1',qB w1,qB w2,fun c hc=>ky (w3 c hc)⟩
theorem xw {n:Int}(h:(Lit.int .u8 n).wf=true):0<=n/\n<=255:=by
 have:=ky h;unfold U8 at this;omega
theorem Mu:eW enc Try.prog W spare held 27 fun _ zs=>∃ w a r n:Int,zs=tG w a r n/\(0<=w/\w<=255)/\(0<=a/\a<=255)/\(0<=r/\r<=255):=by
 have hu:=Try.underlying27;have c1:=Try.oR;have c2:=Try.dT;refine(pN (φ:=fun i _ xs=>if i=3 then ∃ n,xs=[.lit (.int .i64 n)] else ∃ n,xs=[.lit (.int .u8 n)]/\(Lit.int .u8 n).wf=true) hu
  (fun cs hcs=>by
   have hc:Try.prog.cellsOf 27=4:=(by kernel_rfl);rw[hc]at hcs
   match cs,hcs with
   | [a,b,c,d],_=>simp [c1,c2])
  (fun i hi=>match i,hi with
   | 0,_=>(iF Try.underlying5).mono fun _ _ ⟨n,_,h,w⟩=>⟨n,h,w⟩
   | 1,_=>(iF Try.underlying5).mono fun _ _ ⟨n,_,h,w⟩=>⟨n,h,w⟩
   | 2,_=>(iF Try.underlying5).mono fun _ _ ⟨n,_,h,w⟩=>⟨n,h,w⟩
   | 3,_=>(iF Try.underlying3).mono fun _ _ ⟨n,_,h,_⟩=>⟨n,h⟩)).mono fun d zs ⟨ds,rows,_,e,hl1,hl2,hall⟩=>?_
 match rows,ds,hl2,hl1,hall with
 | [x,y,z,u],[d0,d1,d2,d3],_,_,hall =>
  obtain⟨n0,e0,w0⟩:=hall 0 (by simp) (by simp);obtain⟨n1,e1,w1⟩:=hall 1 (by simp) (by simp);obtain⟨n2,e2,w2⟩:=hall 2 (by simp) (by simp);obtain⟨n3,e3⟩:=hall 3 (by simp) (by simp);simp only[List.getElem_cons_zero,List.getElem_cons_succ]at e0 e1 e2 e3;subst e0;subst e1;subst e2;subst e3;exact⟨n0,n1,n2,n3,by rw[e];rfl,xw w0,xw w1,xw w2⟩
theorem Mv:eW enc Try.prog W spare held 30 fun _ zs=>∃ w a n:Int,zs=oQ w a n/\U8 w/\U8 a:=by
 have hu:=Try.underlying30;have c1:=Try.oR;have c2:=Try.dT;refine(pN (φ:=fun i _ xs=>if i=2 then ∃ n,xs=[.lit (.int .i64 n)] else ∃ n,xs=[.lit (.int .u8 n)]/\(Lit.int .u8 n).wf=true) hu
  (fun cs hcs=>by
   have hc:Try.prog.cellsOf 30=3:=(by kernel_rfl);rw[hc]at hcs
   match cs,hcs with
   | [a,b,c],_=>simp [c1,c2])
  (fun i hi=>match i,hi with
   | 0,_=>(iF Try.underlying5).mono fun _ _ ⟨n,_,h,w⟩=>⟨n,h,w⟩
   | 1,_=>(iF Try.underlying5).mono fun _ _ ⟨n,_,h,w⟩=>⟨n,h,w⟩
   | 2,_=>(iF Try.underlying3).mono fun _ _ ⟨n,_,h,_⟩=>⟨n,h⟩)).mono fun d zs ⟨ds,rows,_,e,hl1,hl2,hall⟩=>?_
 match rows,ds,hl2,hl1,hall with
 | [x,y,z],[d0,d1,d2],_,_,hall =>
  obtain⟨n0,e0,w0⟩:=hall 0 (by simp) (by simp);obtain⟨n1,e1,w1⟩:=hall 1 (by simp) (by simp);obtain⟨n2,e2⟩:=hall 2 (by simp) (by simp);simp only[List.getElem_cons_zero,List.getElem_cons_succ]at e0 e1 e2;subst e0;subst e1;subst e2;exact⟨n0,n1,n2,by rw[e];rfl,ky w0,ky w1⟩
theorem Mw:eW enc Try.prog W spare held 32 fun _ zs=>∃ s:StoryP,zs=s.cells/\s.Ok:=by
 have hu:=Try.underlying32;have c1:=Try.BM;have c2:=Try.BN;have c3:=Try.BO;have c4:=Try.tJ;have c5:=Try.BP;have c6:=Try.BU;have c7:=Try.oR;refine(pN (φ:=fun i _ xs=>if i=0 then ∃ (g:Int) (ps:List DrP) (ord:List Int),xs=[.lit (.int .u8 g),.vec ps.length (eJ ps),.vec ord.length (aX ord)]/\U8 g/\(∀ x∈ps,x.Ok)/\(ps.length:Int)<2 ^ 63/\(ord.length:Int)<2 ^ 63/\∀ x∈ord,U8 x
   else if i=1 then ∃ w a r n:Int,xs=tG w a r n/\(0<=w/\w<=255)/\(0<=a/\a<=255)/\(0<=r/\r<=255)
   else if i=2 then ∃ l:List Int,xs=[.vec l.length (pO .u16 l)]/\l.length<=maxLen/\∀ c,c∈l->(Lit.int .u16 c).wf=true
   else if i=3 then ∃ l:List Int,xs=[.vec l.length (pO .u8 l)]/\l.length<=maxLen/\∀ c,c∈l->(Lit.int .u8 c).wf=true
   else ∃ w a n:Int,xs=oQ w a n/\U8 w/\U8 a) hu
  (fun cs hcs=>by
   have hc:Try.prog.cellsOf 32=12:=(by kernel_rfl);rw[hc]at hcs
   match cs,hcs with
   | [a,b,c,d,e,f,g,h,i,j,k,l],_=>simp [c1,c2,c3,c4,c5])
  (fun i hi=>match i,hi with
   | 0,_=>Mt.mono fun _ _ h=>h
   | 1,_=>Mu.mono fun _ _ h=>h
   | 2,_=>(rA Try.underlying28 Try.underlying81 c6).mono fun _ _ h=>h
   | 3,_=>(rA Try.underlying23 Try.underlying5 c7).mono fun _ _ h=>h
   | 4,_=>Mv.mono fun _ _ h=>h)).mono fun d zs ⟨ds,rows,_,e,hl1,hl2,hall⟩=>?_
 match rows,ds,hl2,hl1,hall with
 | [x,y,z,u,w],[d0,d1,d2,d3,d4],_,_,hall =>
  obtain⟨g,ps,ord,e0,w0,wa,wb,wc,wd⟩:=hall 0 (by simp) (by simp);obtain⟨cw,ca,cr,cn,e1,w1,wf,wg⟩:=hall 1 (by simp) (by simp);obtain⟨ws,e2,w2,wh⟩:=hall 2 (by simp) (by simp);obtain⟨ms,e3,w3,wi⟩:=hall 3 (by simp) (by simp);obtain⟨bw,ba,bn,e4,w4,wj⟩:=hall 4 (by simp) (by simp);simp only[List.getElem_cons_zero,List.getElem_cons_succ]at e0 e1 e2 e3 e4;subst e0;subst e1;subst e2;subst e3;subst e4;exact⟨⟨g,ps,ord,cw,ca,cr,cn,ws,ms,bw,ba,bn⟩,by rw[e];rfl,⟨w0,wa,wb,wc,wd,(by unfold U8;omega:U8 cw),(by unfold U8;omega:U8 ca),(by unfold U8;omega:U8 cr),fun c hc=>Mq (wh c hc),fun c hc=>by have:=ky (wi c hc);unfold U8 at this;exact this,qB w2,qB w3,w4,wj⟩⟩
theorem Mx {r:Reach}{b:Nat}{v:Value}{d:DataW H}{ps:List MemPlace}(hval:Value.okWide Try.prog W r b 32 v)(hd:DataW.Trod enc Try.prog W 0 spare held 32 v d ps):
  ∃ x:StoryP,RelV Try.prog iy cF W (.agg x.cells) v/\x.Ok:=by
 obtain⟨xs,h1,x,rfl,h2⟩:=Eg Mw (.inl ⟨_,Try.underlying32⟩) hval hd;exact⟨x,h1,h2⟩
end
end Go.Proofs.Ytakancljiekbhaa
