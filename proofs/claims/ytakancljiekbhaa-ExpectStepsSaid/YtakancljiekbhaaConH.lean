/- Own work: contracts. -/
import Derived.Test.YtakancljiekbhaaConF
import Derived.Test.YtakancljiekbhaaProg
import Derived.Test.YtakancljiekbhaaLibC
import Derived.Test.YtakancljiekbhaaConA
import Derived.Test.YtakancljiekbhaaConB
import Derived.Test.YtakancljiekbhaaConG
import Derived.Test.YtakancljiekbhaaRows
import Derived.ProofKit
import Derived.Test.YtakancljiekbhaaConE
set_option linter.all false
set_option maxRecDepth 100000
namespace Go.Proofs
open Go.Hx
def kW (H1 H':AHeap)(N:Nat)(cs:List AVal):Prop:=H1.next<=H'.next/\(∀ id,id<H1.next->id≠N->H'.get id=H1.get id)/\H'.get N=some (.arr 0 69 cs)
theorem Ql {l:List NodeP}{i:Nat}{x y:NodeP}(h:l[i]?=some x)(hr:x.rows=[])(hy:y.rows=[]):bF (l.set i y)=(bF l).set (i*3) (aa y.card):=by
 have hl:=get_lt h;have h1:=yK (f:=NodeP.cq) (z:=3) jH l i y hl;have h2:=pI (f:=NodeP.cq) (z:=3) jH l i x h;have e1:x.cq=[aa x.card,.lit (.slice none 0 0),.lit (.slice none 0 0)]:=if_pos hr;have e2:y.cq=[aa y.card,.lit (.slice none 0 0),.lit (.slice none 0 0)]:=if_pos hy;unfold bF;rw[h1,e2];rw[e1]at h2;have h3:(l.map NodeP.cq).flatten=((l.map NodeP.cq).flatten).take (i*3)++([aa x.card,.lit (.slice none 0 0),.lit (.slice none 0 0)]++((l.map NodeP.cq).flatten).drop (i*3+3)):=by
  rw[<- h2,<- List.drop_drop,List.take_append_drop,List.take_append_drop]
 have hlen:(((l.map NodeP.cq).flatten).take (i*3)).length=i*3:=by
  rw[List.length_take,mh (f:=NodeP.cq) (z:=3) jH];omega
 conv=>rhs;rw[h3]
 rw[List.set_append_right _ _ (by omega),hlen];simp
theorem uQ (ord:List Int):∀ (n v:Nat),v<n->(v:Int)∈fW ord n
 | 0,v,h=>by omega
 | n+1,v,h=>by
  unfold fW;by_cases hv:v=n
  ·subst hv;simp
  ·have:=uQ ord n v (by omega);rw[<- List.take_append_drop (kV ord n) (fW ord n)]at this;rcases List.mem_append.1 this with h|h
   ·exact List.mem_append_left _ h
   ·exact List.mem_append_right _ (List.mem_cons_of_mem _ h)
structure DoneN (g:Int)(cs P:List Int)(n j:Nat)(x:NodeP):Prop where
 pl:dw x.parents n
 p3:x.parents.length<=3
 rk:∀ q∈x.parents,∃ k,k<j/\P[k]?=some q
 rl:(x.rows.length:Int)=aw (aT cs x.parents)
 ro:∀ r∈x.rows,jK g x.card r
 ne:x.rows≠[]
structure LoopN (g:Int)(cs P:List Int)(n i:Nat)(ns:List NodeP):Prop where
 len:ns.length=n
 cards:ar ns=cs
 todo:∀ (j v:Nat) (x:NodeP),i<=j->P[j]?=some (v:Int)->ns[v]?=some x->x.rows=[]/\x.parents=[]
 done:∀ (j v:Nat) (x:NodeP),j<i->P[j]?=some (v:Int)->ns[v]?=some x->DoneN g cs P n j x
theorem Qm {l:List NodeP}{i:Nat}{x y:NodeP}(h:l[i]?=some x)(hy:y.card=x.card)(hr:y.rows≠[]):bF (l.set i y)=((bF l).set (i*3+1) (ae y.parents)).set (i*3+2) (aA y.rows):=by
 have hl:=get_lt h;have h1:=yK (f:=NodeP.cq) (z:=3) jH l i y hl;have h2:=pI (f:=NodeP.cq) (z:=3) jH l i x h;unfold bF;rw[h1];have h3:(l.map NodeP.cq).flatten=((l.map NodeP.cq).flatten).take (i*3)++(x.cq++((l.map NodeP.cq).flatten).drop (i*3+3)):=by
  rw[<- h2,<- List.drop_drop,List.take_append_drop,List.take_append_drop]
 have hlen:(((l.map NodeP.cq).flatten).take (i*3)).length=i*3:=by
  rw[List.length_take,mh (f:=NodeP.cq) (z:=3) jH];omega
 have ex:∃ b c,x.cq=[aa x.card,b,c]:=by unfold NodeP.cq;split<;>exact⟨_,_,rfl⟩
 obtain⟨b,c,ex⟩:=ex;have ey:y.cq=[aa y.card,ae y.parents,aA y.rows]:=if_neg hr
 conv=>rhs;rw[h3]
 rw[List.set_append_right _ _ (by omega),List.set_append_right _ _ (by omega),hlen,show i*3+1 - i*3=1 by omega,show i*3+2 - i*3=2 by omega,ex,ey];simp [hy]
structure ParU (P:List Int)(i u k:Nat)(l:List Int):Prop where
 pw:l.Pairwise (·<·)
 rng:∀ q∈l,0<=q/\(q<u\/(q=u/\∃ k',k'<k/\P[k']?=some q))
 p3:l.length<=3
 rk:∀ q∈l,∃ k',k'<i/\P[k']?=some q
theorem ParU.skip {P:List Int}{i u k:Nat}{l:List Int}(h:ParU P i u k l):ParU P i u (k+1) l:=⟨h.pw,fun q hq=>⟨(h.rng q hq).1,(h.rng q hq).2.imp id fun ⟨a,k',b,c⟩=>⟨a,k',by omega,c⟩⟩,h.p3,h.rk⟩
theorem ParU.next {P:List Int}{i u k:Nat}{l:List Int}(h:ParU P i u k l):ParU P i (u+1) 0 l:=⟨h.pw,fun q hq=>⟨(h.rng q hq).1,.inl (by rcases(h.rng q hq).2 with h1|h1<;>omega)⟩,h.p3,h.rk⟩
theorem ParU.add {P:List Int}{n i u k:Nat}{l:List Int}(hP:IsPerm n P)(h:ParU P i u k l)(hk:k<i)(hu:P[k]?=some (u:Int))(h3:l.length<3):ParU P i u (k+1) (l++[(u:Int)]):=by
 have lt:∀ q∈l,q<u:=fun q hq=>by
  rcases(h.rng q hq).2 with h1|⟨h1,k',h2,h4⟩
  ·exact h1
  ·exfalso;have e:P[k']?=P[k]?:=(by rw[h4,hu,h1]);have:=(List.getElem?_inj (get_lt h4) hP.nd).1 e;omega
 refine⟨List.pairwise_append.2 ⟨h.pw,by simp,fun a ha b hb=>by obtain rfl:=List.mem_singleton.1 hb;exact lt a ha⟩,fun q hq=>?_,by simp;omega,fun q hq=>?_⟩
 ·rcases List.mem_append.1 hq with h1|h1
  ·exact⟨(h.rng q h1).1,.inl (lt q h1)⟩
  ·obtain rfl:=List.mem_singleton.1 h1;exact⟨by omega,.inr ⟨rfl,k,by omega,hu⟩⟩
 ·rcases List.mem_append.1 hq with h1|h1
  ·exact h.rk q h1
  ·obtain rfl:=List.mem_singleton.1 h1;exact⟨k,hk,hu⟩
def yM (Hz Hx:AHeap)(N at':Nat)(C:List AVal)(pv:AVal)(l:List Int):Prop:=kW Hz Hx N (C.set at' pv)/\aD Hz.next Hx 3 pv (ints l)
set_option maxHeartbeats 4000000 in
theorem Qn (g0:Int)(ps:List DrP)(ord:List Int)(hg0:U8 g0)(hps:∀ x∈ps,x.Ok)(hpl:(ps.length:Int)<2 ^ 63)(hol:(ord.length:Int)<2 ^ 63)(ho8:∀ x∈ord,U8 x)(H:AHeap)(K:ARes->AHeap->Prop)
  (hK:∀ g ns N H',Over H H'->H.next<=N->N<H'.next->H'.get N=some (.arr 0 69 (au ns))->NetOk g ns->ns.length<=5->(∀ x∈ns,x.parents.length<=3)->K (.ret (.agg [aa g,.own N 0 0 ns.length 3])) H'):
  af Try.prog G0 9 [Du g0 ps ord] H K:=by
 refine af.bf (n:=187) (rs:=[.cell 2 35]) Try.func9 rfl rfl rfl (by decide) (by kernel_rfl) (by simp) ?_;obtain⟨n,hn⟩:∃ n:Nat,min (max ps.length 1) 5=n:=⟨_,rfl⟩
 have h51:1<=n/\n<=5:=by omega
 have hmn:(if 5<(if (1:Int) > ps.length then 1 else (ps.length:Int)) then 5 else (if (1:Int) > ps.length then 1 else (ps.length:Int)))=(n:Int):=by split<;>split<;>omega
 have t0:g0.tmod 60=g0 % 60:=Int.tmod_eq_emod_of_nonneg hg0.1;have w0:IntKind.u8.wrap (g0 % 60)=g0 % 60:=IntWalk.u8_in _ (by omega);have w1:IntKind.i64.wrap (g0 % 60)=g0 % 60:=IntWalk.i64_in _ (by omega);have w2:=IntWalk.i64_in (1+g0 % 60) (by omega);obtain⟨g,hg⟩:∃ g,1+g0 % 60=g:=⟨_,rfl⟩
 have hg1:1<=g/\g<=60:=by omega
 rw[hg]at w2;simp only[go_sem,Du];refine W.draw 9 [0,1,3,7,15,0,32,127,0] Try.mixed (by kernel_rfl) (by kernel_rfl) ?_;simp only[go_sem,hmn,t0,w1,hg,w2];refine⟨by omega,⟨⟨by omega,by omega⟩,⟨by omega,by omega⟩,?_⟩⟩;obtain⟨H1,hH1⟩:∃ H1,H1=ext (ext H [.arr 0 25 [.lit (.int .u8 g0),.vec ps.length (eP ps),.vec ord.length (aY ord)],.arr 0 35 [.lit (.int .i64 0),.lit (.slice none 0 0)],.arr 0 69 (List.replicate n [AVal.lit (.int .i64 0),.lit (.slice none 0 0),.lit (.slice none 0 0)]).flatten]) [.arr 0 35 [.lit (.int .i64 g),.own (H.next+2) 0 0 n 3]]:=⟨_,rfl⟩
 refine W.env fun E hE=>?_;have e1:E 1=.ptr H.next 0 0:=by rw[hE];simp only[go_sem]
 have e2:E 2=.ptr (H.next+1) 0 0:=by rw[hE];simp only[go_sem]
 have e3:E 3=aa n:=by rw[hE];simp only[go_sem]
 have e4:E 4=.ptr (H.next+3) 0 0:=by rw[hE];simp only[go_sem]
 clear hE;show W _ _ _ _ _ _ ⟨E,ext (ext H [.arr 0 25 [.lit (.int .u8 g0),.vec ps.length (eP ps),.vec ord.length (aY ord)],.arr 0 35 [.lit (.int .i64 0),.lit (.slice none 0 0)],.arr 0 69 (List.replicate n [AVal.lit (.int .i64 0),.lit (.slice none 0 0),.lit (.slice none 0 0)]).flatten]) [.arr 0 35 [.lit (.int .i64 g),.own (H.next+2) 0 0 n 3]]⟩;rw[<- hH1];have n1:H1.next=H.next+4:=by rw[hH1];rfl
 have o1:Over H H1:=by rw[hH1];exact(Over.ext _ _).trans (.ext _ _)
 have g0':H1.get H.next=some (.arr 0 25 [.lit (.int .u8 g0),.vec ps.length (eP ps),.vec ord.length (aY ord)]):=by rw[hH1,jT];exact cJ ..
 have g1':H1.get (H.next+1)=some (.arr 0 35 [.lit (.int .i64 0),.lit (.slice none 0 0)]):=by rw[hH1,jT];exact bg H _ 1 (by simp)
 have g2':H1.get (H.next+2)=some (.arr 0 69 (bF (List.replicate n ⟨0,[],[]⟩))):=by
  rw[hH1,jT,show bF (List.replicate n ⟨0,[],[]⟩)=(List.replicate n [AVal.lit (.int .i64 0),.lit (.slice none 0 0),.lit (.slice none 0 0)]).flatten by unfold bF;rw[List.map_replicate];rfl];exact bg H _ 2 (by simp)
 have g3':H1.get (H.next+3)=some (.arr 0 35 [.lit (.int .i64 g),.own (H.next+2) 0 0 n 3]):=by rw[hH1,jT];exact bg H _ 3 (by simp)
 clear hH1;have l0:=ah g0';have l1:=ah (show (ext H1 [.arr 0 5 (List.replicate n (.lit (.int .u8 0)))]).get H.next=some (.arr 0 25 [.lit (.int .u8 g0),.vec ps.length (eP ps),.vec ord.length (aY ord)]) by rw[cb _ _ _ (by omega)];exact g0');refine W.draw 4 [0,1,0,4] Try.mixed (by kernel_rfl) (by kernel_rfl) ?_;simp only[go_sem,e1,e3,l1];refine⟨⟨by omega,by omega⟩,by omega,by omega,?_⟩;obtain⟨H2,hH2⟩:∃ H2,H2=ext H1 [.arr 0 5 (List.replicate n (.lit (.int .u8 0)))]:=⟨_,rfl⟩
 have gb:H2.get H1.next=some (.arr 0 5 (List.replicate n (.lit (.int .u8 0)))):=by rw[hH2];exact cA
 rw[<- hH2];refine aB.clo ((af.frame (H:=H2) (args:=[.agg [.own H1.next 0 0 n 1,.lit (.int .u16 0),.vec ord.length (aY ord)]]) (args':=[.agg [.vec n (aY (List.replicate n 0)),.lit (.int .u16 0),.vec ord.length (aY ord)]]) (v':=ae (fW ord n)) aP rfl (fun i hi _=>?_) (P9 n h51.2 ord hol ho8 cH _ fun v H' _ ho=>⟨_,rfl,ho.rR⟩)).mono fun r H' hr=>?_)
 ·match i,hi with
  | 0,_ =>
   refine .agg rfl fun i hi _=>?_
   match i,hi with
   | 0,_ =>
    have:aY (List.replicate n 0)=List.replicate n (.lit (.int .u8 0)):=(by unfold aY;rw[List.map_replicate]);rw[this];exact Fz.rS gb (by simp) fun c hc=>⟨_,List.eq_of_mem_replicate hc⟩
   | 1,_=>exact .lit _
   | 2,_=>exact .vec rfl fun i hi _=>by simp only[aY,List.getElem_map];exact .lit _
 obtain⟨rfl,rfl⟩:=hr;refine⟨trivial,?_⟩;have hperm:=yJ ord n;obtain⟨P,hP⟩:∃ P,P=fW ord n:=⟨_,rfl⟩
 rw[<- hP]at hperm ⊢;have n2:H'.next=H1.next+1:=by rw[hH2];rfl
 have F0:kW H1 H' (H.next+2) (bF (List.replicate n ⟨0,[],[]⟩)):=by
  rw[hH2];exact⟨by simp [bJ],fun id h _=>cb _ _ _ h,by rw[cb _ _ _ (by omega)];exact g2'⟩
 clear hH2 gb;simp only[go_sem,e3];have bs:∀ k:Nat,k<=5->(3:Int) ^ k<=243:=fun k hk=>by
  have:(3:Nat) ^ k<=3 ^ 5:=Nat.pow_le_pow_right (by decide) hk;have h2:((3 ^ k:Nat):Int)<=((3 ^ 5:Nat):Int):=by exact_mod_cast this
  push_cast at h2
  exact h2
 refine W.aG 151115727451794287100864 (by rfl) (fun ρ Hx=>∃ (i:Nat) (ns:List NodeP) (Wd:Int),ρ 7=aa i/\i<=n/\ns.length=n/\(∀ x∈ns,x.rows=[]/\x.parents=[])/\(∀ j v:Nat,j<i->P[j]?=some (v:Int)->∃ x,ns[v]?=some x/\2<=x.card/\x.card<=3)/\ρ 6=aa Wd/\1<=Wd/\Wd<=3 ^ i/\H'.next<=Hx.next/\kW H1 Hx (H.next+2) (bF ns)) (fun ρ H=>n - (iv (ρ 7)).toNat) ?_ ?_
 ·simp only[go_sem];exact⟨0,_,1,rfl,by omega,by simp,fun x hx=>by obtain rfl:=List.eq_of_mem_replicate hx;exact⟨rfl,rfl⟩,fun j v hj=>by omega,rfl,by omega,by simp,F0⟩
 rintro ρ Hx ⟨i,ns,Wd,h7,hi,hnl,hnz,hnc,h6,hW1,hW3,hnx,hF⟩;refine W.env fun E2 hE2=>?_;have f1:E2 1=.ptr H.next 0 0:=by rw[hE2];simp only[go_sem,e1]
 have f2:E2 2=.ptr (H.next+1) 0 0:=by rw[hE2];simp only[go_sem,e2]
 have f3:E2 3=aa n:=by rw[hE2];simp only[go_sem,e3]
 have f4:E2 4=.ptr (H.next+3) 0 0:=by rw[hE2];simp only[go_sem,e4]
 have f5:E2 5=ae P:=by rw[hE2];simp only[go_sem]
 have f6:E2 6=aa Wd:=by rw[hE2];simp only[go_sem,h6]
 have f7:E2 7=aa i:=by rw[hE2];simp only[go_sem,h7]
 clear hE2;refine ab _ _ _ (by rfl) ?_;have hPl:=hperm.len;have hFn:=hF.1;have m0:=ah ((hF.2.1 H.next (by omega) (by omega)).trans g0');have m3:=ah ((hF.2.1 (H.next+3) (by omega) (by omega)).trans g3');have mN:=ah hF.2.2;have m0':∀ L,(ext Hx L).live H.next 0=some (25,[.lit (.int .u8 g0),.vec ps.length (eP ps),.vec ord.length (aY ord)]):=fun L=>(dB (by omega)).trans m0;have m3':∀ L,(ext Hx L).live (H.next+3) 0=some (35,[.lit (.int .i64 g),.own (H.next+2) 0 0 n 3]):=fun L=>(dB (by omega)).trans m3;have mN':∀ L,(ext Hx L).live (H.next+2) 0=some (69,bF ns):=fun L=>(dB (by omega)).trans mN;by_cases hb:(i:Int)<n
 ·obtain⟨pv,hpv⟩:=get_of_lt (l:=P) (i:=i) (by omega);have hpr:=hperm.rng pv (List.mem_of_getElem? hpv);obtain⟨v,rfl⟩:=Int.eq_ofNat_of_zero_le hpr.1;obtain⟨x,hx⟩:=get_of_lt (l:=ns) (i:=v) (by omega);have hpne:=aJ hpv;have hz0:=Dy hx;have hzne:=aJ hz0;have hzl:=Dx ns;have hv:(v:Int)<n:=hpr.2;have hv0:(v:Int) >= 0:=hpr.1;have hiP:(i:Int)<P.length:=by omega
  have w3:=bs i (by omega);have i1:=IntWalk.i64_in ((i:Int)+1) (by omega);have i2:=IntWalk.i64_in ((n:Int) - 1) (by omega);have i3:=IntWalk.i64_in ((n:Int) - 1 - i) (by omega);have i4:=IntWalk.u64_in ((n:Int) - 1 - i) (by omega);have fin:∀ (c:Int) (B:Blk),2<=c/\c<=3->v*3+1<=(bF ns).length/\H'.next<=((ext Hx [B]).upd (H.next+2) (.arr 0 69 (setAt (bF ns) (v*3) [.lit (.int .i64 c)]))).next /\
    (∃ (i_1:Nat) (ns_1:List NodeP) (Wd_1:Int),AVal.lit (.int .i64 ((i:Int)+1))=.lit (.int .i64 i_1)/\i_1<=n/\ns_1.length=n/\(∀ x∈ns_1,x.rows=[]/\x.parents=[])/\(∀ j v:Nat,j<i_1->P[j]?=some (v:Int)->∃ x,ns_1[v]?=some x/\2<=x.card/\x.card<=3) /\
     AVal.lit (.int .i64 (Wd*c))=.lit (.int .i64 Wd_1)/\1<=Wd_1/\Wd_1<=3 ^ i_1/\H'.next<=((ext Hx [B]).upd (H.next+2) (.arr 0 69 (setAt (bF ns) (v*3) [.lit (.int .i64 c)]))).next/\kW H1 ((ext Hx [B]).upd (H.next+2) (.arr 0 69 (setAt (bF ns) (v*3) [.lit (.int .i64 c)]))) (H.next+2) (bF ns_1)) /\
    n - ((i:Int)+1).toNat<n - (iv (ρ 7)).toNat:=by
   intro c B c23;have p1:2<=Wd*c/\Wd*c<=3 ^ i*3:=by
    constructor
    ·have:=Int.mul_le_mul hW1 c23.1 (by omega) (by omega);omega
    ·exact Int.mul_le_mul hW3 c23.2 (by omega) (by omega)
   have nn:((ext Hx [B]).upd (H.next+2) (.arr 0 69 (setAt (bF ns) (v*3) [.lit (.int .i64 c)]))).next=Hx.next+1:=rfl;refine⟨by rw[hzl];have:=get_lt hx;omega,by rw[nn];omega,⟨i+1,ns.set v ⟨c,[],[]⟩,Wd*c,rfl,by omega,by simp [hnl],fun z hz=>?_,fun j u hj hu=>?_,rfl,by omega,by rw[Int.pow_succ];omega,by rw[nn];omega,?_⟩,by rw[h7];simp only[aa,aK];omega⟩
   ·rcases List.mem_or_eq_of_mem_set hz with h|h
    ·exact hnz z h
    ·rw[h];exact⟨rfl,rfl⟩
   ·by_cases huv:u=v
    ·subst huv;exact⟨_,List.getElem?_set_self (get_lt hx),by dsimp only;omega,by dsimp only;omega⟩
    ·rw[List.getElem?_set_ne (by omega)];refine hnc j u ?_ hu;rcases Nat.lt_or_ge j i with h|h
     ·exact h
     ·obtain rfl:j=i:=(by omega);rw[hpv]at hu;exact absurd (by have:=Option.some.inj hu;omega) huv
   ·refine⟨by rw[nn];omega,fun id h1 h2=>by rw[ag,if_neg h2,cb _ _ _ (by omega)];exact hF.2.1 id h1 h2,?_⟩;rw[ag,if_pos rfl,Ql hx (hnz x (List.mem_of_getElem? hx)).1 rfl];congr 2;exact iK (by rw[hzl];have:=get_lt hx;omega)
  by_cases hp:(i:Int)<ps.length
  ·obtain⟨y,hy⟩:=get_of_lt (l:=ps) (i:=i) (by omega);have hyo:=hps y (List.mem_of_getElem? hy);have hc0:=Dv hy;have hc1:i*3+3<=(eP ps).length:=(by rw[Dw];omega);have hcne:¬ eP ps=[]:=fun h=>by rw[h]at hc1;simp at hc1
   have c8:=hyo.1;have t1:y.card.tmod 2=y.card % 2:=Int.tmod_eq_emod_of_nonneg c8.1;have i5:=IntWalk.u8_in (y.card % 2) (by omega);have i6:=IntWalk.i64_in (y.card % 2) (by omega);have i7:=IntWalk.i64_in (2+y.card % 2) (by omega);have c23:2<=(2+y.card % 2)/\(2+y.card % 2)<=3:=(by omega);have p1:2<=Wd*(2+y.card % 2)/\Wd*(2+y.card % 2)<=3 ^ i*3:=by
    constructor
    ·have:=Int.mul_le_mul hW1 c23.1 (by omega) (by omega);omega
    ·exact Int.mul_le_mul hW3 c23.2 (by omega) (by omega)
   have p2:2<=Wd*2/\Wd*2<=3 ^ i*3:=(by omega);have j1:=IntWalk.i64_in (Wd*(2+y.card % 2)) (by omega);have j2:=IntWalk.i64_in (Wd*2) (by omega);obtain⟨q,hq⟩:∃ q,IntKind.i64.wrap (Wd*(2+y.card % 2)*2 ^ (min ((n:Int) - 1 - i).toNat IntKind.i64.bits))=q:=⟨_,rfl⟩
   have hsh:∀ t o1 o2,aX Try.prog .shl t o1 o2 (.lit (.int .i64 (Wd*(2+y.card % 2)))) (.lit (.int .u64 ((n:Int) - 1 - i)))=some (.lit (.int .i64 q)):=fun t o1 o2=>by rw[pS (by omega),hq]
   by_cases hq1:q > 100
   ·simp only[go_sem,f1,f3,f6,f7,m0',hb,hp,i2,i3,i4,j1,j2,hsh,hc0,hc1,hcne,t1,i6,i7,hq1];refine W.draw 7 [0,1,0,0,12,28,0] Try.mixed (by kernel_rfl) (by kernel_rfl) ?_;simp only[go_sem,f4,f5,f6,f7,m3',mN',i1,hpv,hpne,hv,hv0,hiP];exact fin 2 _ (by omega)
   ·simp only[go_sem,f1,f3,f6,f7,m0',hb,hp,i2,i3,i4,j1,hsh,hc0,hc1,hcne,t1,i6,i7,hq1];refine W.draw 7 [0,1,0,0,12,28,0] Try.mixed (by kernel_rfl) (by kernel_rfl) ?_;simp only[go_sem,f4,f5,f6,f7,m3',mN',i1,hpv,hpne,hv,hv0,hiP];exact fin (2+y.card % 2) _ c23
  ·have p2:2<=Wd*2/\Wd*2<=3 ^ i*3:=(by omega);have i5:IntKind.i64.wrap (2+IntKind.i64.wrap (Int.tmod 0 2))=2:=(by decide);have j2:=IntWalk.i64_in (Wd*2) (by omega);obtain⟨q,hq⟩:∃ q,IntKind.i64.wrap (Wd*2*2 ^ (min ((n:Int) - 1 - i).toNat IntKind.i64.bits))=q:=⟨_,rfl⟩
   have hsh:∀ t o1 o2,aX Try.prog .shl t o1 o2 (.lit (.int .i64 (Wd*2))) (.lit (.int .u64 ((n:Int) - 1 - i)))=some (.lit (.int .i64 q)):=fun t o1 o2=>by rw[pS (by omega),hq]
   by_cases hq1:q > 100
   ·simp only[go_sem,f1,f3,f6,f7,m0',hb,hp,i2,i3,i4,j2,hsh,i5,hq1];refine W.draw 7 [0,1,0,0,12,28,0] Try.mixed (by kernel_rfl) (by kernel_rfl) ?_;simp only[go_sem,f4,f5,f6,f7,m3',mN',i1,hpv,hpne,hv,hv0,hiP];exact fin 2 _ (by omega)
   ·simp only[go_sem,f1,f3,f6,f7,m0',hb,hp,i2,i3,i4,j2,hsh,i5,hq1];refine W.draw 7 [0,1,0,0,12,28,0] Try.mixed (by kernel_rfl) (by kernel_rfl) ?_;simp only[go_sem,f4,f5,f6,f7,m3',mN',i1,hpv,hpne,hv,hv0,hiP];exact fin 2 _ (by omega)
 ·obtain rfl:n=i:=by omega
  clear bs hW1 hW3 h6 f6;simp only[go_sem,f3,f7,hb];obtain⟨cs,hcs⟩:∃ cs,cs=ar ns:=⟨_,rfl⟩
  have csl:cs.length=n:=by rw[hcs,bP,hnl]
  have hc23:∀ c∈cs,2<=c/\c<=3:=fun c hc=>by
   obtain⟨v,hv⟩:=List.mem_iff_getElem?.1 hc;have hvn:=get_lt hv;have hm:=uQ ord n v (by omega);rw[<- hP]at hm;obtain⟨j,hj⟩:=List.mem_iff_getElem?.1 hm;obtain⟨x,hx,h2,h3⟩:=hnc j v (by have:=get_lt hj;omega) hj;rw[hcs,cK hx]at hv;cases hv;exact⟨h2,h3⟩
  have L0:LoopN g cs P n 0 ns:=⟨hnl,hcs.symm,fun j v x _ _ hx=>hnz x (List.mem_of_getElem? hx),fun j v x h=>by omega⟩
  clear hnc hnz h7;refine W.aG 98079714615416886934934209737619636635871851991103765504 (by rfl) (fun ρ Hy=>∃ (i:Nat) (ns:List NodeP),ρ 10=aa i/\i<=n/\LoopN g cs P n i ns/\Hx.next<=Hy.next/\kW H1 Hy (H.next+2) (bF ns)) (fun ρ H=>n - (iv (ρ 10)).toNat) ?_ ?_
  ·simp only[go_sem];exact⟨0,ns,rfl,by omega,L0,hF⟩
  clear L0 hF m0 m3 mN m0' m3' mN' hFn hnl hcs f7;rintro ρ Hy ⟨i,ns,h10,hi,L,hny,hF⟩;refine W.env fun E hE=>?_;have e1:E 1=.ptr H.next 0 0:=by rw[hE];simp only[go_sem,f1]
  have e2:E 2=.ptr (H.next+1) 0 0:=by rw[hE];simp only[go_sem,f2]
  have e3:E 3=aa n:=by rw[hE];simp only[go_sem,f3]
  have e4:E 4=.ptr (H.next+3) 0 0:=by rw[hE];simp only[go_sem,f4]
  have e5:E 5=ae P:=by rw[hE];simp only[go_sem,f5]
  have e10:E 10=aa i:=by rw[hE];simp only[go_sem,h10]
  clear hE;refine ab _ _ _ (by rfl) ?_;have hFn:=hF.1;have m0:=ah ((hF.2.1 H.next (by omega) (by omega)).trans g0');have m1:=ah ((hF.2.1 (H.next+1) (by omega) (by omega)).trans g1');have m3:=ah ((hF.2.1 (H.next+3) (by omega) (by omega)).trans g3');have m0':∀ L,(ext Hy L).live H.next 0=some (25,[.lit (.int .u8 g0),.vec ps.length (eP ps),.vec ord.length (aY ord)]):=fun L=>(dB (by omega)).trans m0;by_cases hb:(i:Int)<n
  ·obtain⟨pv,hpv⟩:=get_of_lt (l:=P) (i:=i) (by omega);have hpr:=hperm.rng pv (List.mem_of_getElem? hpv);obtain⟨v,rfl⟩:=Int.eq_ofNat_of_zero_le hpr.1;have hnl:=L.len;obtain⟨x,hx⟩:=get_of_lt (l:=ns) (i:=v) (by omega);have hpne:=aJ hpv;have hiP:(i:Int)<P.length:=(by omega);have hP1:∀ k:Nat,k<n->∃ u:Nat,P[k]?=some (u:Int)/\u<n:=fun k hk=>by
    obtain⟨q,hq⟩:=get_of_lt (l:=P) (i:=k) (by omega);have:=hperm.rng q (List.mem_of_getElem? hq);obtain⟨u,rfl⟩:=Int.eq_ofNat_of_zero_le this.1;exact⟨u,hq,by omega⟩
   have hpc:∀ (B:List AVal),B=(if (i:Int)<ps.length then (eP ps).drop (i*3) |>.take 3 else [.lit (.int .u8 0),.lit (.int .u8 0),.lit (.slice none 0 0)])->∃ (pc par:Int) (bs:List Int) (wv:AVal),B=[.lit (.int .u8 pc),.lit (.int .u8 par),wv]/\U8 par/\(∀ b∈bs,U8 b)/\(bs.length:Int)<2 ^ 63/\wv.one=true/\wv.cells=[wv]/\∀ H0,Fz (fun _=>True) H0 0 wv (.vec bs.length (aY bs)):=by
    rintro B rfl;by_cases hp:(i:Int)<ps.length
    ·obtain⟨y,hy⟩:=get_of_lt (l:=ps) (i:=i) (by omega);have hyo:=hps y (List.mem_of_getElem? hy);rw[if_pos hp,Dv hy];exact⟨y.card,y.par,y.w,_,rfl,hyo.2.1,hyo.2.2.2,hyo.2.2.1,rfl,rfl,fun H0=>.vec rfl fun i hi _=>by simp only[aY,List.getElem_map];exact .lit _⟩
    ·rw[if_neg hp];exact⟨0,0,[],_,rfl,by unfold U8;omega,by simp,by simp,rfl,rfl,fun H0=>.nil⟩
   by_cases hp:(i:Int)<ps.length
   case' pos =>
    have hc1:i*3+3<=(eP ps).length:=(by rw[Dw];omega);have hcne:¬ eP ps=[]:=fun h=>by rw[h]at hc1;simp at hc1
    rw[if_pos hp]at hpc;obtain⟨pc,par,bs,wv,hc0,hpar,hbs,hbl,hwo,hwc,hwf⟩:=hpc _ rfl;simp only[go_sem,e1,e3,e5,e10,m0',hb,hp,hc0,hc1,hcne,hpv,hpne,hiP,hwo,Bool.and_true];obtain⟨Hz,hHz⟩:∃ Hz,Hz=ext Hy [.arr 0 86 [.lit (.int .u8 pc),.lit (.int .u8 par),wv]]:=⟨_,rfl⟩
    clear hpc hc0 hc1 hcne hp
   case' neg =>
    rw[if_neg hp]at hpc;obtain⟨pc,par,bs,wv,hc0,hpar,hbs,hbl,hwo,hwc,hwf⟩:=hpc _ rfl;simp only[go_sem,e1,e3,e5,e10,m0',hb,hp,hpv,hpne,hiP];rw[hc0];obtain⟨Hz,hHz⟩:∃ Hz,Hz=ext Hy [.arr 0 86 [.lit (.int .u8 pc),.lit (.int .u8 par),wv]]:=⟨_,rfl⟩
    clear hpc hc0 hp
   all_goals
    rw[<- hHz];refine W.env fun E3 hE3=>?_;have k1:E3 1=.ptr H.next 0 0:=(by rw[hE3];simp only[go_sem,e1]);have k2:E3 2=.ptr (H.next+1) 0 0:=(by rw[hE3];simp only[go_sem,e2]);have k3:E3 3=aa n:=(by rw[hE3];simp only[go_sem,e3]);have k4:E3 4=.ptr (H.next+3) 0 0:=(by rw[hE3];simp only[go_sem,e4]);have k5:E3 5=ae P:=(by rw[hE3];simp only[go_sem,e5]);have k10:E3 10=aa i:=(by rw[hE3];simp only[go_sem,e10]);have k11:E3 11=.ptr Hy.next 0 0:=(by rw[hE3];simp only[go_sem]);have k12:E3 12=aa v:=(by rw[hE3];simp only[go_sem]);have k13:E3 13=aa 0:=(by rw[hE3];simp only[go_sem]);clear hE3;have nz:Hz.next=Hy.next+1:=(by rw[hHz];rfl);have z3:Hz.get (H.next+3)=some (.arr 0 35 [.lit (.int .i64 g),.own (H.next+2) 0 0 n 3]):=(by rw[hHz,cb _ _ _ (by omega)];exact(hF.2.1 (H.next+3) (by omega) (by omega)).trans g3');have zP:Hz.get Hy.next=some (.arr 0 86 [.lit (.int .u8 pc),.lit (.int .u8 par),wv]):=(by rw[hHz];exact cA);have zN:Hz.get (H.next+2)=some (.arr 0 69 (bF ns)):=(by rw[hHz,cb _ _ _ (by omega)];exact hF.2.2);have zO:∀ id,id<H1.next->id≠H.next+2->Hz.get id=H1.get id:=fun id h1 h2=>by rw[hHz,cb _ _ _ (by omega)];exact hF.2.1 id h1 h2
    obtain⟨xr,xp⟩:=L.todo i v x (Nat.le_refl _) hpv hx;have hzl:=Dx ns;have hvn:=get_lt hx;have hcx:(bF ns)[v*3+1]?=some (.lit (.slice none 0 0)):=by
     have:=ki (f:=NodeP.cq) (z:=3) jH ns v 1 x hx (by omega);rw[show (bF ns)[v*3+1]?=_ from this];unfold NodeP.cq;rw[if_pos xr];rfl
    clear hHz e1 e2 e3 e4 e5 e10 f1 f2 f3 f4 f5 m0' m0 m1 m3;have vlt:(v:Int)<n:=hpr.2;have v0:(v:Int) >= 0:=hpr.1;have hset:∀ pv pv',setAt ((bF ns).set (v*3+1) pv) (v*3+1) [pv']=(bF ns).set (v*3+1) pv':=fun pv pv'=>by rw[iK (by rw[List.length_set];omega),List.set_set]
    have hgetc:∀ pv,((bF ns).set (v*3+1) pv)[v*3+1]?=some pv:=fun pv=>List.getElem?_set_self (by omega);refine W.rW (Q':=fun e s2=>e=.exit 4/\∃ pv l,s2.ρ 1=.ptr H.next 0 0/\s2.ρ 2=.ptr (H.next+1) 0 0/\s2.ρ 3=aa n/\s2.ρ 4=.ptr (H.next+3) 0 0/\s2.ρ 5=ae P/\s2.ρ 10=aa i/\s2.ρ 11=.ptr Hy.next 0 0/\s2.ρ 12=aa v/\yM Hz s2.H (H.next+2) (v*3+1) (bF ns) pv l/\ParU P i n 0 l) ?_ ?_
    ·refine W.aG 44601490397061167054908922280959129468035072 (by rfl) (fun ρ Hu=>∃ (u:Nat) (pv:AVal) (l:List Int),ρ 13=aa u/\u<=n/\yM Hz Hu (H.next+2) (v*3+1) (bF ns) pv l/\ParU P i u 0 l) (fun ρ H=>n - (iv (ρ 13)).toNat) ?_ ?_
     ·simp only[go_sem,k13];refine⟨0,.lit (.slice none 0 0),[],rfl,by omega,⟨⟨Nat.le_refl _,fun _ _ _=>rfl,?_⟩,.nil⟩,⟨by simp,by simp,by simp,by simp⟩⟩;rw[zN,mr hcx]
     rintro ρu Hu ⟨u,pv,l,h13,hu,hS,hL⟩;refine W.env fun E4 hE4=>?_;have q3:E4 3=aa n:=(by rw[hE4];simp only[go_sem,k3]);have q4:E4 4=.ptr (H.next+3) 0 0:=(by rw[hE4];simp only[go_sem,k4]);have q5:E4 5=ae P:=(by rw[hE4];simp only[go_sem,k5]);have q10:E4 10=aa i:=(by rw[hE4];simp only[go_sem,k10]);have q11:E4 11=.ptr Hy.next 0 0:=(by rw[hE4];simp only[go_sem,k11]);have q12:E4 12=aa v:=(by rw[hE4];simp only[go_sem,k12]);have q13:E4 13=aa u:=(by rw[hE4];simp only[go_sem,h13]);have q1:E4 1=.ptr H.next 0 0:=(by rw[hE4];simp only[go_sem,k1]);have q2:E4 2=.ptr (H.next+1) 0 0:=(by rw[hE4];simp only[go_sem,k2]);clear hE4;refine ab _ _ _ (by rfl) ?_;by_cases hub:(u:Int)<n
     ·have u1:=IntWalk.i64_in ((u:Int)+1) (by omega);simp only[go_sem,q3,q13,hub];refine W.aG 44601490397058710981870980086493729605566464 (by rfl) (fun ρ Hk=>∃ (k:Nat) (pv:AVal) (l:List Int),ρ 14=aa k/\k<=i/\Hu.next<=Hk.next/\yM Hz Hk (H.next+2) (v*3+1) (bF ns) pv l/\ParU P i u k l) (fun ρ H=>i - (iv (ρ 14)).toNat) ?_ ?_
      ·simp only[go_sem];exact⟨0,pv,l,rfl,by omega,hS,hL⟩
      clear hS hL;rintro ρk Hk ⟨k,pv,l,h14,hk,hnk,hS,hL⟩;refine W.env fun E5 hE5=>?_;have r4:E5 4=.ptr (H.next+3) 0 0:=(by rw[hE5];simp only[go_sem,q4]);have r5:E5 5=ae P:=(by rw[hE5];simp only[go_sem,q5]);have r10:E5 10=aa i:=(by rw[hE5];simp only[go_sem,q10]);have r11:E5 11=.ptr Hy.next 0 0:=(by rw[hE5];simp only[go_sem,q11]);have r12:E5 12=aa v:=(by rw[hE5];simp only[go_sem,q12]);have r13:E5 13=aa u:=(by rw[hE5];simp only[go_sem,q13]);have r14:E5 14=aa k:=(by rw[hE5];simp only[go_sem,h14]);clear hE5;refine ab _ _ _ (by rfl) ?_;by_cases hki:(k:Int)<i
      ·obtain⟨hFz,hOz⟩:=hS;have hFz1:=hFz.1;obtain⟨a,ha,han⟩:=hP1 k (by omega);have hane:=aJ ha;have hkP:(k:Int)<P.length:=(by omega);have s1:=IntWalk.i64_in ((k:Int)+1) (by omega);have s2:=IntWalk.u64_in (k:Int) (by omega);have y3:=ah ((hFz.2.1 (H.next+3) (by omega) (by omega)).trans z3);have yP:=ah ((hFz.2.1 Hy.next (by omega) (by omega)).trans zP);have yN:=ah hFz.2.2;have hgc:=hgetc pv;have hcne2:=aJ hgc;obtain⟨r1,hr1⟩:∃ r1,∀ t o1 o2,aX Try.prog .shr t o1 o2 (.lit (.int .u8 par)) (.lit (.int .u64 (k:Int)))=some (.lit (.int .u8 r1)):=⟨_,fun _ _ _=>rU (by omega)⟩
       obtain⟨r2,hr2⟩:∃ r2,∀ t o1 o2,aX Try.prog .and t o1 o2 (.lit (.int .u8 r1)) (.lit (.int .u8 1))=some (.lit (.int .u8 r2)):=⟨_,fun _ _ _=>vb⟩
       have hlen:=yL hOz (d:=some (.slice 3)) rfl;rw[wo,aM]at hlen;by_cases hau:(a:Int)=u
       ·have hau':a=u:=(by omega);by_cases hr:r2=1
        ·by_cases hl3:(l.length:Int)<3
         ·simp only[go_sem,r4,r5,r10,r11,r12,r13,r14,hki,ha,hane,hkP,s2,y3,yP,yN,hgc,hr1,hr2,hlen,hau,hr,hl3,vlt,v0];obtain⟨pv',Hj,hA,hO',hn',hpr'⟩:=jv (P:=Try.prog) (H:=Hk) (t:=39) (x:=aa u) (n:=Hk.next+1) Try.underlying39 Try.dW Try.ew rfl (by rw[Try.eU,aM];omega) hOz hFz1 rfl;simp only[aa]at hA;have keep:∀ id,id<Hz.next->Hj.get id=Hk.get id:=fun id h=>hpr' id (by omega) (hOz.ne h);have y3j:=ah ((keep _ (by omega)).trans ((hFz.2.1 (H.next+3) (by omega) (by omega)).trans z3));have yNj:=ah ((keep _ (by omega)).trans hFz.2.2);refine W.draw 12 [0,1,0,0,8,0,56,120,248,0,512,2040] Try.mixed (by kernel_rfl) (by kernel_rfl) ?_;simp only[go_sem,r4,r12,r13,r14,y3,yN,yNj,hgc,vlt,v0,hA,s1];have hdj:lx (if jR pv=true then { eff:=aI pv,rs:=aI pv++[Hk.next] } else { eff:=[Hk.next+1],rs:=[Hk.next] }) { eff:=[],rs:=[H.next+3] }:=by
           rcases hOz with ⟨hO1,_⟩|⟨id,gg,hO1,hO2,hO3,_⟩
           ·rw[hO1];show lx { eff:=[Hk.next+1],rs:=[Hk.next] } _;exact⟨fun a ha=>by (obtain rfl:a=Hk.next+1:=by simpa using ha);simp;omega,fun a ha=>by simp at ha⟩
           ·rw[hO3];show lx { eff:=[id],rs:=[id]++[Hk.next] } _;exact⟨fun a ha=>by (obtain rfl:a=id:=by simpa using ha);simp;omega,fun a ha=>by simp at ha⟩
          have hpc1:=hO'.cells;rw[hpc1];refine⟨⟨by omega,by omega,by omega,by omega,by omega,by omega,by omega⟩,⟨hdj,hdj⟩,⟨rfl,by simp [hO'.one],by rw[List.length_set];simp;omega⟩,by rw[az];omega,⟨k+1,pv',l++[(u:Int)],rfl,by omega,by rw[az];omega,⟨⟨by rw[az];omega,fun id h1 h2=>by rw[ag,if_neg h2,keep _ h1];exact hFz.2.1 id h1 h2,?_⟩,?_⟩,hL.add hperm (by omega) (by rw[ha,hau]) (by omega)⟩,by rw[h14];simp only[aa,aK];omega⟩
          ·rw[ag,if_pos rfl,hset]
          ·have:=hO'.keep (lo':=Hz.next) (H':=Hj.upd (H.next+2) (.arr 0 69 (setAt ((bF ns).set (v*3+1) pv) (v*3+1) [pv']))) (Nat.le_refl _) (Nat.le_refl _) fun id _ h1 _ _ _=>by rw[ag,if_neg (by omega)]
           simpa [ints,aa] using this
         ·simp only[go_sem,r4,r5,r10,r11,r12,r13,r14,hki,ha,hane,hkP,s1,s2,y3,yP,yN,hgc,hr1,hr2,hlen,hau,hr,hl3,vlt,v0];exact⟨hnk,⟨k+1,pv,l,rfl,by omega,hnk,⟨hFz,hOz⟩,hL.skip⟩,by rw[h14];simp only[aa,aK];omega⟩
        ·simp only[go_sem,r5,r10,r11,r13,r14,hki,ha,hane,hkP,s1,s2,yP,hr1,hr2,hau,hr];exact⟨hnk,⟨k+1,pv,l,rfl,by omega,hnk,⟨hFz,hOz⟩,hL.skip⟩,by rw[h14];simp only[aa,aK];omega⟩
       ·simp only[go_sem,r5,r10,r13,r14,hki,ha,hane,hkP,s1,hau];exact⟨hnk,⟨k+1,pv,l,rfl,by omega,hnk,⟨hFz,hOz⟩,hL.skip⟩,by rw[h14];simp only[aa,aK];omega⟩
      ·obtain rfl:k=i:=(by omega);simp only[go_sem,r10,r13,r14,hki,u1];exact⟨by have:=hS.1.1;omega,⟨u+1,pv,l,rfl,by omega,hS,hL.next⟩,by rw[h13];simp only[aa,aK];omega⟩
     ·obtain rfl:u=n:=(by omega);simp only[go_sem,q1,q2,q3,q4,q5,q10,q11,q12,q13,hub];exact⟨pv,l,hS,hL⟩
    ·rintro e s2 ⟨rfl,pv,l,a1,a2,a3,a4,a5,a10,a11,a12,⟨hFz,hOz⟩,hL⟩;have hFz1:=hFz.1;obtain⟨rk,hrk,hfz⟩:∃ rk,Hz.next<=rk/\Fz (fun id=>id=rk) s2.H s2.H.next pv (ae l):=by
      rcases hOz with ⟨hO1,hO2⟩|⟨id,gg,hO1,hO2,hO3,hO4⟩
      ·have:l=[]:=by cases l with
        | nil=>rfl
        | cons b l=>simp [ints]at hO2
       rw[hO1,this];exact⟨s2.H.next,hFz1,.nil⟩
      ·refine⟨id,hO1,?_⟩;rw[hO3,aM];refine .frz rfl hO4 (by rw[Nat.mul_one,aM]) fun j hj h2 h'=>?_;simp only[Nat.zero_add,ints,List.getElem_map];exact .lit _
     have hne2:H.next+2≠rk:=(by omega);refine⟨⟨s2.ρ,s2.H.eQ rk (H.next+2) (.arr 0 69 ((bF ns).set (v*3+1) (ae l)))⟩,dG.eQ aP hFz.2.2 hne2 (by simp) (D9 (DA ns) hfz),Nat.le_refl _,trivial,?_⟩;obtain⟨Hm,hHm⟩:∃ Hm,Hm=s2.H.eQ rk (H.next+2) (.arr 0 69 ((bF ns).set (v*3+1) (ae l))):=⟨_,rfl⟩
     rw[<- hHm];have hFm:kW Hz Hm (H.next+2) ((bF ns).set (v*3+1) (ae l)):=by
      rw[hHm];exact⟨hFz1,fun id h1 h2=>(zh (by omega) h2).trans (hFz.2.1 id h1 h2),zg hne2⟩
     clear hFz hOz hfz hHm hne2 hrk;simp only[go_sem];refine W.env fun E6 hE6=>?_;have y1:E6 1=.ptr H.next 0 0:=(by rw[hE6];simp only[go_sem,a1]);have y2:E6 2=.ptr (H.next+1) 0 0:=(by rw[hE6];simp only[go_sem,a2]);have y3:E6 3=aa n:=(by rw[hE6];simp only[go_sem,a3]);have y4:E6 4=.ptr (H.next+3) 0 0:=(by rw[hE6];simp only[go_sem,a4]);have y5:E6 5=ae P:=(by rw[hE6];simp only[go_sem,a5]);have y10:E6 10=aa i:=(by rw[hE6];simp only[go_sem,a10]);have y11:E6 11=.ptr Hy.next 0 0:=(by rw[hE6];simp only[go_sem,a11]);have y12:E6 12=aa v:=(by rw[hE6];simp only[go_sem,a12]);have y15:E6 15=aa 0:=(by rw[hE6];simp only[go_sem]);clear hE6 a1 a2 a3 a4 a5 a10 a11 a12;have lsm:dY (aT cs l):=nH (by rw[gZ];have:=hL.p3;omega) fun c hc=>by
      unfold aT at hc;obtain⟨q,hq,rfl⟩:=List.mem_map.1 hc;have hqr:=hL.rng q hq;obtain⟨c,hc⟩:=get_of_lt (l:=cs) (i:=q.toNat) (by rw[csl];rcases hqr.2 with h|⟨_,k',h,_⟩<;>omega);rw[bG hc];have:=hc23 c (List.mem_of_getElem? hc);omega
     have lpos:0<aw (aT cs l)/\aw (aT cs l)<=27:=by
      have c3:∀ c∈aT cs l,1<=c/\c<=3:=fun c hc=>by
       unfold aT at hc;obtain⟨q,hq,rfl⟩:=List.mem_map.1 hc;have hqr:=hL.rng q hq;obtain⟨c,hc⟩:=get_of_lt (l:=cs) (i:=q.toNat) (by rw[csl];rcases hqr.2 with h|⟨_,k',h,_⟩<;>omega);rw[bG hc];have:=hc23 c (List.mem_of_getElem? hc);omega
      have h1:=jc fun c hc=>(c3 c hc).1;have h2:=(nt (b:=3) (by omega) fun c hc=>⟨by have:=(c3 c hc).1;omega,(c3 c hc).2⟩).2;have h3:(3:Int) ^ (aT cs l).length<=3 ^ 3:=by
       have:(3:Nat) ^ (aT cs l).length<=3 ^ 3:=Nat.pow_le_pow_right (by decide) (by rw[gZ];exact hL.p3)
       exact_mod_cast this
      omega
     obtain⟨R,hR⟩:=Int.eq_ofNat_of_zero_le (show 0<=aw (aT cs l) by omega);have hxc:2<=x.card/\x.card<=3:=hc23 x.card (by rw[<- L.cards];exact List.mem_of_getElem? (cK hx));have hFm1:=hFm.1;have w3:Hm.get (H.next+3)=some (.arr 0 35 [.lit (.int .i64 g),.own (H.next+2) 0 0 n 3]):=(hFm.2.1 _ (by omega) (by omega)).trans z3;have wP:Hm.get Hy.next=some (.arr 0 86 [.lit (.int .u8 pc),.lit (.int .u8 par),wv]):=(hFm.2.1 _ (by omega) (by omega)).trans zP;obtain⟨C1,hC1⟩:∃ C1,C1=(bF ns).set (v*3+1) (ae l):=⟨_,rfl⟩
     have c1l:C1.length=ns.length*3:=(by rw[hC1,List.length_set,hzl]);have hcx2:C1[v*3+2]?=some (.lit (.slice none 0 0)):=by
      have:=ki (f:=NodeP.cq) (z:=3) jH ns v 2 x hx (by omega);rw[hC1,List.getElem?_set_ne (by omega),show (bF ns)[v*3+2]?=_ from this];unfold NodeP.cq;rw[if_pos xr];rfl
     have hcx0:C1[v*3]?=some (aa x.card):=(by rw[hC1,List.getElem?_set_ne (by omega)];exact Dy hx);rw[<- hC1]at hFm;have hset2:∀ rv rv',setAt (C1.set (v*3+2) rv) (v*3+2) [rv']=C1.set (v*3+2) rv':=fun rv rv'=>by rw[iK (by rw[List.length_set];omega),List.set_set]
     have hgc2:∀ rv,(C1.set (v*3+2) rv)[v*3+2]?=some rv:=fun rv=>List.getElem?_set_self (by omega);have hgc0:∀ rv,(C1.set (v*3+2) rv)[v*3]?=some (aa x.card):=fun rv=>by rw[List.getElem?_set_ne (by omega)];exact hcx0
     refine W.rW (Q':=fun e s2=>e=.exit 8/\∃ (rv:AVal) (rows:List (List Int)),s2.ρ 1=.ptr H.next 0 0/\s2.ρ 2=.ptr (H.next+1) 0 0/\s2.ρ 3=aa n/\s2.ρ 4=.ptr (H.next+3) 0 0/\s2.ρ 5=ae P/\s2.ρ 10=aa i/\rows.length=R/\(∀ r∈rows,jK g x.card r)/\kW Hm s2.H (H.next+2) (C1.set (v*3+2) rv)/\aD Hm.next s2.H 39 rv (rows.map ae)) ?_ ?_
     ·refine W.aG 98079714615372285444537148491336716315054007096738611200 (by rfl) (fun ρ Hr=>∃ (r:Nat) (rv:AVal) (rows:List (List Int)),ρ 15=aa r/\r<=R/\rows.length=r/\(∀ r∈rows,jK g x.card r)/\kW Hm Hr (H.next+2) (C1.set (v*3+2) rv)/\aD Hm.next Hr 39 rv (rows.map ae)) (fun ρ H=>R - (iv (ρ 15)).toNat) ?_ ?_
      ·simp only[go_sem,y15];refine⟨0,.lit (.slice none 0 0),[],rfl,by omega,rfl,by simp,⟨Nat.le_refl _,fun _ _ _=>rfl,?_⟩,.nil⟩;rw[hFm.2.2,mr hcx2]
      rintro ρr Hr ⟨r,rv,rows,h15,hr,hrl,hrows,hFr,hOr⟩;refine W.env fun E7 hE7=>?_;have b1:E7 1=.ptr H.next 0 0:=(by rw[hE7];simp only[go_sem,y1]);have b2:E7 2=.ptr (H.next+1) 0 0:=(by rw[hE7];simp only[go_sem,y2]);have b3:E7 3=aa n:=(by rw[hE7];simp only[go_sem,y3]);have b4:E7 4=.ptr (H.next+3) 0 0:=(by rw[hE7];simp only[go_sem,y4]);have b5:E7 5=ae P:=(by rw[hE7];simp only[go_sem,y5]);have b10:E7 10=aa i:=(by rw[hE7];simp only[go_sem,y10]);have b11:E7 11=.ptr Hy.next 0 0:=(by rw[hE7];simp only[go_sem,y11]);have b12:E7 12=aa v:=(by rw[hE7];simp only[go_sem,y12]);have b15:E7 15=aa r:=(by rw[hE7];simp only[go_sem,h15]);clear hE7;refine ab _ _ _ (by rfl) ?_;have hFr1:=hFr.1;have v3:=ah ((hFr.2.1 (H.next+3) (by omega) (by omega)).trans w3);have vP:=ah ((hFr.2.1 Hy.next (by omega) (by omega)).trans wP);have vN:=ah hFr.2.2;have hzp:∀ z∈ns,z.rows=[]->z.parents=[]:=fun z hz hz0=>by
       obtain⟨u,hu⟩:=List.mem_iff_getElem?.1 hz;have hm:=uQ ord n u (by have:=get_lt hu;omega);rw[<- hP]at hm;obtain⟨j,hj⟩:=List.mem_iff_getElem?.1 hm;rcases Nat.lt_or_ge j i with h|h
       ·exact absurd hz0 (L.done j u z h hj hu).ne
       ·exact(L.todo j u z h hj hu).2
      have hcard:ar (ns.set v ⟨x.card,l,rows⟩)=cs:=by
       have h1:ar (ns.set v ⟨x.card,l,rows⟩)=(ar ns).set v x.card:=(by unfold ar;rw[List.map_set]);rw[h1,mr (cK hx),L.cards]
      have hpar:aS (ns.set v ⟨x.card,l,rows⟩) ⟨x.card,l,rows⟩=aT cs l:=(by unfold aS;rw[hcard]);have fzN:Fz (fun _=>True) Hr 0 (.agg [aa g,.own (H.next+2) 0 0 n 3]) (aQ g (ns.set v ⟨x.card,l,rows⟩)):=by
       refine .agg rfl fun i hi _=>?_
       match i,hi with
       | 0,_=>exact .lit _
       | 1,_ =>
        show Fz _ _ _ _ (.vec (ns.set v ⟨x.card,l,rows⟩).length (au (ns.set v ⟨x.card,l,rows⟩)));rw[List.length_set,hnl,Qh (y:=⟨x.card,l,rows⟩) hx rfl];refine .frz trivial hFr.2.2 (by rw[List.length_set,List.length_set,fk];omega) fun j hj h2 h'=>?_;simp only[Nat.zero_add];refine Dz (A:=C1) (B:=(au ns).set (v*3+1) (ae l)) ?_ ?_ j _ _
        ·rw[hC1];exact Dz (Qg ns hzp) (.dk _)
        ·have:=hOr.fz (S:=fun _=>True) (nx:=0) (cs':=rows.map ae) (fun _ _=>trivial) rfl fun i hi _=>by simp only[List.getElem_map];exact .dk _
         rw[List.length_map]at this;exact this
      simp only[go_sem,b4,b12,b15,v3];refine aB.clo ((af.frame (H:=Hr) (args:=[.agg [aa g,.own (H.next+2) 0 0 n 3],aa v]) (args':=[aQ g (ns.set v ⟨x.card,l,rows⟩),aa v]) (v':=ae (aT cs l)) aP rfl (fun i hi _=>?_) (Qj g (ns.set v ⟨x.card,l,rows⟩) v ⟨x.card,l,rows⟩ (List.getElem?_set_self hvn) (by rw[List.length_set];omega) (by show (l.length:Int)<_;have:=hL.p3;omega) (fun q hq=>by
        have hqr:=hL.rng q hq;rw[List.length_set];rcases hqr.2 with h|⟨_,k',h,_⟩<;>omega) cH _ fun w Hq _ ho=>⟨_,rfl,by rw[hpar]at ho;exact ho.rR⟩)).mono fun r1 H1' hr1=>?_)
      ·match i,hi with
       | 0,_=>exact fzN
       | 1,_=>exact .lit _
      obtain⟨rfl,rfl⟩:=hr1;refine⟨trivial,?_⟩;simp only[go_sem];refine aB.clo (yX (aT cs l) lsm _ _ ⟨trivial,?_⟩);rw[hR];by_cases hrR:(r:Int)<R
      ·simp only[go_sem,hrR];obtain⟨xn,hxn⟩:=Int.eq_ofNat_of_zero_le (show 0<=x.card by omega);have rc:0<=(r:Int)*(x.card+1)/\(r:Int)*(x.card+1)<=27*4:=⟨Int.mul_nonneg (by omega) (by omega),Int.mul_le_mul (by omega) (by omega) (by omega) (by omega)⟩
       have c1:=IntWalk.i64_in (x.card+1) (by omega);have c2:=IntWalk.i64_in ((r:Int)*(x.card+1)) (by omega);have c3:=IntWalk.i64_in ((r:Int)+1) (by omega);have hg2:=hgc2 rv;have hg0':=hgc0 rv;have hg2n:=aJ hg2;obtain⟨row,hrow⟩:∃ row,row=pM g xn bs ((r:Int)*(x.card+1)):=⟨_,rfl⟩
       have hrok:jK g x.card row:=(by rw[hrow,hxn];exact Qc hg1.1 (by omega) _ _);have hpc84:∀ Hq,dA Try.prog G0 (.clo 38 [] []) [aa g,aa x.card,wv,aa ((r:Int)*(x.card+1))] Hq (ae row) []:=fun Hq=>by
        refine dA.mk (fun i hi=>by cases hi) fun H2 _ _=>?_;refine af.frame (H:=H2) (args:=[aa g,aa x.card,wv,aa ((r:Int)*(x.card+1))]) (args':=[aa g,aa xn,.vec bs.length (aY bs),aa ((r:Int)*(x.card+1))]) (v':=ae row) aP rfl (fun i hi _=>?_) (Qd g xn hg1 (by omega) bs hbl hbs _ (by omega) cH _ fun w Hw _ ho=>⟨_,rfl,by rw[hrow];exact ho.rR⟩)
        match i,hi with
        | 0,_=>exact .lit _
        | 1,_=>rw[hxn];exact .lit _
        | 2,_=>exact hwf _
        | 3,_=>exact .lit _
       obtain⟨rv',Hj,hA,hO',hn',hpr'⟩:=jv (P:=Try.prog) (H:=H1') (t:=40) (x:=ae row) (n:=H1'.next+1) Try.underlying40 Try.l8 Try.ma rfl (by rw[Try.l9,List.length_map];omega) hOr hFr1 rfl;have keep:∀ id,id<Hm.next->Hj.get id=H1'.get id:=fun id h=>hpr' id (by omega) (hOr.ne h);have v3j:=ah ((keep _ (by omega)).trans ((hFr.2.1 (H.next+3) (by omega) (by omega)).trans w3));have vNj:=ah ((keep _ (by omega)).trans hFr.2.2);have hA':bC Try.prog (ext H1' [.arr 0 39 [.vec row.length (ints row)]]) (H1'.next+1) 40 40 rv (.own H1'.next 0 0 1 1)=some (rv',Hj):=hA;refine W.draw 31 [0,1,0,0,8,0,56,120,248,0,512,0,2048,0,14336,30720,63488,0,131072,0,0,1048576,0,7340032,15728640,32505856,66060288,133693440,268434944,536870400,1073741816] Try.mixed (by kernel_rfl) (by kernel_rfl) ?_;simp only[go_sem,b4,b11,b12,b15,v3,vP,vN,hg2,hg0',vlt,v0,c1,c2];refine⟨ae row,[],hpc84 _,?_⟩;simp only[go_sem,b4,b11,b12,b15,vNj,vlt,v0,c3,hA'];have hdj:lx (if jR rv=true then { eff:=aI rv,rs:=aI rv++[H1'.next] } else { eff:=[H1'.next+1],rs:=[H1'.next] }) { eff:=[],rs:=[H.next+3] }:=by
        rcases hOr with ⟨hO1,_⟩|⟨id,gg,hO1,hO2,hO3,_⟩
        ·rw[hO1];show lx { eff:=[H1'.next+1],rs:=[H1'.next] } _;exact⟨fun a ha=>by (obtain rfl:a=H1'.next+1:=by simpa using ha);simp;omega,fun a ha=>by simp at ha⟩
        ·rw[hO3];show lx { eff:=[id],rs:=[id]++[H1'.next] } _;exact⟨fun a ha=>by (obtain rfl:a=id:=by simpa using ha);simp;omega,fun a ha=>by simp at ha⟩
       rw[hO'.cells];refine⟨⟨by omega,by omega,by omega,by omega,by omega,by omega,by omega⟩,⟨hdj,hdj⟩,⟨rfl,by simp [hO'.one],by rw[List.length_set,c1l];simp;omega⟩,by rw[az];omega,⟨r+1,rv',rows++[row],rfl,by omega,by simp [hrl],fun q hq=>?_,⟨by rw[az];omega,fun id h1 h2=>by rw[ag,if_neg h2,keep _ h1];exact hFr.2.1 id h1 h2,?_⟩,?_⟩,by rw[h15];simp only[aa,aK];omega⟩
       ·rcases List.mem_append.1 hq with h|h
        ·exact hrows q h
        ·obtain rfl:=List.mem_singleton.1 h;exact hrok
       ·rw[ag,if_pos rfl,hset2]
       ·have:=hO'.keep (lo':=Hm.next) (H':=Hj.upd (H.next+2) (.arr 0 69 (setAt (C1.set (v*3+2) rv) (v*3+2) [rv']))) (Nat.le_refl _) (Nat.le_refl _) fun id _ h1 _ _ _=>by rw[ag,if_neg (by omega)]
        simpa using this
      ·simp only[go_sem,b1,b2,b3,b4,b5,b10,hrR];exact⟨rv,rows,by omega,hrows,hFr,hOr⟩
     ·rintro e s3 ⟨rfl,rv,rows,a1,a2,a3,a4,a5,a10,hrl,hrows,hFr,hOr⟩;have hFr1:=hFr.1;obtain⟨rk,hrk,hfz⟩:∃ rk,Hm.next<=rk/\Fz (fun id=>id=rk) s3.H s3.H.next rv (aA rows):=by
       rcases hOr with ⟨hO1,hO2⟩|⟨id,gg,hO1,hO2,hO3,hO4⟩
       ·have:rows=[]:=by cases rows with
         | nil=>rfl
         | cons b l=>simp at hO2
        rw[hO1,this];exact⟨s3.H.next,hFr1,.nil⟩
       ·refine⟨id,hO1,?_⟩;rw[hO3,List.length_map];refine .frz rfl hO4 (by rw[Nat.mul_one,List.length_map]) fun j hj h2 h'=>?_;simp only[Nat.zero_add,List.getElem_map];exact .dk _
      have hne2:H.next+2≠rk:=(by omega);have hC1z:∀ c∈C1,Fz (fun id=>id=rk) s3.H s3.H.next c c:=fun c hc=>by
       rw[hC1]at hc;rcases List.mem_or_eq_of_mem_set hc with h|h
       ·exact DA ns c h
       ·rw[h];exact .dk _
      refine⟨⟨s3.ρ,s3.H.eQ rk (H.next+2) (.arr 0 69 (C1.set (v*3+2) (aA rows)))⟩,dG.eQ aP hFr.2.2 hne2 (by simp) (D9 hC1z hfz),Nat.le_refl _,trivial,?_⟩;obtain⟨He,hHe⟩:∃ He,He=s3.H.eQ rk (H.next+2) (.arr 0 69 (C1.set (v*3+2) (aA rows))):=⟨_,rfl⟩
      rw[<- hHe];have hFe:kW Hm He (H.next+2) (C1.set (v*3+2) (aA rows)):=by
       rw[hHe];exact⟨hFr1,fun id h1 h2=>(zh (by omega) h2).trans (hFr.2.1 id h1 h2),zg hne2⟩
      clear hFr hOr hfz hHe hne2 hrk;have hFe1:=hFe.1;have i1:=IntWalk.i64_in ((i:Int)+1) (by omega);simp only[go_sem,a10,i1];have hiv:∀ j u:Nat,P[j]?=some (u:Int)->u=v->j=i:=fun j u h1 h2=>by
       subst h2;exact(List.getElem?_inj (get_lt h1) hperm.nd).1 (by rw[h1,hpv])
      have hrne:rows≠[]:=fun h=>by rw[h]at hrl;simp at hrl;omega
      have hdone:DoneN g cs P n i ⟨x.card,l,rows⟩:=⟨⟨hL.pw,fun q hq=>⟨(hL.rng q hq).1,by rcases(hL.rng q hq).2 with h|⟨_,k',h,_⟩<;>omega⟩⟩,hL.p3,hL.rk,by show (rows.length:Int)=_;rw[hrl,hR],hrows,hrne⟩
      refine⟨by omega,⟨i+1,ns.set v ⟨x.card,l,rows⟩,rfl,by omega,⟨by rw[List.length_set];exact hnl,?_,fun j u z hj hu hz=>?_,fun j u z hj hu hz=>?_⟩,by omega,by omega,fun id h1 h2=>?_,?_⟩,by rw[h10];simp only[aa,aK];omega⟩
      ·have h1:ar (ns.set v ⟨x.card,l,rows⟩)=(ar ns).set v x.card:=(by unfold ar;rw[List.map_set]);rw[h1,mr (cK hx),L.cards]
      ·have huv:¬ u=v:=fun h=>by have:=hiv j u hu h;omega
       rw[List.getElem?_set_ne (by omega)]at hz;exact L.todo j u z (by omega) hu hz
      ·by_cases huv:u=v
       ·obtain rfl:=hiv j u hu huv;rw[huv,List.getElem?_set_self hvn]at hz;cases hz;exact hdone
       ·rw[List.getElem?_set_ne (by omega)]at hz;have:j≠i:=fun h=>by
         rw[h,hpv]at hu;exact huv (by have:=Option.some.inj hu;omega)
        exact L.done j u z (by omega) hu hz
      ·rw[hFe.2.1 id (by omega) h2,hFm.2.1 id (by omega) h2];exact zO id h1 h2
      ·rw[hFe.2.2,Qm (y:=⟨x.card,l,rows⟩) hx rfl hrne,hC1]
  ·obtain rfl:i=n:=(by omega);simp only[go_sem,e2,e3,e4,e10,hb,m1,m3];have hnl:=L.len;have hall:∀ v:Nat,v<ns.length->(v:Int)∈P:=fun v hv=>by rw[hP];exact uQ ord i v (by omega)
   have hdn:∀ (v:Nat) (x:NodeP),ns[v]?=some x->∃ j,DoneN g cs P i j x:=fun v x hx=>by
    obtain⟨j,hj⟩:=List.mem_iff_getElem?.1 (hall v (get_lt hx));exact⟨j,L.done j v x (by have:=get_lt hj;have:=hperm.len;omega) hj hx⟩
   have hdm:∀ x∈ns,∃ j,DoneN g cs P i j x:=fun x hx=>by
    obtain⟨v,hv⟩:=List.mem_iff_getElem?.1 hx;exact hdn v x hv
   have ov:Over H (Hy.upd (H.next+1) (.arr 0 35 [.lit (.int .i64 g),.own (H.next+2) 0 0 i 3])):=⟨by rw[az];omega,fun id h=>by rw[ag,if_neg (by omega),hF.2.1 id (by omega) (by omega)];exact o1.old id h⟩
   have hz:bF ns=au ns:=Qe fun x hx=>(hdm x hx).elim fun j hj=>hj.ne;have hcl8:∀ x∈ns,2<=x.card/\x.card<=3:=fun x hx=>hc23 x.card (by rw[<- L.cards];exact List.mem_map.2 ⟨x,hx,rfl⟩);have hnet:NetOk g ns:=by
    refine⟨hg1,by omega,fun x hx=>?_,?_,Qk (P:=P) (by rw[hnl];exact hperm) hall fun j v x hj hx q hq=>?_,fun x hx=>?_⟩
    ·obtain⟨j,hj⟩:=hdm x hx;have:=hcl8 x hx;exact⟨by omega,by rw[hnl];exact hj.pl⟩
    ·have h2:=(nt (b:=3) (by omega) (l:=ar ns) fun c hc=>by have:=hc23 c (by rw[<- L.cards];exact hc);omega).2;have h3:(3:Int) ^ (ar ns).length<=3 ^ 5:=by
      have:(3:Nat) ^ (ar ns).length<=3 ^ 5:=Nat.pow_le_pow_right (by decide) (by rw[bP];omega)
      exact_mod_cast this
     omega
    ·have hd:=L.done j v x (by have:=get_lt hj;have:=hperm.len;omega) hj hx;exact⟨(hd.pl.2 q hq).1,hd.rk q hq⟩
    ·obtain⟨j,hj⟩:=hdm x hx;unfold iI aS;rw[L.cards];exact⟨hj.rl,hj.ro⟩
   rw[<- hnl];rw[<- hnl]at ov;refine av.mk ov.next (hK g ns (H.next+2) _ ov (by omega) (by rw[az];omega) ?_ hnet (by omega) fun x hx=>?_)
   ·rw[ag,if_neg (by omega),hF.2.2,hz]
   ·obtain⟨j,hj⟩:=hdm x hx;exact hj.p3
def Eb (args:Array Value):Sem Value:=do
  let (x, y, c) ← Extern.MathBitsCarry.three "Add64" args
  pure (Extern.MathBitsCarry.pair ((x+y+c) % Extern.MathBitsCarry.m64) ((x+y+c) / Extern.MathBitsCarry.m64))
def dJ:List AVal->Option AVal
  | [.lit (.int .u64 a),.lit (.int .u64 b),.lit (.int .u64 c)]=>bif Nat.ble c.toNat 1 then some (.tup [.lit (.int .u64 (Int.ofNat ((a.toNat+b.toNat+c.toNat) % 18446744073709551616))),.lit (.int .u64 (Int.ofNat ((a.toNat+b.toNat+c.toNat) / 18446744073709551616)))]) else none
  | _=>none
theorem Rt {P:Program}(a b:Nat)(Γ:aC)(H:AHeap)(w:World):RelV P Γ H w (.tup [.lit (.int .u64 (Int.ofNat a)),.lit (.int .u64 (Int.ofNat b))]) (Extern.MathBitsCarry.pair a b):=by
  unfold Extern.MathBitsCarry.pair;refine RelV.tup (cs:=[.int .u64 (Int.ofNat a),.int .u64 (Int.ofNat b)]) rfl fun i h _=>?_
  match i,h with
  | 0,_=>exact .lit _
  | 1,_=>exact .lit _
theorem Ru {P:Program}(s:String)(w:World)(a b c:Int)(hc:¬ c.toNat > 1):(Extern.MathBitsCarry.three s #[.int .u64 a,.int .u64 b,.int .u64 c]).run P w=.ok (a.toNat,b.toNat,c.toNat) w:=by
  have h1:∀ x:Int,(asInt (.int .u64 x)).run P w=.ok x w:=fun x=>rfl;show (do
    let c:=(<- asInt (.int .u64 c)).toNat
    if c > 1 then unsupported _
    pure ((<- asInt (.int .u64 a)).toNat,(<- asInt (.int .u64 b)).toNat,c):Sem (Nat × Nat × Nat)).run P w=_
  rw[ao (h1 c)];simp only[hc,if_false];rfl
theorem Rv {a b c:Int}{r:AVal}(h:dJ [.lit (.int .u64 a),.lit (.int .u64 b),.lit (.int .u64 c)]=some r){H:AHeap}{K:ARes->AHeap->Prop}(hK:K (.ret r) H):aB Try.prog ra (.clo 78 [] []) [.lit (.int .u64 a),.lit (.int .u64 b),.lit (.int .u64 c)] H K:=by
  simp only[dJ]at h;cases hb:Nat.ble c.toNat 1 with
  | false=>rw[hb]at h;cases h
  | true =>
    rw[hb]at h;have hc:¬ c.toNat > 1:=(by have:=Nat.le_of_ble_eq_true hb;omega);cases h;refine aB.ext (e:=Eb) (vs:=[.int .u64 a,.int .u64 b,.int .u64 c]) Try.func78 rfl (by kernel_rfl) (by kernel_rfl) (by kernel_rfl) rfl (fun w=>?_) (fun Γ H w=>Rt _ _ Γ H w) hK;unfold Eb;rw[ao (Ru _ w a b c hc)];rfl
theorem Rw:∀ {args:List AVal} {r:AVal},dJ args=some r->∃ a b c,args=[.lit (.int .u64 a),.lit (.int .u64 b),.lit (.int .u64 c)]:=by
  intro args r h;unfold dJ at h;split at h
  · exact⟨_,_,_,rfl⟩
  · cases h
def zj:FuncId->Option (List AVal->Option AVal):=fun f=>bif Nat.beq f 78 then some dJ else none
theorem Rx {E:EP}(hP:E.P=Try.prog)(hG:E.G=ra)(hx:E.ext=zj):pj E:=by
  intro f e h args r hr H K hK;rw[hx]at h;rw[hP,hG];unfold zj at h;cases h1:Nat.beq f 78 with
  | true =>
    rw[h1]at h;have e1:=Nat.eq_of_beq_eq_true h1;subst e1;cases h;obtain⟨a,b,c,rfl⟩:=Rw hr;exact Rv hr hK
  | false=>rw[h1]at h;cases h
noncomputable def Try.Ec:EP:={ P:=Try.prog,G:=G0,gd:=fun _=>none,known:=ud [],ext:=zj }
theorem Try.Rz:EOk Try.Ec:=.LX (l:=[]) rfl aP Try.mixed (fun _ _ h=>by cases h) trivial (Rx rfl rfl rfl)
theorem Try.RA:xT Try.Ec 1000000 17 [] (.lit (.bool true))=true:=by kernel_rfl
theorem RB (H:AHeap)(K:ARes->AHeap->Prop)(hK:K (.ret (.lit (.bool true))) H):af Try.prog G0 17 [] H K :=
 (af.frame (args':=[]) aP rfl (fun i h _=>absurd h (Nat.not_lt_zero _)) (LY Try.Rz Try.RA)).mono fun r H' ⟨h1,h2⟩=>by rw[h1,h2];exact hK
end Go.Proofs
namespace Go.Hx
variable {P:Program} {G:Nat->Option (List AVal)}
theorem Ry {H:AHeap}(hc:Clo H):FzH (fun _=>False) H H where
 gone id hs:=hs.elim
 kept id b _ hb:=by
  have hbb:=hc.below id b hb;refine⟨hc.lt id b hb,b,hb,?_⟩;cases b with
  | rsv=>trivial
  | mp=>rfl
  | arr g e cells=>exact⟨rfl,rfl,rfl,fun i h _=>.dead (hbb i h)⟩
  | loop st pend n env ps asg body=>exact⟨rfl,rfl,rfl,rfl,rfl,rfl,rfl,fun t ht=>.dead (hbb t ht)⟩
 none id _ hb:=hb
theorem af.pT {H:AHeap}{f:FuncId}{args args':List AVal}{K:ARes->AHeap->Prop}(hG:fP G)(hl:args'.length=args.length)(hv:∀ i (h:i<args.length) (h':i<args'.length),Fz (fun _=>False) H H.next args[i] args'[i])
  (h:af P G f args' H K):af P G f args H K:=by
 refine⟨h.1,fun Γ w cargs R hr=>?_⟩;have F:=Ry R.clo;have R0:=F.rel hG R;have E0:Evo Γ H w (fb (fun _=>False) Γ) H w:=F.aW;refine(h.2 _ w cargs R0 ⟨by have:=hr.1;omega,fun i h1 h2=>(hv i (by omega) h1).sound R F (hr.2 i (by omega) h2)⟩).mono ?_;rintro e w' ⟨r,H',Γ',h1,h2,h3,h4,h5⟩;exact⟨r,H',Γ',h1,h2,h3,E0.trans (Nat.le_refl _) h4,h5⟩
end Go.Hx
namespace Go.Proofs
open Go.Hx
theorem Na {S:Nat->Prop}{H:AHeap}{nx:Nat}(l:List NodeP):∀ c∈au l,Fz S H nx c c:=by
 intro c hc;unfold au at hc;obtain⟨r,hr,hc⟩:=List.mem_flatten.1 hc;obtain⟨x,_,rfl⟩:=List.mem_map.1 hr;unfold NodeP.cells at hc;simp only[List.mem_cons,List.not_mem_nil,or_false]at hc;rcases hc with rfl|rfl|rfl
 ·exact .lit _
 ·exact .dk _
 ·exact pN _
def rj (g0:Int)(ps:List DrP)(ord:List Int)(cw ca cr cn:Int)(ws ms:List Int)(bw ba bn:Int):List AVal :=
 [.lit (.int .u8 g0),.vec ps.length (eP ps),.vec ord.length (aY ord),.lit (.int .u8 cw),.lit (.int .u8 ca),.lit (.int .u8 cr),.lit (.int .i64 cn),.vec ws.length (fU ws),.vec ms.length (aY ms),.lit (.int .u8 bw),.lit (.int .u8 ba),.lit (.int .i64 bn)]
theorem Nb {g:Int}{ns:List NodeP}(hok:NetOk g ns)(hp3:∀ x∈ns,x.parents.length<=3):SmallN 600 ns:=by
 have nn8:=hok.n1.2;refine⟨by omega,fun x hx=>?_⟩;have hx3:=hp3 x hx;have hrow:=hok.rows x hx;have hin:gA x.parents ns.length:=fun q hq=>by have:=(hok.node x hx).2.2 q hq;omega
 have hpc:=DX hin fun y hy=>(hok.node y hy).1;have hpl3:(aS ns x).length<=3:=by rw[show (aS ns x).length=_ from gZ _ _];exact hx3
 have hp:=nt (b:=4) (by omega) (l:=aS ns x) fun c hc=>by have:=hpc c hc;omega
 have h4:(4:Nat) ^ (aS ns x).length<=4 ^ 3:=Nat.pow_le_pow_right (by decide) hpl3;have h5:((4:Int) ^ (aS ns x).length)<=4 ^ 3:=by exact_mod_cast h4
 have h6:(4:Int) ^ 3=64:=by decide
 have hcard:=(hok.node x hx).1;exact⟨by omega,by have:=hrow.1;omega,fun r hr=>by have:=(hrow.2 r hr).1;exact⟨fun e=>by rw[e]at this;simp at this;omega,by omega⟩⟩
structure StoryP where
 g0:Int
 ps:List DrP
 ord:List Int
 cw:Int
 ca:Int
 cr:Int
 cn:Int
 ws:List Int
 ms:List Int
 bw:Int
 ba:Int
 bn:Int
def StoryP.cells (s:StoryP):List AVal:=rj s.g0 s.ps s.ord s.cw s.ca s.cr s.cn s.ws s.ms s.bw s.ba s.bn
structure StoryP.Ok (s:StoryP):Prop where
 g:U8 s.g0
 p:∀ x∈s.ps,x.Ok
 pl:(s.ps.length:Int)<2 ^ 63
 ol:(s.ord.length:Int)<2 ^ 63
 o8:∀ x∈s.ord,U8 x
 cw:U8 s.cw
 ca:U8 s.ca
 cr:U8 s.cr
 ws:∀ x∈s.ws,0<=x/\x<65536
 ms:∀ x∈s.ms,0<=x/\x<256
 wl:(s.ws.length:Int)<2 ^ 63
 ml:(s.ms.length:Int)<2 ^ 63
 bw:U8 s.bw
 ba:U8 s.ba
end Go.Proofs
namespace Go.Proofs.Ytakancljiekbhaa
open Go.ChangeShapes Go.WideShapes Go.ChangeAt Go.RowKit Go.Hx
theorem Try.own:ownKnob Try.prog.godebug=none:=by kernel_rfl
theorem Try.laidOut:laidOutB Try.prog=true:=by kernel_rfl
theorem Try.NK:Try.prog.underlying 4=some .bool:=by kernel_rfl
section
variable {W:World} {H:Type} {enc:TypeId × Value->H} {spare:Nat->Bool} {held:Bool}
theorem ry {n:Nat}(h:n<=maxLen):(n:Int)<2 ^ 63:=by
 have:maxLen=9223372036854775807:=by decide
 omega
theorem ke {n:Int}(h:(Lit.int .u8 n).wf=true):U8 n:=by
 have:=wf_u8 h;unfold U8;omega
theorem NL {n:Int}(h:(Lit.int .u16 n).wf=true):0<=n/\n<65536:=by
 have:0<=n/\n<=65535:=by simpa [Lit.wf,IntKind.min,IntKind.max,IntKind.signed,IntKind.bits] using h
 omega
theorem NM:eY enc Try.prog W spare held 86 fun _ zs=>∃ x:DrP,zs=x.cells/\x.Ok:=by
 have hu:=Try.underlying86;have c1:=Try.pH;have c2:=Try.uC;refine(qu (φ:=fun i _ xs=>if i=2 then ∃ l:List Int,xs=[.vec l.length (qv .u8 l)]/\l.length<=maxLen/\∀ c,c∈l->(Lit.int .u8 c).wf=true else ∃ n,xs=[.lit (.int .u8 n)]/\(Lit.int .u8 n).wf=true) hu
  (fun cs hcs=>by
   have hc:Try.prog.cellsOf 86=3:=(by kernel_rfl);rw[hc]at hcs
   match cs,hcs with
   | [a,b,c],_=>simp [c1,c2])
  (fun i hi=>match i,hi with
   | 0,_=>(iT Try.underlying5).mono fun _ _ ⟨n,_,h,w⟩=>⟨n,h,w⟩
   | 1,_=>(iT Try.underlying5).mono fun _ _ ⟨n,_,h,w⟩=>⟨n,h,w⟩
   | 2,_=>(sC Try.underlying23 Try.underlying5 c1).mono fun _ _ h=>h)).mono fun d zs ⟨ds,rows,_,e,hl1,hl2,hall⟩=>?_
 match rows,ds,hl2,hl1,hall with
 | [x,y,z],[d0,d1,d2],_,_,hall =>
  obtain⟨n0,e0,w0⟩:=hall 0 (by simp) (by simp);obtain⟨n1,e1,w1⟩:=hall 1 (by simp) (by simp);obtain⟨l,e2,w2,w3⟩:=hall 2 (by simp) (by simp);simp only[List.getElem_cons_zero,List.getElem_cons_succ]at e0 e1 e2;subst e0;subst e1;subst e2;refine⟨⟨n0,n1,l⟩,by rw[e];rfl,?_⟩;exact⟨ke w0,ke w1,ry w2,fun c hc=>ke (w3 c hc)⟩
theorem NN {α:Type}{t e:TypeId}{f:α->List AVal}{q:α->Prop}(ht:Try.prog.underlying t=some (.slice e))(hz:0<Try.prog.cellsOf e)(he:eY enc Try.prog W spare held e fun _ zs=>∃ x:α,zs=f x/\q x):
  eY enc Try.prog W spare held t fun _ zs=>∃ l:List α,zs=[.vec l.length (l.map f).flatten]/\l.length<=maxLen/\∀ x∈l,q x :=
 (Am ht hz he).mono fun d zs h=>by
  rcases h with ⟨_,rfl⟩|⟨ds,rest,rows,_,rfl,hr,_,hl⟩
  ·exact⟨[],rfl,Nat.zero_le _,fun c h=>by cases h⟩
  ·obtain⟨l,rfl,hq⟩:=An (f:=f) (q:=q) (fun d zs h=>h) hr;exact⟨l,by rw[List.length_map],by simpa using hl,hq⟩
theorem NO:eY enc Try.prog W spare held 25 fun _ zs=>∃ (g:Int) (ps:List DrP) (ord:List Int),zs=[.lit (.int .u8 g),.vec ps.length (eP ps),.vec ord.length (aY ord)]/\U8 g/\(∀ x∈ps,x.Ok)/\(ps.length:Int)<2 ^ 63/\(ord.length:Int)<2 ^ 63/\∀ x∈ord,U8 x:=by
 have hu:=Try.underlying25;have c1:=Try.pH;have c2:=Try.uC;have c3:=Try.CE;have c4:=Try.CO;refine(qu (φ:=fun i _ xs=>if i=2 then ∃ l:List Int,xs=[.vec l.length (qv .u8 l)]/\l.length<=maxLen/\∀ c,c∈l->(Lit.int .u8 c).wf=true else if i=1 then ∃ l:List DrP,xs=[.vec l.length (l.map DrP.cells).flatten]/\l.length<=maxLen/\∀ x∈l,x.Ok else ∃ n,xs=[.lit (.int .u8 n)]/\(Lit.int .u8 n).wf=true) hu
  (fun cs hcs=>by
   have hc:Try.prog.cellsOf 25=3:=(by kernel_rfl);rw[hc]at hcs
   match cs,hcs with
   | [a,b,c],_=>simp [c1,c2,c3])
  (fun i hi=>match i,hi with
   | 0,_=>(iT Try.underlying5).mono fun _ _ ⟨n,_,h,w⟩=>⟨n,h,w⟩
   | 1,_=>(NN Try.underlying22 (by rw[c4];decide) NM).mono fun _ _ h=>h
   | 2,_=>(sC Try.underlying23 Try.underlying5 c1).mono fun _ _ h=>h)).mono fun d zs ⟨ds,rows,_,e,hl1,hl2,hall⟩=>?_
 match rows,ds,hl2,hl1,hall with
 | [x,y,z],[d0,d1,d2],_,_,hall =>
  obtain⟨n0,e0,w0⟩:=hall 0 (by simp) (by simp);obtain⟨ps,e1,w1,w1'⟩:=hall 1 (by simp) (by simp);obtain⟨l,e2,w2,w3⟩:=hall 2 (by simp) (by simp);simp only[List.getElem_cons_zero,List.getElem_cons_succ]at e0 e1 e2;subst e0;subst e1;subst e2;exact⟨n0,ps,l,by rw[e];rfl,ke w0,w1',ry w1,ry w2,fun c hc=>ke (w3 c hc)⟩
theorem yt {n:Int}(h:(Lit.int .u8 n).wf=true):0<=n/\n<=255:=by
 have:=ke h;unfold U8 at this;omega
theorem NP:eY enc Try.prog W spare held 27 fun _ zs=>∃ w a r n:Int,zs=uz w a r n/\(0<=w/\w<=255)/\(0<=a/\a<=255)/\(0<=r/\r<=255):=by
 have hu:=Try.underlying27;have c1:=Try.pH;have c2:=Try.dW;refine(qu (φ:=fun i _ xs=>if i=3 then ∃ n,xs=[.lit (.int .i64 n)] else ∃ n,xs=[.lit (.int .u8 n)]/\(Lit.int .u8 n).wf=true) hu
  (fun cs hcs=>by
   have hc:Try.prog.cellsOf 27=4:=(by kernel_rfl);rw[hc]at hcs
   match cs,hcs with
   | [a,b,c,d],_=>simp [c1,c2])
  (fun i hi=>match i,hi with
   | 0,_=>(iT Try.underlying5).mono fun _ _ ⟨n,_,h,w⟩=>⟨n,h,w⟩
   | 1,_=>(iT Try.underlying5).mono fun _ _ ⟨n,_,h,w⟩=>⟨n,h,w⟩
   | 2,_=>(iT Try.underlying5).mono fun _ _ ⟨n,_,h,w⟩=>⟨n,h,w⟩
   | 3,_=>(iT Try.underlying3).mono fun _ _ ⟨n,_,h,_⟩=>⟨n,h⟩)).mono fun d zs ⟨ds,rows,_,e,hl1,hl2,hall⟩=>?_
 match rows,ds,hl2,hl1,hall with
 | [x,y,z,u],[d0,d1,d2,d3],_,_,hall =>
  obtain⟨n0,e0,w0⟩:=hall 0 (by simp) (by simp);obtain⟨n1,e1,w1⟩:=hall 1 (by simp) (by simp);obtain⟨n2,e2,w2⟩:=hall 2 (by simp) (by simp);obtain⟨n3,e3⟩:=hall 3 (by simp) (by simp);simp only[List.getElem_cons_zero,List.getElem_cons_succ]at e0 e1 e2 e3;subst e0;subst e1;subst e2;subst e3;exact⟨n0,n1,n2,n3,by rw[e];rfl,yt w0,yt w1,yt w2⟩
theorem NQ:eY enc Try.prog W spare held 30 fun _ zs=>∃ w a n:Int,zs=pG w a n/\U8 w/\U8 a:=by
 have hu:=Try.underlying30;have c1:=Try.pH;have c2:=Try.dW;refine(qu (φ:=fun i _ xs=>if i=2 then ∃ n,xs=[.lit (.int .i64 n)] else ∃ n,xs=[.lit (.int .u8 n)]/\(Lit.int .u8 n).wf=true) hu
  (fun cs hcs=>by
   have hc:Try.prog.cellsOf 30=3:=(by kernel_rfl);rw[hc]at hcs
   match cs,hcs with
   | [a,b,c],_=>simp [c1,c2])
  (fun i hi=>match i,hi with
   | 0,_=>(iT Try.underlying5).mono fun _ _ ⟨n,_,h,w⟩=>⟨n,h,w⟩
   | 1,_=>(iT Try.underlying5).mono fun _ _ ⟨n,_,h,w⟩=>⟨n,h,w⟩
   | 2,_=>(iT Try.underlying3).mono fun _ _ ⟨n,_,h,_⟩=>⟨n,h⟩)).mono fun d zs ⟨ds,rows,_,e,hl1,hl2,hall⟩=>?_
 match rows,ds,hl2,hl1,hall with
 | [x,y,z],[d0,d1,d2],_,_,hall =>
  obtain⟨n0,e0,w0⟩:=hall 0 (by simp) (by simp);obtain⟨n1,e1,w1⟩:=hall 1 (by simp) (by simp);obtain⟨n2,e2⟩:=hall 2 (by simp) (by simp);simp only[List.getElem_cons_zero,List.getElem_cons_succ]at e0 e1 e2;subst e0;subst e1;subst e2;exact⟨n0,n1,n2,by rw[e];rfl,ke w0,ke w1⟩
theorem NR:eY enc Try.prog W spare held 32 fun _ zs=>∃ s:StoryP,zs=s.cells/\s.Ok:=by
 have hu:=Try.underlying32;have c1:=Try.CG;have c2:=Try.CH;have c3:=Try.CI;have c4:=Try.uC;have c5:=Try.CJ;have c6:=Try.CN;have c7:=Try.pH;refine(qu (φ:=fun i _ xs=>if i=0 then ∃ (g:Int) (ps:List DrP) (ord:List Int),xs=[.lit (.int .u8 g),.vec ps.length (eP ps),.vec ord.length (aY ord)]/\U8 g/\(∀ x∈ps,x.Ok)/\(ps.length:Int)<2 ^ 63/\(ord.length:Int)<2 ^ 63/\∀ x∈ord,U8 x
   else if i=1 then ∃ w a r n:Int,xs=uz w a r n/\(0<=w/\w<=255)/\(0<=a/\a<=255)/\(0<=r/\r<=255)
   else if i=2 then ∃ l:List Int,xs=[.vec l.length (qv .u16 l)]/\l.length<=maxLen/\∀ c,c∈l->(Lit.int .u16 c).wf=true
   else if i=3 then ∃ l:List Int,xs=[.vec l.length (qv .u8 l)]/\l.length<=maxLen/\∀ c,c∈l->(Lit.int .u8 c).wf=true
   else ∃ w a n:Int,xs=pG w a n/\U8 w/\U8 a) hu
  (fun cs hcs=>by
   have hc:Try.prog.cellsOf 32=12:=(by kernel_rfl);rw[hc]at hcs
   match cs,hcs with
   | [a,b,c,d,e,f,g,h,i,j,k,l],_=>simp [c1,c2,c3,c4,c5])
  (fun i hi=>match i,hi with
   | 0,_=>NO.mono fun _ _ h=>h
   | 1,_=>NP.mono fun _ _ h=>h
   | 2,_=>(sC Try.underlying28 Try.underlying81 c6).mono fun _ _ h=>h
   | 3,_=>(sC Try.underlying23 Try.underlying5 c7).mono fun _ _ h=>h
   | 4,_=>NQ.mono fun _ _ h=>h)).mono fun d zs ⟨ds,rows,_,e,hl1,hl2,hall⟩=>?_
 match rows,ds,hl2,hl1,hall with
 | [x,y,z,u,w],[d0,d1,d2,d3,d4],_,_,hall =>
  obtain⟨g,ps,ord,e0,w0,wa,wb,wc,wd⟩:=hall 0 (by simp) (by simp);obtain⟨cw,ca,cr,cn,e1,w1,wf,wg⟩:=hall 1 (by simp) (by simp);obtain⟨ws,e2,w2,wh⟩:=hall 2 (by simp) (by simp);obtain⟨ms,e3,w3,wi⟩:=hall 3 (by simp) (by simp);obtain⟨bw,ba,bn,e4,w4,wj⟩:=hall 4 (by simp) (by simp);simp only[List.getElem_cons_zero,List.getElem_cons_succ]at e0 e1 e2 e3 e4;subst e0;subst e1;subst e2;subst e3;subst e4;exact⟨⟨g,ps,ord,cw,ca,cr,cn,ws,ms,bw,ba,bn⟩,by rw[e];rfl,⟨w0,wa,wb,wc,wd,(by unfold U8;omega:U8 cw),(by unfold U8;omega:U8 ca),(by unfold U8;omega:U8 cr),fun c hc=>NL (wh c hc),fun c hc=>by have:=ke (wi c hc);unfold U8 at this;exact this,ry w2,ry w3,w4,wj⟩⟩
theorem NS {r:Reach}{b:Nat}{v:Value}{d:DataW H}{ps:List MemPlace}(hval:Value.okWide Try.prog W r b 32 v)(hd:DataW.Trod enc Try.prog W 0 spare held 32 v d ps):
  ∃ x:StoryP,RelV Try.prog iM cH W (.agg x.cells) v/\x.Ok:=by
 obtain⟨xs,h1,x,rfl,h2⟩:=FF NR (.inl ⟨_,Try.underlying32⟩) hval hd;exact⟨x,h1,h2⟩
end
end Go.Proofs.Ytakancljiekbhaa
namespace Go.Proofs
open Go.Hx
def lU (g:Int)(ns:List NodeP)(least:Int):Bool:=decide (∀ x∈ns,0<=least/\least<=60/\least*x.card<=g)
set_option maxHeartbeats 1000000 in
theorem Nc (g:Int)(ns:List NodeP)(h:NetOk g ns)(least:Int)(H:AHeap)(K:ARes->AHeap->Prop)(hK:K (.ret (.lit (.bool (lU g ns least)))) H):af Try.prog G0 19 [aQ g ns,aa least] H K:=by
 refine af.clo ⟨_,Try.func19,rfl,rfl⟩ fun hcl=>?_;have n8:=h.n1;refine af.bf (n:=32) (rs:=[.tmp 4]) Try.func19 rfl rfl rfl (by decide) (by kernel_rfl) (by simp) ?_;simp only[go_sem,aQ,bW];obtain⟨H1,hH1⟩:∃ H1,H1=ext H [.arr 0 35 [.lit (.int .i64 g),.vec ns.length (au ns)]]:=⟨_,rfl⟩
 have l1:H1.live H.next 0=some (35,[.lit (.int .i64 g),.vec ns.length (au ns)]):=by rw[hH1];exact ah (cJ ..)
 have o1:Over H H1:=by rw[hH1];exact .ext _ _
 rw[<- hH1];refine W.aG 4294967280 (by rfl) (fun ρ H'=>H'=H1/\∃ k:Nat,ρ 5=aa k/\k<=ns.length/\∀ x∈ns.take k,0<=least/\least<=60/\least*x.card<=g) (fun ρ H=>ns.length - (iv (ρ 5)).toNat) ?_ ?_
 ·simp only[go_sem];exact⟨0,rfl,by omega,fun x hx=>by simp at hx⟩
 rintro ρ H' ⟨hHx,k,h5,hk,hall⟩;rw[hHx];refine W.env fun E hE=>?_;have e1:E 1=aa least:=by rw[hE];simp only[go_sem]
 have e2:E 2=.ptr H.next 0 0:=by rw[hE];simp only[go_sem]
 have e5:E 5=aa k:=by rw[hE];simp only[go_sem,h5]
 clear hE;have w1:=IntWalk.i64_in ((k:Int)+1) (by omega);refine ab _ _ _ (by rfl) ?_;by_cases hb:(k:Int)<ns.length;rotate_left
 ·simp only[go_sem,e2,e5,l1,hb];rw[List.take_of_length_le (by omega)]at hall;have:lU g ns least=true:=decide_eq_true hall;rw[this]at hK;exact av.bA aP hcl o1 (.lit _) hK
 obtain⟨x,hx⟩:=get_of_lt (l:=ns) (i:=k) (by omega);have hxm:=List.mem_of_getElem? hx;have hne:=dQ hx;have h0:=iF hx;have hc:=(h.node x hxm).1;have no:¬ (0<=least/\least<=60/\least*x.card<=g)->av Try.prog G0 H K (.lit (.bool false)) H1:=fun hh=>by
  have:lU g ns least=false:=decide_eq_false fun h2=>hh (h2 x hxm);rw[this]at hK;exact av.bA aP hcl o1 (.lit _) hK
 by_cases b1:least<0
 ·simp only[go_sem,e2,e5,l1,hb];refine W.draw 17 [0,1,3,7,15,31,63,127,127,383,127,1919,3967,8063,16383,127,32895] Try.mixed (by kernel_rfl) (by kernel_rfl) ?_;simp only[go_sem,e1,b1];exact no fun hh=>by omega
 by_cases b2:least > 60
 ·simp only[go_sem,e2,e5,l1,hb];refine W.draw 17 [0,1,3,7,15,31,63,127,127,383,127,1919,3967,8063,16383,127,32895] Try.mixed (by kernel_rfl) (by kernel_rfl) ?_;simp only[go_sem,e1,b1,b2];exact no fun hh=>by omega
 have m0:0<=least*x.card:=Int.mul_nonneg (by omega) (by omega);have m1:least*x.card<=60*4:=Int.mul_le_mul (by omega) (by omega) (by omega) (by omega);have w2:=IntWalk.i64_in (least*x.card) (by omega);by_cases b3:least*x.card > g
 ·simp only[go_sem,e2,e5,l1,hb];refine W.draw 17 [0,1,3,7,15,31,63,127,127,383,127,1919,3967,8063,16383,127,32895] Try.mixed (by kernel_rfl) (by kernel_rfl) ?_;simp only[go_sem,e1,e2,e5,l1,b1,b2,b3,hne,h0,w2,hb];exact no fun hh=>by omega
 ·simp only[go_sem,e2,e5,l1,hb];refine W.draw 17 [0,1,3,7,15,31,63,127,127,383,127,1919,3967,8063,16383,127,32895] Try.mixed (by kernel_rfl) (by kernel_rfl) ?_;simp only[go_sem,e1,e2,e5,l1,b1,b2,b3,hne,h0,w1,w2,hb];refine⟨⟨k+1,rfl,by omega,fun y hy=>?_⟩,by rw[h5];simp only[aa,aK];omega⟩;rw[aL hx]at hy;rcases List.mem_append.1 hy with hy|hy
  ·exact hall y hy
  ·rw[List.mem_singleton.1 hy];omega
def kP (n:Nat):List AVal:=(List.replicate n [AVal.lit (.int .i64 0),.lit (.slice none 0 0),.lit (.slice none 0 0)]).flatten
theorem CR (n:Nat):kP (n+1)=[AVal.lit (.int .i64 0),.lit (.slice none 0 0),.lit (.slice none 0 0)]++kP n:=by unfold kP;rw[List.replicate_succ,List.flatten_cons]
theorem CS:∀ n:Nat,(kP n).length=n*3
 | 0=>rfl
 | n+1=>by rw[CR,List.length_append,CS n];simp;omega
def eC (n:Nat)(ns:List NodeP):List AVal:=au ns++kP (n - ns.length)
theorem Pk {n:Nat}{ns:List NodeP}(h:ns.length<=n):(eC n ns).length=n*3:=by unfold eC;rw[List.length_append,fk,CS,<- Nat.add_mul];congr 1;omega
theorem Pm {n:Nat}{ns:List NodeP}{x:NodeP}(h:ns.length<n):setAt (eC n ns) (ns.length*3) x.cells=eC n (ns++[x]):=by
 obtain⟨k,hk⟩:∃ k,n - ns.length=k+1:=⟨n - ns.length - 1,by omega⟩
 have hk2:n - (ns++[x]).length=k:=by simp;omega
 have hl:=fk ns;unfold eC setAt;rw[hk,hk2,CR,show au (ns++[x])=au ns++x.cells by unfold au;simp];rw[List.take_append_of_le_length (by omega),List.take_of_length_le (by omega),List.drop_append,List.drop_of_length_le (by rw[hl];omega),List.nil_append];congr 1;rw[show ns.length*3+x.cells.length - (au ns).length=3 by rw[hl];show ns.length*3+3 - _=3;omega];rfl
theorem uG {n:Nat}{ns:List NodeP}:∀ c∈eC n ns,∀ (S:Nat->Prop) (Hz:AHeap) (nx:Nat),Fz S Hz nx c c:=fun c hc S Hz nx=>by
 unfold eC at hc;rcases List.mem_append.1 hc with hc|hc
 ·unfold au at hc;obtain⟨r,hr,hc⟩:=List.mem_flatten.1 hc;obtain⟨x,_,rfl⟩:=List.mem_map.1 hr;unfold NodeP.cells at hc;simp only[List.mem_cons,List.not_mem_nil,or_false]at hc;rcases hc with rfl|rfl|rfl
  ·exact .lit _
  ·exact .dk _
  ·exact pN _
 ·unfold kP at hc;obtain⟨r,hr,hc⟩:=List.mem_flatten.1 hc;obtain rfl:=List.eq_of_mem_replicate hr;simp only[List.mem_cons,List.not_mem_nil,or_false]at hc;rcases hc with rfl|rfl|rfl<;>exact .lit _
theorem yz (ns:List NodeP):eC ns.length ns=au ns:=by unfold eC;rw[Nat.sub_self];exact List.append_nil _
theorem CT {S:Nat->Prop}{H:AHeap}{nx:Nat}{g e:Int}{nv:AVal}{ns:List NodeP}(h:Fz S H nx nv (bW ns)):Fz S H nx (.tup [.agg [.lit (.int .i64 g),nv],.lit (.int .i64 e)]) (.tup [aQ g ns,aa e]):=by
 refine .tup rfl fun i hi _=>?_
 match i,hi with
 | 0,_ =>
  refine .agg rfl fun i hi _=>?_
  match i,hi with
  | 0,_=>exact .lit _
  | 1,_=>exact h
 | 1,_=>exact .lit _
theorem dy.fzN {S:Nat->Prop}{lo nx:Nat}{H:AHeap}{v:AVal}{ns:List NodeP}(h:dy lo H 69 3 v ns.length (au ns))(hS:∀ i,lo<=i->S i):Fz S H nx v (bW ns):=by
 rcases h with ⟨rfl,h0,_⟩|⟨id,g,h1,_,rfl,h4,h5⟩
 ·obtain rfl:=List.length_eq_zero_iff.1 h0;exact .nil
 ·refine .frz (hS id h1) h5 (by rw[fk]) fun j hj h2 h'=>?_;have hm:∀ q∈au ns,Fz S H nx q q:=fun q hq=>uG (n:=ns.length) (ns:=ns) q (by rw[yz];exact hq) S H nx;simpa only[Nat.zero_add] using hm _ (List.getElem_mem h')
def fF (l:List Int)(c j:Nat):List Int:=(l.drop (j*c)).take c
noncomputable def Cj (g least:Int)(l:List Int)(c j:Nat):List Int:=kR least (cW g least (fF l c j)) (fF l c j)
noncomputable def kK (g least:Int)(l:List Int)(x:NodeP):NodeP:=⟨x.card,x.parents,(List.range x.rows.length).map (Cj g least l x.card.toNat)⟩
noncomputable def kL (g least:Int)(ns:List NodeP)(xs:List (List Int)):List NodeP:=(List.range ns.length).map fun v=>kK g least (cP ns (ns.getD v ⟨0,[],[]⟩) v xs) (ns.getD v ⟨0,[],[]⟩)
theorem yi (g least:Int)(ns:List NodeP)(xs:List (List Int)):(kL g least ns xs).length=ns.length:=by simp [kL]
theorem Ck {g least:Int}{ns:List NodeP}{xs:List (List Int)}{v:Nat}{x:NodeP}(hx:ns[v]?=some x):(kL g least ns xs)[v]?=some (kK g least (cP ns x v xs) x):=by
 unfold kL;rw[List.getElem?_map,List.getElem?_range (get_lt hx)];show some (kK g least (cP ns (ns.getD v ⟨0,[],[]⟩) v xs) (ns.getD v ⟨0,[],[]⟩))=_;rw[bG hx]
theorem uv {l:List Int}{c j m:Nat}(hl:l.length=m*c)(hj:j<m):(fF l c j).length=c:=by
 unfold fF;have h1:j*c+c<=m*c:=by have:=Nat.mul_le_mul_right c (show j+1<=m by omega);rw[Nat.add_mul]at this;omega
 rw[List.length_take,List.length_drop,hl];omega
theorem Nd {l:List Int}{c j:Nat}:∀ x∈fF l c j,x∈l:=fun _ h=>List.mem_of_mem_drop (List.mem_of_mem_take h)
theorem uw {g:Int}{ns:List NodeP}(h:NetOk g ns)(h6:ns.length<=6){v:Nat}{x:NodeP}(hx:ns[v]?=some x)(xs:List (List Int))(hr:∀ r∈xs,r.length=ns.length):(cP ns x v xs).length=x.rows.length*x.card.toNat:=by
 have:=(um h h6 hx xs hr).1;have hc:=(h.node x (List.mem_of_getElem? hx)).1;have e:((x.rows.length*x.card.toNat:Nat):Int)=x.rows.length*x.card:=by rw[Int.natCast_mul,Int.toNat_of_nonneg (by omega)]
 omega
def pD (g:Int)(ns:List NodeP)(least:Int):Prop:=0<=least/\∀ x∈ns,least*x.card<=g
theorem yj {g least:Int}{ns:List NodeP}(h:NetOk g ns)(h6:ns.length<=6)(hf:pD g ns least){v:Nat}{x:NodeP}(hx:ns[v]?=some x){xs:List (List Int)}(hx40:xs.length<=64)(hr:∀ r∈xs,r.length=ns.length){j:Nat}(hj:j<x.rows.length):
  gU (fF (cP ns x v xs) x.card.toNat j) g least:=by
 have hxm:=List.mem_of_getElem? hx;have hc:=(h.node x hxm).1;have hg:=h.g1;have hl:=uv (uw h h6 hx xs hr) hj;have hb:=(um h h6 hx xs hr).2;refine⟨by omega,fun y hy=>?_,by omega,hf.1,?_⟩
 ·have:=hb y (Nd y hy);omega
 ·rw[hl,Int.toNat_of_nonneg (by omega)];exact hf.2 x hxm
theorem yk {g:Int}{ns:List NodeP}(h:NetOk g ns){least:Int}:lU g ns least=true↔pD g ns least:=by
 have hg:=h.g1;have hn:=h.n1;obtain⟨y,hy⟩:=get_of_lt (l:=ns) (i:=0) (by omega);have hym:=List.mem_of_getElem? hy;unfold lU;rw[decide_eq_true_iff];constructor
 ·intro hh;exact⟨(hh y hym).1,fun x hx=>(hh x hx).2.2⟩
 ·intro hh x hx;have hc:=(h.node x hx).1;have h1:=hh.2 x hx;have h3:least*1<=least*x.card:=Int.mul_le_mul_of_nonneg_left (by omega) hh.1;exact⟨hh.1,by omega,h1⟩
theorem Cl {g c least:Int}(hc:1<=c):least<=g / c↔least*c<=g:=Int.le_ediv_iff_mul_le (by omega)
noncomputable def kM (g:Int)(ns:List NodeP)(cs:List Int)(xs:List (List Int))(least:Int):Int:=if gS g ns cs xs≠0 then gS g ns cs xs else if lU g ns least=true then if mX ns xs=true then 0 else 7 else 2
noncomputable def mZ (g:Int)(ns:List NodeP)(cs:List Int)(xs:List (List Int))(least:Int):Int × List NodeP:=if kM g ns cs xs least=0 then (g,kL g least ns xs) else (0,[])
theorem Nf {c:List Int}{g least:Int}(h:gU c g least):(kR least (cW g least c) c).length=c.length:=by
 obtain⟨s,hs⟩:=CQ least (cW g least c) (c:=c) (by have:=h.1;omega);rw[<- rE hs];obtain⟨M,_,rfl⟩:=hs;simp [cQ]
theorem Ng {g least:Int}{ns:List NodeP}(h:NetOk g ns)(h6:ns.length<=6)(hf:pD g ns least){xs:List (List Int)}(hx40:xs.length<=64)(hr:∀ r∈xs,r.length=ns.length)(hn:iJ ns):iJ (kL g least ns xs):=by
 refine⟨by rw[yi];exact hn.1,fun y hy=>?_⟩;obtain⟨v,hv,rfl⟩:=List.mem_map.1 hy;obtain⟨x,hx⟩:=get_of_lt (List.mem_range.1 hv);rw[bG hx];have hxm:=List.mem_of_getElem? hx;obtain⟨a,b,c⟩:=hn.2 x hxm;refine⟨a,by show (((List.range x.rows.length).map _).length:Int)<_;simpa using b,fun r hr'=>?_⟩;obtain⟨j,hj,rfl⟩:=List.mem_map.1 hr';have hj:=List.mem_range.1 hj;have hc:=(h.node x hxm).1;unfold Cj;rw[Nf (yj h h6 hf hx hx40 hr hj),uv (uw h h6 hx xs hr) hj];omega
theorem Cm {l:List Int}{c j m:Nat}(hl:l.length=m*c)(hj:j<m):((ints l).drop (j*c)).take c=ints (fF l c j):=by unfold ints fF;rw[List.map_take,List.map_drop]
theorem Nh {S:Nat->Prop}{H:AHeap}{nx:Nat}{A B:List AVal}{o o' p p':AVal}(hA:∀ v,v∈A->Fz S H nx v v)(ho:Fz S H nx o o')(hp:Fz S H nx p p')(hB:∀ v,v∈B->Fz S H nx v v):
  ∀ i (h:i<(A++o :: p :: B).length) (h':i<(A++o' :: p' :: B).length),Fz S H nx (A++o :: p :: B)[i] (A++o' :: p' :: B)[i]:=by
 induction A with
 | nil =>
  intro i h h'
  match i with
  | 0=>exact ho
  | 1=>exact hp
  | i+2=>exact hB _ (List.getElem_mem (l:=B) (by simpa using h))
 | cons a A ih =>
  intro i h h';cases i with
  | zero=>exact hA a (by simp)
  | succ i=>exact ih (fun v hv=>hA v (by simp [hv])) i (by simpa using h) (by simpa using h')
set_option maxHeartbeats 8000000 in
theorem Ni (g:Int)(ns:List NodeP)(cs:List Int)(xs:List (List Int))(hn:iJ ns)(hf:kO cs xs)(least:Int)(H:AHeap)(K:ARes->AHeap->Prop)(hK:K (.ret (.tup [aQ (mZ g ns cs xs least).1 (mZ g ns cs xs least).2,aa (kM g ns cs xs least)])) H):
  af Try.prog G0 18 [aQ g ns,cj cs xs,aa least] H K:=by
 refine af.clo ⟨_,Try.func18,rfl,rfl⟩ fun hcl=>?_;have hn1:=hn.1;have fail:∀ (c:Int) (Hx:AHeap),kM g ns cs xs least=c->c≠0->Over H Hx->av Try.prog G0 H K (.tup [.agg [.lit (.int .i64 0),.lit (.slice none 0 0)],.lit (.int .i64 c)]) Hx:=fun c Hx h h0 o=>by
  unfold mZ at hK;rw[if_neg (by rw[h];exact h0),h]at hK;exact av.bA aP hcl o (CT .nil) hK
 refine af.cS (n:=127) (rs:=[.cell 6 35,.tmp 7]) Try.func18 rfl rfl rfl (by decide) (by simp) ?_;refine W.seq (ab _ _ _ (by rfl) ?_);simp only[go_sem,aQ,bW,cj,aA];obtain⟨H1,hH1⟩:∃ H1,H1=ext H [.arr 0 35 [aa g,.vec ns.length (au ns)],.arr 0 42 [.vec cs.length (ints cs),.vec xs.length (xs.map ae)],.arr 0 35 [.lit (.int .i64 0),.lit (.slice none 0 0)]]:=⟨_,rfl⟩
 have n1:H1.next=H.next+3:=by rw[hH1];rfl
 have o1:Over H H1:=by rw[hH1];exact .ext _ _
 have g0:H1.get H.next=some (.arr 0 35 [aa g,.vec ns.length (au ns)]):=by rw[hH1];exact cJ ..
 have g1:H1.get (H.next+1)=some (.arr 0 42 [.vec cs.length (ints cs),.vec xs.length (xs.map ae)]):=by rw[hH1];exact bg H _ 1 (by simp)
 have g2:H1.get (H.next+2)=some (.arr 0 35 [.lit (.int .i64 0),.lit (.slice none 0 0)]):=by rw[hH1];exact bg H _ 2 (by simp)
 refine W.env fun E hE=>?_;have e2:E 2=aa least:=by rw[hE];simp only[go_sem]
 have e3:E 3=.ptr H.next 0 0:=by rw[hE];simp only[go_sem]
 have e4:E 4=.ptr (H.next+1) 0 0:=by rw[hE];simp only[go_sem]
 have e6:E 6=.ptr (H.next+2) 0 0:=by rw[hE];simp only[go_sem]
 clear hE;show W _ _ _ _ _ _ ⟨E,ext H [.arr 0 35 [aa g,.vec ns.length (au ns)],.arr 0 42 [.vec cs.length (ints cs),.vec xs.length (xs.map ae)],.arr 0 35 [.lit (.int .i64 0),.lit (.slice none 0 0)]]⟩;rw[<- hH1];clear hH1;have l0:=ah g0;have l1:=ah g1;refine W.seq (ab _ _ _ (by rfl) ?_);simp only[go_sem,e3,e4,l0,l1];obtain⟨H2,hH2⟩:∃ H2,H2=ext H1 [.arr 0 35 [aa g,.vec ns.length (au ns)]]:=⟨_,rfl⟩
 have n2:H2.next=H1.next+1:=by rw[hH2];rfl
 have o2:Over H1 H2:=by rw[hH2];exact .ext _ _
 have q3:H2.get H1.next=some (.arr 0 35 (eu [(g,ns)])):=by rw[hH2];exact cA
 show aB _ _ _ _ (ext H1 [.arr 0 35 [aa g,.vec ns.length (au ns)]]) _;rw[<- hH2];clear hH2;have o12:=o1.trans o2;have q0:=(o2.old H.next (by omega)).trans g0;have q1:=(o2.old (H.next+1) (by omega)).trans g1;have q2:=(o2.old (H.next+2) (by omega)).trans g2;have l0:=ah q0;have l1:=ah q1;have l2:=ah q2;refine aB.clo ((MZ [(g,ns)] cs xs (fun p hp=>by rw[List.mem_singleton.1 hp];exact hn) hf (by simp) H2 q3).mono ?_);rintro rres Hq ⟨hrq,hHq⟩;rw[hHq,hrq,MY];refine⟨trivial,?_⟩;obtain⟨e,he⟩:∃ e,e=gS g ns cs xs:=⟨_,rfl⟩
 rw[<- he];by_cases h0:e=0;rotate_left
 ·simp only[go_sem,e6,l2,h0];refine fail e _ (by unfold kM;rw[<- he,if_pos h0]) h0 (o12.upd (by omega) _)
 have hE0:kM g ns cs xs least=if lU g ns least=true then if mX ns xs=true then 0 else 7 else 2:=by unfold kM;rw[<- he,if_neg (fun h=>h h0)]
 rw[h0]at he ⊢;obtain⟨hok,hdk,hca⟩:=yf he.symm;obtain⟨h6,h40,hrow⟩:=Ci he.symm;have hg60:=hok.g1;have hE2:¬ pD g ns least->kM g ns cs xs least=2:=fun h=>by rw[hE0,if_neg (fun hh=>h ((yk hok).1 hh))]
 simp only[go_sem];by_cases v0:least<0
 ·refine W.seq (ab _ _ _ (by rfl) ?_);simp only[go_sem,e2,e6,l2,v0];exact fail 2 _ (hE2 fun h=>by have:=h.1;omega) (by decide) (o12.upd (by omega) _)
 refine W.seq (ab _ _ _ (by rfl) ?_);simp only[go_sem,e2,v0];refine W.seq (ab _ _ _ (by rfl) ?_);simp only[go_sem,e3,l0];refine W.env fun E1 hE1=>?_;have f2:E1 2=aa least:=by rw[hE1];simp only[go_sem,e2]
 have f3:E1 3=.ptr H.next 0 0:=by rw[hE1];simp only[go_sem,e3]
 have f4:E1 4=.ptr (H.next+1) 0 0:=by rw[hE1];simp only[go_sem,e4]
 have f6:E1 6=.ptr (H.next+2) 0 0:=by rw[hE1];simp only[go_sem,e6]
 have f32:E1 32=.vec ns.length (au ns):=by rw[hE1];simp only[go_sem]
 have f33:E1 33=aa ns.length:=by rw[hE1];simp only[go_sem]
 have f34:E1 34=aa 0:=by rw[hE1];simp only[go_sem]
 clear hE1;refine W.aG 140720308487296 (by kernel_rfl) (fun ρ Hx=>Over H2 Hx/\∃ k:Nat,ρ 34=aa k/\k<=ns.length/\∀ x∈ns.take k,least<=g / x.card) (fun ρ H=>ns.length - (iv (ρ 34)).toNat) ?_ ?_
 ·exact⟨.refl _,0,f34,by omega,by simp⟩
 rintro ρ Hx ⟨ov,k,h34,hk,hall⟩;have ovn:=ov.next;refine W.env fun E2 hE2'=>?_;have a2:E2 2=aa least:=by rw[hE2'];simp only[go_sem,f2]
 have a3:E2 3=.ptr H.next 0 0:=by rw[hE2'];simp only[go_sem,f3]
 have a4:E2 4=.ptr (H.next+1) 0 0:=by rw[hE2'];simp only[go_sem,f4]
 have a6:E2 6=.ptr (H.next+2) 0 0:=by rw[hE2'];simp only[go_sem,f6]
 have a32:E2 32=.vec ns.length (au ns):=by rw[hE2'];simp only[go_sem,f32]
 have a33:E2 33=aa ns.length:=by rw[hE2'];simp only[go_sem,f33]
 have a34:E2 34=aa k:=by rw[hE2'];simp only[go_sem,h34]
 clear hE2';have r0:=(ov.old H.next (by omega)).trans q0;have r1:=(ov.old (H.next+1) (by omega)).trans q1;have r2:=(ov.old (H.next+2) (by omega)).trans q2;have m0:=ah r0;have m1:=ah r1;have m2:=ah r2;have oH:=o12.trans ov;by_cases hb:(k:Int)<ns.length
 ·obtain⟨x,hx⟩:=get_of_lt (l:=ns) (i:=k) (by omega);have hxm:=List.mem_of_getElem? hx;have hc:=(hok.node x hxm).1;have p0:=kj hx;have pne:=dQ hx;have p1:k*3+3<=(au ns).length:=by rw[fk];omega
  have td:g.tdiv x.card=g / x.card:=Int.tdiv_eq_ediv_of_nonneg (by omega);have cz:¬ x.card=0:=by omega
  have t1:0<=g / x.card:=Int.ediv_nonneg (by omega) (by omega);have t2:g / x.card<=g:=Int.ediv_le_self _ (by omega);have wq:=IntWalk.i64_in (g / x.card) (by omega);have mE:∀ L,(ext Hx L).live H.next 0=_:=fun L=>(dB (by omega)).trans m0;have mE2:∀ L,(ext Hx L).live (H.next+2) 0=_:=fun L=>(dB (by omega)).trans m2;refine ab _ _ _ (by rfl) ?_;by_cases hle:least > g / x.card
  ·simp only[go_sem,a2,a3,a6,a32,a33,a34,hb,p0,p1,pne,aA,mE,mE2,td,cz,wq,hle];exact fail 2 _ (hE2 fun h=>by have:=(Cl (g:=g) hc.1).2 (h.2 x hxm);omega) (by decide) ((oH.trans (.ext _ _)).upd (by omega) _)
  ·have w1:=IntWalk.i64_in ((k:Int)+1) (by omega);simp only[go_sem,a2,a3,a32,a33,a34,hb,p0,p1,pne,aA,mE,td,cz,wq,hle,w1];refine⟨by omega,⟨ov.trans (.ext _ _),k+1,rfl,by omega,fun y hy=>?_⟩,by rw[h34];simp only[aa,aK];omega⟩;rw[aL hx]at hy;rcases List.mem_append.1 hy with hy|hy
   ·exact hall y hy
   ·obtain rfl:=List.mem_singleton.1 hy;omega
 rw[List.take_of_length_le (by omega)]at hall;have hfair:pD g ns least:=⟨by omega,fun x hx=>(Cl (hok.node x hx).1.1).1 (hall x hx)⟩
 rw[if_pos ((yk hok).2 hfair)]at hE0;refine ab _ _ _ (by rfl) ?_;simp only[go_sem,a33,a34,hb];refine W.env fun E3 hE3=>?_;have b2:E3 2=aa least:=by rw[hE3];simp only[go_sem,a2]
 have b3:E3 3=.ptr H.next 0 0:=by rw[hE3];simp only[go_sem,a3]
 have b4:E3 4=.ptr (H.next+1) 0 0:=by rw[hE3];simp only[go_sem,a4]
 have b6:E3 6=.ptr (H.next+2) 0 0:=by rw[hE3];simp only[go_sem,a6]
 clear hE3;refine W.seq (ab _ _ _ (by rfl) ?_);simp only[go_sem,b3,b4,m0,m1];refine aB.clo (MC g ns hok cs xs (by omega) hrow _ _ ⟨trivial,?_⟩);simp only[go_sem];refine aB.clo (MF (xs.map (fT ns)) (by rw[List.length_map];omega) _ _ ⟨trivial,?_⟩);unfold mX at hE0;by_cases hz:(0:Int)∈xs.map (fT ns)
 ·rw[decide_eq_false (fun hh=>hh hz),if_neg (by decide)]at hE0;simp only[go_sem,hz,b6,m2];exact fail 7 _ hE0 (by decide) (oH.upd (by omega) _)
 rw[decide_eq_true hz,if_pos rfl]at hE0;simp only[go_sem,hz];obtain⟨n,hnn⟩:∃ n,n=ns.length:=⟨_,rfl⟩
 refine W.seq ?_;refine W.draw 8 [0,1,0,4,12,28,63,0] Try.mixed (by kernel_rfl) (by kernel_rfl) ?_;simp only[go_sem,b3,m0,hnn.symm];refine⟨⟨by omega,by omega⟩,⟨fun _ h=>by omega,fun _ h=>by omega⟩,⟨fun _ h=>by omega,fun _ h=>by omega,fun _ h=>by omega,fun _ h=>by omega⟩,?_⟩;obtain⟨H3,hH3⟩:∃ H3,H3=ext (ext Hx [.arr 0 69 (kP n)]) [.arr 0 35 [.lit (.int .i64 g),.own Hx.next 0 0 n 3]]:=⟨_,rfl⟩
 have n3:H3.next=Hx.next+2:=by rw[hH3];rfl
 have o3:Over Hx H3:=by rw[hH3];exact(Over.ext _ _).trans (.ext _ _)
 have g6:H3.get Hx.next=some (.arr 0 69 (kP n)):=by rw[hH3,dK (by rw[bJ];simp)];exact cA
 have g7:H3.get (Hx.next+1)=some (.arr 0 35 [.lit (.int .i64 g),.own Hx.next 0 0 n 3]):=by rw[hH3];exact cA (H:=ext Hx [_])
 refine W.env fun E4 hE4=>?_;have c2:E4 2=aa least:=by rw[hE4];simp only[go_sem,b2]
 have c3:E4 3=.ptr H.next 0 0:=by rw[hE4];simp only[go_sem,b3]
 have c4:E4 4=.ptr (H.next+1) 0 0:=by rw[hE4];simp only[go_sem,b4]
 have c6:E4 6=.ptr (H.next+2) 0 0:=by rw[hE4];simp only[go_sem,b6]
 have c11:E4 11=.ptr (Hx.next+1) 0 0:=by rw[hE4];simp only[go_sem]
 clear hE4;show W _ _ _ _ _ _ ⟨E4,ext (ext Hx [.arr 0 69 (kP n)]) [.arr 0 35 [.lit (.int .i64 g),.own Hx.next 0 0 n 3]]⟩;rw[<- hH3];clear hH3;have o3n:=o3.next;have l30:=ah ((o3.old _ (by omega)).trans r0);refine W.seq (ab _ _ _ (by rfl) ?_);simp only[go_sem,c3,l30];refine W.env fun E5 hE5=>?_;have d2:E5 2=aa least:=by rw[hE5];simp only[go_sem,c2]
 have d3:E5 3=.ptr H.next 0 0:=by rw[hE5];simp only[go_sem,c3]
 have d4:E5 4=.ptr (H.next+1) 0 0:=by rw[hE5];simp only[go_sem,c4]
 have d6:E5 6=.ptr (H.next+2) 0 0:=by rw[hE5];simp only[go_sem,c6]
 have d11:E5 11=.ptr (Hx.next+1) 0 0:=by rw[hE5];simp only[go_sem,c11]
 have d60:E5 60=.vec ns.length (au ns):=by rw[hE5];simp only[go_sem]
 have d61:E5 61=aa n:=by rw[hE5,hnn];simp only[go_sem]
 have d62:E5 62=aa 0:=by rw[hE5];simp only[go_sem]
 clear hE5;obtain⟨N,hN⟩:∃ N,N=kL g least ns xs:=⟨_,rfl⟩
 have Nl:N.length=n:=by rw[hN,yi,hnn]
 refine W.aG 85070591730234615861231965839515709568 (by kernel_rfl) (fun ρ Hy=>∃ v:Nat,ρ 62=aa v/\v<=n/\H3.next<=Hy.next/\(∀ id,id<H3.next->id≠Hx.next->Hy.get id=H3.get id)/\Hy.get Hx.next=some (.arr 0 69 (eC n (N.take v)))) (fun ρ H=>n - (iv (ρ 62)).toNat) ?_ ?_
 ·exact⟨0,d62,by omega,Nat.le_refl _,fun _ _ _=>rfl,g6⟩
 rintro ρ Hy ⟨v,h62,hv,hny,hold,gB⟩;refine W.env fun E6 hE6=>?_;have k2:E6 2=aa least:=by rw[hE6];simp only[go_sem,d2]
 have k3:E6 3=.ptr H.next 0 0:=by rw[hE6];simp only[go_sem,d3]
 have k4:E6 4=.ptr (H.next+1) 0 0:=by rw[hE6];simp only[go_sem,d4]
 have k6:E6 6=.ptr (H.next+2) 0 0:=by rw[hE6];simp only[go_sem,d6]
 have k11:E6 11=.ptr (Hx.next+1) 0 0:=by rw[hE6];simp only[go_sem,d11]
 have k60:E6 60=.vec ns.length (au ns):=by rw[hE6];simp only[go_sem,d60]
 have k61:E6 61=aa n:=by rw[hE6];simp only[go_sem,d61]
 have k62:E6 62=aa v:=by rw[hE6];simp only[go_sem,h62]
 clear hE6;have y0:=(hold H.next (by omega) (by omega)).trans ((o3.old _ (by omega)).trans r0);have y1:=(hold (H.next+1) (by omega) (by omega)).trans ((o3.old _ (by omega)).trans r1);have y2:=(hold (H.next+2) (by omega) (by omega)).trans ((o3.old _ (by omega)).trans r2);have yT:=(hold (Hx.next+1) (by omega) (by omega)).trans g7;have vl:(N.take v).length=v:=by rw[List.length_take];omega
 by_cases hb2:(v:Int)<n;rotate_left
 ·refine ab _ _ _ (by rfl) ?_;simp only[go_sem,k61,k62,hb2];refine ab _ _ _ (by rfl) ?_;have z2:=ah y2;have zT:=ah yT;simp only[go_sem,k6,k11,z2,zT];obtain rfl:v=n:=by omega
  unfold mZ at hK;rw[if_pos hE0,hE0,<- hN]at hK;rw[List.take_of_length_le (by omega)]at gB;refine av.bA aP hcl ((show Over H Hy from ⟨by omega,fun id h=>(hold id (by omega) (by omega)).trans ((o3.old id (by omega)).trans (oH.old id h))⟩).upd (by omega) _) (CT ?_) hK;rw[<- Nl]at gB ⊢;rw[yz]at gB;exact .frz (by omega) (by rw[ag,if_neg (by omega)];exact gB) (fk N) fun j h1 h2 h3=>by simp only[Nat.zero_add];exact uG (n:=N.length) (ns:=N) _ (by rw[yz];exact List.getElem_mem _) _ _ _
 obtain⟨x,hx⟩:=get_of_lt (l:=ns) (i:=v) (by omega);have hxm:=List.mem_of_getElem? hx;have hc:=(hok.node x hxm).1;have p0:=kj hx;have pne:=dQ hx;have p1:v*3+3<=(au ns).length:=by rw[fk];omega
 have hNv:N[v]?=some (kK g least (cP ns x v xs) x):=by rw[hN];exact Ck hx
 have hbn:(v:Int)<ns.length:=by omega
 refine W.seq (ab _ _ _ (by rfl) ?_);simp only[go_sem,k61,k62,hb2];refine W.seq (ab _ _ _ (by rfl) ?_);simp only[go_sem];refine W.seq (W.rW (Q':=fun e s2=>e=.normal/\s2.ρ 62=aa v/\Hy.next<=s2.H.next/\(∀ id,id<Hy.next->id≠Hx.next->s2.H.get id=Hy.get id)/\∃ pv rv,s2.H.get Hx.next=some (.arr 0 69 (setAt (eC n (N.take v)) (v*3) [aa x.card,pv,rv]))/\aD Hy.next s2.H 3 pv (ints x.parents)/\aD Hy.next s2.H 39 rv ((kK g least (cP ns x v xs) x).rows.map ae)) ?_ ?_)
 ·refine W.block ?_;refine W.seq (ab _ _ _ (by rfl) ?_);simp only[go_sem,k60,k62,hbn,p0,p1,pne,aA];obtain⟨J1,hJ1⟩:∃ J1,J1=ext Hy [.arr 0 69 [.lit (.int .i64 x.card),.vec x.parents.length (ints x.parents),.vec x.rows.length (x.rows.map ae)]]:=⟨_,rfl⟩
  have j1n:J1.next=Hy.next+1:=by rw[hJ1];rfl
  have j1o:Over Hy J1:=by rw[hJ1];exact .ext _ _
  have j13:J1.get Hy.next=some (.arr 0 69 [.lit (.int .i64 x.card),.vec x.parents.length (ints x.parents),.vec x.rows.length (x.rows.map ae)]):=by rw[hJ1];exact cA
  refine W.env fun E7 hE7=>?_;have s2:E7 2=aa least:=by rw[hE7];simp only[go_sem,k2]
  have s3:E7 3=.ptr H.next 0 0:=by rw[hE7];simp only[go_sem,k3]
  have s4:E7 4=.ptr (H.next+1) 0 0:=by rw[hE7];simp only[go_sem,k4]
  have s6:E7 6=.ptr (H.next+2) 0 0:=by rw[hE7];simp only[go_sem,k6]
  have s11:E7 11=.ptr (Hx.next+1) 0 0:=by rw[hE7];simp only[go_sem,k11]
  have s12:E7 12=aa v:=by rw[hE7];simp only[go_sem]
  have s13:E7 13=.ptr Hy.next 0 0:=by rw[hE7];simp only[go_sem]
  have s62:E7 62=aa v:=by rw[hE7];simp only[go_sem,k62]
  clear hE7;show W _ _ _ _ _ _ ⟨E7,ext Hy [.arr 0 69 [.lit (.int .i64 x.card),.vec x.parents.length (ints x.parents),.vec x.rows.length (x.rows.map ae)]]⟩;rw[<- hJ1];clear hJ1;have w0:=ah ((j1o.old _ (by omega)).trans y0);have w1:=ah ((j1o.old _ (by omega)).trans y1);have w13:=ah j13;refine W.seq (ab _ _ _ (by rfl) ?_);simp only[go_sem,s3,s4,s12,w0,w1];refine aB.clo (MQ g ns hok h6 cs xs (by omega) hrow v x hx _ _ ⟨trivial,?_⟩);simp only[go_sem];refine W.seq ?_;refine W.seq (ab _ _ _ (by rfl) ?_);simp only[go_sem];refine ab _ _ _ (by rfl) ?_;simp only[go_sem];refine W.env fun E8 hE8=>?_;have t2:E8 2=aa least:=by rw[hE8];simp only[go_sem,s2]
  have t3:E8 3=.ptr H.next 0 0:=by rw[hE8];simp only[go_sem,s3]
  have t6:E8 6=.ptr (H.next+2) 0 0:=by rw[hE8];simp only[go_sem,s6]
  have t11:E8 11=.ptr (Hx.next+1) 0 0:=by rw[hE8];simp only[go_sem,s11]
  have t12:E8 12=aa v:=by rw[hE8];simp only[go_sem,s12]
  have t13:E8 13=.ptr Hy.next 0 0:=by rw[hE8];simp only[go_sem,s13]
  have t14:E8 14=.vec (cP ns x v xs).length (ints (cP ns x v xs)):=by rw[hE8];simp only[go_sem]
  have t62:E8 62=aa v:=by rw[hE8];simp only[go_sem,s62]
  clear hE8;have w13E:∀ L,(ext J1 L).live Hy.next 0=_:=fun L=>(dB (by omega)).trans w13;have rz:List.replicate 0 (AVal.lit (.int .i64 0))=[]:=rfl;have fit:=(hn.2 x hxm).1;obtain⟨pv,J2,hA,hpO,hj2,hjp⟩:=qH (P:=Try.prog) (H:=ext J1 [.arr 0 3 []]) (t:=39) (e:=3) (lo:=J1.next) (v:=.own J1.next 0 0 0 1) (cs:=[]) (src:=ints x.parents) (n:=J1.next+1) Try.underlying39 Try.dW Try.ew (by unfold ints;rw[List.all_map,List.all_eq_true];intro y _;rfl) (by rw[Try.eU,aM];simp;omega) (aD.new (H:=J1) (cs:=[])) (by rw[bJ];simp) (by rw[bJ];simp);rw[aM]at hA;have pvo:=hpO.one;have pvc:=hpO.cells;refine W.seq ?_;refine W.draw 8 [0,1,0,0,8,28,63,0] Try.mixed (by kernel_rfl) (by kernel_rfl) ?_;simp only[go_sem,t13,w13,w13E,rz,hA,pvo,pvc];rw[bJ]at hj2;simp only[List.length_cons,List.length_nil]at hj2;refine⟨⟨fun _ h=>by omega,fun _ h=>by omega⟩,fun _ h=>by omega,fun _ h=>by omega,⟨fun _ h=>by omega,fun _ h=>by omega⟩,⟨fun _ h=>by omega,fun _ h=>by omega,fun _ h=>by omega,fun _ h=>by omega,fun _ h=>by omega⟩,?_⟩;obtain⟨J3,hJ3⟩:∃ J3,J3=ext J2 [.arr 0 69 [.lit (.int .i64 x.card),pv,.lit (.slice none 0 0)]]:=⟨_,rfl⟩
  have j3n:J3.next=J2.next+1:=by rw[hJ3];rfl
  have j2o:∀ id,id<J1.next->J2.get id=J1.get id:=fun id h=>(hjp id (by rw[bJ];simp;omega) fun g' n' e=>by cases e;omega).trans (dK h);have j3o:∀ id,id<J1.next->J3.get id=J1.get id:=fun id h=>by rw[hJ3,dK (by omega)];exact j2o id h
  have j3q:J3.get J2.next=some (.arr 0 69 [.lit (.int .i64 x.card),pv,.lit (.slice none 0 0)]):=by rw[hJ3];exact cA
  have j32:∀ id,id<J2.next->J3.get id=J2.get id:=fun id h=>by rw[hJ3,dK h]
  refine W.env fun E9 hE9=>?_;have u2:E9 2=aa least:=by rw[hE9];simp only[go_sem,t2]
  have u3:E9 3=.ptr H.next 0 0:=by rw[hE9];simp only[go_sem,t3]
  have u6:E9 6=.ptr (H.next+2) 0 0:=by rw[hE9];simp only[go_sem,t6]
  have u11:E9 11=.ptr (Hx.next+1) 0 0:=by rw[hE9];simp only[go_sem,t11]
  have u12:E9 12=aa v:=by rw[hE9];simp only[go_sem,t12]
  have u13:E9 13=.ptr Hy.next 0 0:=by rw[hE9];simp only[go_sem,t13]
  have u14:E9 14=.vec (cP ns x v xs).length (ints (cP ns x v xs)):=by rw[hE9];simp only[go_sem,t14]
  have u16:E9 16=.ptr J2.next 0 0:=by rw[hE9];simp only[go_sem]
  have u62:E9 62=aa v:=by rw[hE9];simp only[go_sem,t62]
  clear hE9;show W _ _ _ _ _ _ ⟨E9,ext J2 [.arr 0 69 [.lit (.int .i64 x.card),pv,.lit (.slice none 0 0)]]⟩;rw[<- hJ3];clear hJ3;have x13:=ah ((j3o Hy.next (by omega)).trans j13);obtain⟨L,hL⟩:∃ L,L=cP ns x v xs:=⟨_,rfl⟩
  obtain⟨R,hR⟩:∃ R,R=x.rows.length:=⟨_,rfl⟩
  have hLl:=uw hok h6 hx xs hrow;rw[<- hL]at u14 hLl ⊢;obtain⟨rows,hrows⟩:∃ rows,rows=(kK g least L x).rows:=⟨_,rfl⟩
  have hrl:rows.length=R:=by rw[hrows,hR];show ((List.range _).map _).length=_;simp
  rw[<- hrows];refine W.seq (ab _ _ _ (by rfl) ?_);simp only[go_sem,u13,x13,<- hR];refine W.env fun F hF=>?_;have a2:F 2=aa least:=by rw[hF];simp only[go_sem,u2]
  have a3:F 3=.ptr H.next 0 0:=by rw[hF];simp only[go_sem,u3]
  have a11:F 11=.ptr (Hx.next+1) 0 0:=by rw[hF];simp only[go_sem,u11]
  have a12:F 12=aa v:=by rw[hF];simp only[go_sem,u12]
  have a13:F 13=.ptr Hy.next 0 0:=by rw[hF];simp only[go_sem,u13]
  have a14:F 14=.vec L.length (ints L):=by rw[hF];simp only[go_sem,u14]
  have a16:F 16=.ptr J2.next 0 0:=by rw[hF];simp only[go_sem,u16]
  have a62:F 62=aa v:=by rw[hF];simp only[go_sem,u62]
  have a87:F 87=aa R:=by rw[hF];simp only[go_sem]
  have a88:F 88=aa 0:=by rw[hF];simp only[go_sem]
  clear hF;refine W.aG 1329227995475430863082461991556481152 (by kernel_rfl) (fun ρ2 Hz=>∃ (j:Nat) (rv:AVal),ρ2 88=aa j/\j<=R/\J3.next<=Hz.next/\(∀ id,id<J3.next->id≠J2.next->Hz.get id=J3.get id)/\Hz.get J2.next=some (.arr 0 69 [.lit (.int .i64 x.card),pv,rv])/\aD J3.next Hz 39 rv ((rows.take j).map ae)) (fun ρ2 H=>R - (iv (ρ2 88)).toNat) ?_ ?_
  ·exact⟨0,_,a88,by omega,Nat.le_refl _,fun _ _ _=>rfl,j3q,.nil⟩
  rintro ρ2 Hz ⟨j,rv,h88,hj,hnz,holdz,gz,hO⟩;refine W.env fun F2 hF2=>?_;have b2:F2 2=aa least:=by rw[hF2];simp only[go_sem,a2]
  have b3:F2 3=.ptr H.next 0 0:=by rw[hF2];simp only[go_sem,a3]
  have b11:F2 11=.ptr (Hx.next+1) 0 0:=by rw[hF2];simp only[go_sem,a11]
  have b12:F2 12=aa v:=by rw[hF2];simp only[go_sem,a12]
  have b13:F2 13=.ptr Hy.next 0 0:=by rw[hF2];simp only[go_sem,a13]
  have b14:F2 14=.vec L.length (ints L):=by rw[hF2];simp only[go_sem,a14]
  have b16:F2 16=.ptr J2.next 0 0:=by rw[hF2];simp only[go_sem,a16]
  have b62:F2 62=aa v:=by rw[hF2];simp only[go_sem,a62]
  have b87:F2 87=aa R:=by rw[hF2];simp only[go_sem,a87]
  have b88:F2 88=aa j:=by rw[hF2];simp only[go_sem,h88]
  clear hF2;have ozJ:∀ id,id<J1.next->Hz.get id=J1.get id:=fun id h=>(holdz id (by omega) (by omega)).trans (j3o id h);have lz:=ah gz;have rvo:=hO.one;have rvc:=hO.cells;have tk:(rows.take j).length=j:=by rw[List.length_take];omega
  by_cases hb3:(j:Int)<R;rotate_left
  ·have oT:=ah ((ozJ _ (by omega)).trans ((j1o.old _ (by omega)).trans yT));have oB:=ah ((ozJ _ (by omega)).trans ((j1o.old _ (by omega)).trans gB));have fl:=Pk (n:=n) (ns:=N.take v) (by omega);have hv3:v*3+3<=(eC n (N.take v)).length:=(by rw[fl];omega);refine ab _ _ _ (by rfl) ?_;simp only[go_sem,b87,b88,hb3];refine ab _ _ _ (by rfl) ?_;simp only[go_sem,b11,b12,b16,b62,lz,oT,oB,pvo,rvo,hb2,fl];have ej:j=R:=(by omega);rw[ej,List.take_of_length_le (by omega)]at hO;exact⟨by omega,by rw[az];omega,fun id h1 h2=>by rw[ag,if_neg h2,ozJ id (by omega)];exact j1o.old id h1,pv,rv,by rw[ag,if_pos rfl],hpO.keep (by omega) (by rw[az];omega) fun id _ h1 h2 _ _=>by rw[ag,if_neg (by omega),holdz id (by omega) (by omega)];exact j32 id h2,hO.keep (by omega) (by rw[az];omega) fun id _ h1 h2 _ _=>by rw[ag,if_neg (by omega)]⟩
  have w0z:=ah ((ozJ _ (by omega)).trans ((j1o.old _ (by omega)).trans y0));have w13z:=ah ((ozJ _ (by omega)).trans j13);obtain⟨c,hcc⟩:∃ c:Nat,x.card=c:=⟨x.card.toNat,by omega⟩
  have hc':=hc;rw[hcc]at hc';have hct:x.card.toNat=c:=by omega
  have hRb:=(py hok hx).2;have mR:((R:Int))*c<=1024:=by rw[hR,<- hcc];exact hRb
  have m0:0<=(j:Int)*c:=Int.mul_nonneg (by omega) (by omega);have m1':((j:Int)+1)*c<=R*c:=Int.mul_le_mul_of_nonneg_right (by omega) (by omega);have m2':((j:Int)+1)*c=j*c+c:=by rw[Int.add_mul,Int.one_mul]
  have mR1:(R:Int)*1<=R*c:=Int.mul_le_mul_of_nonneg_left (by omega) (by omega);have v1:=IntWalk.i64_in ((j:Int)*c) (by omega);have v2:=IntWalk.i64_in ((j:Int)+1) (by omega);have v3:=IntWalk.i64_in (((j:Int)+1)*c) (by omega);have rok:=yj hok h6 hfair hx (xs:=xs) (by omega) hrow (j:=j) (by omega);rw[<- hL,hct]at rok;rw[hct,<- hR]at hLl;obtain⟨q,hq⟩:∃ q,q=kR least (cW g least (fF L c j)) (fF L c j):=⟨_,rfl⟩
  have hqr:rows[j]?=some q:=by rw[hrows,hq];show ((List.range _).map _)[j]?=_;rw[List.getElem?_map,List.getElem?_range (by omega),<- hct];rfl
  have sl:=Cm hLl (show j<R by omega);have rl:=uv hLl (show j<R by omega);refine W.seq (ab _ _ _ (by rfl) ?_);simp only[go_sem,b87,b88,hb3];refine W.seq (ab _ _ _ (by rfl) ?_);simp only[go_sem];refine W.seq (W.block ?_);refine W.seq (ab _ _ _ (by rfl) ?_);simp only[go_sem,b88];refine W.seq ?_;refine W.draw 19 [0,0,0,4,14,0,32,0,128,480,1023,0,2048,0,16383,32767,65535,65535,131071] Try.mixed (by kernel_rfl) (by kernel_rfl) ?_;have tn2:((j:Int)*c).toNat=j*c:=by rw[<- Int.natCast_mul,Int.toNat_natCast]
  have tn1:(((j:Int)+1)*c).toNat=j*c+c:=by rw[m2',<- Int.natCast_mul,<- Int.natCast_add,Int.toNat_natCast]
  have tn3:j*c+c - j*c=c:=by omega
  have hLi:(L.length:Int)=R*c:=by rw[hLl,Int.natCast_mul]
  simp only[go_sem,b2,b3,b13,b14,w0z,w13z,hcc,v1,v2,v3,tn1,tn2,tn3,sl];refine⟨by omega,by omega,⟨.tup [ae q,aa 0],[],dA.pure (fun H2=>?_),?_⟩⟩
  ·rw[show AVal.vec c (ints (fF L c j))=ae (fF L c j) by unfold ae;rw[rl]];exact PH (c:=fF L c j) (grain:=g) (least:=least) (by omega) H2 _ ⟨by unfold uH;rw[C5 rok,if_pos rfl,hq],rfl⟩
  obtain⟨rv',He,hAe,hOe,hne,hpe⟩:=DO (ae q) rfl hO hnz (by rw[List.length_map];omega);simp only[ae]at hAe;have rvo2:=hOe.one;have rvc2:=hOe.cells;have lXe:=ah ((hpe J2.next (by omega) (aD.rB hO (by omega))).trans gz);have lXx:∀ L,(ext Hz L).live J2.next 0=_:=fun L=>(dB (by omega)).trans lz;simp only[go_sem];refine W.seq (ab _ _ _ (by rfl) ?_);simp only[go_sem];refine ab _ _ _ (by rfl) ?_;simp only[go_sem,b16,lz,lXe,rvo2,rvc2,hAe];refine ab _ _ _ (by rfl) ?_;simp only[go_sem,b88,v2];rw[show (rows.take j).map ae++[ae q]=(rows.take (j+1)).map ae by rw[aL hqr,List.map_append];rfl]at hOe;exact⟨by rw[az];omega,⟨j+1,rv',rfl,by omega,by rw[az];omega,fun id h1 h2=>by rw[ag,if_neg h2,hpe id (by omega) (aD.rB hO h1)];exact holdz id h1 h2,by rw[ag,if_pos rfl,hcc],hOe.keep (Nat.le_refl _) (by rw[az];omega) fun id _ h1 h2 _ _=>by rw[ag,if_neg (by omega)]⟩,by rw[h88];simp only[aa,aK];omega⟩
 ·rintro e ⟨ρ2,Hb⟩ ⟨rfl,q62,qn,qold,pv,rv,qB,qP,qR⟩;simp only at q62 qn qold qB qP qR;obtain⟨y,hy⟩:∃ y,y=kK g least (cP ns x v xs) x:=⟨_,rfl⟩
  rw[<- hy]at qR hNv;refine⟨⟨ρ2,Hb.fo Hy.next Hx.next (.arr 0 69 (setAt (eC n (N.take v)) (v*3) y.cells))⟩,dG.fo aP qB (by omega) (by simp [setAt,NodeP.cells]) ?_,Nat.le_refl _,trivial,?_⟩
  ·have e1:setAt (eC n (N.take v)) (v*3) [aa x.card,pv,rv]=((eC n (N.take v)).take (v*3)++[aa x.card])++pv :: rv :: (eC n (N.take v)).drop (v*3+3):=(by simp [setAt]);have e2:setAt (eC n (N.take v)) (v*3) y.cells=((eC n (N.take v)).take (v*3)++[aa x.card])++ae x.parents :: aA y.rows :: (eC n (N.take v)).drop (v*3+3):=(by rw[hy];simp [setAt,NodeP.cells,kK,ae,aA]);rw[e1,e2];refine Nh (fun z hz=>?_) (qP.gJ fun i h=>h) (aD.CC qR fun i h=>h) fun z hz=>uG z (List.mem_of_mem_drop hz) _ _ _;rcases List.mem_append.1 hz with hz|hz
   ·exact uG z (List.mem_of_mem_take hz) _ _ _
   ·rw[List.mem_singleton.1 hz];exact .lit _
  ·obtain⟨Hm,hHm⟩:∃ Hm,Hm=Hb.fo Hy.next Hx.next (.arr 0 69 (setAt (eC n (N.take v)) (v*3) y.cells)):=⟨_,rfl⟩
   have nm:Hm.next=Hb.next:=(by rw[hHm];rfl);have gm:Hm.get Hx.next=some (.arr 0 69 (setAt (eC n (N.take v)) (v*3) y.cells)):=(by rw[hHm];exact Dm (by omega));have om:∀ id,id<Hy.next->id≠Hx.next->Hm.get id=Hy.get id:=fun id h h2=>by rw[hHm,Dn h h2,qold id h h2]
   rw[<- hHm];clear hHm;show W Try.prog G0 127 none _ _ ⟨ρ2,Hm⟩;have w1:=IntWalk.i64_in ((v:Int)+1) (by omega);have fs:=Pm (n:=n) (ns:=N.take v) (x:=y) (by omega);rw[vl]at fs;rw[fs,<- aL hNv]at gm;refine ab _ _ _ (by rfl) ?_;simp only[go_sem,q62,w1];exact⟨by omega,⟨v+1,rfl,by omega,by omega,fun id h1 h2=>(om id (by omega) h2).trans (hold id h1 h2),gm⟩,by rw[h62];simp only[aa,aK];omega⟩
end Go.Proofs
