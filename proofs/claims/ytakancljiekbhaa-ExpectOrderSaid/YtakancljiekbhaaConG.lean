/- Own work: contracts. -/
import Derived.Test.YtakancljiekbhaaConE
import Derived.Test.YtakancljiekbhaaProg
import Derived.Test.YtakancljiekbhaaLibC
import Derived.Test.YtakancljiekbhaaConA
import Derived.Test.YtakancljiekbhaaConB
import Derived.Test.YtakancljiekbhaaConF
import Derived.Test.YtakancljiekbhaaRows
import Derived.ProofKit
import Derived.Test.YtakancljiekbhaaConC
import Derived.Test.YtakancljiekbhaaConD
set_option linter.all false
set_option maxRecDepth 100000
namespace Go.Proofs
open Go.Hx
def kS (H1 H':AHeap)(N:Nat)(cs:List AVal):Prop:=H1.next<=H'.next/\(∀ id,id<H1.next->id≠N->H'.get id=H1.get id)/\H'.get N=some (.arr 0 69 cs)
theorem QW {l:List NodeP}{i:Nat}{x y:NodeP}(h:l[i]?=some x)(hr:x.rows=[])(hy:y.rows=[]):bF (l.set i y)=(bF l).set (i*3) (aa y.card):=by
 have hl:=get_lt h;have h1:=yW (f:=NodeP.cq) (z:=3) jA l i y hl;have h2:=pr (f:=NodeP.cq) (z:=3) jA l i x h;have e1:x.cq=[aa x.card,.lit (.slice none 0 0),.lit (.slice none 0 0)]:=if_pos hr;have e2:y.cq=[aa y.card,.lit (.slice none 0 0),.lit (.slice none 0 0)]:=if_pos hy;unfold bF;rw[h1,e2];rw[e1]at h2;have h3:(l.map NodeP.cq).flatten=((l.map NodeP.cq).flatten).take (i*3)++([aa x.card,.lit (.slice none 0 0),.lit (.slice none 0 0)]++((l.map NodeP.cq).flatten).drop (i*3+3)):=by
  rw[<- h2,<- List.drop_drop,List.take_append_drop,List.take_append_drop]
 have hlen:(((l.map NodeP.cq).flatten).take (i*3)).length=i*3:=by
  rw[List.length_take,mh (f:=NodeP.cq) (z:=3) jA];omega
 conv=>rhs;rw[h3]
 rw[List.set_append_right _ _ (by omega),hlen];simp
theorem uI (ord:List Int):∀ (n v:Nat),v<n->(v:Int)∈fT ord n
 | 0,v,h=>by omega
 | n+1,v,h=>by
  unfold fT;by_cases hv:v=n
  ·subst hv;simp
  ·have:=uI ord n v (by omega);rw[<- List.take_append_drop (kR ord n) (fT ord n)]at this;rcases List.mem_append.1 this with h|h
   ·exact List.mem_append_left _ h
   ·exact List.mem_append_right _ (List.mem_cons_of_mem _ h)
structure DoneN (g:Int)(cs P:List Int)(n j:Nat)(x:NodeP):Prop where
 pl:di x.parents n
 p3:x.parents.length<=3
 rk:∀ q∈x.parents,∃ k,k<j/\P[k]?=some q
 rl:(x.rows.length:Int)=aC (aY cs x.parents)
 ro:∀ r∈x.rows,jE g x.card r
 ne:x.rows≠[]
structure LoopN (g:Int)(cs P:List Int)(n i:Nat)(ns:List NodeP):Prop where
 len:ns.length=n
 cards:au ns=cs
 todo:∀ (j v:Nat) (x:NodeP),i<=j->P[j]?=some (v:Int)->ns[v]?=some x->x.rows=[]/\x.parents=[]
 done:∀ (j v:Nat) (x:NodeP),j<i->P[j]?=some (v:Int)->ns[v]?=some x->DoneN g cs P n j x
theorem QX {l:List NodeP}{i:Nat}{x y:NodeP}(h:l[i]?=some x)(hy:y.card=x.card)(hr:y.rows≠[]):bF (l.set i y)=((bF l).set (i*3+1) (af y.parents)).set (i*3+2) (aE y.rows):=by
 have hl:=get_lt h;have h1:=yW (f:=NodeP.cq) (z:=3) jA l i y hl;have h2:=pr (f:=NodeP.cq) (z:=3) jA l i x h;unfold bF;rw[h1];have h3:(l.map NodeP.cq).flatten=((l.map NodeP.cq).flatten).take (i*3)++(x.cq++((l.map NodeP.cq).flatten).drop (i*3+3)):=by
  rw[<- h2,<- List.drop_drop,List.take_append_drop,List.take_append_drop]
 have hlen:(((l.map NodeP.cq).flatten).take (i*3)).length=i*3:=by
  rw[List.length_take,mh (f:=NodeP.cq) (z:=3) jA];omega
 have ex:∃ b c,x.cq=[aa x.card,b,c]:=by unfold NodeP.cq;split<;>exact⟨_,_,rfl⟩
 obtain⟨b,c,ex⟩:=ex;have ey:y.cq=[aa y.card,af y.parents,aE y.rows]:=if_neg hr
 conv=>rhs;rw[h3]
 rw[List.set_append_right _ _ (by omega),List.set_append_right _ _ (by omega),hlen,show i*3+1 - i*3=1 by omega,show i*3+2 - i*3=2 by omega,ex,ey];simp [hy]
structure ParU (P:List Int)(i u k:Nat)(l:List Int):Prop where
 pw:l.Pairwise (·<·)
 rng:∀ q∈l,0<=q/\(q<u\/(q=u/\∃ k',k'<k/\P[k']?=some q))
 p3:l.length<=3
 rk:∀ q∈l,∃ k',k'<i/\P[k']?=some q
theorem ParU.skip {P:List Int}{i u k:Nat}{l:List Int}(h:ParU P i u k l):ParU P i u (k+1) l:=⟨h.pw,fun q hq=>⟨(h.rng q hq).1,(h.rng q hq).2.imp id fun ⟨a,k',b,c⟩=>⟨a,k',by omega,c⟩⟩,h.p3,h.rk⟩
theorem ParU.next {P:List Int}{i u k:Nat}{l:List Int}(h:ParU P i u k l):ParU P i (u+1) 0 l:=⟨h.pw,fun q hq=>⟨(h.rng q hq).1,.inl (by rcases(h.rng q hq).2 with h1|h1<;>omega)⟩,h.p3,h.rk⟩
theorem ParU.add {P:List Int}{n i u k:Nat}{l:List Int}(hP:IsPerm n P)(h:ParU P i u k l)(hk:k<i)(hu:P[k]?=some (u:Int))(h3:l.length<3):ParU P i u (k+1) (l++[(u:Int)]):=by
 have lt:∀ q∈l,q<u:=fun q hq=>by
  rcases(h.rng q hq).2 with h1|⟨h1,k',h2,h4⟩
  ·exact h1
  ·exfalso;have e:P[k']?=P[k]?:=(by rw[h4,hu,h1]);have:=(List.getElem?_inj (get_lt h4) hP.nd).1 e;omega
 refine⟨List.pairwise_append.2 ⟨h.pw,by simp,fun a ha b hb=>by obtain rfl:=List.mem_singleton.1 hb;exact lt a ha⟩,fun q hq=>?_,by simp;omega,fun q hq=>?_⟩
 ·rcases List.mem_append.1 hq with h1|h1
  ·exact⟨(h.rng q h1).1,.inl (lt q h1)⟩
  ·obtain rfl:=List.mem_singleton.1 h1;exact⟨by omega,.inr ⟨rfl,k,by omega,hu⟩⟩
 ·rcases List.mem_append.1 hq with h1|h1
  ·exact h.rk q h1
  ·obtain rfl:=List.mem_singleton.1 h1;exact⟨k,hk,hu⟩
def yX (Hz Hx:AHeap)(N at':Nat)(C:List AVal)(pv:AVal)(l:List Int):Prop:=kS Hz Hx N (C.set at' pv)/\aB Hz.next Hx 3 pv (ints l)
set_option maxHeartbeats 4000000 in
theorem QY (g0:Int)(ps:List DrP)(ord:List Int)(hg0:U8 g0)(hps:∀ x∈ps,x.Ok)(hpl:(ps.length:Int)<2 ^ 63)(hol:(ord.length:Int)<2 ^ 63)(ho8:∀ x∈ord,U8 x)(H:AHeap)(K:ARes->AHeap->Prop)
  (hK:∀ g ns N H',Over H H'->H.next<=N->N<H'.next->H'.get N=some (.arr 0 69 (ar ns))->NetOk g ns->ns.length<=5->(∀ x∈ns,x.parents.length<=3)->(∀ x∈ns,2<=x.card)->K (.ret (.agg [aa g,.own N 0 0 ns.length 3])) H'):
  ae Try.prog G0 9 [DV g0 ps ord] H K:=by
 refine ae.bM (n:=187) (rs:=[.cell 2 35]) Try.func9 rfl rfl rfl (by decide) (by kernel_rfl) (by simp) ?_;obtain⟨n,hn⟩:∃ n:Nat,min (max ps.length 1) 5=n:=⟨_,rfl⟩
 have h51:1<=n/\n<=5:=by omega
 have hmn:(if 5<(if (1:Int) > ps.length then 1 else (ps.length:Int)) then 5 else (if (1:Int) > ps.length then 1 else (ps.length:Int)))=(n:Int):=by split<;>split<;>omega
 have t0:g0.tmod 60=g0 % 60:=Int.tmod_eq_emod_of_nonneg hg0.1;have w0:IntKind.u8.wrap (g0 % 60)=g0 % 60:=IntWalk.u8_in _ (by omega);have w1:IntKind.i64.wrap (g0 % 60)=g0 % 60:=IntWalk.i64_in _ (by omega);have w2:=IntWalk.i64_in (1+g0 % 60) (by omega);obtain⟨g,hg⟩:∃ g,1+g0 % 60=g:=⟨_,rfl⟩
 have hg1:1<=g/\g<=60:=by omega
 rw[hg]at w2;simp only[go_sem,DV];refine W.draw 9 [0,1,3,7,15,0,32,127,0] Try.mixed (by kernel_rfl) (by kernel_rfl) ?_;simp only[go_sem,hmn,t0,w1,hg,w2];refine⟨by omega,⟨⟨by omega,by omega⟩,⟨by omega,by omega⟩,?_⟩⟩;obtain⟨H1,hH1⟩:∃ H1,H1=ext (ext H [.arr 0 25 [.lit (.int .u8 g0),.vec ps.length (fg ps),.vec ord.length (bA ord)],.arr 0 35 [.lit (.int .i64 0),.lit (.slice none 0 0)],.arr 0 69 (List.replicate n [AVal.lit (.int .i64 0),.lit (.slice none 0 0),.lit (.slice none 0 0)]).flatten]) [.arr 0 35 [.lit (.int .i64 g),.own (H.next+2) 0 0 n 3]]:=⟨_,rfl⟩
 refine W.env fun E hE=>?_;have e1:E 1=.ptr H.next 0 0:=by rw[hE];simp only[go_sem]
 have e2:E 2=.ptr (H.next+1) 0 0:=by rw[hE];simp only[go_sem]
 have e3:E 3=aa n:=by rw[hE];simp only[go_sem]
 have e4:E 4=.ptr (H.next+3) 0 0:=by rw[hE];simp only[go_sem]
 clear hE;show W _ _ _ _ _ _ ⟨E,ext (ext H [.arr 0 25 [.lit (.int .u8 g0),.vec ps.length (fg ps),.vec ord.length (bA ord)],.arr 0 35 [.lit (.int .i64 0),.lit (.slice none 0 0)],.arr 0 69 (List.replicate n [AVal.lit (.int .i64 0),.lit (.slice none 0 0),.lit (.slice none 0 0)]).flatten]) [.arr 0 35 [.lit (.int .i64 g),.own (H.next+2) 0 0 n 3]]⟩;rw[<- hH1];have n1:H1.next=H.next+4:=by rw[hH1];rfl
 have o1:Over H H1:=by rw[hH1];exact(Over.ext _ _).trans (.ext _ _)
 have g0':H1.get H.next=some (.arr 0 25 [.lit (.int .u8 g0),.vec ps.length (fg ps),.vec ord.length (bA ord)]):=by rw[hH1,gG];exact dp ..
 have g1':H1.get (H.next+1)=some (.arr 0 35 [.lit (.int .i64 0),.lit (.slice none 0 0)]):=by rw[hH1,gG];exact bg H _ 1 (by simp)
 have g2':H1.get (H.next+2)=some (.arr 0 69 (bF (List.replicate n ⟨0,[],[]⟩))):=by
  rw[hH1,gG,show bF (List.replicate n ⟨0,[],[]⟩)=(List.replicate n [AVal.lit (.int .i64 0),.lit (.slice none 0 0),.lit (.slice none 0 0)]).flatten by unfold bF;rw[List.map_replicate];rfl];exact bg H _ 2 (by simp)
 have g3':H1.get (H.next+3)=some (.arr 0 35 [.lit (.int .i64 g),.own (H.next+2) 0 0 n 3]):=by rw[hH1,gG];exact bg H _ 3 (by simp)
 clear hH1;have l0:=ak g0';have l1:=ak (show (ext H1 [.arr 0 5 (List.replicate n (.lit (.int .u8 0)))]).get H.next=some (.arr 0 25 [.lit (.int .u8 g0),.vec ps.length (fg ps),.vec ord.length (bA ord)]) by rw[dF _ _ _ (by omega)];exact g0');refine W.draw 4 [0,1,0,4] Try.mixed (by kernel_rfl) (by kernel_rfl) ?_;simp only[go_sem,e1,e3,l1];refine⟨⟨by omega,by omega⟩,by omega,by omega,?_⟩;obtain⟨H2,hH2⟩:∃ H2,H2=ext H1 [.arr 0 5 (List.replicate n (.lit (.int .u8 0)))]:=⟨_,rfl⟩
 have gb:H2.get H1.next=some (.arr 0 5 (List.replicate n (.lit (.int .u8 0)))):=by rw[hH2];exact cu
 rw[<- hH2];refine aw.clo ((ae.frame (H:=H2) (args:=[.agg [.own H1.next 0 0 n 1,.lit (.int .u16 0),.vec ord.length (bA ord)]]) (args':=[.agg [.vec n (bA (List.replicate n 0)),.lit (.int .u16 0),.vec ord.length (bA ord)]]) (v':=af (fT ord n)) aV rfl (fun i hi _=>?_) (QJ n h51.2 ord hol ho8 cJ _ fun v H' _ ho=>⟨_,rfl,ho.rE⟩)).mono fun r H' hr=>?_)
 ·match i,hi with
  | 0,_ =>
   refine .agg rfl fun i hi _=>?_
   match i,hi with
   | 0,_ =>
    have:bA (List.replicate n 0)=List.replicate n (.lit (.int .u8 0)):=(by unfold bA;rw[List.map_replicate]);rw[this];exact Fz.rF gb (by simp) fun c hc=>⟨_,List.eq_of_mem_replicate hc⟩
   | 1,_=>exact .lit _
   | 2,_=>exact .vec rfl fun i hi _=>by simp only[bA,List.getElem_map];exact .lit _
 obtain⟨rfl,rfl⟩:=hr;refine⟨trivial,?_⟩;have hperm:=yV ord n;obtain⟨P,hP⟩:∃ P,P=fT ord n:=⟨_,rfl⟩
 rw[<- hP]at hperm ⊢;have n2:H'.next=H1.next+1:=by rw[hH2];rfl
 have F0:kS H1 H' (H.next+2) (bF (List.replicate n ⟨0,[],[]⟩)):=by
  rw[hH2];exact⟨by simp [bI],fun id h _=>dF _ _ _ h,by rw[dF _ _ _ (by omega)];exact g2'⟩
 clear hH2 gb;simp only[go_sem,e3];have bs:∀ k:Nat,k<=5->(3:Int) ^ k<=243:=fun k hk=>by
  have:(3:Nat) ^ k<=3 ^ 5:=Nat.pow_le_pow_right (by decide) hk;have h2:((3 ^ k:Nat):Int)<=((3 ^ 5:Nat):Int):=by exact_mod_cast this
  push_cast at h2
  exact h2
 refine W.aI 151115727451794287100864 (by rfl) (fun ρ Hx=>∃ (i:Nat) (ns:List NodeP) (Wd:Int),ρ 7=aa i/\i<=n/\ns.length=n/\(∀ x∈ns,x.rows=[]/\x.parents=[])/\(∀ j v:Nat,j<i->P[j]?=some (v:Int)->∃ x,ns[v]?=some x/\2<=x.card/\x.card<=3)/\ρ 6=aa Wd/\1<=Wd/\Wd<=3 ^ i/\H'.next<=Hx.next/\kS H1 Hx (H.next+2) (bF ns)) (fun ρ H=>n - (iv (ρ 7)).toNat) ?_ ?_
 ·simp only[go_sem];exact⟨0,_,1,rfl,by omega,by simp,fun x hx=>by obtain rfl:=List.eq_of_mem_replicate hx;exact⟨rfl,rfl⟩,fun j v hj=>by omega,rfl,by omega,by simp,F0⟩
 rintro ρ Hx ⟨i,ns,Wd,h7,hi,hnl,hnz,hnc,h6,hW1,hW3,hnx,hF⟩;refine W.env fun E2 hE2=>?_;have f1:E2 1=.ptr H.next 0 0:=by rw[hE2];simp only[go_sem,e1]
 have f2:E2 2=.ptr (H.next+1) 0 0:=by rw[hE2];simp only[go_sem,e2]
 have f3:E2 3=aa n:=by rw[hE2];simp only[go_sem,e3]
 have f4:E2 4=.ptr (H.next+3) 0 0:=by rw[hE2];simp only[go_sem,e4]
 have f5:E2 5=af P:=by rw[hE2];simp only[go_sem]
 have f6:E2 6=aa Wd:=by rw[hE2];simp only[go_sem,h6]
 have f7:E2 7=aa i:=by rw[hE2];simp only[go_sem,h7]
 clear hE2;refine ab _ _ _ (by rfl) ?_;have hPl:=hperm.len;have hFn:=hF.1;have m0:=ak ((hF.2.1 H.next (by omega) (by omega)).trans g0');have m3:=ak ((hF.2.1 (H.next+3) (by omega) (by omega)).trans g3');have mN:=ak hF.2.2;have m0':∀ L,(ext Hx L).live H.next 0=some (25,[.lit (.int .u8 g0),.vec ps.length (fg ps),.vec ord.length (bA ord)]):=fun L=>(eP (by omega)).trans m0;have m3':∀ L,(ext Hx L).live (H.next+3) 0=some (35,[.lit (.int .i64 g),.own (H.next+2) 0 0 n 3]):=fun L=>(eP (by omega)).trans m3;have mN':∀ L,(ext Hx L).live (H.next+2) 0=some (69,bF ns):=fun L=>(eP (by omega)).trans mN;by_cases hb:(i:Int)<n
 ·obtain⟨pv,hpv⟩:=get_of_lt (l:=P) (i:=i) (by omega);have hpr:=hperm.rng pv (List.mem_of_getElem? hpv);obtain⟨v,rfl⟩:=Int.eq_ofNat_of_zero_le hpr.1;obtain⟨x,hx⟩:=get_of_lt (l:=ns) (i:=v) (by omega);have hpne:=aN hpv;have hz0:=DZ hx;have hzne:=aN hz0;have hzl:=DY ns;have hv:(v:Int)<n:=hpr.2;have hv0:(v:Int) >= 0:=hpr.1;have hiP:(i:Int)<P.length:=by omega
  have w3:=bs i (by omega);have i1:=IntWalk.i64_in ((i:Int)+1) (by omega);have i2:=IntWalk.i64_in ((n:Int) - 1) (by omega);have i3:=IntWalk.i64_in ((n:Int) - 1 - i) (by omega);have i4:=IntWalk.u64_in ((n:Int) - 1 - i) (by omega);have fin:∀ (c:Int) (B:Blk),2<=c/\c<=3->v*3+1<=(bF ns).length/\H'.next<=((ext Hx [B]).upd (H.next+2) (.arr 0 69 (setAt (bF ns) (v*3) [.lit (.int .i64 c)]))).next /\
    (∃ (i_1:Nat) (ns_1:List NodeP) (Wd_1:Int),AVal.lit (.int .i64 ((i:Int)+1))=.lit (.int .i64 i_1)/\i_1<=n/\ns_1.length=n/\(∀ x∈ns_1,x.rows=[]/\x.parents=[])/\(∀ j v:Nat,j<i_1->P[j]?=some (v:Int)->∃ x,ns_1[v]?=some x/\2<=x.card/\x.card<=3) /\
     AVal.lit (.int .i64 (Wd*c))=.lit (.int .i64 Wd_1)/\1<=Wd_1/\Wd_1<=3 ^ i_1/\H'.next<=((ext Hx [B]).upd (H.next+2) (.arr 0 69 (setAt (bF ns) (v*3) [.lit (.int .i64 c)]))).next/\kS H1 ((ext Hx [B]).upd (H.next+2) (.arr 0 69 (setAt (bF ns) (v*3) [.lit (.int .i64 c)]))) (H.next+2) (bF ns_1)) /\
    n - ((i:Int)+1).toNat<n - (iv (ρ 7)).toNat:=by
   intro c B c23;have p1:2<=Wd*c/\Wd*c<=3 ^ i*3:=by
    constructor
    ·have:=Int.mul_le_mul hW1 c23.1 (by omega) (by omega);omega
    ·exact Int.mul_le_mul hW3 c23.2 (by omega) (by omega)
   have nn:((ext Hx [B]).upd (H.next+2) (.arr 0 69 (setAt (bF ns) (v*3) [.lit (.int .i64 c)]))).next=Hx.next+1:=rfl;refine⟨by rw[hzl];have:=get_lt hx;omega,by rw[nn];omega,⟨i+1,ns.set v ⟨c,[],[]⟩,Wd*c,rfl,by omega,by simp [hnl],fun z hz=>?_,fun j u hj hu=>?_,rfl,by omega,by rw[Int.pow_succ];omega,by rw[nn];omega,?_⟩,by rw[h7];simp only[aa,aM];omega⟩
   ·rcases List.mem_or_eq_of_mem_set hz with h|h
    ·exact hnz z h
    ·rw[h];exact⟨rfl,rfl⟩
   ·by_cases huv:u=v
    ·subst huv;exact⟨_,List.getElem?_set_self (get_lt hx),by dsimp only;omega,by dsimp only;omega⟩
    ·rw[List.getElem?_set_ne (by omega)];refine hnc j u ?_ hu;rcases Nat.lt_or_ge j i with h|h
     ·exact h
     ·obtain rfl:j=i:=(by omega);rw[hpv]at hu;exact absurd (by have:=Option.some.inj hu;omega) huv
   ·refine⟨by rw[nn];omega,fun id h1 h2=>by rw[ag,if_neg h2,dF _ _ _ (by omega)];exact hF.2.1 id h1 h2,?_⟩;rw[ag,if_pos rfl,QW hx (hnz x (List.mem_of_getElem? hx)).1 rfl];congr 2;exact iI (by rw[hzl];have:=get_lt hx;omega)
  by_cases hp:(i:Int)<ps.length
  ·obtain⟨y,hy⟩:=get_of_lt (l:=ps) (i:=i) (by omega);have hyo:=hps y (List.mem_of_getElem? hy);have hc0:=DW hy;have hc1:i*3+3<=(fg ps).length:=(by rw[DX];omega);have hcne:¬ fg ps=[]:=fun h=>by rw[h]at hc1;simp at hc1
   have c8:=hyo.1;have t1:y.card.tmod 2=y.card % 2:=Int.tmod_eq_emod_of_nonneg c8.1;have i5:=IntWalk.u8_in (y.card % 2) (by omega);have i6:=IntWalk.i64_in (y.card % 2) (by omega);have i7:=IntWalk.i64_in (2+y.card % 2) (by omega);have c23:2<=(2+y.card % 2)/\(2+y.card % 2)<=3:=(by omega);have p1:2<=Wd*(2+y.card % 2)/\Wd*(2+y.card % 2)<=3 ^ i*3:=by
    constructor
    ·have:=Int.mul_le_mul hW1 c23.1 (by omega) (by omega);omega
    ·exact Int.mul_le_mul hW3 c23.2 (by omega) (by omega)
   have p2:2<=Wd*2/\Wd*2<=3 ^ i*3:=(by omega);have j1:=IntWalk.i64_in (Wd*(2+y.card % 2)) (by omega);have j2:=IntWalk.i64_in (Wd*2) (by omega);obtain⟨q,hq⟩:∃ q,IntKind.i64.wrap (Wd*(2+y.card % 2)*2 ^ (min ((n:Int) - 1 - i).toNat IntKind.i64.bits))=q:=⟨_,rfl⟩
   have hsh:∀ t o1 o2,aQ Try.prog .shl t o1 o2 (.lit (.int .i64 (Wd*(2+y.card % 2)))) (.lit (.int .u64 ((n:Int) - 1 - i)))=some (.lit (.int .i64 q)):=fun t o1 o2=>by rw[pL (by omega),hq]
   by_cases hq1:q > 100
   ·simp only[go_sem,f1,f3,f6,f7,m0',hb,hp,i2,i3,i4,j1,j2,hsh,hc0,hc1,hcne,t1,i6,i7,hq1];refine W.draw 7 [0,1,0,0,12,28,0] Try.mixed (by kernel_rfl) (by kernel_rfl) ?_;simp only[go_sem,f4,f5,f6,f7,m3',mN',i1,hpv,hpne,hv,hv0,hiP];exact fin 2 _ (by omega)
   ·simp only[go_sem,f1,f3,f6,f7,m0',hb,hp,i2,i3,i4,j1,hsh,hc0,hc1,hcne,t1,i6,i7,hq1];refine W.draw 7 [0,1,0,0,12,28,0] Try.mixed (by kernel_rfl) (by kernel_rfl) ?_;simp only[go_sem,f4,f5,f6,f7,m3',mN',i1,hpv,hpne,hv,hv0,hiP];exact fin (2+y.card % 2) _ c23
  ·have p2:2<=Wd*2/\Wd*2<=3 ^ i*3:=(by omega);have i5:IntKind.i64.wrap (2+IntKind.i64.wrap (Int.tmod 0 2))=2:=(by decide);have j2:=IntWalk.i64_in (Wd*2) (by omega);obtain⟨q,hq⟩:∃ q,IntKind.i64.wrap (Wd*2*2 ^ (min ((n:Int) - 1 - i).toNat IntKind.i64.bits))=q:=⟨_,rfl⟩
   have hsh:∀ t o1 o2,aQ Try.prog .shl t o1 o2 (.lit (.int .i64 (Wd*2))) (.lit (.int .u64 ((n:Int) - 1 - i)))=some (.lit (.int .i64 q)):=fun t o1 o2=>by rw[pL (by omega),hq]
   by_cases hq1:q > 100
   ·simp only[go_sem,f1,f3,f6,f7,m0',hb,hp,i2,i3,i4,j2,hsh,i5,hq1];refine W.draw 7 [0,1,0,0,12,28,0] Try.mixed (by kernel_rfl) (by kernel_rfl) ?_;simp only[go_sem,f4,f5,f6,f7,m3',mN',i1,hpv,hpne,hv,hv0,hiP];exact fin 2 _ (by omega)
   ·simp only[go_sem,f1,f3,f6,f7,m0',hb,hp,i2,i3,i4,j2,hsh,i5,hq1];refine W.draw 7 [0,1,0,0,12,28,0] Try.mixed (by kernel_rfl) (by kernel_rfl) ?_;simp only[go_sem,f4,f5,f6,f7,m3',mN',i1,hpv,hpne,hv,hv0,hiP];exact fin 2 _ (by omega)
 ·obtain rfl:n=i:=by omega
  clear bs hW1 hW3 h6 f6;simp only[go_sem,f3,f7,hb];obtain⟨cs,hcs⟩:∃ cs,cs=au ns:=⟨_,rfl⟩
  have csl:cs.length=n:=by rw[hcs,cG,hnl]
  have hc23:∀ c∈cs,2<=c/\c<=3:=fun c hc=>by
   obtain⟨v,hv⟩:=List.mem_iff_getElem?.1 hc;have hvn:=get_lt hv;have hm:=uI ord n v (by omega);rw[<- hP]at hm;obtain⟨j,hj⟩:=List.mem_iff_getElem?.1 hm;obtain⟨x,hx,h2,h3⟩:=hnc j v (by have:=get_lt hj;omega) hj;rw[hcs,cS hx]at hv;cases hv;exact⟨h2,h3⟩
  have L0:LoopN g cs P n 0 ns:=⟨hnl,hcs.symm,fun j v x _ _ hx=>hnz x (List.mem_of_getElem? hx),fun j v x h=>by omega⟩
  clear hnc hnz h7;refine W.aI 98079714615416886934934209737619636635871851991103765504 (by rfl) (fun ρ Hy=>∃ (i:Nat) (ns:List NodeP),ρ 10=aa i/\i<=n/\LoopN g cs P n i ns/\Hx.next<=Hy.next/\kS H1 Hy (H.next+2) (bF ns)) (fun ρ H=>n - (iv (ρ 10)).toNat) ?_ ?_
  ·simp only[go_sem];exact⟨0,ns,rfl,by omega,L0,hF⟩
  clear L0 hF m0 m3 mN m0' m3' mN' hFn hnl hcs f7;rintro ρ Hy ⟨i,ns,h10,hi,L,hny,hF⟩;refine W.env fun E hE=>?_;have e1:E 1=.ptr H.next 0 0:=by rw[hE];simp only[go_sem,f1]
  have e2:E 2=.ptr (H.next+1) 0 0:=by rw[hE];simp only[go_sem,f2]
  have e3:E 3=aa n:=by rw[hE];simp only[go_sem,f3]
  have e4:E 4=.ptr (H.next+3) 0 0:=by rw[hE];simp only[go_sem,f4]
  have e5:E 5=af P:=by rw[hE];simp only[go_sem,f5]
  have e10:E 10=aa i:=by rw[hE];simp only[go_sem,h10]
  clear hE;refine ab _ _ _ (by rfl) ?_;have hFn:=hF.1;have m0:=ak ((hF.2.1 H.next (by omega) (by omega)).trans g0');have m1:=ak ((hF.2.1 (H.next+1) (by omega) (by omega)).trans g1');have m3:=ak ((hF.2.1 (H.next+3) (by omega) (by omega)).trans g3');have m0':∀ L,(ext Hy L).live H.next 0=some (25,[.lit (.int .u8 g0),.vec ps.length (fg ps),.vec ord.length (bA ord)]):=fun L=>(eP (by omega)).trans m0;by_cases hb:(i:Int)<n
  ·obtain⟨pv,hpv⟩:=get_of_lt (l:=P) (i:=i) (by omega);have hpr:=hperm.rng pv (List.mem_of_getElem? hpv);obtain⟨v,rfl⟩:=Int.eq_ofNat_of_zero_le hpr.1;have hnl:=L.len;obtain⟨x,hx⟩:=get_of_lt (l:=ns) (i:=v) (by omega);have hpne:=aN hpv;have hiP:(i:Int)<P.length:=(by omega);have hP1:∀ k:Nat,k<n->∃ u:Nat,P[k]?=some (u:Int)/\u<n:=fun k hk=>by
    obtain⟨q,hq⟩:=get_of_lt (l:=P) (i:=k) (by omega);have:=hperm.rng q (List.mem_of_getElem? hq);obtain⟨u,rfl⟩:=Int.eq_ofNat_of_zero_le this.1;exact⟨u,hq,by omega⟩
   have hpc:∀ (B:List AVal),B=(if (i:Int)<ps.length then (fg ps).drop (i*3) |>.take 3 else [.lit (.int .u8 0),.lit (.int .u8 0),.lit (.slice none 0 0)])->∃ (pc par:Int) (bs:List Int) (wv:AVal),B=[.lit (.int .u8 pc),.lit (.int .u8 par),wv]/\U8 par/\(∀ b∈bs,U8 b)/\(bs.length:Int)<2 ^ 63/\wv.one=true/\wv.cells=[wv]/\∀ H0,Fz (fun _=>True) H0 0 wv (.vec bs.length (bA bs)):=by
    rintro B rfl;by_cases hp:(i:Int)<ps.length
    ·obtain⟨y,hy⟩:=get_of_lt (l:=ps) (i:=i) (by omega);have hyo:=hps y (List.mem_of_getElem? hy);rw[if_pos hp,DW hy];exact⟨y.card,y.par,y.w,_,rfl,hyo.2.1,hyo.2.2.2,hyo.2.2.1,rfl,rfl,fun H0=>.vec rfl fun i hi _=>by simp only[bA,List.getElem_map];exact .lit _⟩
    ·rw[if_neg hp];exact⟨0,0,[],_,rfl,by unfold U8;omega,by simp,by simp,rfl,rfl,fun H0=>.nil⟩
   by_cases hp:(i:Int)<ps.length
   case' pos =>
    have hc1:i*3+3<=(fg ps).length:=(by rw[DX];omega);have hcne:¬ fg ps=[]:=fun h=>by rw[h]at hc1;simp at hc1
    rw[if_pos hp]at hpc;obtain⟨pc,par,bs,wv,hc0,hpar,hbs,hbl,hwo,hwc,hwf⟩:=hpc _ rfl;simp only[go_sem,e1,e3,e5,e10,m0',hb,hp,hc0,hc1,hcne,hpv,hpne,hiP,hwo,Bool.and_true];obtain⟨Hz,hHz⟩:∃ Hz,Hz=ext Hy [.arr 0 86 [.lit (.int .u8 pc),.lit (.int .u8 par),wv]]:=⟨_,rfl⟩
    clear hpc hc0 hc1 hcne hp
   case' neg =>
    rw[if_neg hp]at hpc;obtain⟨pc,par,bs,wv,hc0,hpar,hbs,hbl,hwo,hwc,hwf⟩:=hpc _ rfl;simp only[go_sem,e1,e3,e5,e10,m0',hb,hp,hpv,hpne,hiP];rw[hc0];obtain⟨Hz,hHz⟩:∃ Hz,Hz=ext Hy [.arr 0 86 [.lit (.int .u8 pc),.lit (.int .u8 par),wv]]:=⟨_,rfl⟩
    clear hpc hc0 hp
   all_goals
    rw[<- hHz];refine W.env fun E3 hE3=>?_;have k1:E3 1=.ptr H.next 0 0:=(by rw[hE3];simp only[go_sem,e1]);have k2:E3 2=.ptr (H.next+1) 0 0:=(by rw[hE3];simp only[go_sem,e2]);have k3:E3 3=aa n:=(by rw[hE3];simp only[go_sem,e3]);have k4:E3 4=.ptr (H.next+3) 0 0:=(by rw[hE3];simp only[go_sem,e4]);have k5:E3 5=af P:=(by rw[hE3];simp only[go_sem,e5]);have k10:E3 10=aa i:=(by rw[hE3];simp only[go_sem,e10]);have k11:E3 11=.ptr Hy.next 0 0:=(by rw[hE3];simp only[go_sem]);have k12:E3 12=aa v:=(by rw[hE3];simp only[go_sem]);have k13:E3 13=aa 0:=(by rw[hE3];simp only[go_sem]);clear hE3;have nz:Hz.next=Hy.next+1:=(by rw[hHz];rfl);have z3:Hz.get (H.next+3)=some (.arr 0 35 [.lit (.int .i64 g),.own (H.next+2) 0 0 n 3]):=(by rw[hHz,dF _ _ _ (by omega)];exact(hF.2.1 (H.next+3) (by omega) (by omega)).trans g3');have zP:Hz.get Hy.next=some (.arr 0 86 [.lit (.int .u8 pc),.lit (.int .u8 par),wv]):=(by rw[hHz];exact cu);have zN:Hz.get (H.next+2)=some (.arr 0 69 (bF ns)):=(by rw[hHz,dF _ _ _ (by omega)];exact hF.2.2);have zO:∀ id,id<H1.next->id≠H.next+2->Hz.get id=H1.get id:=fun id h1 h2=>by rw[hHz,dF _ _ _ (by omega)];exact hF.2.1 id h1 h2
    obtain⟨xr,xp⟩:=L.todo i v x (Nat.le_refl _) hpv hx;have hzl:=DY ns;have hvn:=get_lt hx;have hcx:(bF ns)[v*3+1]?=some (.lit (.slice none 0 0)):=by
     have:=ke (f:=NodeP.cq) (z:=3) jA ns v 1 x hx (by omega);rw[show (bF ns)[v*3+1]?=_ from this];unfold NodeP.cq;rw[if_pos xr];rfl
    clear hHz e1 e2 e3 e4 e5 e10 f1 f2 f3 f4 f5 m0' m0 m1 m3;have vlt:(v:Int)<n:=hpr.2;have v0:(v:Int) >= 0:=hpr.1;have hset:∀ pv pv',setAt ((bF ns).set (v*3+1) pv) (v*3+1) [pv']=(bF ns).set (v*3+1) pv':=fun pv pv'=>by rw[iI (by rw[List.length_set];omega),List.set_set]
    have hgetc:∀ pv,((bF ns).set (v*3+1) pv)[v*3+1]?=some pv:=fun pv=>List.getElem?_set_self (by omega);refine W.rJ (Q':=fun e s2=>e=.exit 4/\∃ pv l,s2.ρ 1=.ptr H.next 0 0/\s2.ρ 2=.ptr (H.next+1) 0 0/\s2.ρ 3=aa n/\s2.ρ 4=.ptr (H.next+3) 0 0/\s2.ρ 5=af P/\s2.ρ 10=aa i/\s2.ρ 11=.ptr Hy.next 0 0/\s2.ρ 12=aa v/\yX Hz s2.H (H.next+2) (v*3+1) (bF ns) pv l/\ParU P i n 0 l) ?_ ?_
    ·refine W.aI 44601490397061167054908922280959129468035072 (by rfl) (fun ρ Hu=>∃ (u:Nat) (pv:AVal) (l:List Int),ρ 13=aa u/\u<=n/\yX Hz Hu (H.next+2) (v*3+1) (bF ns) pv l/\ParU P i u 0 l) (fun ρ H=>n - (iv (ρ 13)).toNat) ?_ ?_
     ·simp only[go_sem,k13];refine⟨0,.lit (.slice none 0 0),[],rfl,by omega,⟨⟨Nat.le_refl _,fun _ _ _=>rfl,?_⟩,.nil⟩,⟨by simp,by simp,by simp,by simp⟩⟩;rw[zN,nA hcx]
     rintro ρu Hu ⟨u,pv,l,h13,hu,hS,hL⟩;refine W.env fun E4 hE4=>?_;have q3:E4 3=aa n:=(by rw[hE4];simp only[go_sem,k3]);have q4:E4 4=.ptr (H.next+3) 0 0:=(by rw[hE4];simp only[go_sem,k4]);have q5:E4 5=af P:=(by rw[hE4];simp only[go_sem,k5]);have q10:E4 10=aa i:=(by rw[hE4];simp only[go_sem,k10]);have q11:E4 11=.ptr Hy.next 0 0:=(by rw[hE4];simp only[go_sem,k11]);have q12:E4 12=aa v:=(by rw[hE4];simp only[go_sem,k12]);have q13:E4 13=aa u:=(by rw[hE4];simp only[go_sem,h13]);have q1:E4 1=.ptr H.next 0 0:=(by rw[hE4];simp only[go_sem,k1]);have q2:E4 2=.ptr (H.next+1) 0 0:=(by rw[hE4];simp only[go_sem,k2]);clear hE4;refine ab _ _ _ (by rfl) ?_;by_cases hub:(u:Int)<n
     ·have u1:=IntWalk.i64_in ((u:Int)+1) (by omega);simp only[go_sem,q3,q13,hub];refine W.aI 44601490397058710981870980086493729605566464 (by rfl) (fun ρ Hk=>∃ (k:Nat) (pv:AVal) (l:List Int),ρ 14=aa k/\k<=i/\Hu.next<=Hk.next/\yX Hz Hk (H.next+2) (v*3+1) (bF ns) pv l/\ParU P i u k l) (fun ρ H=>i - (iv (ρ 14)).toNat) ?_ ?_
      ·simp only[go_sem];exact⟨0,pv,l,rfl,by omega,hS,hL⟩
      clear hS hL;rintro ρk Hk ⟨k,pv,l,h14,hk,hnk,hS,hL⟩;refine W.env fun E5 hE5=>?_;have r4:E5 4=.ptr (H.next+3) 0 0:=(by rw[hE5];simp only[go_sem,q4]);have r5:E5 5=af P:=(by rw[hE5];simp only[go_sem,q5]);have r10:E5 10=aa i:=(by rw[hE5];simp only[go_sem,q10]);have r11:E5 11=.ptr Hy.next 0 0:=(by rw[hE5];simp only[go_sem,q11]);have r12:E5 12=aa v:=(by rw[hE5];simp only[go_sem,q12]);have r13:E5 13=aa u:=(by rw[hE5];simp only[go_sem,q13]);have r14:E5 14=aa k:=(by rw[hE5];simp only[go_sem,h14]);clear hE5;refine ab _ _ _ (by rfl) ?_;by_cases hki:(k:Int)<i
      ·obtain⟨hFz,hOz⟩:=hS;have hFz1:=hFz.1;obtain⟨a,ha,han⟩:=hP1 k (by omega);have hane:=aN ha;have hkP:(k:Int)<P.length:=(by omega);have s1:=IntWalk.i64_in ((k:Int)+1) (by omega);have s2:=IntWalk.u64_in (k:Int) (by omega);have y3:=ak ((hFz.2.1 (H.next+3) (by omega) (by omega)).trans z3);have yP:=ak ((hFz.2.1 Hy.next (by omega) (by omega)).trans zP);have yN:=ak hFz.2.2;have hgc:=hgetc pv;have hcne2:=aN hgc;obtain⟨r1,hr1⟩:∃ r1,∀ t o1 o2,aQ Try.prog .shr t o1 o2 (.lit (.int .u8 par)) (.lit (.int .u64 (k:Int)))=some (.lit (.int .u8 r1)):=⟨_,fun _ _ _=>nE (by omega)⟩
       obtain⟨r2,hr2⟩:∃ r2,∀ t o1 o2,aQ Try.prog .and t o1 o2 (.lit (.int .u8 r1)) (.lit (.int .u8 1))=some (.lit (.int .u8 r2)):=⟨_,fun _ _ _=>rG⟩
       have hlen:=QS hOz (d:=some (.slice 3)) rfl;rw[vW,aZ]at hlen;by_cases hau:(a:Int)=u
       ·have hau':a=u:=(by omega);by_cases hr:r2=1
        ·by_cases hl3:(l.length:Int)<3
         ·simp only[go_sem,r4,r5,r10,r11,r12,r13,r14,hki,ha,hane,hkP,s2,y3,yP,yN,hgc,hr1,hr2,hlen,hau,hr,hl3,vlt,v0];obtain⟨pv',Hj,hA,hO',hn',hpr'⟩:=jm (P:=Try.prog) (H:=Hk) (t:=39) (x:=aa u) (n:=Hk.next+1) Try.underlying39 Try.eZ Try.fS rfl (by rw[Try.gS,aZ];omega) hOz hFz1 rfl;simp only[aa]at hA;have keep:∀ id,id<Hz.next->Hj.get id=Hk.get id:=fun id h=>hpr' id (by omega) (hOz.ne h);have y3j:=ak ((keep _ (by omega)).trans ((hFz.2.1 (H.next+3) (by omega) (by omega)).trans z3));have yNj:=ak ((keep _ (by omega)).trans hFz.2.2);refine W.draw 12 [0,1,0,0,8,0,56,120,248,0,512,2040] Try.mixed (by kernel_rfl) (by kernel_rfl) ?_;simp only[go_sem,r4,r12,r13,r14,y3,yN,yNj,hgc,vlt,v0,hA,s1];have hdj:lj (if jM pv=true then { eff:=aH pv,rs:=aH pv++[Hk.next] } else { eff:=[Hk.next+1],rs:=[Hk.next] }) { eff:=[],rs:=[H.next+3] }:=by
           rcases hOz with ⟨hO1,_⟩|⟨id,gg,hO1,hO2,hO3,_⟩
           ·rw[hO1];show lj { eff:=[Hk.next+1],rs:=[Hk.next] } _;exact⟨fun a ha=>by (obtain rfl:a=Hk.next+1:=by simpa using ha);simp;omega,fun a ha=>by simp at ha⟩
           ·rw[hO3];show lj { eff:=[id],rs:=[id]++[Hk.next] } _;exact⟨fun a ha=>by (obtain rfl:a=id:=by simpa using ha);simp;omega,fun a ha=>by simp at ha⟩
          have hpc1:=hO'.cells;rw[hpc1];refine⟨⟨by omega,by omega,by omega,by omega,by omega,by omega,by omega⟩,⟨hdj,hdj⟩,⟨rfl,by simp [hO'.one],by rw[List.length_set];simp;omega⟩,by rw[aA];omega,⟨k+1,pv',l++[(u:Int)],rfl,by omega,by rw[aA];omega,⟨⟨by rw[aA];omega,fun id h1 h2=>by rw[ag,if_neg h2,keep _ h1];exact hFz.2.1 id h1 h2,?_⟩,?_⟩,hL.add hperm (by omega) (by rw[ha,hau]) (by omega)⟩,by rw[h14];simp only[aa,aM];omega⟩
          ·rw[ag,if_pos rfl,hset]
          ·have:=hO'.keep (lo':=Hz.next) (H':=Hj.upd (H.next+2) (.arr 0 69 (setAt ((bF ns).set (v*3+1) pv) (v*3+1) [pv']))) (Nat.le_refl _) (Nat.le_refl _) fun id _ h1 _ _ _=>by rw[ag,if_neg (by omega)]
           simpa [ints,aa] using this
         ·simp only[go_sem,r4,r5,r10,r11,r12,r13,r14,hki,ha,hane,hkP,s1,s2,y3,yP,yN,hgc,hr1,hr2,hlen,hau,hr,hl3,vlt,v0];exact⟨hnk,⟨k+1,pv,l,rfl,by omega,hnk,⟨hFz,hOz⟩,hL.skip⟩,by rw[h14];simp only[aa,aM];omega⟩
        ·simp only[go_sem,r5,r10,r11,r13,r14,hki,ha,hane,hkP,s1,s2,yP,hr1,hr2,hau,hr];exact⟨hnk,⟨k+1,pv,l,rfl,by omega,hnk,⟨hFz,hOz⟩,hL.skip⟩,by rw[h14];simp only[aa,aM];omega⟩
       ·simp only[go_sem,r5,r10,r13,r14,hki,ha,hane,hkP,s1,hau];exact⟨hnk,⟨k+1,pv,l,rfl,by omega,hnk,⟨hFz,hOz⟩,hL.skip⟩,by rw[h14];simp only[aa,aM];omega⟩
      ·obtain rfl:k=i:=(by omega);simp only[go_sem,r10,r13,r14,hki,u1];exact⟨by have:=hS.1.1;omega,⟨u+1,pv,l,rfl,by omega,hS,hL.next⟩,by rw[h13];simp only[aa,aM];omega⟩
     ·obtain rfl:u=n:=(by omega);simp only[go_sem,q1,q2,q3,q4,q5,q10,q11,q12,q13,hub];exact⟨pv,l,hS,hL⟩
    ·rintro e s2 ⟨rfl,pv,l,a1,a2,a3,a4,a5,a10,a11,a12,⟨hFz,hOz⟩,hL⟩;have hFz1:=hFz.1;obtain⟨rk,hrk,hfz⟩:∃ rk,Hz.next<=rk/\Fz (fun id=>id=rk) s2.H s2.H.next pv (af l):=by
      rcases hOz with ⟨hO1,hO2⟩|⟨id,gg,hO1,hO2,hO3,hO4⟩
      ·have:l=[]:=by cases l with
        | nil=>rfl
        | cons b l=>simp [ints]at hO2
       rw[hO1,this];exact⟨s2.H.next,hFz1,.nil⟩
      ·refine⟨id,hO1,?_⟩;rw[hO3,aZ];refine .frz rfl hO4 (by rw[Nat.mul_one,aZ]) fun j hj h2 h'=>?_;simp only[Nat.zero_add,ints,List.getElem_map];exact .lit _
     have hne2:H.next+2≠rk:=(by omega);refine⟨⟨s2.ρ,s2.H.dB rk (H.next+2) (.arr 0 69 ((bF ns).set (v*3+1) (af l)))⟩,dv.dB aV hFz.2.2 hne2 (by simp) (EA (D1 ns) hfz),Nat.le_refl _,trivial,?_⟩;obtain⟨Hm,hHm⟩:∃ Hm,Hm=s2.H.dB rk (H.next+2) (.arr 0 69 ((bF ns).set (v*3+1) (af l))):=⟨_,rfl⟩
     rw[<- hHm];have hFm:kS Hz Hm (H.next+2) ((bF ns).set (v*3+1) (af l)):=by
      rw[hHm];exact⟨hFz1,fun id h1 h2=>(pO (by omega) h2).trans (hFz.2.1 id h1 h2),rI hne2⟩
     clear hFz hOz hfz hHm hne2 hrk;simp only[go_sem];refine W.env fun E6 hE6=>?_;have y1:E6 1=.ptr H.next 0 0:=(by rw[hE6];simp only[go_sem,a1]);have y2:E6 2=.ptr (H.next+1) 0 0:=(by rw[hE6];simp only[go_sem,a2]);have y3:E6 3=aa n:=(by rw[hE6];simp only[go_sem,a3]);have y4:E6 4=.ptr (H.next+3) 0 0:=(by rw[hE6];simp only[go_sem,a4]);have y5:E6 5=af P:=(by rw[hE6];simp only[go_sem,a5]);have y10:E6 10=aa i:=(by rw[hE6];simp only[go_sem,a10]);have y11:E6 11=.ptr Hy.next 0 0:=(by rw[hE6];simp only[go_sem,a11]);have y12:E6 12=aa v:=(by rw[hE6];simp only[go_sem,a12]);have y15:E6 15=aa 0:=(by rw[hE6];simp only[go_sem]);clear hE6 a1 a2 a3 a4 a5 a10 a11 a12;have lsm:eJ (aY cs l):=pI (by rw[ja];have:=hL.p3;omega) fun c hc=>by
      unfold aY at hc;obtain⟨q,hq,rfl⟩:=List.mem_map.1 hc;have hqr:=hL.rng q hq;obtain⟨c,hc⟩:=get_of_lt (l:=cs) (i:=q.toNat) (by rw[csl];rcases hqr.2 with h|⟨_,k',h,_⟩<;>omega);rw[bJ hc];have:=hc23 c (List.mem_of_getElem? hc);omega
     have lpos:0<aC (aY cs l)/\aC (aY cs l)<=27:=by
      have c3:∀ c∈aY cs l,1<=c/\c<=3:=fun c hc=>by
       unfold aY at hc;obtain⟨q,hq,rfl⟩:=List.mem_map.1 hc;have hqr:=hL.rng q hq;obtain⟨c,hc⟩:=get_of_lt (l:=cs) (i:=q.toNat) (by rw[csl];rcases hqr.2 with h|⟨_,k',h,_⟩<;>omega);rw[bJ hc];have:=hc23 c (List.mem_of_getElem? hc);omega
      have h1:=kP fun c hc=>(c3 c hc).1;have h2:=(nk (b:=3) (by omega) fun c hc=>⟨by have:=(c3 c hc).1;omega,(c3 c hc).2⟩).2;have h3:(3:Int) ^ (aY cs l).length<=3 ^ 3:=by
       have:(3:Nat) ^ (aY cs l).length<=3 ^ 3:=Nat.pow_le_pow_right (by decide) (by rw[ja];exact hL.p3)
       exact_mod_cast this
      omega
     obtain⟨R,hR⟩:=Int.eq_ofNat_of_zero_le (show 0<=aC (aY cs l) by omega);have hxc:2<=x.card/\x.card<=3:=hc23 x.card (by rw[<- L.cards];exact List.mem_of_getElem? (cS hx));have hFm1:=hFm.1;have w3:Hm.get (H.next+3)=some (.arr 0 35 [.lit (.int .i64 g),.own (H.next+2) 0 0 n 3]):=(hFm.2.1 _ (by omega) (by omega)).trans z3;have wP:Hm.get Hy.next=some (.arr 0 86 [.lit (.int .u8 pc),.lit (.int .u8 par),wv]):=(hFm.2.1 _ (by omega) (by omega)).trans zP;obtain⟨C1,hC1⟩:∃ C1,C1=(bF ns).set (v*3+1) (af l):=⟨_,rfl⟩
     have c1l:C1.length=ns.length*3:=(by rw[hC1,List.length_set,hzl]);have hcx2:C1[v*3+2]?=some (.lit (.slice none 0 0)):=by
      have:=ke (f:=NodeP.cq) (z:=3) jA ns v 2 x hx (by omega);rw[hC1,List.getElem?_set_ne (by omega),show (bF ns)[v*3+2]?=_ from this];unfold NodeP.cq;rw[if_pos xr];rfl
     have hcx0:C1[v*3]?=some (aa x.card):=(by rw[hC1,List.getElem?_set_ne (by omega)];exact DZ hx);rw[<- hC1]at hFm;have hset2:∀ rv rv',setAt (C1.set (v*3+2) rv) (v*3+2) [rv']=C1.set (v*3+2) rv':=fun rv rv'=>by rw[iI (by rw[List.length_set];omega),List.set_set]
     have hgc2:∀ rv,(C1.set (v*3+2) rv)[v*3+2]?=some rv:=fun rv=>List.getElem?_set_self (by omega);have hgc0:∀ rv,(C1.set (v*3+2) rv)[v*3]?=some (aa x.card):=fun rv=>by rw[List.getElem?_set_ne (by omega)];exact hcx0
     refine W.rJ (Q':=fun e s2=>e=.exit 8/\∃ (rv:AVal) (rows:List (List Int)),s2.ρ 1=.ptr H.next 0 0/\s2.ρ 2=.ptr (H.next+1) 0 0/\s2.ρ 3=aa n/\s2.ρ 4=.ptr (H.next+3) 0 0/\s2.ρ 5=af P/\s2.ρ 10=aa i/\rows.length=R/\(∀ r∈rows,jE g x.card r)/\kS Hm s2.H (H.next+2) (C1.set (v*3+2) rv)/\aB Hm.next s2.H 39 rv (rows.map af)) ?_ ?_
     ·refine W.aI 98079714615372285444537148491336716315054007096738611200 (by rfl) (fun ρ Hr=>∃ (r:Nat) (rv:AVal) (rows:List (List Int)),ρ 15=aa r/\r<=R/\rows.length=r/\(∀ r∈rows,jE g x.card r)/\kS Hm Hr (H.next+2) (C1.set (v*3+2) rv)/\aB Hm.next Hr 39 rv (rows.map af)) (fun ρ H=>R - (iv (ρ 15)).toNat) ?_ ?_
      ·simp only[go_sem,y15];refine⟨0,.lit (.slice none 0 0),[],rfl,by omega,rfl,by simp,⟨Nat.le_refl _,fun _ _ _=>rfl,?_⟩,.nil⟩;rw[hFm.2.2,nA hcx2]
      rintro ρr Hr ⟨r,rv,rows,h15,hr,hrl,hrows,hFr,hOr⟩;refine W.env fun E7 hE7=>?_;have b1:E7 1=.ptr H.next 0 0:=(by rw[hE7];simp only[go_sem,y1]);have b2:E7 2=.ptr (H.next+1) 0 0:=(by rw[hE7];simp only[go_sem,y2]);have b3:E7 3=aa n:=(by rw[hE7];simp only[go_sem,y3]);have b4:E7 4=.ptr (H.next+3) 0 0:=(by rw[hE7];simp only[go_sem,y4]);have b5:E7 5=af P:=(by rw[hE7];simp only[go_sem,y5]);have b10:E7 10=aa i:=(by rw[hE7];simp only[go_sem,y10]);have b11:E7 11=.ptr Hy.next 0 0:=(by rw[hE7];simp only[go_sem,y11]);have b12:E7 12=aa v:=(by rw[hE7];simp only[go_sem,y12]);have b15:E7 15=aa r:=(by rw[hE7];simp only[go_sem,h15]);clear hE7;refine ab _ _ _ (by rfl) ?_;have hFr1:=hFr.1;have v3:=ak ((hFr.2.1 (H.next+3) (by omega) (by omega)).trans w3);have vP:=ak ((hFr.2.1 Hy.next (by omega) (by omega)).trans wP);have vN:=ak hFr.2.2;have hzp:∀ z∈ns,z.rows=[]->z.parents=[]:=fun z hz hz0=>by
       obtain⟨u,hu⟩:=List.mem_iff_getElem?.1 hz;have hm:=uI ord n u (by have:=get_lt hu;omega);rw[<- hP]at hm;obtain⟨j,hj⟩:=List.mem_iff_getElem?.1 hm;rcases Nat.lt_or_ge j i with h|h
       ·exact absurd hz0 (L.done j u z h hj hu).ne
       ·exact(L.todo j u z h hj hu).2
      have hcard:au (ns.set v ⟨x.card,l,rows⟩)=cs:=by
       have h1:au (ns.set v ⟨x.card,l,rows⟩)=(au ns).set v x.card:=(by unfold au;rw[List.map_set]);rw[h1,nA (cS hx),L.cards]
      have hpar:aX (ns.set v ⟨x.card,l,rows⟩) ⟨x.card,l,rows⟩=aY cs l:=(by unfold aX;rw[hcard]);have fzN:Fz (fun _=>True) Hr 0 (.agg [aa g,.own (H.next+2) 0 0 n 3]) (aO g (ns.set v ⟨x.card,l,rows⟩)):=by
       refine .agg rfl fun i hi _=>?_
       match i,hi with
       | 0,_=>exact .lit _
       | 1,_ =>
        show Fz _ _ _ _ (.vec (ns.set v ⟨x.card,l,rows⟩).length (ar (ns.set v ⟨x.card,l,rows⟩)));rw[List.length_set,hnl,QR (y:=⟨x.card,l,rows⟩) hx rfl];refine .frz trivial hFr.2.2 (by rw[List.length_set,List.length_set,fD];omega) fun j hj h2 h'=>?_;simp only[Nat.zero_add];refine D0 (A:=C1) (B:=(ar ns).set (v*3+1) (af l)) ?_ ?_ j _ _
        ·rw[hC1];exact D0 (QQ ns hzp) (.dJ _)
        ·have:=hOr.fz (S:=fun _=>True) (nx:=0) (cs':=rows.map af) (fun _ _=>trivial) rfl fun i hi _=>by simp only[List.getElem_map];exact .dJ _
         rw[List.length_map]at this;exact this
      simp only[go_sem,b4,b12,b15,v3];refine aw.clo ((ae.frame (H:=Hr) (args:=[.agg [aa g,.own (H.next+2) 0 0 n 3],aa v]) (args':=[aO g (ns.set v ⟨x.card,l,rows⟩),aa v]) (v':=af (aY cs l)) aV rfl (fun i hi _=>?_) (QU g (ns.set v ⟨x.card,l,rows⟩) v ⟨x.card,l,rows⟩ (List.getElem?_set_self hvn) (by rw[List.length_set];omega) (by show (l.length:Int)<_;have:=hL.p3;omega) (fun q hq=>by
        have hqr:=hL.rng q hq;rw[List.length_set];rcases hqr.2 with h|⟨_,k',h,_⟩<;>omega) cJ _ fun w Hq _ ho=>⟨_,rfl,by rw[hpar]at ho;exact ho.rE⟩)).mono fun r1 H1' hr1=>?_)
      ·match i,hi with
       | 0,_=>exact fzN
       | 1,_=>exact .lit _
      obtain⟨rfl,rfl⟩:=hr1;refine⟨trivial,?_⟩;simp only[go_sem];refine aw.clo (zc (aY cs l) lsm _ _ ⟨trivial,?_⟩);rw[hR];by_cases hrR:(r:Int)<R
      ·simp only[go_sem,hrR];obtain⟨xn,hxn⟩:=Int.eq_ofNat_of_zero_le (show 0<=x.card by omega);have rc:0<=(r:Int)*(x.card+1)/\(r:Int)*(x.card+1)<=27*4:=⟨Int.mul_nonneg (by omega) (by omega),Int.mul_le_mul (by omega) (by omega) (by omega) (by omega)⟩
       have c1:=IntWalk.i64_in (x.card+1) (by omega);have c2:=IntWalk.i64_in ((r:Int)*(x.card+1)) (by omega);have c3:=IntWalk.i64_in ((r:Int)+1) (by omega);have hg2:=hgc2 rv;have hg0':=hgc0 rv;have hg2n:=aN hg2;obtain⟨row,hrow⟩:∃ row,row=pD g xn bs ((r:Int)*(x.card+1)):=⟨_,rfl⟩
       have hrok:jE g x.card row:=(by rw[hrow,hxn];exact QM hg1.1 (by omega) _ _);have hpc84:∀ Hq,dx Try.prog G0 (.clo 38 [] []) [aa g,aa x.card,wv,aa ((r:Int)*(x.card+1))] Hq (af row) []:=fun Hq=>by
        refine dx.mk (fun i hi=>by cases hi) fun H2 _ _=>?_;refine ae.frame (H:=H2) (args:=[aa g,aa x.card,wv,aa ((r:Int)*(x.card+1))]) (args':=[aa g,aa xn,.vec bs.length (bA bs),aa ((r:Int)*(x.card+1))]) (v':=af row) aV rfl (fun i hi _=>?_) (QN g xn hg1 (by omega) bs hbl hbs _ (by omega) cJ _ fun w Hw _ ho=>⟨_,rfl,by rw[hrow];exact ho.rE⟩)
        match i,hi with
        | 0,_=>exact .lit _
        | 1,_=>rw[hxn];exact .lit _
        | 2,_=>exact hwf _
        | 3,_=>exact .lit _
       obtain⟨rv',Hj,hA,hO',hn',hpr'⟩:=jm (P:=Try.prog) (H:=H1') (t:=40) (x:=af row) (n:=H1'.next+1) Try.underlying40 Try.pg Try.pj rfl (by rw[Try.ph,List.length_map];omega) hOr hFr1 rfl;have keep:∀ id,id<Hm.next->Hj.get id=H1'.get id:=fun id h=>hpr' id (by omega) (hOr.ne h);have v3j:=ak ((keep _ (by omega)).trans ((hFr.2.1 (H.next+3) (by omega) (by omega)).trans w3));have vNj:=ak ((keep _ (by omega)).trans hFr.2.2);have hA':bG Try.prog (ext H1' [.arr 0 39 [.vec row.length (ints row)]]) (H1'.next+1) 40 40 rv (.own H1'.next 0 0 1 1)=some (rv',Hj):=hA;refine W.draw 31 [0,1,0,0,8,0,56,120,248,0,512,0,2048,0,14336,30720,63488,0,131072,0,0,1048576,0,7340032,15728640,32505856,66060288,133693440,268434944,536870400,1073741816] Try.mixed (by kernel_rfl) (by kernel_rfl) ?_;simp only[go_sem,b4,b11,b12,b15,v3,vP,vN,hg2,hg0',vlt,v0,c1,c2];refine⟨af row,[],hpc84 _,?_⟩;simp only[go_sem,b4,b11,b12,b15,vNj,vlt,v0,c3,hA'];have hdj:lj (if jM rv=true then { eff:=aH rv,rs:=aH rv++[H1'.next] } else { eff:=[H1'.next+1],rs:=[H1'.next] }) { eff:=[],rs:=[H.next+3] }:=by
        rcases hOr with ⟨hO1,_⟩|⟨id,gg,hO1,hO2,hO3,_⟩
        ·rw[hO1];show lj { eff:=[H1'.next+1],rs:=[H1'.next] } _;exact⟨fun a ha=>by (obtain rfl:a=H1'.next+1:=by simpa using ha);simp;omega,fun a ha=>by simp at ha⟩
        ·rw[hO3];show lj { eff:=[id],rs:=[id]++[H1'.next] } _;exact⟨fun a ha=>by (obtain rfl:a=id:=by simpa using ha);simp;omega,fun a ha=>by simp at ha⟩
       rw[hO'.cells];refine⟨⟨by omega,by omega,by omega,by omega,by omega,by omega,by omega⟩,⟨hdj,hdj⟩,⟨rfl,by simp [hO'.one],by rw[List.length_set,c1l];simp;omega⟩,by rw[aA];omega,⟨r+1,rv',rows++[row],rfl,by omega,by simp [hrl],fun q hq=>?_,⟨by rw[aA];omega,fun id h1 h2=>by rw[ag,if_neg h2,keep _ h1];exact hFr.2.1 id h1 h2,?_⟩,?_⟩,by rw[h15];simp only[aa,aM];omega⟩
       ·rcases List.mem_append.1 hq with h|h
        ·exact hrows q h
        ·obtain rfl:=List.mem_singleton.1 h;exact hrok
       ·rw[ag,if_pos rfl,hset2]
       ·have:=hO'.keep (lo':=Hm.next) (H':=Hj.upd (H.next+2) (.arr 0 69 (setAt (C1.set (v*3+2) rv) (v*3+2) [rv']))) (Nat.le_refl _) (Nat.le_refl _) fun id _ h1 _ _ _=>by rw[ag,if_neg (by omega)]
        simpa using this
      ·simp only[go_sem,b1,b2,b3,b4,b5,b10,hrR];exact⟨rv,rows,by omega,hrows,hFr,hOr⟩
     ·rintro e s3 ⟨rfl,rv,rows,a1,a2,a3,a4,a5,a10,hrl,hrows,hFr,hOr⟩;have hFr1:=hFr.1;obtain⟨rk,hrk,hfz⟩:∃ rk,Hm.next<=rk/\Fz (fun id=>id=rk) s3.H s3.H.next rv (aE rows):=by
       rcases hOr with ⟨hO1,hO2⟩|⟨id,gg,hO1,hO2,hO3,hO4⟩
       ·have:rows=[]:=by cases rows with
         | nil=>rfl
         | cons b l=>simp at hO2
        rw[hO1,this];exact⟨s3.H.next,hFr1,.nil⟩
       ·refine⟨id,hO1,?_⟩;rw[hO3,List.length_map];refine .frz rfl hO4 (by rw[Nat.mul_one,List.length_map]) fun j hj h2 h'=>?_;simp only[Nat.zero_add,List.getElem_map];exact .dJ _
      have hne2:H.next+2≠rk:=(by omega);have hC1z:∀ c∈C1,Fz (fun id=>id=rk) s3.H s3.H.next c c:=fun c hc=>by
       rw[hC1]at hc;rcases List.mem_or_eq_of_mem_set hc with h|h
       ·exact D1 ns c h
       ·rw[h];exact .dJ _
      refine⟨⟨s3.ρ,s3.H.dB rk (H.next+2) (.arr 0 69 (C1.set (v*3+2) (aE rows)))⟩,dv.dB aV hFr.2.2 hne2 (by simp) (EA hC1z hfz),Nat.le_refl _,trivial,?_⟩;obtain⟨He,hHe⟩:∃ He,He=s3.H.dB rk (H.next+2) (.arr 0 69 (C1.set (v*3+2) (aE rows))):=⟨_,rfl⟩
      rw[<- hHe];have hFe:kS Hm He (H.next+2) (C1.set (v*3+2) (aE rows)):=by
       rw[hHe];exact⟨hFr1,fun id h1 h2=>(pO (by omega) h2).trans (hFr.2.1 id h1 h2),rI hne2⟩
      clear hFr hOr hfz hHe hne2 hrk;have hFe1:=hFe.1;have i1:=IntWalk.i64_in ((i:Int)+1) (by omega);simp only[go_sem,a10,i1];have hiv:∀ j u:Nat,P[j]?=some (u:Int)->u=v->j=i:=fun j u h1 h2=>by
       subst h2;exact(List.getElem?_inj (get_lt h1) hperm.nd).1 (by rw[h1,hpv])
      have hrne:rows≠[]:=fun h=>by rw[h]at hrl;simp at hrl;omega
      have hdone:DoneN g cs P n i ⟨x.card,l,rows⟩:=⟨⟨hL.pw,fun q hq=>⟨(hL.rng q hq).1,by rcases(hL.rng q hq).2 with h|⟨_,k',h,_⟩<;>omega⟩⟩,hL.p3,hL.rk,by show (rows.length:Int)=_;rw[hrl,hR],hrows,hrne⟩
      refine⟨by omega,⟨i+1,ns.set v ⟨x.card,l,rows⟩,rfl,by omega,⟨by rw[List.length_set];exact hnl,?_,fun j u z hj hu hz=>?_,fun j u z hj hu hz=>?_⟩,by omega,by omega,fun id h1 h2=>?_,?_⟩,by rw[h10];simp only[aa,aM];omega⟩
      ·have h1:au (ns.set v ⟨x.card,l,rows⟩)=(au ns).set v x.card:=(by unfold au;rw[List.map_set]);rw[h1,nA (cS hx),L.cards]
      ·have huv:¬ u=v:=fun h=>by have:=hiv j u hu h;omega
       rw[List.getElem?_set_ne (by omega)]at hz;exact L.todo j u z (by omega) hu hz
      ·by_cases huv:u=v
       ·obtain rfl:=hiv j u hu huv;rw[huv,List.getElem?_set_self hvn]at hz;cases hz;exact hdone
       ·rw[List.getElem?_set_ne (by omega)]at hz;have:j≠i:=fun h=>by
         rw[h,hpv]at hu;exact huv (by have:=Option.some.inj hu;omega)
        exact L.done j u z (by omega) hu hz
      ·rw[hFe.2.1 id (by omega) h2,hFm.2.1 id (by omega) h2];exact zO id h1 h2
      ·rw[hFe.2.2,QX (y:=⟨x.card,l,rows⟩) hx rfl hrne,hC1]
  ·obtain rfl:i=n:=(by omega);simp only[go_sem,e2,e3,e4,e10,hb,m1,m3];have hnl:=L.len;have hall:∀ v:Nat,v<ns.length->(v:Int)∈P:=fun v hv=>by rw[hP];exact uI ord i v (by omega)
   have hdn:∀ (v:Nat) (x:NodeP),ns[v]?=some x->∃ j,DoneN g cs P i j x:=fun v x hx=>by
    obtain⟨j,hj⟩:=List.mem_iff_getElem?.1 (hall v (get_lt hx));exact⟨j,L.done j v x (by have:=get_lt hj;have:=hperm.len;omega) hj hx⟩
   have hdm:∀ x∈ns,∃ j,DoneN g cs P i j x:=fun x hx=>by
    obtain⟨v,hv⟩:=List.mem_iff_getElem?.1 hx;exact hdn v x hv
   have ov:Over H (Hy.upd (H.next+1) (.arr 0 35 [.lit (.int .i64 g),.own (H.next+2) 0 0 i 3])):=⟨by rw[aA];omega,fun id h=>by rw[ag,if_neg (by omega),hF.2.1 id (by omega) (by omega)];exact o1.old id h⟩
   have hz:bF ns=ar ns:=QO fun x hx=>(hdm x hx).elim fun j hj=>hj.ne;have hcl8:∀ x∈ns,2<=x.card/\x.card<=3:=fun x hx=>hc23 x.card (by rw[<- L.cards];exact List.mem_map.2 ⟨x,hx,rfl⟩);have hnet:NetOk g ns:=by
    refine⟨hg1,by omega,fun x hx=>?_,?_,QV (P:=P) (by rw[hnl];exact hperm) hall fun j v x hj hx q hq=>?_,fun x hx=>?_⟩
    ·obtain⟨j,hj⟩:=hdm x hx;have:=hcl8 x hx;exact⟨by omega,by rw[hnl];exact hj.pl⟩
    ·have h2:=(nk (b:=3) (by omega) (l:=au ns) fun c hc=>by have:=hc23 c (by rw[<- L.cards];exact hc);omega).2;have h3:(3:Int) ^ (au ns).length<=3 ^ 5:=by
      have:(3:Nat) ^ (au ns).length<=3 ^ 5:=Nat.pow_le_pow_right (by decide) (by rw[cG];omega)
      exact_mod_cast this
     omega
    ·have hd:=L.done j v x (by have:=get_lt hj;have:=hperm.len;omega) hj hx;exact⟨(hd.pl.2 q hq).1,hd.rk q hq⟩
    ·obtain⟨j,hj⟩:=hdm x hx;unfold iH aX;rw[L.cards];exact⟨hj.rl,hj.ro⟩
   rw[<- hnl];rw[<- hnl]at ov;refine av.mk ov.next (hK g ns (H.next+2) _ ov (by omega) (by rw[aA];omega) ?_ hnet (by omega) (fun x hx=>?_) fun x hx=>?_)
   ·rw[ag,if_neg (by omega),hF.2.2,hz]
   ·obtain⟨j,hj⟩:=hdm x hx;exact hj.p3
   ·have:=hc23 x.card (by rw[<- L.cards];unfold au;exact List.mem_map_of_mem hx);omega
def ED (args:Array Value):Sem Value:=do
  let (x, y, c) ← Extern.MathBitsCarry.three "Add64" args
  pure (Extern.MathBitsCarry.pair ((x+y+c) % Extern.MathBitsCarry.m64) ((x+y+c) / Extern.MathBitsCarry.m64))
def dy:List AVal->Option AVal
  | [.lit (.int .u64 a),.lit (.int .u64 b),.lit (.int .u64 c)]=>bif Nat.ble c.toNat 1 then some (.tup [.lit (.int .u64 (Int.ofNat ((a.toNat+b.toNat+c.toNat) % 18446744073709551616))),.lit (.int .u64 (Int.ofNat ((a.toNat+b.toNat+c.toNat) / 18446744073709551616)))]) else none
  | _=>none
theorem Sj {P:Program}(a b:Nat)(Γ:az)(H:AHeap)(w:World):RelV P Γ H w (.tup [.lit (.int .u64 (Int.ofNat a)),.lit (.int .u64 (Int.ofNat b))]) (Extern.MathBitsCarry.pair a b):=by
  unfold Extern.MathBitsCarry.pair;refine RelV.tup (cs:=[.int .u64 (Int.ofNat a),.int .u64 (Int.ofNat b)]) rfl fun i h _=>?_
  match i,h with
  | 0,_=>exact .lit _
  | 1,_=>exact .lit _
theorem Sk {P:Program}(s:String)(w:World)(a b c:Int)(hc:¬ c.toNat > 1):(Extern.MathBitsCarry.three s #[.int .u64 a,.int .u64 b,.int .u64 c]).run P w=.ok (a.toNat,b.toNat,c.toNat) w:=by
  have h1:∀ x:Int,(asInt (.int .u64 x)).run P w=.ok x w:=fun x=>rfl;show (do
    let c:=(<- asInt (.int .u64 c)).toNat
    if c > 1 then unsupported _
    pure ((<- asInt (.int .u64 a)).toNat,(<- asInt (.int .u64 b)).toNat,c):Sem (Nat × Nat × Nat)).run P w=_
  rw[ao (h1 c)];simp only[hc,if_false];rfl
theorem EF {a b c:Int}{r:AVal}(h:dy [.lit (.int .u64 a),.lit (.int .u64 b),.lit (.int .u64 c)]=some r){H:AHeap}{K:ARes->AHeap->Prop}(hK:K (.ret r) H):aw Try.prog qS (.clo 78 [] []) [.lit (.int .u64 a),.lit (.int .u64 b),.lit (.int .u64 c)] H K:=by
  simp only[dy]at h;cases hb:Nat.ble c.toNat 1 with
  | false=>rw[hb]at h;cases h
  | true =>
    rw[hb]at h;have hc:¬ c.toNat > 1:=(by have:=Nat.le_of_ble_eq_true hb;omega);cases h;refine aw.ext (e:=ED) (vs:=[.int .u64 a,.int .u64 b,.int .u64 c]) Try.func78 rfl (by kernel_rfl) (by kernel_rfl) (by kernel_rfl) rfl (fun w=>?_) (fun Γ H w=>Sj _ _ Γ H w) hK;unfold ED;rw[ao (Sk _ w a b c hc)];rfl
theorem Sl:∀ {args:List AVal} {r:AVal},dy args=some r->∃ a b c,args=[.lit (.int .u64 a),.lit (.int .u64 b),.lit (.int .u64 c)]:=by
  intro args r h;unfold dy at h;split at h
  · exact⟨_,_,_,rfl⟩
  · cases h
def zm:FuncId->Option (List AVal->Option AVal):=fun f=>bif Nat.beq f 78 then some dy else none
theorem Sm {E:EP}(hP:E.P=Try.prog)(hG:E.G=qS)(hx:E.ext=zm):oQ E:=by
  intro f e h args r hr H K hK;rw[hx]at h;rw[hP,hG];unfold zm at h;cases h1:Nat.beq f 78 with
  | true =>
    rw[h1]at h;have e1:=Nat.eq_of_beq_eq_true h1;subst e1;cases h;obtain⟨a,b,c,rfl⟩:=Sl hr;exact EF hr hK
  | false=>rw[h1]at h;cases h
noncomputable def Try.EG:EP:={ P:=Try.prog,G:=G0,gd:=fun _=>none,known:=tV [],ext:=zm }
theorem Try.So:EOk Try.EG:=.Mr (l:=[]) rfl aV Try.mixed (fun _ _ h=>by cases h) trivial (Sm rfl rfl rfl)
theorem Try.Sp:xO Try.EG 1000000 17 [] (.lit (.bool true))=true:=by kernel_rfl
theorem Sq (H:AHeap)(K:ARes->AHeap->Prop)(hK:K (.ret (.lit (.bool true))) H):ae Try.prog G0 17 [] H K :=
 (ae.frame (args':=[]) aV rfl (fun i h _=>absurd h (Nat.not_lt_zero _)) (Ms Try.So Try.Sp)).mono fun r H' ⟨h1,h2⟩=>by rw[h1,h2];exact hK
end Go.Proofs
namespace Go.Hx
variable {P:Program} {G:Nat->Option (List AVal)}
theorem Sn {H:AHeap}(hc:Clo H):FzH (fun _=>False) H H where
 gone id hs:=hs.elim
 kept id b _ hb:=by
  have hbb:=hc.below id b hb;refine⟨hc.lt id b hb,b,hb,?_⟩;cases b with
  | rsv=>trivial
  | mp=>rfl
  | arr g e cells=>exact⟨rfl,rfl,rfl,fun i h _=>.dead (hbb i h)⟩
  | loop st pend n env ps asg body=>exact⟨rfl,rfl,rfl,rfl,rfl,rfl,rfl,fun t ht=>.dead (hbb t ht)⟩
 none id _ hb:=hb
theorem ae.rK {H:AHeap}{f:FuncId}{args args':List AVal}{K:ARes->AHeap->Prop}(hG:eW G)(hl:args'.length=args.length)(hv:∀ i (h:i<args.length) (h':i<args'.length),Fz (fun _=>False) H H.next args[i] args'[i])
  (h:ae P G f args' H K):ae P G f args H K:=by
 refine⟨h.1,fun Γ w cargs R hr=>?_⟩;have F:=Sn R.clo;have R0:=F.rel hG R;have E0:Evo Γ H w (eN (fun _=>False) Γ) H w:=F.aR;refine(h.2 _ w cargs R0 ⟨by have:=hr.1;omega,fun i h1 h2=>(hv i (by omega) h1).sound R F (hr.2 i (by omega) h2)⟩).mono ?_;rintro e w' ⟨r,H',Γ',h1,h2,h3,h4,h5⟩;exact⟨r,H',Γ',h1,h2,h3,E0.trans (Nat.le_refl _) h4,h5⟩
end Go.Hx
namespace Go.Proofs
open Go.Hx
theorem Nt {S:Nat->Prop}{H:AHeap}{nx:Nat}(l:List NodeP):∀ c∈ar l,Fz S H nx c c:=by
 intro c hc;unfold ar at hc;obtain⟨r,hr,hc⟩:=List.mem_flatten.1 hc;obtain⟨x,_,rfl⟩:=List.mem_map.1 hr;unfold NodeP.cells at hc;simp only[List.mem_cons,List.not_mem_nil,or_false]at hc;rcases hc with rfl|rfl|rfl
 ·exact .lit _
 ·exact .dJ _
 ·exact pE _
def qY (g0:Int)(ps:List DrP)(ord:List Int)(cw ca cr cn:Int)(ws ms:List Int)(bw ba bn:Int):List AVal :=
 [.lit (.int .u8 g0),.vec ps.length (fg ps),.vec ord.length (bA ord),.lit (.int .u8 cw),.lit (.int .u8 ca),.lit (.int .u8 cr),.lit (.int .i64 cn),.vec ws.length (jv ws),.vec ms.length (bA ms),.lit (.int .u8 bw),.lit (.int .u8 ba),.lit (.int .i64 bn)]
theorem Nu {g:Int}{ns:List NodeP}(hok:NetOk g ns)(hp3:∀ x∈ns,x.parents.length<=3):SmallN 600 ns:=by
 have nn8:=hok.n1.2;refine⟨by omega,fun x hx=>?_⟩;have hx3:=hp3 x hx;have hrow:=hok.rows x hx;have hin:iG x.parents ns.length:=fun q hq=>by have:=(hok.node x hx).2.2 q hq;omega
 have hpc:=Em hin fun y hy=>(hok.node y hy).1;have hpl3:(aX ns x).length<=3:=by rw[show (aX ns x).length=_ from ja _ _];exact hx3
 have hp:=nk (b:=4) (by omega) (l:=aX ns x) fun c hc=>by have:=hpc c hc;omega
 have h4:(4:Nat) ^ (aX ns x).length<=4 ^ 3:=Nat.pow_le_pow_right (by decide) hpl3;have h5:((4:Int) ^ (aX ns x).length)<=4 ^ 3:=by exact_mod_cast h4
 have h6:(4:Int) ^ 3=64:=by decide
 have hcard:=(hok.node x hx).1;exact⟨by omega,by have:=hrow.1;omega,fun r hr=>by have:=(hrow.2 r hr).1;exact⟨fun e=>by rw[e]at this;simp at this;omega,by omega⟩⟩
structure StoryP where
 g0:Int
 ps:List DrP
 ord:List Int
 cw:Int
 ca:Int
 cr:Int
 cn:Int
 ws:List Int
 ms:List Int
 bw:Int
 ba:Int
 bn:Int
def StoryP.cells (s:StoryP):List AVal:=qY s.g0 s.ps s.ord s.cw s.ca s.cr s.cn s.ws s.ms s.bw s.ba s.bn
structure StoryP.Ok (s:StoryP):Prop where
 g:U8 s.g0
 p:∀ x∈s.ps,x.Ok
 pl:(s.ps.length:Int)<2 ^ 63
 ol:(s.ord.length:Int)<2 ^ 63
 o8:∀ x∈s.ord,U8 x
 cw:U8 s.cw
 ca:U8 s.ca
 cr:U8 s.cr
 ws:∀ x∈s.ws,0<=x/\x<65536
 ms:∀ x∈s.ms,0<=x/\x<256
 wl:(s.ws.length:Int)<2 ^ 63
 ml:(s.ms.length:Int)<2 ^ 63
 bw:U8 s.bw
 ba:U8 s.ba
end Go.Proofs
namespace Go.Proofs.Ytakancljiekbhaa
open Go.ChangeShapes Go.WideShapes Go.ChangeAt Go.RowKit Go.Hx
theorem Try.own:ownKnob Try.prog.godebug=none:=by kernel_rfl
theorem Try.laidOut:laidOutB Try.prog=true:=by kernel_rfl
theorem Try.Oz:Try.prog.underlying 4=some .bool:=by kernel_rfl
section
variable {W:World} {H:Type} {enc:TypeId × Value->H} {spare:Nat->Bool} {held:Bool}
theorem rp {n:Nat}(h:n<=maxLen):(n:Int)<2 ^ 63:=by
 have:maxLen=9223372036854775807:=by decide
 omega
theorem kK {n:Int}(h:(Lit.int .u8 n).wf=true):U8 n:=by
 have:=wf_u8 h;unfold U8;omega
theorem OA {n:Int}(h:(Lit.int .u16 n).wf=true):0<=n/\n<65536:=by
 have:0<=n/\n<=65535:=by simpa [Lit.wf,IntKind.min,IntKind.max,IntKind.signed,IntKind.bits] using h
 omega
theorem OB:fq enc Try.prog W spare held 86 fun _ zs=>∃ x:DrP,zs=x.cells/\x.Ok:=by
 have hu:=Try.underlying86;have c1:=Try.pf;have c2:=Try.uw;refine(qo (φ:=fun i _ xs=>if i=2 then ∃ l:List Int,xs=[.vec l.length (qp .u8 l)]/\l.length<=maxLen/\∀ c,c∈l->(Lit.int .u8 c).wf=true else ∃ n,xs=[.lit (.int .u8 n)]/\(Lit.int .u8 n).wf=true) hu
  (fun cs hcs=>by
   have hc:Try.prog.cellsOf 86=3:=(by kernel_rfl);rw[hc]at hcs
   match cs,hcs with
   | [a,b,c],_=>simp [c1,c2])
  (fun i hi=>match i,hi with
   | 0,_=>(jj Try.underlying5).mono fun _ _ ⟨n,_,h,w⟩=>⟨n,h,w⟩
   | 1,_=>(jj Try.underlying5).mono fun _ _ ⟨n,_,h,w⟩=>⟨n,h,w⟩
   | 2,_=>(sd Try.underlying23 Try.underlying5 c1).mono fun _ _ h=>h)).mono fun d zs ⟨ds,rows,_,e,hl1,hl2,hall⟩=>?_
 match rows,ds,hl2,hl1,hall with
 | [x,y,z],[d0,d1,d2],_,_,hall =>
  obtain⟨n0,e0,w0⟩:=hall 0 (by simp) (by simp);obtain⟨n1,e1,w1⟩:=hall 1 (by simp) (by simp);obtain⟨l,e2,w2,w3⟩:=hall 2 (by simp) (by simp);simp only[List.getElem_cons_zero,List.getElem_cons_succ]at e0 e1 e2;subst e0;subst e1;subst e2;refine⟨⟨n0,n1,l⟩,by rw[e];rfl,?_⟩;exact⟨kK w0,kK w1,rp w2,fun c hc=>kK (w3 c hc)⟩
theorem OC {α:Type}{t e:TypeId}{f:α->List AVal}{q:α->Prop}(ht:Try.prog.underlying t=some (.slice e))(hz:0<Try.prog.cellsOf e)(he:fq enc Try.prog W spare held e fun _ zs=>∃ x:α,zs=f x/\q x):
  fq enc Try.prog W spare held t fun _ zs=>∃ l:List α,zs=[.vec l.length (l.map f).flatten]/\l.length<=maxLen/\∀ x∈l,q x :=
 (Ao ht hz he).mono fun d zs h=>by
  rcases h with ⟨_,rfl⟩|⟨ds,rest,rows,_,rfl,hr,_,hl⟩
  ·exact⟨[],rfl,Nat.zero_le _,fun c h=>by cases h⟩
  ·obtain⟨l,rfl,hq⟩:=Ap (f:=f) (q:=q) (fun d zs h=>h) hr;exact⟨l,by rw[List.length_map],by simpa using hl,hq⟩
theorem OD:fq enc Try.prog W spare held 25 fun _ zs=>∃ (g:Int) (ps:List DrP) (ord:List Int),zs=[.lit (.int .u8 g),.vec ps.length (fg ps),.vec ord.length (bA ord)]/\U8 g/\(∀ x∈ps,x.Ok)/\(ps.length:Int)<2 ^ 63/\(ord.length:Int)<2 ^ 63/\∀ x∈ord,U8 x:=by
 have hu:=Try.underlying25;have c1:=Try.pf;have c2:=Try.uw;have c3:=Try.C4;have c4:=Try.Dd;refine(qo (φ:=fun i _ xs=>if i=2 then ∃ l:List Int,xs=[.vec l.length (qp .u8 l)]/\l.length<=maxLen/\∀ c,c∈l->(Lit.int .u8 c).wf=true else if i=1 then ∃ l:List DrP,xs=[.vec l.length (l.map DrP.cells).flatten]/\l.length<=maxLen/\∀ x∈l,x.Ok else ∃ n,xs=[.lit (.int .u8 n)]/\(Lit.int .u8 n).wf=true) hu
  (fun cs hcs=>by
   have hc:Try.prog.cellsOf 25=3:=(by kernel_rfl);rw[hc]at hcs
   match cs,hcs with
   | [a,b,c],_=>simp [c1,c2,c3])
  (fun i hi=>match i,hi with
   | 0,_=>(jj Try.underlying5).mono fun _ _ ⟨n,_,h,w⟩=>⟨n,h,w⟩
   | 1,_=>(OC Try.underlying22 (by rw[c4];decide) OB).mono fun _ _ h=>h
   | 2,_=>(sd Try.underlying23 Try.underlying5 c1).mono fun _ _ h=>h)).mono fun d zs ⟨ds,rows,_,e,hl1,hl2,hall⟩=>?_
 match rows,ds,hl2,hl1,hall with
 | [x,y,z],[d0,d1,d2],_,_,hall =>
  obtain⟨n0,e0,w0⟩:=hall 0 (by simp) (by simp);obtain⟨ps,e1,w1,w1'⟩:=hall 1 (by simp) (by simp);obtain⟨l,e2,w2,w3⟩:=hall 2 (by simp) (by simp);simp only[List.getElem_cons_zero,List.getElem_cons_succ]at e0 e1 e2;subst e0;subst e1;subst e2;exact⟨n0,ps,l,by rw[e];rfl,kK w0,w1',rp w1,rp w2,fun c hc=>kK (w3 c hc)⟩
theorem yt {n:Int}(h:(Lit.int .u8 n).wf=true):0<=n/\n<=255:=by
 have:=kK h;unfold U8 at this;omega
theorem OE:fq enc Try.prog W spare held 27 fun _ zs=>∃ w a r n:Int,zs=ui w a r n/\(0<=w/\w<=255)/\(0<=a/\a<=255)/\(0<=r/\r<=255):=by
 have hu:=Try.underlying27;have c1:=Try.pf;have c2:=Try.eZ;refine(qo (φ:=fun i _ xs=>if i=3 then ∃ n,xs=[.lit (.int .i64 n)] else ∃ n,xs=[.lit (.int .u8 n)]/\(Lit.int .u8 n).wf=true) hu
  (fun cs hcs=>by
   have hc:Try.prog.cellsOf 27=4:=(by kernel_rfl);rw[hc]at hcs
   match cs,hcs with
   | [a,b,c,d],_=>simp [c1,c2])
  (fun i hi=>match i,hi with
   | 0,_=>(jj Try.underlying5).mono fun _ _ ⟨n,_,h,w⟩=>⟨n,h,w⟩
   | 1,_=>(jj Try.underlying5).mono fun _ _ ⟨n,_,h,w⟩=>⟨n,h,w⟩
   | 2,_=>(jj Try.underlying5).mono fun _ _ ⟨n,_,h,w⟩=>⟨n,h,w⟩
   | 3,_=>(jj Try.underlying3).mono fun _ _ ⟨n,_,h,_⟩=>⟨n,h⟩)).mono fun d zs ⟨ds,rows,_,e,hl1,hl2,hall⟩=>?_
 match rows,ds,hl2,hl1,hall with
 | [x,y,z,u],[d0,d1,d2,d3],_,_,hall =>
  obtain⟨n0,e0,w0⟩:=hall 0 (by simp) (by simp);obtain⟨n1,e1,w1⟩:=hall 1 (by simp) (by simp);obtain⟨n2,e2,w2⟩:=hall 2 (by simp) (by simp);obtain⟨n3,e3⟩:=hall 3 (by simp) (by simp);simp only[List.getElem_cons_zero,List.getElem_cons_succ]at e0 e1 e2 e3;subst e0;subst e1;subst e2;subst e3;exact⟨n0,n1,n2,n3,by rw[e];rfl,yt w0,yt w1,yt w2⟩
theorem OF:fq enc Try.prog W spare held 30 fun _ zs=>∃ w a n:Int,zs=CT w a n/\U8 w/\U8 a:=by
 have hu:=Try.underlying30;have c1:=Try.pf;have c2:=Try.eZ;refine(qo (φ:=fun i _ xs=>if i=2 then ∃ n,xs=[.lit (.int .i64 n)] else ∃ n,xs=[.lit (.int .u8 n)]/\(Lit.int .u8 n).wf=true) hu
  (fun cs hcs=>by
   have hc:Try.prog.cellsOf 30=3:=(by kernel_rfl);rw[hc]at hcs
   match cs,hcs with
   | [a,b,c],_=>simp [c1,c2])
  (fun i hi=>match i,hi with
   | 0,_=>(jj Try.underlying5).mono fun _ _ ⟨n,_,h,w⟩=>⟨n,h,w⟩
   | 1,_=>(jj Try.underlying5).mono fun _ _ ⟨n,_,h,w⟩=>⟨n,h,w⟩
   | 2,_=>(jj Try.underlying3).mono fun _ _ ⟨n,_,h,_⟩=>⟨n,h⟩)).mono fun d zs ⟨ds,rows,_,e,hl1,hl2,hall⟩=>?_
 match rows,ds,hl2,hl1,hall with
 | [x,y,z],[d0,d1,d2],_,_,hall =>
  obtain⟨n0,e0,w0⟩:=hall 0 (by simp) (by simp);obtain⟨n1,e1,w1⟩:=hall 1 (by simp) (by simp);obtain⟨n2,e2⟩:=hall 2 (by simp) (by simp);simp only[List.getElem_cons_zero,List.getElem_cons_succ]at e0 e1 e2;subst e0;subst e1;subst e2;exact⟨n0,n1,n2,by rw[e];rfl,kK w0,kK w1⟩
theorem OG:fq enc Try.prog W spare held 32 fun _ zs=>∃ s:StoryP,zs=s.cells/\s.Ok:=by
 have hu:=Try.underlying32;have c1:=Try.C5;have c2:=Try.C6;have c3:=Try.C7;have c4:=Try.uw;have c5:=Try.C8;have c6:=Try.Dc;have c7:=Try.pf;refine(qo (φ:=fun i _ xs=>if i=0 then ∃ (g:Int) (ps:List DrP) (ord:List Int),xs=[.lit (.int .u8 g),.vec ps.length (fg ps),.vec ord.length (bA ord)]/\U8 g/\(∀ x∈ps,x.Ok)/\(ps.length:Int)<2 ^ 63/\(ord.length:Int)<2 ^ 63/\∀ x∈ord,U8 x
   else if i=1 then ∃ w a r n:Int,xs=ui w a r n/\(0<=w/\w<=255)/\(0<=a/\a<=255)/\(0<=r/\r<=255)
   else if i=2 then ∃ l:List Int,xs=[.vec l.length (qp .u16 l)]/\l.length<=maxLen/\∀ c,c∈l->(Lit.int .u16 c).wf=true
   else if i=3 then ∃ l:List Int,xs=[.vec l.length (qp .u8 l)]/\l.length<=maxLen/\∀ c,c∈l->(Lit.int .u8 c).wf=true
   else ∃ w a n:Int,xs=CT w a n/\U8 w/\U8 a) hu
  (fun cs hcs=>by
   have hc:Try.prog.cellsOf 32=12:=(by kernel_rfl);rw[hc]at hcs
   match cs,hcs with
   | [a,b,c,d,e,f,g,h,i,j,k,l],_=>simp [c1,c2,c3,c4,c5])
  (fun i hi=>match i,hi with
   | 0,_=>OD.mono fun _ _ h=>h
   | 1,_=>OE.mono fun _ _ h=>h
   | 2,_=>(sd Try.underlying28 Try.underlying81 c6).mono fun _ _ h=>h
   | 3,_=>(sd Try.underlying23 Try.underlying5 c7).mono fun _ _ h=>h
   | 4,_=>OF.mono fun _ _ h=>h)).mono fun d zs ⟨ds,rows,_,e,hl1,hl2,hall⟩=>?_
 match rows,ds,hl2,hl1,hall with
 | [x,y,z,u,w],[d0,d1,d2,d3,d4],_,_,hall =>
  obtain⟨g,ps,ord,e0,w0,wa,wb,wc,wd⟩:=hall 0 (by simp) (by simp);obtain⟨cw,ca,cr,cn,e1,w1,wf,wg⟩:=hall 1 (by simp) (by simp);obtain⟨ws,e2,w2,wh⟩:=hall 2 (by simp) (by simp);obtain⟨ms,e3,w3,wi⟩:=hall 3 (by simp) (by simp);obtain⟨bw,ba,bn,e4,w4,wj⟩:=hall 4 (by simp) (by simp);simp only[List.getElem_cons_zero,List.getElem_cons_succ]at e0 e1 e2 e3 e4;subst e0;subst e1;subst e2;subst e3;subst e4;exact⟨⟨g,ps,ord,cw,ca,cr,cn,ws,ms,bw,ba,bn⟩,by rw[e];rfl,⟨w0,wa,wb,wc,wd,(by unfold U8;omega:U8 cw),(by unfold U8;omega:U8 ca),(by unfold U8;omega:U8 cr),fun c hc=>OA (wh c hc),fun c hc=>by have:=kK (wi c hc);unfold U8 at this;exact this,rp w2,rp w3,w4,wj⟩⟩
theorem OH {r:Reach}{b:Nat}{v:Value}{d:DataW H}{ps:List MemPlace}(hval:Value.okWide Try.prog W r b 32 v)(hd:DataW.Trod enc Try.prog W 0 spare held 32 v d ps):
  ∃ x:StoryP,RelV Try.prog jG cJ W (.agg x.cells) v/\x.Ok:=by
 obtain⟨xs,h1,x,rfl,h2⟩:=F7 OG (.inl ⟨_,Try.underlying32⟩) hval hd;exact⟨x,h1,h2⟩
end
end Go.Proofs.Ytakancljiekbhaa
namespace Go.Proofs
open Go.Hx
def qZ (g:Int)(ns:List NodeP)(least:Int):Bool:=decide (∀ x∈ns,0<=least/\least<=60/\least*x.card<=g)
def kM (n:Nat):List AVal:=(List.replicate n [AVal.lit (.int .i64 0),.lit (.slice none 0 0),.lit (.slice none 0 0)]).flatten
theorem Dg (n:Nat):kM (n+1)=[AVal.lit (.int .i64 0),.lit (.slice none 0 0),.lit (.slice none 0 0)]++kM n:=by unfold kM;rw[List.replicate_succ,List.flatten_cons]
theorem Dh:∀ n:Nat,(kM n).length=n*3
 | 0=>rfl
 | n+1=>by rw[Dg,List.length_append,Dh n];simp;omega
def eu (n:Nat)(ns:List NodeP):List AVal:=ar ns++kM (n - ns.length)
theorem PQ {n:Nat}{ns:List NodeP}(h:ns.length<=n):(eu n ns).length=n*3:=by unfold eu;rw[List.length_append,fD,Dh,<- Nat.add_mul];congr 1;omega
theorem PR {n:Nat}{ns:List NodeP}{x:NodeP}(h:ns.length<n):setAt (eu n ns) (ns.length*3) x.cells=eu n (ns++[x]):=by
 obtain⟨k,hk⟩:∃ k,n - ns.length=k+1:=⟨n - ns.length - 1,by omega⟩
 have hk2:n - (ns++[x]).length=k:=by simp;omega
 have hl:=fD ns;unfold eu setAt;rw[hk,hk2,Dg,show ar (ns++[x])=ar ns++x.cells by unfold ar;simp];rw[List.take_append_of_le_length (by omega),List.take_of_length_le (by omega),List.drop_append,List.drop_of_length_le (by rw[hl];omega),List.nil_append];congr 1;rw[show ns.length*3+x.cells.length - (ar ns).length=3 by rw[hl];show ns.length*3+3 - _=3;omega];rfl
theorem ux {n:Nat}{ns:List NodeP}:∀ c∈eu n ns,∀ (S:Nat->Prop) (Hz:AHeap) (nx:Nat),Fz S Hz nx c c:=fun c hc S Hz nx=>by
 unfold eu at hc;rcases List.mem_append.1 hc with hc|hc
 ·unfold ar at hc;obtain⟨r,hr,hc⟩:=List.mem_flatten.1 hc;obtain⟨x,_,rfl⟩:=List.mem_map.1 hr;unfold NodeP.cells at hc;simp only[List.mem_cons,List.not_mem_nil,or_false]at hc;rcases hc with rfl|rfl|rfl
  ·exact .lit _
  ·exact .dJ _
  ·exact pE _
 ·unfold kM at hc;obtain⟨r,hr,hc⟩:=List.mem_flatten.1 hc;obtain rfl:=List.eq_of_mem_replicate hr;simp only[List.mem_cons,List.not_mem_nil,or_false]at hc;rcases hc with rfl|rfl|rfl<;>exact .lit _
theorem yI (ns:List NodeP):eu ns.length ns=ar ns:=by unfold eu;rw[Nat.sub_self];exact List.append_nil _
theorem Di {S:Nat->Prop}{H:AHeap}{nx:Nat}{g e:Int}{nv:AVal}{ns:List NodeP}(h:Fz S H nx nv (cM ns)):Fz S H nx (.tup [.agg [.lit (.int .i64 g),nv],.lit (.int .i64 e)]) (.tup [aO g ns,aa e]):=by
 refine .tup rfl fun i hi _=>?_
 match i,hi with
 | 0,_ =>
  refine .agg rfl fun i hi _=>?_
  match i,hi with
  | 0,_=>exact .lit _
  | 1,_=>exact h
 | 1,_=>exact .lit _
theorem dM.fzN {S:Nat->Prop}{lo nx:Nat}{H:AHeap}{v:AVal}{ns:List NodeP}(h:dM lo H 69 3 v ns.length (ar ns))(hS:∀ i,lo<=i->S i):Fz S H nx v (cM ns):=by
 rcases h with ⟨rfl,h0,_⟩|⟨id,g,h1,_,rfl,h4,h5⟩
 ·obtain rfl:=List.length_eq_zero_iff.1 h0;exact .nil
 ·refine .frz (hS id h1) h5 (by rw[fD]) fun j hj h2 h'=>?_;have hm:∀ q∈ar ns,Fz S H nx q q:=fun q hq=>ux (n:=ns.length) (ns:=ns) q (by rw[yI];exact hq) S H nx;simpa only[Nat.zero_add] using hm _ (List.getElem_mem h')
def ir (l:List Int)(c j:Nat):List Int:=(l.drop (j*c)).take c
noncomputable def Cr (g least:Int)(l:List Int)(c j:Nat):List Int:=nf least (eC g least (ir l c j)) (ir l c j)
noncomputable def lZ (g least:Int)(l:List Int)(x:NodeP):NodeP:=⟨x.card,x.parents,(List.range x.rows.length).map (Cr g least l x.card.toNat)⟩
noncomputable def jZ (g least:Int)(ns:List NodeP)(xs:List (List Int)):List NodeP:=(List.range ns.length).map fun v=>lZ g least (cY ns (ns.getD v ⟨0,[],[]⟩) v xs) (ns.getD v ⟨0,[],[]⟩)
theorem Cs (g least:Int)(ns:List NodeP)(xs:List (List Int)):(jZ g least ns xs).length=ns.length:=by simp [jZ]
theorem Nz {g least:Int}{ns:List NodeP}{xs:List (List Int)}{v:Nat}{x:NodeP}(hx:ns[v]?=some x):(jZ g least ns xs)[v]?=some (lZ g least (cY ns x v xs) x):=by
 unfold jZ;rw[List.getElem?_map,List.getElem?_range (get_lt hx)];show some (lZ g least (cY ns (ns.getD v ⟨0,[],[]⟩) v xs) (ns.getD v ⟨0,[],[]⟩))=_;rw[bJ hx]
theorem yg {l:List Int}{c j m:Nat}(hl:l.length=m*c)(hj:j<m):(ir l c j).length=c:=by
 unfold ir;have h1:j*c+c<=m*c:=by have:=Nat.mul_le_mul_right c (show j+1<=m by omega);rw[Nat.add_mul]at this;omega
 rw[List.length_take,List.length_drop,hl];omega
theorem NA {l:List Int}{c j:Nat}:∀ x∈ir l c j,x∈l:=fun _ h=>List.mem_of_mem_drop (List.mem_of_mem_take h)
theorem yh {g:Int}{ns:List NodeP}(h:NetOk g ns)(h6:ns.length<=6){v:Nat}{x:NodeP}(hx:ns[v]?=some x)(xs:List (List Int))(hr:∀ r∈xs,r.length=ns.length):(cY ns x v xs).length=x.rows.length*x.card.toNat:=by
 have:=(x5 h h6 hx xs hr).1;have hc:=(h.node x (List.mem_of_getElem? hx)).1;have e:((x.rows.length*x.card.toNat:Nat):Int)=x.rows.length*x.card:=by rw[Int.natCast_mul,Int.toNat_of_nonneg (by omega)]
 omega
def q7 (g:Int)(ns:List NodeP)(least:Int):Prop:=0<=least/\∀ x∈ns,least*x.card<=g
theorem Ct {g least:Int}{ns:List NodeP}(h:NetOk g ns)(h6:ns.length<=6)(hf:q7 g ns least){v:Nat}{x:NodeP}(hx:ns[v]?=some x){xs:List (List Int)}(hx40:xs.length<=64)(hr:∀ r∈xs,r.length=ns.length){j:Nat}(hj:j<x.rows.length):
  iY (ir (cY ns x v xs) x.card.toNat j) g least:=by
 have hxm:=List.mem_of_getElem? hx;have hc:=(h.node x hxm).1;have hg:=h.g1;have hl:=yg (yh h h6 hx xs hr) hj;have hb:=(x5 h h6 hx xs hr).2;refine⟨by omega,fun y hy=>?_,by omega,hf.1,?_⟩
 ·have:=hb y (NA y hy);omega
 ·rw[hl,Int.toNat_of_nonneg (by omega)];exact hf.2 x hxm
theorem uf {g:Int}{ns:List NodeP}(h:NetOk g ns){least:Int}:qZ g ns least=true↔q7 g ns least:=by
 have hg:=h.g1;have hn:=h.n1;obtain⟨y,hy⟩:=get_of_lt (l:=ns) (i:=0) (by omega);have hym:=List.mem_of_getElem? hy;unfold qZ;rw[decide_eq_true_iff];constructor
 ·intro hh;exact⟨(hh y hym).1,fun x hx=>(hh x hx).2.2⟩
 ·intro hh x hx;have hc:=(h.node x hx).1;have h1:=hh.2 x hx;have h3:least*1<=least*x.card:=Int.mul_le_mul_of_nonneg_left (by omega) hh.1;exact⟨hh.1,by omega,h1⟩
theorem Cu {g c least:Int}(hc:1<=c):least<=g / c↔least*c<=g:=Int.le_ediv_iff_mul_le (by omega)
noncomputable def iW (g:Int)(ns:List NodeP)(cs:List Int)(xs:List (List Int))(least:Int):Int:=if dU g ns cs xs≠0 then dU g ns cs xs else if qZ g ns least=true then if iV ns xs=true then 0 else 7 else 2
noncomputable def j5 (g:Int)(ns:List NodeP)(cs:List Int)(xs:List (List Int))(least:Int):Int × List NodeP:=if iW g ns cs xs least=0 then (g,jZ g least ns xs) else (0,[])
theorem NB {c:List Int}{g least:Int}(h:iY c g least):(nf least (eC g least c) c).length=c.length:=by
 obtain⟨s,hs⟩:=Df least (eC g least c) (c:=c) (by have:=h.1;omega);rw[<- uy hs];obtain⟨M,_,rfl⟩:=hs;simp [dY]
theorem NC {g least:Int}{ns:List NodeP}(h:NetOk g ns)(h6:ns.length<=6)(hf:q7 g ns least){xs:List (List Int)}(hx40:xs.length<=64)(hr:∀ r∈xs,r.length=ns.length)(hn:fj ns):fj (jZ g least ns xs):=by
 refine⟨by rw[Cs];exact hn.1,fun y hy=>?_⟩;obtain⟨v,hv,rfl⟩:=List.mem_map.1 hy;obtain⟨x,hx⟩:=get_of_lt (List.mem_range.1 hv);rw[bJ hx];have hxm:=List.mem_of_getElem? hx;obtain⟨a,b,c⟩:=hn.2 x hxm;refine⟨a,by show (((List.range x.rows.length).map _).length:Int)<_;simpa using b,fun r hr'=>?_⟩;obtain⟨j,hj,rfl⟩:=List.mem_map.1 hr';have hj:=List.mem_range.1 hj;have hc:=(h.node x hxm).1;unfold Cr;rw[NB (Ct h h6 hf hx hx40 hr hj),yg (yh h h6 hx xs hr) hj];omega
end Go.Proofs
namespace Go.Hx
variable {P:Program} {t:TypeId} {x y:Operand} {k k':IntKind} {a b:Int}
theorem NX (w:Nat){a:Nat}{n:Nat}(ha:a<2 ^ w)(hn:n<=w)(hw:0<w):((BitVec.ofInt w (a:Int) &&& BitVec.ofInt w ((2 ^ n - 1:Nat):Int)).toNat)=a % 2 ^ n:=by
 have h1:(2:Nat) ^ n<=2 ^ w:=Nat.pow_le_pow_right (by decide) hn;have h0:0<(2:Nat) ^ n:=Nat.two_pow_pos n;have e1:(BitVec.ofInt w (a:Int)).toNat=a:=by rw[BitVec.ofInt_natCast,BitVec.toNat_ofNat,Nat.mod_eq_of_lt ha]
 have e2:(BitVec.ofInt w ((2 ^ n - 1:Nat):Int)).toNat=2 ^ n - 1:=by rw[BitVec.ofInt_natCast,BitVec.toNat_ofNat,Nat.mod_eq_of_lt (by omega)]
 rw[BitVec.toNat_and,e1,e2,Nat.and_two_pow_sub_one_eq_mod]
theorem ym (h:0<=a/\a<18446744073709551616):aQ P .and t x y (.lit (.int .u64 a)) (.lit (.int .u64 4294967295))=some (.lit (.int .u64 (a % 4294967296))):=by
 obtain⟨n,rfl⟩:=Int.eq_ofNat_of_zero_le h.1;rw[rG];have:=NX 64 (a:=n) (n:=32) (by omega) (by decide) (by decide);have e:(BitVec.ofInt (IntKind.bits .u64) (n:Int) &&& BitVec.ofInt (IntKind.bits .u64) 4294967295).toNat=n % 4294967296:=this;rw[e,IntWalk.u64_in _ (by omega)];simp
theorem rj (h:0<=a/\a<18446744073709551616):aQ P .shr t x y (.lit (.int .u64 a)) (.lit (.int k' 32))=some (.lit (.int .u64 (a / 4294967296))):=by
 rw[nE (by decide)];have e:a.fdiv (2 ^ (min (32:Int).toNat (IntKind.bits .u64)))=a / 4294967296:=Int.fdiv_eq_ediv_of_nonneg a (by decide);rw[e]
end Go.Hx
namespace Go.Proofs
open Go.Hx
theorem NY {p q r w0 t w1 hi xy B:Nat}(hB:0<B)(hxy:xy=r*(B*B)+(p+q)*B+w0)(ht:t=p+w0 / B)(hw1:w1=t % B+q)(hhi:hi=r+t / B+w1 / B):
  xy / (B*B)=hi:=by
 have e0:=Nat.div_add_mod w0 B;have l0:=Nat.mod_lt w0 hB;have e1:=Nat.div_add_mod t B;have e2:=Nat.div_add_mod w1 B;have l2:=Nat.mod_lt w1 hB;generalize w0 / B=c0 at *
 generalize w0 % B=r0 at *
 generalize t / B=c1 at *
 generalize t % B=r1 at *
 generalize w1 / B=c2 at *
 generalize w1 % B=r2 at *
 have key:xy=hi*(B*B)+(r2*B+r0):=by
  subst hhi;have a1:p*B=t*B - c0*B:=by rw[ht,Nat.add_mul];omega
  have a2:q*B=w1*B - r1*B:=by rw[hw1,Nat.add_mul];omega
  have a3:t*B=c1*(B*B)+r1*B:=by rw[<- e1,Nat.add_mul];congr 1;ac_rfl
  have a4:w1*B=c2*(B*B)+r2*B:=by rw[<- e2,Nat.add_mul];congr 1;ac_rfl
  have a5:c0*B<=t*B:=Nat.mul_le_mul_right _ (by omega);have a6:r1*B<=w1*B:=Nat.mul_le_mul_right _ (by omega);have a7:w0=c0*B+r0:=by rw[<- e0,Nat.mul_comm]
  rw[hxy,Nat.add_mul,Nat.add_mul,Nat.add_mul];omega
 have small:r2*B+r0<B*B:=by
  have:r2*B+B<=B*B:=by rw[<- Nat.succ_mul];exact Nat.mul_le_mul_right _ l2
  omega
 rw[key];exact Nat.div_eq_of_lt_le (Nat.le_add_right _ _) (by rw[Nat.add_mul,Nat.one_mul];omega)
set_option maxHeartbeats 2000000 in
theorem NZ (x y:Nat)(hx:x<18446744073709551616)(hy:y<18446744073709551616)(H:AHeap)(K:ARes->AHeap->Prop)
  (hK:K (.ret (.tup [.lit (.int .u64 (x*y / 18446744073709551616:Nat)),.lit (.int .u64 (x*y % 18446744073709551616:Nat))])) H):ae Try.prog G0 77 [.lit (.int .u64 x),.lit (.int .u64 y)] H K:=by
 obtain⟨x1,x0,hxe,hx0,hx1⟩:∃ x1 x0:Nat,x=x1*4294967296+x0/\x0<4294967296/\x1<4294967296:=⟨x / 4294967296,x % 4294967296,by omega,by omega,by omega⟩
 obtain⟨y1,y0,hye,hy0,hy1⟩:∃ y1 y0:Nat,y=y1*4294967296+y0/\y0<4294967296/\y1<4294967296:=⟨y / 4294967296,y % 4294967296,by omega,by omega,by omega⟩
 have bnd:∀ a b:Nat,a<4294967296->b<4294967296->a*b<=18446744065119617025:=fun a b ha hb=>by
  have:=Nat.mul_le_mul (show a<=4294967295 by omega) (show b<=4294967295 by omega);omega
 obtain⟨w0,hw0⟩:∃ w0,w0=x0*y0:=⟨_,rfl⟩
 have b0:=bnd x0 y0 hx0 hy0;obtain⟨p,hp⟩:∃ p,p=x1*y0:=⟨_,rfl⟩
 have b1:=bnd x1 y0 hx1 hy0;obtain⟨q,hq⟩:∃ q,q=x0*y1:=⟨_,rfl⟩
 have b2:=bnd x0 y1 hx0 hy1;obtain⟨r,hr⟩:∃ r,r=x1*y1:=⟨_,rfl⟩
 have b3:=bnd x1 y1 hx1 hy1;have hxy:x*y=r*18446744073709551616+(p+q)*4294967296+w0:=by
  rw[hxe,hye,hr,hp,hq,hw0,Nat.add_mul,Nat.mul_add,Nat.mul_add,Nat.add_mul];have e1:x1*4294967296*(y1*4294967296)=x1*y1*18446744073709551616:=by
   rw[Nat.mul_mul_mul_comm]
  have e2:x1*4294967296*y0=x1*y0*4294967296:=by ac_rfl
  have e3:x0*(y1*4294967296)=x0*y1*4294967296:=by ac_rfl
  rw[e1,e2,e3];omega
 have m1:((x:Int) % 4294967296)=(x0:Nat):=by omega
 have m2:((x:Int) / 4294967296)=(x1:Nat):=by omega
 have m3:((y:Int) % 4294967296)=(y0:Nat):=by omega
 have m4:((y:Int) / 4294967296)=(y1:Nat):=by omega
 have g1:((w0:Int))=(x0:Int)*(y0:Int):=by rw[hw0,Int.natCast_mul]
 have g2:((p:Int))=(x1:Int)*(y0:Int):=by rw[hp,Int.natCast_mul]
 have g3:((q:Int))=(x0:Int)*(y1:Int):=by rw[hq,Int.natCast_mul]
 have g4:((r:Int))=(x1:Int)*(y1:Int):=by rw[hr,Int.natCast_mul]
 obtain⟨t,ht⟩:∃ t:Nat,t=p+w0 / 4294967296:=⟨_,rfl⟩
 obtain⟨w1,hw1⟩:∃ w1:Nat,w1=t % 4294967296+q:=⟨_,rfl⟩
 obtain⟨hi,hhi⟩:∃ hi:Nat,hi=r+t / 4294967296+w1 / 4294967296:=⟨_,rfl⟩
 have hBB:(4294967296:Nat)*4294967296=18446744073709551616:=by decide
 have r1':x*y / 18446744073709551616=hi:=by
  have h2:x*y=r*(4294967296*4294967296)+(p+q)*4294967296+w0:=by rw[hBB];exact hxy
  have:=NY (by decide) h2 ht hw1 hhi;rw[hBB]at this;exact this
 have B0:∀ n:Nat,n<18446744073709551616->(0<=(n:Int)/\(n:Int)<18446744073709551616):=fun n h=>by omega
 have kx:=B0 x hx;have ky:=B0 y hy;have kw:=B0 w0 (by omega);have kt:=B0 t (by omega);have kv:=B0 w1 (by omega);have v1:=IntWalk.u64_in (w0:Int) (by omega);have v2:=IntWalk.u64_in (p:Int) (by omega);have v3:=IntWalk.u64_in (q:Int) (by omega);have v4:=IntWalk.u64_in (r:Int) (by omega);have s1:(p:Int)+(w0:Int) / 4294967296=(t:Int):=by omega
 have s2:(t:Int) % 4294967296+(q:Int)=(w1:Int):=by omega
 have v5:=IntWalk.u64_in (t:Int) (by omega);have v6:=IntWalk.u64_in (w1:Int) (by omega);have s3:(r:Int)+(t:Int) / 4294967296=((r+t / 4294967296:Nat):Int):=by omega
 have v7:=IntWalk.u64_in ((r+t / 4294967296:Nat):Int) (by omega);have s4:((r+t / 4294967296:Nat):Int)+(w1:Int) / 4294967296=(hi:Int):=by omega
 have v8:=IntWalk.u64_in (hi:Int) (by omega);have s5:IntKind.u64.wrap ((x:Int)*(y:Int))=((x*y % 18446744073709551616:Nat):Int):=by rw[RW,<- Int.natCast_mul];omega
 rw[r1']at hK;refine ae.cD (n:=51) (rs:=[.tmp 4,.tmp 5]) Try.func77 rfl rfl rfl (by decide) (by simp) ?_;refine W.seq (ab _ _ _ (by rfl) ?_);simp only[go_sem];refine W.env fun E0 hE0=>?_;have a0_0:E0 0=.lit (.int .u64 (x:Nat)):=by rw[hE0];rfl
 have a0_1:E0 1=.lit (.int .u64 (y:Nat)):=by rw[hE0];rfl
 clear hE0;refine W.seq (ab _ _ _ (by rfl) ?_);simp only[go_sem,a0_0,m1,ym,kx];refine W.env fun E1 hE1=>?_;have a1_0:E1 0=.lit (.int .u64 (x:Nat)):=by rw[hE1];exact a0_0
 have a1_1:E1 1=.lit (.int .u64 (y:Nat)):=by rw[hE1];exact a0_1
 have a1_6:E1 6=.lit (.int .u64 (x0:Nat)):=by rw[hE1];rfl
 clear hE1;refine W.seq (ab _ _ _ (by rfl) ?_);simp only[go_sem,a1_0,m2,rj,kx];refine W.env fun E2 hE2=>?_;have a2_0:E2 0=.lit (.int .u64 (x:Nat)):=by rw[hE2];exact a1_0
 have a2_1:E2 1=.lit (.int .u64 (y:Nat)):=by rw[hE2];exact a1_1
 have a2_6:E2 6=.lit (.int .u64 (x0:Nat)):=by rw[hE2];exact a1_6
 have a2_7:E2 7=.lit (.int .u64 (x1:Nat)):=by rw[hE2];rfl
 clear hE2;refine W.seq (ab _ _ _ (by rfl) ?_);simp only[go_sem,a2_1,m3,ym,ky];refine W.env fun E3 hE3=>?_;have a3_0:E3 0=.lit (.int .u64 (x:Nat)):=by rw[hE3];exact a2_0
 have a3_1:E3 1=.lit (.int .u64 (y:Nat)):=by rw[hE3];exact a2_1
 have a3_6:E3 6=.lit (.int .u64 (x0:Nat)):=by rw[hE3];exact a2_6
 have a3_7:E3 7=.lit (.int .u64 (x1:Nat)):=by rw[hE3];exact a2_7
 have a3_8:E3 8=.lit (.int .u64 (y0:Nat)):=by rw[hE3];rfl
 clear hE3;refine W.seq (ab _ _ _ (by rfl) ?_);simp only[go_sem,a3_1,m4,rj,ky];refine W.env fun E4 hE4=>?_;have a4_0:E4 0=.lit (.int .u64 (x:Nat)):=by rw[hE4];exact a3_0
 have a4_1:E4 1=.lit (.int .u64 (y:Nat)):=by rw[hE4];exact a3_1
 have a4_6:E4 6=.lit (.int .u64 (x0:Nat)):=by rw[hE4];exact a3_6
 have a4_7:E4 7=.lit (.int .u64 (x1:Nat)):=by rw[hE4];exact a3_7
 have a4_8:E4 8=.lit (.int .u64 (y0:Nat)):=by rw[hE4];exact a3_8
 have a4_9:E4 9=.lit (.int .u64 (y1:Nat)):=by rw[hE4];rfl
 clear hE4;refine W.seq (ab _ _ _ (by rfl) ?_);simp only[go_sem,a4_6,a4_8,<- g1,v1];refine W.env fun E5 hE5=>?_;have a5_0:E5 0=.lit (.int .u64 (x:Nat)):=by rw[hE5];exact a4_0
 have a5_1:E5 1=.lit (.int .u64 (y:Nat)):=by rw[hE5];exact a4_1
 have a5_6:E5 6=.lit (.int .u64 (x0:Nat)):=by rw[hE5];exact a4_6
 have a5_7:E5 7=.lit (.int .u64 (x1:Nat)):=by rw[hE5];exact a4_7
 have a5_8:E5 8=.lit (.int .u64 (y0:Nat)):=by rw[hE5];exact a4_8
 have a5_9:E5 9=.lit (.int .u64 (y1:Nat)):=by rw[hE5];exact a4_9
 have a5_10:E5 10=.lit (.int .u64 (w0:Nat)):=by rw[hE5];rfl
 clear hE5;refine W.seq (ab _ _ _ (by rfl) ?_);simp only[go_sem,a5_7,a5_8,a5_10,<- g2,v2,rj,kw,s1,v5];refine W.env fun E6 hE6=>?_;have a6_0:E6 0=.lit (.int .u64 (x:Nat)):=by rw[hE6];exact a5_0
 have a6_1:E6 1=.lit (.int .u64 (y:Nat)):=by rw[hE6];exact a5_1
 have a6_6:E6 6=.lit (.int .u64 (x0:Nat)):=by rw[hE6];exact a5_6
 have a6_7:E6 7=.lit (.int .u64 (x1:Nat)):=by rw[hE6];exact a5_7
 have a6_8:E6 8=.lit (.int .u64 (y0:Nat)):=by rw[hE6];exact a5_8
 have a6_9:E6 9=.lit (.int .u64 (y1:Nat)):=by rw[hE6];exact a5_9
 have a6_10:E6 10=.lit (.int .u64 (w0:Nat)):=by rw[hE6];exact a5_10
 have a6_11:E6 11=.lit (.int .u64 (t:Nat)):=by rw[hE6];rfl
 clear hE6;refine W.seq (ab _ _ _ (by rfl) ?_);simp only[go_sem,a6_11,ym,kt];refine W.env fun E7 hE7=>?_;have a7_0:E7 0=.lit (.int .u64 (x:Nat)):=by rw[hE7];exact a6_0
 have a7_1:E7 1=.lit (.int .u64 (y:Nat)):=by rw[hE7];exact a6_1
 have a7_6:E7 6=.lit (.int .u64 (x0:Nat)):=by rw[hE7];exact a6_6
 have a7_7:E7 7=.lit (.int .u64 (x1:Nat)):=by rw[hE7];exact a6_7
 have a7_8:E7 8=.lit (.int .u64 (y0:Nat)):=by rw[hE7];exact a6_8
 have a7_9:E7 9=.lit (.int .u64 (y1:Nat)):=by rw[hE7];exact a6_9
 have a7_10:E7 10=.lit (.int .u64 (w0:Nat)):=by rw[hE7];exact a6_10
 have a7_11:E7 11=.lit (.int .u64 (t:Nat)):=by rw[hE7];exact a6_11
 have a7_12:E7 12=.lit (.int .u64 ((t:Int) % 4294967296)):=by rw[hE7];rfl
 clear hE7;refine W.seq (ab _ _ _ (by rfl) ?_);simp only[go_sem,a7_11,rj,kt];refine W.env fun E8 hE8=>?_;have a8_0:E8 0=.lit (.int .u64 (x:Nat)):=by rw[hE8];exact a7_0
 have a8_1:E8 1=.lit (.int .u64 (y:Nat)):=by rw[hE8];exact a7_1
 have a8_6:E8 6=.lit (.int .u64 (x0:Nat)):=by rw[hE8];exact a7_6
 have a8_7:E8 7=.lit (.int .u64 (x1:Nat)):=by rw[hE8];exact a7_7
 have a8_8:E8 8=.lit (.int .u64 (y0:Nat)):=by rw[hE8];exact a7_8
 have a8_9:E8 9=.lit (.int .u64 (y1:Nat)):=by rw[hE8];exact a7_9
 have a8_10:E8 10=.lit (.int .u64 (w0:Nat)):=by rw[hE8];exact a7_10
 have a8_11:E8 11=.lit (.int .u64 (t:Nat)):=by rw[hE8];exact a7_11
 have a8_12:E8 12=.lit (.int .u64 ((t:Int) % 4294967296)):=by rw[hE8];exact a7_12
 have a8_13:E8 13=.lit (.int .u64 ((t:Int) / 4294967296)):=by rw[hE8];rfl
 clear hE8;refine W.seq (ab _ _ _ (by rfl) ?_);simp only[go_sem,a8_6,a8_9,a8_12,<- g3,v3,s2,v6];refine W.env fun E9 hE9=>?_;have a9_0:E9 0=.lit (.int .u64 (x:Nat)):=by rw[hE9];exact a8_0
 have a9_1:E9 1=.lit (.int .u64 (y:Nat)):=by rw[hE9];exact a8_1
 have a9_6:E9 6=.lit (.int .u64 (x0:Nat)):=by rw[hE9];exact a8_6
 have a9_7:E9 7=.lit (.int .u64 (x1:Nat)):=by rw[hE9];exact a8_7
 have a9_8:E9 8=.lit (.int .u64 (y0:Nat)):=by rw[hE9];exact a8_8
 have a9_9:E9 9=.lit (.int .u64 (y1:Nat)):=by rw[hE9];exact a8_9
 have a9_10:E9 10=.lit (.int .u64 (w0:Nat)):=by rw[hE9];exact a8_10
 have a9_11:E9 11=.lit (.int .u64 (t:Nat)):=by rw[hE9];exact a8_11
 have a9_12:E9 12=.lit (.int .u64 (w1:Nat)):=by rw[hE9];rfl
 have a9_13:E9 13=.lit (.int .u64 ((t:Int) / 4294967296)):=by rw[hE9];exact a8_13
 clear hE9;refine W.seq (ab _ _ _ (by rfl) ?_);simp only[go_sem,a9_7,a9_9,a9_12,a9_13,<- g4,v4,rj,kv,s3,v7,s4,v8];refine W.env fun E10 hE10=>?_;have a10_0:E10 0=.lit (.int .u64 (x:Nat)):=by rw[hE10];exact a9_0
 have a10_1:E10 1=.lit (.int .u64 (y:Nat)):=by rw[hE10];exact a9_1
 have a10_6:E10 6=.lit (.int .u64 (x0:Nat)):=by rw[hE10];exact a9_6
 have a10_7:E10 7=.lit (.int .u64 (x1:Nat)):=by rw[hE10];exact a9_7
 have a10_8:E10 8=.lit (.int .u64 (y0:Nat)):=by rw[hE10];exact a9_8
 have a10_9:E10 9=.lit (.int .u64 (y1:Nat)):=by rw[hE10];exact a9_9
 have a10_10:E10 10=.lit (.int .u64 (w0:Nat)):=by rw[hE10];exact a9_10
 have a10_11:E10 11=.lit (.int .u64 (t:Nat)):=by rw[hE10];exact a9_11
 have a10_12:E10 12=.lit (.int .u64 (w1:Nat)):=by rw[hE10];exact a9_12
 have a10_13:E10 13=.lit (.int .u64 ((t:Int) / 4294967296)):=by rw[hE10];exact a9_13
 have a10_4:E10 4=.lit (.int .u64 (hi:Nat)):=by rw[hE10];rfl
 clear hE10;refine W.seq (ab _ _ _ (by rfl) ?_);simp only[go_sem,a10_0,a10_1,s5];refine W.env fun E11 hE11=>?_;have a11_0:E11 0=.lit (.int .u64 (x:Nat)):=by rw[hE11];exact a10_0
 have a11_1:E11 1=.lit (.int .u64 (y:Nat)):=by rw[hE11];exact a10_1
 have a11_6:E11 6=.lit (.int .u64 (x0:Nat)):=by rw[hE11];exact a10_6
 have a11_7:E11 7=.lit (.int .u64 (x1:Nat)):=by rw[hE11];exact a10_7
 have a11_8:E11 8=.lit (.int .u64 (y0:Nat)):=by rw[hE11];exact a10_8
 have a11_9:E11 9=.lit (.int .u64 (y1:Nat)):=by rw[hE11];exact a10_9
 have a11_10:E11 10=.lit (.int .u64 (w0:Nat)):=by rw[hE11];exact a10_10
 have a11_11:E11 11=.lit (.int .u64 (t:Nat)):=by rw[hE11];exact a10_11
 have a11_12:E11 12=.lit (.int .u64 (w1:Nat)):=by rw[hE11];exact a10_12
 have a11_13:E11 13=.lit (.int .u64 ((t:Int) / 4294967296)):=by rw[hE11];exact a10_13
 have a11_4:E11 4=.lit (.int .u64 (hi:Nat)):=by rw[hE11];exact a10_4
 have a11_5:E11 5=.lit (.int .u64 ((x*y % 18446744073709551616:Nat):Int)):=by rw[hE11];rfl
 clear hE11;refine ab _ _ _ (by rfl) ?_;simp only[go_sem,a11_4,a11_5];exact av.mk (Nat.le_refl _) hK
def aS (B:Nat):List Nat -> Nat
  | [] => 0
  | d :: l => d + B * aS B l
def jY (B:Nat):Nat -> Nat -> List Nat
  | 0, _ => []
  | f + 1, v => if v = 0 then [] else v % B :: jY B f (v / B)
def bh (B v:Nat):List Nat := jY B v v
def Cj (l:List Nat):Prop := ∀ d, l.getLast? = some d -> d ≠ 0
structure NormD (B:Nat)(l:List Nat):Prop where
  lt:∀ d ∈ l, d < B
  top:Cj l
theorem NormD.nil (B:Nat):NormD B [] := ⟨fun d h => (by cases h), fun d h => (by cases h)⟩
theorem NormD.tail {B d:Nat}{l:List Nat}(h:NormD B (d :: l)):NormD B l := ⟨fun e he => h.lt e (by simp [he]), fun e he => h.top e (by
  cases l with
  | nil => cases he
  | cons x l => rw[List.getLast?_cons_cons]; exact he)⟩
theorem x7 {B:Nat}(hB:2 <= B):∀ {l:List Nat}, NormD B l -> l ≠ [] -> 0 < aS B l := by
  intro l
  induction l with
  | nil => intro _ h; exact absurd rfl h
  | cons d l ih =>
    intro h _;cases l with
    | nil =>
      have := h.top d rfl;show 0 < d + B * 0;omega
    | cons x l =>
      have h1 := ih h.tail (by simp);have:0 < B * aS B (x :: l) := Nat.mul_pos (by omega) h1;show 0 < d + B * aS B (x :: l);omega
theorem Nv {B:Nat}(hB:2 <= B):∀ {l m:List Nat}, NormD B l -> NormD B m -> aS B l = aS B m -> l = m := by
  intro l
  induction l with
  | nil =>
    intro m _ hm h;cases m with
    | nil => rfl
    | cons e m =>
      have := x7 hB hm (by simp);have h0:aS B [] = 0 := rfl;omega
  | cons d l ih =>
    intro m hl hm h;cases m with
    | nil =>
      have := x7 hB hl (by simp);have h0:aS B [] = 0 := rfl;omega
    | cons e m =>
      have h1:d + B * aS B l = e + B * aS B m := h;have hd := hl.lt d (by simp);have he := hm.lt e (by simp);have e1:d = e := by
        have := congrArg (· % B) h1;simp only[Nat.add_mul_mod_self_left, Nat.mod_eq_of_lt hd, Nat.mod_eq_of_lt he]at this;exact this
      subst e1;have e2:aS B l = aS B m := Nat.eq_of_mul_eq_mul_left (show 0 < B by omega) (by omega);rw[ih hl.tail hm.tail e2]
theorem Ck {B:Nat}(hB:2 <= B):∀ f v, v <= f -> NormD B (jY B f v) /\ aS B (jY B f v) = v /\ (v ≠ 0 -> jY B f v ≠ []) := by
  intro f
  induction f with
  | zero => intro v hv; obtain rfl : v = 0 := by omega
            exact⟨.nil B, rfl, fun h => absurd rfl h⟩
  | succ f ih =>
    intro v hv;unfold jY;by_cases h:v = 0
    · rw[if_pos h, h]; exact⟨.nil B, rfl, fun h => absurd rfl h⟩
    · rw[if_neg h];have hlt:v / B < v := Nat.div_lt_self (by omega) (by omega);obtain⟨a, b, c⟩ := ih (v / B) (by omega);refine⟨⟨fun d hd => ?_, fun d hd => ?_⟩, ?_, fun _ => by simp⟩
      · rcases List.mem_cons.1 hd with rfl | hd
        · exact Nat.mod_lt _ (by omega)
        · exact a.lt d hd
      · by_cases h0:v / B = 0
        · have e : jY B f (v / B) = [] := by
            rw[h0]; cases f <;> simp [jY]
          rw[e]at hd;simp only[List.getLast?_singleton, Option.some.injEq]at hd;have := Nat.div_add_mod v B;rw[h0]at this;omega
        · have hne := c h0;cases hq:jY B f (v / B) with
          | nil => exact absurd hq hne
          | cons x l => rw[hq, List.getLast?_cons_cons]at hd; rw[hq]at a; exact a.top d hd
      · show v % B + B * aS B (jY B f (v / B)) = v;rw[b];have := Nat.div_add_mod v B;omega
theorem jx {B:Nat}(hB:2 <= B)(v:Nat):NormD B (bh B v) := (Ck hB v v (Nat.le_refl _)).1
theorem gO {B:Nat}(hB:2 <= B)(v:Nat):aS B (bh B v) = v := (Ck hB v v (Nat.le_refl _)).2.1
theorem ub {B:Nat}(hB:2 <= B){l:List Nat}(h:NormD B l):l = bh B (aS B l) := Nv hB h (jx hB _) (gO hB _).symm
theorem Nw {B:Nat}:∀ (l m:List Nat), aS B (l ++ m) = aS B l + B ^ l.length * aS B m := by
  intro l m
  induction l with
  | nil => show _ = 0 + B ^ 0 * _; simp
  | cons d l ih =>
    show d + B * aS B (l ++ m) = d + B * aS B l + B ^ (l.length + 1) * aS B m;rw[ih, Nat.mul_add, Nat.pow_succ, Nat.mul_comm (B ^ l.length) B, Nat.mul_assoc];omega
theorem uc {B:Nat}:∀ {l:List Nat},(∀ d∈l,d<B)->aS B l<B ^ l.length:=by
 intro l
 induction l with
 | nil=>intro _;simp [aS]
 | cons d l ih =>
  intro h;have h1:=h d (by simp);have h2:=ih fun x hx=>h x (by simp [hx]);show d+B*aS B l<B ^ (l.length+1);have h3:B*(aS B l+1)<=B*B ^ l.length:=Nat.mul_le_mul_left B h2;rw[Nat.pow_succ,Nat.mul_comm (B ^ l.length)];rw[Nat.mul_add]at h3;omega
theorem ya {B:Nat}(hB:2<=B):∀ {l:List Nat},NormD B l->l≠[]->B ^ (l.length - 1)<=aS B l:=by
 intro l
 induction l with
 | nil=>intro _ h;exact absurd rfl h
 | cons d l ih =>
  intro h _;cases l with
  | nil =>
   have:=h.top d rfl;show B ^ 0<=d+B*0;simp;omega
  | cons x l =>
   have h1:=ih h.tail (by simp);show B ^ (l.length+1)<=d+B*aS B (x :: l);have h2:B*B ^ l.length<=B*aS B (x :: l):=Nat.mul_le_mul_left B h1;rw[Nat.pow_succ,Nat.mul_comm];omega
theorem Cl {B:Nat}(hB:2<=B){x y:List Nat}(hx:NormD B x)(hy:NormD B y)(h:x.length<y.length):aS B x<aS B y:=by
 have h1:=uc hx.lt;have h2:=ya hB hy fun e=>by rw[e]at h;simp at h
 have h3:B ^ x.length<=B ^ (y.length - 1):=Nat.pow_le_pow_right (by omega) (by omega);omega
theorem Cm {B:Nat}:∀ {x y:List Nat},x.length=y.length->(∀ d∈x,d<B)->(∀ d∈y,d<B)->∀ i,i<x.length->(∀ j,i<j->j<x.length->x.getD j 0=y.getD j 0)->x.getD i 0<y.getD i 0->aS B x<aS B y:=by
 intro x
 induction x with
 | nil=>intro y _ _ _ i hi;exact absurd hi (Nat.not_lt_zero _)
 | cons a x ih =>
  intro y hl hx hy i hi he hlt;cases y with
  | nil=>simp at hl
  | cons b y =>
   simp only[List.length_cons]at hl hi;have ha:=hx a (by simp);have hb:=hy b (by simp);show a+B*aS B x<b+B*aS B y;cases i with
   | zero =>
    have hxy:x=y:=by
     apply List.ext_getElem?;intro j;rcases Nat.lt_or_ge j x.length with h|h
     ·have:=he (j+1) (by omega) (by simp;omega);rw[List.getD_cons_succ,List.getD_cons_succ]at this;rw[List.getD_eq_getElem?_getD,List.getD_eq_getElem?_getD]at this;rw[List.getElem?_eq_getElem h,List.getElem?_eq_getElem (by omega)]at this ⊢;exact congrArg some this
     ·rw[List.getElem?_eq_none h,List.getElem?_eq_none (by omega)]
    rw[List.getD_cons_zero,List.getD_cons_zero]at hlt;rw[hxy];omega
   | succ i =>
    rw[List.getD_cons_succ,List.getD_cons_succ]at hlt;have:=ih (y:=y) (by omega) (fun d h=>hx d (by simp [h])) (fun d h=>hy d (by simp [h])) i (by omega) (fun j h1 h2=>by
     have:=he (j+1) (by omega) (by simp;omega);rw[List.getD_cons_succ,List.getD_cons_succ]at this;exact this) hlt
    have h3:B*(aS B x+1)<=B*aS B y:=Nat.mul_le_mul_left B this;rw[Nat.mul_add]at h3;omega
theorem norm_eq {x y:List Nat}(hl:x.length=y.length)(h:∀ j,j<x.length->x.getD j 0=y.getD j 0):x=y:=by
 apply List.ext_getElem?;intro j;rcases Nat.lt_or_ge j x.length with hj|hj
 ·have:=h j hj;rw[List.getD_eq_getElem?_getD,List.getD_eq_getElem?_getD,List.getElem?_eq_getElem hj,List.getElem?_eq_getElem (by omega)]at this;rw[List.getElem?_eq_getElem hj,List.getElem?_eq_getElem (by omega)];exact congrArg some this
 ·rw[List.getElem?_eq_none hj,List.getElem?_eq_none (by omega)]
def eY (x y:Nat):Int:=if x<y then -1 else if x=y then 0 else 1
theorem Cn (x:Nat):eY x x=0:=by unfold eY;simp
theorem Nx (x y:Nat):eY x y=-eY y x:=by
 unfold eY;rcases Nat.lt_trichotomy x y with h|h|h
 ·rw[if_pos h,if_neg (by omega),if_neg (by omega)]
 ·subst h;simp
 ·rw[if_neg (by omega),if_neg (by omega),if_pos h];rfl
theorem Co {x y:Nat}(h:x<y):eY x y=-1:=by unfold eY;rw[if_pos h]
theorem yc {x y:Nat}(h:y<x):eY x y=1:=by unfold eY;rw[if_neg (by omega),if_neg (by omega)]
theorem ud {B:Nat}(l:List Nat)(d:Nat):aS B (l++[d])=aS B l+B ^ l.length*d:=by
 rw[Nw];show _+_*(d+B*0)=_;simp
theorem Ny {B n:Nat}{l out:List Nat}{i d c:Nat}(hd:l[i]?=some d)(ho:out.length=i)(h:aS B out+B ^ i*c=aS B (l.take i)*n):
  aS B (out++[(d*n+c) % B])+B ^ (i+1)*((d*n+c) / B)=aS B (l.take (i+1))*n:=by
 have hil:=get_lt hd;rw[ud,ho,aL hd,ud,List.length_take,Nat.min_eq_left (by omega),Nat.add_mul,<- h];have e:=Nat.div_add_mod (d*n+c) B;have e2:B ^ i*(d*n+c)=B ^ i*(B*((d*n+c) / B))+B ^ i*((d*n+c) % B):=by rw[<- Nat.mul_add,e]
 rw[Nat.pow_succ,Nat.mul_assoc (B ^ i) B,Nat.mul_assoc (B ^ i) d];rw[Nat.mul_add]at e2;omega
set_option maxHeartbeats 1000000 in
theorem Cp {B:Nat}(hB:2<=B){x y:List Nat}(hx:NormD B x)(hy:NormD B y)(hxl:x.length<2 ^ 40)(hyl:y.length<2 ^ 40)(H:AHeap)(K:ARes->AHeap->Prop)(hK:K (.ret (aa (eY (aS B x) (aS B y)))) H):
  ae Try.prog G0 51 [cI x,cI y] H K:=by
 have lx:(x.map aW).length=x.length:=List.length_map ..;have ly:(y.map aW).length=y.length:=List.length_map ..;refine ae.bM (n:=41) (rs:=[.tmp 4]) Try.func51 rfl rfl rfl (by decide) (by kernel_rfl) (by simp) ?_;by_cases hl:(x.length:Int)=y.length;rotate_left
 ·by_cases hlt:(x.length:Int)<y.length
  ·rw[Co (Cl hB hx hy (by omega))]at hK;simp only[go_sem,hl,hlt];exact av.mk (Nat.le_refl _) hK
  ·rw[yc (Cl hB hy hx (by omega))]at hK;simp only[go_sem,hl,hlt];exact av.mk (Nat.le_refl _) hK
 have hll:x.length=y.length:=by omega
 have w0:=IntWalk.i64_in ((y.length:Int) - 1) (by omega);simp only[go_sem,hl,w0];refine W.aI 2199022731312 (by rfl) (fun ρ H'=>H'=H/\∃ m:Nat,ρ 5=aa ((m:Int) - 1)/\m<=x.length/\∀ j,m<=j->j<x.length->x.getD j 0=y.getD j 0) (fun ρ H=>(iv (ρ 5)+1).toNat) ?_ ?_
 ·simp only[go_sem];exact⟨x.length,by rw[hl],by omega,fun j h1 h2=>absurd h2 (by omega)⟩
 rintro ρ H' ⟨hHx,m,h5,hm,hall⟩;rw[hHx];refine W.env fun E hE=>?_;have e0:E 0=.vec x.length (x.map aW):=by rw[hE];simp only[go_sem,hl,<- hll]
 have e1:E 1=.vec y.length (y.map aW):=by rw[hE];simp only[go_sem]
 have e5:E 5=aa ((m:Int) - 1):=by rw[hE];simp only[go_sem,h5]
 clear hE;refine ab _ _ _ (by rfl) ?_;by_cases hm0:m=0
 ·subst hm0;have e5':E 5=aa (-1):=e5;have he:=norm_eq hll fun j hj=>hall j (Nat.zero_le _) hj;rw[he,Cn]at hK;simp only[go_sem,e5'];exact av.mk (Nat.le_refl _) hK
 obtain⟨k,rfl⟩:∃ k,m=k+1:=⟨m - 1,by omega⟩
 have e5':E 5=aa k:=by rw[e5];congr 1;omega
 obtain⟨a,ha⟩:=get_of_lt (l:=x) (i:=k) (by omega);obtain⟨b,hb⟩:=get_of_lt (l:=y) (i:=k) (by omega);have hga:(x.map aW)[k]?=some (.lit (.int .u64 (a:Int))):=by rw[List.getElem?_map,ha];rfl
 have hgb:(y.map aW)[k]?=some (.lit (.int .u64 (b:Int))):=by rw[List.getElem?_map,hb];rfl
 have han:=aN hga;have hbn:=aN hgb;have hk0:(k:Int) >= 0:=by omega
 have hkx:(k:Int)<x.length:=by omega
 have hky:(k:Int)<y.length:=by omega
 have w1:=IntWalk.i64_in ((k:Int) - 1) (by omega);have hda:x.getD k 0=a:=bJ ha;have hdb:y.getD k 0=b:=bJ hb;by_cases hab:(a:Int)=b
 ·simp only[go_sem,e5',hk0];refine W.draw 8 [0,0,3,7,0,0,48,112] Try.mixed (by kernel_rfl) (by kernel_rfl) ?_;simp only[go_sem,e0,e1,e5',hga,hgb,han,hbn,hkx,hky,hab,w1];refine⟨⟨k,rfl,by omega,fun j h1 h2=>?_⟩,by rw[h5];simp only[aa,aM];omega⟩;rcases Nat.lt_or_ge k j with h|h
  ·exact hall j (by omega) h2
  ·obtain rfl:j=k:=(by omega);rw[hda,hdb];omega
 ·have hcmp:eY (aS B x) (aS B y)=if a<b then -1 else 1:=by
   split
   ·rename_i h;exact Co (Cm hll hx.lt hy.lt k (by omega) (fun j h1 h2=>hall j (by omega) h2) (by rw[hda,hdb];exact h))
   ·rename_i h;exact yc (Cm hll.symm hy.lt hx.lt k (by omega) (fun j h1 h2=>(hall j (by omega) (by omega)).symm) (by rw[hda,hdb];omega))
  rw[hcmp]at hK;by_cases hlt:(a:Int)<b
  ·rw[if_pos (by omega)]at hK;simp only[go_sem,e5',hk0];refine W.draw 8 [0,0,3,7,0,0,48,112] Try.mixed (by kernel_rfl) (by kernel_rfl) ?_;simp only[go_sem,e0,e1,e5',hga,hgb,han,hbn,hkx,hky,hab];refine W.draw 8 [0,0,3,7,0,0,48,112] Try.mixed (by kernel_rfl) (by kernel_rfl) ?_;simp only[go_sem,e0,e1,e5',hga,hgb,han,hbn,hkx,hky,hlt];exact av.mk (Nat.le_refl _) hK
  ·rw[if_neg (by omega)]at hK;simp only[go_sem,e5',hk0];refine W.draw 8 [0,0,3,7,0,0,48,112] Try.mixed (by kernel_rfl) (by kernel_rfl) ?_;simp only[go_sem,e0,e1,e5',hga,hgb,han,hbn,hkx,hky,hab];refine W.draw 8 [0,0,3,7,0,0,48,112] Try.mixed (by kernel_rfl) (by kernel_rfl) ?_;simp only[go_sem,e0,e1,e5',hga,hgb,han,hbn,hkx,hky,hlt];exact av.mk (Nat.le_refl _) hK
def eH (ns:List NodeP)(wh:Nat)(xs:List (List Int)):Nat:=xs.foldl (fun a r=>a*(dG ns r).toNat*wh) 1
theorem ye (ns:List NodeP)(wh:Nat)(xs:List (List Int))(r:List Int):eH ns wh (xs++[r])=eH ns wh xs*(dG ns r).toNat*wh:=by unfold eH;rw[List.foldl_append];rfl
theorem ue {B v k:Nat}(hB:2<=B)(h:v<B ^ k):(bh B v).length<=k:=by
 refine Classical.byContradiction fun hh=>?_;have hn:bh B v≠[]:=fun e=>by rw[e]at hh;simp at hh
 have h1:=ya hB (jx hB v) hn;rw[gO hB]at h1;have h2:B ^ k<=B ^ ((bh B v).length - 1):=Nat.pow_le_pow_right (by omega) (by omega);omega
theorem yf {g:Int}{ns:List NodeP}(h:NetOk g ns){r:List Int}(hr:r.length=ns.length):0<=dG ns r:=by
 have:=xV h hr (df (au ns) r).length;rw[List.take_length]at this;exact this.1
theorem Cq {g:Int}{ns:List NodeP}(h:NetOk g ns)(h6:ns.length<=6){wh:Nat}(hw:wh<=46656000000)(xs:List (List Int))(hr:∀ r∈xs,r.length=ns.length):eH ns wh xs<(2 ^ 74) ^ xs.length+1:=by
 have key:∀ k,k<=xs.length->eH ns wh (xs.take k)<=(2 ^ 74) ^ k:=by
  intro k
  induction k with
  | zero=>intro _;exact Nat.le_refl 1
  | succ k ih =>
   intro hk;obtain⟨r,hrk⟩:=get_of_lt (l:=xs) (i:=k) (by omega);have hrl:=hr r (List.mem_of_getElem? hrk);have h1:=xZ h h6 hrl;have h0:=yf h hrl;rw[aL hrk,ye,Nat.mul_assoc,Nat.pow_succ];refine Nat.mul_le_mul (ih (by omega)) ?_;refine Nat.le_trans (Nat.mul_le_mul (show (dG ns r).toNat<=46656000000 by omega) hw) (by decide)
 have:=key xs.length (Nat.le_refl _);rw[List.take_length]at this;omega
theorem N0 {B:Nat}(hB:2<=B){l:List Nat}(h:∀ d∈l,d<B)(hn:l≠[])(hv:B ^ (l.length - 1)<=aS B l):Cj l:=by
 intro d hd h0;subst h0;obtain⟨q,rfl⟩:=List.getLast?_eq_some_iff.1 hd;rw[ud,Nat.mul_zero,Nat.add_zero]at hv;have h2:=uc (B:=B) (l:=q) fun d hd=>h d (by simp [hd]);have h3:(q++[0]).length - 1=q.length:=by simp
 rw[h3]at hv;omega
theorem uj {B:Nat}(hB:2<=B):bh B 0=[]:=(ub hB (NormD.nil B)).symm
theorem N1 {B:Nat}{l:List Nat}{c:Nat}(h:∀ d∈l,d<B)(hc:c<B)(h0:c≠0):NormD B (l++[c]):=⟨fun d hd=>by
 rcases List.mem_append.1 hd with hd|hd
 ·exact h d hd
 ·rw[List.mem_singleton.1 hd];exact hc,fun d hd=>by
 rw[List.getLast?_append]at hd;simp at hd;omega⟩
set_option maxHeartbeats 4000000 in
theorem uk {lo b:Nat}{l:List Nat}{sl:AVal}{w:Nat}(hw:w<18446744073709551616)(hl:NormD 18446744073709551616 l)(hll:l.length<2 ^ 36)(H:AHeap)(hb:b<H.next)(hlo:lo<=H.next)(gB:H.get b=some (.arr 0 100 [sl]))(hO:aB lo H 104 sl (l.map aW))(hz:l=[]->sl=.lit (.slice none 0 0))
  (K:ARes->AHeap->Prop) (hK:∀ H' sl',H.next<=H'.next->(∀ id,id<H.next->id≠b->(∀ g n,sl≠.own id g 0 n 1)->H'.get id=H.get id)->H'.get b=some (.arr 0 100 [sl'])->aB lo H' 104 sl' ((bh 18446744073709551616 (aS 18446744073709551616 l*w)).map aW)->(bh 18446744073709551616 (aS 18446744073709551616 l*w)=[]->sl'=.lit (.slice none 0 0))->K (.ret (.tup [])) H'):
  ae Try.prog G0 52 [.ptr b 0 0,.lit (.int .u64 w)] H K:=by
 have hB:2<=18446744073709551616:=by decide
 have lB:=ak gB;have so:=hO.one;have sc:=hO.cells;have gk:∀ id,id≠b->∀ bk,(H.upd b bk).get id=H.get id:=fun id h2 bk=>by rw[ag,if_neg h2]
 refine ae.cD (n:=56) (rs:=[]) Try.func52 rfl rfl rfl (by decide) (by simp) ?_;by_cases w0:w=0
 ·subst w0;refine W.seq (ab _ _ _ (by rfl) ?_);simp only[go_sem,lB];refine av.mk (by rw[aA];exact Nat.le_refl _) (hK _ _ (by rw[aA];exact Nat.le_refl _) (fun id _ h2 _=>gk id h2 _) (by rw[ag,if_pos rfl]) ?_ fun _=>rfl);rw[Nat.mul_zero,uj hB];exact .nil
 have w0':¬ (w:Int)=0:=by omega
 refine W.seq (ab _ _ _ (by rfl) ?_);simp only[go_sem,w0'];refine W.seq (ab _ _ _ (by rfl) ?_);simp only[go_sem];rcases hO with ⟨rfl,hnil⟩|⟨id,g,i1,i2,rfl,gI⟩
 ·have hl0:l=[]:=List.map_eq_nil_iff.1 hnil;subst hl0;refine W.seq (ab _ _ _ (by rfl) ?_);simp only[go_sem,lB];refine W.env fun E hE=>?_;have e0:E 0=.ptr b 0 0:=by rw[hE];simp only[go_sem]
  have e4:E 4=.lit (.int .u64 0):=by rw[hE];simp only[go_sem]
  have e18:E 18=aa 0:=by rw[hE];simp only[go_sem]
  have e19:E 19=aa 0:=by rw[hE];simp only[go_sem]
  clear hE;refine W.aI 70368743655408 (by kernel_rfl) (fun ρ Hx=>Hx=H/\ρ 19=aa 0/\ρ 4=.lit (.int .u64 0)) (fun _ _=>0) ?_ ?_
  ·exact⟨rfl,e19,e4⟩
  rintro ρ Hx ⟨hHx,h19,h4⟩;rw[hHx];refine ab _ _ _ (by rfl) ?_;simp only[go_sem,e18,h19];refine ab _ _ _ (by rfl) ?_;simp only[go_sem,h4];refine av.mk (Nat.le_refl _) (hK _ _ (Nat.le_refl _) (fun _ _ _ _=>rfl) gB ?_ fun _=>rfl);rw[show aS 18446744073709551616 []=0 by rfl,Nat.zero_mul,uj hB];exact .nil
 have lne:l≠[]:=fun e=>by have:=hz e;cases this
 have Vne:bh 18446744073709551616 (aS 18446744073709551616 l*w)≠[]:=fun e=>by
  have h1:=gO hB (aS 18446744073709551616 l*w);rw[e]at h1;have h2:=x7 hB hl lne;have h3:0<aS 18446744073709551616 l*w:=Nat.mul_pos h2 (by omega);have h4:aS 18446744073709551616 []=0:=rfl;omega
 have ib:b≠id:=fun e=>by rw[e,gI]at gB;cases gB
 rw[List.length_map]at lB so sc gB;obtain⟨n,hn⟩:∃ n,n=l.length:=⟨_,rfl⟩
 rw[<- hn]at lB so sc gB hll;have lI:=ak gI;have hlm:(l.map aW).length=n:=by rw[List.length_map,hn]
 refine W.seq (ab _ _ _ (by rfl) ?_);simp only[go_sem,lB,lI];refine W.env fun E hE=>?_;have e0:E 0=.ptr b 0 0:=by rw[hE];simp only[go_sem]
 have e1:E 1=.lit (.int .u64 w):=by rw[hE];simp only[go_sem]
 have e4:E 4=.lit (.int .u64 0):=by rw[hE];simp only[go_sem]
 have e17:E 17=.own id g 0 n 1:=by rw[hE];simp only[go_sem]
 have e18:E 18=aa n:=by rw[hE];simp only[go_sem]
 have e19:E 19=aa 0:=by rw[hE];simp only[go_sem]
 clear hE;refine W.aI 70368743655408 (by kernel_rfl) (fun ρ Hx=>∃ (i c:Nat) (out:List Nat),ρ 19=aa i/\i<=n/\ρ 4=.lit (.int .u64 c)/\c<18446744073709551616/\out.length=i/\(∀ d∈out,d<18446744073709551616)/\aS 18446744073709551616 out+18446744073709551616 ^ i*c=aS 18446744073709551616 (l.take i)*w/\Hx.next=H.next/\(∀ k,k≠id->Hx.get k=H.get k)/\Hx.get id=some (.arr g 104 ((out++l.drop i).map aW))) (fun ρ Hx=>n - (iv (ρ 19)).toNat) ?_ ?_
 ·exact⟨0,0,[],e19,by omega,e4,by decide,rfl,fun d h=>(by cases h),by simp [aS],rfl,fun _ _=>rfl,gI⟩
 rintro ρ Hx ⟨i,c,out,h19,hi,h4,hc,hol,hod,hval,hnx,hold,gx⟩;refine W.env fun F hF=>?_;have f0:F 0=.ptr b 0 0:=by rw[hF];simp only[go_sem,e0]
 have f1:F 1=.lit (.int .u64 w):=by rw[hF];simp only[go_sem,e1]
 have f4:F 4=.lit (.int .u64 c):=by rw[hF];simp only[go_sem,h4]
 have f17:F 17=.own id g 0 n 1:=by rw[hF];simp only[go_sem,e17]
 have f18:F 18=aa n:=by rw[hF];simp only[go_sem,e18]
 have f19:F 19=aa i:=by rw[hF];simp only[go_sem,h19]
 clear hF;have lx:=ak gx;have lb:=ak ((hold b ib).trans gB);by_cases hbn:(i:Int)<n
 ·obtain⟨d,hd⟩:=get_of_lt (l:=l) (i:=i) (by omega);have hdB:=hl.lt d (List.mem_of_getElem? hd);have hdr:l.drop i=d :: l.drop (i+1):=px hd;have hgd:(out++l.drop i)[i]?=some d:=by rw[List.getElem?_append_right (by omega),hol,Nat.sub_self,hdr];rfl
  have hgd2:((out++l.drop i).map aW)[i]?=some (.lit (.int .u64 (d:Int))):=by rw[List.getElem?_map,hgd];rfl
  have hgn:=aN hgd2;have hlen:(out++l.drop i).length=n:=by rw[List.length_append,List.length_drop];omega
  obtain⟨hi',hhi⟩:∃ q,q=d*w / 18446744073709551616:=⟨_,rfl⟩
  obtain⟨lo',hlo'⟩:∃ q,q=d*w % 18446744073709551616:=⟨_,rfl⟩
  have hm:d*w<=18446744073709551615*18446744073709551615:=Nat.mul_le_mul (by omega) (by omega);have hst:=Ny (B:=18446744073709551616) hd hol hval;obtain⟨dw,hdw⟩:∃ q,q=d*w:=⟨_,rfl⟩
  rw[<- hdw]at hhi hlo' hm hst;have lo2:lo'<18446744073709551616:=by rw[hlo'];exact Nat.mod_lt _ (by decide)
  have sE:(dw+c) % 18446744073709551616=(lo'+c) % 18446744073709551616:=by omega
  have cE:(dw+c) / 18446744073709551616=hi'+(lo'+c) / 18446744073709551616:=by omega
  rw[sE,cE]at hst;have cB:hi'+(lo'+c) / 18446744073709551616<18446744073709551616:=by omega
  have sB:(lo'+c) % 18446744073709551616<18446744073709551616:=Nat.mod_lt _ (by decide);obtain⟨sm,hsm⟩:∃ q,q=(lo'+c) % 18446744073709551616:=⟨_,rfl⟩
  obtain⟨mo,hmo⟩:∃ q,q=(lo'+c) / 18446744073709551616:=⟨_,rfl⟩
  rw[<- hsm,<- hmo]at hst;rw[<- hsm]at sB;rw[<- hmo]at cB;have w1:=IntWalk.i64_in ((i:Int)+1) (by omega);have w2:=IntWalk.u64_in ((hi':Int)+mo) (by omega);refine W.seq (ab _ _ _ (by rfl) ?_);simp only[go_sem,f18,f19,hbn];refine W.seq (ab _ _ _ (by rfl) ?_);simp only[go_sem];refine W.seq (W.block ?_);refine W.seq (ab _ _ _ (by rfl) ?_);simp only[go_sem,f17,f19,lx,hgd2,hbn];refine W.seq (ab _ _ _ (by rfl) ?_);simp only[go_sem,f1];refine aw.clo (NZ d w hdB hw _ _ ⟨trivial,?_⟩);rw[<- hdw,<- hhi,<- hlo'];simp only[go_sem];refine W.seq (ab _ _ _ (by rfl) ?_);simp only[go_sem,f4];refine EF (r:=.tup [.lit (.int .u64 (sm:Int)),.lit (.int .u64 (mo:Int))]) (by rw[hsm,hmo];rfl) ⟨trivial,?_⟩;simp only[go_sem];refine ab _ _ _ (by rfl) ?_;simp only[go_sem,f0,lb,lx,hbn,w2];refine⟨by rw[List.length_map,hlen];omega,?_⟩;refine ab _ _ _ (by rfl) ?_;simp only[go_sem,f19,w1];refine⟨by rw[aA];omega,⟨i+1,hi'+mo,out++[sm],rfl,by omega,by rw[Int.natCast_add],cB,by simp [hol],fun e he=>?_,hst,by rw[aA];exact hnx,fun k hk=>by rw[ag,if_neg hk];exact hold k hk,?_⟩,by rw[h19];simp only[aa,aM];omega⟩
  ·rcases List.mem_append.1 he with he|he
   ·exact hod e he
   ·rw[List.mem_singleton.1 he];exact sB
  ·rw[ag,if_pos rfl,Er (by omega),List.set_append_right _ _ (by omega),hol,Nat.sub_self,hdr,List.set_cons_zero,List.append_assoc];rfl
 have ei:i=n:=by omega
 subst ei;rw[hn,List.take_length,<- hn]at hval;rw[List.drop_of_length_le (by omega),List.append_nil]at gx;have hOx:aB lo Hx 104 (.own id g 0 i 1) (out.map aW):=.inr ⟨id,g,i1,by omega,by rw[List.length_map,hol],gx⟩;have hk':∀ k,(∀ g' n',AVal.own id g 0 (l.map aW).length 1≠.own k g' 0 n' 1)->k≠id:=fun k h e=>h g (l.map aW).length (by rw[e]);have bx:=(hold b ib).trans gB;refine ab _ _ _ (by rfl) ?_;simp only[go_sem,f18,f19,hbn];by_cases c0:c=0
 ·subst c0;refine ab _ _ _ (by rfl) ?_;simp only[go_sem,f4];refine av.mk (by omega) (hK _ _ (by omega) (fun k _ _ h3=>hold k (hk' k h3)) bx ?_ fun h=>absurd h Vne);rw[Nat.mul_zero,Nat.add_zero]at hval;have e:out=bh 18446744073709551616 (aS 18446744073709551616 l*w):=by
   rw[<- hval];by_cases h0:out=[]
   ·subst h0;exact(uj hB).symm
   ·refine ub hB ⟨hod,N0 hB hod h0 ?_⟩;rw[hval];have h1:=ya hB hl fun e=>by rw[e]at hn;rw[hn]at hol;exact h0 (List.eq_nil_of_length_eq_zero hol)
    have h2:aS 18446744073709551616 l*1<=aS 18446744073709551616 l*w:=Nat.mul_le_mul_left _ (by omega);rw[hol,hn];omega
  rw[<- e];exact hOx
 ·have c0':¬ (c:Int)=0:=by omega
  obtain⟨v',H2,hA,hO2,hn2,hp⟩:=jm (P:=Try.prog) (H:=Hx) (t:=100) (x:=.lit (.int .u64 (c:Int))) (n:=Hx.next+1) Try.underlying100 Try.yF Try.yH rfl (by rw[Try.yG,List.length_map];omega) hOx (by omega) rfl;have lbE:∀ L,(ext Hx L).live b 0=_:=fun L=>(eP (by omega)).trans (ak bx);have b2:=(hp b (by omega) (fun g n e=>ib (AVal.own.inj e).1.symm)).trans bx;have lb2:=ak b2;have vo:=hO2.one;have vc:=hO2.cells;refine ab _ _ _ (by rfl) ?_;simp only[go_sem,f0,f4,c0',ak bx,hA,lb2,vo,vc];have e:out.map aW++[AVal.lit (.int .u64 (c:Int))]=(bh 18446744073709551616 (aS 18446744073709551616 l*w)).map aW:=by
   have h1:=ub hB (N1 hod hc c0);rw[ud,hol,hval]at h1;rw[<- h1,List.map_append];rfl
  rw[e]at hO2;refine av.mk (by rw[aA];omega) (hK _ v' (by rw[aA];omega) (fun k h1 h2 h3=>by rw[ag,if_neg h2,hp k (by omega) fun _ _ e=>hk' k h3 (AVal.own.inj e).1.symm];exact hold k (hk' k h3)) (by rw[ag,if_pos rfl]) (hO2.keep (Nat.le_refl _) (by rw[aA];omega) fun k _ h1 _ hk _=>by rw[ag,if_neg (fun e=>by rw[e,b2]at hk;cases hk)]) fun h=>absurd h Vne)
end Go.Proofs
