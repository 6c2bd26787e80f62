/- Own work: contracts. -/
import Derived.Test.YtakancljiekbhaaConD
import Derived.Test.YtakancljiekbhaaProg
import Derived.Test.YtakancljiekbhaaLibC
import Derived.Test.YtakancljiekbhaaConA
import Derived.Test.YtakancljiekbhaaConB
import Derived.Test.YtakancljiekbhaaConE
import Derived.Test.YtakancljiekbhaaRows
import Derived.ProofKit
import Derived.Test.YtakancljiekbhaaConC
set_option linter.all false
set_option maxRecDepth 100000
namespace Go.Proofs
open Go.Hx
def jV (H1 H':AHeap)(N:Nat)(cs:List AVal):Prop:=H1.next<=H'.next/\(∀ id,id<H1.next->id≠N->H'.get id=H1.get id)/\H'.get N=some (.arr 0 69 cs)
theorem Og {l:List NodeP}{i:Nat}{x y:NodeP}(h:l[i]?=some x)(hr:x.rows=[])(hy:y.rows=[]):bB (l.set i y)=(bB l).set (i*3) (aa y.card):=by
 have hl:=get_lt h;have h1:=xd (f:=NodeP.bW) (z:=3) iO l i y hl;have h2:=om (f:=NodeP.bW) (z:=3) iO l i x h;have e1:x.bW=[aa x.card,.lit (.slice none 0 0),.lit (.slice none 0 0)]:=Pv hr;have e2:y.bW=[aa y.card,.lit (.slice none 0 0),.lit (.slice none 0 0)]:=Pv hy;unfold bB;rw[h1,e2];rw[e1]at h2;have h3:(l.map NodeP.bW).flatten=((l.map NodeP.bW).flatten).take (i*3)++([aa x.card,.lit (.slice none 0 0),.lit (.slice none 0 0)]++((l.map NodeP.bW).flatten).drop (i*3+3)):=by
  rw[<- h2,<- Rs,PV,PV]
 have hlen:(((l.map NodeP.bW).flatten).take (i*3)).length=i*3:=by
  rw[PC,kL (f:=NodeP.bW) (z:=3) iO];omega
 conv=>rhs;rw[h3]
 rw[Qg _ _ (by omega),hlen];simp
theorem oA (ord:List Int):∀ (n v:Nat),v<n->(v:Int)∈dR ord n
 | 0,v,h=>by omega
 | n+1,v,h=>by
  unfold dR;by_cases hv:v=n
  ·subst hv;simp
  ·have:=oA ord n v (by omega);rw[<- PV (jU ord n) (dR ord n)]at this;rcases PK.1 this with h|h
   ·exact QZ _ h
   ·exact QE _ (Qh _ h)
def ik (ps:List DrP)(i:Nat):Int × List Int:=match ps[i]? with
 | some y=>(y.par,y.w)
 | none=>(0,[])
def B6 (p:Int)(k:Nat):Int:=IntKind.u8.wrap (((BitVec.ofInt IntKind.u8.bits (p.fdiv (2 ^ (min ((k:Int)).toNat IntKind.u8.bits))) &&& BitVec.ofInt IntKind.u8.bits 1).toNat:Nat):Int)
def kU (par:Int)(P:List Int)(u:Nat)(l:List Int)(k:Nat):List Int:=if P[k]?=some (u:Int)/\B6 par k=1/\l.length<3 then l++[(u:Int)] else l
def eI (par:Int)(P:List Int)(i u k:Nat):List Int:=(List.range k).foldl (kU par P u) ((List.range u).foldl (fun l u=>(List.range i).foldl (kU par P u) l) [])
theorem qq (par:Int)(P:List Int)(i u k:Nat):eI par P i u (k+1)=kU par P u (eI par P i u k) k:=by unfold eI;rw[Qx,QP];rfl
theorem B7 (par:Int)(P:List Int)(i u:Nat):eI par P i (u+1) 0=eI par P i u i:=by unfold eI;rw[Qx,QP];rfl
def jW (ps:List DrP)(i:Nat):Int:=match ps[i]? with
 | some y=>2+y.card % 2
 | none=>2
def eJ (ps:List DrP)(n i:Nat)(W:Int):Int:=if IntKind.i64.wrap (W*jW ps i*2 ^ (min ((n:Int) - 1 - i).toNat IntKind.i64.bits)) > 100 then 2 else jW ps i
def fK (ps:List DrP)(n:Nat):Nat->Int
 | 0=>1
 | i+1=>fK ps n i*eJ ps n i (fK ps n i)
def jy (g c:Int)(bs:List Int)(R:Nat):List (List Int):=(List.range R).map fun (q:Nat)=>kT g c.toNat bs ((q:Int)*(c+1))
theorem Oh (g c:Int)(bs:List Int)(R:Nat):jy g c bs (R+1)=jy g c bs R++[kT g c.toNat bs ((R:Int)*(c+1))]:=by unfold jy;rw[Qx,Qj];rfl
def kV (g:Int)(ps:List DrP)(cs P:List Int)(n j:Nat):NodeP:=⟨eJ ps n j (fK ps n j),eI (ik ps j).1 P j n 0,jy g (eJ ps n j (fK ps n j)) (ik ps j).2 (au (bd cs (eI (ik ps j).1 P j n 0))).toNat⟩
structure DoneN (g:Int)(cs P:List Int)(n j:Nat)(x:NodeP):Prop where
 pl:c9 x.parents n
 p3:x.parents.length<=3
 rk:∀ q∈x.parents,∃ k,k<j/\P[k]?=some q
 rl:(x.rows.length:Int)=au (bd cs x.parents)
 ro:∀ r∈x.rows,iQ g x.card r
 ne:x.rows≠[]
structure LoopN (g:Int)(ps:List DrP)(cs P:List Int)(n i:Nat)(ns:List NodeP):Prop where
 len:ns.length=n
 cards:ar ns=cs
 todo:∀ (j v:Nat) (x:NodeP),i<=j->P[j]?=some (v:Int)->ns[v]?=some x->x.rows=[]/\x.parents=[]
 done:∀ (j v:Nat) (x:NodeP),j<i->P[j]?=some (v:Int)->ns[v]?=some x->DoneN g cs P n j x
 eq:∀ (j v:Nat) (x:NodeP),j<i->P[j]?=some (v:Int)->ns[v]?=some x->x=kV g ps cs P n j
 cd:∀ (j v:Nat) (x:NodeP),P[j]?=some (v:Int)->ns[v]?=some x->x.card=eJ ps n j (fK ps n j)
theorem Oi {l:List NodeP}{i:Nat}{x y:NodeP}(h:l[i]?=some x)(hy:y.card=x.card)(hr:y.rows≠[]):bB (l.set i y)=((bB l).set (i*3+1) (ae y.parents)).set (i*3+2) (ay y.rows):=by
 have hl:=get_lt h;have h1:=xd (f:=NodeP.bW) (z:=3) iO l i y hl;have h2:=om (f:=NodeP.bW) (z:=3) iO l i x h;unfold bB;rw[h1];have h3:(l.map NodeP.bW).flatten=((l.map NodeP.bW).flatten).take (i*3)++(x.bW++((l.map NodeP.bW).flatten).drop (i*3+3)):=by
  rw[<- h2,<- Rs,PV,PV]
 have hlen:(((l.map NodeP.bW).flatten).take (i*3)).length=i*3:=by
  rw[PC,kL (f:=NodeP.bW) (z:=3) iO];omega
 have ex:∃ b c,x.bW=[aa x.card,b,c]:=by unfold NodeP.bW;split<;>exact⟨_,_,rfl⟩
 obtain⟨b,c,ex⟩:=ex;have ey:y.bW=[aa y.card,ae y.parents,ay y.rows]:=Pt hr
 conv=>rhs;rw[h3]
 rw[Qg _ _ (by omega),Qg _ _ (by omega),hlen,show i*3+1 - i*3=1 by omega,show i*3+2 - i*3=2 by omega,ex,ey];simp [hy]
structure ParU (P:List Int)(i u k:Nat)(l:List Int):Prop where
 pw:l.Pairwise (·<·)
 rng:∀ q∈l,0<=q/\(q<u\/(q=u/\∃ k',k'<k/\P[k']?=some q))
 p3:l.length<=3
 rk:∀ q∈l,∃ k',k'<i/\P[k']?=some q
theorem ParU.skip {P:List Int}{i u k:Nat}{l:List Int}(h:ParU P i u k l):ParU P i u (k+1) l:=⟨h.pw,fun q hq=>⟨(h.rng q hq).1,(h.rng q hq).2.imp id fun ⟨a,k',b,c⟩=>⟨a,k',by omega,c⟩⟩,h.p3,h.rk⟩
theorem ParU.next {P:List Int}{i u k:Nat}{l:List Int}(h:ParU P i u k l):ParU P i (u+1) 0 l:=⟨h.pw,fun q hq=>⟨(h.rng q hq).1,.inl (by rcases(h.rng q hq).2 with h1|h1<;>omega)⟩,h.p3,h.rk⟩
theorem ParU.add {P:List Int}{n i u k:Nat}{l:List Int}(hP:IsPerm n P)(h:ParU P i u k l)(hk:k<i)(hu:P[k]?=some (u:Int))(h3:l.length<3):ParU P i u (k+1) (l++[(u:Int)]):=by
 have lt:∀ q∈l,q<u:=fun q hq=>by
  rcases(h.rng q hq).2 with h1|⟨h1,k',h2,h4⟩
  ·exact h1
  ·exfalso;have e:P[k']?=P[k]?:=(by rw[h4,hu,h1]);have:=(Q5 (get_lt h4) hP.nd).1 e;omega
 refine⟨RN.2 ⟨h.pw,by simp,fun a ha b hb=>by obtain rfl:=List.mem_singleton.1 hb;exact lt a ha⟩,fun q hq=>?_,by simp;omega,fun q hq=>?_⟩
 ·rcases PK.1 hq with h1|h1
  ·exact⟨(h.rng q h1).1,.inl (lt q h1)⟩
  ·obtain rfl:=List.mem_singleton.1 h1;exact⟨by omega,.inr ⟨rfl,k,by omega,hu⟩⟩
 ·rcases PK.1 hq with h1|h1
  ·exact h.rk q h1
  ·obtain rfl:=List.mem_singleton.1 h1;exact⟨k,hk,hu⟩
def xf (Hz Hx:AHeap)(N at':Nat)(C:List AVal)(pv:AVal)(l:List Int):Prop:=jV Hz Hx N (C.set at' pv)/\aA Hz.next Hx 3 pv (ints l)
def oB (g:Int)(ps:List DrP)(ord:List Int)(ns:List NodeP):Prop:=ns.length=min (max ps.length 1) 5/\(∀ (j v:Nat) (x:NodeP),(dR ord ns.length)[j]?=some (v:Int)->ns[v]?=some x->x=kV g ps (ar ns) (dR ord ns.length) ns.length j)/\∀ (j v:Nat) (x:NodeP),(dR ord ns.length)[j]?=some (v:Int)->ns[v]?=some x->x.card=eJ ps ns.length j (fK ps ns.length j)
theorem oB.unique {g:Int}{ps:List DrP}{ord:List Int}{ns ns':List NodeP}(h:oB g ps ord ns)(h':oB g ps ord ns'):ns=ns':=by
 obtain⟨l1,e1,c1⟩:=h;obtain⟨l2,e2,c2⟩:=h';have hl:ns'.length=ns.length:=by rw[l1,l2]
 rw[hl]at e2 c2;obtain⟨n,hn⟩:∃ n,n=ns.length:=⟨_,rfl⟩
 rw[<- hn]at e1 e2 c1 c2;have at':∀ v,v<n->∃ j:Nat,(dR ord n)[j]?=some (v:Int):=fun v hv=>PT.1 (oA ord n v hv);have hc:ar ns=ar ns':=by
  refine Qf fun v=>?_;rcases PR v n with h|h
  ·obtain⟨j,hj⟩:=at' v h;obtain⟨x,hx⟩:=get_of_lt (l:=ns) (i:=v) (by omega);obtain⟨y,hy⟩:=get_of_lt (l:=ns') (i:=v) (by omega);rw[cQ hx,cQ hy,c1 j v x hj hx,c2 j v y hj hy]
  ·rw[PD (by rw[bR];omega),PD (by rw[bR];omega)]
 refine Qf fun v=>?_;rcases PR v n with h|h
 ·obtain⟨j,hj⟩:=at' v h;obtain⟨x,hx⟩:=get_of_lt (l:=ns) (i:=v) (by omega);obtain⟨y,hy⟩:=get_of_lt (l:=ns') (i:=v) (by omega);rw[hx,hy,e1 j v x hj hx,e2 j v y hj hy,hc]
 ·rw[PD (by omega),PD (by omega)]
set_option maxHeartbeats 4000000 in
theorem B8 (g0:Int)(ps:List DrP)(ord:List Int)(hg0:U8 g0)(hps:∀ x∈ps,x.Ok)(hpl:(ps.length:Int)<2 ^ 63)(hol:(ord.length:Int)<2 ^ 63)(ho8:∀ x∈ord,U8 x)(H:AHeap)(K:ARes->AHeap->Prop)
  (hK:∀ g ns N H',Over H H'->H.next<=N->N<H'.next->H'.get N=some (.arr 0 69 (aq ns))->NetOk g ns->ns.length<=5->(∀ x∈ns,x.parents.length<=3)->(∀ x∈ns,2<=x.card)->(g=1+g0 % 60/\oB g ps ord ns)->K (.ret (.agg [aa g,.own N 0 0 ns.length 3])) H'):
  ab Try.prog G0 9 [mv g0 ps ord] H K:=by
 refine ab.aZ (n:=187) (rs:=[.cell 2 35]) Try.func9 rfl rfl rfl (by decide) (by kernel_rfl) (by simp) ?_;obtain⟨n,hn⟩:∃ n:Nat,min (max ps.length 1) 5=n:=⟨_,rfl⟩
 have h51:1<=n/\n<=5:=by omega
 have hmn:(if 5<(if (1:Int) > ps.length then 1 else (ps.length:Int)) then 5 else (if (1:Int) > ps.length then 1 else (ps.length:Int)))=(n:Int):=by split<;>split<;>omega
 have t0:g0.tmod 60=g0 % 60:=PP hg0.1;have w0:IntKind.u8.wrap (g0 % 60)=g0 % 60:=Sa _ (by omega);have w1:IntKind.i64.wrap (g0 % 60)=g0 % 60:=Ps _ (by omega);have w2:=Ps (1+g0 % 60) (by omega);obtain⟨g,hg⟩:∃ g,1+g0 % 60=g:=⟨_,rfl⟩
 have hg1:1<=g/\g<=60:=by omega
 rw[hg]at w2;simp only[go_sem,mv];refine W.draw 9 [0,1,3,7,15,0,32,127,0] Try.mixed (by kernel_rfl) (by kernel_rfl) ?_;simp only[go_sem,hmn,t0,w1,hg,w2];refine⟨by omega,⟨⟨by omega,by omega⟩,⟨by omega,by omega⟩,?_⟩⟩;obtain⟨H1,hH1⟩:∃ H1,H1=ext (ext H [.arr 0 25 [.lit (.int .u8 g0),.vec ps.length (dx ps),.vec ord.length (aU ord)],.arr 0 35 [.lit (.int .i64 0),.lit (.slice none 0 0)],.arr 0 69 (List.replicate n [AVal.lit (.int .i64 0),.lit (.slice none 0 0),.lit (.slice none 0 0)]).flatten]) [.arr 0 35 [.lit (.int .i64 g),.own (H.next+2) 0 0 n 3]]:=⟨_,rfl⟩
 refine W.en (fun E=>E 1=.ptr H.next 0 0 /\ E 2=.ptr (H.next+1) 0 0 /\ E 3=aa n /\ E 4=.ptr (H.next+3) 0 0) (by simp only[go_sem]) fun E ⟨e1,e2,e3,e4⟩=>?_
 show W _ _ _ _ _ _ ⟨E,ext (ext H [.arr 0 25 [.lit (.int .u8 g0),.vec ps.length (dx ps),.vec ord.length (aU ord)],.arr 0 35 [.lit (.int .i64 0),.lit (.slice none 0 0)],.arr 0 69 (List.replicate n [AVal.lit (.int .i64 0),.lit (.slice none 0 0),.lit (.slice none 0 0)]).flatten]) [.arr 0 35 [.lit (.int .i64 g),.own (H.next+2) 0 0 n 3]]⟩;rw[<- hH1];have n1:H1.next=H.next+4:=by rw[hH1];rfl
 have o1:Over H H1:=by rw[hH1];exact(Over.ext _ _).trans (.ext _ _)
 have g0':H1.get H.next=some (.arr 0 25 [.lit (.int .u8 g0),.vec ps.length (dx ps),.vec ord.length (aU ord)]):=by rw[hH1,i9];exact cD ..
 have g1':H1.get (H.next+1)=some (.arr 0 35 [.lit (.int .i64 0),.lit (.slice none 0 0)]):=by rw[hH1,i9];exact aY H _ 1 (by simp)
 have g2':H1.get (H.next+2)=some (.arr 0 69 (bB (List.replicate n ⟨0,[],[]⟩))):=by
  rw[hH1,i9,show bB (List.replicate n ⟨0,[],[]⟩)=(List.replicate n [AVal.lit (.int .i64 0),.lit (.slice none 0 0),.lit (.slice none 0 0)]).flatten by unfold bB;rw[List.map_replicate];rfl];exact aY H _ 2 (by simp)
 have g3':H1.get (H.next+3)=some (.arr 0 35 [.lit (.int .i64 g),.own (H.next+2) 0 0 n 3]):=by rw[hH1,i9];exact aY H _ 3 (by simp)
 clear hH1;have l0:=aj g0';have l1:=aj (show (ext H1 [.arr 0 5 (List.replicate n (.lit (.int .u8 0)))]).get H.next=some (.arr 0 25 [.lit (.int .u8 g0),.vec ps.length (dx ps),.vec ord.length (aU ord)]) by rw[bY _ _ _ (by omega)];exact g0');refine W.draw 4 [0,1,0,4] Try.mixed (by kernel_rfl) (by kernel_rfl) ?_;simp only[go_sem,e1,e3,l1];refine⟨⟨by omega,by omega⟩,by omega,by omega,?_⟩;obtain⟨H2,hH2⟩:∃ H2,H2=ext H1 [.arr 0 5 (List.replicate n (.lit (.int .u8 0)))]:=⟨_,rfl⟩
 have gb:H2.get H1.next=some (.arr 0 5 (List.replicate n (.lit (.int .u8 0)))):=by rw[hH2];exact cJ
 rw[<- hH2];refine az.clo ((ab.frame (H:=H2) (args:=[.agg [.own H1.next 0 0 n 1,.lit (.int .u16 0),.vec ord.length (aU ord)]]) (args':=[.agg [.vec n (aU (List.replicate n 0)),.lit (.int .u16 0),.vec ord.length (aU ord)]]) (v':=ae (dR ord n)) aK rfl (fun i hi _=>?_) (N6 n h51.2 ord hol ho8 cF _ fun v H' _ ho=>⟨_,rfl,ho.tJ⟩)).mono fun r H' hr=>?_)
 ·match i,hi with
  | 0,_ =>
   refine .agg rfl fun i hi _=>?_
   match i,hi with
   | 0,_ =>
    have:aU (List.replicate n 0)=List.replicate n (.lit (.int .u8 0)):=(by unfold aU;rw[List.map_replicate]);rw[this];exact Fz.qz gb (by simp) fun c hc=>⟨_,Q6 hc⟩
   | 1,_=>exact .lit _
   | 2,_=>exact .vec rfl fun i hi _=>by simp only[aU,PB];exact .lit _
 obtain⟨rfl,rfl⟩:=hr;refine⟨trivial,?_⟩;have hperm:=tz ord n;obtain⟨P,hP⟩:∃ P,P=dR ord n:=⟨_,rfl⟩
 rw[<- hP]at hperm ⊢;have n2:H'.next=H1.next+1:=by rw[hH2];rfl
 have F0:jV H1 H' (H.next+2) (bB (List.replicate n ⟨0,[],[]⟩)):=by
  rw[hH2];exact⟨by simp [bb],fun id h _=>bY _ _ _ h,by rw[bY _ _ _ (by omega)];exact g2'⟩
 clear hH2 gb;simp only[go_sem,e3];have bs:∀ k:Nat,k<=5->(3:Int) ^ k<=243:=fun k hk=>by
  have:(3:Nat) ^ k<=3 ^ 5:=PJ (by decide) hk;have h2:((3 ^ k:Nat):Int)<=((3 ^ 5:Nat):Int):=by exact_mod_cast this
  push_cast at h2
  exact h2
 refine W.aN 151115727451794287100864 (by rfl) (fun ρ Hx=>∃ (i:Nat) (ns:List NodeP) (Wd:Int),ρ 7=aa i/\i<=n/\ns.length=n/\(∀ x∈ns,x.rows=[]/\x.parents=[])/\(∀ j v:Nat,j<i->P[j]?=some (v:Int)->∃ x,ns[v]?=some x/\2<=x.card/\x.card<=3/\x.card=eJ ps n j (fK ps n j))/\ρ 6=aa Wd/\Wd=fK ps n i/\1<=Wd/\Wd<=3 ^ i/\H'.next<=Hx.next/\jV H1 Hx (H.next+2) (bB ns)) (fun ρ H=>n - (iv (ρ 7)).toNat) ?_ ?_
 ·simp only[go_sem];exact⟨0,_,1,rfl,by omega,by simp,fun x hx=>by obtain rfl:=Q6 hx;exact⟨rfl,rfl⟩,fun j v hj=>by omega,rfl,rfl,by omega,by simp,F0⟩
 rintro ρ Hx ⟨i,ns,Wd,h7,hi,hnl,hnz,hnc,h6,hWe,hW1,hW3,hnx,hF⟩;refine W.en (fun E2=>E2 1=.ptr H.next 0 0 /\ E2 2=.ptr (H.next+1) 0 0 /\ E2 3=aa n /\ E2 4=.ptr (H.next+3) 0 0 /\ E2 5=ae P /\ E2 6=aa Wd /\ E2 7=aa i) (by simp only[go_sem,e1,e2,e3,e4,h6,h7]) fun E2 ⟨f1,f2,f3,f4,f5,f6,f7⟩=>?_
 refine W.vs ?_;have hPl:=hperm.len;have hFn:=hF.1;have m0:=aj ((hF.2.1 H.next (by omega) (by omega)).trans g0');have m3:=aj ((hF.2.1 (H.next+3) (by omega) (by omega)).trans g3');have mN:=aj hF.2.2;have m0':∀ L,(ext Hx L).live H.next 0=some (25,[.lit (.int .u8 g0),.vec ps.length (dx ps),.vec ord.length (aU ord)]):=fun L=>(dF (by omega)).trans m0;have m3':∀ L,(ext Hx L).live (H.next+3) 0=some (35,[.lit (.int .i64 g),.own (H.next+2) 0 0 n 3]):=fun L=>(dF (by omega)).trans m3;have mN':∀ L,(ext Hx L).live (H.next+2) 0=some (69,bB ns):=fun L=>(dF (by omega)).trans mN;by_cases hb:(i:Int)<n
 ·obtain⟨pv,hpv⟩:=get_of_lt (l:=P) (i:=i) (by omega);have hpr:=hperm.rng pv (Pq hpv);obtain⟨v,rfl⟩:=PM hpr.1;obtain⟨x,hx⟩:=get_of_lt (l:=ns) (i:=v) (by omega);have hpne:=aL hpv;have hz0:=B2 hx;have hzne:=aL hz0;have hzl:=B1 ns;have hv:(v:Int)<n:=hpr.2;have hv0:(v:Int) >= 0:=hpr.1;have hiP:(i:Int)<P.length:=by omega
  have w3:=bs i (by omega);have i1:=Ps ((i:Int)+1) (by omega);have i2:=Ps ((n:Int) - 1) (by omega);have i3:=Ps ((n:Int) - 1 - i) (by omega);have i4:=P8 ((n:Int) - 1 - i) (by omega);have fin:∀ (c:Int) (B:Blk),2<=c/\c<=3->c=eJ ps n i Wd->v*3+1<=(bB ns).length/\H'.next<=((ext Hx [B]).upd (H.next+2) (.arr 0 69 (setAt (bB ns) (v*3) [.lit (.int .i64 c)]))).next /\
    (∃ (i_1:Nat) (ns_1:List NodeP) (Wd_1:Int),AVal.lit (.int .i64 ((i:Int)+1))=.lit (.int .i64 i_1)/\i_1<=n/\ns_1.length=n/\(∀ x∈ns_1,x.rows=[]/\x.parents=[])/\(∀ j v:Nat,j<i_1->P[j]?=some (v:Int)->∃ x,ns_1[v]?=some x/\2<=x.card/\x.card<=3/\x.card=eJ ps n j (fK ps n j)) /\
     AVal.lit (.int .i64 (Wd*c))=.lit (.int .i64 Wd_1)/\Wd_1=fK ps n i_1/\1<=Wd_1/\Wd_1<=3 ^ i_1/\H'.next<=((ext Hx [B]).upd (H.next+2) (.arr 0 69 (setAt (bB ns) (v*3) [.lit (.int .i64 c)]))).next/\jV H1 ((ext Hx [B]).upd (H.next+2) (.arr 0 69 (setAt (bB ns) (v*3) [.lit (.int .i64 c)]))) (H.next+2) (bB ns_1)) /\
    n - ((i:Int)+1).toNat<n - (iv (ρ 7)).toNat:=by
   intro c B c23 hce;have p1:2<=Wd*c/\Wd*c<=3 ^ i*3:=by
    constructor
    ·have:=Rg hW1 c23.1 (by omega) (by omega);omega
    ·exact Rg hW3 c23.2 (by omega) (by omega)
   have nn:((ext Hx [B]).upd (H.next+2) (.arr 0 69 (setAt (bB ns) (v*3) [.lit (.int .i64 c)]))).next=Hx.next+1:=rfl;refine⟨by rw[hzl];have:=get_lt hx;omega,by rw[nn];omega,⟨i+1,ns.set v ⟨c,[],[]⟩,Wd*c,rfl,by omega,by simp [hnl],fun z hz=>?_,fun j u hj hu=>?_,rfl,by show Wd*c=fK ps n i*eJ ps n i (fK ps n i);rw[<- hWe,<- hce],by omega,by rw[Sl];omega,by rw[nn];omega,?_⟩,by rw[h7];simp only[aa,aW];omega⟩
   ·rcases P3 hz with h|h
    ·exact hnz z h
    ·rw[h];exact⟨rfl,rfl⟩
   ·by_cases huv:u=v
    ·subst huv;have hji:j=i:=(Q5 (get_lt hu) hperm.nd).1 (by rw[hu,hpv]);exact⟨_,PF (get_lt hx),by dsimp only;omega,by dsimp only;omega,by dsimp only;rw[hji,<- hWe];exact hce⟩
    ·rw[PO (by omega)];refine hnc j u ?_ hu;rcases PR j i with h|h
     ·exact h
     ·obtain rfl:j=i:=(by omega);rw[hpv]at hu;exact absurd (by have:=Option.some.inj hu;omega) huv
   ·refine⟨by rw[nn];omega,fun id h1 h2=>by rw[ag,Pt h2,bY _ _ _ (by omega)];exact hF.2.1 id h1 h2,?_⟩;rw[ag,Pv rfl,Og hx (hnz x (Pq hx)).1 rfl];congr 2;exact gO (by rw[hzl];have:=get_lt hx;omega)
  by_cases hp:(i:Int)<ps.length
  ·obtain⟨y,hy⟩:=get_of_lt (l:=ps) (i:=i) (by omega);have hyo:=hps y (Pq hy);have hc0:=BY hy;have hc1:i*3+3<=(dx ps).length:=(by rw[BZ];omega);have hcne:¬ dx ps=[]:=fun h=>by rw[h]at hc1;simp at hc1
   have c8:=hyo.1;have t1:y.card.tmod 2=y.card % 2:=PP c8.1;have i5:=Sa (y.card % 2) (by omega);have i6:=Ps (y.card % 2) (by omega);have i7:=Ps (2+y.card % 2) (by omega);have c23:2<=(2+y.card % 2)/\(2+y.card % 2)<=3:=(by omega);have p1:2<=Wd*(2+y.card % 2)/\Wd*(2+y.card % 2)<=3 ^ i*3:=by
    constructor
    ·have:=Rg hW1 c23.1 (by omega) (by omega);omega
    ·exact Rg hW3 c23.2 (by omega) (by omega)
   have p2:2<=Wd*2/\Wd*2<=3 ^ i*3:=(by omega);have j1:=Ps (Wd*(2+y.card % 2)) (by omega);have j2:=Ps (Wd*2) (by omega);obtain⟨q,hq⟩:∃ q,IntKind.i64.wrap (Wd*(2+y.card % 2)*2 ^ (min ((n:Int) - 1 - i).toNat IntKind.i64.bits))=q:=⟨_,rfl⟩
   have cA:eJ ps n i Wd=if q > 100 then 2 else 2+y.card % 2:=by
    have h0:jW ps i=2+y.card % 2:=(by unfold jW;rw[hy]);unfold eJ;rw[h0,hq]
   have hsh:∀ t o1 o2,aX Try.prog .shl t o1 o2 (.lit (.int .i64 (Wd*(2+y.card % 2)))) (.lit (.int .u64 ((n:Int) - 1 - i)))=some (.lit (.int .i64 q)):=fun t o1 o2=>by rw[xA (by omega),hq]
   by_cases hq1:q > 100
   ·simp only[go_sem,f1,f3,f6,f7,m0',hb,hp,i2,i3,i4,j1,j2,hsh,hc0,hc1,hcne,t1,i6,i7,hq1];refine W.draw 7 [0,1,0,0,12,28,0] Try.mixed (by kernel_rfl) (by kernel_rfl) ?_;simp only[go_sem,f4,f5,f6,f7,m3',mN',i1,hpv,hpne,hv,hv0,hiP];exact fin 2 _ (by omega) (by rw[cA,Pv hq1])
   ·simp only[go_sem,f1,f3,f6,f7,m0',hb,hp,i2,i3,i4,j1,hsh,hc0,hc1,hcne,t1,i6,i7,hq1];refine W.draw 7 [0,1,0,0,12,28,0] Try.mixed (by kernel_rfl) (by kernel_rfl) ?_;simp only[go_sem,f4,f5,f6,f7,m3',mN',i1,hpv,hpne,hv,hv0,hiP];exact fin (2+y.card % 2) _ c23 (by rw[cA,Pt hq1])
  ·have p2:2<=Wd*2/\Wd*2<=3 ^ i*3:=(by omega);have i5:IntKind.i64.wrap (2+IntKind.i64.wrap (Int.tmod 0 2))=2:=(by decide);have j2:=Ps (Wd*2) (by omega);obtain⟨q,hq⟩:∃ q,IntKind.i64.wrap (Wd*2*2 ^ (min ((n:Int) - 1 - i).toNat IntKind.i64.bits))=q:=⟨_,rfl⟩
   have cA:eJ ps n i Wd=2:=by
    have h0:jW ps i=2:=(by unfold jW;rw[PD (by omega)]);unfold eJ;rw[h0];split<;>rfl
   have hsh:∀ t o1 o2,aX Try.prog .shl t o1 o2 (.lit (.int .i64 (Wd*2))) (.lit (.int .u64 ((n:Int) - 1 - i)))=some (.lit (.int .i64 q)):=fun t o1 o2=>by rw[xA (by omega),hq]
   by_cases hq1:q > 100
   ·simp only[go_sem,f1,f3,f6,f7,m0',hb,hp,i2,i3,i4,j2,hsh,i5,hq1];refine W.draw 7 [0,1,0,0,12,28,0] Try.mixed (by kernel_rfl) (by kernel_rfl) ?_;simp only[go_sem,f4,f5,f6,f7,m3',mN',i1,hpv,hpne,hv,hv0,hiP];exact fin 2 _ (by omega) cA.symm
   ·simp only[go_sem,f1,f3,f6,f7,m0',hb,hp,i2,i3,i4,j2,hsh,i5,hq1];refine W.draw 7 [0,1,0,0,12,28,0] Try.mixed (by kernel_rfl) (by kernel_rfl) ?_;simp only[go_sem,f4,f5,f6,f7,m3',mN',i1,hpv,hpne,hv,hv0,hiP];exact fin 2 _ (by omega) cA.symm
 ·obtain rfl:n=i:=by omega
  clear bs hW1 hW3 h6 f6;simp only[go_sem,f3,f7,hb];obtain⟨cs,hcs⟩:∃ cs,cs=ar ns:=⟨_,rfl⟩
  have csl:cs.length=n:=by rw[hcs,bR,hnl]
  have hc23:∀ c∈cs,2<=c/\c<=3:=fun c hc=>by
   obtain⟨v,hv⟩:=PT.1 hc;have hvn:=get_lt hv;have hm:=oA ord n v (by omega);rw[<- hP]at hm;obtain⟨j,hj⟩:=PT.1 hm;obtain⟨x,hx,h2,h3,_⟩:=hnc j v (by have:=get_lt hj;omega) hj;rw[hcs,cQ hx]at hv;cases hv;exact⟨h2,h3⟩
  have L0:LoopN g ps cs P n 0 ns:=⟨hnl,hcs.symm,fun j v x _ _ hx=>hnz x (Pq hx),fun j v x h=>by omega,fun j v x h=>by omega,fun j v x hj hx=>by
   obtain⟨x',hx',_,_,h4⟩:=hnc j v (by have:=get_lt hj;omega) hj;rw[hx']at hx;rw[<- Option.some.inj hx];exact h4⟩
  clear hnc hnz h7;refine W.aN 98079714615416886934934209737619636635871851991103765504 (by rfl) (fun ρ Hy=>∃ (i:Nat) (ns:List NodeP),ρ 10=aa i/\i<=n/\LoopN g ps cs P n i ns/\Hx.next<=Hy.next/\jV H1 Hy (H.next+2) (bB ns)) (fun ρ H=>n - (iv (ρ 10)).toNat) ?_ ?_
  ·simp only[go_sem];exact⟨0,ns,rfl,by omega,L0,hF⟩
  clear L0 hF m0 m3 mN m0' m3' mN' hFn hnl hcs f7;rintro ρ Hy ⟨i,ns,h10,hi,L,hny,hF⟩;refine W.en (fun E=>E 1=.ptr H.next 0 0 /\ E 2=.ptr (H.next+1) 0 0 /\ E 3=aa n /\ E 4=.ptr (H.next+3) 0 0 /\ E 5=ae P /\ E 10=aa i) (by simp only[go_sem,f1,f2,f3,f4,f5,h10]) fun E ⟨e1,e2,e3,e4,e5,e10⟩=>?_
  refine W.vs ?_;have hFn:=hF.1;have m0:=aj ((hF.2.1 H.next (by omega) (by omega)).trans g0');have m1:=aj ((hF.2.1 (H.next+1) (by omega) (by omega)).trans g1');have m3:=aj ((hF.2.1 (H.next+3) (by omega) (by omega)).trans g3');have m0':∀ L,(ext Hy L).live H.next 0=some (25,[.lit (.int .u8 g0),.vec ps.length (dx ps),.vec ord.length (aU ord)]):=fun L=>(dF (by omega)).trans m0;by_cases hb:(i:Int)<n
  ·obtain⟨pv,hpv⟩:=get_of_lt (l:=P) (i:=i) (by omega);have hpr:=hperm.rng pv (Pq hpv);obtain⟨v,rfl⟩:=PM hpr.1;have hnl:=L.len;obtain⟨x,hx⟩:=get_of_lt (l:=ns) (i:=v) (by omega);have hpne:=aL hpv;have hiP:(i:Int)<P.length:=(by omega);have hP1:∀ k:Nat,k<n->∃ u:Nat,P[k]?=some (u:Int)/\u<n:=fun k hk=>by
    obtain⟨q,hq⟩:=get_of_lt (l:=P) (i:=k) (by omega);have:=hperm.rng q (Pq hq);obtain⟨u,rfl⟩:=PM this.1;exact⟨u,hq,by omega⟩
   have hpc:∀ (B:List AVal),B=(if (i:Int)<ps.length then (dx ps).drop (i*3) |>.take 3 else [.lit (.int .u8 0),.lit (.int .u8 0),.lit (.slice none 0 0)])->∃ (pc par:Int) (bs:List Int) (wv:AVal),B=[.lit (.int .u8 pc),.lit (.int .u8 par),wv]/\(par=(ik ps i).1/\bs=(ik ps i).2)/\U8 par/\(∀ b∈bs,U8 b)/\(bs.length:Int)<2 ^ 63/\wv.one=true/\wv.cells=[wv]/\∀ H0,Fz (fun _=>True) H0 0 wv (.vec bs.length (aU bs)):=by
    rintro B rfl;by_cases hp:(i:Int)<ps.length
    ·obtain⟨y,hy⟩:=get_of_lt (l:=ps) (i:=i) (by omega);have hyo:=hps y (Pq hy);rw[Pv hp,BY hy];exact⟨y.card,y.par,y.w,_,rfl,⟨by unfold ik;rw[hy],by unfold ik;rw[hy]⟩,hyo.2.1,hyo.2.2.2,hyo.2.2.1,rfl,rfl,fun H0=>.vec rfl fun i hi _=>by simp only[aU,PB];exact .lit _⟩
    ·rw[Pt hp];exact⟨0,0,[],_,rfl,⟨by unfold ik;rw[PD (by omega)],by unfold ik;rw[PD (by omega)]⟩,by unfold U8;omega,by simp,by simp,rfl,rfl,fun H0=>.nil⟩
   by_cases hp:(i:Int)<ps.length
   case' pos =>
    have hc1:i*3+3<=(dx ps).length:=(by rw[BZ];omega);have hcne:¬ dx ps=[]:=fun h=>by rw[h]at hc1;simp at hc1
    rw[Pv hp]at hpc;obtain⟨pc,par,bs,wv,hc0,hpw,hpar,hbs,hbl,hwo,hwc,hwf⟩:=hpc _ rfl;simp only[go_sem,e1,e3,e5,e10,m0',hb,hp,hc0,hc1,hcne,hpv,hpne,hiP,hwo,Bool.and_true];obtain⟨Hz,hHz⟩:∃ Hz,Hz=ext Hy [.arr 0 86 [.lit (.int .u8 pc),.lit (.int .u8 par),wv]]:=⟨_,rfl⟩
    clear hpc hc0 hc1 hcne hp
   case' neg =>
    rw[Pt hp]at hpc;obtain⟨pc,par,bs,wv,hc0,hpw,hpar,hbs,hbl,hwo,hwc,hwf⟩:=hpc _ rfl;simp only[go_sem,e1,e3,e5,e10,m0',hb,hp,hpv,hpne,hiP];rw[hc0];obtain⟨Hz,hHz⟩:∃ Hz,Hz=ext Hy [.arr 0 86 [.lit (.int .u8 pc),.lit (.int .u8 par),wv]]:=⟨_,rfl⟩
    clear hpc hc0 hp
   all_goals
    rw[<- hHz];refine W.env fun E3 hE3=>?_;have k1:E3 1=.ptr H.next 0 0:=(by rw[hE3];simp only[go_sem,e1]);have k2:E3 2=.ptr (H.next+1) 0 0:=(by rw[hE3];simp only[go_sem,e2]);have k3:E3 3=aa n:=(by rw[hE3];simp only[go_sem,e3]);have k4:E3 4=.ptr (H.next+3) 0 0:=(by rw[hE3];simp only[go_sem,e4]);have k5:E3 5=ae P:=(by rw[hE3];simp only[go_sem,e5]);have k10:E3 10=aa i:=(by rw[hE3];simp only[go_sem,e10]);have k11:E3 11=.ptr Hy.next 0 0:=(by rw[hE3];simp only[go_sem]);have k12:E3 12=aa v:=(by rw[hE3];simp only[go_sem]);have k13:E3 13=aa 0:=(by rw[hE3];simp only[go_sem]);clear hE3;have nz:Hz.next=Hy.next+1:=(by rw[hHz];rfl);have z3:Hz.get (H.next+3)=some (.arr 0 35 [.lit (.int .i64 g),.own (H.next+2) 0 0 n 3]):=(by rw[hHz,bY _ _ _ (by omega)];exact(hF.2.1 (H.next+3) (by omega) (by omega)).trans g3');have zP:Hz.get Hy.next=some (.arr 0 86 [.lit (.int .u8 pc),.lit (.int .u8 par),wv]):=(by rw[hHz];exact cJ);have zN:Hz.get (H.next+2)=some (.arr 0 69 (bB ns)):=(by rw[hHz,bY _ _ _ (by omega)];exact hF.2.2);have zO:∀ id,id<H1.next->id≠H.next+2->Hz.get id=H1.get id:=fun id h1 h2=>by rw[hHz,bY _ _ _ (by omega)];exact hF.2.1 id h1 h2
    obtain⟨xr,xp⟩:=L.todo i v x (Nat.le_refl _) hpv hx;have hzl:=B1 ns;have hvn:=get_lt hx;have hcx:(bB ns)[v*3+1]?=some (.lit (.slice none 0 0)):=by
     have:=jx (f:=NodeP.bW) (z:=3) iO ns v 1 x hx (by omega);rw[show (bB ns)[v*3+1]?=_ from this];unfold NodeP.bW;rw[Pv xr];rfl
    clear hHz e1 e2 e3 e4 e5 e10 f1 f2 f3 f4 f5 m0' m0 m1 m3;have vlt:(v:Int)<n:=hpr.2;have v0:(v:Int) >= 0:=hpr.1;have hset:∀ pv pv',setAt ((bB ns).set (v*3+1) pv) (v*3+1) [pv']=(bB ns).set (v*3+1) pv':=fun pv pv'=>by rw[gO (by rw[Py];omega),RF]
    have hgetc:∀ pv,((bB ns).set (v*3+1) pv)[v*3+1]?=some pv:=fun pv=>PF (by omega);refine W.xC (Q':=fun e s2=>e=.exit 4/\∃ pv l,s2.ρ 1=.ptr H.next 0 0/\s2.ρ 2=.ptr (H.next+1) 0 0/\s2.ρ 3=aa n/\s2.ρ 4=.ptr (H.next+3) 0 0/\s2.ρ 5=ae P/\s2.ρ 10=aa i/\s2.ρ 11=.ptr Hy.next 0 0/\s2.ρ 12=aa v/\xf Hz s2.H (H.next+2) (v*3+1) (bB ns) pv l/\ParU P i n 0 l/\l=eI par P i n 0) ?_ ?_
    ·refine W.aN 44601490397061167054908922280959129468035072 (by rfl) (fun ρ Hu=>∃ (u:Nat) (pv:AVal) (l:List Int),ρ 13=aa u/\u<=n/\xf Hz Hu (H.next+2) (v*3+1) (bB ns) pv l/\ParU P i u 0 l/\l=eI par P i u 0) (fun ρ H=>n - (iv (ρ 13)).toNat) ?_ ?_
     ·simp only[go_sem,k13];refine⟨0,.lit (.slice none 0 0),[],rfl,by omega,⟨⟨Nat.le_refl _,fun _ _ _=>rfl,?_⟩,.nil⟩,⟨by simp,by simp,by simp,by simp⟩,rfl⟩;rw[zN,kX hcx]
     rintro ρu Hu ⟨u,pv,l,h13,hu,hS,hL,hPk⟩;refine W.env fun E4 hE4=>?_;have q3:E4 3=aa n:=(by rw[hE4];simp only[go_sem,k3]);have q4:E4 4=.ptr (H.next+3) 0 0:=(by rw[hE4];simp only[go_sem,k4]);have q5:E4 5=ae P:=(by rw[hE4];simp only[go_sem,k5]);have q10:E4 10=aa i:=(by rw[hE4];simp only[go_sem,k10]);have q11:E4 11=.ptr Hy.next 0 0:=(by rw[hE4];simp only[go_sem,k11]);have q12:E4 12=aa v:=(by rw[hE4];simp only[go_sem,k12]);have q13:E4 13=aa u:=(by rw[hE4];simp only[go_sem,h13]);have q1:E4 1=.ptr H.next 0 0:=(by rw[hE4];simp only[go_sem,k1]);have q2:E4 2=.ptr (H.next+1) 0 0:=(by rw[hE4];simp only[go_sem,k2]);clear hE4;refine W.vs ?_;by_cases hub:(u:Int)<n
     ·have u1:=Ps ((u:Int)+1) (by omega);simp only[go_sem,q3,q13,hub];refine W.aN 44601490397058710981870980086493729605566464 (by rfl) (fun ρ Hk=>∃ (k:Nat) (pv:AVal) (l:List Int),ρ 14=aa k/\k<=i/\Hu.next<=Hk.next/\xf Hz Hk (H.next+2) (v*3+1) (bB ns) pv l/\ParU P i u k l/\l=eI par P i u k) (fun ρ H=>i - (iv (ρ 14)).toNat) ?_ ?_
      ·simp only[go_sem];exact⟨0,pv,l,rfl,by omega,hS,hL,hPk⟩
      clear hS hL hPk;rintro ρk Hk ⟨k,pv,l,h14,hk,hnk,hS,hL,hPk⟩;refine W.env fun E5 hE5=>?_;have r4:E5 4=.ptr (H.next+3) 0 0:=(by rw[hE5];simp only[go_sem,q4]);have r5:E5 5=ae P:=(by rw[hE5];simp only[go_sem,q5]);have r10:E5 10=aa i:=(by rw[hE5];simp only[go_sem,q10]);have r11:E5 11=.ptr Hy.next 0 0:=(by rw[hE5];simp only[go_sem,q11]);have r12:E5 12=aa v:=(by rw[hE5];simp only[go_sem,q12]);have r13:E5 13=aa u:=(by rw[hE5];simp only[go_sem,q13]);have r14:E5 14=aa k:=(by rw[hE5];simp only[go_sem,h14]);clear hE5;refine W.vs ?_;by_cases hki:(k:Int)<i
      ·obtain⟨hFz,hOz⟩:=hS;have hFz1:=hFz.1;obtain⟨a,ha,han⟩:=hP1 k (by omega);have hane:=aL ha;have hkP:(k:Int)<P.length:=(by omega);have s1:=Ps ((k:Int)+1) (by omega);have s2:=P8 (k:Int) (by omega);have y3:=aj ((hFz.2.1 (H.next+3) (by omega) (by omega)).trans z3);have yP:=aj ((hFz.2.1 Hy.next (by omega) (by omega)).trans zP);have yN:=aj hFz.2.2;have hgc:=hgetc pv;have hcne2:=aL hgc;obtain⟨r2,hr2e⟩:∃ r2,r2=B6 par k:=⟨_,rfl⟩
       obtain⟨r1,hr1e⟩:∃ r1,r1=par.fdiv (2 ^ (min ((k:Int)).toNat IntKind.u8.bits)):=⟨_,rfl⟩
       have hr1:∀ t o1 o2,aX Try.prog .shr t o1 o2 (.lit (.int .u8 par)) (.lit (.int .u64 (k:Int)))=some (.lit (.int .u8 r1)):=fun _ _ _=>by rw[hr1e];exact qB (by omega)
       have hr2:∀ t o1 o2,aX Try.prog .and t o1 o2 (.lit (.int .u8 r1)) (.lit (.int .u8 1))=some (.lit (.int .u8 r2)):=fun _ _ _=>by rw[hr2e,hr1e];exact tK
       have hlen:=xe hOz (d:=some (.slice 3)) rfl;rw[uK,aS]at hlen;by_cases hau:(a:Int)=u
       ·have hau':a=u:=(by omega);by_cases hr:r2=1
        ·by_cases hl3:(l.length:Int)<3
         ·simp only[go_sem,r4,r5,r10,r11,r12,r13,r14,hki,ha,hane,hkP,s2,y3,yP,yN,hgc,hr1,hr2,hlen,hau,hr,hl3,vlt,v0];obtain⟨pv',Hj,hA,hO',hn',hpr'⟩:=jc (P:=Try.prog) (H:=Hk) (t:=39) (x:=aa u) (n:=Hk.next+1) Try.underlying39 Try.eg Try.eX rfl (by rw[Try.fG,aS];omega) hOz hFz1 rfl;simp only[aa]at hA;have keep:∀ id,id<Hz.next->Hj.get id=Hk.get id:=fun id h=>hpr' id (by omega) (hOz.ne h);have y3j:=aj ((keep _ (by omega)).trans ((hFz.2.1 (H.next+3) (by omega) (by omega)).trans z3));have yNj:=aj ((keep _ (by omega)).trans hFz.2.2);refine W.draw 12 [0,1,0,0,8,0,56,120,248,0,512,2040] Try.mixed (by kernel_rfl) (by kernel_rfl) ?_;simp only[go_sem,r4,r12,r13,r14,y3,yN,yNj,hgc,vlt,v0,hA,s1];have hdj:kh (if iY pv=true then { eff:=aF pv,rs:=aF pv++[Hk.next] } else { eff:=[Hk.next+1],rs:=[Hk.next] }) { eff:=[],rs:=[H.next+3] }:=by
           rcases hOz with ⟨hO1,_⟩|⟨id,gg,hO1,hO2,hO3,_⟩
           ·rw[hO1];show kh { eff:=[Hk.next+1],rs:=[Hk.next] } _;exact⟨fun a ha=>by (obtain rfl:a=Hk.next+1:=by simpa using ha);simp;omega,fun a ha=>by simp at ha⟩
           ·rw[hO3];show kh { eff:=[id],rs:=[id]++[Hk.next] } _;exact⟨fun a ha=>by (obtain rfl:a=id:=by simpa using ha);simp;omega,fun a ha=>by simp at ha⟩
          have hpc1:=hO'.cells;rw[hpc1];refine⟨⟨by omega,by omega,by omega,by omega,by omega,by omega,by omega⟩,⟨hdj,hdj⟩,⟨rfl,by simp [hO'.one],by rw[Py];simp;omega⟩,by rw[aC];omega,⟨k+1,pv',l++[(u:Int)],rfl,by omega,by rw[aC];omega,⟨⟨by rw[aC];omega,fun id h1 h2=>by rw[ag,Pt h2,keep _ h1];exact hFz.2.1 id h1 h2,?_⟩,?_⟩,hL.add hperm (by omega) (by rw[ha,hau]) (by omega),by rw[qq,<- hPk];unfold kU;rw[Pv ⟨by rw[ha,hau],by rw[<- hr2e];exact hr,by omega⟩]⟩,by rw[h14];simp only[aa,aW];omega⟩
          ·rw[ag,Pv rfl,hset]
          ·have:=hO'.keep (lo':=Hz.next) (H':=Hj.upd (H.next+2) (.arr 0 69 (setAt ((bB ns).set (v*3+1) pv) (v*3+1) [pv']))) (Nat.le_refl _) (Nat.le_refl _) fun id _ h1 _ _ _=>by rw[ag,Pt (by omega)]
           simpa [ints,aa] using this
         ·simp only[go_sem,r4,r5,r10,r11,r12,r13,r14,hki,ha,hane,hkP,s1,s2,y3,yP,yN,hgc,hr1,hr2,hlen,hau,hr,hl3,vlt,v0];exact⟨hnk,⟨k+1,pv,l,rfl,by omega,hnk,⟨hFz,hOz⟩,hL.skip,by rw[qq,<- hPk];unfold kU;rw[Pt fun h=>hl3 (by have:=h.2.2;omega)]⟩,by rw[h14];simp only[aa,aW];omega⟩
        ·simp only[go_sem,r5,r10,r11,r13,r14,hki,ha,hane,hkP,s1,s2,yP,hr1,hr2,hau,hr];exact⟨hnk,⟨k+1,pv,l,rfl,by omega,hnk,⟨hFz,hOz⟩,hL.skip,by rw[qq,<- hPk];unfold kU;rw[Pt fun h=>hr (by rw[hr2e];exact h.2.1)]⟩,by rw[h14];simp only[aa,aW];omega⟩
       ·simp only[go_sem,r5,r10,r13,r14,hki,ha,hane,hkP,s1,hau];exact⟨hnk,⟨k+1,pv,l,rfl,by omega,hnk,⟨hFz,hOz⟩,hL.skip,by rw[qq,<- hPk];unfold kU;rw[Pt fun h=>hau (by have h1:=h.1;rw[ha]at h1;exact Option.some.inj h1)]⟩,by rw[h14];simp only[aa,aW];omega⟩
      ·obtain rfl:k=i:=(by omega);simp only[go_sem,r10,r13,r14,hki,u1];exact⟨by have:=hS.1.1;omega,⟨u+1,pv,l,rfl,by omega,hS,hL.next,by rw[B7];exact hPk⟩,by rw[h13];simp only[aa,aW];omega⟩
     ·obtain rfl:u=n:=(by omega);simp only[go_sem,q1,q2,q3,q4,q5,q10,q11,q12,q13,hub];exact⟨pv,l,hS,hL,hPk⟩
    ·rintro e s2 ⟨rfl,pv,l,a1,a2,a3,a4,a5,a10,a11,a12,⟨hFz,hOz⟩,hL,hPk⟩;have hFz1:=hFz.1;obtain⟨rk,hrk,hfz⟩:∃ rk,Hz.next<=rk/\Fz (fun id=>id=rk) s2.H s2.H.next pv (ae l):=by
      rcases hOz with ⟨hO1,hO2⟩|⟨id,gg,hO1,hO2,hO3,hO4⟩
      ·have:l=[]:=by cases l with
        | nil=>rfl
        | cons b l=>simp [ints]at hO2
       rw[hO1,this];exact⟨s2.H.next,hFz1,.nil⟩
      ·refine⟨id,hO1,?_⟩;rw[hO3,aS];refine .frz rfl hO4 (by rw[Nat.mul_one,aS]) fun j hj h2 h'=>?_;simp only[Nat.zero_add,ints,PB];exact .lit _
     have hne2:H.next+2≠rk:=(by omega);refine⟨⟨s2.ρ,s2.H.dD rk (H.next+2) (.arr 0 69 ((bB ns).set (v*3+1) (ae l)))⟩,dh.dD aK hFz.2.2 hne2 (by simp) (Cy (B4 ns) hfz),Nat.le_refl _,trivial,?_⟩;obtain⟨Hm,hHm⟩:∃ Hm,Hm=s2.H.dD rk (H.next+2) (.arr 0 69 ((bB ns).set (v*3+1) (ae l))):=⟨_,rfl⟩
     rw[<- hHm];have hFm:jV Hz Hm (H.next+2) ((bB ns).set (v*3+1) (ae l)):=by
      rw[hHm];exact⟨hFz1,fun id h1 h2=>(qC (by omega) h2).trans (hFz.2.1 id h1 h2),tQ hne2⟩
     clear hFz hOz hfz hHm hne2 hrk;simp only[go_sem];refine W.env fun E6 hE6=>?_;have y1:E6 1=.ptr H.next 0 0:=(by rw[hE6];simp only[go_sem,a1]);have y2:E6 2=.ptr (H.next+1) 0 0:=(by rw[hE6];simp only[go_sem,a2]);have y3:E6 3=aa n:=(by rw[hE6];simp only[go_sem,a3]);have y4:E6 4=.ptr (H.next+3) 0 0:=(by rw[hE6];simp only[go_sem,a4]);have y5:E6 5=ae P:=(by rw[hE6];simp only[go_sem,a5]);have y10:E6 10=aa i:=(by rw[hE6];simp only[go_sem,a10]);have y11:E6 11=.ptr Hy.next 0 0:=(by rw[hE6];simp only[go_sem,a11]);have y12:E6 12=aa v:=(by rw[hE6];simp only[go_sem,a12]);have y15:E6 15=aa 0:=(by rw[hE6];simp only[go_sem]);clear hE6 a1 a2 a3 a4 a5 a10 a11 a12;have lsm:dC (bd cs l):=mz (by rw[iP];have:=hL.p3;omega) fun c hc=>by
      unfold bd at hc;obtain⟨q,hq,rfl⟩:=PQ.1 hc;have hqr:=hL.rng q hq;obtain⟨c,hc⟩:=get_of_lt (l:=cs) (i:=q.toNat) (by rw[csl];rcases hqr.2 with h|⟨_,k',h,_⟩<;>omega);rw[bH hc];have:=hc23 c (Pq hc);omega
     have lpos:0<au (bd cs l)/\au (bd cs l)<=27:=by
      have c3:∀ c∈bd cs l,1<=c/\c<=3:=fun c hc=>by
       unfold bd at hc;obtain⟨q,hq,rfl⟩:=PQ.1 hc;have hqr:=hL.rng q hq;obtain⟨c,hc⟩:=get_of_lt (l:=cs) (i:=q.toNat) (by rw[csl];rcases hqr.2 with h|⟨_,k',h,_⟩<;>omega);rw[bH hc];have:=hc23 c (Pq hc);omega
      have h1:=hZ fun c hc=>(c3 c hc).1;have h2:=(kO (b:=3) (by omega) fun c hc=>⟨by have:=(c3 c hc).1;omega,(c3 c hc).2⟩).2;have h3:(3:Int) ^ (bd cs l).length<=3 ^ 3:=by
       have:(3:Nat) ^ (bd cs l).length<=3 ^ 3:=PJ (by decide) (by rw[iP];exact hL.p3)
       exact_mod_cast this
      omega
     obtain⟨R,hR⟩:=PM (show 0<=au (bd cs l) by omega);have hxc:2<=x.card/\x.card<=3:=hc23 x.card (by rw[<- L.cards];exact Pq (cQ hx));have hFm1:=hFm.1;have w3:Hm.get (H.next+3)=some (.arr 0 35 [.lit (.int .i64 g),.own (H.next+2) 0 0 n 3]):=(hFm.2.1 _ (by omega) (by omega)).trans z3;have wP:Hm.get Hy.next=some (.arr 0 86 [.lit (.int .u8 pc),.lit (.int .u8 par),wv]):=(hFm.2.1 _ (by omega) (by omega)).trans zP;obtain⟨C1,hC1⟩:∃ C1,C1=(bB ns).set (v*3+1) (ae l):=⟨_,rfl⟩
     have c1l:C1.length=ns.length*3:=(by rw[hC1,Py,hzl]);have hcx2:C1[v*3+2]?=some (.lit (.slice none 0 0)):=by
      have:=jx (f:=NodeP.bW) (z:=3) iO ns v 2 x hx (by omega);rw[hC1,PO (by omega),show (bB ns)[v*3+2]?=_ from this];unfold NodeP.bW;rw[Pv xr];rfl
     have hcx0:C1[v*3]?=some (aa x.card):=(by rw[hC1,PO (by omega)];exact B2 hx);rw[<- hC1]at hFm;have hset2:∀ rv rv',setAt (C1.set (v*3+2) rv) (v*3+2) [rv']=C1.set (v*3+2) rv':=fun rv rv'=>by rw[gO (by rw[Py];omega),RF]
     have hgc2:∀ rv,(C1.set (v*3+2) rv)[v*3+2]?=some rv:=fun rv=>PF (by omega);have hgc0:∀ rv,(C1.set (v*3+2) rv)[v*3]?=some (aa x.card):=fun rv=>by rw[PO (by omega)];exact hcx0
     refine W.xC (Q':=fun e s2=>e=.exit 8/\∃ (rv:AVal) (rows:List (List Int)),s2.ρ 1=.ptr H.next 0 0/\s2.ρ 2=.ptr (H.next+1) 0 0/\s2.ρ 3=aa n/\s2.ρ 4=.ptr (H.next+3) 0 0/\s2.ρ 5=ae P/\s2.ρ 10=aa i/\rows.length=R/\rows=jy g x.card bs R/\(∀ r∈rows,iQ g x.card r)/\jV Hm s2.H (H.next+2) (C1.set (v*3+2) rv)/\aA Hm.next s2.H 39 rv (rows.map ae)) ?_ ?_
     ·refine W.aN 98079714615372285444537148491336716315054007096738611200 (by rfl) (fun ρ Hr=>∃ (r:Nat) (rv:AVal) (rows:List (List Int)),ρ 15=aa r/\r<=R/\rows.length=r/\rows=jy g x.card bs r/\(∀ r∈rows,iQ g x.card r)/\jV Hm Hr (H.next+2) (C1.set (v*3+2) rv)/\aA Hm.next Hr 39 rv (rows.map ae)) (fun ρ H=>R - (iv (ρ 15)).toNat) ?_ ?_
      ·simp only[go_sem,y15];refine⟨0,.lit (.slice none 0 0),[],rfl,by omega,rfl,rfl,by simp,⟨Nat.le_refl _,fun _ _ _=>rfl,?_⟩,.nil⟩;rw[hFm.2.2,kX hcx2]
      rintro ρr Hr ⟨r,rv,rows,h15,hr,hrl,hrD,hrows,hFr,hOr⟩;refine W.env fun E7 hE7=>?_;have b1:E7 1=.ptr H.next 0 0:=(by rw[hE7];simp only[go_sem,y1]);have b2:E7 2=.ptr (H.next+1) 0 0:=(by rw[hE7];simp only[go_sem,y2]);have b3:E7 3=aa n:=(by rw[hE7];simp only[go_sem,y3]);have b4:E7 4=.ptr (H.next+3) 0 0:=(by rw[hE7];simp only[go_sem,y4]);have b5:E7 5=ae P:=(by rw[hE7];simp only[go_sem,y5]);have b10:E7 10=aa i:=(by rw[hE7];simp only[go_sem,y10]);have b11:E7 11=.ptr Hy.next 0 0:=(by rw[hE7];simp only[go_sem,y11]);have b12:E7 12=aa v:=(by rw[hE7];simp only[go_sem,y12]);have b15:E7 15=aa r:=(by rw[hE7];simp only[go_sem,h15]);clear hE7;refine W.vs ?_;have hFr1:=hFr.1;have v3:=aj ((hFr.2.1 (H.next+3) (by omega) (by omega)).trans w3);have vP:=aj ((hFr.2.1 Hy.next (by omega) (by omega)).trans wP);have vN:=aj hFr.2.2;have hzp:∀ z∈ns,z.rows=[]->z.parents=[]:=fun z hz hz0=>by
       obtain⟨u,hu⟩:=PT.1 hz;have hm:=oA ord n u (by have:=get_lt hu;omega);rw[<- hP]at hm;obtain⟨j,hj⟩:=PT.1 hm;rcases PR j i with h|h
       ·exact absurd hz0 (L.done j u z h hj hu).ne
       ·exact(L.todo j u z h hj hu).2
      have hcard:ar (ns.set v ⟨x.card,l,rows⟩)=cs:=by
       have h1:ar (ns.set v ⟨x.card,l,rows⟩)=(ar ns).set v x.card:=(by unfold ar;rw[RY]);rw[h1,kX (cQ hx),L.cards]
      have hpar:bh (ns.set v ⟨x.card,l,rows⟩) ⟨x.card,l,rows⟩=bd cs l:=(by unfold bh;rw[hcard]);have fzN:Fz (fun _=>True) Hr 0 (.agg [aa g,.own (H.next+2) 0 0 n 3]) (aG g (ns.set v ⟨x.card,l,rows⟩)):=by
       refine .agg rfl fun i hi _=>?_
       match i,hi with
       | 0,_=>exact .lit _
       | 1,_ =>
        show Fz _ _ _ _ (.vec (ns.set v ⟨x.card,l,rows⟩).length (aq (ns.set v ⟨x.card,l,rows⟩)));rw[Py,hnl,Od (y:=⟨x.card,l,rows⟩) hx rfl];refine .frz trivial hFr.2.2 (by rw[Py,Py,hU];omega) fun j hj h2 h'=>?_;simp only[Nat.zero_add];refine B3 (A:=C1) (B:=(aq ns).set (v*3+1) (ae l)) ?_ ?_ j _ _
        ·rw[hC1];exact B3 (Oc ns hzp) (.dm _)
        ·have:=hOr.fz (S:=fun _=>True) (nx:=0) (cs':=rows.map ae) (fun _ _=>trivial) rfl fun i hi _=>by simp only[PB];exact .dm _
         rw[Px]at this;exact this
      simp only[go_sem,b4,b12,b15,v3];refine az.clo ((ab.frame (H:=Hr) (args:=[.agg [aa g,.own (H.next+2) 0 0 n 3],aa v]) (args':=[aG g (ns.set v ⟨x.card,l,rows⟩),aa v]) (v':=ae (bd cs l)) aK rfl (fun i hi _=>?_) (Of g (ns.set v ⟨x.card,l,rows⟩) v ⟨x.card,l,rows⟩ (PF hvn) (by rw[Py];omega) (by show (l.length:Int)<_;have:=hL.p3;omega) (fun q hq=>by
        have hqr:=hL.rng q hq;rw[Py];rcases hqr.2 with h|⟨_,k',h,_⟩<;>omega) cF _ fun w Hq _ ho=>⟨_,rfl,by rw[hpar]at ho;exact ho.tJ⟩)).mono fun r1 H1' hr1=>?_)
      ·match i,hi with
       | 0,_=>exact fzN
       | 1,_=>exact .lit _
      obtain⟨rfl,rfl⟩:=hr1;refine⟨trivial,?_⟩;simp only[go_sem];refine az.clo (xj (bd cs l) lsm _ _ ⟨trivial,?_⟩);rw[hR];by_cases hrR:(r:Int)<R
      ·simp only[go_sem,hrR];obtain⟨xn,hxn⟩:=PM (show 0<=x.card by omega);have rc:0<=(r:Int)*(x.card+1)/\(r:Int)*(x.card+1)<=27*4:=⟨Rt (by omega) (by omega),Rg (by omega) (by omega) (by omega) (by omega)⟩
       have c1:=Ps (x.card+1) (by omega);have c2:=Ps ((r:Int)*(x.card+1)) (by omega);have c3:=Ps ((r:Int)+1) (by omega);have hg2:=hgc2 rv;have hg0':=hgc0 rv;have hg2n:=aL hg2;obtain⟨row,hrow⟩:∃ row,row=kT g xn bs ((r:Int)*(x.card+1)):=⟨_,rfl⟩
       have hrok:iQ g x.card row:=(by rw[hrow,hxn];exact BX hg1.1 (by omega) _ _);have hpc84:∀ Hq,cI Try.prog G0 (.clo 38 [] []) [aa g,aa x.card,wv,aa ((r:Int)*(x.card+1))] Hq (ae row) []:=fun Hq=>by
        refine cI.mk (fun i hi=>by cases hi) fun H2 _ _=>?_;refine ab.frame (H:=H2) (args:=[aa g,aa x.card,wv,aa ((r:Int)*(x.card+1))]) (args':=[aa g,aa xn,.vec bs.length (aU bs),aa ((r:Int)*(x.card+1))]) (v':=ae row) aK rfl (fun i hi _=>?_) (N9 g xn hg1 (by omega) bs hbl hbs _ (by omega) cF _ fun w Hw _ ho=>⟨_,rfl,by rw[hrow];exact ho.tJ⟩)
        match i,hi with
        | 0,_=>exact .lit _
        | 1,_=>rw[hxn];exact .lit _
        | 2,_=>exact hwf _
        | 3,_=>exact .lit _
       obtain⟨rv',Hj,hA,hO',hn',hpr'⟩:=jc (P:=Try.prog) (H:=H1') (t:=40) (x:=ae row) (n:=H1'.next+1) Try.underlying40 Try.ma Try.me rfl (by rw[Try.md,Px];omega) hOr hFr1 rfl;have keep:∀ id,id<Hm.next->Hj.get id=H1'.get id:=fun id h=>hpr' id (by omega) (hOr.ne h);have v3j:=aj ((keep _ (by omega)).trans ((hFr.2.1 (H.next+3) (by omega) (by omega)).trans w3));have vNj:=aj ((keep _ (by omega)).trans hFr.2.2);have hA':bC Try.prog (ext H1' [.arr 0 39 [.vec row.length (ints row)]]) (H1'.next+1) 40 40 rv (.own H1'.next 0 0 1 1)=some (rv',Hj):=hA;refine W.draw 31 [0,1,0,0,8,0,56,120,248,0,512,0,2048,0,14336,30720,63488,0,131072,0,0,1048576,0,7340032,15728640,32505856,66060288,133693440,268434944,536870400,1073741816] Try.mixed (by kernel_rfl) (by kernel_rfl) ?_;simp only[go_sem,b4,b11,b12,b15,v3,vP,vN,hg2,hg0',vlt,v0,c1,c2];refine⟨ae row,[],hpc84 _,?_⟩;simp only[go_sem,b4,b11,b12,b15,vNj,vlt,v0,c3,hA'];have hdj:kh (if iY rv=true then { eff:=aF rv,rs:=aF rv++[H1'.next] } else { eff:=[H1'.next+1],rs:=[H1'.next] }) { eff:=[],rs:=[H.next+3] }:=by
        rcases hOr with ⟨hO1,_⟩|⟨id,gg,hO1,hO2,hO3,_⟩
        ·rw[hO1];show kh { eff:=[H1'.next+1],rs:=[H1'.next] } _;exact⟨fun a ha=>by (obtain rfl:a=H1'.next+1:=by simpa using ha);simp;omega,fun a ha=>by simp at ha⟩
        ·rw[hO3];show kh { eff:=[id],rs:=[id]++[H1'.next] } _;exact⟨fun a ha=>by (obtain rfl:a=id:=by simpa using ha);simp;omega,fun a ha=>by simp at ha⟩
       rw[hO'.cells];refine⟨⟨by omega,by omega,by omega,by omega,by omega,by omega,by omega⟩,⟨hdj,hdj⟩,⟨rfl,by simp [hO'.one],by rw[Py,c1l];simp;omega⟩,by rw[aC];omega,⟨r+1,rv',rows++[row],rfl,by omega,by simp [hrl],by rw[Oh,<- hrD,hrow,show x.card.toNat=xn by omega],fun q hq=>?_,⟨by rw[aC];omega,fun id h1 h2=>by rw[ag,Pt h2,keep _ h1];exact hFr.2.1 id h1 h2,?_⟩,?_⟩,by rw[h15];simp only[aa,aW];omega⟩
       ·rcases PK.1 hq with h|h
        ·exact hrows q h
        ·obtain rfl:=List.mem_singleton.1 h;exact hrok
       ·rw[ag,Pv rfl,hset2]
       ·have:=hO'.keep (lo':=Hm.next) (H':=Hj.upd (H.next+2) (.arr 0 69 (setAt (C1.set (v*3+2) rv) (v*3+2) [rv']))) (Nat.le_refl _) (Nat.le_refl _) fun id _ h1 _ _ _=>by rw[ag,Pt (by omega)]
        simpa using this
      ·simp only[go_sem,b1,b2,b3,b4,b5,b10,hrR];exact⟨rv,rows,by omega,by rw[hrD];congr 1;omega,hrows,hFr,hOr⟩
     ·rintro e s3 ⟨rfl,rv,rows,a1,a2,a3,a4,a5,a10,hrl,hrD,hrows,hFr,hOr⟩;have hFr1:=hFr.1;obtain⟨rk,hrk,hfz⟩:∃ rk,Hm.next<=rk/\Fz (fun id=>id=rk) s3.H s3.H.next rv (ay rows):=by
       rcases hOr with ⟨hO1,hO2⟩|⟨id,gg,hO1,hO2,hO3,hO4⟩
       ·have:rows=[]:=by cases rows with
         | nil=>rfl
         | cons b l=>simp at hO2
        rw[hO1,this];exact⟨s3.H.next,hFr1,.nil⟩
       ·refine⟨id,hO1,?_⟩;rw[hO3,Px];refine .frz rfl hO4 (by rw[Nat.mul_one,Px]) fun j hj h2 h'=>?_;simp only[Nat.zero_add,PB];exact .dm _
      have hne2:H.next+2≠rk:=(by omega);have hC1z:∀ c∈C1,Fz (fun id=>id=rk) s3.H s3.H.next c c:=fun c hc=>by
       rw[hC1]at hc;rcases P3 hc with h|h
       ·exact B4 ns c h
       ·rw[h];exact .dm _
      refine⟨⟨s3.ρ,s3.H.dD rk (H.next+2) (.arr 0 69 (C1.set (v*3+2) (ay rows)))⟩,dh.dD aK hFr.2.2 hne2 (by simp) (Cy hC1z hfz),Nat.le_refl _,trivial,?_⟩;obtain⟨He,hHe⟩:∃ He,He=s3.H.dD rk (H.next+2) (.arr 0 69 (C1.set (v*3+2) (ay rows))):=⟨_,rfl⟩
      rw[<- hHe];have hFe:jV Hm He (H.next+2) (C1.set (v*3+2) (ay rows)):=by
       rw[hHe];exact⟨hFr1,fun id h1 h2=>(qC (by omega) h2).trans (hFr.2.1 id h1 h2),tQ hne2⟩
      clear hFr hOr hfz hHe hne2 hrk;have hFe1:=hFe.1;have i1:=Ps ((i:Int)+1) (by omega);simp only[go_sem,a10,i1];have hiv:∀ j u:Nat,P[j]?=some (u:Int)->u=v->j=i:=fun j u h1 h2=>by
       subst h2;exact(Q5 (get_lt h1) hperm.nd).1 (by rw[h1,hpv])
      have hrne:rows≠[]:=fun h=>by rw[h]at hrl;simp at hrl;omega
      have hdone:DoneN g cs P n i ⟨x.card,l,rows⟩:=⟨⟨hL.pw,fun q hq=>⟨(hL.rng q hq).1,by rcases(hL.rng q hq).2 with h|⟨_,k',h,_⟩<;>omega⟩⟩,hL.p3,hL.rk,by show (rows.length:Int)=_;rw[hrl,hR],hrows,hrne⟩
      refine⟨by omega,⟨i+1,ns.set v ⟨x.card,l,rows⟩,rfl,by omega,⟨by rw[Py];exact hnl,?_,fun j u z hj hu hz=>?_,fun j u z hj hu hz=>?_,fun j u z hj hu hz=>?_,fun j u z hu hz=>?_⟩,by omega,by omega,fun id h1 h2=>?_,?_⟩,by rw[h10];simp only[aa,aW];omega⟩
      ·have h1:ar (ns.set v ⟨x.card,l,rows⟩)=(ar ns).set v x.card:=(by unfold ar;rw[RY]);rw[h1,kX (cQ hx),L.cards]
      ·have huv:¬ u=v:=fun h=>by have:=hiv j u hu h;omega
       rw[PO (by omega)]at hz;exact L.todo j u z (by omega) hu hz
      ·by_cases huv:u=v
       ·obtain rfl:=hiv j u hu huv;rw[huv,PF hvn]at hz;cases hz;exact hdone
       ·rw[PO (by omega)]at hz;have:j≠i:=fun h=>by
         rw[h,hpv]at hu;exact huv (by have:=Option.some.inj hu;omega)
        exact L.done j u z (by omega) hu hz
      ·by_cases huv:u=v
       ·obtain rfl:=hiv j u hu huv;rw[huv,PF hvn]at hz;rw[<- Option.some.inj hz];unfold kV;rw[<- L.cd j v x hpv hx,<- hpw.1,<- hpw.2,<- hPk,hR,hrD];rfl
       ·rw[PO (by omega)]at hz;have:j≠i:=fun h=>by
         rw[h,hpv]at hu;exact huv (by have:=Option.some.inj hu;omega)
        exact L.eq j u z (by omega) hu hz
      ·by_cases huv:u=v
       ·obtain rfl:=hiv j u hu huv;rw[huv,PF hvn]at hz;rw[<- Option.some.inj hz];exact L.cd j v x hpv hx
       ·rw[PO (by omega)]at hz;exact L.cd j u z hu hz
      ·rw[hFe.2.1 id (by omega) h2,hFm.2.1 id (by omega) h2];exact zO id h1 h2
      ·rw[hFe.2.2,Oi (y:=⟨x.card,l,rows⟩) hx rfl hrne,hC1]
  ·obtain rfl:i=n:=(by omega);simp only[go_sem,e2,e3,e4,e10,hb,m1,m3];have hnl:=L.len;have hall:∀ v:Nat,v<ns.length->(v:Int)∈P:=fun v hv=>by rw[hP];exact oA ord i v (by omega)
   have hdn:∀ (v:Nat) (x:NodeP),ns[v]?=some x->∃ j,DoneN g cs P i j x:=fun v x hx=>by
    obtain⟨j,hj⟩:=PT.1 (hall v (get_lt hx));exact⟨j,L.done j v x (by have:=get_lt hj;have:=hperm.len;omega) hj hx⟩
   have hdm:∀ x∈ns,∃ j,DoneN g cs P i j x:=fun x hx=>by
    obtain⟨v,hv⟩:=PT.1 hx;exact hdn v x hv
   have ov:Over H (Hy.upd (H.next+1) (.arr 0 35 [.lit (.int .i64 g),.own (H.next+2) 0 0 i 3])):=⟨by rw[aC];omega,fun id h=>by rw[ag,Pt (by omega),hF.2.1 id (by omega) (by omega)];exact o1.old id h⟩
   have hz:bB ns=aq ns:=Oa fun x hx=>(hdm x hx).elim fun j hj=>hj.ne;have hcl8:∀ x∈ns,2<=x.card/\x.card<=3:=fun x hx=>hc23 x.card (by rw[<- L.cards];exact PQ.2 ⟨x,hx,rfl⟩);have hnet:NetOk g ns:=by
    refine⟨hg1,by omega,fun x hx=>?_,?_,B5 (P:=P) (by rw[hnl];exact hperm) hall fun j v x hj hx q hq=>?_,fun x hx=>?_⟩
    ·obtain⟨j,hj⟩:=hdm x hx;have:=hcl8 x hx;exact⟨by omega,by rw[hnl];exact hj.pl⟩
    ·have h2:=(kO (b:=3) (by omega) (l:=ar ns) fun c hc=>by have:=hc23 c (by rw[<- L.cards];exact hc);omega).2;have h3:(3:Int) ^ (ar ns).length<=3 ^ 5:=by
      have:(3:Nat) ^ (ar ns).length<=3 ^ 5:=PJ (by decide) (by rw[bR];omega)
      exact_mod_cast this
     omega
    ·have hd:=L.done j v x (by have:=get_lt hj;have:=hperm.len;omega) hj hx;exact⟨(hd.pl.2 q hq).1,hd.rk q hq⟩
    ·obtain⟨j,hj⟩:=hdm x hx;unfold gp bh;rw[L.cards];exact⟨hj.rl,hj.ro⟩
   rw[<- hnl];rw[<- hnl]at ov;refine av.mk ov.next (hK g ns (H.next+2) _ ov (by omega) (by rw[aC];omega) ?_ hnet (by omega) (fun x hx=>?_) (fun x hx=>?_) ⟨hg.symm,by rw[hnl];exact hn.symm,by rw[L.cards,hnl,<- hP];exact fun j v x hj hx=>L.eq j v x (by have:=get_lt hj;have:=hperm.len;omega) hj hx,by rw[hnl,<- hP];exact L.cd⟩)
   ·rw[ag,Pt (by omega),hF.2.2,hz]
   ·obtain⟨j,hj⟩:=hdm x hx;exact hj.p3
   ·have:=hc23 x.card (by rw[<- L.cards];unfold ar;exact List.mem_map_of_mem hx);omega
theorem Oj (g0:Int)(ps:List DrP)(ord:List Int)(hg0:U8 g0)(hps:∀ x∈ps,x.Ok)(hpl:(ps.length:Int)<2 ^ 63)(hol:(ord.length:Int)<2 ^ 63)(ho8:∀ x∈ord,U8 x)(H:AHeap)(K:ARes->AHeap->Prop)
  (hK:∀ g ns N H',Over H H'->H.next<=N->N<H'.next->H'.get N=some (.arr 0 69 (aq ns))->NetOk g ns->ns.length<=5->(∀ x∈ns,x.parents.length<=3)->(∀ x∈ns,2<=x.card)->K (.ret (.agg [aa g,.own N 0 0 ns.length 3])) H'):
  ab Try.prog G0 9 [mv g0 ps ord] H K:=B8 g0 ps ord hg0 hps hpl hol ho8 H K fun g ns N H' a b c d e f h i _=>hK g ns N H' a b c d e f h i
theorem Ol (g0:Int)(ps:List DrP)(ord:List Int)(hg0:U8 g0)(hps:∀ x∈ps,x.Ok)(hpl:(ps.length:Int)<2 ^ 63)(hol:(ord.length:Int)<2 ^ 63)(ho8:∀ x∈ord,U8 x)(H:AHeap)(K:ARes->AHeap->Prop)
  (hK:∀ g ns N H',Over H H'->H.next<=N->N<H'.next->H'.get N=some (.arr 0 69 (aq ns))->NetOk g ns->ns.length<=5->(∀ x∈ns,x.parents.length<=3)->K (.ret (.agg [aa g,.own N 0 0 ns.length 3])) H'):
  ab Try.prog G0 9 [mv g0 ps ord] H K:=Oj g0 ps ord hg0 hps hpl hol ho8 H K fun g ns N H' a b c d e f h _=>hK g ns N H' a b c d e f h
def CB (args:Array Value):Sem Value:=do
  let (x, y, c) ← Extern.MathBitsCarry.three "Add64" args
  pure (Extern.MathBitsCarry.pair ((x+y+c) % Extern.MathBitsCarry.m64) ((x+y+c) / Extern.MathBitsCarry.m64))
def db:List AVal->Option AVal
  | [.lit (.int .u64 a),.lit (.int .u64 b),.lit (.int .u64 c)]=>bif Nat.ble c.toNat 1 then some (.tup [.lit (.int .u64 (Int.ofNat ((a.toNat+b.toNat+c.toNat) % 18446744073709551616))),.lit (.int .u64 (Int.ofNat ((a.toNat+b.toNat+c.toNat) / 18446744073709551616)))]) else none
  | _=>none
theorem Ph {P:Program}(a b:Nat)(Γ:aw)(H:AHeap)(w:World):RelV P Γ H w (.tup [.lit (.int .u64 (Int.ofNat a)),.lit (.int .u64 (Int.ofNat b))]) (Extern.MathBitsCarry.pair a b):=by
  unfold Extern.MathBitsCarry.pair;refine RelV.tup (cs:=[.int .u64 (Int.ofNat a),.int .u64 (Int.ofNat b)]) rfl fun i h _=>?_
  match i,h with
  | 0,_=>exact .lit _
  | 1,_=>exact .lit _
theorem Pi {P:Program}(s:String)(w:World)(a b c:Int)(hc:¬ c.toNat > 1):(Extern.MathBitsCarry.three s #[.int .u64 a,.int .u64 b,.int .u64 c]).run P w=.ok (a.toNat,b.toNat,c.toNat) w:=by
  have h1:∀ x:Int,(asInt (.int .u64 x)).run P w=.ok x w:=fun x=>rfl;show (do
    let c:=(<- asInt (.int .u64 c)).toNat
    if c > 1 then unsupported _
    pure ((<- asInt (.int .u64 a)).toNat,(<- asInt (.int .u64 b)).toNat,c):Sem (Nat × Nat × Nat)).run P w=_
  rw[ak (h1 c)];simp only[hc,if_false];rfl
theorem CC {a b c:Int}{r:AVal}(h:db [.lit (.int .u64 a),.lit (.int .u64 b),.lit (.int .u64 c)]=some r){H:AHeap}{K:ARes->AHeap->Prop}(hK:K (.ret r) H):az Try.prog pT (.clo 78 [] []) [.lit (.int .u64 a),.lit (.int .u64 b),.lit (.int .u64 c)] H K:=by
  simp only[db]at h;cases hb:Nat.ble c.toNat 1 with
  | false=>rw[hb]at h;cases h
  | true =>
    rw[hb]at h;have hc:¬ c.toNat > 1:=(by have:=QD hb;omega);cases h;refine az.ext (e:=CB) (vs:=[.int .u64 a,.int .u64 b,.int .u64 c]) Try.func78 rfl (by kernel_rfl) (by kernel_rfl) (by kernel_rfl) rfl (fun w=>?_) (fun Γ H w=>Ph _ _ Γ H w) hK;unfold CB;rw[ak (Pi _ w a b c hc)];rfl
theorem Pj:∀ {args:List AVal} {r:AVal},db args=some r->∃ a b c,args=[.lit (.int .u64 a),.lit (.int .u64 b),.lit (.int .u64 c)]:=by
  intro args r h;unfold db at h;split at h
  · exact⟨_,_,_,rfl⟩
  · cases h
def xD:FuncId->Option (List AVal->Option AVal):=fun f=>bif Nat.beq f 78 then some db else none
theorem Pk {E:EP}(hP:E.P=Try.prog)(hG:E.G=pT)(hx:E.ext=xD):nO E:=by
  intro f e h args r hr H K hK;rw[hx]at h;rw[hP,hG];unfold xD at h;cases h1:Nat.beq f 78 with
  | true =>
    rw[h1]at h;have e1:=PH h1;subst e1;cases h;obtain⟨a,b,c,rfl⟩:=Pj hr;exact CC hr hK
  | false=>rw[h1]at h;cases h
noncomputable def Try.CD:EP:={ P:=Try.prog,G:=G0,gd:=fun _=>none,known:=sS [],ext:=xD }
theorem Try.Pm:EOk Try.CD:=.J7 (l:=[]) rfl aK Try.mixed (fun _ _ h=>by cases h) trivial (Pk rfl rfl rfl)
theorem Try.Pn:vV Try.CD 1000000 17 [] (.lit (.bool true))=true:=by kernel_rfl
theorem Po (H:AHeap)(K:ARes->AHeap->Prop)(hK:K (.ret (.lit (.bool true))) H):ab Try.prog G0 17 [] H K :=
 (ab.frame (args':=[]) aK rfl (fun i h _=>absurd h (PL _)) (J8 Try.Pm Try.Pn)).mono fun r H' ⟨h1,h2⟩=>by rw[h1,h2];exact hK
end Go.Proofs
namespace Go.Hx
variable {P:Program} {G:Nat->Option (List AVal)}
theorem Pl {H:AHeap}(hc:Clo H):FzH (fun _=>False) H H where
 gone id hs:=hs.elim
 kept id b _ hb:=by
  have hbb:=hc.below id b hb;refine⟨hc.lt id b hb,b,hb,?_⟩;cases b with
  | rsv=>trivial
  | mp=>rfl
  | arr g e cells=>exact⟨rfl,rfl,rfl,fun i h _=>.dead (hbb i h)⟩
  | loop st pend n env ps asg body=>exact⟨rfl,rfl,rfl,rfl,rfl,rfl,rfl,fun t ht=>.dead (hbb t ht)⟩
 none id _ hb:=hb
theorem ab.jY {H:AHeap}{f:FuncId}{args args':List AVal}{K:ARes->AHeap->Prop}(hG:eD G)(hl:args'.length=args.length)(hv:∀ i (h:i<args.length) (h':i<args'.length),Fz (fun _=>False) H H.next args[i] args'[i])
  (h:ab P G f args' H K):ab P G f args H K:=by
 refine⟨h.1,fun Γ w cargs R hr=>?_⟩;have F:=Pl R.clo;have R0:=F.rel hG R;have E0:Evo Γ H w (ef (fun _=>False) Γ) H w:=F.aQ;refine(h.2 _ w cargs R0 ⟨by have:=hr.1;omega,fun i h1 h2=>(hv i (by omega) h1).sound R F (hr.2 i (by omega) h2)⟩).mono ?_;rintro e w' ⟨r,H',Γ',h1,h2,h3,h4,h5⟩;exact⟨r,H',Γ',h1,h2,h3,E0.trans (Nat.le_refl _) h4,h5⟩
end Go.Hx
namespace Go.Proofs
open Go.Hx
theorem AJ {S:Nat->Prop}{H:AHeap}{nx:Nat}(l:List NodeP):∀ c∈aq l,Fz S H nx c c:=by
 intro c hc;unfold aq at hc;obtain⟨r,hr,hc⟩:=RI.1 hc;obtain⟨x,_,rfl⟩:=PQ.1 hr;unfold NodeP.cells at hc;simp only[List.mem_cons,List.not_mem_nil,or_false]at hc;rcases hc with rfl|rfl|rfl
 ·exact .lit _
 ·exact .dm _
 ·exact qp _
def pV (g0:Int)(ps:List DrP)(ord:List Int)(cw ca cr cn:Int)(ws ms:List Int)(bw ba bn:Int):List AVal :=
 [.lit (.int .u8 g0),.vec ps.length (dx ps),.vec ord.length (aU ord),.lit (.int .u8 cw),.lit (.int .u8 ca),.lit (.int .u8 cr),.lit (.int .i64 cn),.vec ws.length (fo ws),.vec ms.length (aU ms),.lit (.int .u8 bw),.lit (.int .u8 ba),.lit (.int .i64 bn)]
theorem AK {g:Int}{ns:List NodeP}(hok:NetOk g ns)(hp3:∀ x∈ns,x.parents.length<=3):SmallN 600 ns:=by
 have nn8:=hok.n1.2;refine⟨by omega,fun x hx=>?_⟩;have hx3:=hp3 x hx;have hrow:=hok.rows x hx;have hin:im x.parents ns.length:=fun q hq=>by have:=(hok.node x hx).2.2 q hq;omega
 have hpc:=Cn hin fun y hy=>(hok.node y hy).1;have hpl3:(bh ns x).length<=3:=by rw[show (bh ns x).length=_ from iP _ _];exact hx3
 have hp:=kO (b:=4) (by omega) (l:=bh ns x) fun c hc=>by have:=hpc c hc;omega
 have h4:(4:Nat) ^ (bh ns x).length<=4 ^ 3:=PJ (by decide) hpl3;have h5:((4:Int) ^ (bh ns x).length)<=4 ^ 3:=by exact_mod_cast h4
 have h6:(4:Int) ^ 3=64:=by decide
 have hcard:=(hok.node x hx).1;exact⟨by omega,by have:=hrow.1;omega,fun r hr=>by have:=(hrow.2 r hr).1;exact⟨fun e=>by rw[e]at this;simp at this;omega,by omega⟩⟩
structure StoryP where
 g0:Int
 ps:List DrP
 ord:List Int
 cw:Int
 ca:Int
 cr:Int
 cn:Int
 ws:List Int
 ms:List Int
 bw:Int
 ba:Int
 bn:Int
def StoryP.cells (s:StoryP):List AVal:=pV s.g0 s.ps s.ord s.cw s.ca s.cr s.cn s.ws s.ms s.bw s.ba s.bn
structure StoryP.Ok (s:StoryP):Prop where
 g:U8 s.g0
 p:∀ x∈s.ps,x.Ok
 pl:(s.ps.length:Int)<2 ^ 63
 ol:(s.ord.length:Int)<2 ^ 63
 o8:∀ x∈s.ord,U8 x
 cw:U8 s.cw
 ca:U8 s.ca
 cr:U8 s.cr
 ws:∀ x∈s.ws,0<=x/\x<65536
 ms:∀ x∈s.ms,0<=x/\x<256
 wl:(s.ws.length:Int)<2 ^ 63
 ml:(s.ms.length:Int)<2 ^ 63
 bw:U8 s.bw
 ba:U8 s.ba
structure D05P where
 g:Int
 ps:List DrP
 ord:List Int
def D05P.cells (x:D05P):List AVal:=[.lit (.int .u8 x.g),.vec x.ps.length (dx x.ps),.vec x.ord.length (aU x.ord)]
structure D05P.Ok (x:D05P):Prop where
 g:U8 x.g
 p:∀ y∈x.ps,y.Ok
 pl:(x.ps.length:Int)<2 ^ 63
 ol:(x.ord.length:Int)<2 ^ 63
 o8:∀ y∈x.ord,U8 y
end Go.Proofs
namespace Go.Proofs.Ytakancljiekbhaa
open Go.ChangeShapes Go.WideShapes Go.ChangeAt Go.RowKit Go.Hx
theorem Try.own:ownKnob Try.prog.godebug=none:=by kernel_rfl
theorem Try.laidOut:laidOutB Try.prog=true:=by kernel_rfl
theorem Try.L7:Try.prog.underlying 4=some .bool:=by kernel_rfl
section
variable {W:World} {H:Type} {enc:TypeId × Value->H} {spare:Nat->Bool} {held:Bool}
theorem qg {n:Nat}(h:n<=maxLen):(n:Int)<2 ^ 63:=by
 have:maxLen=9223372036854775807:=by decide
 omega
theorem jR {n:Int}(h:(Lit.int .u8 n).wf=true):U8 n:=by
 have:=wf_u8 h;unfold U8;omega
theorem L8 {n:Int}(h:(Lit.int .u16 n).wf=true):0<=n/\n<65536:=by
 have:0<=n/\n<=65535:=by simpa [Lit.wf,IntKind.min,IntKind.max,IntKind.signed,IntKind.bits] using h
 omega
theorem L9:eP enc Try.prog W spare held 86 fun _ zs=>∃ x:DrP,zs=x.cells/\x.Ok:=by
 have hu:=Try.underlying86;have c1:=Try.oh;have c2:=Try.tu;refine(pn (φ:=fun i _ xs=>if i=2 then ∃ l:List Int,xs=[.vec l.length (po .u8 l)]/\l.length<=maxLen/\∀ c,c∈l->(Lit.int .u8 c).wf=true else ∃ n,xs=[.lit (.int .u8 n)]/\(Lit.int .u8 n).wf=true) hu
  (fun cs hcs=>by
   have hc:Try.prog.cellsOf 86=3:=(by kernel_rfl);rw[hc]at hcs
   match cs,hcs with
   | [a,b,c],_=>simp [c1,c2])
  (fun i hi=>match i,hi with
   | 0,_=>(iC Try.underlying5).mono fun _ _ ⟨n,_,h,w⟩=>⟨n,h,w⟩
   | 1,_=>(iC Try.underlying5).mono fun _ _ ⟨n,_,h,w⟩=>⟨n,h,w⟩
   | 2,_=>(qT Try.underlying23 Try.underlying5 c1).mono fun _ _ h=>h)).mono fun d zs ⟨ds,rows,_,e,hl1,hl2,hall⟩=>?_
 match rows,ds,hl2,hl1,hall with
 | [x,y,z],[d0,d1,d2],_,_,hall =>
  obtain⟨n0,e0,w0⟩:=hall 0 (by simp) (by simp);obtain⟨n1,e1,w1⟩:=hall 1 (by simp) (by simp);obtain⟨l,e2,w2,w3⟩:=hall 2 (by simp) (by simp);simp only[P1,QC]at e0 e1 e2;subst e0;subst e1;subst e2;refine⟨⟨n0,n1,l⟩,by rw[e];rfl,?_⟩;exact⟨jR w0,jR w1,qg w2,fun c hc=>jR (w3 c hc)⟩
theorem Ma {α:Type}{t e:TypeId}{f:α->List AVal}{q:α->Prop}(ht:Try.prog.underlying t=some (.slice e))(hz:0<Try.prog.cellsOf e)(he:eP enc Try.prog W spare held e fun _ zs=>∃ x:α,zs=f x/\q x):
  eP enc Try.prog W spare held t fun _ zs=>∃ l:List α,zs=[.vec l.length (l.map f).flatten]/\l.length<=maxLen/\∀ x∈l,q x :=
 (yA ht hz he).mono fun d zs h=>by
  rcases h with ⟨_,rfl⟩|⟨ds,rest,rows,_,rfl,hr,_,hl⟩
  ·exact⟨[],rfl,RO _,fun c h=>by cases h⟩
  ·obtain⟨l,rfl,hq⟩:=yB (f:=f) (q:=q) (fun d zs h=>h) hr;exact⟨l,by rw[Px],by simpa using hl,hq⟩
theorem Bc:eP enc Try.prog W spare held 25 fun _ zs=>∃ (g:Int) (ps:List DrP) (ord:List Int),zs=[.lit (.int .u8 g),.vec ps.length (dx ps),.vec ord.length (aU ord)]/\U8 g/\(∀ x∈ps,x.Ok)/\(ps.length:Int)<2 ^ 63/\(ord.length:Int)<2 ^ 63/\∀ x∈ord,U8 x:=by
 have hu:=Try.underlying25;have c1:=Try.oh;have c2:=Try.tu;have c3:=Try.Bj;have c4:=Try.Bt;refine(pn (φ:=fun i _ xs=>if i=2 then ∃ l:List Int,xs=[.vec l.length (po .u8 l)]/\l.length<=maxLen/\∀ c,c∈l->(Lit.int .u8 c).wf=true else if i=1 then ∃ l:List DrP,xs=[.vec l.length (l.map DrP.cells).flatten]/\l.length<=maxLen/\∀ x∈l,x.Ok else ∃ n,xs=[.lit (.int .u8 n)]/\(Lit.int .u8 n).wf=true) hu
  (fun cs hcs=>by
   have hc:Try.prog.cellsOf 25=3:=(by kernel_rfl);rw[hc]at hcs
   match cs,hcs with
   | [a,b,c],_=>simp [c1,c2,c3])
  (fun i hi=>match i,hi with
   | 0,_=>(iC Try.underlying5).mono fun _ _ ⟨n,_,h,w⟩=>⟨n,h,w⟩
   | 1,_=>(Ma Try.underlying22 (by rw[c4];decide) L9).mono fun _ _ h=>h
   | 2,_=>(qT Try.underlying23 Try.underlying5 c1).mono fun _ _ h=>h)).mono fun d zs ⟨ds,rows,_,e,hl1,hl2,hall⟩=>?_
 match rows,ds,hl2,hl1,hall with
 | [x,y,z],[d0,d1,d2],_,_,hall =>
  obtain⟨n0,e0,w0⟩:=hall 0 (by simp) (by simp);obtain⟨ps,e1,w1,w1'⟩:=hall 1 (by simp) (by simp);obtain⟨l,e2,w2,w3⟩:=hall 2 (by simp) (by simp);simp only[P1,QC]at e0 e1 e2;subst e0;subst e1;subst e2;exact⟨n0,ps,l,by rw[e];rfl,jR w0,w1',qg w1,qg w2,fun c hc=>jR (w3 c hc)⟩
theorem wL {n:Int}(h:(Lit.int .u8 n).wf=true):0<=n/\n<=255:=by
 have:=jR h;unfold U8 at this;omega
theorem Mb:eP enc Try.prog W spare held 27 fun _ zs=>∃ w a r n:Int,zs=ti w a r n/\(0<=w/\w<=255)/\(0<=a/\a<=255)/\(0<=r/\r<=255):=by
 have hu:=Try.underlying27;have c1:=Try.oh;have c2:=Try.eg;refine(pn (φ:=fun i _ xs=>if i=3 then ∃ n,xs=[.lit (.int .i64 n)] else ∃ n,xs=[.lit (.int .u8 n)]/\(Lit.int .u8 n).wf=true) hu
  (fun cs hcs=>by
   have hc:Try.prog.cellsOf 27=4:=(by kernel_rfl);rw[hc]at hcs
   match cs,hcs with
   | [a,b,c,d],_=>simp [c1,c2])
  (fun i hi=>match i,hi with
   | 0,_=>(iC Try.underlying5).mono fun _ _ ⟨n,_,h,w⟩=>⟨n,h,w⟩
   | 1,_=>(iC Try.underlying5).mono fun _ _ ⟨n,_,h,w⟩=>⟨n,h,w⟩
   | 2,_=>(iC Try.underlying5).mono fun _ _ ⟨n,_,h,w⟩=>⟨n,h,w⟩
   | 3,_=>(iC Try.underlying3).mono fun _ _ ⟨n,_,h,_⟩=>⟨n,h⟩)).mono fun d zs ⟨ds,rows,_,e,hl1,hl2,hall⟩=>?_
 match rows,ds,hl2,hl1,hall with
 | [x,y,z,u],[d0,d1,d2,d3],_,_,hall =>
  obtain⟨n0,e0,w0⟩:=hall 0 (by simp) (by simp);obtain⟨n1,e1,w1⟩:=hall 1 (by simp) (by simp);obtain⟨n2,e2,w2⟩:=hall 2 (by simp) (by simp);obtain⟨n3,e3⟩:=hall 3 (by simp) (by simp);simp only[P1,QC]at e0 e1 e2 e3;subst e0;subst e1;subst e2;subst e3;exact⟨n0,n1,n2,n3,by rw[e];rfl,wL w0,wL w1,wL w2⟩
theorem Mc:eP enc Try.prog W spare held 30 fun _ zs=>∃ w a n:Int,zs=oc w a n/\U8 w/\U8 a:=by
 have hu:=Try.underlying30;have c1:=Try.oh;have c2:=Try.eg;refine(pn (φ:=fun i _ xs=>if i=2 then ∃ n,xs=[.lit (.int .i64 n)] else ∃ n,xs=[.lit (.int .u8 n)]/\(Lit.int .u8 n).wf=true) hu
  (fun cs hcs=>by
   have hc:Try.prog.cellsOf 30=3:=(by kernel_rfl);rw[hc]at hcs
   match cs,hcs with
   | [a,b,c],_=>simp [c1,c2])
  (fun i hi=>match i,hi with
   | 0,_=>(iC Try.underlying5).mono fun _ _ ⟨n,_,h,w⟩=>⟨n,h,w⟩
   | 1,_=>(iC Try.underlying5).mono fun _ _ ⟨n,_,h,w⟩=>⟨n,h,w⟩
   | 2,_=>(iC Try.underlying3).mono fun _ _ ⟨n,_,h,_⟩=>⟨n,h⟩)).mono fun d zs ⟨ds,rows,_,e,hl1,hl2,hall⟩=>?_
 match rows,ds,hl2,hl1,hall with
 | [x,y,z],[d0,d1,d2],_,_,hall =>
  obtain⟨n0,e0,w0⟩:=hall 0 (by simp) (by simp);obtain⟨n1,e1,w1⟩:=hall 1 (by simp) (by simp);obtain⟨n2,e2⟩:=hall 2 (by simp) (by simp);simp only[P1,QC]at e0 e1 e2;subst e0;subst e1;subst e2;exact⟨n0,n1,n2,by rw[e];rfl,jR w0,jR w1⟩
theorem Md:eP enc Try.prog W spare held 32 fun _ zs=>∃ s:StoryP,zs=s.cells/\s.Ok:=by
 have hu:=Try.underlying32;have c1:=Try.Bk;have c2:=Try.Bm;have c3:=Try.Bn;have c4:=Try.tu;have c5:=Try.Bo;have c6:=Try.Bs;have c7:=Try.oh;refine(pn (φ:=fun i _ xs=>if i=0 then ∃ (g:Int) (ps:List DrP) (ord:List Int),xs=[.lit (.int .u8 g),.vec ps.length (dx ps),.vec ord.length (aU ord)]/\U8 g/\(∀ x∈ps,x.Ok)/\(ps.length:Int)<2 ^ 63/\(ord.length:Int)<2 ^ 63/\∀ x∈ord,U8 x
   else if i=1 then ∃ w a r n:Int,xs=ti w a r n/\(0<=w/\w<=255)/\(0<=a/\a<=255)/\(0<=r/\r<=255)
   else if i=2 then ∃ l:List Int,xs=[.vec l.length (po .u16 l)]/\l.length<=maxLen/\∀ c,c∈l->(Lit.int .u16 c).wf=true
   else if i=3 then ∃ l:List Int,xs=[.vec l.length (po .u8 l)]/\l.length<=maxLen/\∀ c,c∈l->(Lit.int .u8 c).wf=true
   else ∃ w a n:Int,xs=oc w a n/\U8 w/\U8 a) hu
  (fun cs hcs=>by
   have hc:Try.prog.cellsOf 32=12:=(by kernel_rfl);rw[hc]at hcs
   match cs,hcs with
   | [a,b,c,d,e,f,g,h,i,j,k,l],_=>simp [c1,c2,c3,c4,c5])
  (fun i hi=>match i,hi with
   | 0,_=>Bc.mono fun _ _ h=>h
   | 1,_=>Mb.mono fun _ _ h=>h
   | 2,_=>(qT Try.underlying28 Try.underlying81 c6).mono fun _ _ h=>h
   | 3,_=>(qT Try.underlying23 Try.underlying5 c7).mono fun _ _ h=>h
   | 4,_=>Mc.mono fun _ _ h=>h)).mono fun d zs ⟨ds,rows,_,e,hl1,hl2,hall⟩=>?_
 match rows,ds,hl2,hl1,hall with
 | [x,y,z,u,w],[d0,d1,d2,d3,d4],_,_,hall =>
  obtain⟨g,ps,ord,e0,w0,wa,wb,wc,wd⟩:=hall 0 (by simp) (by simp);obtain⟨cw,ca,cr,cn,e1,w1,wf,wg⟩:=hall 1 (by simp) (by simp);obtain⟨ws,e2,w2,wh⟩:=hall 2 (by simp) (by simp);obtain⟨ms,e3,w3,wi⟩:=hall 3 (by simp) (by simp);obtain⟨bw,ba,bn,e4,w4,wj⟩:=hall 4 (by simp) (by simp);simp only[P1,QC]at e0 e1 e2 e3 e4;subst e0;subst e1;subst e2;subst e3;subst e4;exact⟨⟨g,ps,ord,cw,ca,cr,cn,ws,ms,bw,ba,bn⟩,by rw[e];rfl,⟨w0,wa,wb,wc,wd,(by unfold U8;omega:U8 cw),(by unfold U8;omega:U8 ca),(by unfold U8;omega:U8 cr),fun c hc=>L8 (wh c hc),fun c hc=>by have:=jR (wi c hc);unfold U8 at this;exact this,qg w2,qg w3,w4,wj⟩⟩
theorem Me {r:Reach}{b:Nat}{v:Value}{d:DataW H}{ps:List MemPlace}(hval:Value.okWide Try.prog W r b 25 v)(hd:DataW.Trod enc Try.prog W 0 spare held 25 v d ps):
  ∃ x:D05P,RelV Try.prog iu cF W (.agg x.cells) v/\x.Ok:=by
 obtain⟨xs,h1,g,qs,ord,rfl,h2⟩:=yC Bc (.inl ⟨_,Try.underlying25⟩) hval hd;exact⟨⟨g,qs,ord⟩,h1,h2.1,h2.2.1,h2.2.2.1,h2.2.2.2.1,h2.2.2.2.2⟩
theorem Mf {r:Reach}{b:Nat}{v:Value}{d:DataW H}{ps:List MemPlace}(hval:Value.okWide Try.prog W r b 32 v)(hd:DataW.Trod enc Try.prog W 0 spare held 32 v d ps):
  ∃ x:StoryP,RelV Try.prog iu cF W (.agg x.cells) v/\x.Ok:=by
 obtain⟨xs,h1,x,rfl,h2⟩:=yC Md (.inl ⟨_,Try.underlying32⟩) hval hd;exact⟨x,h1,h2⟩
end
end Go.Proofs.Ytakancljiekbhaa
namespace Go.Proofs
open Go.Hx
theorem A9 (ps:List DrP)(hps:∀ x∈ps,x.Ok)(n i:Nat)(W:Int):2<=eJ ps n i W/\eJ ps n i W<=3:=by
 have h0:2<=jW ps i/\jW ps i<=3:=by
  unfold jW;split
  ·omega
  ·omega
 unfold eJ;split<;>omega
theorem LV {P:List Int}{n:Nat}(hP:IsPerm n P)(par:Int){i:Nat}(hi:i<n):∀ u,u<=n->ParU P i u 0 (eI par P i u 0):=by
 have hPl:=hP.len;intro u
 induction u with
 | zero=>intro _;exact⟨by simp [eI],by simp [eI],by simp [eI],by simp [eI]⟩
 | succ u ih =>
  intro hu;have key:∀ k,k<=i->ParU P i u k (eI par P i u k):=by
   intro k
   induction k with
   | zero=>intro _;exact ih (by omega)
   | succ k ihk =>
    intro hk;have h:=ihk (by omega);rw[qq];unfold kU;split
    ·rename_i hc;exact h.add hP (by omega) hc.1 hc.2.2
    ·exact h.skip
  rw[B7];exact(key i (Nat.le_refl _)).next
theorem Ba {g:Int}(hg:1<=g/\g<=60){ps:List DrP}(hps:∀ x∈ps,x.Ok){cs P:List Int}{n:Nat}(hP:IsPerm n P)(hcl:cs.length=n)(hc:∀ c∈cs,2<=c/\c<=3){j:Nat}(hj:j<n):DoneN g cs P n j (kV g ps cs P n j):=by
 have hu:=LV hP (ik ps j).1 hj n (Nat.le_refl _);have hcr:=A9 ps hps n j (fK ps n j);unfold kV;obtain⟨l,hl⟩:∃ l,l=eI (ik ps j).1 P j n 0:=⟨_,rfl⟩
 obtain⟨c,hcc⟩:∃ c,c=eJ ps n j (fK ps n j):=⟨_,rfl⟩
 rw[<- hl]at hu ⊢;rw[<- hcc]at hcr ⊢;have rng:∀ q∈l,0<=q/\q<n:=fun q hq=>⟨(hu.rng q hq).1,by rcases(hu.rng q hq).2 with h|⟨_,k',h,_⟩<;>omega⟩
 have pos:0<au (bd cs l):=hZ fun c hc'=>by
  unfold bd at hc';obtain⟨q,hq,rfl⟩:=PQ.1 hc';have hqr:=rng q hq;obtain⟨c,hc2⟩:=get_of_lt (l:=cs) (i:=q.toNat) (by omega);rw[bH hc2];have:=hc c (Pq hc2);omega
 refine⟨⟨hu.pw,rng⟩,hu.p3,hu.rk,?_,fun r hr=>?_,fun e=>?_⟩
 ·show ((jy _ _ _ _).length:Int)=_;unfold jy;rw[Px,QO,Rz (by omega)]
 ·unfold jy at hr;obtain⟨q,_,rfl⟩:=PQ.1 hr;have:=BX hg.1 (n:=c.toNat) (by omega) (ik ps j).2 ((q:Int)*(c+1))
  rwa [Rz (by omega)]at this
 ·have:=congrArg List.length e;unfold jy at this;simp at this;omega
theorem LW {P:List Int}{n:Nat}(hP:IsPerm n P){j v:Nat}(h:P[j]?=some (v:Int)):P.idxOf (v:Int)=j:=by
 have hl:=get_lt h;have he:P[j]=(v:Int):=by
  have:=Pr hl;rw[h]at this;exact(Option.some.inj this).symm
 rw[<- he];exact hP.nd.idxOf_getElem j hl
theorem LX (g0:Int)(hg0:U8 g0)(ps:List DrP)(hps:∀ x∈ps,x.Ok)(ord:List Int):∃ ns,oB (1+g0 % 60) ps ord ns/\NetOk (1+g0 % 60) ns/\ns.length<=5/\(∀ x∈ns,x.parents.length<=3)/\∀ x∈ns,2<=x.card:=by
 obtain⟨g,hg⟩:∃ g,g=1+g0 % 60:=⟨_,rfl⟩
 have hg1:1<=g/\g<=60:=by unfold U8 at hg0;omega
 rw[<- hg];obtain⟨n,hn⟩:∃ n:Nat,n=min (max ps.length 1) 5:=⟨_,rfl⟩
 have h15:1<=n/\n<=5:=by omega
 obtain⟨P,hPe⟩:∃ P,P=dR ord n:=⟨_,rfl⟩
 have hP:IsPerm n P:=by rw[hPe];exact tz ord n
 have hPl:=hP.len;obtain⟨cs,hcs⟩:∃ cs:List Int,cs=(List.range n).map fun (v:Nat)=>eJ ps n (P.idxOf (v:Int)) (fK ps n (P.idxOf (v:Int))):=⟨_,rfl⟩
 obtain⟨ns,hns⟩:∃ ns:List NodeP,ns=(List.range n).map fun (v:Nat)=>kV g ps cs P n (P.idxOf (v:Int)):=⟨_,rfl⟩
 have csl:cs.length=n:=by rw[hcs];simp
 have nsl:ns.length=n:=by rw[hns];simp
 have hc23:∀ c∈cs,2<=c/\c<=3:=fun c hc=>by
  rw[hcs]at hc;obtain⟨v,_,rfl⟩:=PQ.1 hc;exact A9 ps hps _ _ _
 have hcards:ar ns=cs:=by rw[hns,hcs];unfold ar;rw[RZ];rfl
 have hat:∀ (j v:Nat) (x:NodeP),P[j]?=some (v:Int)->ns[v]?=some x->x=kV g ps cs P n j:=fun j v x hj hx=>by
  have hv:=get_lt hx;rw[hns,List.getElem?_map,Rc (by omega)]at hx;rw[<- Option.some.inj hx];show kV g ps cs P n (P.idxOf (v:Int))=_;rw[LW hP hj]
 have hall:∀ v:Nat,v<ns.length->(v:Int)∈P:=fun v hv=>by rw[hPe];exact oA ord n v (by omega)
 have hdm:∀ x∈ns,∃ j,DoneN g cs P n j x:=fun x hx=>by
  obtain⟨v,hv⟩:=PT.1 hx;obtain⟨j,hj⟩:=PT.1 (hall v (get_lt hv));have hjl:=get_lt hj;exact⟨j,by rw[hat j v x hj hv];exact Ba hg1 hps hP csl hc23 (by omega)⟩
 have hcl8:∀ x∈ns,2<=x.card/\x.card<=3:=fun x hx=>hc23 x.card (by rw[<- hcards];exact PQ.2 ⟨x,hx,rfl⟩);refine⟨ns,⟨by rw[nsl,hn],by rw[hcards,nsl,<- hPe];exact hat,by rw[nsl,<- hPe];exact fun j v x hj hx=>by rw[hat j v x hj hx];rfl⟩,?_,by omega,fun x hx=>?_,fun x hx=>(hcl8 x hx).1⟩
 ·refine⟨hg1,by omega,fun x hx=>?_,?_,B5 (P:=P) (by rw[nsl];exact hP) hall fun j v x hj hx q hq=>?_,fun x hx=>?_⟩
  ·obtain⟨j,hj⟩:=hdm x hx;have:=hcl8 x hx;exact⟨by omega,by rw[nsl];exact hj.pl⟩
  ·have h2:=(kO (b:=3) (by omega) (l:=ar ns) fun c hc=>by have:=hc23 c (by rw[<- hcards];exact hc);omega).2;have h3:(3:Int) ^ (ar ns).length<=3 ^ 5:=by
    have:(3:Nat) ^ (ar ns).length<=3 ^ 5:=PJ (by decide) (by rw[bR];omega)
    exact_mod_cast this
   omega
  ·have hjl:=get_lt hj;have hd:=Ba hg1 hps hP csl hc23 (j:=j) (by omega);rw[<- hat j v x hj hx]at hd;exact⟨(hd.pl.2 q hq).1,hd.rk q hq⟩
  ·obtain⟨j,hj⟩:=hdm x hx;unfold gp bh;rw[hcards];exact⟨hj.rl,hj.ro⟩
 ·obtain⟨j,hj⟩:=hdm x hx;exact hj.p3
end Go.Proofs
namespace Go.Hx
variable {P:Program} {t:TypeId} {x y:Operand} {k k':IntKind} {a b:Int}
theorem LF (w:Nat){a:Nat}{n:Nat}(ha:a<2 ^ w)(hn:n<=w)(hw:0<w):((BitVec.ofInt w (a:Int) &&& BitVec.ofInt w ((2 ^ n - 1:Nat):Int)).toNat)=a % 2 ^ n:=by
 have h1:(2:Nat) ^ n<=2 ^ w:=PJ (by decide) hn;have h0:0<(2:Nat) ^ n:=SB n;have e1:(BitVec.ofInt w (a:Int)).toNat=a:=by rw[BitVec.ofInt_natCast,BitVec.toNat_ofNat,Ru ha]
 have e2:(BitVec.ofInt w ((2 ^ n - 1:Nat):Int)).toNat=2 ^ n - 1:=by rw[BitVec.ofInt_natCast,BitVec.toNat_ofNat,Ru (by omega)]
 rw[BitVec.toNat_and,e1,e2,Nat.and_two_pow_sub_one_eq_mod]
theorem wH (h:0<=a/\a<18446744073709551616):aX P .and t x y (.lit (.int .u64 a)) (.lit (.int .u64 4294967295))=some (.lit (.int .u64 (a % 4294967296))):=by
 obtain⟨n,rfl⟩:=PM h.1;rw[tK];have:=LF 64 (a:=n) (n:=32) (by omega) (by decide) (by decide);have e:(BitVec.ofInt (IntKind.bits .u64) (n:Int) &&& BitVec.ofInt (IntKind.bits .u64) 4294967295).toNat=n % 4294967296:=this;rw[e,P8 _ (by omega)];simp
theorem qd (h:0<=a/\a<18446744073709551616):aX P .shr t x y (.lit (.int .u64 a)) (.lit (.int k' 32))=some (.lit (.int .u64 (a / 4294967296))):=by
 rw[qB (by decide)];have e:a.fdiv (2 ^ (min (32:Int).toNat (IntKind.bits .u64)))=a / 4294967296:=RT a (by decide);rw[e]
end Go.Hx
namespace Go.Proofs
open Go.Hx
theorem LG {p q r w0 t w1 hi xy B:Nat}(hB:0<B)(hxy:xy=r*(B*B)+(p+q)*B+w0)(ht:t=p+w0 / B)(hw1:w1=t % B+q)(hhi:hi=r+t / B+w1 / B):
  xy / (B*B)=hi:=by
 have e0:=Q2 w0 B;have l0:=R7 w0 hB;have e1:=Q2 t B;have e2:=Q2 w1 B;have l2:=R7 w1 hB;generalize w0 / B=c0 at *
 generalize w0 % B=r0 at *
 generalize t / B=c1 at *
 generalize t % B=r1 at *
 generalize w1 / B=c2 at *
 generalize w1 % B=r2 at *
 have key:xy=hi*(B*B)+(r2*B+r0):=by
  subst hhi;have a1:p*B=t*B - c0*B:=by rw[ht,P6];omega
  have a2:q*B=w1*B - r1*B:=by rw[hw1,P6];omega
  have a3:t*B=c1*(B*B)+r1*B:=by rw[<- e1,P6];congr 1;ac_rfl
  have a4:w1*B=c2*(B*B)+r2*B:=by rw[<- e2,P6];congr 1;ac_rfl
  have a5:c0*B<=t*B:=Qa _ (by omega);have a6:r1*B<=w1*B:=Qa _ (by omega);have a7:w0=c0*B+r0:=by rw[<- e0,Q9]
  rw[hxy,P6,P6,P6];omega
 have small:r2*B+r0<B*B:=by
  have:r2*B+B<=B*B:=by rw[<- Sh];exact Qa _ l2
  omega
 rw[key];exact Nat.div_eq_of_lt_le (Nat.le_add_right _ _) (by rw[P6,Nat.one_mul];omega)
set_option maxHeartbeats 2000000 in
theorem LH (x y:Nat)(hx:x<18446744073709551616)(hy:y<18446744073709551616)(H:AHeap)(K:ARes->AHeap->Prop)
  (hK:K (.ret (.tup [.lit (.int .u64 (x*y / 18446744073709551616:Nat)),.lit (.int .u64 (x*y % 18446744073709551616:Nat))])) H):ab Try.prog G0 77 [.lit (.int .u64 x),.lit (.int .u64 y)] H K:=by
 obtain⟨x1,x0,hxe,hx0,hx1⟩:∃ x1 x0:Nat,x=x1*4294967296+x0/\x0<4294967296/\x1<4294967296:=⟨x / 4294967296,x % 4294967296,by omega,by omega,by omega⟩
 obtain⟨y1,y0,hye,hy0,hy1⟩:∃ y1 y0:Nat,y=y1*4294967296+y0/\y0<4294967296/\y1<4294967296:=⟨y / 4294967296,y % 4294967296,by omega,by omega,by omega⟩
 have bnd:∀ a b:Nat,a<4294967296->b<4294967296->a*b<=18446744065119617025:=fun a b ha hb=>by
  have:=Rf (show a<=4294967295 by omega) (show b<=4294967295 by omega);omega
 obtain⟨w0,hw0⟩:∃ w0,w0=x0*y0:=⟨_,rfl⟩
 have b0:=bnd x0 y0 hx0 hy0;obtain⟨p,hp⟩:∃ p,p=x1*y0:=⟨_,rfl⟩
 have b1:=bnd x1 y0 hx1 hy0;obtain⟨q,hq⟩:∃ q,q=x0*y1:=⟨_,rfl⟩
 have b2:=bnd x0 y1 hx0 hy1;obtain⟨r,hr⟩:∃ r,r=x1*y1:=⟨_,rfl⟩
 have b3:=bnd x1 y1 hx1 hy1;have hxy:x*y=r*18446744073709551616+(p+q)*4294967296+w0:=by
  rw[hxe,hye,hr,hp,hq,hw0,P6,Ri,Ri,P6];have e1:x1*4294967296*(y1*4294967296)=x1*y1*18446744073709551616:=by
   rw[Nat.mul_mul_mul_comm]
  have e2:x1*4294967296*y0=x1*y0*4294967296:=by ac_rfl
  have e3:x0*(y1*4294967296)=x0*y1*4294967296:=by ac_rfl
  rw[e1,e2,e3];omega
 have m1:((x:Int) % 4294967296)=(x0:Nat):=by omega
 have m2:((x:Int) / 4294967296)=(x1:Nat):=by omega
 have m3:((y:Int) % 4294967296)=(y0:Nat):=by omega
 have m4:((y:Int) / 4294967296)=(y1:Nat):=by omega
 have g1:((w0:Int))=(x0:Int)*(y0:Int):=by rw[hw0,RQ]
 have g2:((p:Int))=(x1:Int)*(y0:Int):=by rw[hp,RQ]
 have g3:((q:Int))=(x0:Int)*(y1:Int):=by rw[hq,RQ]
 have g4:((r:Int))=(x1:Int)*(y1:Int):=by rw[hr,RQ]
 obtain⟨t,ht⟩:∃ t:Nat,t=p+w0 / 4294967296:=⟨_,rfl⟩
 obtain⟨w1,hw1⟩:∃ w1:Nat,w1=t % 4294967296+q:=⟨_,rfl⟩
 obtain⟨hi,hhi⟩:∃ hi:Nat,hi=r+t / 4294967296+w1 / 4294967296:=⟨_,rfl⟩
 have hBB:(4294967296:Nat)*4294967296=18446744073709551616:=by decide
 have r1':x*y / 18446744073709551616=hi:=by
  have h2:x*y=r*(4294967296*4294967296)+(p+q)*4294967296+w0:=by rw[hBB];exact hxy
  have:=LG (by decide) h2 ht hw1 hhi;rw[hBB]at this;exact this
 have B0:∀ n:Nat,n<18446744073709551616->(0<=(n:Int)/\(n:Int)<18446744073709551616):=fun n h=>by omega
 have kx:=B0 x hx;have ky:=B0 y hy;have kw:=B0 w0 (by omega);have kt:=B0 t (by omega);have kv:=B0 w1 (by omega);have v1:=P8 (w0:Int) (by omega);have v2:=P8 (p:Int) (by omega);have v3:=P8 (q:Int) (by omega);have v4:=P8 (r:Int) (by omega);have s1:(p:Int)+(w0:Int) / 4294967296=(t:Int):=by omega
 have s2:(t:Int) % 4294967296+(q:Int)=(w1:Int):=by omega
 have v5:=P8 (t:Int) (by omega);have v6:=P8 (w1:Int) (by omega);have s3:(r:Int)+(t:Int) / 4294967296=((r+t / 4294967296:Nat):Int):=by omega
 have v7:=P8 ((r+t / 4294967296:Nat):Int) (by omega);have s4:((r+t / 4294967296:Nat):Int)+(w1:Int) / 4294967296=(hi:Int):=by omega
 have v8:=P8 (hi:Int) (by omega);have s5:IntKind.u64.wrap ((x:Int)*(y:Int))=((x*y % 18446744073709551616:Nat):Int):=by rw[O1,<- RQ];omega
 rw[r1']at hK;refine ab.fS (n:=51) (rs:=[.tmp 4,.tmp 5]) Try.func77 rfl rfl rfl (by decide) (by simp) ?_;refine W.sq ?_;simp only[go_sem];refine W.env fun E0 hE0=>?_;have a0_0:E0 0=.lit (.int .u64 (x:Nat)):=by rw[hE0];rfl
 have a0_1:E0 1=.lit (.int .u64 (y:Nat)):=by rw[hE0];rfl
 clear hE0;refine W.sq ?_;simp only[go_sem,a0_0,m1,wH,kx];refine W.env fun E1 hE1=>?_;have a1_0:E1 0=.lit (.int .u64 (x:Nat)):=by rw[hE1];exact a0_0
 have a1_1:E1 1=.lit (.int .u64 (y:Nat)):=by rw[hE1];exact a0_1
 have a1_6:E1 6=.lit (.int .u64 (x0:Nat)):=by rw[hE1];rfl
 clear hE1;refine W.sq ?_;simp only[go_sem,a1_0,m2,qd,kx];refine W.env fun E2 hE2=>?_;have a2_0:E2 0=.lit (.int .u64 (x:Nat)):=by rw[hE2];exact a1_0
 have a2_1:E2 1=.lit (.int .u64 (y:Nat)):=by rw[hE2];exact a1_1
 have a2_6:E2 6=.lit (.int .u64 (x0:Nat)):=by rw[hE2];exact a1_6
 have a2_7:E2 7=.lit (.int .u64 (x1:Nat)):=by rw[hE2];rfl
 clear hE2;refine W.sq ?_;simp only[go_sem,a2_1,m3,wH,ky];refine W.env fun E3 hE3=>?_;have a3_0:E3 0=.lit (.int .u64 (x:Nat)):=by rw[hE3];exact a2_0
 have a3_1:E3 1=.lit (.int .u64 (y:Nat)):=by rw[hE3];exact a2_1
 have a3_6:E3 6=.lit (.int .u64 (x0:Nat)):=by rw[hE3];exact a2_6
 have a3_7:E3 7=.lit (.int .u64 (x1:Nat)):=by rw[hE3];exact a2_7
 have a3_8:E3 8=.lit (.int .u64 (y0:Nat)):=by rw[hE3];rfl
 clear hE3;refine W.sq ?_;simp only[go_sem,a3_1,m4,qd,ky];refine W.env fun E4 hE4=>?_;have a4_0:E4 0=.lit (.int .u64 (x:Nat)):=by rw[hE4];exact a3_0
 have a4_1:E4 1=.lit (.int .u64 (y:Nat)):=by rw[hE4];exact a3_1
 have a4_6:E4 6=.lit (.int .u64 (x0:Nat)):=by rw[hE4];exact a3_6
 have a4_7:E4 7=.lit (.int .u64 (x1:Nat)):=by rw[hE4];exact a3_7
 have a4_8:E4 8=.lit (.int .u64 (y0:Nat)):=by rw[hE4];exact a3_8
 have a4_9:E4 9=.lit (.int .u64 (y1:Nat)):=by rw[hE4];rfl
 clear hE4;refine W.sq ?_;simp only[go_sem,a4_6,a4_8,<- g1,v1];refine W.env fun E5 hE5=>?_;have a5_0:E5 0=.lit (.int .u64 (x:Nat)):=by rw[hE5];exact a4_0
 have a5_1:E5 1=.lit (.int .u64 (y:Nat)):=by rw[hE5];exact a4_1
 have a5_6:E5 6=.lit (.int .u64 (x0:Nat)):=by rw[hE5];exact a4_6
 have a5_7:E5 7=.lit (.int .u64 (x1:Nat)):=by rw[hE5];exact a4_7
 have a5_8:E5 8=.lit (.int .u64 (y0:Nat)):=by rw[hE5];exact a4_8
 have a5_9:E5 9=.lit (.int .u64 (y1:Nat)):=by rw[hE5];exact a4_9
 have a5_10:E5 10=.lit (.int .u64 (w0:Nat)):=by rw[hE5];rfl
 clear hE5;refine W.sq ?_;simp only[go_sem,a5_7,a5_8,a5_10,<- g2,v2,qd,kw,s1,v5];refine W.env fun E6 hE6=>?_;have a6_0:E6 0=.lit (.int .u64 (x:Nat)):=by rw[hE6];exact a5_0
 have a6_1:E6 1=.lit (.int .u64 (y:Nat)):=by rw[hE6];exact a5_1
 have a6_6:E6 6=.lit (.int .u64 (x0:Nat)):=by rw[hE6];exact a5_6
 have a6_7:E6 7=.lit (.int .u64 (x1:Nat)):=by rw[hE6];exact a5_7
 have a6_8:E6 8=.lit (.int .u64 (y0:Nat)):=by rw[hE6];exact a5_8
 have a6_9:E6 9=.lit (.int .u64 (y1:Nat)):=by rw[hE6];exact a5_9
 have a6_10:E6 10=.lit (.int .u64 (w0:Nat)):=by rw[hE6];exact a5_10
 have a6_11:E6 11=.lit (.int .u64 (t:Nat)):=by rw[hE6];rfl
 clear hE6;refine W.sq ?_;simp only[go_sem,a6_11,wH,kt];refine W.env fun E7 hE7=>?_;have a7_0:E7 0=.lit (.int .u64 (x:Nat)):=by rw[hE7];exact a6_0
 have a7_1:E7 1=.lit (.int .u64 (y:Nat)):=by rw[hE7];exact a6_1
 have a7_6:E7 6=.lit (.int .u64 (x0:Nat)):=by rw[hE7];exact a6_6
 have a7_7:E7 7=.lit (.int .u64 (x1:Nat)):=by rw[hE7];exact a6_7
 have a7_8:E7 8=.lit (.int .u64 (y0:Nat)):=by rw[hE7];exact a6_8
 have a7_9:E7 9=.lit (.int .u64 (y1:Nat)):=by rw[hE7];exact a6_9
 have a7_10:E7 10=.lit (.int .u64 (w0:Nat)):=by rw[hE7];exact a6_10
 have a7_11:E7 11=.lit (.int .u64 (t:Nat)):=by rw[hE7];exact a6_11
 have a7_12:E7 12=.lit (.int .u64 ((t:Int) % 4294967296)):=by rw[hE7];rfl
 clear hE7;refine W.sq ?_;simp only[go_sem,a7_11,qd,kt];refine W.env fun E8 hE8=>?_;have a8_0:E8 0=.lit (.int .u64 (x:Nat)):=by rw[hE8];exact a7_0
 have a8_1:E8 1=.lit (.int .u64 (y:Nat)):=by rw[hE8];exact a7_1
 have a8_6:E8 6=.lit (.int .u64 (x0:Nat)):=by rw[hE8];exact a7_6
 have a8_7:E8 7=.lit (.int .u64 (x1:Nat)):=by rw[hE8];exact a7_7
 have a8_8:E8 8=.lit (.int .u64 (y0:Nat)):=by rw[hE8];exact a7_8
 have a8_9:E8 9=.lit (.int .u64 (y1:Nat)):=by rw[hE8];exact a7_9
 have a8_10:E8 10=.lit (.int .u64 (w0:Nat)):=by rw[hE8];exact a7_10
 have a8_11:E8 11=.lit (.int .u64 (t:Nat)):=by rw[hE8];exact a7_11
 have a8_12:E8 12=.lit (.int .u64 ((t:Int) % 4294967296)):=by rw[hE8];exact a7_12
 have a8_13:E8 13=.lit (.int .u64 ((t:Int) / 4294967296)):=by rw[hE8];rfl
 clear hE8;refine W.sq ?_;simp only[go_sem,a8_6,a8_9,a8_12,<- g3,v3,s2,v6];refine W.env fun E9 hE9=>?_;have a9_0:E9 0=.lit (.int .u64 (x:Nat)):=by rw[hE9];exact a8_0
 have a9_1:E9 1=.lit (.int .u64 (y:Nat)):=by rw[hE9];exact a8_1
 have a9_6:E9 6=.lit (.int .u64 (x0:Nat)):=by rw[hE9];exact a8_6
 have a9_7:E9 7=.lit (.int .u64 (x1:Nat)):=by rw[hE9];exact a8_7
 have a9_8:E9 8=.lit (.int .u64 (y0:Nat)):=by rw[hE9];exact a8_8
 have a9_9:E9 9=.lit (.int .u64 (y1:Nat)):=by rw[hE9];exact a8_9
 have a9_10:E9 10=.lit (.int .u64 (w0:Nat)):=by rw[hE9];exact a8_10
 have a9_11:E9 11=.lit (.int .u64 (t:Nat)):=by rw[hE9];exact a8_11
 have a9_12:E9 12=.lit (.int .u64 (w1:Nat)):=by rw[hE9];rfl
 have a9_13:E9 13=.lit (.int .u64 ((t:Int) / 4294967296)):=by rw[hE9];exact a8_13
 clear hE9;refine W.sq ?_;simp only[go_sem,a9_7,a9_9,a9_12,a9_13,<- g4,v4,qd,kv,s3,v7,s4,v8];refine W.env fun E10 hE10=>?_;have a10_0:E10 0=.lit (.int .u64 (x:Nat)):=by rw[hE10];exact a9_0
 have a10_1:E10 1=.lit (.int .u64 (y:Nat)):=by rw[hE10];exact a9_1
 have a10_6:E10 6=.lit (.int .u64 (x0:Nat)):=by rw[hE10];exact a9_6
 have a10_7:E10 7=.lit (.int .u64 (x1:Nat)):=by rw[hE10];exact a9_7
 have a10_8:E10 8=.lit (.int .u64 (y0:Nat)):=by rw[hE10];exact a9_8
 have a10_9:E10 9=.lit (.int .u64 (y1:Nat)):=by rw[hE10];exact a9_9
 have a10_10:E10 10=.lit (.int .u64 (w0:Nat)):=by rw[hE10];exact a9_10
 have a10_11:E10 11=.lit (.int .u64 (t:Nat)):=by rw[hE10];exact a9_11
 have a10_12:E10 12=.lit (.int .u64 (w1:Nat)):=by rw[hE10];exact a9_12
 have a10_13:E10 13=.lit (.int .u64 ((t:Int) / 4294967296)):=by rw[hE10];exact a9_13
 have a10_4:E10 4=.lit (.int .u64 (hi:Nat)):=by rw[hE10];rfl
 clear hE10;refine W.sq ?_;simp only[go_sem,a10_0,a10_1,s5];refine W.env fun E11 hE11=>?_;have a11_0:E11 0=.lit (.int .u64 (x:Nat)):=by rw[hE11];exact a10_0
 have a11_1:E11 1=.lit (.int .u64 (y:Nat)):=by rw[hE11];exact a10_1
 have a11_6:E11 6=.lit (.int .u64 (x0:Nat)):=by rw[hE11];exact a10_6
 have a11_7:E11 7=.lit (.int .u64 (x1:Nat)):=by rw[hE11];exact a10_7
 have a11_8:E11 8=.lit (.int .u64 (y0:Nat)):=by rw[hE11];exact a10_8
 have a11_9:E11 9=.lit (.int .u64 (y1:Nat)):=by rw[hE11];exact a10_9
 have a11_10:E11 10=.lit (.int .u64 (w0:Nat)):=by rw[hE11];exact a10_10
 have a11_11:E11 11=.lit (.int .u64 (t:Nat)):=by rw[hE11];exact a10_11
 have a11_12:E11 12=.lit (.int .u64 (w1:Nat)):=by rw[hE11];exact a10_12
 have a11_13:E11 13=.lit (.int .u64 ((t:Int) / 4294967296)):=by rw[hE11];exact a10_13
 have a11_4:E11 4=.lit (.int .u64 (hi:Nat)):=by rw[hE11];exact a10_4
 have a11_5:E11 5=.lit (.int .u64 ((x*y % 18446744073709551616:Nat):Int)):=by rw[hE11];rfl
 clear hE11;refine W.vs ?_;simp only[go_sem,a11_4,a11_5];exact av.mk (Nat.le_refl _) hK
def aH (B:Nat):List Nat -> Nat
  | [] => 0
  | d :: l => d + B * aH B l
def jq (B:Nat):Nat -> Nat -> List Nat
  | 0, _ => []
  | f + 1, v => if v = 0 then [] else v % B :: jq B f (v / B)
def aJ (B v:Nat):List Nat := jq B v v
def s6 (l:List Nat):Prop := ∀ d, l.getLast? = some d -> d ≠ 0
structure NormD (B:Nat)(l:List Nat):Prop where
  lt:∀ d ∈ l, d < B
  top:s6 l
theorem NormD.nil (B:Nat):NormD B [] := ⟨fun d h => (by cases h), fun d h => (by cases h)⟩
theorem NormD.tail {B d:Nat}{l:List Nat}(h:NormD B (d :: l)):NormD B l := ⟨fun e he => h.lt e (by simp [he]), fun e he => h.top e (by
  cases l with
  | nil => cases he
  | cons x l => rw[SK]; exact he)⟩
theorem wz {B:Nat}(hB:2 <= B):∀ {l:List Nat}, NormD B l -> l ≠ [] -> 0 < aH B l := by
  intro l
  induction l with
  | nil => intro _ h; exact absurd rfl h
  | cons d l ih =>
    intro h _;cases l with
    | nil =>
      have := h.top d rfl;show 0 < d + B * 0;omega
    | cons x l =>
      have h1 := ih h.tail (by simp);have:0 < B * aH B (x :: l) := SC (by omega) h1;show 0 < d + B * aH B (x :: l);omega
theorem Lc {B:Nat}(hB:2 <= B):∀ {l m:List Nat}, NormD B l -> NormD B m -> aH B l = aH B m -> l = m := by
  intro l
  induction l with
  | nil =>
    intro m _ hm h;cases m with
    | nil => rfl
    | cons e m =>
      have := wz hB hm (by simp);have h0:aH B [] = 0 := rfl;omega
  | cons d l ih =>
    intro m hl hm h;cases m with
    | nil =>
      have := wz hB hl (by simp);have h0:aH B [] = 0 := rfl;omega
    | cons e m =>
      have h1:d + B * aH B l = e + B * aH B m := h;have hd := hl.lt d (by simp);have he := hm.lt e (by simp);have e1:d = e := by
        have := congrArg (· % B) h1;simp only[Nat.add_mul_mod_self_left, Ru hd, Ru he]at this;exact this
      subst e1;have e2:aH B l = aH B m := Nat.eq_of_mul_eq_mul_left (show 0 < B by omega) (by omega);rw[ih hl.tail hm.tail e2]
theorem AL {B:Nat}(hB:2 <= B):∀ f v, v <= f -> NormD B (jq B f v) /\ aH B (jq B f v) = v /\ (v ≠ 0 -> jq B f v ≠ []) := by
  intro f
  induction f with
  | zero => intro v hv; obtain rfl : v = 0 := by omega
            exact⟨.nil B, rfl, fun h => absurd rfl h⟩
  | succ f ih =>
    intro v hv;unfold jq;by_cases h:v = 0
    · rw[Pv h, h]; exact⟨.nil B, rfl, fun h => absurd rfl h⟩
    · rw[Pt h];have hlt:v / B < v := Nat.div_lt_self (by omega) (by omega);obtain⟨a, b, c⟩ := ih (v / B) (by omega);refine⟨⟨fun d hd => ?_, fun d hd => ?_⟩, ?_, fun _ => by simp⟩
      · rcases List.mem_cons.1 hd with rfl | hd
        · exact R7 _ (by omega)
        · exact a.lt d hd
      · by_cases h0:v / B = 0
        · have e : jq B f (v / B) = [] := by
            rw[h0]; cases f <;> simp [jq]
          rw[e]at hd;simp only[List.getLast?_singleton, Option.some.injEq]at hd;have := Q2 v B;rw[h0]at this;omega
        · have hne := c h0;cases hq:jq B f (v / B) with
          | nil => exact absurd hq hne
          | cons x l => rw[hq, SK]at hd; rw[hq]at a; exact a.top d hd
      · show v % B + B * aH B (jq B f (v / B)) = v;rw[b];have := Q2 v B;omega
theorem dQ {B:Nat}(hB:2 <= B)(v:Nat):NormD B (aJ B v) := (AL hB v v (Nat.le_refl _)).1
theorem dq {B:Nat}(hB:2 <= B)(v:Nat):aH B (aJ B v) = v := (AL hB v v (Nat.le_refl _)).2.1
theorem nW {B:Nat}(hB:2 <= B){l:List Nat}(h:NormD B l):l = aJ B (aH B l) := Lc hB h (dQ hB _) (dq hB _).symm
theorem AM {B:Nat}:∀ (l m:List Nat), aH B (l ++ m) = aH B l + B ^ l.length * aH B m := by
  intro l m
  induction l with
  | nil => show _ = 0 + B ^ 0 * _; simp
  | cons d l ih =>
    show d + B * aH B (l ++ m) = d + B * aH B l + B ^ (l.length + 1) * aH B m;rw[ih, Ri, Q8, Q9 (B ^ l.length) B, QJ];omega
theorem nX {B:Nat}:∀ {l:List Nat},(∀ d∈l,d<B)->aH B l<B ^ l.length:=by
 intro l
 induction l with
 | nil=>intro _;simp [aH]
 | cons d l ih =>
  intro h;have h1:=h d (by simp);have h2:=ih fun x hx=>h x (by simp [hx]);show d+B*aH B l<B ^ (l.length+1);have h3:B*(aH B l+1)<=B*B ^ l.length:=RP B h2;rw[Q8,Q9 (B ^ l.length)];rw[Ri]at h3;omega
theorem wB {B:Nat}(hB:2<=B):∀ {l:List Nat},NormD B l->l≠[]->B ^ (l.length - 1)<=aH B l:=by
 intro l
 induction l with
 | nil=>intro _ h;exact absurd rfl h
 | cons d l ih =>
  intro h _;cases l with
  | nil =>
   have:=h.top d rfl;show B ^ 0<=d+B*0;simp;omega
  | cons x l =>
   have h1:=ih h.tail (by simp);show B ^ (l.length+1)<=d+B*aH B (x :: l);have h2:B*B ^ l.length<=B*aH B (x :: l):=RP B h1;rw[Q8,Q9];omega
theorem s8 {B:Nat}(hB:2<=B){x y:List Nat}(hx:NormD B x)(hy:NormD B y)(h:x.length<y.length):aH B x<aH B y:=by
 have h1:=nX hx.lt;have h2:=wB hB hy fun e=>by rw[e]at h;simp at h
 have h3:B ^ x.length<=B ^ (y.length - 1):=PJ (by omega) (by omega);omega
theorem s9 {B:Nat}:∀ {x y:List Nat},x.length=y.length->(∀ d∈x,d<B)->(∀ d∈y,d<B)->∀ i,i<x.length->(∀ j,i<j->j<x.length->x.getD j 0=y.getD j 0)->x.getD i 0<y.getD i 0->aH B x<aH B y:=by
 intro x
 induction x with
 | nil=>intro y _ _ _ i hi;exact absurd hi (PL _)
 | cons a x ih =>
  intro y hl hx hy i hi he hlt;cases y with
  | nil=>simp at hl
  | cons b y =>
   simp only[List.length_cons]at hl hi;have ha:=hx a (by simp);have hb:=hy b (by simp);show a+B*aH B x<b+B*aH B y;cases i with
   | zero =>
    have hxy:x=y:=by
     apply Qf;intro j;rcases PR j x.length with h|h
     ·have:=he (j+1) (by omega) (by simp;omega);rw[Rd,Rd]at this;rw[Pz,Pz]at this;rw[Pr h,Pr (by omega)]at this ⊢;exact congrArg some this
     ·rw[PD h,PD (by omega)]
    rw[SZ,SZ]at hlt;rw[hxy];omega
   | succ i =>
    rw[Rd,Rd]at hlt;have:=ih (y:=y) (by omega) (fun d h=>hx d (by simp [h])) (fun d h=>hy d (by simp [h])) i (by omega) (fun j h1 h2=>by
     have:=he (j+1) (by omega) (by simp;omega);rw[Rd,Rd]at this;exact this) hlt
    have h3:B*(aH B x+1)<=B*aH B y:=RP B this;rw[Ri]at h3;omega
theorem norm_eq {x y:List Nat}(hl:x.length=y.length)(h:∀ j,j<x.length->x.getD j 0=y.getD j 0):x=y:=by
 apply Qf;intro j;rcases PR j x.length with hj|hj
 ·have:=h j hj;rw[Pz,Pz,Pr hj,Pr (by omega)]at this;rw[Pr hj,Pr (by omega)];exact congrArg some this
 ·rw[PD hj,PD (by omega)]
def eU (x y:Nat):Int:=if x<y then -1 else if x=y then 0 else 1
theorem AN (x:Nat):eU x x=0:=by unfold eU;simp
theorem ta {x y:Nat}(h:x<y):eU x y=-1:=by unfold eU;rw[Pv h]
theorem pW {x y:Nat}(h:y<x):eU x y=1:=by unfold eU;rw[Pt (by omega),Pt (by omega)]
theorem Ld {B:Nat}:∀ {l:List Nat},(∀ d∈l,d=0)->aH B l=0:=by
 intro l
 induction l with
 | nil=>intro _;rfl
 | cons d l ih =>
  intro h;have h1:=h d (by simp);have h2:=ih fun x hx=>h x (by simp [hx]);show d+B*aH B l=0;rw[h2,h1];rfl
theorem Le {B:Nat}{l:List Nat}{m:Nat}(h:∀ d∈l.drop m,d=0):aH B (l.take m)=aH B l:=by
 have e:=AM (B:=B) (l.take m) (l.drop m);rw[PV,Ld h,Si,Nat.add_zero]at e;exact e.symm
theorem Lf {B:Nat}(hB:2<=B){l:List Nat}{m:Nat}(hl:∀ d∈l,d<B)(h:∀ d∈l.drop m,d=0)(ht:s6 (l.take m)):l.take m=aJ B (aH B l):=by
 have hn:NormD B (l.take m):=⟨fun d hd=>hl d (PW hd),ht⟩
 rw[<- Le h];exact nW hB hn
theorem pX {B:Nat}(l:List Nat)(d:Nat):aH B (l++[d])=aH B l+B ^ l.length*d:=by
 rw[AM];show _+_*(d+B*0)=_;simp
theorem AP {B n:Nat}{l out:List Nat}{i d c:Nat}(hd:l[i]?=some d)(ho:out.length=i)(h:aH B out+B ^ i*c=aH B (l.take i)*n):
  aH B (out++[(d*n+c) % B])+B ^ (i+1)*((d*n+c) / B)=aH B (l.take (i+1))*n:=by
 have hil:=get_lt hd;rw[pX,ho,aO hd,pX,PC,QR (by omega),P6,<- h];have e:=Q2 (d*n+c) B;have e2:B ^ i*(d*n+c)=B ^ i*(B*((d*n+c) / B))+B ^ i*((d*n+c) % B):=by rw[<- Ri,e]
 rw[Q8,QJ (B ^ i) B,QJ (B ^ i) d];rw[Ri]at e2;omega
theorem Lg {B:Nat}{out:List Nat}{c v:Nat}(h:aH B out+B ^ out.length*c=v):aH B (out++[c % B])+B ^ (out++[c % B]).length*(c / B)=v:=by
 rw[pX,List.length_append,QY,<- h];have e:=Q2 c B;have e2:B ^ out.length*c=B ^ out.length*(B*(c / B))+B ^ out.length*(c % B):=by rw[<- Ri,e]
 rw[Q8,QJ];omega
set_option maxHeartbeats 1000000 in
theorem AQ {B:Nat}(hB:2<=B){x y:List Nat}(hx:NormD B x)(hy:NormD B y)(hxl:x.length<2 ^ 40)(hyl:y.length<2 ^ 40)(H:AHeap)(K:ARes->AHeap->Prop)(hK:K (.ret (aa (eU (aH B x) (aH B y)))) H):
  ab Try.prog G0 51 [cu x,cu y] H K:=by
 have lx:(x.map aV).length=x.length:=Px ..;have ly:(y.map aV).length=y.length:=Px ..;refine ab.aZ (n:=41) (rs:=[.tmp 4]) Try.func51 rfl rfl rfl (by decide) (by kernel_rfl) (by simp) ?_;by_cases hl:(x.length:Int)=y.length;rotate_left
 ·by_cases hlt:(x.length:Int)<y.length
  ·rw[ta (s8 hB hx hy (by omega))]at hK;simp only[go_sem,hl,hlt];exact av.mk (Nat.le_refl _) hK
  ·rw[pW (s8 hB hy hx (by omega))]at hK;simp only[go_sem,hl,hlt];exact av.mk (Nat.le_refl _) hK
 have hll:x.length=y.length:=by omega
 have w0:=Ps ((y.length:Int) - 1) (by omega);simp only[go_sem,hl,w0];refine W.aN 2199022731312 (by rfl) (fun ρ H'=>H'=H/\∃ m:Nat,ρ 5=aa ((m:Int) - 1)/\m<=x.length/\∀ j,m<=j->j<x.length->x.getD j 0=y.getD j 0) (fun ρ H=>(iv (ρ 5)+1).toNat) ?_ ?_
 ·simp only[go_sem];exact⟨x.length,by rw[hl],by omega,fun j h1 h2=>absurd h2 (by omega)⟩
 rintro ρ H' ⟨hHx,m,h5,hm,hall⟩;rw[hHx];refine W.en (fun E=>E 0=.vec x.length (x.map aV) /\ E 1=.vec y.length (y.map aV) /\ E 5=aa ((m:Int) - 1)) (by simp only[go_sem,hl,<- hll,h5]) fun E ⟨e0,e1,e5⟩=>?_
 refine W.vs ?_;by_cases hm0:m=0
 ·subst hm0;have e5':E 5=aa (-1):=e5;have he:=norm_eq hll fun j hj=>hall j (RO _) hj;rw[he,AN]at hK;simp only[go_sem,e5'];exact av.mk (Nat.le_refl _) hK
 obtain⟨k,rfl⟩:∃ k,m=k+1:=⟨m - 1,by omega⟩
 have e5':E 5=aa k:=by rw[e5];congr 1;omega
 obtain⟨a,ha⟩:=get_of_lt (l:=x) (i:=k) (by omega);obtain⟨b,hb⟩:=get_of_lt (l:=y) (i:=k) (by omega);have hga:(x.map aV)[k]?=some (.lit (.int .u64 (a:Int))):=by rw[List.getElem?_map,ha];rfl
 have hgb:(y.map aV)[k]?=some (.lit (.int .u64 (b:Int))):=by rw[List.getElem?_map,hb];rfl
 have han:=aL hga;have hbn:=aL hgb;have hk0:(k:Int) >= 0:=by omega
 have hkx:(k:Int)<x.length:=by omega
 have hky:(k:Int)<y.length:=by omega
 have w1:=Ps ((k:Int) - 1) (by omega);have hda:x.getD k 0=a:=bH ha;have hdb:y.getD k 0=b:=bH hb;by_cases hab:(a:Int)=b
 ·simp only[go_sem,e5',hk0];refine W.draw 8 [0,0,3,7,0,0,48,112] Try.mixed (by kernel_rfl) (by kernel_rfl) ?_;simp only[go_sem,e0,e1,e5',hga,hgb,han,hbn,hkx,hky,hab,w1];refine⟨⟨k,rfl,by omega,fun j h1 h2=>?_⟩,by rw[h5];simp only[aa,aW];omega⟩;rcases PR k j with h|h
  ·exact hall j (by omega) h2
  ·obtain rfl:j=k:=(by omega);rw[hda,hdb];omega
 ·have hcmp:eU (aH B x) (aH B y)=if a<b then -1 else 1:=by
   split
   ·rename_i h;exact ta (s9 hll hx.lt hy.lt k (by omega) (fun j h1 h2=>hall j (by omega) h2) (by rw[hda,hdb];exact h))
   ·rename_i h;exact pW (s9 hll.symm hy.lt hx.lt k (by omega) (fun j h1 h2=>(hall j (by omega) (by omega)).symm) (by rw[hda,hdb];omega))
  rw[hcmp]at hK;by_cases hlt:(a:Int)<b
  ·rw[Pv (by omega)]at hK;simp only[go_sem,e5',hk0];refine W.draw 8 [0,0,3,7,0,0,48,112] Try.mixed (by kernel_rfl) (by kernel_rfl) ?_;simp only[go_sem,e0,e1,e5',hga,hgb,han,hbn,hkx,hky,hab];refine W.draw 8 [0,0,3,7,0,0,48,112] Try.mixed (by kernel_rfl) (by kernel_rfl) ?_;simp only[go_sem,e0,e1,e5',hga,hgb,han,hbn,hkx,hky,hlt];exact av.mk (Nat.le_refl _) hK
  ·rw[Pt (by omega)]at hK;simp only[go_sem,e5',hk0];refine W.draw 8 [0,0,3,7,0,0,48,112] Try.mixed (by kernel_rfl) (by kernel_rfl) ?_;simp only[go_sem,e0,e1,e5',hga,hgb,han,hbn,hkx,hky,hab];refine W.draw 8 [0,0,3,7,0,0,48,112] Try.mixed (by kernel_rfl) (by kernel_rfl) ?_;simp only[go_sem,e0,e1,e5',hga,hgb,han,hbn,hkx,hky,hlt];exact av.mk (Nat.le_refl _) hK
set_option maxHeartbeats 1000000 in
theorem AO {B:Nat}(hB:2<=B){x y:List Nat}(hx:NormD B x)(hy:NormD B y)(hxl:x.length<2 ^ 40)(hyl:y.length<2 ^ 40)(H:AHeap)(K:ARes->AHeap->Prop)(hK:K (.ret (aa (eU (aH B x) (aH B y)))) H):
  ab Try.prog G0 55 [ae (br x),ae (br y)] H K:=by
 have lx:=ga x;have ly:=ga y;refine ab.aZ (n:=41) (rs:=[.tmp 4]) Try.func55 rfl rfl rfl (by decide) (by kernel_rfl) (by simp) ?_;by_cases hl:(x.length:Int)=y.length;rotate_left
 ·by_cases hlt:(x.length:Int)<y.length
  ·rw[ta (s8 hB hx hy (by omega))]at hK;simp only[go_sem,lx,ly,hl,hlt];exact av.mk (Nat.le_refl _) hK
  ·rw[pW (s8 hB hy hx (by omega))]at hK;simp only[go_sem,lx,ly,hl,hlt];exact av.mk (Nat.le_refl _) hK
 have hll:x.length=y.length:=by omega
 have w0:=Ps ((y.length:Int) - 1) (by omega);simp only[go_sem,lx,ly,hl,w0];refine W.aN 2199022731312 (by rfl) (fun ρ H'=>H'=H/\∃ m:Nat,ρ 5=aa ((m:Int) - 1)/\m<=x.length/\∀ j,m<=j->j<x.length->x.getD j 0=y.getD j 0) (fun ρ H=>(iv (ρ 5)+1).toNat) ?_ ?_
 ·simp only[go_sem];exact⟨x.length,by rw[hl],by omega,fun j h1 h2=>absurd h2 (by omega)⟩
 rintro ρ H' ⟨hHx,m,h5,hm,hall⟩;rw[hHx];refine W.en (fun E=>E 0=.vec x.length (ints (br x)) /\ E 1=.vec y.length (ints (br y)) /\ E 5=aa ((m:Int) - 1)) (by simp only[go_sem,hl,<- hll,h5]) fun E ⟨e0,e1,e5⟩=>?_
 refine W.vs ?_;by_cases hm0:m=0
 ·subst hm0;have e5':E 5=aa (-1):=e5;have he:=norm_eq hll fun j hj=>hall j (RO _) hj;rw[he,AN]at hK;simp only[go_sem,e5'];exact av.mk (Nat.le_refl _) hK
 obtain⟨k,rfl⟩:∃ k,m=k+1:=⟨m - 1,by omega⟩
 have e5':E 5=aa k:=by rw[e5];congr 1;omega
 obtain⟨a,ha⟩:=get_of_lt (l:=x) (i:=k) (by omega);obtain⟨b,hb⟩:=get_of_lt (l:=y) (i:=k) (by omega);have hga:=lY ha;have hgb:=lY hb;have han:=aL hga;have hbn:=aL hgb;have hk0:(k:Int) >= 0:=by omega
 have hkx:(k:Int)<x.length:=by omega
 have hky:(k:Int)<y.length:=by omega
 have w1:=Ps ((k:Int) - 1) (by omega);have hda:x.getD k 0=a:=bH ha;have hdb:y.getD k 0=b:=bH hb;by_cases hab:(a:Int)=b
 ·simp only[go_sem,e5',hk0];refine W.draw 8 [0,0,3,7,0,0,48,112] Try.mixed (by kernel_rfl) (by kernel_rfl) ?_;simp only[go_sem,e0,e1,e5',hga,hgb,han,hbn,hkx,hky,hab,w1];refine⟨⟨k,rfl,by omega,fun j h1 h2=>?_⟩,by rw[h5];simp only[aa,aW];omega⟩;rcases PR k j with h|h
  ·exact hall j (by omega) h2
  ·obtain rfl:j=k:=(by omega);rw[hda,hdb];omega
 ·have hcmp:eU (aH B x) (aH B y)=if a<b then -1 else 1:=by
   split
   ·rename_i h;exact ta (s9 hll hx.lt hy.lt k (by omega) (fun j h1 h2=>hall j (by omega) h2) (by rw[hda,hdb];exact h))
   ·rename_i h;exact pW (s9 hll.symm hy.lt hx.lt k (by omega) (fun j h1 h2=>(hall j (by omega) (by omega)).symm) (by rw[hda,hdb];omega))
  rw[hcmp]at hK;by_cases hlt:(a:Int)<b
  ·rw[Pv (by omega)]at hK;simp only[go_sem,e5',hk0];refine W.draw 8 [0,0,3,7,0,0,48,112] Try.mixed (by kernel_rfl) (by kernel_rfl) ?_;simp only[go_sem,e0,e1,e5',hga,hgb,han,hbn,hkx,hky,hab];refine W.draw 8 [0,0,3,7,0,0,48,112] Try.mixed (by kernel_rfl) (by kernel_rfl) ?_;simp only[go_sem,e0,e1,e5',hga,hgb,han,hbn,hkx,hky,hlt];exact av.mk (Nat.le_refl _) hK
  ·rw[Pt (by omega)]at hK;simp only[go_sem,e5',hk0];refine W.draw 8 [0,0,3,7,0,0,48,112] Try.mixed (by kernel_rfl) (by kernel_rfl) ?_;simp only[go_sem,e0,e1,e5',hga,hgb,han,hbn,hkx,hky,hab];refine W.draw 8 [0,0,3,7,0,0,48,112] Try.mixed (by kernel_rfl) (by kernel_rfl) ?_;simp only[go_sem,e0,e1,e5',hga,hgb,han,hbn,hkx,hky,hlt];exact av.mk (Nat.le_refl _) hK
set_option maxHeartbeats 2000000 in
theorem tb {l:List Nat}{n:Nat}(hl:∀ d∈l,d<10000)(hn:n<2 ^ 37)(hll:l.length<2 ^ 36)(H:AHeap)(K:ARes->AHeap->Prop)(hK:K (.ret (ae (br (aJ 10000 (aH 10000 l*n))))) H):
  ab Try.prog G0 57 [ae (br l),aa n] H K:=by
 refine ab.clo ⟨_,Try.func57,rfl,rfl⟩ fun hcl=>?_;have ll:=ga l;refine ab.fS (n:=57) (rs:=[.tmp 4]) Try.func57 rfl rfl rfl (by decide) (by simp) ?_;refine W.sq ?_;simp only[go_sem];refine W.sq ?_;simp only[go_sem];refine W.sq ?_;simp only[go_sem];refine W.sq ?_;simp only[go_sem];refine W.en (fun E=>E 0=.vec l.length (ints (br l)) /\ E 1=aa n /\ E 5=.lit (.slice none 0 0) /\ E 6=aa 0 /\ E 7=aa 0) (by simp only[go_sem,ll]) fun E ⟨e0,e1,e5,e6,e7⟩=>?_
 refine W.aN 1073741792 (by rfl) (fun ρ H'=>∃ (i c:Nat) (out:List Nat),ρ 7=aa i/\i<=l.length/\ρ 6=aa c/\c<=n/\out.length=i/\(∀ d∈out,d<10000)/\aH 10000 out+10000 ^ i*c=aH 10000 (l.take i)*n/\Over H H'/\aA H.next H' 3 (ρ 5) (ints (br out))) (fun ρ H'=>l.length - (iv (ρ 7)).toNat) ?_ ?_
 ·refine⟨0,0,[],e7,by omega,e6,by omega,rfl,fun d h=>(by cases h),by simp [aH],.refl _,?_⟩;show aA _ _ _ (E 5) _;rw[e5];exact .nil
 rintro ρ H' ⟨i,c,out,h7,hi,h6,hc,hol,hod,hval,ov,hO⟩;obtain⟨v,hv⟩:∃ v,v=ρ 5:=⟨_,rfl⟩
 rw[<- hv]at hO;refine W.env fun F hF=>?_;have f0:F 0=.vec l.length (ints (br l)):=by rw[hF];simp only[go_sem,e0]
 have f1:F 1=aa n:=by rw[hF];simp only[go_sem,e1]
 have f5:F 5=v:=by rw[hF,hv];simp only[go_sem]
 have f6:F 6=aa c:=by rw[hF];simp only[go_sem,h6]
 have f7:F 7=aa i:=by rw[hF];simp only[go_sem,h7]
 clear hF;have ovn:=ov.next;by_cases hb:(i:Int)<l.length
 ·obtain⟨d,hd⟩:=get_of_lt (l:=l) (i:=i) (by omega);have hdl:=hl d (Pq hd);have hgd:=lY hd;have hgn:=aL hgd;have hm:d*n<=9999*2 ^ 37:=Rf (by omega) (by omega);obtain⟨xx,hxx⟩:∃ xx:Nat,xx=d*n+c:=⟨_,rfl⟩
  have ex:(d:Int)*n+c=xx:=by rw[hxx];simp
  have em:(d:Int)*n=((d*n:Nat):Int):=by simp
  have w1:=Ps ((d:Int)*n) (by rw[em];omega);have w2:=Ps ((d:Int)*n+c) (by rw[ex];omega);rw[ex]at w2;have r1:(xx:Int).tmod 10000=((xx % 10000:Nat):Int):=by rw[PP (by omega)];simp
  have r2:(xx:Int).tdiv 10000=((xx / 10000:Nat):Int):=by rw[Qu (by omega)];simp
  have w3:=Ps ((xx % 10000:Nat):Int) (by omega);have w4:=Ps ((xx / 10000:Nat):Int) (by omega);have w5:=Ps ((i:Int)+1) (by omega);obtain⟨v',H2,hA,ov2,hO2,hn2,_⟩:=iS ((xx % 10000:Nat):Int) ov hO (by rw[ga];omega);have ez:br out++[((xx % 10000:Nat):Int)]=br (out++[xx % 10000]):=by simp [br]
  rw[ez]at hO2;have hst:=AP (B:=10000) hd hol hval;rw[<- hxx]at hst;have hcar:xx / 10000<=n:=by
   have:d*n+c<=9999*n+n:=Nat.add_le_add (Qa n (by omega)) hc;omega
  refine W.vs ?_;simp only[go_sem,f0,f1,f5,f6,f7,hb,hgd,hgn,ex,w1,w2,r1,r2,w4,w5,hA];exact⟨by have:=ov2.next;omega,⟨i+1,xx / 10000,out++[xx % 10000],rfl,by omega,rfl,hcar,by simp [hol],fun e he=>by
   rcases PK.1 he with he|he
   ·exact hod e he
   ·rw[List.mem_singleton.1 he];omega,hst,ov2,hO2⟩,by rw[h7];simp only[aa,aW];omega⟩
 have ei:i=l.length:=by omega
 rw[ei,QH]at hval;rw[ei]at hol;obtain⟨V,hV⟩:∃ V,V=aH 10000 l*n:=⟨_,rfl⟩
 rw[<- hV]at hK hval;refine W.vs ?_;simp only[go_sem,f0,f7,hb];refine W.seq (W.block ?_);refine W.aN 548682072160 (by rfl) (fun ρ Hx=>∃ (c2:Nat) (o2:List Nat),ρ 6=aa c2/\c2+o2.length<=n+l.length/\(∀ d∈o2,d<10000)/\aH 10000 o2+10000 ^ o2.length*c2=V/\H'.next<=Hx.next/\Over H Hx/\aA H.next Hx 3 (ρ 5) (ints (br o2))) (fun ρ Hx=>(iv (ρ 6)).toNat) ?_ ?_
 ·simp only[go_sem,f5,f6];exact⟨c,out,rfl,by omega,hod,by rw[hol];exact hval,ov,hO⟩
 rintro ρ2 Hx ⟨c2,o2,h62,hcl2,hod2,hval2,hnx,ovx,hOx⟩;obtain⟨v2,hv2⟩:∃ v2,v2=ρ2 5:=⟨_,rfl⟩
 rw[<- hv2]at hOx;refine W.env fun F2 hF2=>?_;have k5:F2 5=v2:=by rw[hF2,hv2];simp only[go_sem]
 have k6:F2 6=aa c2:=by rw[hF2];simp only[go_sem,h62]
 clear hF2;have ovxn:=ovx.next;by_cases hb2:(c2:Int) > 0
 ·have r1:(c2:Int).tmod 10000=((c2 % 10000:Nat):Int):=by rw[PP (by omega)];simp
  have r2:(c2:Int).tdiv 10000=((c2 / 10000:Nat):Int):=by rw[Qu (by omega)];simp
  have w3:=Ps ((c2 % 10000:Nat):Int) (by omega);have w4:=Ps ((c2 / 10000:Nat):Int) (by omega);obtain⟨v',H2,hA,ov2,hO2,hn2,_⟩:=iS ((c2 % 10000:Nat):Int) ovx hOx (by rw[ga];omega);have ez:br o2++[((c2 % 10000:Nat):Int)]=br (o2++[c2 % 10000]):=by simp [br]
  rw[ez]at hO2;refine W.vs ?_;simp only[go_sem,k5,k6,hb2,r1,r2,w4,hA];exact⟨by omega,⟨c2 / 10000,o2++[c2 % 10000],rfl,by rw[List.length_append,QY];omega,fun e he=>by
   rcases PK.1 he with he|he
   ·exact hod2 e he
   ·rw[List.mem_singleton.1 he];omega,Lg hval2,by omega,ov2,hO2⟩,by rw[h62];simp only[aa,aW];omega⟩
 have c0:c2=0:=by omega
 rw[c0,Si,Nat.add_zero]at hval2;have l2:=ga o2;refine W.vs ?_;simp only[go_sem,k6,hb2];refine W.seq (W.block ?_);refine W.aN 72057044282114080 (by rfl) (fun ρ Hy=>Hy=Hx/\∃ m:Nat,m<=o2.length/\(∀ d∈o2.drop m,d=0)/\((ρ 5=.lit (.slice none 0 0)/\o2=[])\/∃ id g,H.next<=id/\ρ 5=.own id g 0 m 1/\Hx.get id=some (.arr g 3 (ints (br o2))))) (fun ρ Hy=>match ρ 5 with|.own _ _ _ m _=>m|_=>0) ?_ ?_
 ·simp only[go_sem,k5];refine⟨o2.length,Nat.le_refl _,fun d hd=>(by rw[RJ]at hd;cases hd),?_⟩;rcases hOx with ⟨e1,e2⟩|⟨id,g,i1,i2,e1,e2⟩
  ·exact .inl ⟨e1,PG (by rw[<- ga,<- aS,e2];rfl)⟩
  ·exact .inr ⟨id,g,i1,by rw[e1,aS,ga],e2⟩
 rintro ρ3 Hy ⟨hHy,m,hm,hz,hO3⟩;rw[hHy];have hov:Over H Hx:=ovx;rcases hO3 with ⟨q5,hnil⟩|⟨id,g,i1,q5,hg⟩
 ·have hV0:V=0:=by rw[<- hval2,hnil];rfl
  refine W.en (fun F3=>F3 5=.lit (.slice none 0 0)) (by simp only[go_sem,q5]) fun F3 z5=>?_
  refine W.vs ?_;simp only[go_sem,z5];refine W.vs ?_;simp only[go_sem,z5];rw[hV0]at hK;exact av.bq (v':=ae []) aK hcl hov .nil hK
 have fin:s6 (o2.take m)->av Try.prog G0 H K (.own id g 0 m 1) Hx:=fun ht=>by
  have e:=Lf (by decide) hod2 hz ht;rw[hval2]at e;rw[<- e]at hK;refine av.bq (v':=ae (br (o2.take m))) aK hcl hov (Fz.ints i1 hg (by rw[ga,PC];omega) fun j hj=>?_) hK;rw[ga,PC]at hj;obtain⟨d,hd⟩:=get_of_lt (l:=o2) (i:=j) (by omega);rw[Nat.zero_add,fU,lY hd];have h2:(br (o2.take m))[j]?=some (d:Int):=lY (by rw[Ql (by omega)];exact hd);have h3:(br (o2.take m))[j]=(d:Int):=by
   have:=Pr (l:=br (o2.take m)) (i:=j) (by rw[ga,PC];omega);rw[h2]at this;exact(Option.some.inj this).symm
  rw[h3];rfl
 refine W.en (fun F3=>F3 5=.own id g 0 m 1) (by simp only[go_sem,q5]) fun F3 z5=>?_
 have lg:=aj hg;by_cases m0:m=0
 ·subst m0;refine W.vs ?_;simp only[go_sem,z5,lg];refine W.vs ?_;simp only[go_sem,z5];exact fin fun d hd=>by simp at hd
 obtain⟨k,rfl⟩:∃ k,m=k+1:=⟨m - 1,by omega⟩
 obtain⟨d,hd⟩:=get_of_lt (l:=o2) (i:=k) (by omega);have hgd:=lY hd;have mpos:((k+1:Nat):Int) > 0:=by omega
 have w1:=Ps (((k+1:Nat):Int) - 1) (by omega);have ek:((k+1:Nat):Int) - 1=(k:Int):=by omega
 rw[ek]at w1;have hkk:(k:Int)<((k+1:Nat):Int):=by omega
 by_cases d0:d=0
 ·subst d0;refine W.vs ?_;simp only[go_sem,z5,lg,mpos,ek,w1,hgd,hkk];refine⟨by omega,⟨k,by omega,fun e he=>?_,id,g,i1,rfl,hg⟩,by rw[q5];exact QU k⟩;rw[ie hd]at he;rcases List.mem_cons.1 he with rfl|he
  ·rfl
  ·exact hz e he
 ·have d0':¬ (d:Int)=0:=by omega
  refine W.vs ?_;simp only[go_sem,z5,lg,mpos,ek,w1,hgd,hkk,d0'];refine W.vs ?_;simp only[go_sem,z5];refine fin fun e he=>?_;rw[aO hd,SU]at he;simp at he;omega
theorem Lh (g:Int)(ns:List NodeP)(hg:0<=g/\g<=60)(h8:ns.length<=8)(H:AHeap)(K:ARes->AHeap->Prop)(hK:K (.ret (aa (g ^ ns.length))) H):ab Try.prog G0 79 [aG g ns] H K:=by
 refine ab.clo ⟨_,Try.func79,rfl,rfl⟩ fun hcl=>?_;refine ab.aZ (n:=17) (rs:=[.tmp 2]) Try.func79 rfl rfl rfl (by decide) (by kernel_rfl) (by simp) ?_;simp only[go_sem,aG,cf];obtain⟨H1,hH1⟩:∃ H1,H1=ext H [.arr 0 35 [.lit (.int .i64 g),.vec ns.length (aq ns)]]:=⟨_,rfl⟩
 have l1:H1.live H.next 0=some (35,[.lit (.int .i64 g),.vec ns.length (aq ns)]):=by rw[hH1];exact aj (cD ..)
 have o1:Over H H1:=by rw[hH1];exact .ext _ _
 rw[<- hH1];have pw:∀ k:Nat,k<=8->0<=g ^ k/\g ^ k<=167961600000000:=fun k hk=>by
  obtain⟨q,rfl⟩:∃ q:Nat,g=q:=⟨g.toNat,by omega⟩
  have a1:q ^ k<=60 ^ k:=Ra (by omega) _;have a2:(60:Nat) ^ k<=60 ^ 8:=PJ (by decide) hk;have a3:(60:Nat) ^ 8=167961600000000:=by decide
  rw[<- Sm];omega
 refine W.aN 65528 (by rfl) (fun ρ H'=>H'=H1/\∃ k:Nat,ρ 4=aa k/\k<=ns.length/\ρ 3=aa (g ^ k)) (fun ρ H=>ns.length - (iv (ρ 4)).toNat) ?_ ?_
 ·simp only[go_sem];exact⟨0,rfl,by omega,by simp⟩
 rintro ρ H' ⟨hHx,k,h4,hk,h3⟩;rw[hHx];refine W.en (fun E=>E 1=.ptr H.next 0 0 /\ E 3=aa (g ^ k) /\ E 4=aa k) (by simp only[go_sem,h3,h4]) fun E ⟨e1,e3,e4⟩=>?_
 refine W.vs ?_;by_cases hb:(k:Int)<ns.length
 ·have w1:=Ps ((k:Int)+1) (by omega);have p2:=pw (k+1) (by omega);rw[Sl]at p2;have w2:=Ps (g ^ k*g) (by omega);simp only[go_sem,e1,e3,e4,l1,hb,w1,w2];exact⟨⟨k+1,rfl,by omega,by rw[Sl]⟩,by rw[h4];simp only[aa,aW];omega⟩
 ·have ek:k=ns.length:=by omega
  simp only[go_sem,e1,e3,e4,l1,hb];rw[ek];exact av.bq aK hcl o1 (.lit _) hK
end Go.Proofs
