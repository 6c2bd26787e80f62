/- Own work: contracts. -/
import Derived.Test.YtjhbjbninamhnaaGreatConC
set_option linter.all false
set_option maxRecDepth 100000
namespace Go.Proofs
open Go.Hx
def lJ (H1 H':AHeap)(N:Nat)(cs:List AVal):Prop:=H1.next<=H'.next/\(∀ id,id<H1.next->id≠N->H'.get id=H1.get id)/\H'.get N=some (.arr 0 73 cs)
theorem Qd {l:List NodeP}{i:Nat}{x y:NodeP}(h:l[i]?=some x)(hr:x.rows=[])(hy:y.rows=[]):bG (l.set i y)=(bG l).set (i*3) (aa y.card):=by
 have hl:=get_lt h;have h1:=u9 (f:=NodeP.cC) (z:=3) jT l i y hl;have h2:=my (f:=NodeP.cC) (z:=3) jT l i x h;have e1:x.cC=[aa x.card,.lit (.slice none 0 0),.lit (.slice none 0 0)]:=SQ hr;have e2:y.cC=[aa y.card,.lit (.slice none 0 0),.lit (.slice none 0 0)]:=SQ hy;unfold bG;rw[h1,e2];rw[e1]at h2;have h3:(l.map NodeP.cC).flatten=((l.map NodeP.cC).flatten).take (i*3)++([aa x.card,.lit (.slice none 0 0),.lit (.slice none 0 0)]++((l.map NodeP.cC).flatten).drop (i*3+3)):=by
  rw[<- h2,<- UF,Tu,Tu]
 have hlen:(((l.map NodeP.cC).flatten).take (i*3)).length=i*3:=by
  rw[SX,kC (f:=NodeP.cC) (z:=3) jT];omega
 conv=>rhs;rw[h3]
 rw[Tv _ _ (by omega),hlen];simp
theorem vb (ord:List Int):∀ (n v:Nat),v<n->(v:Int)∈fa ord n
 | 0,v,h=>by omega
 | n+1,v,h=>by
  unfold fa;by_cases hv:v=n
  ·subst hv;simp
  ·have:=vb ord n v (by omega);rw[<- Tu (lH ord n) (fa ord n)]at this;rcases Ta.1 this with h|h
   ·exact Uu _ h
   ·exact Ud _ (TE _ h)
def lK (ps:List DrP)(i:Nat):Int × List Int:=match ps[i]? with
 | some y=>(y.par,y.w)
 | none=>(0,[])
def DH (p:Int)(k:Nat):Int:=IntKind.u8.wrap (((BitVec.ofInt IntKind.u8.bits (p.fdiv (2 ^ (min ((k:Int)).toNat IntKind.u8.bits))) &&& BitVec.ofInt IntKind.u8.bits 1).toNat:Nat):Int)
def nP (par:Int)(P:List Int)(u:Nat)(l:List Int)(k:Nat):List Int:=if P[k]?=some (u:Int)/\DH par k=1/\l.length<3 then l++[(u:Int)] else l
def jU (par:Int)(P:List Int)(i u k:Nat):List Int:=(List.range k).foldl (nP par P u) ((List.range u).foldl (fun l u=>(List.range i).foldl (nP par P u) l) [])
theorem vd (par:Int)(P:List Int)(i u k:Nat):jU par P i u (k+1)=nP par P u (jU par P i u k) k:=by unfold jU;rw[T4,Ua];rfl
theorem Qe (par:Int)(P:List Int)(i u:Nat):jU par P i (u+1) 0=jU par P i u i:=by unfold jU;rw[T4,Ua];rfl
def pL (ps:List DrP)(i:Nat):Int:=match ps[i]? with
 | some y=>2+y.card % 2
 | none=>2
def iO (ps:List DrP)(n i:Nat)(W:Int):Int:=if IntKind.i64.wrap (W*pL ps i*2 ^ (min ((n:Int) - 1 - i).toNat IntKind.i64.bits)) > 100 then 2 else pL ps i
def ji (ps:List DrP)(n:Nat):Nat->Int
 | 0=>1
 | i+1=>ji ps n i*iO ps n i (ji ps n i)
def pM (g c:Int)(bs:List Int)(R:Nat):List (List Int):=(List.range R).map fun (q:Nat)=>mH g c.toNat bs ((q:Int)*(c+1))
theorem Qf (g c:Int)(bs:List Int)(R:Nat):pM g c bs (R+1)=pM g c bs R++[mH g c.toNat bs ((R:Int)*(c+1))]:=by unfold pM;rw[T4,TI];rfl
def yY (g:Int)(ps:List DrP)(cs P:List Int)(n j:Nat):NodeP:=⟨iO ps n j (ji ps n j),jU (lK ps j).1 P j n 0,pM g (iO ps n j (ji ps n j)) (lK ps j).2 (au (aF cs (jU (lK ps j).1 P j n 0))).toNat⟩
structure DoneN (g:Int)(cs P:List Int)(n j:Nat)(x:NodeP):Prop where
 pl:bK x.parents n
 p3:x.parents.length<=3
 rk:∀ q∈x.parents,∃ k,k<j/\P[k]?=some q
 rl:(x.rows.length:Int)=au (aF cs x.parents)
 ro:∀ r∈x.rows,jk g x.card r
 ne:x.rows≠[]
structure LoopN (g:Int)(ps:List DrP)(cs P:List Int)(n i:Nat)(ns:List NodeP):Prop where
 len:ns.length=n
 cards:ao ns=cs
 todo:∀ (j v:Nat) (x:NodeP),i<=j->P[j]?=some (v:Int)->ns[v]?=some x->x.rows=[]/\x.parents=[]
 done:∀ (j v:Nat) (x:NodeP),j<i->P[j]?=some (v:Int)->ns[v]?=some x->DoneN g cs P n j x
 eq:∀ (j v:Nat) (x:NodeP),j<i->P[j]?=some (v:Int)->ns[v]?=some x->x=yY g ps cs P n j
 cd:∀ (j v:Nat) (x:NodeP),P[j]?=some (v:Int)->ns[v]?=some x->x.card=iO ps n j (ji ps n j)
theorem Qg {l:List NodeP}{i:Nat}{x y:NodeP}(h:l[i]?=some x)(hy:y.card=x.card)(hr:y.rows≠[]):bG (l.set i y)=((bG l).set (i*3+1) (af y.parents)).set (i*3+2) (ah y.rows):=by
 have hl:=get_lt h;have h1:=u9 (f:=NodeP.cC) (z:=3) jT l i y hl;have h2:=my (f:=NodeP.cC) (z:=3) jT l i x h;unfold bG;rw[h1];have h3:(l.map NodeP.cC).flatten=((l.map NodeP.cC).flatten).take (i*3)++(x.cC++((l.map NodeP.cC).flatten).drop (i*3+3)):=by
  rw[<- h2,<- UF,Tu,Tu]
 have hlen:(((l.map NodeP.cC).flatten).take (i*3)).length=i*3:=by
  rw[SX,kC (f:=NodeP.cC) (z:=3) jT];omega
 have ex:∃ b c,x.cC=[aa x.card,b,c]:=by unfold NodeP.cC;split<;>exact⟨_,_,rfl⟩
 obtain⟨b,c,ex⟩:=ex;have ey:y.cC=[aa y.card,af y.parents,ah y.rows]:=SO hr
 conv=>rhs;rw[h3]
 rw[Tv _ _ (by omega),Tv _ _ (by omega),hlen,show i*3+1 - i*3=1 by omega,show i*3+2 - i*3=2 by omega,ex,ey];simp [hy]
structure ParU (P:List Int)(i u k:Nat)(l:List Int):Prop where
 pw:l.Pairwise (·<·)
 rng:∀ q∈l,0<=q/\(q<u\/(q=u/\∃ k',k'<k/\P[k']?=some q))
 p3:l.length<=3
 rk:∀ q∈l,∃ k',k'<i/\P[k']?=some q
theorem ParU.skip {P:List Int}{i u k:Nat}{l:List Int}(h:ParU P i u k l):ParU P i u (k+1) l:=⟨h.pw,fun q hq=>⟨(h.rng q hq).1,(h.rng q hq).2.imp id fun ⟨a,k',b,c⟩=>⟨a,k',by omega,c⟩⟩,h.p3,h.rk⟩
theorem ParU.next {P:List Int}{i u k:Nat}{l:List Int}(h:ParU P i u k l):ParU P i (u+1) 0 l:=⟨h.pw,fun q hq=>⟨(h.rng q hq).1,.inl (by rcases(h.rng q hq).2 with h1|h1<;>omega)⟩,h.p3,h.rk⟩
theorem ParU.add {P:List Int}{n i u k:Nat}{l:List Int}(hP:IsPerm n P)(h:ParU P i u k l)(hk:k<i)(hu:P[k]?=some (u:Int))(h3:l.length<3):ParU P i u (k+1) (l++[(u:Int)]):=by
 have lt:∀ q∈l,q<u:=fun q hq=>by
  rcases(h.rng q hq).2 with h1|⟨h1,k',h2,h4⟩
  ·exact h1
  ·exfalso;have e:P[k']?=P[k]?:=(by rw[h4,hu,h1]);have:=(Uh (get_lt h4) hP.nd).1 e;omega
 refine⟨Ut.2 ⟨h.pw,by simp,fun a ha b hb=>by obtain rfl:=List.mem_singleton.1 hb;exact lt a ha⟩,fun q hq=>?_,by simp;omega,fun q hq=>?_⟩
 ·rcases Ta.1 hq with h1|h1
  ·exact⟨(h.rng q h1).1,.inl (lt q h1)⟩
  ·obtain rfl:=List.mem_singleton.1 h1;exact⟨by omega,.inr ⟨rfl,k,by omega,hu⟩⟩
 ·rcases Ta.1 hq with h1|h1
  ·exact h.rk q h1
  ·obtain rfl:=List.mem_singleton.1 h1;exact⟨k,hk,hu⟩
def yZ (Hz Hx:AHeap)(N at':Nat)(C:List AVal)(pv:AVal)(l:List Int):Prop:=lJ Hz Hx N (C.set at' pv)/\aA Hz.next Hx 3 pv (ints l)
def Qh (g:Int)(ps:List DrP)(ord:List Int)(ns:List NodeP):Prop:=ns.length=min (max ps.length 1) 5/\(∀ (j v:Nat) (x:NodeP),(fa ord ns.length)[j]?=some (v:Int)->ns[v]?=some x->x=yY g ps (ao ns) (fa ord ns.length) ns.length j)/\∀ (j v:Nat) (x:NodeP),(fa ord ns.length)[j]?=some (v:Int)->ns[v]?=some x->x.card=iO ps ns.length j (ji ps ns.length j)
set_option maxHeartbeats 4000000 in
theorem Qi (g0:Int)(ps:List DrP)(ord:List Int)(hg0:U8 g0)(hps:∀ x∈ps,x.Ok)(hpl:(ps.length:Int)<2 ^ 63)(hol:(ord.length:Int)<2 ^ 63)(ho8:∀ x∈ord,U8 x)(H:AHeap)(K:ARes->AHeap->Prop)
  (hK:∀ g ns N H',Over H H'->H.next<=N->N<H'.next->H'.get N=some (.arr 0 73 (aG ns))->NetOk g ns->ns.length<=5->(∀ x∈ns,x.parents.length<=3)->(∀ x∈ns,2<=x.card)->(g=1+g0 % 60/\Qh g ps ord ns)->K (.ret (.agg [aa g,.own N 0 0 ns.length 3])) H'):
  ae Tryz.prog G0 41 [u7 g0 ps ord] H K:=by
 refine ae.aZ (n:=187) (rs:=[.cell 2 103]) Tryz.func41 rfl rfl rfl (by decide) (by kernel_rfl) (by simp) ?_;obtain⟨n,hn⟩:∃ n:Nat,min (max ps.length 1) 5=n:=⟨_,rfl⟩
 have h51:1<=n/\n<=5:=by omega
 have hmn:(if 5<(if (1:Int) > ps.length then 1 else (ps.length:Int)) then 5 else (if (1:Int) > ps.length then 1 else (ps.length:Int)))=(n:Int):=by split<;>split<;>omega
 have t0:g0.tmod 60=g0 % 60:=Tj hg0.1;have w0:IntKind.u8.wrap (g0 % 60)=g0 % 60:=VP _ (by omega);have w1:IntKind.i64.wrap (g0 % 60)=g0 % 60:=SM _ (by omega);have w2:=SM (1+g0 % 60) (by omega);obtain⟨g,hg⟩:∃ g,1+g0 % 60=g:=⟨_,rfl⟩
 have hg1:1<=g/\g<=60:=by omega
 rw[hg]at w2;simp only[go_sem,u7];refine W.draw 9 [0,1,3,7,15,0,32,127,0] Tryz.mixed (by kernel_rfl) (by kernel_rfl) ?_;simp only[go_sem,hmn,t0,w1,hg,w2];refine⟨by omega,⟨⟨by omega,by omega⟩,⟨by omega,by omega⟩,?_⟩⟩;obtain⟨H1,hH1⟩:∃ H1,H1=ext (ext H [.arr 0 25 [.lit (.int .u8 g0),.vec ps.length (dY ps),.vec ord.length (bn ord)],.arr 0 103 [.lit (.int .i64 0),.lit (.slice none 0 0)],.arr 0 73 (List.replicate n [AVal.lit (.int .i64 0),.lit (.slice none 0 0),.lit (.slice none 0 0)]).flatten]) [.arr 0 103 [.lit (.int .i64 g),.own (H.next+2) 0 0 n 3]]:=⟨_,rfl⟩
 refine W.en (fun E=>E 1=.ptr H.next 0 0 /\ E 2=.ptr (H.next+1) 0 0 /\ E 3=aa n /\ E 4=.ptr (H.next+3) 0 0) (by simp only[go_sem]) fun E ⟨e1,e2,e3,e4⟩=>?_
 show W _ _ _ _ _ _ ⟨E,ext (ext H [.arr 0 25 [.lit (.int .u8 g0),.vec ps.length (dY ps),.vec ord.length (bn ord)],.arr 0 103 [.lit (.int .i64 0),.lit (.slice none 0 0)],.arr 0 73 (List.replicate n [AVal.lit (.int .i64 0),.lit (.slice none 0 0),.lit (.slice none 0 0)]).flatten]) [.arr 0 103 [.lit (.int .i64 g),.own (H.next+2) 0 0 n 3]]⟩;rw[<- hH1];have n1:H1.next=H.next+4:=by rw[hH1];rfl
 have o1:Over H H1:=by rw[hH1];exact(Over.ext _ _).trans (.ext _ _)
 have g0':H1.get H.next=some (.arr 0 25 [.lit (.int .u8 g0),.vec ps.length (dY ps),.vec ord.length (bn ord)]):=by rw[hH1,gK];exact bQ ..
 have g1':H1.get (H.next+1)=some (.arr 0 103 [.lit (.int .i64 0),.lit (.slice none 0 0)]):=by rw[hH1,gK];exact bB H _ 1 (by simp)
 have g2':H1.get (H.next+2)=some (.arr 0 73 (bG (List.replicate n ⟨0,[],[]⟩))):=by
  rw[hH1,gK,show bG (List.replicate n ⟨0,[],[]⟩)=(List.replicate n [AVal.lit (.int .i64 0),.lit (.slice none 0 0),.lit (.slice none 0 0)]).flatten by unfold bG;rw[U5];rfl];exact bB H _ 2 (by simp)
 have g3':H1.get (H.next+3)=some (.arr 0 103 [.lit (.int .i64 g),.own (H.next+2) 0 0 n 3]):=by rw[hH1,gK];exact bB H _ 3 (by simp)
 clear hH1;have l0:=ag g0';have l1:=ag (show (ext H1 [.arr 0 5 (List.replicate n (.lit (.int .u8 0)))]).get H.next=some (.arr 0 25 [.lit (.int .u8 g0),.vec ps.length (dY ps),.vec ord.length (bn ord)]) by rw[dH _ _ _ (by omega)];exact g0');refine W.draw 4 [0,1,0,4] Tryz.mixed (by kernel_rfl) (by kernel_rfl) ?_;simp only[go_sem,e1,e3,l1];refine⟨⟨by omega,by omega⟩,by omega,by omega,?_⟩;obtain⟨H2,hH2⟩:∃ H2,H2=ext H1 [.arr 0 5 (List.replicate n (.lit (.int .u8 0)))]:=⟨_,rfl⟩
 have gb:H2.get H1.next=some (.arr 0 5 (List.replicate n (.lit (.int .u8 0)))):=by rw[hH2];exact bT
 rw[<- hH2];refine aB.clo ((ae.frame (H:=H2) (args:=[.agg [.own H1.next 0 0 n 1,.lit (.int .u16 0),.vec ord.length (bn ord)]]) (args':=[.agg [.vec n (bn (List.replicate n 0)),.lit (.int .u16 0),.vec ord.length (bn ord)]]) (v':=af (fa ord n)) aS rfl (fun i hi _=>?_) (PH n h51.2 ord hol ho8 bZ _ fun v H' _ ho=>⟨_,rfl,ho.nT⟩)).mono fun r H' hr=>?_)
 ·match i,hi with
  | 0,_ =>
   refine .agg rfl fun i hi _=>?_
   match i,hi with
   | 0,_ =>
    have:bn (List.replicate n 0)=List.replicate n (.lit (.int .u8 0)):=(by unfold bn;rw[U5]);rw[this];exact Fz.se gb (by simp) fun c hc=>⟨_,Tz hc⟩
   | 1,_=>exact .lit _
   | 2,_=>exact .vec rfl fun i hi _=>by simp only[bn,S4];exact .lit _
 obtain⟨rfl,rfl⟩:=hr;refine⟨trivial,?_⟩;have hperm:=yQ ord n;obtain⟨P,hP⟩:∃ P,P=fa ord n:=⟨_,rfl⟩
 rw[<- hP]at hperm ⊢;have n2:H'.next=H1.next+1:=by rw[hH2];rfl
 have F0:lJ H1 H' (H.next+2) (bG (List.replicate n ⟨0,[],[]⟩)):=by
  rw[hH2];exact⟨by simp [bI],fun id h _=>dH _ _ _ h,by rw[dH _ _ _ (by omega)];exact g2'⟩
 clear hH2 gb;simp only[go_sem,e3];have bs:∀ k:Nat,k<=5->(3:Int) ^ k<=243:=fun k hk=>by
  have:(3:Nat) ^ k<=3 ^ 5:=Tm (by decide) hk;have h2:((3 ^ k:Nat):Int)<=((3 ^ 5:Nat):Int):=by exact_mod_cast this
  push_cast at h2
  exact h2
 refine W.aL 151115727451794287100864 (by rfl) (fun ρ Hx=>∃ (i:Nat) (ns:List NodeP) (Wd:Int),ρ 7=aa i/\i<=n/\ns.length=n/\(∀ x∈ns,x.rows=[]/\x.parents=[])/\(∀ j v:Nat,j<i->P[j]?=some (v:Int)->∃ x,ns[v]?=some x/\2<=x.card/\x.card<=3/\x.card=iO ps n j (ji ps n j))/\ρ 6=aa Wd/\Wd=ji ps n i/\1<=Wd/\Wd<=3 ^ i/\H'.next<=Hx.next/\lJ H1 Hx (H.next+2) (bG ns)) (fun ρ H=>n - (iv (ρ 7)).toNat) ?_ ?_
 ·simp only[go_sem];exact⟨0,_,1,rfl,by omega,by simp,fun x hx=>by obtain rfl:=Tz hx;exact⟨rfl,rfl⟩,fun j v hj=>by omega,rfl,rfl,by omega,by simp,F0⟩
 rintro ρ Hx ⟨i,ns,Wd,h7,hi,hnl,hnz,hnc,h6,hWe,hW1,hW3,hnx,hF⟩;refine W.en (fun E2=>E2 1=.ptr H.next 0 0 /\ E2 2=.ptr (H.next+1) 0 0 /\ E2 3=aa n /\ E2 4=.ptr (H.next+3) 0 0 /\ E2 5=af P /\ E2 6=aa Wd /\ E2 7=aa i) (by simp only[go_sem,e1,e2,e3,e4,h6,h7]) fun E2 ⟨f1,f2,f3,f4,f5,f6,f7⟩=>?_
 refine W.vs ?_;have hPl:=hperm.len;have hFn:=hF.1;have m0:=ag ((hF.2.1 H.next (by omega) (by omega)).trans g0');have m3:=ag ((hF.2.1 (H.next+3) (by omega) (by omega)).trans g3');have mN:=ag hF.2.2;have m0':∀ L,(ext Hx L).live H.next 0=some (25,[.lit (.int .u8 g0),.vec ps.length (dY ps),.vec ord.length (bn ord)]):=fun L=>(dv (by omega)).trans m0;have m3':∀ L,(ext Hx L).live (H.next+3) 0=some (103,[.lit (.int .i64 g),.own (H.next+2) 0 0 n 3]):=fun L=>(dv (by omega)).trans m3;have mN':∀ L,(ext Hx L).live (H.next+2) 0=some (73,bG ns):=fun L=>(dv (by omega)).trans mN;by_cases hb:(i:Int)<n
 ·obtain⟨pv,hpv⟩:=get_of_lt (l:=P) (i:=i) (by omega);have hpr:=hperm.rng pv (SK hpv);obtain⟨v,rfl⟩:=S2 hpr.1;obtain⟨x,hx⟩:=get_of_lt (l:=ns) (i:=v) (by omega);have hpne:=aK hpv;have hz0:=DD hx;have hzne:=aK hz0;have hzl:=DC ns;have hv:(v:Int)<n:=hpr.2;have hv0:(v:Int) >= 0:=hpr.1;have hiP:(i:Int)<P.length:=by omega
  have w3:=bs i (by omega);have i1:=SM ((i:Int)+1) (by omega);have i2:=SM ((n:Int) - 1) (by omega);have i3:=SM ((n:Int) - 1 - i) (by omega);have i4:=UR ((n:Int) - 1 - i) (by omega);have fin:∀ (c:Int) (B:Blk),2<=c/\c<=3->c=iO ps n i Wd->v*3+1<=(bG ns).length/\H'.next<=((ext Hx [B]).upd (H.next+2) (.arr 0 73 (setAt (bG ns) (v*3) [.lit (.int .i64 c)]))).next /\
    (∃ (i_1:Nat) (ns_1:List NodeP) (Wd_1:Int),AVal.lit (.int .i64 ((i:Int)+1))=.lit (.int .i64 i_1)/\i_1<=n/\ns_1.length=n/\(∀ x∈ns_1,x.rows=[]/\x.parents=[])/\(∀ j v:Nat,j<i_1->P[j]?=some (v:Int)->∃ x,ns_1[v]?=some x/\2<=x.card/\x.card<=3/\x.card=iO ps n j (ji ps n j)) /\
     AVal.lit (.int .i64 (Wd*c))=.lit (.int .i64 Wd_1)/\Wd_1=ji ps n i_1/\1<=Wd_1/\Wd_1<=3 ^ i_1/\H'.next<=((ext Hx [B]).upd (H.next+2) (.arr 0 73 (setAt (bG ns) (v*3) [.lit (.int .i64 c)]))).next/\lJ H1 ((ext Hx [B]).upd (H.next+2) (.arr 0 73 (setAt (bG ns) (v*3) [.lit (.int .i64 c)]))) (H.next+2) (bG ns_1)) /\
    n - ((i:Int)+1).toNat<n - (iv (ρ 7)).toNat:=by
   intro c B c23 hce;have p1:2<=Wd*c/\Wd*c<=3 ^ i*3:=by
    constructor
    ·have:=Uc hW1 c23.1 (by omega) (by omega);omega
    ·exact Uc hW3 c23.2 (by omega) (by omega)
   have nn:((ext Hx [B]).upd (H.next+2) (.arr 0 73 (setAt (bG ns) (v*3) [.lit (.int .i64 c)]))).next=Hx.next+1:=rfl;refine⟨by rw[hzl];have:=get_lt hx;omega,by rw[nn];omega,⟨i+1,ns.set v ⟨c,[],[]⟩,Wd*c,rfl,by omega,by simp [hnl],fun z hz=>?_,fun j u hj hu=>?_,rfl,by show Wd*c=ji ps n i*iO ps n i (ji ps n i);rw[<- hWe,<- hce],by omega,by rw[Int.pow_succ];omega,by rw[nn];omega,?_⟩,by rw[h7];simp only[aa,aQ];omega⟩
   ·rcases Tq hz with h|h
    ·exact hnz z h
    ·rw[h];exact⟨rfl,rfl⟩
   ·by_cases huv:u=v
    ·subst huv;have hji:j=i:=(Uh (get_lt hu) hperm.nd).1 (by rw[hu,hpv]);exact⟨_,S1 (get_lt hx),by dsimp only;omega,by dsimp only;omega,by dsimp only;rw[hji,<- hWe];exact hce⟩
    ·rw[Tb (by omega)];refine hnc j u ?_ hu;rcases Te j i with h|h
     ·exact h
     ·obtain rfl:j=i:=(by omega);rw[hpv]at hu;exact absurd (by have:=Option.some.inj hu;omega) huv
   ·refine⟨by rw[nn];omega,fun id h1 h2=>by rw[ab,SO h2,dH _ _ _ (by omega)];exact hF.2.1 id h1 h2,?_⟩;rw[ab,SQ rfl,Qd hx (hnz x (SK hx)).1 rfl];congr 2;exact dS (by rw[hzl];have:=get_lt hx;omega)
  by_cases hp:(i:Int)<ps.length
  ·obtain⟨y,hy⟩:=get_of_lt (l:=ps) (i:=i) (by omega);have hyo:=hps y (SK hy);have hc0:=DA hy;have hc1:i*3+3<=(dY ps).length:=(by rw[DB];omega);have hcne:¬ dY ps=[]:=fun h=>by rw[h]at hc1;simp at hc1
   have c8:=hyo.1;have t1:y.card.tmod 2=y.card % 2:=Tj c8.1;have i5:=VP (y.card % 2) (by omega);have i6:=SM (y.card % 2) (by omega);have i7:=SM (2+y.card % 2) (by omega);have c23:2<=(2+y.card % 2)/\(2+y.card % 2)<=3:=(by omega);have p1:2<=Wd*(2+y.card % 2)/\Wd*(2+y.card % 2)<=3 ^ i*3:=by
    constructor
    ·have:=Uc hW1 c23.1 (by omega) (by omega);omega
    ·exact Uc hW3 c23.2 (by omega) (by omega)
   have p2:2<=Wd*2/\Wd*2<=3 ^ i*3:=(by omega);have j1:=SM (Wd*(2+y.card % 2)) (by omega);have j2:=SM (Wd*2) (by omega);obtain⟨q,hq⟩:∃ q,IntKind.i64.wrap (Wd*(2+y.card % 2)*2 ^ (min ((n:Int) - 1 - i).toNat IntKind.i64.bits))=q:=⟨_,rfl⟩
   have cA:iO ps n i Wd=if q > 100 then 2 else 2+y.card % 2:=by
    have h0:pL ps i=2+y.card % 2:=(by unfold pL;rw[hy]);unfold iO;rw[h0,hq]
   have hsh:∀ t o1 o2,bh Tryz.prog .shl t o1 o2 (.lit (.int .i64 (Wd*(2+y.card % 2)))) (.lit (.int .u64 ((n:Int) - 1 - i)))=some (.lit (.int .i64 q)):=fun t o1 o2=>by rw[zA (by omega),hq]
   by_cases hq1:q > 100
   ·simp only[go_sem,f1,f3,f6,f7,m0',hb,hp,i2,i3,i4,j1,j2,hsh,hc0,hc1,hcne,t1,i6,i7,hq1];refine W.draw 7 [0,1,0,0,12,28,0] Tryz.mixed (by kernel_rfl) (by kernel_rfl) ?_;simp only[go_sem,f4,f5,f6,f7,m3',mN',i1,hpv,hpne,hv,hv0,hiP];exact fin 2 _ (by omega) (by rw[cA,SQ hq1])
   ·simp only[go_sem,f1,f3,f6,f7,m0',hb,hp,i2,i3,i4,j1,hsh,hc0,hc1,hcne,t1,i6,i7,hq1];refine W.draw 7 [0,1,0,0,12,28,0] Tryz.mixed (by kernel_rfl) (by kernel_rfl) ?_;simp only[go_sem,f4,f5,f6,f7,m3',mN',i1,hpv,hpne,hv,hv0,hiP];exact fin (2+y.card % 2) _ c23 (by rw[cA,SO hq1])
  ·have p2:2<=Wd*2/\Wd*2<=3 ^ i*3:=(by omega);have i5:IntKind.i64.wrap (2+IntKind.i64.wrap (Int.tmod 0 2))=2:=(by decide);have j2:=SM (Wd*2) (by omega);obtain⟨q,hq⟩:∃ q,IntKind.i64.wrap (Wd*2*2 ^ (min ((n:Int) - 1 - i).toNat IntKind.i64.bits))=q:=⟨_,rfl⟩
   have cA:iO ps n i Wd=2:=by
    have h0:pL ps i=2:=(by unfold pL;rw[SV (by omega)]);unfold iO;rw[h0];split<;>rfl
   have hsh:∀ t o1 o2,bh Tryz.prog .shl t o1 o2 (.lit (.int .i64 (Wd*2))) (.lit (.int .u64 ((n:Int) - 1 - i)))=some (.lit (.int .i64 q)):=fun t o1 o2=>by rw[zA (by omega),hq]
   by_cases hq1:q > 100
   ·simp only[go_sem,f1,f3,f6,f7,m0',hb,hp,i2,i3,i4,j2,hsh,i5,hq1];refine W.draw 7 [0,1,0,0,12,28,0] Tryz.mixed (by kernel_rfl) (by kernel_rfl) ?_;simp only[go_sem,f4,f5,f6,f7,m3',mN',i1,hpv,hpne,hv,hv0,hiP];exact fin 2 _ (by omega) cA.symm
   ·simp only[go_sem,f1,f3,f6,f7,m0',hb,hp,i2,i3,i4,j2,hsh,i5,hq1];refine W.draw 7 [0,1,0,0,12,28,0] Tryz.mixed (by kernel_rfl) (by kernel_rfl) ?_;simp only[go_sem,f4,f5,f6,f7,m3',mN',i1,hpv,hpne,hv,hv0,hiP];exact fin 2 _ (by omega) cA.symm
 ·obtain rfl:n=i:=by omega
  clear bs hW1 hW3 h6 f6;simp only[go_sem,f3,f7,hb];obtain⟨cs,hcs⟩:∃ cs,cs=ao ns:=⟨_,rfl⟩
  have csl:cs.length=n:=by rw[hcs,cM,hnl]
  have hc23:∀ c∈cs,2<=c/\c<=3:=fun c hc=>by
   obtain⟨v,hv⟩:=S8.1 hc;have hvn:=get_lt hv;have hm:=vb ord n v (by omega);rw[<- hP]at hm;obtain⟨j,hj⟩:=S8.1 hm;obtain⟨x,hx,h2,h3,_⟩:=hnc j v (by have:=get_lt hj;omega) hj;rw[hcs,cL hx]at hv;cases hv;exact⟨h2,h3⟩
  have L0:LoopN g ps cs P n 0 ns:=⟨hnl,hcs.symm,fun j v x _ _ hx=>hnz x (SK hx),fun j v x h=>by omega,fun j v x h=>by omega,fun j v x hj hx=>by
   obtain⟨x',hx',_,_,h4⟩:=hnc j v (by have:=get_lt hj;omega) hj;rw[hx']at hx;rw[<- Option.some.inj hx];exact h4⟩
  clear hnc hnz h7;refine W.aL 98079714615416886934934209737619636635871851991103765504 (by rfl) (fun ρ Hy=>∃ (i:Nat) (ns:List NodeP),ρ 10=aa i/\i<=n/\LoopN g ps cs P n i ns/\Hx.next<=Hy.next/\lJ H1 Hy (H.next+2) (bG ns)) (fun ρ H=>n - (iv (ρ 10)).toNat) ?_ ?_
  ·simp only[go_sem];exact⟨0,ns,rfl,by omega,L0,hF⟩
  clear L0 hF m0 m3 mN m0' m3' mN' hFn hnl hcs f7;rintro ρ Hy ⟨i,ns,h10,hi,L,hny,hF⟩;refine W.en (fun E=>E 1=.ptr H.next 0 0 /\ E 2=.ptr (H.next+1) 0 0 /\ E 3=aa n /\ E 4=.ptr (H.next+3) 0 0 /\ E 5=af P /\ E 10=aa i) (by simp only[go_sem,f1,f2,f3,f4,f5,h10]) fun E ⟨e1,e2,e3,e4,e5,e10⟩=>?_
  refine W.vs ?_;have hFn:=hF.1;have m0:=ag ((hF.2.1 H.next (by omega) (by omega)).trans g0');have m1:=ag ((hF.2.1 (H.next+1) (by omega) (by omega)).trans g1');have m3:=ag ((hF.2.1 (H.next+3) (by omega) (by omega)).trans g3');have m0':∀ L,(ext Hy L).live H.next 0=some (25,[.lit (.int .u8 g0),.vec ps.length (dY ps),.vec ord.length (bn ord)]):=fun L=>(dv (by omega)).trans m0;by_cases hb:(i:Int)<n
  ·obtain⟨pv,hpv⟩:=get_of_lt (l:=P) (i:=i) (by omega);have hpr:=hperm.rng pv (SK hpv);obtain⟨v,rfl⟩:=S2 hpr.1;have hnl:=L.len;obtain⟨x,hx⟩:=get_of_lt (l:=ns) (i:=v) (by omega);have hpne:=aK hpv;have hiP:(i:Int)<P.length:=(by omega);have hP1:∀ k:Nat,k<n->∃ u:Nat,P[k]?=some (u:Int)/\u<n:=fun k hk=>by
    obtain⟨q,hq⟩:=get_of_lt (l:=P) (i:=k) (by omega);have:=hperm.rng q (SK hq);obtain⟨u,rfl⟩:=S2 this.1;exact⟨u,hq,by omega⟩
   have hpc:∀ (B:List AVal),B=(if (i:Int)<ps.length then (dY ps).drop (i*3) |>.take 3 else [.lit (.int .u8 0),.lit (.int .u8 0),.lit (.slice none 0 0)])->∃ (pc par:Int) (bs:List Int) (wv:AVal),B=[.lit (.int .u8 pc),.lit (.int .u8 par),wv]/\(par=(lK ps i).1/\bs=(lK ps i).2)/\U8 par/\(∀ b∈bs,U8 b)/\(bs.length:Int)<2 ^ 63/\wv.one=true/\wv.cells=[wv]/\∀ H0,Fz (fun _=>True) H0 0 wv (.vec bs.length (bn bs)):=by
    rintro B rfl;by_cases hp:(i:Int)<ps.length
    ·obtain⟨y,hy⟩:=get_of_lt (l:=ps) (i:=i) (by omega);have hyo:=hps y (SK hy);rw[SQ hp,DA hy];exact⟨y.card,y.par,y.w,_,rfl,⟨by unfold lK;rw[hy],by unfold lK;rw[hy]⟩,hyo.2.1,hyo.2.2.2,hyo.2.2.1,rfl,rfl,fun H0=>.vec rfl fun i hi _=>by simp only[bn,S4];exact .lit _⟩
    ·rw[SO hp];exact⟨0,0,[],_,rfl,⟨by unfold lK;rw[SV (by omega)],by unfold lK;rw[SV (by omega)]⟩,by unfold U8;omega,by simp,by simp,rfl,rfl,fun H0=>.nil⟩
   by_cases hp:(i:Int)<ps.length
   case' pos =>
    have hc1:i*3+3<=(dY ps).length:=(by rw[DB];omega);have hcne:¬ dY ps=[]:=fun h=>by rw[h]at hc1;simp at hc1
    rw[SQ hp]at hpc;obtain⟨pc,par,bs,wv,hc0,hpw,hpar,hbs,hbl,hwo,hwc,hwf⟩:=hpc _ rfl;simp only[go_sem,e1,e3,e5,e10,m0',hb,hp,hc0,hc1,hcne,hpv,hpne,hiP,hwo,Bool.and_true];obtain⟨Hz,hHz⟩:∃ Hz,Hz=ext Hy [.arr 0 165 [.lit (.int .u8 pc),.lit (.int .u8 par),wv]]:=⟨_,rfl⟩
    clear hpc hc0 hc1 hcne hp
   case' neg =>
    rw[SO hp]at hpc;obtain⟨pc,par,bs,wv,hc0,hpw,hpar,hbs,hbl,hwo,hwc,hwf⟩:=hpc _ rfl;simp only[go_sem,e1,e3,e5,e10,m0',hb,hp,hpv,hpne,hiP];rw[hc0];obtain⟨Hz,hHz⟩:∃ Hz,Hz=ext Hy [.arr 0 165 [.lit (.int .u8 pc),.lit (.int .u8 par),wv]]:=⟨_,rfl⟩
    clear hpc hc0 hp
   all_goals
    rw[<- hHz];refine W.env fun E3 hE3=>?_;have k1:E3 1=.ptr H.next 0 0:=(by rw[hE3];simp only[go_sem,e1]);have k2:E3 2=.ptr (H.next+1) 0 0:=(by rw[hE3];simp only[go_sem,e2]);have k3:E3 3=aa n:=(by rw[hE3];simp only[go_sem,e3]);have k4:E3 4=.ptr (H.next+3) 0 0:=(by rw[hE3];simp only[go_sem,e4]);have k5:E3 5=af P:=(by rw[hE3];simp only[go_sem,e5]);have k10:E3 10=aa i:=(by rw[hE3];simp only[go_sem,e10]);have k11:E3 11=.ptr Hy.next 0 0:=(by rw[hE3];simp only[go_sem]);have k12:E3 12=aa v:=(by rw[hE3];simp only[go_sem]);have k13:E3 13=aa 0:=(by rw[hE3];simp only[go_sem]);clear hE3;have nz:Hz.next=Hy.next+1:=(by rw[hHz];rfl);have z3:Hz.get (H.next+3)=some (.arr 0 103 [.lit (.int .i64 g),.own (H.next+2) 0 0 n 3]):=(by rw[hHz,dH _ _ _ (by omega)];exact(hF.2.1 (H.next+3) (by omega) (by omega)).trans g3');have zP:Hz.get Hy.next=some (.arr 0 165 [.lit (.int .u8 pc),.lit (.int .u8 par),wv]):=(by rw[hHz];exact bT);have zN:Hz.get (H.next+2)=some (.arr 0 73 (bG ns)):=(by rw[hHz,dH _ _ _ (by omega)];exact hF.2.2);have zO:∀ id,id<H1.next->id≠H.next+2->Hz.get id=H1.get id:=fun id h1 h2=>by rw[hHz,dH _ _ _ (by omega)];exact hF.2.1 id h1 h2
    obtain⟨xr,xp⟩:=L.todo i v x (Nat.le_refl _) hpv hx;have hzl:=DC ns;have hvn:=get_lt hx;have hcx:(bG ns)[v*3+1]?=some (.lit (.slice none 0 0)):=by
     have:=gS (f:=NodeP.cC) (z:=3) jT ns v 1 x hx (by omega);rw[show (bG ns)[v*3+1]?=_ from this];unfold NodeP.cC;rw[SQ xr];rfl
    clear hHz e1 e2 e3 e4 e5 e10 f1 f2 f3 f4 f5 m0' m0 m1 m3;have vlt:(v:Int)<n:=hpr.2;have v0:(v:Int) >= 0:=hpr.1;have hset:∀ pv pv',setAt ((bG ns).set (v*3+1) pv) (v*3+1) [pv']=(bG ns).set (v*3+1) pv':=fun pv pv'=>by rw[dS (by rw[SU];omega),UJ]
    have hgetc:∀ pv,((bG ns).set (v*3+1) pv)[v*3+1]?=some pv:=fun pv=>S1 (by omega);refine W.lT (Q':=fun e s2=>e=.exit 4/\∃ pv l,s2.ρ 1=.ptr H.next 0 0/\s2.ρ 2=.ptr (H.next+1) 0 0/\s2.ρ 3=aa n/\s2.ρ 4=.ptr (H.next+3) 0 0/\s2.ρ 5=af P/\s2.ρ 10=aa i/\s2.ρ 11=.ptr Hy.next 0 0/\s2.ρ 12=aa v/\yZ Hz s2.H (H.next+2) (v*3+1) (bG ns) pv l/\ParU P i n 0 l/\l=jU par P i n 0) ?_ ?_
    ·refine W.aL 44601490397061167054908922280959129468035072 (by rfl) (fun ρ Hu=>∃ (u:Nat) (pv:AVal) (l:List Int),ρ 13=aa u/\u<=n/\yZ Hz Hu (H.next+2) (v*3+1) (bG ns) pv l/\ParU P i u 0 l/\l=jU par P i u 0) (fun ρ H=>n - (iv (ρ 13)).toNat) ?_ ?_
     ·simp only[go_sem,k13];refine⟨0,.lit (.slice none 0 0),[],rfl,by omega,⟨⟨Nat.le_refl _,fun _ _ _=>rfl,?_⟩,.nil⟩,⟨by simp,by simp,by simp,by simp⟩,rfl⟩;rw[zN,jX hcx]
     rintro ρu Hu ⟨u,pv,l,h13,hu,hS,hL,hPk⟩;refine W.env fun E4 hE4=>?_;have q3:E4 3=aa n:=(by rw[hE4];simp only[go_sem,k3]);have q4:E4 4=.ptr (H.next+3) 0 0:=(by rw[hE4];simp only[go_sem,k4]);have q5:E4 5=af P:=(by rw[hE4];simp only[go_sem,k5]);have q10:E4 10=aa i:=(by rw[hE4];simp only[go_sem,k10]);have q11:E4 11=.ptr Hy.next 0 0:=(by rw[hE4];simp only[go_sem,k11]);have q12:E4 12=aa v:=(by rw[hE4];simp only[go_sem,k12]);have q13:E4 13=aa u:=(by rw[hE4];simp only[go_sem,h13]);have q1:E4 1=.ptr H.next 0 0:=(by rw[hE4];simp only[go_sem,k1]);have q2:E4 2=.ptr (H.next+1) 0 0:=(by rw[hE4];simp only[go_sem,k2]);clear hE4;refine W.vs ?_;by_cases hub:(u:Int)<n
     ·have u1:=SM ((u:Int)+1) (by omega);simp only[go_sem,q3,q13,hub];refine W.aL 44601490397058710981870980086493729605566464 (by rfl) (fun ρ Hk=>∃ (k:Nat) (pv:AVal) (l:List Int),ρ 14=aa k/\k<=i/\Hu.next<=Hk.next/\yZ Hz Hk (H.next+2) (v*3+1) (bG ns) pv l/\ParU P i u k l/\l=jU par P i u k) (fun ρ H=>i - (iv (ρ 14)).toNat) ?_ ?_
      ·simp only[go_sem];exact⟨0,pv,l,rfl,by omega,hS,hL,hPk⟩
      clear hS hL hPk;rintro ρk Hk ⟨k,pv,l,h14,hk,hnk,hS,hL,hPk⟩;refine W.env fun E5 hE5=>?_;have r4:E5 4=.ptr (H.next+3) 0 0:=(by rw[hE5];simp only[go_sem,q4]);have r5:E5 5=af P:=(by rw[hE5];simp only[go_sem,q5]);have r10:E5 10=aa i:=(by rw[hE5];simp only[go_sem,q10]);have r11:E5 11=.ptr Hy.next 0 0:=(by rw[hE5];simp only[go_sem,q11]);have r12:E5 12=aa v:=(by rw[hE5];simp only[go_sem,q12]);have r13:E5 13=aa u:=(by rw[hE5];simp only[go_sem,q13]);have r14:E5 14=aa k:=(by rw[hE5];simp only[go_sem,h14]);clear hE5;refine W.vs ?_;by_cases hki:(k:Int)<i
      ·obtain⟨hFz,hOz⟩:=hS;have hFz1:=hFz.1;obtain⟨a,ha,han⟩:=hP1 k (by omega);have hane:=aK ha;have hkP:(k:Int)<P.length:=(by omega);have s1:=SM ((k:Int)+1) (by omega);have s2:=UR (k:Int) (by omega);have y3:=ag ((hFz.2.1 (H.next+3) (by omega) (by omega)).trans z3);have yP:=ag ((hFz.2.1 Hy.next (by omega) (by omega)).trans zP);have yN:=ag hFz.2.2;have hgc:=hgetc pv;have hcne2:=aK hgc;obtain⟨r2,hr2e⟩:∃ r2,r2=DH par k:=⟨_,rfl⟩
       obtain⟨r1,hr1e⟩:∃ r1,r1=par.fdiv (2 ^ (min ((k:Int)).toNat IntKind.u8.bits)):=⟨_,rfl⟩
       have hr1:∀ t o1 o2,bh Tryz.prog .shr t o1 o2 (.lit (.int .u8 par)) (.lit (.int .u64 (k:Int)))=some (.lit (.int .u8 r1)):=fun _ _ _=>by rw[hr1e];exact vE (by omega)
       have hr2:∀ t o1 o2,bh Tryz.prog .and t o1 o2 (.lit (.int .u8 r1)) (.lit (.int .u8 1))=some (.lit (.int .u8 r2)):=fun _ _ _=>by rw[hr2e,hr1e];exact vF
       have hlen:=va hOz (d:=some (.slice 3)) rfl;rw[o7,aP]at hlen;by_cases hau:(a:Int)=u
       ·have hau':a=u:=(by omega);by_cases hr:r2=1
        ·by_cases hl3:(l.length:Int)<3
         ·simp only[go_sem,r4,r5,r10,r11,r12,r13,r14,hki,ha,hane,hkP,s2,y3,yP,yN,hgc,hr1,hr2,hlen,hau,hr,hl3,vlt,v0];obtain⟨pv',Hj,hA,hO',hn',hpr'⟩:=gL (P:=Tryz.prog) (H:=Hk) (t:=46) (x:=aa u) (n:=Hk.next+1) Tryz.underlying46 Tryz.dx Tryz.dQ rfl (by rw[Tryz.eC,aP];omega) hOz hFz1 rfl;simp only[aa]at hA;have keep:∀ id,id<Hz.next->Hj.get id=Hk.get id:=fun id h=>hpr' id (by omega) (hOz.ne h);have y3j:=ag ((keep _ (by omega)).trans ((hFz.2.1 (H.next+3) (by omega) (by omega)).trans z3));have yNj:=ag ((keep _ (by omega)).trans hFz.2.2);refine W.draw 12 [0,1,0,0,8,0,56,120,248,0,512,2040] Tryz.mixed (by kernel_rfl) (by kernel_rfl) ?_;simp only[go_sem,r4,r12,r13,r14,y3,yN,yNj,hgc,vlt,v0,hA,s1];have hdj:mc (if kf pv=true then { eff:=aJ pv,rs:=aJ pv++[Hk.next] } else { eff:=[Hk.next+1],rs:=[Hk.next] }) { eff:=[],rs:=[H.next+3] }:=by
           rcases hOz with ⟨hO1,_⟩|⟨id,gg,hO1,hO2,hO3,_⟩
           ·rw[hO1];show mc { eff:=[Hk.next+1],rs:=[Hk.next] } _;exact⟨fun a ha=>by (obtain rfl:a=Hk.next+1:=by simpa using ha);simp;omega,fun a ha=>by simp at ha⟩
           ·rw[hO3];show mc { eff:=[id],rs:=[id]++[Hk.next] } _;exact⟨fun a ha=>by (obtain rfl:a=id:=by simpa using ha);simp;omega,fun a ha=>by simp at ha⟩
          have hpc1:=hO'.cells;rw[hpc1];refine⟨⟨by omega,by omega,by omega,by omega,by omega,by omega,by omega⟩,⟨hdj,hdj⟩,⟨rfl,by simp [hO'.one],by rw[SU];simp;omega⟩,by rw[aw];omega,⟨k+1,pv',l++[(u:Int)],rfl,by omega,by rw[aw];omega,⟨⟨by rw[aw];omega,fun id h1 h2=>by rw[ab,SO h2,keep _ h1];exact hFz.2.1 id h1 h2,?_⟩,?_⟩,hL.add hperm (by omega) (by rw[ha,hau]) (by omega),by rw[vd,<- hPk];unfold nP;rw[SQ ⟨by rw[ha,hau],by rw[<- hr2e];exact hr,by omega⟩]⟩,by rw[h14];simp only[aa,aQ];omega⟩
          ·rw[ab,SQ rfl,hset]
          ·have:=hO'.keep (lo':=Hz.next) (H':=Hj.upd (H.next+2) (.arr 0 73 (setAt ((bG ns).set (v*3+1) pv) (v*3+1) [pv']))) (Nat.le_refl _) (Nat.le_refl _) fun id _ h1 _ _ _=>by rw[ab,SO (by omega)]
           simpa [ints,aa] using this
         ·simp only[go_sem,r4,r5,r10,r11,r12,r13,r14,hki,ha,hane,hkP,s1,s2,y3,yP,yN,hgc,hr1,hr2,hlen,hau,hr,hl3,vlt,v0];exact⟨hnk,⟨k+1,pv,l,rfl,by omega,hnk,⟨hFz,hOz⟩,hL.skip,by rw[vd,<- hPk];unfold nP;rw[SO fun h=>hl3 (by have:=h.2.2;omega)]⟩,by rw[h14];simp only[aa,aQ];omega⟩
        ·simp only[go_sem,r5,r10,r11,r13,r14,hki,ha,hane,hkP,s1,s2,yP,hr1,hr2,hau,hr];exact⟨hnk,⟨k+1,pv,l,rfl,by omega,hnk,⟨hFz,hOz⟩,hL.skip,by rw[vd,<- hPk];unfold nP;rw[SO fun h=>hr (by rw[hr2e];exact h.2.1)]⟩,by rw[h14];simp only[aa,aQ];omega⟩
       ·simp only[go_sem,r5,r10,r13,r14,hki,ha,hane,hkP,s1,hau];exact⟨hnk,⟨k+1,pv,l,rfl,by omega,hnk,⟨hFz,hOz⟩,hL.skip,by rw[vd,<- hPk];unfold nP;rw[SO fun h=>hau (by have h1:=h.1;rw[ha]at h1;exact Option.some.inj h1)]⟩,by rw[h14];simp only[aa,aQ];omega⟩
      ·obtain rfl:k=i:=(by omega);simp only[go_sem,r10,r13,r14,hki,u1];exact⟨by have:=hS.1.1;omega,⟨u+1,pv,l,rfl,by omega,hS,hL.next,by rw[Qe];exact hPk⟩,by rw[h13];simp only[aa,aQ];omega⟩
     ·obtain rfl:u=n:=(by omega);simp only[go_sem,q1,q2,q3,q4,q5,q10,q11,q12,q13,hub];exact⟨pv,l,hS,hL,hPk⟩
    ·rintro e s2 ⟨rfl,pv,l,a1,a2,a3,a4,a5,a10,a11,a12,⟨hFz,hOz⟩,hL,hPk⟩;have hFz1:=hFz.1;obtain⟨rk,hrk,hfz⟩:∃ rk,Hz.next<=rk/\Fz (fun id=>id=rk) s2.H s2.H.next pv (af l):=by
      rcases hOz with ⟨hO1,hO2⟩|⟨id,gg,hO1,hO2,hO3,hO4⟩
      ·have:l=[]:=by cases l with
        | nil=>rfl
        | cons b l=>simp [ints]at hO2
       rw[hO1,this];exact⟨s2.H.next,hFz1,.nil⟩
      ·refine⟨id,hO1,?_⟩;rw[hO3,aP];refine .frz rfl hO4 (by rw[Nat.mul_one,aP]) fun j hj h2 h'=>?_;simp only[Nat.zero_add,ints,S4];exact .lit _
     have hne2:H.next+2≠rk:=(by omega);refine⟨⟨s2.ρ,s2.H.ee rk (H.next+2) (.arr 0 73 ((bG ns).set (v*3+1) (af l)))⟩,cV.ee aS hFz.2.2 hne2 (by simp) (zF (DF ns) hfz),Nat.le_refl _,trivial,?_⟩;obtain⟨Hm,hHm⟩:∃ Hm,Hm=s2.H.ee rk (H.next+2) (.arr 0 73 ((bG ns).set (v*3+1) (af l))):=⟨_,rfl⟩
     rw[<- hHm];have hFm:lJ Hz Hm (H.next+2) ((bG ns).set (v*3+1) (af l)):=by
      rw[hHm];exact⟨hFz1,fun id h1 h2=>(kQ (by omega) h2).trans (hFz.2.1 id h1 h2),vI hne2⟩
     clear hFz hOz hfz hHm hne2 hrk;simp only[go_sem];refine W.env fun E6 hE6=>?_;have y1:E6 1=.ptr H.next 0 0:=(by rw[hE6];simp only[go_sem,a1]);have y2:E6 2=.ptr (H.next+1) 0 0:=(by rw[hE6];simp only[go_sem,a2]);have y3:E6 3=aa n:=(by rw[hE6];simp only[go_sem,a3]);have y4:E6 4=.ptr (H.next+3) 0 0:=(by rw[hE6];simp only[go_sem,a4]);have y5:E6 5=af P:=(by rw[hE6];simp only[go_sem,a5]);have y10:E6 10=aa i:=(by rw[hE6];simp only[go_sem,a10]);have y11:E6 11=.ptr Hy.next 0 0:=(by rw[hE6];simp only[go_sem,a11]);have y12:E6 12=aa v:=(by rw[hE6];simp only[go_sem,a12]);have y15:E6 15=aa 0:=(by rw[hE6];simp only[go_sem]);clear hE6 a1 a2 a3 a4 a5 a10 a11 a12;have lsm:cU (aF cs l):=lS (by rw[fM];have:=hL.p3;omega) fun c hc=>by
      unfold aF at hc;obtain⟨q,hq,rfl⟩:=S9.1 hc;have hqr:=hL.rng q hq;obtain⟨c,hc⟩:=get_of_lt (l:=cs) (i:=q.toNat) (by rw[csl];rcases hqr.2 with h|⟨_,k',h,_⟩<;>omega);rw[bq hc];have:=hc23 c (SK hc);omega
     have lpos:0<au (aF cs l)/\au (aF cs l)<=27:=by
      have c3:∀ c∈aF cs l,1<=c/\c<=3:=fun c hc=>by
       unfold aF at hc;obtain⟨q,hq,rfl⟩:=S9.1 hc;have hqr:=hL.rng q hq;obtain⟨c,hc⟩:=get_of_lt (l:=cs) (i:=q.toNat) (by rw[csl];rcases hqr.2 with h|⟨_,k',h,_⟩<;>omega);rw[bq hc];have:=hc23 c (SK hc);omega
      have h1:=fw fun c hc=>(c3 c hc).1;have h2:=(nI (b:=3) (by omega) fun c hc=>⟨by have:=(c3 c hc).1;omega,(c3 c hc).2⟩).2;have h3:(3:Int) ^ (aF cs l).length<=3 ^ 3:=by
       have:(3:Nat) ^ (aF cs l).length<=3 ^ 3:=Tm (by decide) (by rw[fM];exact hL.p3)
       exact_mod_cast this
      omega
     obtain⟨R,hR⟩:=S2 (show 0<=au (aF cs l) by omega);have hxc:2<=x.card/\x.card<=3:=hc23 x.card (by rw[<- L.cards];exact SK (cL hx));have hFm1:=hFm.1;have w3:Hm.get (H.next+3)=some (.arr 0 103 [.lit (.int .i64 g),.own (H.next+2) 0 0 n 3]):=(hFm.2.1 _ (by omega) (by omega)).trans z3;have wP:Hm.get Hy.next=some (.arr 0 165 [.lit (.int .u8 pc),.lit (.int .u8 par),wv]):=(hFm.2.1 _ (by omega) (by omega)).trans zP;obtain⟨C1,hC1⟩:∃ C1,C1=(bG ns).set (v*3+1) (af l):=⟨_,rfl⟩
     have c1l:C1.length=ns.length*3:=(by rw[hC1,SU,hzl]);have hcx2:C1[v*3+2]?=some (.lit (.slice none 0 0)):=by
      have:=gS (f:=NodeP.cC) (z:=3) jT ns v 2 x hx (by omega);rw[hC1,Tb (by omega),show (bG ns)[v*3+2]?=_ from this];unfold NodeP.cC;rw[SQ xr];rfl
     have hcx0:C1[v*3]?=some (aa x.card):=(by rw[hC1,Tb (by omega)];exact DD hx);rw[<- hC1]at hFm;have hset2:∀ rv rv',setAt (C1.set (v*3+2) rv) (v*3+2) [rv']=C1.set (v*3+2) rv':=fun rv rv'=>by rw[dS (by rw[SU];omega),UJ]
     have hgc2:∀ rv,(C1.set (v*3+2) rv)[v*3+2]?=some rv:=fun rv=>S1 (by omega);have hgc0:∀ rv,(C1.set (v*3+2) rv)[v*3]?=some (aa x.card):=fun rv=>by rw[Tb (by omega)];exact hcx0
     refine W.lT (Q':=fun e s2=>e=.exit 8/\∃ (rv:AVal) (rows:List (List Int)),s2.ρ 1=.ptr H.next 0 0/\s2.ρ 2=.ptr (H.next+1) 0 0/\s2.ρ 3=aa n/\s2.ρ 4=.ptr (H.next+3) 0 0/\s2.ρ 5=af P/\s2.ρ 10=aa i/\rows.length=R/\rows=pM g x.card bs R/\(∀ r∈rows,jk g x.card r)/\lJ Hm s2.H (H.next+2) (C1.set (v*3+2) rv)/\aA Hm.next s2.H 46 rv (rows.map af)) ?_ ?_
     ·refine W.aL 98079714615372285444537148491336716315054007096738611200 (by rfl) (fun ρ Hr=>∃ (r:Nat) (rv:AVal) (rows:List (List Int)),ρ 15=aa r/\r<=R/\rows.length=r/\rows=pM g x.card bs r/\(∀ r∈rows,jk g x.card r)/\lJ Hm Hr (H.next+2) (C1.set (v*3+2) rv)/\aA Hm.next Hr 46 rv (rows.map af)) (fun ρ H=>R - (iv (ρ 15)).toNat) ?_ ?_
      ·simp only[go_sem,y15];refine⟨0,.lit (.slice none 0 0),[],rfl,by omega,rfl,rfl,by simp,⟨Nat.le_refl _,fun _ _ _=>rfl,?_⟩,.nil⟩;rw[hFm.2.2,jX hcx2]
      rintro ρr Hr ⟨r,rv,rows,h15,hr,hrl,hrD,hrows,hFr,hOr⟩;refine W.env fun E7 hE7=>?_;have b1:E7 1=.ptr H.next 0 0:=(by rw[hE7];simp only[go_sem,y1]);have b2:E7 2=.ptr (H.next+1) 0 0:=(by rw[hE7];simp only[go_sem,y2]);have b3:E7 3=aa n:=(by rw[hE7];simp only[go_sem,y3]);have b4:E7 4=.ptr (H.next+3) 0 0:=(by rw[hE7];simp only[go_sem,y4]);have b5:E7 5=af P:=(by rw[hE7];simp only[go_sem,y5]);have b10:E7 10=aa i:=(by rw[hE7];simp only[go_sem,y10]);have b11:E7 11=.ptr Hy.next 0 0:=(by rw[hE7];simp only[go_sem,y11]);have b12:E7 12=aa v:=(by rw[hE7];simp only[go_sem,y12]);have b15:E7 15=aa r:=(by rw[hE7];simp only[go_sem,h15]);clear hE7;refine W.vs ?_;have hFr1:=hFr.1;have v3:=ag ((hFr.2.1 (H.next+3) (by omega) (by omega)).trans w3);have vP:=ag ((hFr.2.1 Hy.next (by omega) (by omega)).trans wP);have vN:=ag hFr.2.2;have hzp:∀ z∈ns,z.rows=[]->z.parents=[]:=fun z hz hz0=>by
       obtain⟨u,hu⟩:=S8.1 hz;have hm:=vb ord n u (by have:=get_lt hu;omega);rw[<- hP]at hm;obtain⟨j,hj⟩:=S8.1 hm;rcases Te j i with h|h
       ·exact absurd hz0 (L.done j u z h hj hu).ne
       ·exact(L.todo j u z h hj hu).2
      have hcard:ao (ns.set v ⟨x.card,l,rows⟩)=cs:=by
       have h1:ao (ns.set v ⟨x.card,l,rows⟩)=(ao ns).set v x.card:=(by unfold ao;rw[UU]);rw[h1,jX (cL hx),L.cards]
      have hpar:aH (ns.set v ⟨x.card,l,rows⟩) ⟨x.card,l,rows⟩=aF cs l:=(by unfold aH;rw[hcard]);have fzN:Fz (fun _=>True) Hr 0 (.agg [aa g,.own (H.next+2) 0 0 n 3]) (bJ g (ns.set v ⟨x.card,l,rows⟩)):=by
       refine .agg rfl fun i hi _=>?_
       match i,hi with
       | 0,_=>exact .lit _
       | 1,_ =>
        show Fz _ _ _ _ (.vec (ns.set v ⟨x.card,l,rows⟩).length (aG (ns.set v ⟨x.card,l,rows⟩)));rw[SU,hnl,Qa (y:=⟨x.card,l,rows⟩) hx rfl];refine .frz trivial hFr.2.2 (by rw[SU,SU,gT];omega) fun j hj h2 h'=>?_;simp only[Nat.zero_add];refine DE (A:=C1) (B:=(aG ns).set (v*3+1) (af l)) ?_ ?_ j _ _
        ·rw[hC1];exact DE (P9 ns hzp) (.dq _)
        ·have:=hOr.fz (S:=fun _=>True) (nx:=0) (cs':=rows.map af) (fun _ _=>trivial) rfl fun i hi _=>by simp only[S4];exact .dq _
         rw[SZ]at this;exact this
      simp only[go_sem,b4,b12,b15,v3];refine aB.clo ((ae.frame (H:=Hr) (args:=[.agg [aa g,.own (H.next+2) 0 0 n 3],aa v]) (args':=[bJ g (ns.set v ⟨x.card,l,rows⟩),aa v]) (v':=af (aF cs l)) aS rfl (fun i hi _=>?_) (Qc g (ns.set v ⟨x.card,l,rows⟩) v ⟨x.card,l,rows⟩ (S1 hvn) (by rw[SU];omega) (by show (l.length:Int)<_;have:=hL.p3;omega) (fun q hq=>by
        have hqr:=hL.rng q hq;rw[SU];rcases hqr.2 with h|⟨_,k',h,_⟩<;>omega) bZ _ fun w Hq _ ho=>⟨_,rfl,by rw[hpar]at ho;exact ho.nT⟩)).mono fun r1 H1' hr1=>?_)
      ·match i,hi with
       | 0,_=>exact fzN
       | 1,_=>exact .lit _
      obtain⟨rfl,rfl⟩:=hr1;refine⟨trivial,?_⟩;simp only[go_sem];refine aB.clo (vq (aF cs l) lsm _ _ ⟨trivial,?_⟩);rw[hR];by_cases hrR:(r:Int)<R
      ·simp only[go_sem,hrR];obtain⟨xn,hxn⟩:=S2 (show 0<=x.card by omega);have rc:0<=(r:Int)*(x.card+1)/\(r:Int)*(x.card+1)<=27*4:=⟨Us (by omega) (by omega),Uc (by omega) (by omega) (by omega) (by omega)⟩
       have c1:=SM (x.card+1) (by omega);have c2:=SM ((r:Int)*(x.card+1)) (by omega);have c3:=SM ((r:Int)+1) (by omega);have hg2:=hgc2 rv;have hg0':=hgc0 rv;have hg2n:=aK hg2;obtain⟨row,hrow⟩:∃ row,row=mH g xn bs ((r:Int)*(x.card+1)):=⟨_,rfl⟩
       have hrok:jk g x.card row:=(by rw[hrow,hxn];exact PK hg1.1 (by omega) _ _);have hpc84:∀ Hq,bO Tryz.prog G0 (.clo 101 [] []) [aa g,aa x.card,wv,aa ((r:Int)*(x.card+1))] Hq (af row) []:=fun Hq=>by
        refine bO.mk (fun i hi=>by cases hi) fun H2 _ _=>?_;refine ae.frame (H:=H2) (args:=[aa g,aa x.card,wv,aa ((r:Int)*(x.card+1))]) (args':=[aa g,aa xn,.vec bs.length (bn bs),aa ((r:Int)*(x.card+1))]) (v':=af row) aS rfl (fun i hi _=>?_) (PL g xn hg1 (by omega) bs hbl hbs _ (by omega) bZ _ fun w Hw _ ho=>⟨_,rfl,by rw[hrow];exact ho.nT⟩)
        match i,hi with
        | 0,_=>exact .lit _
        | 1,_=>rw[hxn];exact .lit _
        | 2,_=>exact hwf _
        | 3,_=>exact .lit _
       obtain⟨rv',Hj,hA,hO',hn',hpr'⟩:=gL (P:=Tryz.prog) (H:=H1') (t:=33) (x:=af row) (n:=H1'.next+1) Tryz.underlying33 Tryz.jL Tryz.kB rfl (by rw[Tryz.kA,SZ];omega) hOr hFr1 rfl;have keep:∀ id,id<Hm.next->Hj.get id=H1'.get id:=fun id h=>hpr' id (by omega) (hOr.ne h);have v3j:=ag ((keep _ (by omega)).trans ((hFr.2.1 (H.next+3) (by omega) (by omega)).trans w3));have vNj:=ag ((keep _ (by omega)).trans hFr.2.2);have hA':bf Tryz.prog (ext H1' [.arr 0 46 [.vec row.length (ints row)]]) (H1'.next+1) 33 33 rv (.own H1'.next 0 0 1 1)=some (rv',Hj):=hA;refine W.draw 31 [0,1,0,0,8,0,56,120,248,0,512,0,2048,0,14336,30720,63488,0,131072,0,0,1048576,0,7340032,15728640,32505856,66060288,133693440,268434944,536870400,1073741816] Tryz.mixed (by kernel_rfl) (by kernel_rfl) ?_;simp only[go_sem,b4,b11,b12,b15,v3,vP,vN,hg2,hg0',vlt,v0,c1,c2];refine⟨af row,[],hpc84 _,?_⟩;simp only[go_sem,b4,b11,b12,b15,vNj,vlt,v0,c3,hA'];have hdj:mc (if kf rv=true then { eff:=aJ rv,rs:=aJ rv++[H1'.next] } else { eff:=[H1'.next+1],rs:=[H1'.next] }) { eff:=[],rs:=[H.next+3] }:=by
        rcases hOr with ⟨hO1,_⟩|⟨id,gg,hO1,hO2,hO3,_⟩
        ·rw[hO1];show mc { eff:=[H1'.next+1],rs:=[H1'.next] } _;exact⟨fun a ha=>by (obtain rfl:a=H1'.next+1:=by simpa using ha);simp;omega,fun a ha=>by simp at ha⟩
        ·rw[hO3];show mc { eff:=[id],rs:=[id]++[H1'.next] } _;exact⟨fun a ha=>by (obtain rfl:a=id:=by simpa using ha);simp;omega,fun a ha=>by simp at ha⟩
       rw[hO'.cells];refine⟨⟨by omega,by omega,by omega,by omega,by omega,by omega,by omega⟩,⟨hdj,hdj⟩,⟨rfl,by simp [hO'.one],by rw[SU,c1l];simp;omega⟩,by rw[aw];omega,⟨r+1,rv',rows++[row],rfl,by omega,by simp [hrl],by rw[Qf,<- hrD,hrow,show x.card.toNat=xn by omega],fun q hq=>?_,⟨by rw[aw];omega,fun id h1 h2=>by rw[ab,SO h2,keep _ h1];exact hFr.2.1 id h1 h2,?_⟩,?_⟩,by rw[h15];simp only[aa,aQ];omega⟩
       ·rcases Ta.1 hq with h|h
        ·exact hrows q h
        ·obtain rfl:=List.mem_singleton.1 h;exact hrok
       ·rw[ab,SQ rfl,hset2]
       ·have:=hO'.keep (lo':=Hm.next) (H':=Hj.upd (H.next+2) (.arr 0 73 (setAt (C1.set (v*3+2) rv) (v*3+2) [rv']))) (Nat.le_refl _) (Nat.le_refl _) fun id _ h1 _ _ _=>by rw[ab,SO (by omega)]
        simpa using this
      ·simp only[go_sem,b1,b2,b3,b4,b5,b10,hrR];exact⟨rv,rows,by omega,by rw[hrD];congr 1;omega,hrows,hFr,hOr⟩
     ·rintro e s3 ⟨rfl,rv,rows,a1,a2,a3,a4,a5,a10,hrl,hrD,hrows,hFr,hOr⟩;have hFr1:=hFr.1;obtain⟨rk,hrk,hfz⟩:∃ rk,Hm.next<=rk/\Fz (fun id=>id=rk) s3.H s3.H.next rv (ah rows):=by
       rcases hOr with ⟨hO1,hO2⟩|⟨id,gg,hO1,hO2,hO3,hO4⟩
       ·have:rows=[]:=by cases rows with
         | nil=>rfl
         | cons b l=>simp at hO2
        rw[hO1,this];exact⟨s3.H.next,hFr1,.nil⟩
       ·refine⟨id,hO1,?_⟩;rw[hO3,SZ];refine .frz rfl hO4 (by rw[Nat.mul_one,SZ]) fun j hj h2 h'=>?_;simp only[Nat.zero_add,S4];exact .dq _
      have hne2:H.next+2≠rk:=(by omega);have hC1z:∀ c∈C1,Fz (fun id=>id=rk) s3.H s3.H.next c c:=fun c hc=>by
       rw[hC1]at hc;rcases Tq hc with h|h
       ·exact DF ns c h
       ·rw[h];exact .dq _
      refine⟨⟨s3.ρ,s3.H.ee rk (H.next+2) (.arr 0 73 (C1.set (v*3+2) (ah rows)))⟩,cV.ee aS hFr.2.2 hne2 (by simp) (zF hC1z hfz),Nat.le_refl _,trivial,?_⟩;obtain⟨He,hHe⟩:∃ He,He=s3.H.ee rk (H.next+2) (.arr 0 73 (C1.set (v*3+2) (ah rows))):=⟨_,rfl⟩
      rw[<- hHe];have hFe:lJ Hm He (H.next+2) (C1.set (v*3+2) (ah rows)):=by
       rw[hHe];exact⟨hFr1,fun id h1 h2=>(kQ (by omega) h2).trans (hFr.2.1 id h1 h2),vI hne2⟩
      clear hFr hOr hfz hHe hne2 hrk;have hFe1:=hFe.1;have i1:=SM ((i:Int)+1) (by omega);simp only[go_sem,a10,i1];have hiv:∀ j u:Nat,P[j]?=some (u:Int)->u=v->j=i:=fun j u h1 h2=>by
       subst h2;exact(Uh (get_lt h1) hperm.nd).1 (by rw[h1,hpv])
      have hrne:rows≠[]:=fun h=>by rw[h]at hrl;simp at hrl;omega
      have hdone:DoneN g cs P n i ⟨x.card,l,rows⟩:=⟨⟨hL.pw,fun q hq=>⟨(hL.rng q hq).1,by rcases(hL.rng q hq).2 with h|⟨_,k',h,_⟩<;>omega⟩⟩,hL.p3,hL.rk,by show (rows.length:Int)=_;rw[hrl,hR],hrows,hrne⟩
      refine⟨by omega,⟨i+1,ns.set v ⟨x.card,l,rows⟩,rfl,by omega,⟨by rw[SU];exact hnl,?_,fun j u z hj hu hz=>?_,fun j u z hj hu hz=>?_,fun j u z hj hu hz=>?_,fun j u z hu hz=>?_⟩,by omega,by omega,fun id h1 h2=>?_,?_⟩,by rw[h10];simp only[aa,aQ];omega⟩
      ·have h1:ao (ns.set v ⟨x.card,l,rows⟩)=(ao ns).set v x.card:=(by unfold ao;rw[UU]);rw[h1,jX (cL hx),L.cards]
      ·have huv:¬ u=v:=fun h=>by have:=hiv j u hu h;omega
       rw[Tb (by omega)]at hz;exact L.todo j u z (by omega) hu hz
      ·by_cases huv:u=v
       ·obtain rfl:=hiv j u hu huv;rw[huv,S1 hvn]at hz;cases hz;exact hdone
       ·rw[Tb (by omega)]at hz;have:j≠i:=fun h=>by
         rw[h,hpv]at hu;exact huv (by have:=Option.some.inj hu;omega)
        exact L.done j u z (by omega) hu hz
      ·by_cases huv:u=v
       ·obtain rfl:=hiv j u hu huv;rw[huv,S1 hvn]at hz;rw[<- Option.some.inj hz];unfold yY;rw[<- L.cd j v x hpv hx,<- hpw.1,<- hpw.2,<- hPk,hR,hrD];rfl
       ·rw[Tb (by omega)]at hz;have:j≠i:=fun h=>by
         rw[h,hpv]at hu;exact huv (by have:=Option.some.inj hu;omega)
        exact L.eq j u z (by omega) hu hz
      ·by_cases huv:u=v
       ·obtain rfl:=hiv j u hu huv;rw[huv,S1 hvn]at hz;rw[<- Option.some.inj hz];exact L.cd j v x hpv hx
       ·rw[Tb (by omega)]at hz;exact L.cd j u z hu hz
      ·rw[hFe.2.1 id (by omega) h2,hFm.2.1 id (by omega) h2];exact zO id h1 h2
      ·rw[hFe.2.2,Qg (y:=⟨x.card,l,rows⟩) hx rfl hrne,hC1]
  ·obtain rfl:i=n:=(by omega);simp only[go_sem,e2,e3,e4,e10,hb,m1,m3];have hnl:=L.len;have hall:∀ v:Nat,v<ns.length->(v:Int)∈P:=fun v hv=>by rw[hP];exact vb ord i v (by omega)
   have hdn:∀ (v:Nat) (x:NodeP),ns[v]?=some x->∃ j,DoneN g cs P i j x:=fun v x hx=>by
    obtain⟨j,hj⟩:=S8.1 (hall v (get_lt hx));exact⟨j,L.done j v x (by have:=get_lt hj;have:=hperm.len;omega) hj hx⟩
   have hdm:∀ x∈ns,∃ j,DoneN g cs P i j x:=fun x hx=>by
    obtain⟨v,hv⟩:=S8.1 hx;exact hdn v x hv
   have ov:Over H (Hy.upd (H.next+1) (.arr 0 103 [.lit (.int .i64 g),.own (H.next+2) 0 0 i 3])):=⟨by rw[aw];omega,fun id h=>by rw[ab,SO (by omega),hF.2.1 id (by omega) (by omega)];exact o1.old id h⟩
   have hz:bG ns=aG ns:=P7 fun x hx=>(hdm x hx).elim fun j hj=>hj.ne;have hcl8:∀ x∈ns,2<=x.card/\x.card<=3:=fun x hx=>hc23 x.card (by rw[<- L.cards];exact S9.2 ⟨x,hx,rfl⟩);have hnet:NetOk g ns:=by
    refine⟨hg1,by omega,fun x hx=>?_,?_,DG (P:=P) (by rw[hnl];exact hperm) hall fun j v x hj hx q hq=>?_,fun x hx=>?_⟩
    ·obtain⟨j,hj⟩:=hdm x hx;have:=hcl8 x hx;exact⟨by omega,by rw[hnl];exact hj.pl⟩
    ·have h2:=(nI (b:=3) (by omega) (l:=ao ns) fun c hc=>by have:=hc23 c (by rw[<- L.cards];exact hc);omega).2;have h3:(3:Int) ^ (ao ns).length<=3 ^ 5:=by
      have:(3:Nat) ^ (ao ns).length<=3 ^ 5:=Tm (by decide) (by rw[cM];omega)
      exact_mod_cast this
     omega
    ·have hd:=L.done j v x (by have:=get_lt hj;have:=hperm.len;omega) hj hx;exact⟨(hd.pl.2 q hq).1,hd.rk q hq⟩
    ·obtain⟨j,hj⟩:=hdm x hx;unfold fA aH;rw[L.cards];exact⟨hj.rl,hj.ro⟩
   rw[<- hnl];rw[<- hnl]at ov;refine ay.mk ov.next (hK g ns (H.next+2) _ ov (by omega) (by rw[aw];omega) ?_ hnet (by omega) (fun x hx=>?_) (fun x hx=>?_) ⟨hg.symm,by rw[hnl];exact hn.symm,by rw[L.cards,hnl,<- hP];exact fun j v x hj hx=>L.eq j v x (by have:=get_lt hj;have:=hperm.len;omega) hj hx,by rw[hnl,<- hP];exact L.cd⟩)
   ·rw[ab,SO (by omega),hF.2.2,hz]
   ·obtain⟨j,hj⟩:=hdm x hx;exact hj.p3
   ·have:=hc23 x.card (by rw[<- L.cards];unfold ao;exact List.mem_map_of_mem hx);omega
theorem Qj (g0:Int)(ps:List DrP)(ord:List Int)(hg0:U8 g0)(hps:∀ x∈ps,x.Ok)(hpl:(ps.length:Int)<2 ^ 63)(hol:(ord.length:Int)<2 ^ 63)(ho8:∀ x∈ord,U8 x)(H:AHeap)(K:ARes->AHeap->Prop)
  (hK:∀ g ns N H',Over H H'->H.next<=N->N<H'.next->H'.get N=some (.arr 0 73 (aG ns))->NetOk g ns->ns.length<=5->(∀ x∈ns,x.parents.length<=3)->(∀ x∈ns,2<=x.card)->K (.ret (.agg [aa g,.own N 0 0 ns.length 3])) H'):
  ae Tryz.prog G0 41 [u7 g0 ps ord] H K:=Qi g0 ps ord hg0 hps hpl hol ho8 H K fun g ns N H' a b c d e f h i _=>hK g ns N H' a b c d e f h i
theorem Qk (g0:Int)(ps:List DrP)(ord:List Int)(hg0:U8 g0)(hps:∀ x∈ps,x.Ok)(hpl:(ps.length:Int)<2 ^ 63)(hol:(ord.length:Int)<2 ^ 63)(ho8:∀ x∈ord,U8 x)(H:AHeap)(K:ARes->AHeap->Prop)
  (hK:∀ g ns N H',Over H H'->H.next<=N->N<H'.next->H'.get N=some (.arr 0 73 (aG ns))->NetOk g ns->ns.length<=5->(∀ x∈ns,x.parents.length<=3)->K (.ret (.agg [aa g,.own N 0 0 ns.length 3])) H'):
  ae Tryz.prog G0 41 [u7 g0 ps ord] H K:=Qj g0 ps ord hg0 hps hpl hol ho8 H K fun g ns N H' a b c d e f h _=>hK g ns N H' a b c d e f h
theorem ve (s v:Nat)(hs:s<2 ^ 64)(H:AHeap)(K:ARes->AHeap->Prop)(hK:K (.ret (.lit (.bool (s.testBit v)))) H):ae Tryz.prog G0 52 [br s,aa v] H K:=by
 refine ae.aZ (n:=10) (rs:=[.tmp 4]) Tryz.func52 rfl rfl rfl (by decide) (by kernel_rfl) (by simp) ?_;have s1:=fun t x y=>kP (P:=Tryz.prog) (t:=t) (x:=x) (y:=y) (k':=.i64) (s:=v) hs;have s2:=fun t x y=>mQ (P:=Tryz.prog) (t:=t) (x:=x) (y:=y) (s:=v) hs;cases hb:s.testBit v
 ·rw[hb]at hK;simp only[go_sem,s1,s2,hb];exact ay.mk (Nat.le_refl _) hK
 ·rw[hb]at hK;simp only[go_sem,s1,s2,hb];exact ay.mk (Nat.le_refl _) hK
def dK (s n:Nat):List Int:=((List.range n).filter fun v=>s.testBit v).map fun (v:Nat)=>(v:Int)
theorem Ql (s n:Nat):dK s (n+1)=if s.testBit n=true then dK s n++[(n:Int)] else dK s n:=by
 unfold dK;rw[T4,List.filter_append,TI];by_cases h:s.testBit n=true
 ·rw[SQ h];simp [h]
 ·rw[SO h];simp [h]
theorem pN {s n:Nat}{q:Int}:q∈dK s n↔∃ v:Nat,q=v/\v<n/\s.testBit v=true:=by
 unfold dK;simp only[S9,List.mem_filter,To];exact⟨fun ⟨v,⟨h1,h2⟩,h3⟩=>⟨v,h3.symm,h1,h2⟩,fun ⟨v,h1,h2,h3⟩=>⟨v,⟨h2,h3⟩,h1.symm⟩⟩
theorem Qm (s n:Nat):(dK s n).Pairwise (·<·):=by
 unfold dK;refine List.Pairwise.map _ (R:=(·<·)) (fun a b h=>by omega) ?_;exact List.Pairwise.filter _ List.pairwise_lt_range
theorem DI (s n:Nat):(dK s n).length<=n:=by
 unfold dK;rw[SZ];exact TA (VW _ _) (by simp)
theorem DJ (s:Nat)(hs:s<2 ^ 64)(H:AHeap)(K:ARes->AHeap->Prop)(hK:K (.ret (af (dK s 8))) H):ae Tryz.prog G0 44 [br s] H K:=by
 refine ae.clo ⟨_,Tryz.func44,rfl,rfl⟩ fun hcl=>?_;refine ae.aZ (n:=17) (rs:=[.tmp 2]) Tryz.func44 rfl rfl rfl (by decide) (by kernel_rfl) (by simp) ?_;simp only[go_sem];refine W.aL 65528 (by rfl) (fun ρ H'=>∃ k:Nat,ρ 4=aa k/\k<=8/\Over H H'/\aA H.next H' 3 (ρ 3) (ints (dK s k))) (fun ρ H=>8 - (iv (ρ 4)).toNat) ?_ ?_
 ·simp only[go_sem];exact⟨0,rfl,by omega,.refl _,.nil⟩
 rintro ρ H' ⟨k,h4,hk,ov,h3⟩;refine W.en (fun E=>E 0=br s /\ E 3=ρ 3 /\ E 4=aa k) (by simp only[go_sem,h4]) fun E ⟨e0,e3,e4⟩=>?_
 refine W.vs ?_;by_cases hb:(k:Int)<8
 ·have w1:=SM ((k:Int)+1) (by omega);have hbl:=DI s k;have hsu:=Ql s k;simp only[go_sem,e0,e4,hb];refine aB.clo (ve s k hs _ _ ⟨trivial,?_⟩);by_cases hbit:s.testBit k=true
  ·obtain⟨v',H2,hA,ov2,hO,hn2,_⟩:=iQ (k:Int) ov h3 (by omega);rw[SQ hbit]at hsu;simp only[go_sem,e3,e4,hbit,w1,hA];exact⟨by have:=ov2.next;omega,⟨k+1,rfl,by omega,ov2,by rw[hsu];exact hO⟩,by rw[h4];simp only[aa,aQ];omega⟩
  ·rw[SO hbit]at hsu;have hbf:s.testBit k=false:=(by simpa using hbit);simp only[go_sem,e3,e4,hbf,w1];exact⟨ov.next,⟨k+1,rfl,by omega,ov,by rw[hsu];exact h3⟩,by rw[h4];simp only[aa,aQ];omega⟩
 ·obtain rfl:k=8:=by omega
  simp only[go_sem,e3,e4];exact ay.bx aS hcl ov (h3.eX fun i hi=>hi) hK
def DK:AVal->Nat
 | .own _ _ _ n _=>n
 | _=>0
theorem DL {lo:Nat}{H:AHeap}{e:TypeId}{v:AVal}{cs:List AVal}(h:aA lo H e v cs):DK v=cs.length:=by
 rcases h with ⟨rfl,rfl⟩|⟨_,_,_,_,rfl,_⟩<;>rfl
def y7 (d:InfP):List AVal:=[.lit (.int .i64 d.grain),.vec d.nodes.length (aT d.nodes),.lit (.int .u64 (d.decs:Int)),.vec d.utils.length (aR d.utils)]
def vf (d:InfP):AVal:=.agg (y7 d)
def gV (d:InfP)(cs:List AVal):List AVal:=[.lit (.int .i64 d.grain),.vec d.nodes.length cs,.lit (.int .u64 (d.decs:Int)),.vec d.utils.length (aR d.utils)]
def dL (d:InfP)(cs:List AVal):AVal:=.agg (gV d cs)
theorem iP (d:InfP)(cs:List AVal):dL d cs=.agg (gV d cs):=rfl
theorem Qn (d:InfP):vf d=.agg (y7 d):=rfl
theorem vg (d:InfP)(cs:List AVal)(hd:d.decs<2 ^ 64)(hl:(d.nodes.length:Int)<2 ^ 39)(H:AHeap)(K:ARes->AHeap->Prop)(hK:K (.ret (af (aM (az d)))) H):ae Tryz.prog G0 22 [dL d cs] H K:=by
 refine ae.clo ⟨_,Tryz.func22,rfl,rfl⟩ fun hcl=>?_;refine ae.aZ (n:=21) (rs:=[.tmp 2]) Tryz.func22 rfl rfl rfl (by decide) (by kernel_rfl) (by simp) ?_;simp only[go_sem,iP,gV];obtain⟨H1,hH1⟩:∃ H1,H1=ext H [.arr 0 38 [.lit (.int .i64 d.grain),.vec d.nodes.length cs,.lit (.int .u64 (d.decs:Int)),.vec d.utils.length (aR d.utils)]]:=⟨_,rfl⟩
 have l1:=ag (show H1.get H.next=some (.arr 0 38 [.lit (.int .i64 d.grain),.vec d.nodes.length cs,.lit (.int .u64 (d.decs:Int)),.vec d.utils.length (aR d.utils)]) by rw[hH1];exact bQ ..);have n1:H1.next=H.next+1:=by rw[hH1];rfl
 have o1:Over H H1:=by rw[hH1];exact .ext _ _
 rw[<- hH1];refine W.aL 1048568 (by rfl) (fun ρ H'=>∃ k:Nat,ρ 4=aa k/\k<=d.nodes.length/\Over H1 H'/\aA H1.next H' 3 (ρ 3) (ints (aM (dm d.decs k)))) (fun ρ H=>d.nodes.length - (iv (ρ 4)).toNat) ?_ ?_
 ·simp only[go_sem];exact⟨0,rfl,by omega,.refl _,.nil⟩
 rintro ρ H' ⟨k,h4,hk,ov,h3⟩;refine W.en (fun E=>E 1=.ptr H.next 0 0 /\ E 3=ρ 3 /\ E 4=aa k) (by simp only[go_sem,h4]) fun E ⟨e1,e3,e4⟩=>?_
 refine W.vs ?_;have l2:=(ov.live (g:=0) (by omega:H.next<H1.next)).trans l1;by_cases hb:(k:Int)<d.nodes.length
 ·have w1:=SM ((k:Int)+1) (by omega);have hbl:(aM (dm d.decs k)).length<=k:=by simp only[aM,SZ];exact jf
  have hsu:=uN d.decs k;simp only[go_sem,e1,e4,l2,hb];refine aB.clo (ve d.decs k hd _ _ ⟨trivial,?_⟩);by_cases hbit:d.decs.testBit k=true
  ·obtain⟨v',H2,hA,ov2,hO,hn2,_⟩:=iQ (k:Int) ov h3 (by omega);rw[SQ hbit]at hsu;simp only[go_sem,e3,e4,hbit,w1,hA];exact⟨ov2.next,⟨k+1,rfl,by omega,ov2,by rw[hsu,show aM (dm d.decs k++[k])=aM (dm d.decs k)++[(k:Int)] by simp [aM]];exact hO⟩,by rw[h4];simp only[aa,aQ];omega⟩
  ·rw[SO hbit]at hsu;have hbf:d.decs.testBit k=false:=(by simpa using hbit);simp only[go_sem,e3,e4,hbf,w1];exact⟨ov.next,⟨k+1,rfl,by omega,ov,by rw[hsu];exact h3⟩,by rw[h4];simp only[aa,aQ];omega⟩
 ·have hke:k=d.nodes.length:=by omega
  rw[hke]at h3;simp only[go_sem,e1,e3,e4,l2,hb];exact ay.bx aS hcl (o1.trans ov) (h3.eX fun i hi=>by omega) hK
set_option maxHeartbeats 1000000 in
theorem Qq (g:Int)(ns:List NodeP)(hl:(ns.length:Int)<2 ^ 39)(hp:∀ x∈ns,(x.parents.length:Int)<2 ^ 39/\∀ q∈x.parents,0<=q/\q<64)(H:AHeap)(K:ARes->AHeap->Prop)
  (hK:∀ v H',Over H H'->aA H.next H' 35 v ((aY ns).map br)->K (.ret v) H'):ae Tryz.prog G0 43 [bJ g ns] H K:=by
 refine ae.clo ⟨_,Tryz.func43,rfl,rfl⟩ fun hcl=>?_;refine ae.aZ (n:=43) (rs:=[.tmp 2]) Tryz.func43 rfl rfl rfl (by decide) (by kernel_rfl) (by simp) ?_;simp only[go_sem,bJ,cj];obtain⟨H1,hH1⟩:∃ H1,H1=ext H [.arr 0 103 [.lit (.int .i64 g),.vec ns.length (aG ns)]]:=⟨_,rfl⟩
 have l1:H1.live H.next 0=some (103,[.lit (.int .i64 g),.vec ns.length (aG ns)]):=by rw[hH1];exact ag (bQ ..)
 have n1:H1.next=H.next+1:=by rw[hH1];rfl
 have o1:Over H H1:=by rw[hH1];exact .ext _ _
 rw[<- hH1];refine W.aL 4398046511096 (by rfl) (fun ρ H'=>∃ k:Nat,ρ 4=aa k/\k<=ns.length/\ρ 1=.ptr H.next 0 0/\Over H1 H'/\aA H1.next H' 35 (ρ 3) (((aY ns).take k).map br)) (fun ρ H=>ns.length - (iv (ρ 4)).toNat) ?_ ?_
 ·simp only[go_sem];exact⟨0,rfl,by omega,.refl _,.nil⟩
 rintro ρ H' ⟨k,h4,hk,h1,ov,h3⟩;refine W.vs ?_;have l2:=(ov.live (g:=0) (by omega:H.next<H1.next)).trans l1;by_cases hb:(k:Int)<ns.length
 ·obtain⟨x,hx⟩:=get_of_lt (l:=ns) (i:=k) (by omega);have hne:=dC hx;have e1:=je hx;obtain⟨xl,xr⟩:=hp x (SK hx);simp only[go_sem,h4,h1,l2,hb];refine W.aL 274877890656 (by rfl) (fun ρ' H2=>H2=H'/\∃ j:Nat,ρ' 6=aa j/\j<=x.parents.length/\ρ' 5=br (cB (x.parents.take j))) (fun ρ' H=>x.parents.length - (iv (ρ' 6)).toNat) ?_ ?_
  ·simp only[go_sem];exact⟨0,rfl,by omega,rfl⟩
  rintro ρ' H2 ⟨rfl,j,h6,hj,h5⟩;refine W.vs ?_;by_cases hb2:(j:Int)<x.parents.length
  ·obtain⟨q,hq⟩:=get_of_lt (l:=x.parents) (i:=j) (by omega);obtain⟨q0,q1⟩:=xr q (SK hq);obtain⟨u,rfl⟩:=S2 q0;have hne2:=aK hq;have w1:=UR (u:Int) (by omega);have w2:=SM ((j:Int)+1) (by omega);have b1:cB (x.parents.take j)<2 ^ 64:=rP fun p hp=>by have:=xr p (Tg hp);omega
   have s1:=fun t x y=>nU (P:=Tryz.prog) (t:=t) (x:=x) (y:=y) (k':=.u64) (s:=u) (by omega);have s2:=fun t x y=>kO (P:=Tryz.prog) (t:=t) (x:=x) (y:=y) (b:=2 ^ u) b1 (Ug (by decide) (by omega));simp only[go_sem,h4,h1,l2,hb,hne,e1,h6,h5,hb2,hq,hne2,w1,w2,s1,s2];exact⟨⟨j+1,by simp,by omega,by rw[aO hq,yC];rfl⟩,by omega⟩
  ·obtain⟨v',H3,hA,ov2,hO,hn2,_⟩:=D2 (cB x.parents) ov h3 (by simp [aY];omega);have w1:=SM ((k:Int)+1) (by omega);rw[SP (by omega)]at h5;simp only[go_sem,h4,h1,l2,hb,hne,e1,h6,h5,hb2,w1,hA];refine⟨by have:=ov2.next;omega,⟨k+1,by simp,by omega,ov2,?_⟩,by omega⟩;rw[aO (lQ hx)];exact hO
 ·simp only[go_sem,h4,h1,l2,hb];rw[SP (by simp [aY];omega)]at h3;exact ay.mk (o1.trans ov).next (hK _ _ (o1.trans ov) (h3.keep (by omega) (Nat.le_refl _) fun _ _ _ _ _ _=>rfl))
set_option maxHeartbeats 1000000 in
theorem Qr (ps:List Nat)(hl:ps.length<=60)(hp:∀ p∈ps,p<2 ^ 64)(r:List Nat)(htp:eD ps=some r)(H:AHeap)(K:ARes->AHeap->Prop)(hK:∀ v H',Over H H'->aA H.next H' 3 v (ints (aM r))->K (.ret v) H'):ae Tryz.prog G0 102 [fO ps] H K:=by
 refine ae.clo ⟨_,Tryz.func102,rfl,rfl⟩ fun hcl=>?_;refine ae.aZ (n:=40) (rs:=[.tmp 2]) Tryz.func102 rfl rfl rfl (by decide) (by kernel_rfl) (by simp) ?_;simp only[go_sem];refine W.aL 549755813880 (by rfl) (fun ρ H'=>∃ (out:List Nat) (done:Nat),ρ 4=br done/\done<2 ^ 64/\out.length<=ps.length/\Over H H'/\aA H.next H' 3 (ρ 3) (ints (aM out))/\gm ps (ps.length - out.length) out done=some r) (fun ρ H=>ps.length - DK (ρ 3)) ?_ ?_
 ·simp only[go_sem];exact⟨[],0,rfl,by decide,by simp,.refl _,.nil,htp⟩
 rintro ρ H' ⟨out,done,h4,hd,ho,ov,h3,ht⟩;refine W.en (fun E=>E 0=fO ps /\ E 3=ρ 3 /\ E 4=br done) (by simp only[go_sem,h4]) fun E ⟨e0,e3,e4⟩=>?_
 refine W.vs ?_;have hlen:=va h3 (d:=some (.slice 3)) rfl;have hol:=DL h3;have nl:(aM out).length=out.length:=by simp [aM]
 rw[o7,aP,nl]at hlen;rw[aP,nl]at hol;by_cases hb:(out.length:Int)<ps.length
 ·simp only[go_sem,e0,e3,hlen,hb];have hk1:ps.length - out.length=(ps.length - (out.length+1))+1:=by omega
  refine W.aL 549755811896 (by rfl) (fun ρ2 H2=>H2=H'/\∃ j:Nat,ρ2 5=aa j/\j<=ps.length/\ρ2 3=ρ 3/\ρ2 4=br done/\∀ v,v<j->iK ps done v=false) (fun ρ2 H=>ps.length - (iv (ρ2 5)).toNat) ?_ ?_
  ·simp only[go_sem,e3,e4];exact⟨0,rfl,by omega,fun v h=>absurd h (S7 _)⟩
  rintro ρ2 H2 ⟨rfl,j,h5,hj,h3',h4',hno⟩;refine W.en (fun E2=>E2 0=fO ps /\ E2 3=ρ 3 /\ E2 4=br done /\ E2 5=aa j) (by simp only[go_sem,e0,h3',h4',h5]) fun E2 ⟨f0,f3,f4,f5⟩=>?_
  refine W.vs ?_;by_cases hb2:(j:Int)<ps.length
  ·obtain⟨p,hpj⟩:=get_of_lt (l:=ps) (i:=j) (by omega);have hpj':(ps.map br)[j]?=some (br p):=(by rw[List.getElem?_map,hpj];rfl);have hne:=aK hpj';have s3:=fun t x y=>zC (P:=Tryz.prog) (t:=t) (x:=x) (y:=y) (a:=p) (b:=done);have w1:=SM ((j:Int)+1) (by omega);have w2:=UR (j:Int) (by omega);have cont:iK ps done j=false->∀ v,v<j+1->iK ps done v=false:=fun h v hv=>by
    rcases Te v j with h'|h'
    ·exact hno v h'
    ·obtain rfl:v=j:=(by omega);exact h
   have fe:iK ps done j=(!done.testBit j && decide (gF p done=0)):=(by unfold iK;rw[bq hpj]);simp only[go_sem,f0,f4,f5,hb2];refine aB.clo (zj done j hd (by omega) _ _ ⟨trivial,?_⟩);cases hbit:done.testBit j;rotate_left
   ·simp only[go_sem,f3,f4,f5,w1];exact⟨⟨j+1,rfl,by omega,cont (by rw[fe,hbit];rfl)⟩,by rw[h5];simp only[aa,aQ];omega⟩
   by_cases hz:gF p done=0;rotate_left
   ·have hz':¬ ((gF p done:Nat):Int)=0:=(by omega);simp only[go_sem,f0,f3,f4,f5,hb2,hpj',hne,s3,hz',w1];exact⟨⟨j+1,rfl,by omega,cont (by rw[fe,hbit];simp [hz])⟩,by rw[h5];simp only[aa,aQ];omega⟩
   have hz':((gF p done:Nat):Int)=0:=(by omega);have hnx:jN ps done=some j:=D8 (by omega) hno (by rw[fe,hbit];simp [hz]);obtain⟨v',H3,hA,ov2,hO,hn2,_⟩:=iQ (j:Int) ov h3 (by simp [aM];omega);have b2:(2:Nat) ^ j<2 ^ 64:=Ug (by decide) (by omega);have s4:=fun t x y=>nU (P:=Tryz.prog) (t:=t) (x:=x) (y:=y) (k':=.u64) (s:=j) (by omega);have s5:=fun t x y=>kO (P:=Tryz.prog) (t:=t) (x:=x) (y:=y) hd b2;simp only[go_sem,f0,f3,f4,f5,hb2,hpj',hne,s3,s4,s5,hz',w2,hA];have hO':aA H.next H3 3 v' (ints (aM (out++[j]))):=by
    have e:aM (out++[j])=aM out++[(j:Int)]:=(by simp [aM]);rw[e];exact hO
   have hol':=DL hO';have nl':(aM (out++[j])).length=out.length+1:=(by simp [aM]);rw[aP,nl']at hol';refine⟨ov2.next,⟨out++[j],done ||| 2 ^ j,rfl,UW hd b2,by simp;omega,ov2,hO',?_⟩,by rw[hol,hol'];omega⟩;rw[<- ht,hk1]
   conv=>rhs;unfold gm
   rw[hnx,List.length_append];rfl
  ·have hnn:jN ps done=none:=D9 fun v hv=>hno v (by omega);rw[hk1]at ht;unfold gm at ht;rw[hnn]at ht;cases ht
 ·simp only[go_sem,e0,e3,hlen,hb];have e:ps.length - out.length=0:=by omega
  rw[e]at ht;unfold gm at ht;cases ht;exact ay.mk ov.next (hK _ _ ov h3)
theorem Qs {lo:Nat}{H:AHeap}{e:TypeId}{v:AVal}{l:List Nat}(h:aA lo H e v (l.map br)):Fresh H v (fO l):=by
 rcases h with ⟨rfl,h⟩|⟨id,g,h1,h2,rfl,h4⟩
 ·have:l=[]:=by cases l with
   | nil=>rfl
   | cons a l=>simp at h
  subst this;exact .nil
 ·have e:fO l=.vec (l.map br).length (l.map br):=by rw[SZ];rfl
  rw[e];refine .own h4 (by simp) fun j hj h2 h'=>?_;simp only[Nat.zero_add,S4];exact .lit _
theorem Qt (g:Int)(ns:List NodeP)(hl:ns.length<=8)(hp:∀ x∈ns,(x.parents.length:Int)<2 ^ 39/\∀ q∈x.parents,0<=q/\q<(ns.length:Int))(r:List Nat)(htp:eD (aY ns)=some r)(H:AHeap)(K:ARes->AHeap->Prop)
  (hK:∀ v H',Over H H'->aA H.next H' 3 v (ints (aM r))->K (.ret v) H'):ae Tryz.prog G0 42 [bJ g ns] H K:=by
 have hsl:(aY ns).length=ns.length:=by simp [aY]
 have hs64:∀ p∈aY ns,p<2 ^ 64:=fun p h=>S6 (vv (n:=ns.length) (fun x hx q hq=>(hp x hx).2 q hq) p h) (Tm (by decide) (by omega));refine ae.aZ (n:=6) (rs:=[.tmp 2]) Tryz.func42 rfl rfl rfl (by decide) (by kernel_rfl) (by simp) ?_;simp only[go_sem,bJ,cj];refine aB.clo (D3 g ns (by omega) (fun x hx=>⟨(hp x hx).1,fun q hq=>by have:=(hp x hx).2 q hq;omega⟩) _ _ ⟨trivial,?_⟩);simp only[go_sem];refine aB.clo (Qr (aY ns) (by omega) hs64 r htp _ _ fun v H' ov ho=>⟨trivial,?_⟩);simp only[go_sem];have o1:Over H H':=(Over.ext _ _).trans ov;exact ay.mk o1.next (hK _ _ o1 (ho.keep (by simp [bI]) (Nat.le_refl _) fun _ _ _ _ _ _=>rfl))
structure UtD where
 vars:Int
 w:List Int
def I8 (n:Int):Prop:=-128<=n/\n<128
def mI (l:List Int):List AVal:=l.map fun n=>.lit (.int .i8 n)
theorem Qo {l:List Int}{k:Nat}{a:Int}(h:l[k]?=some a):(mI l)[k]?=some (.lit (.int .i8 a)):=by unfold mI;rw[List.getElem?_map,h];rfl
def UtD.cells (x:UtD):List AVal:=[.lit (.int .u8 x.vars),.vec x.w.length (mI x.w)]
def UtD.Ok (x:UtD):Prop:=U8 x.vars/\(x.w.length:Int)<2 ^ 63/\∀ b∈x.w,I8 b
def vh (p:Int)(k:Nat):Bool:=decide (IntKind.u8.wrap (((BitVec.ofInt IntKind.u8.bits (p.fdiv (2 ^ (min ((k:Int)).toNat IntKind.u8.bits))) &&& BitVec.ofInt IntKind.u8.bits 1).toNat:Nat):Int)=1)
def dn (p:Int):Nat->List Int
 | 0=>[]
 | v+1=>if vh p v=true/\(dn p v).length<3 then dn p v++[(v:Int)] else dn p v
theorem vj (p:Int):∀ n:Nat,(dn p n).Pairwise (·<·)/\(∀ q∈dn p n,0<=q/\q<n)/\(dn p n).length<=3
 | 0=>⟨by simp [dn],by simp [dn],by simp [dn]⟩
 | n+1=>by
  obtain⟨h1,h2,h3⟩:=vj p n;unfold dn;split
  ·rename_i h;refine⟨Ut.2 ⟨h1,by simp,fun a ha b hb=>by obtain rfl:=List.mem_singleton.1 hb;exact(h2 a ha).2⟩,fun q hq=>?_,by simp;omega⟩;rcases Ta.1 hq with h4|h4
   ·have:=h2 q h4;omega
   ·obtain rfl:=List.mem_singleton.1 h4;omega
  ·exact⟨h1,fun q hq=>by have:=h2 q hq;omega,h3⟩
def dZ (p:UtD)(ns:List NodeP):UtilP:=⟨dn p.vars ns.length,(List.range (au (aF (ao ns) (dn p.vars ns.length))).toNat).map fun (i:Nat)=>if p.w.length=0 then 0 else (p.w.getD (i % p.w.length) 0).tmod 101⟩
theorem Qp (p:UtD)(ns:List NodeP)(hc:∀ x∈ns,1<=x.card):UtilOk ns (dZ p ns):=by
 obtain⟨h1,h2,h3⟩:=vj p.vars ns.length;refine⟨⟨h1,h2⟩,?_,fun x hx=>?_⟩
 ·have hp:1<=au (aF (ao ns) (dn p.vars ns.length)):=fw fun c h=>by
   unfold aF at h;obtain⟨q,hq,rfl⟩:=S9.1 h;have:=h2 q hq;obtain⟨x,hx⟩:=get_of_lt (l:=ns) (i:=q.toNat) (by omega);rw[bq (cL hx)];exact hc x (SK hx)
  show ((List.map _ _).length:Int)=au (aF (ao ns) (dn p.vars ns.length));rw[SZ,TJ];omega
 ·unfold dZ at hx;obtain⟨i,_,rfl⟩:=S9.1 hx;split
  ·omega
  ·have h:=Int.natAbs_tmod (p.w.getD (i % p.w.length) 0) 101;have h2:=Vn (p.w.getD (i % p.w.length) 0).natAbs (show (101:Int).natAbs > 0 by decide);have h3:(101:Int).natAbs=101:=rfl;rw[h3]at h h2;omega
set_option maxHeartbeats 1000000 in
theorem Qu (p:UtD)(hp:p.Ok)(g:Int)(ns:List NodeP)(h5:1<=ns.length/\ns.length<=8)(hc:∀ x∈ns,1<=x.card/\x.card<=4)(H:AHeap)(K:ARes->AHeap->Prop)
  (hK:∀ v1 v2 H',Over H H'->aA H.next H' 3 v1 (ints (dZ p ns).vars)->aA H.next H' 3 v2 (ints (dZ p ns).w)->K (.ret (.agg [v1,v2])) H'):ae Tryz.prog G0 45 [.agg p.cells,bJ g ns] H K:=by
 refine ae.aZ (n:=70) (rs:=[.cell 4 82]) Tryz.func45 rfl rfl rfl (by decide) (by kernel_rfl) (by simp) ?_;simp only[go_sem,bJ,cj,UtD.cells];obtain⟨H1,hH1⟩:∃ H1,H1=ext H [.arr 0 80 [.lit (.int .u8 p.vars),.vec p.w.length (mI p.w)],.arr 0 103 [.lit (.int .i64 g),.vec ns.length (aG ns)],.arr 0 82 [.lit (.slice none 0 0),.lit (.slice none 0 0)],.arr 0 82 [.lit (.slice none 0 0),.lit (.slice none 0 0)]]:=⟨_,rfl⟩
 have g0:H1.get H.next=some (.arr 0 80 [.lit (.int .u8 p.vars),.vec p.w.length (mI p.w)]):=by rw[hH1];exact bQ ..
 have g1:H1.get (H.next+1)=some (.arr 0 103 [.lit (.int .i64 g),.vec ns.length (aG ns)]):=by rw[hH1];exact bB H _ 1 (by simp)
 have g2:H1.get (H.next+2)=some (.arr 0 82 [.lit (.slice none 0 0),.lit (.slice none 0 0)]):=by rw[hH1];exact bB H _ 2 (by simp)
 have g3:H1.get (H.next+3)=some (.arr 0 82 [.lit (.slice none 0 0),.lit (.slice none 0 0)]):=by rw[hH1];exact bB H _ 3 (by simp)
 have n1:H1.next=H.next+4:=by rw[hH1];rfl
 have o1:Over H H1:=by rw[hH1];exact .ext _ _
 rw[<- hH1];clear hH1;obtain⟨cs,hcs⟩:∃ cs,cs=ao ns:=⟨_,rfl⟩
 have smk:∀ k,k<=ns.length->cU (aF cs (dn p.vars k)):=fun k hk=>by
  obtain⟨h1,h2,h3⟩:=vj p.vars k;refine lS (by rw[fM];omega) fun c h=>?_;unfold aF at h;obtain⟨q,hq,rfl⟩:=S9.1 h;have:=h2 q hq;obtain⟨x,hx⟩:=get_of_lt (l:=ns) (i:=q.toNat) (by omega);rw[hcs,bq (cL hx)];exact hc x (SK hx)
 refine W.aL 8796093021376 (by rfl) (fun ρ Hx=>∃ (k:Nat) (v1:AVal),ρ 7=aa k/\k<=ns.length/\ρ 6=aa (au (aF cs (dn p.vars k)))/\H1.next<=Hx.next/\(∀ id,id<H1.next->id≠H.next+3->Hx.get id=H1.get id)/\Hx.get (H.next+3)=some (.arr 0 82 [v1,.lit (.slice none 0 0)])/\aA H1.next Hx 3 v1 (ints (dn p.vars k))) (fun ρ H=>ns.length - (iv (ρ 7)).toNat) ?_ ?_
 ·simp only[go_sem];exact⟨0,_,rfl,by omega,rfl,g3,.nil⟩
 rintro ρ Hx ⟨k,v1,h7,hk,h6,hnx,hold,hu,hO⟩;refine W.en (fun E=>E 2=.ptr H.next 0 0 /\ E 3=.ptr (H.next+1) 0 0 /\ E 4=.ptr (H.next+2) 0 0 /\ E 5=.ptr (H.next+3) 0 0 /\ E 6=aa (au (aF cs (dn p.vars k))) /\ E 7=aa k) (by simp only[go_sem,h6,h7]) fun E ⟨e2,e3,e4,e5,e6,e7⟩=>?_
 refine W.vs ?_;have l0:=ag ((hold _ (by omega) (by omega)).trans g0);have l1:=ag ((hold _ (by omega) (by omega)).trans g1);have l3:=ag hu;by_cases hb:(k:Int)<ns.length
 ·obtain⟨x,hx⟩:=get_of_lt (l:=ns) (i:=k) (by omega);have hne:=dC hx;have c0:=iJ hx;have w1:=SM ((k:Int)+1) (by omega);obtain⟨r1,hr1⟩:∃ r1,p.vars.fdiv (2 ^ (min ((k:Int)).toNat IntKind.u8.bits))=r1:=⟨_,rfl⟩
  obtain⟨r2,hr2⟩:∃ r2,IntKind.u8.wrap (((BitVec.ofInt IntKind.u8.bits r1 &&& BitVec.ofInt IntKind.u8.bits 1).toNat:Nat):Int)=r2:=⟨_,rfl⟩
  have s1:∀ t o1 o2,bh Tryz.prog .shr t o1 o2 (.lit (.int .u8 p.vars)) (.lit (.int .i64 (k:Int)))=some (.lit (.int .u8 r1)):=fun t o1 o2=>by rw[vE (by omega),hr1]
  have s2:∀ t o1 o2,bh Tryz.prog .and t o1 o2 (.lit (.int .u8 r1)) (.lit (.int .u8 1))=some (.lit (.int .u8 r2)):=fun t o1 o2=>by rw[vF,hr2]
  have hb8:vh p.vars k=decide (r2=1):=by unfold vh;rw[hr1,hr2]
  have hlen:=va hO (d:=some (.slice 3)) rfl;rw[o7,aP]at hlen;obtain⟨u1,u2,u3⟩:=vj p.vars k;have hstep:dn p.vars (k+1)=if vh p.vars k=true/\(dn p.vars k).length<3 then dn p.vars k++[(k:Int)] else dn p.vars k:=rfl
  by_cases hr:r2=1
  ·by_cases h3:((dn p.vars k).length:Int)<3
   ·rw[SQ ⟨by rw[hb8,T1 hr],by omega⟩]at hstep;obtain⟨v',H3,hA,hO3,hn3,hp3⟩:=gL (P:=Tryz.prog) (H:=Hx) (t:=46) (x:=aa k) (n:=Hx.next+1) Tryz.underlying46 Tryz.dx Tryz.dQ rfl (by rw[Tryz.eC,aP];omega) hO hnx rfl;simp only[aa]at hA;have keep:∀ id,id<H1.next->H3.get id=Hx.get id:=fun id h=>hp3 id (by omega) (hO.ne h);have l1j:=ag ((keep _ (by omega)).trans ((hold _ (by omega) (by omega)).trans g1));have l3j:=ag ((keep _ (by omega)).trans hu);have hvc:=hO3.cells;have hvo:=hO3.one;have l1u:∀ b,(H3.upd (H.next+3) b).live (H.next+1) 0=some (103,[.lit (.int .i64 g),.vec ns.length (aG ns)]):=fun b=>(nV (by omega)).trans l1j;have hpr:au (aF cs (dn p.vars (k+1)))=au (aF cs (dn p.vars k))*x.card:=by
     rw[hstep];unfold aF;rw[TI,hcs];show au (_++[(ao ns).getD ((k:Int)).toNat 0])=_;rw[eO,Int.toNat_natCast,bq (cL hx)]
    have hps:=(smk (k+1) (by omega)).prod;rw[hpr]at hps;have w2:=SM (au (aF cs (dn p.vars k))*x.card) (by omega);simp only[go_sem,e2,e3,e5,e6,e7,l0,l1,l3,l3j,hb,s1,s2,hr,hlen,h3,w1,w2,hne,c0,hA,hvc,hvo,l1u];refine⟨by rw[aw];omega,⟨k+1,v',rfl,by omega,by rw[hpr],by rw[aw];omega,fun id h1 h2=>by rw[ab,SO h2,keep _ h1];exact hold id h1 h2,by rw[ab,SQ rfl],?_⟩,by rw[h7];simp only[aa,aQ];omega⟩;rw[hstep];have:=hO3.keep (lo':=H1.next) (H':=H3.upd (H.next+3) (.arr 0 82 [v',.lit (.slice none 0 0)])) (Nat.le_refl _) (Nat.le_refl _) fun id _ h1 _ _ _=>by rw[ab,SO (by omega)]
    simpa [ints,aa] using this
   ·rw[SO (by omega)]at hstep;simp only[go_sem,e2,e3,e5,e6,e7,l0,l1,l3,hb,s1,s2,hr,hlen,h3,w1];exact⟨hnx,⟨k+1,v1,rfl,by omega,by rw[hstep],hnx,hold,hu,by rw[hstep];exact hO⟩,by rw[h7];simp only[aa,aQ];omega⟩
  ·rw[SO (by rw[hb8,UH hr];simp)]at hstep;simp only[go_sem,e2,e3,e6,e7,l0,l1,hb,s1,s2,hr,w1];exact⟨hnx,⟨k+1,v1,rfl,by omega,by rw[hstep],hnx,hold,hu,by rw[hstep];exact hO⟩,by rw[h7];simp only[aa,aQ];omega⟩
 ·have hke:k=ns.length:=by omega
  simp only[go_sem,e3,e7,l1,hb];rw[hke]at hO e6;obtain⟨R,hR⟩:=S2 (smk ns.length (by omega)).prod.1;have hR2:=(smk ns.length (by omega)).prod.2;rw[hR]at e6 hR2;have hwl:(dZ p ns).w=(List.range R).map fun (i:Nat)=>if p.w.length=0 then 0 else (p.w.getD (i % p.w.length) 0).tmod 101:=by
   unfold dZ;rw[<- hcs,hR];rfl
  have wget:∀ (i:Nat) (x:Int),i<R->(if p.w.length=0 then 0 else (p.w.getD (i % p.w.length) 0).tmod 101)=x->(dZ p ns).w[i]?=some x:=fun i x hi hx=>by
   rw[hwl,List.getElem?_map,Tn hi,Option.map_some,hx]
  have wlen:(dZ p ns).w.length=R:=by rw[hwl];simp
  refine W.aL 590295801562612630272 (by rfl) (fun ρ H2=>∃ (i:Nat) (v2:AVal),ρ 8=aa i/\i<=R/\Hx.next<=H2.next/\(∀ id,id<Hx.next->id≠H.next+3->H2.get id=Hx.get id)/\H2.get (H.next+3)=some (.arr 0 82 [v1,v2])/\aA Hx.next H2 3 v2 (ints ((dZ p ns).w.take i))) (fun ρ H=>R - (iv (ρ 8)).toNat) ?_ ?_
  ·simp only[go_sem];exact⟨0,_,rfl,by omega,hu,.nil⟩
  rintro ρ2 H2 ⟨i,v2,h8,hi,hn2,hold2,hu2,hO2⟩;refine W.en (fun E2=>E2 2=.ptr H.next 0 0 /\ E2 4=.ptr (H.next+2) 0 0 /\ E2 5=.ptr (H.next+3) 0 0 /\ E2 6=aa R /\ E2 8=aa i) (by simp only[go_sem,e2,e4,e5,e6,h8]) fun E2 ⟨f2,f4,f5,f6,f8⟩=>?_
  refine W.vs ?_;have o02:∀ id,id<H1.next->id≠H.next+3->H2.get id=H1.get id:=fun id h1 h2=>(hold2 id (by omega) h2).trans (hold id h1 h2);have m0:=ag ((o02 _ (by omega) (by omega)).trans g0);have m3:=ag hu2;by_cases hb2:(i:Int)<R
  ·have w1:=SM ((i : Int)+1) (by omega);have hlen:=va hO2 (d:=some (.slice 3)) rfl;rw [o7,aP] at hlen;have tl : ((dZ p ns).w.take i).length=i:=(by rw [SX,wlen];omega);have app : ∀ x : Int,(dZ p ns).w[i]?=some x→∃ v' H3,bf Tryz.prog (ext H2 [.arr 0 3 [.lit (.int .i64 x)]]) (H2.next+1) 46 46 v2 (.own H2.next 0 0 1 1)=some (v',H3)∧v'.cells=[v']∧v'.one=true∧H3.live (H.next+3) 0=some (82,[v1,v2])∧H2.next≤H3.next ∧
     ∀ b,b=.arr 0 82 [v1,v']->(∀ id,id<Hx.next->id≠H.next+3->(H3.upd (H.next+3) b).get id=Hx.get id)/\(H3.upd (H.next+3) b).get (H.next+3)=some (.arr 0 82 [v1,v'])/\aA Hx.next (H3.upd (H.next+3) b) 3 v' (ints ((dZ p ns).w.take (i+1))):=fun x hx=>by
    obtain⟨v',H3,hA,hO3,hn3,hp3⟩:=gL (P:=Tryz.prog) (H:=H2) (t:=46) (x:=aa x) (n:=H2.next+1) Tryz.underlying46 Tryz.dx Tryz.dQ rfl (by rw[Tryz.eC,aP];omega) hO2 hn2 rfl;simp only[aa]at hA;have keep:∀ id,id<Hx.next->H3.get id=H2.get id:=fun id h=>hp3 id (by omega) (hO2.ne h);refine⟨v',H3,hA,hO3.cells,hO3.one,ag ((keep _ (by omega)).trans hu2),hn3,fun b hb=>⟨fun id h1 h2=>by rw[ab,SO h2,keep _ h1];exact hold2 id h1 h2,by rw[ab,SQ rfl,hb],?_⟩⟩;rw[aO hx];have:=hO3.keep (lo':=Hx.next) (H':=H3.upd (H.next+3) b) (Nat.le_refl _) (Nat.le_refl _) fun id _ h1 _ _ _=>by rw[ab,SO (by omega)]
    simpa [ints,aa] using this
   by_cases hz:(0:Int)<p.w.length
   ·have hzn:¬ (p.w.length:Int)=0:=(by omega);have m1:(i:Int).tmod p.w.length=((i % p.w.length:Nat):Int):=(by rw[Tj (by omega)];rfl);have m2:=Vn i (show p.w.length > 0 by omega);obtain⟨q,hq⟩:∃ q,q=i % p.w.length:=⟨_,rfl⟩
    rw[<- hq]at m1 m2;have hq0:(q:Int) >= 0:=(by omega);have hql:(q:Int)<p.w.length:=(by omega);obtain⟨b,hbg⟩:=get_of_lt (l:=p.w) (i:=q) m2;have b8:=hp.2.2 b (SK hbg);have hbg':=Qo hbg;have hbne:=aK hbg';unfold I8 at b8;have w4:IntKind.i64.wrap b=b:=SM _ (by omega);have tb:-9223372036854775808<=b.tmod 101/\b.tmod 101<9223372036854775808:=by
     have h:=Int.natAbs_tmod b 101;have h2:=Vn b.natAbs (show (101:Int).natAbs > 0 by decide);have h3:(101:Int).natAbs=101:=rfl;rw[h3]at h h2;omega
    have w5:IntKind.i64.wrap (b.tmod 101)=b.tmod 101:=SM _ (by omega);obtain⟨v',H3,hA,hvc,hvo,l3,hn3,fin⟩:=app (b.tmod 101) (wget i _ (by omega) (by rw[SO (by omega),<- hq,bq hbg]));simp only[go_sem,f2,f6,f8,m0,hb2,hz];refine W.draw 7 [0,1,0,0,8,24,60] Tryz.mixed (by kernel_rfl) (by kernel_rfl) ?_;simp only[go_sem,f2,f5,f8,m0,m3,hzn,m1,hq0,hql,hbg',hbne,w1,w4,hA,hvc,hvo,l3];refine⟨by rw[aw];omega,⟨i+1,v',rfl,by omega,by rw[aw];omega,(fin _ rfl).1,(fin _ rfl).2.1,(fin _ rfl).2.2⟩,by rw[h8];simp only[aa,aQ];omega⟩
   ·have hzn:p.w.length=0:=(by omega);obtain⟨v',H3,hA,hvc,hvo,l3,hn3,fin⟩:=app 0 (wget i _ (by omega) (by rw[SQ hzn]));simp only[go_sem,f2,f5,f6,f8,m0,m3,hb2,hz,w1,hA,hvc,hvo,l3];refine⟨by rw[aw];omega,⟨i+1,v',rfl,by omega,by rw[aw];omega,(fin _ rfl).1,(fin _ rfl).2.1,(fin _ rfl).2.2⟩,by rw[h8];simp only[aa,aQ];omega⟩
  ·have hie:i=R:=(by omega);have m2:=ag ((o02 _ (by omega) (by omega)).trans g2);have hO1:aA H1.next H2 3 v1 (ints (dn p.vars ns.length)):=hO.keep (Nat.le_refl _) hn2 fun id _ h1 h3 _ _=>hold2 id h3 (by omega);have v1o:=hO1.one;have v2o:=hO2.one;have v1c:=hO1.cells;have v2c:=hO2.cells;rw[SP (by omega)]at hO2;simp only[go_sem,f4,f5,f6,f8,m2,m3,hb2,v1o,v2o];have k1:=hO1.keep (lo':=H.next) (H':=H2.upd (H.next+2) (.arr 0 82 [v1,v2])) (by omega) (by rw[aw];omega) fun id _ h1 _ _ _=>by rw[ab,SO (by omega)]
   have k2:=hO2.keep (lo':=H.next) (H':=H2.upd (H.next+2) (.arr 0 82 [v1,v2])) (by omega) (by rw[aw];omega) fun id _ h1 _ _ _=>by rw[ab,SO (by omega)]
   refine ay.mk (by rw[aw];omega) (hK v1 v2 _ ⟨by rw[aw];omega,fun id h=>?_⟩ k1 k2);rw[ab,SO (by omega),o02 id (by omega) (by omega)];exact o1.old id h
structure TopoR (ps:List Nat)(r:List Nat):Prop where
 len:r.length=ps.length
 nd:r.Nodup
 rng:∀ v∈r,v<ps.length
 rk:∀ (i v:Nat),r[i]?=some v->∀ u,(ps.getD v 0).testBit u=true->∃ j,j<i/\r[j]?=some u
theorem PM {ps:List Nat}(hp:∀ p∈ps,p<2 ^ 64):∀ (k:Nat) (out:List Nat) (done:Nat) (r:List Nat),gm ps k out done=some r->(∀ i,done.testBit i=true↔i∈out)->out.Nodup->(∀ v∈out,v<ps.length)->(∀ (i v:Nat),out[i]?=some v->∀ u,(ps.getD v 0).testBit u=true->∃ j,j<i/\out[j]?=some u) ->
  r.length=out.length+k/\r.Nodup/\(∀ v∈r,v<ps.length)/\(∀ (i v:Nat),r[i]?=some v->∀ u,(ps.getD v 0).testBit u=true->∃ j,j<i/\r[j]?=some u):=by
 intro k
 induction k with
 | zero =>
  intro out done r h h1 h2 h3 h4;unfold gm at h;cases h;exact⟨rfl,h2,h3,h4⟩
 | succ k ih =>
  intro out done r h h1 h2 h3 h4;unfold gm at h;cases hn:jN ps done with
  | none=>rw[hn]at h;cases h
  | some v =>
   rw[hn]at h;obtain⟨a,b,c⟩:=yG hp hn;have hvo:v ∉ out:=fun hm=>by rw[(h1 v).2 hm]at b;cases b
   obtain⟨e1,e2,e3,e4⟩:=ih (out++[v]) (done ||| 2 ^ v) r h (fun i=>by
    rw[im,Ta,List.mem_singleton,TY,h1,decide_eq_true_eq];exact or_congr Iff.rfl eq_comm) (List.nodup_append.2 ⟨h2,by simp,fun x hx y hy=>by obtain rfl:=List.mem_singleton.1 hy;rintro rfl;exact hvo hx⟩) (fun x hx=>by
    rcases Ta.1 hx with hx|hx
    ·exact h3 x hx
    ·obtain rfl:=List.mem_singleton.1 hx;exact a) (fun i x hx u hu=>by
    have hl:=get_lt hx;rw[List.length_append,UL]at hl;rcases Te i out.length with hi|hi
    ·rw[SW hi]at hx;obtain⟨j,j1,j2⟩:=h4 i x hx u hu;exact⟨j,j1,by rw[SW (by omega)];exact j2⟩
    ·obtain rfl:i=out.length:=(by omega);simp only[List.getElem?_concat_length,Option.some.injEq]at hx;subst hx;obtain⟨j,hj⟩:=S8.1 ((h1 u).1 (c u hu));exact⟨j,get_lt hj,by rw[SW (get_lt hj)];exact hj⟩)
   exact⟨by rw[e1,List.length_append,UL];omega,e2,e3,e4⟩
theorem PN {ps:List Nat}(hp:∀ p∈ps,p<2 ^ 64){r:List Nat}(h:eD ps=some r):TopoR ps r:=by
 obtain⟨e1,e2,e3,e4⟩:=PM hp ps.length [] 0 r h (fun i=>by simp) (by simp) (by simp) (by simp);exact⟨by simpa using e1,e2,e3,e4⟩
theorem PO:∀ (n:Nat) (l:List Nat),l.Nodup->(∀ v∈l,v<n)->l.length<=n:=by
 intro n
 induction n with
 | zero=>intro l _ h;cases l with
  | nil=>simp
  | cons a l=>exact absurd (h a (by simp)) (S7 _)
 | succ n ih =>
  intro l hd h;have h1:=ih (l.erase n) (hd.erase n) fun v hv=>by
   have h2:=(hd.mem_erase_iff).1 hv;have:=h v h2.2;omega
  have h3:=List.length_erase (a:=n) (l:=l);split at h3<;>omega
def kI (r:List Nat)(i v:Nat):Prop:=∃ j,j<i/\r[j]?=some v
theorem kI.up {r:List Nat}{i k v:Nat}(h:kI r i v)(hk:i<=k):kI r k v:=h.imp fun j hj=>⟨by omega,hj.2⟩
structure DrD (ns:List NodeP)(r:List Nat)(rem:Bool)(i known decs:Nat)(os:List Nat)(ms:List NodeP):Prop where
 card:ao ms=ao ns
 old:∀ v,decs.testBit v=false->ms[v]?=ns[v]?
 dec:∀ v x,ms[v]?=some x->decs.testBit v=true->x.rows=[]/\∃ s j,x.parents=dK s 8/\j<i/\r[j]?=some v/\∀ u,s.testBit u=true->kI r j u
 decsb:∀ v,decs.testBit v=true->kI r i v
 knownb:∀ v,known.testBit v=true->kI r i v
 os3:os.length<=3
 osm:∀ v,v∈os↔decs.testBit v=true
 osp:rem=true->os.Pairwise fun u v=>∀ x y,ms[u]?=some x->ms[v]?=some y->Sub (cB x.parents ||| 2 ^ u) (cB y.parents)
 osk:rem=true->∀ u∈os,∀ x,ms[u]?=some x->Sub (cB x.parents ||| 2 ^ u) known
theorem DrD.len {ns ms:List NodeP}{r os:List Nat}{rem:Bool}{i known decs:Nat}(h:DrD ns r rem i known decs os ms):ms.length=ns.length:=by
 have:=congrArg List.length h.card;simpa [ao] using this
theorem DrD.start (ns:List NodeP)(r:List Nat)(rem:Bool):DrD ns r rem 0 0 0 [] ns :=
 ⟨rfl,fun _ _=>rfl,fun v x _ h=>by simp at h,fun v h=>by simp at h,fun v h=>by simp at h,by simp,fun v=>by simp,fun _=>.nil,fun _ u hu=>by cases hu⟩
theorem DrD.skip {ns ms:List NodeP}{r os:List Nat}{rem:Bool}{i known decs:Nat}(h:DrD ns r rem i known decs os ms):DrD ns r rem (i+1) known decs os ms :=
 ⟨h.card,h.old,fun v x hx hb=>by
  obtain⟨a,s,j,b,c,d⟩:=h.dec v x hx hb;exact⟨a,s,j,b,by omega,d⟩,fun v hb=>(h.decsb v hb).up (by omega),fun v hb=>(h.knownb v hb).up (by omega),h.os3,h.osm,h.osp,h.osk⟩
theorem Dm {s:Nat}(h:s<2 ^ 8):cB (dK s 8)=s:=by
 have h0:∀ p∈dK s 8,0<=p:=fun p hp=>by obtain⟨v,rfl,_⟩:=pN.1 hp;omega
 refine Vo fun i=>?_;rw[mA h0];cases hb:s.testBit i with
 | true=>exact T1 (pN.2 ⟨i,rfl,nJ h hb,hb⟩)
 | false =>
  refine UH fun hm=>?_;obtain⟨v,e,_,hv⟩:=pN.1 hm;obtain rfl:i=v:=by omega
  rw[hb]at hv;cases hv
theorem Dn {r:List Nat}{n i v:Nat}(hr:∀ v∈r,v<n)(h:kI r i v):v<n:=h.elim fun _ hj=>hr v (SK hj.2)
theorem uY {r:List Nat}{n i s:Nat}(hr:∀ v∈r,v<n)(h:∀ v,s.testBit v=true->kI r i v):s<2 ^ n:=yD fun v hv=>Dn hr (h v hv)
theorem DrD.step {ns ms:List NodeP}{r os:List Nat}{rem:Bool}{i known decs:Nat}(h:DrD ns r rem i known decs os ms)(hr:TopoR (aY ns) r)(h8:ns.length<=8)(ho:os.length<3){v:Nat}(hv:r[i]?=some v){x:NodeP}(hx:ns[v]?=some x){s:Nat}(hs:Sub s (cB x.parents)):
  decs.testBit v=false/\v<ns.length/\(if rem then s ||| known else s)<2 ^ ns.length /\
  DrD ns r rem (i+1) (known ||| (if rem then s ||| known else s) ||| 2 ^ v) (decs ||| 2 ^ v) (os++[v]) (ms.set v ⟨x.card,dK (if rem then s ||| known else s) 8,[]⟩):=by
 obtain⟨s',hs'⟩:∃ s',s'=(if rem then s ||| known else s):=⟨_,rfl⟩
 rw[<- hs'];have hsl:(aY ns).length=ns.length:=by simp [aY]
 have hrng:=hr.rng;rw[hsl]at hrng;have hvn:=hrng v (SK hv);have hml:=h.len;have inj:∀ j,r[j]?=some v->j=i:=fun j hj=>(Uh (get_lt hj) hr.nd).1 (by rw[hj,hv]);have hdv:decs.testBit v=false:=by
  cases hb:decs.testBit v with
  | false=>rfl
  | true =>
   obtain⟨j,j1,j2⟩:=h.decsb v hb;have:=inj j j2;omega
 have sb:∀ u,s.testBit u=true->kI r i u:=fun u hu=>hr.rk i v hv u (by rw[bq (lQ hx)];exact hs u hu);have sb':∀ u,s'.testBit u=true->kI r i u:=fun u hu=>by
  rw[hs']at hu;cases rem with
  | false=>exact sb u hu
  | true =>
   rw[SQ rfl,UE,TY]at hu;exact hu.elim (sb u) (h.knownb u)
 have hlt:=uY hrng sb';have hlt8:s'<2 ^ 8:=S6 hlt (Tm (by decide) h8);have selfv:(ms.set v ⟨x.card,dK s' 8,[]⟩)[v]?=some ⟨x.card,dK s' 8,[]⟩:=S1 (by omega);have othv:∀ u,u≠v->(ms.set v ⟨x.card,dK s' 8,[]⟩)[u]?=ms[u]?:=fun u hu=>Tb (fun e=>hu e.symm);have osv:v ∉ os:=fun hm=>by rw[(h.osm v).1 hm]at hdv;cases hdv
 refine⟨hdv,hvn,hlt,⟨?_,fun u hu=>?_,fun u y hy hu=>?_,fun u hu=>?_,fun u hu=>?_,by simp;omega,fun u=>?_,fun hrem=>?_,fun hrem u hu y hy=>?_⟩⟩
 ·rw[<- h.card];unfold ao;rw[UU];apply Tk;intro k;rw[TL];split
  ·rename_i e;subst e;have:=h.card;have h1:(ao ms)[v]?=(ao ns)[v]?:=(by rw[this]);rw[SQ (by rw[SZ];omega)];rw[cL hx]at h1;exact h1.symm
  ·rfl
 ·rw[im,Bool.or_eq_false_iff,UB]at hu;rw[othv u (fun e=>hu.2 e.symm)];exact h.old u hu.1
 ·by_cases e:u=v
  ·subst e;rw[selfv]at hy;cases hy;exact⟨rfl,s',i,rfl,by omega,hv,sb'⟩
  ·rw[othv u e]at hy;rw[im,TY,decide_eq_true_eq]at hu;obtain⟨a,s2,j,b,c,d⟩:=h.dec u y hy (hu.resolve_right fun e'=>e e'.symm);exact⟨a,s2,j,b,by omega,d⟩
 ·rw[im,TY,decide_eq_true_eq]at hu;rcases hu with hu|rfl
  ·exact(h.decsb u hu).up (by omega)
  ·exact⟨i,by omega,hv⟩
 ·rw[im,UE,TY,TY,decide_eq_true_eq]at hu;rcases hu with (hu|hu)|rfl
  ·exact(h.knownb u hu).up (by omega)
  ·exact(sb' u hu).up (by omega)
  ·exact⟨i,by omega,hv⟩
 ·rw[im,Ta,List.mem_singleton,h.osm,TY,decide_eq_true_eq];exact or_congr Iff.rfl eq_comm
 ·refine Ut.2 ⟨(h.osp hrem).imp_of_mem fun {a b} ha hb hab p q hp hq=>?_,by simp,fun a ha b hb p q hp hq=>?_⟩
  ·rw[othv a (fun e=>osv (e ▸ ha))]at hp;rw[othv b (fun e=>osv (e ▸ hb))]at hq;exact hab p q hp hq
  ·obtain rfl:=List.mem_singleton.1 hb;rw[othv a (fun e=>osv (e ▸ ha))]at hp;rw[selfv]at hq;cases hq;rw[show cB (⟨x.card,dK s' 8,[]⟩:NodeP).parents=s' from Dm hlt8,hs',SQ hrem];exact(h.osk hrem a ha p hp).trans (Sub.right _ _)
 ·rcases Ta.1 hu with hu|hu
  ·rw[othv u (fun e=>osv (e ▸ hu))]at hy;exact((h.osk hrem u hu y hy).trans (Sub.left _ _)).trans (Sub.left _ _)
  ·obtain rfl:=List.mem_singleton.1 hu;rw[selfv]at hy;cases hy;rw[show cB (⟨x.card,dK s' 8,[]⟩:NodeP).parents=s' from Dm hlt8];exact Sub.or ((Sub.right known s').trans (Sub.left _ _)) (Sub.right _ _)
structure DrI (rem:Bool)(d:InfP):Prop where
 ok:InfOk d
 n5:d.nodes.length<=5
 rows:∀ v x,d.nodes[v]?=some x->d.decs.testBit v=false->x.rows≠[]
 os:∃ os:List Nat,os.length<=3/\(∀ v,v∈os↔d.decs.testBit v=true)/\(rem=true->os.Pairwise fun u v=>∀ x y,d.nodes[u]?=some x->d.nodes[v]?=some y->Sub (cB x.parents ||| 2 ^ u) (cB y.parents))
theorem Do {g:Int}{ns:List NodeP}(h:NetOk g ns):∀ x∈ns,x.rows≠[]:=fun x hx he=>by
 have h1:=(h.rows x hx).1;have h2:=fw (l:=aH ns x) fun c hc=>(mM (fun q hq=>by have:=(h.node x hx).2.2 q hq;omega) (fun y hy=>(h.node y hy).1) c hc).1;rw[he]at h1;simp at h1;omega
theorem DrD.fin {g:Int}{ns ms:List NodeP}{r os:List Nat}{rem:Bool}{i known decs:Nat}(h:DrD ns r rem i known decs os ms)(hn:NetOk g ns)(hr:TopoR (aY ns) r)(h5:ns.length<=5){us:List UtilP}(hul:us.length<=4)(hus:∀ u∈us,UtilOk ns u):
  DrI rem ⟨g,ms,decs,us⟩:=by
 have hsl:(aY ns).length=ns.length:=by simp [aY]
 have hrng:=hr.rng;rw[hsl]at hrng;have hml:=h.len;have hdl:decs<2 ^ ns.length:=uY hrng h.decsb;have getN:∀ (v:Nat) (x:NodeP),ms[v]?=some x->∃ y,ns[v]?=some y/\y.card=x.card:=fun v x hx=>by
  obtain⟨y,hy⟩:=get_of_lt (l:=ns) (i:=v) (by have:=get_lt hx;omega);refine⟨y,hy,?_⟩;have h1:(ao ms)[v]?=(ao ns)[v]?:=by rw[h.card]
  rw[cL hx,cL hy]at h1;exact(Option.some.inj h1).symm
 have hcard:∀ x∈ms,1<=x.card/\x.card<=4:=fun x hx=>by
  obtain⟨v,hv⟩:=S8.1 hx;obtain⟨y,hy,e⟩:=getN v x hv;rw[<- e];exact(hn.node y (SK hy)).1
 have hpl:∀ (v:Nat) (x:NodeP),ms[v]?=some x->bK x.parents ms.length:=fun v x hx=>by
  cases hb:decs.testBit v with
  | false =>
   rw[h.old v hb]at hx;have:=(hn.node x (SK hx)).2;rw[hml];exact this
  | true =>
   obtain⟨_,s,j,e,_,_,hs⟩:=h.dec v x hx hb;rw[e];refine⟨Qm _ _,fun q hq=>?_⟩;obtain⟨u,rfl,_,hu⟩:=pN.1 hq;have:=Dn hrng (hs u hu);rw[hml];omega
 have hR:RightN ⟨g,ms,decs,us⟩:=⟨by show 1<=ms.length/\ms.length<=8;rw[hml];exact hn.n1,by show decs >>> ms.length=0;rw[hml,U7];exact Nat.div_eq_of_lt hdl,hcard,fun v x hx hb=>⟨(h.dec v x hx hb).1,hpl v x hx⟩⟩
 have hperm:IsPerm ns.length (aM r):=⟨by rw[show (aM r).length=r.length by simp [aM],hr.len,hsl],by
  unfold aM;exact List.Pairwise.map _ (R:=(·≠·)) (fun a b h e=>h (by omega)) hr.nd,fun q hq=>by
  obtain⟨v,hv,rfl⟩:=S9.1 hq;have:=hrng v hv;omega⟩
 have natg:∀ (j v:Nat),(aM r)[j]?=some (v:Int)↔r[j]?=some v:=fun j v=>by
  unfold aM;rw[List.getElem?_map,SL];exact⟨fun ⟨a,h1,h2⟩=>by rw[h1];congr 1;omega,fun h1=>⟨v,h1,rfl⟩⟩
 have hacy:lC (aY ms):=by
  refine DG (P:=aM r) (by rw[hml];exact hperm) (fun v hv=>?_) fun j v x hj hx q hq=>?_
  ·refine TG fun hno=>?_;rw[hml]at hv;have hsub:(v :: r).length<=ns.length:=by
    have hnd:(v :: r).Nodup:=Vj.2 ⟨fun hm=>hno (S9.2 ⟨v,hm,rfl⟩),hr.nd⟩;exact PO ns.length _ hnd fun u hu=>by
     rcases List.mem_cons.1 hu with rfl|hu
     ·exact hv
     ·exact hrng u hu
   rw[List.length_cons,hr.len,hsl]at hsub;omega
  ·have q0:=((hpl v x hx).2 q hq).1;refine⟨q0,?_⟩;have hj':=(natg j v).1 hj;obtain⟨u,rfl⟩:=S2 q0;cases hb:decs.testBit v with
   | false =>
    rw[h.old v hb]at hx;obtain⟨k,k1,k2⟩:=hr.rk j v hj' u (by
     rw[bq (lQ hx),mA fun p hp=>((hn.node x (SK hx)).2.2 p hp).1];exact T1 hq)
    exact⟨k,k1,(natg k u).2 k2⟩
   | true =>
    obtain⟨_,s,j',e,_,hj2,hs⟩:=h.dec v x hx hb;rw[e]at hq;obtain⟨u',eu,_,hu⟩:=pN.1 hq;obtain rfl:u=u':=(by omega);obtain rfl:j'=j:=(Uh (get_lt hj2) hr.nd).1 (by rw[hj2,hj']);obtain⟨k,k1,k2⟩:=hs u hu;exact⟨k,k1,(natg k u).2 k2⟩
 have hpc:∀ x,aH ms x=aH ns x:=fun x=>by unfold aH;rw[h.card]
 refine⟨⟨hR,⟨hn.g1,by rw[dE];exact hR.n1,fun y hy=>?_,?_,by rw[DP];exact hacy,fun y hy=>?_⟩,hul,fun u hu=>?_⟩,by show ms.length<=5;omega,fun v x hx hb=>?_,os,h.os3,h.osm,h.osp⟩
 ·obtain⟨v,x,hx,rfl⟩:=rW hy;rw[(gp ..).1,(gp ..).2,dE];exact⟨hcard x (SK hx),hpl v x hx⟩
 ·rw[jV];show au (ao ms)<=1024;rw[h.card];exact hn.size
 ·obtain⟨v,x,hx,rfl⟩:=rW hy;have hcx:=hcard x (SK hx);have hx':ms[v]?=some x:=hx;unfold fA;rw[nQ];by_cases hb:decs.testBit v=true
  ·rw[jW hx hb];have x1:=(hR.dec v x hx hb).1;have hsm:=(jY (x:=x) (ns:=ms) hR.n1.2 (hpl v x hx) hcard).prod;refine⟨?_,fun q hq=>?_⟩
   ·show ((x.rows++cG g ms (fun _ _=>0) _ x).length:Int)=au (aH ms x);rw[x1];simp only[cG,List.nil_append,SZ,TJ,bH];omega
   ·rw[show ({ x with rows:=x.rows++cG g ms (fun _ _=>0) (aX decs v) x }:NodeP).rows=x.rows++cG g ms (fun _ _=>0) (aX decs v) x from rfl,x1,List.nil_append]at hq;unfold cG at hq;obtain⟨i,hi,rfl⟩:=S9.1 hq;have:=hn.g1;exact DO (by show 0<=g;omega) ⟨Int.le_refl 0,by show (0:Int)<x.card;omega⟩
  ·rw[jj hb];have hb':decs.testBit v=false:=(by simpa using hb);rw[h.old v hb']at hx';have:=hn.rows x (SK hx');unfold fA at this;show (x.rows.length:Int)=au (aH ms x)/\_;rw[hpc];exact this
 ·have:=hus u hu;exact⟨by show bK u.vars ms.length;rw[hml];exact this.vars,by show _=au (aF (ao ms) u.vars);rw[h.card];exact this.size,this.w⟩
 ·have hx':ms[v]?=some x:=hx;rw[h.old v hb]at hx';exact Do hn x (SK hx')
end Go.Proofs
