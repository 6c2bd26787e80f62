/- Own work: contracts. -/
import Derived.Test.YteolcdbjdgimhaaGreatConD
set_option linter.all false
set_option maxHeartbeats 8000000
set_option maxRecDepth 100000
namespace Go.Proofs
open Go.Hx Tryz
def mH (H1 H':AHeap)(N:Nat)(cs:List AVal):Prop:=H1.next<=H'.next/\(∀id,id<H1.next->id≠N->H'.get id=H1.get id)/\H'.get N=some (.arr 0 87 cs)
theorem Pu {l:List NodeP}{i:Nat}{x y:NodeP}(h:l[i]?=some x)(hr:x.rows=[])(hy:y.rows=[]):cj (l.set i y)=(cj l).set (i*3) (aa y.card):=by
 have hl:=get_lt h;have h1:=uZ (f:=NodeP.cX) (z:=3) kV l i y hl;have h2:=nK (f:=NodeP.cX) (z:=3) kV l i x h;have e1:x.cX=[aa x.card,.lit (.slice none 0 0),.lit (.slice none 0 0)]:=SK hr;have e2:y.cX=[aa y.card,.lit (.slice none 0 0),.lit (.slice none 0 0)]:=SK hy;unfold cj;rw[h1,e2];rw[e1]at h2;have h3:(l.map NodeP.cX).flatten=((l.map NodeP.cX).flatten).take (i*3)++([aa x.card,.lit (.slice none 0 0),.lit (.slice none 0 0)]++((l.map NodeP.cX).flatten).drop (i*3+3)):=by
  rw[<- h2,<- Uw,Tl,Tl]
 have hlen:(((l.map NodeP.cX).flatten).take (i*3)).length=i*3:=by
  rw[SN,kJ (f:=NodeP.cX) (z:=3) kV];omega
 conv=>rhs;rw[h3]
 rw[To _ _ (by omega),hlen];simp
theorem vb (ord:List Int):∀(n v:Nat),v<n->(v:Int)∈gF ord n
 |0,v,h=>by omega
 |n+1,v,h=>by
  unfold gF;by_cases hv:v=n
  ·subst hv;simp
  ·have:=vb ord n v (by omega);rw[<- Tl (mE ord n) (gF ord n)]at this;rcases S5.1 this with h|h
   ·exact V9 _ h
   ·exact Vn _ (UN _ h)
def mI (ps:List DrP)(i:Nat):Int × List Int:=match ps[i]? with
 |some y=>(y.par,y.w)
 |none=>(0,[])
def CT (p:Int)(k:Nat):Int:=IntKind.u8.wrap (((BitVec.ofInt IntKind.u8.bits (p.fdiv (2 ^ (min ((k:Int)).toNat IntKind.u8.bits))) &&& BitVec.ofInt IntKind.u8.bits 1).toNat:Nat):Int)
def pe (par:Int)(P:List Int)(u:Nat)(l:List Int)(k:Nat):List Int:=if P[k]?=some (u:Int)/\CT par k=1/\l.length<3 then l++[(u:Int)] else l
def kW (par:Int)(P:List Int)(i u k:Nat):List Int:=(List.range k).foldl (pe par P u) ((List.range u).foldl (fun l u=>(List.range i).foldl (pe par P u) l) [])
theorem vd (par:Int)(P:List Int)(i u k:Nat):kW par P i u (k+1)=pe par P u (kW par P i u k) k:=by unfold kW;rw[TZ,TT];rfl
theorem Pv (par:Int)(P:List Int)(i u:Nat):kW par P i (u+1) 0=kW par P i u i:=by unfold kW;rw[TZ,TT];rfl
def qt (ps:List DrP)(i:Nat):Int:=match ps[i]? with
 |some y=>2+y.card % 2
 |none=>2
def jM (ps:List DrP)(n i:Nat)(W:Int):Int:=if IntKind.i64.wrap (W*qt ps i*2 ^ (min ((n:Int)-1-i).toNat IntKind.i64.bits)) > 100 then 2 else qt ps i
def ka (ps:List DrP)(n:Nat):Nat->Int
 |0=>1
 |i+1=>ka ps n i*jM ps n i (ka ps n i)
def qu (g c:Int)(bs:List Int)(R:Nat):List (List Int):=(List.range R).map fun (q:Nat)=>nV g c.toNat bs ((q:Int)*(c+1))
theorem Pw (g c:Int)(bs:List Int)(R:Nat):qu g c bs (R+1)=qu g c bs R++[nV g c.toNat bs ((R:Int)*(c+1))]:=by unfold qu;rw[TZ,Tq];rfl
def yt (g:Int)(ps:List DrP)(cs P:List Int)(n j:Nat):NodeP:=⟨jM ps n j (ka ps n j),kW (mI ps j).1 P j n 0,qu g (jM ps n j (ka ps n j)) (mI ps j).2 (ao (aI cs (kW (mI ps j).1 P j n 0))).toNat⟩
structure DoneN (g:Int)(cs P:List Int)(n j:Nat)(x:NodeP):Prop where
 pl:bO x.parents n
 p3:x.parents.length<=3
 rk:∀q∈x.parents,∃k,k<j/\P[k]?=some q
 rl:(x.rows.length:Int)=ao (aI cs x.parents)
 ro:∀r∈x.rows,jz g x.card r
 ne:x.rows≠[]
structure LoopN (g:Int)(ps:List DrP)(cs P:List Int)(n i:Nat)(ns:List NodeP):Prop where
 len:ns.length=n
 cards:ak ns=cs
 todo:∀(j v:Nat) (x:NodeP),i<=j->P[j]?=some (v:Int)->ns[v]?=some x->x.rows=[]/\x.parents=[]
 done:∀(j v:Nat) (x:NodeP),j<i->P[j]?=some (v:Int)->ns[v]?=some x->DoneN g cs P n j x
 eq:∀(j v:Nat) (x:NodeP),j<i->P[j]?=some (v:Int)->ns[v]?=some x->x=yt g ps cs P n j
 cd:∀(j v:Nat) (x:NodeP),P[j]?=some (v:Int)->ns[v]?=some x->x.card=jM ps n j (ka ps n j)
theorem Px {l:List NodeP}{i:Nat}{x y:NodeP}(h:l[i]?=some x)(hy:y.card=x.card)(hr:y.rows≠[]):cj (l.set i y)=((cj l).set (i*3+1) (af y.parents)).set (i*3+2) (aj y.rows):=by
 have hl:=get_lt h;have h1:=uZ (f:=NodeP.cX) (z:=3) kV l i y hl;have h2:=nK (f:=NodeP.cX) (z:=3) kV l i x h;unfold cj;rw[h1];have h3:(l.map NodeP.cX).flatten=((l.map NodeP.cX).flatten).take (i*3)++(x.cX++((l.map NodeP.cX).flatten).drop (i*3+3)):=by
  rw[<- h2,<- Uw,Tl,Tl]
 have hlen:(((l.map NodeP.cX).flatten).take (i*3)).length=i*3:=by
  rw[SN,kJ (f:=NodeP.cX) (z:=3) kV];omega
 have ex:∃b c,x.cX=[aa x.card,b,c]:=by unfold NodeP.cX;split<;>exact⟨_,_,rfl⟩
 obtain⟨b,c,ex⟩:=ex;have ey:y.cX=[aa y.card,af y.parents,aj y.rows]:=SI hr
 conv=>rhs;rw[h3]
 rw[To _ _ (by omega),To _ _ (by omega),hlen,show i*3+1-i*3=1 by omega,show i*3+2-i*3=2 by omega,ex,ey];simp[hy]
structure ParU (P:List Int)(i u k:Nat)(l:List Int):Prop where
 pw:l.Pairwise (·<·)
 rng:∀q∈l,0<=q/\(q<u\/(q=u/\∃k',k'<k/\P[k']?=some q))
 p3:l.length<=3
 rk:∀q∈l,∃k',k'<i/\P[k']?=some q
theorem ParU.skip {P:List Int}{i u k:Nat}{l:List Int}(h:ParU P i u k l):ParU P i u (k+1) l:=⟨h.pw,fun q hq=>⟨(h.rng q hq).1,(h.rng q hq).2.imp id fun ⟨a,k',b,c⟩=>⟨a,k',by omega,c⟩⟩,h.p3,h.rk⟩
theorem ParU.next {P:List Int}{i u k:Nat}{l:List Int}(h:ParU P i u k l):ParU P i (u+1) 0 l:=⟨h.pw,fun q hq=>⟨(h.rng q hq).1,.inl (by rcases(h.rng q hq).2 with h1|h1<;>omega)⟩,h.p3,h.rk⟩
theorem ParU.add {P:List Int}{n i u k:Nat}{l:List Int}(hP:IsPerm n P)(h:ParU P i u k l)(hk:k<i)(hu:P[k]?=some (u:Int))(h3:l.length<3):ParU P i u (k+1) (l++[(u:Int)]):=by
 have lt:∀q∈l,q<u:=fun q hq=>by
  rcases(h.rng q hq).2 with h1|⟨h1,k',h2,h4⟩
  ·exact h1
  ·exfalso;have e:P[k']?=P[k]?:=(by rw[h4,hu,h1]);have:=(Uo (get_lt h4) hP.nd).1 e;omega
 refine⟨Uy.2 ⟨h.pw,by simp,fun a ha b hb=>by obtain rfl:=List.mem_singleton.1 hb;exact lt a ha⟩,fun q hq=>?_,by simp;omega,fun q hq=>?_⟩
 ·rcases S5.1 hq with h1|h1
  ·exact⟨(h.rng q h1).1,.inl (lt q h1)⟩
  ·obtain rfl:=List.mem_singleton.1 h1;exact⟨by omega,.inr ⟨rfl,k,by omega,hu⟩⟩
 ·rcases S5.1 hq with h1|h1
  ·exact h.rk q h1
  ·obtain rfl:=List.mem_singleton.1 h1;exact⟨k,hk,hu⟩
def yu (Hz Hx:AHeap)(N at':Nat)(C:List AVal)(pv:AVal)(l:List Int):Prop:=mH Hz Hx N (C.set at' pv)/\ay Hz.next Hx 3 pv (ints l)
def Py (g:Int)(ps:List DrP)(ord:List Int)(ns:List NodeP):Prop:=ns.length=min (max ps.length 1) 5/\(∀(j v:Nat) (x:NodeP),(gF ord ns.length)[j]?=some (v:Int)->ns[v]?=some x->x=yt g ps (ak ns) (gF ord ns.length) ns.length j)/\∀(j v:Nat) (x:NodeP),(gF ord ns.length)[j]?=some (v:Int)->ns[v]?=some x->x.card=jM ps ns.length j (ka ps ns.length j)
theorem Pz (g0:Int)(ps:List DrP)(ord:List Int)(hg0:U8 g0)(hps:∀x∈ps,x.Ok)(hpl:(ps.length:Int)<2 ^ 63)(hol:(ord.length:Int)<2 ^ 63)(ho8:∀x∈ord,U8 x)(H:AHeap)(K:ARes->AHeap->Prop)
  (hK:∀g ns N H',Over H H'->H.next<=N->N<H'.next->H'.get N=some (.arr 0 87 (aF ns))->NetOk g ns->ns.length<=5->(∀x∈ns,x.parents.length<=3)->(∀x∈ns,2<=x.card)->(g=1+g0 % 60/\Py g ps ord ns)->K (.ret (.agg [aa g,.own N 0 0 ns.length 3])) H'):
  ag prog G0 30 [uY g0 ps ord] H K:=by
 refine ag.st (n:=187) (rs:=[.cell 2 81]) func30 ?_;obtain⟨n,hn⟩:∃n:Nat,min (max ps.length 1) 5=n:=⟨_,rfl⟩
 have h51:1<=n/\n<=5:=by omega
 have hmn:(if 5<(if (1:Int) > ps.length then 1 else (ps.length:Int)) then 5 else (if (1:Int) > ps.length then 1 else (ps.length:Int)))=(n:Int):=by split<;>split<;>omega
 have t0:g0.tmod 60=g0 % 60:=Ta hg0.1;have w0:IntKind.u8.wrap (g0 % 60)=g0 % 60:=VX _ (by omega);have w1:IntKind.i64.wrap (g0 % 60)=g0 % 60:=SF _ (by omega);have w2:=SF (1+g0 % 60) (by omega);obtain⟨g,hg⟩:∃g,1+g0 % 60=g:=⟨_,rfl⟩
 have hg1:1<=g/\g<=60:=by omega
 rw[hg]at w2;simp only[go_sem,uY];refine W.dr 9 [0,1,3,7,15,0,32,127,0] mixed ?_;simp only[go_sem,hmn,t0,w1,hg,w2];refine⟨by omega,⟨⟨by omega,by omega⟩,⟨by omega,by omega⟩,?_⟩⟩;obtain⟨H1,hH1⟩:∃H1,H1=ext (ext H [.arr 0 25 [.lit (.int .u8 g0),.vec ps.length (fZ ps),.vec ord.length (bZ ord)],.arr 0 81 [.lit (.int .i64 0),.lit (.slice none 0 0)],.arr 0 87 (List.replicate n [AVal.lit (.int .i64 0),.lit (.slice none 0 0),.lit (.slice none 0 0)]).flatten]) [.arr 0 81 [.lit (.int .i64 g),.own (H.next+2) 0 0 n 3]]:=⟨_,rfl⟩
 refine W.en (fun E=>E 1=.ptr H.next 0 0 /\ E 2=.ptr (H.next+1) 0 0 /\ E 3=aa n /\ E 4=.ptr (H.next+3) 0 0) (by simp only[go_sem]) fun E ⟨e1,e2,e3,e4⟩=>?_
 show W _ _ _ _ _ _ ⟨E,ext (ext H [.arr 0 25 [.lit (.int .u8 g0),.vec ps.length (fZ ps),.vec ord.length (bZ ord)],.arr 0 81 [.lit (.int .i64 0),.lit (.slice none 0 0)],.arr 0 87 (List.replicate n [AVal.lit (.int .i64 0),.lit (.slice none 0 0),.lit (.slice none 0 0)]).flatten]) [.arr 0 81 [.lit (.int .i64 g),.own (H.next+2) 0 0 n 3]]⟩;rw[<- hH1];have n1:H1.next=H.next+4:=by rw[hH1];rfl
 have o1:Over H H1:=by rw[hH1];exact(Over.ext _ _).trans (.ext _ _)
 have g0':H1.get H.next=some (.arr 0 25 [.lit (.int .u8 g0),.vec ps.length (fZ ps),.vec ord.length (bZ ord)]):=by rw[hH1,dp];exact cq ..
 have g1':H1.get (H.next+1)=some (.arr 0 81 [.lit (.int .i64 0),.lit (.slice none 0 0)]):=by rw[hH1,dp];exact bD H _ 1 (by simp)
 have g2':H1.get (H.next+2)=some (.arr 0 87 (cj (List.replicate n ⟨0,[],[]⟩))):=by
  rw[hH1,dp,show cj (List.replicate n ⟨0,[],[]⟩)=(List.replicate n [AVal.lit (.int .i64 0),.lit (.slice none 0 0),.lit (.slice none 0 0)]).flatten by unfold cj;rw[UQ];rfl];exact bD H _ 2 (by simp)
 have g3':H1.get (H.next+3)=some (.arr 0 81 [.lit (.int .i64 g),.own (H.next+2) 0 0 n 3]):=by rw[hH1,dp];exact bD H _ 3 (by simp)
 clear hH1;have l0:=ah g0';have l1:=ah (show (ext H1 [.arr 0 5 (List.replicate n (.lit (.int .u8 0)))]).get H.next=some (.arr 0 25 [.lit (.int .u8 g0),.vec ps.length (fZ ps),.vec ord.length (bZ ord)]) by rw[dv _ _ _ (by omega)];exact g0');refine W.dr 4 [0,1,0,4] mixed ?_;simp only[go_sem,e1,e3,l1];refine⟨⟨by omega,by omega⟩,by omega,by omega,?_⟩;obtain⟨H2,hH2⟩:∃H2,H2=ext H1 [.arr 0 5 (List.replicate n (.lit (.int .u8 0)))]:=⟨_,rfl⟩
 have gb:=df hH2
 rw[<- hH2];refine aw.clo ((ag.frame (H:=H2) (args:=[.agg [.own H1.next 0 0 n 1,.lit (.int .u16 0),.vec ord.length (bZ ord)]]) (args':=[.agg [.vec n (bZ (List.replicate n 0)),.lit (.int .u16 0),.vec ord.length (bZ ord)]]) (v':=af (gF ord n)) aE rfl (fun i hi _=>?_) (O3 n h51.2 ord hol ho8 cz _ fun v H' _ ho=>⟨_,rfl,ho.kj⟩)).mono fun r H' hr=>?_)
 ·match i,hi with
  |0,_ =>
   refine .agg rfl fun i hi _=>?_
   match i,hi with
   |0,_ =>
    have:bZ (List.replicate n 0)=List.replicate n (.lit (.int .u8 0)):=(by unfold bZ;rw[UQ]);rw[this];exact Fz.ou gb (by simp) fun c hc=>⟨_,Tr hc⟩
   |1,_=>exact .lit _
   |2,_=>exact .vec rfl fun i hi _=>by simp only[bZ,SV];exact .lit _
 obtain⟨rfl,rfl⟩:=hr;refine⟨trivial,?_⟩;have hperm:=ye ord n;obtain⟨P,hP⟩:∃P,P=gF ord n:=⟨_,rfl⟩
 rw[<- hP]at hperm ⊢;have n2:H'.next=H1.next+1:=hH2▸rfl
 have F0:mH H1 H' (H.next+2) (cj (List.replicate n ⟨0,[],[]⟩)):=by
  rw[hH2];exact⟨by simp[aS],fun id h _=>dv _ _ _ h,by rw[dv _ _ _ (by omega)];exact g2'⟩
 clear hH2 gb;simp only[go_sem,e3];have bs:∀k:Nat,k<=5->(3:Int) ^ k<=243:=fun k hk=>by
  have:(3:Nat) ^ k<=3 ^ 5:=Te (by decide) hk;have h2:((3 ^ k:Nat):Int)<=((3 ^ 5:Nat):Int):=by exact_mod_cast this
  push_cast at h2
  exact h2
 refine W.aG 151115727451794287100864 (by rfl) (fun ρ Hx=>∃(i:Nat) (ns:List NodeP) (Wd:Int),ρ 7=aa i/\i<=n/\ns.length=n/\(∀x∈ns,x.rows=[]/\x.parents=[])/\(∀j v:Nat,j<i->P[j]?=some (v:Int)->∃x,ns[v]?=some x/\2<=x.card/\x.card<=3/\x.card=jM ps n j (ka ps n j))/\ρ 6=aa Wd/\Wd=ka ps n i/\1<=Wd/\Wd<=3 ^ i/\H'.next<=Hx.next/\mH H1 Hx (H.next+2) (cj ns)) (fun ρ H=>n-(iv (ρ 7)).toNat) ?_ ?_
 ·simp only[go_sem];exact⟨0,_,1,rfl,by omega,by simp,fun x hx=>by obtain rfl:=Tr hx;exact⟨rfl,rfl⟩,fun j v hj=>by omega,rfl,rfl,by omega,by simp,F0⟩
 rintro ρ Hx ⟨i,ns,Wd,h7,hi,hnl,hnz,hnc,h6,hWe,hW1,hW3,hnx,hF⟩;refine W.en (fun E2=>E2 1=.ptr H.next 0 0 /\ E2 2=.ptr (H.next+1) 0 0 /\ E2 3=aa n /\ E2 4=.ptr (H.next+3) 0 0 /\ E2 5=af P /\ E2 6=aa Wd /\ E2 7=aa i) (by simp only[go_sem,e1,e2,e3,e4,h6,h7]) fun E2 ⟨f1,f2,f3,f4,f5,f6,f7⟩=>?_
 refine W.vs ?_;have hPl:=hperm.len;have hFn:=hF.1;have m0:=ah ((hF.2.1 H.next (by omega) (by omega)).trans g0');have m3:=ah ((hF.2.1 (H.next+3) (by omega) (by omega)).trans g3');have mN:=ah hF.2.2;have m0':∀L,(ext Hx L).live H.next 0=some (25,[.lit (.int .u8 g0),.vec ps.length (fZ ps),.vec ord.length (bZ ord)]):=fun L=>(dh (by omega)).trans m0;have m3':∀L,(ext Hx L).live (H.next+3) 0=some (81,[.lit (.int .i64 g),.own (H.next+2) 0 0 n 3]):=fun L=>(dh (by omega)).trans m3;have mN':∀L,(ext Hx L).live (H.next+2) 0=some (87,cj ns):=fun L=>(dh (by omega)).trans mN;by_cases hb:(i:Int)<n
 ·obtain⟨pv,hpv⟩:=get_of_lt (l:=P) (i:=i) (by omega);have hpr:=hperm.rng pv (SE hpv);obtain⟨v,rfl⟩:=SR hpr.1;obtain⟨x,hx⟩:=get_of_lt (l:=ns) (i:=v) (by omega);have hpne:=aJ hpv;have hz0:=CP hx;have hzne:=aJ hz0;have hzl:=CO ns;have hv:(v:Int)<n:=hpr.2;have hv0:(v:Int) >= 0:=hpr.1;have hiP:(i:Int)<P.length:=by omega
  have w3:=bs i (by omega);have i1:=SF ((i:Int)+1) (by omega);have i2:=SF ((n:Int)-1) (by omega);have i3:=SF ((n:Int)-1-i) (by omega);have i4:=Ue ((n:Int)-1-i) (by omega);have fin:∀(c:Int) (B:Blk),2<=c/\c<=3->c=jM ps n i Wd->v*3+1<=(cj ns).length/\H'.next<=((ext Hx [B]).upd (H.next+2) (.arr 0 87 (setAt (cj ns) (v*3) [.lit (.int .i64 c)]))).next /\
    (∃(i_1:Nat) (ns_1:List NodeP) (Wd_1:Int),AVal.lit (.int .i64 ((i:Int)+1))=.lit (.int .i64 i_1)/\i_1<=n/\ns_1.length=n/\(∀x∈ns_1,x.rows=[]/\x.parents=[])/\(∀j v:Nat,j<i_1->P[j]?=some (v:Int)->∃x,ns_1[v]?=some x/\2<=x.card/\x.card<=3/\x.card=jM ps n j (ka ps n j)) /\
     AVal.lit (.int .i64 (Wd*c))=.lit (.int .i64 Wd_1)/\Wd_1=ka ps n i_1/\1<=Wd_1/\Wd_1<=3 ^ i_1/\H'.next<=((ext Hx [B]).upd (H.next+2) (.arr 0 87 (setAt (cj ns) (v*3) [.lit (.int .i64 c)]))).next/\mH H1 ((ext Hx [B]).upd (H.next+2) (.arr 0 87 (setAt (cj ns) (v*3) [.lit (.int .i64 c)]))) (H.next+2) (cj ns_1)) /\
    n-((i:Int)+1).toNat<n-(iv (ρ 7)).toNat:=by
   intro c B c23 hce;have p1:2<=Wd*c/\Wd*c<=3 ^ i*3:=by
    constructor
    ·have:=TJ hW1 c23.1 (by omega) (by omega);omega
    ·exact TJ hW3 c23.2 (by omega) (by omega)
   have nn:((ext Hx [B]).upd (H.next+2) (.arr 0 87 (setAt (cj ns) (v*3) [.lit (.int .i64 c)]))).next=Hx.next+1:=rfl;refine⟨by rw[hzl];have:=get_lt hx;omega,by rw[nn];omega,⟨i+1,ns.set v ⟨c,[],[]⟩,Wd*c,rfl,by omega,by simp[hnl],fun z hz=>?_,fun j u hj hu=>?_,rfl,by show Wd*c=ka ps n i*jM ps n i (ka ps n i);rw[<- hWe,<- hce],by omega,by rw[T4];omega,by rw[nn];omega,?_⟩,by rw[h7];simp only[aa,aM];omega⟩
   ·rcases Tg hz with h|h
    ·exact hnz z h
    ·rw[h];exact⟨rfl,rfl⟩
   ·by_cases huv:u=v
    ·subst huv;have hji:j=i:=(Uo (get_lt hu) hperm.nd).1 (by rw[hu,hpv]);exact⟨_,SX (get_lt hx),by dsimp only;omega,by dsimp only;omega,by dsimp only;rw[hji,<- hWe];exact hce⟩
    ·rw[S3 (by omega)];refine hnc j u ?_ hu;rcases S9 j i with h|h
     ·exact h
     ·obtain rfl:j=i:=(by omega);rw[hpv]at hu;exact absurd (by have:=Option.some.inj hu;omega) huv
   ·refine⟨by rw[nn];omega,fun id h1 h2=>by rw[ae,SI h2,dv _ _ _ (by omega)];exact hF.2.1 id h1 h2,?_⟩;rw[ae,SK rfl,Pu hx (hnz x (SE hx)).1 rfl];congr 2;exact eM (by rw[hzl];have:=get_lt hx;omega)
  by_cases hp:(i:Int)<ps.length
  ·obtain⟨y,hy⟩:=get_of_lt (l:=ps) (i:=i) (by omega);have hyo:=hps y (SE hy);have hc0:=CM hy;have hc1:i*3+3<=(fZ ps).length:=(by rw[CN];omega);have hcne:¬fZ ps=[]:=fun h=>by rw[h]at hc1;simp at hc1
   have c8:=hyo.1;have t1:y.card.tmod 2=y.card % 2:=Ta c8.1;have i5:=VX (y.card % 2) (by omega);have i6:=SF (y.card % 2) (by omega);have i7:=SF (2+y.card % 2) (by omega);have c23:2<=(2+y.card % 2)/\(2+y.card % 2)<=3:=(by omega);have p1:2<=Wd*(2+y.card % 2)/\Wd*(2+y.card % 2)<=3 ^ i*3:=by
    constructor
    ·have:=TJ hW1 c23.1 (by omega) (by omega);omega
    ·exact TJ hW3 c23.2 (by omega) (by omega)
   have p2:2<=Wd*2/\Wd*2<=3 ^ i*3:=(by omega);have j1:=SF (Wd*(2+y.card % 2)) (by omega);have j2:=SF (Wd*2) (by omega);obtain⟨q,hq⟩:∃q,IntKind.i64.wrap (Wd*(2+y.card % 2)*2 ^ (min ((n:Int)-1-i).toNat IntKind.i64.bits))=q:=⟨_,rfl⟩
   have cA:jM ps n i Wd=if q > 100 then 2 else 2+y.card % 2:=by
    have h0:qt ps i=2+y.card % 2:=(by unfold qt;rw[hy]);unfold jM;rw[h0,hq]
   have hsh:∀t o1 o2,bx prog .shl t o1 o2 (.lit (.int .i64 (Wd*(2+y.card % 2)))) (.lit (.int .u64 ((n:Int)-1-i)))=some (.lit (.int .i64 q)):=fun t o1 o2=>by rw[zd (by omega),hq]
   by_cases hq1:q > 100
   ·simp only[go_sem,f1,f3,f6,f7,m0',hb,hp,i2,i3,i4,j1,j2,hsh,hc0,hc1,hcne,t1,i6,i7,hq1];refine W.dr 7 [0,1,0,0,12,28,0] mixed ?_;simp only[go_sem,f4,f5,f6,f7,m3',mN',i1,hpv,hpne,hv,hv0,hiP];exact fin 2 _ (by omega) (by rw[cA,SK hq1])
   ·simp only[go_sem,f1,f3,f6,f7,m0',hb,hp,i2,i3,i4,j1,hsh,hc0,hc1,hcne,t1,i6,i7,hq1];refine W.dr 7 [0,1,0,0,12,28,0] mixed ?_;simp only[go_sem,f4,f5,f6,f7,m3',mN',i1,hpv,hpne,hv,hv0,hiP];exact fin (2+y.card % 2) _ c23 (by rw[cA,SI hq1])
  ·have p2:2<=Wd*2/\Wd*2<=3 ^ i*3:=(by omega);have i5:IntKind.i64.wrap (2+IntKind.i64.wrap (Int.tmod 0 2))=2:=(by decide);have j2:=SF (Wd*2) (by omega);obtain⟨q,hq⟩:∃q,IntKind.i64.wrap (Wd*2*2 ^ (min ((n:Int)-1-i).toNat IntKind.i64.bits))=q:=⟨_,rfl⟩
   have cA:jM ps n i Wd=2:=by
    have h0:qt ps i=2:=(by unfold qt;rw[SQ (by omega)]);unfold jM;rw[h0];split<;>rfl
   have hsh:∀t o1 o2,bx prog .shl t o1 o2 (.lit (.int .i64 (Wd*2))) (.lit (.int .u64 ((n:Int)-1-i)))=some (.lit (.int .i64 q)):=fun t o1 o2=>by rw[zd (by omega),hq]
   by_cases hq1:q > 100
   ·simp only[go_sem,f1,f3,f6,f7,m0',hb,hp,i2,i3,i4,j2,hsh,i5,hq1];refine W.dr 7 [0,1,0,0,12,28,0] mixed ?_;simp only[go_sem,f4,f5,f6,f7,m3',mN',i1,hpv,hpne,hv,hv0,hiP];exact fin 2 _ (by omega) cA.symm
   ·simp only[go_sem,f1,f3,f6,f7,m0',hb,hp,i2,i3,i4,j2,hsh,i5,hq1];refine W.dr 7 [0,1,0,0,12,28,0] mixed ?_;simp only[go_sem,f4,f5,f6,f7,m3',mN',i1,hpv,hpne,hv,hv0,hiP];exact fin 2 _ (by omega) cA.symm
 ·obtain rfl:n=i:=by omega
  clear bs hW1 hW3 h6 f6;simp only[go_sem,f3,f7,hb];obtain⟨cs,hcs⟩:∃cs,cs=ak ns:=⟨_,rfl⟩
  have csl:cs.length=n:=by rw[hcs,cC,hnl]
  have hc23:∀c∈cs,2<=c/\c<=3:=fun c hc=>by
   obtain⟨v,hv⟩:=SW.1 hc;have hvn:=get_lt hv;have hm:=vb ord n v (by omega);rw[<- hP]at hm;obtain⟨j,hj⟩:=SW.1 hm;obtain⟨x,hx,h2,h3,_⟩:=hnc j v (by have:=get_lt hj;omega) hj;rw[hcs,dm hx]at hv;cases hv;exact⟨h2,h3⟩
  have L0:LoopN g ps cs P n 0 ns:=⟨hnl,hcs.symm,fun j v x _ _ hx=>hnz x (SE hx),fun j v x h=>by omega,fun j v x h=>by omega,fun j v x hj hx=>by
   obtain⟨x',hx',_,_,h4⟩:=hnc j v (by have:=get_lt hj;omega) hj;rw[hx']at hx;rw[<- Option.some.inj hx];exact h4⟩
  clear hnc hnz h7;refine W.aG 98079714615416886934934209737619636635871851991103765504 (by rfl) (fun ρ Hy=>∃(i:Nat) (ns:List NodeP),ρ 10=aa i/\i<=n/\LoopN g ps cs P n i ns/\Hx.next<=Hy.next/\mH H1 Hy (H.next+2) (cj ns)) (fun ρ H=>n-(iv (ρ 10)).toNat) ?_ ?_
  ·simp only[go_sem];exact⟨0,ns,rfl,by omega,L0,hF⟩
  clear L0 hF m0 m3 mN m0' m3' mN' hFn hnl hcs f7;rintro ρ Hy ⟨i,ns,h10,hi,L,hny,hF⟩;refine W.en (fun E=>E 1=.ptr H.next 0 0 /\ E 2=.ptr (H.next+1) 0 0 /\ E 3=aa n /\ E 4=.ptr (H.next+3) 0 0 /\ E 5=af P /\ E 10=aa i) (by simp only[go_sem,f1,f2,f3,f4,f5,h10]) fun E ⟨e1,e2,e3,e4,e5,e10⟩=>?_
  refine W.vs ?_;have hFn:=hF.1;have m0:=ah ((hF.2.1 H.next (by omega) (by omega)).trans g0');have m1:=ah ((hF.2.1 (H.next+1) (by omega) (by omega)).trans g1');have m3:=ah ((hF.2.1 (H.next+3) (by omega) (by omega)).trans g3');have m0':∀L,(ext Hy L).live H.next 0=some (25,[.lit (.int .u8 g0),.vec ps.length (fZ ps),.vec ord.length (bZ ord)]):=fun L=>(dh (by omega)).trans m0;by_cases hb:(i:Int)<n
  ·obtain⟨pv,hpv⟩:=get_of_lt (l:=P) (i:=i) (by omega);have hpr:=hperm.rng pv (SE hpv);obtain⟨v,rfl⟩:=SR hpr.1;have hnl:=L.len;obtain⟨x,hx⟩:=get_of_lt (l:=ns) (i:=v) (by omega);have hpne:=aJ hpv;have hiP:(i:Int)<P.length:=(by omega);have hP1:∀k:Nat,k<n->∃u:Nat,P[k]?=some (u:Int)/\u<n:=fun k hk=>by
    obtain⟨q,hq⟩:=get_of_lt (l:=P) (i:=k) (by omega);have:=hperm.rng q (SE hq);obtain⟨u,rfl⟩:=SR this.1;exact⟨u,hq,by omega⟩
   have hpc:∀(B:List AVal),B=(if (i:Int)<ps.length then (fZ ps).drop (i*3) |>.take 3 else [.lit (.int .u8 0),.lit (.int .u8 0),.lit (.slice none 0 0)])->∃(pc par:Int) (bs:List Int) (wv:AVal),B=[.lit (.int .u8 pc),.lit (.int .u8 par),wv]/\(par=(mI ps i).1/\bs=(mI ps i).2)/\U8 par/\(∀b∈bs,U8 b)/\(bs.length:Int)<2 ^ 63/\wv.one=true/\wv.cells=[wv]/\∀H0,Fz (fun _=>True) H0 0 wv (.vec bs.length (bZ bs)):=by
    rintro B rfl;by_cases hp:(i:Int)<ps.length
    ·obtain⟨y,hy⟩:=get_of_lt (l:=ps) (i:=i) (by omega);have hyo:=hps y (SE hy);rw[SK hp,CM hy];exact⟨y.card,y.par,y.w,_,rfl,⟨by unfold mI;rw[hy],by unfold mI;rw[hy]⟩,hyo.2.1,hyo.2.2.2,hyo.2.2.1,rfl,rfl,fun H0=>.vec rfl fun i hi _=>by simp only[bZ,SV];exact .lit _⟩
    ·rw[SI hp];exact⟨0,0,[],_,rfl,⟨by unfold mI;rw[SQ (by omega)],by unfold mI;rw[SQ (by omega)]⟩,by unfold U8;omega,by simp,by simp,rfl,rfl,fun H0=>.nil⟩
   by_cases hp:(i:Int)<ps.length
   case' pos =>
    have hc1:i*3+3<=(fZ ps).length:=(by rw[CN];omega);have hcne:¬fZ ps=[]:=fun h=>by rw[h]at hc1;simp at hc1
    rw[SK hp]at hpc;obtain⟨pc,par,bs,wv,hc0,hpw,hpar,hbs,hbl,hwo,hwc,hwf⟩:=hpc _ rfl;simp only[go_sem,e1,e3,e5,e10,m0',hb,hp,hc0,hc1,hcne,hpv,hpne,hiP,hwo,Bool.and_true];obtain⟨Hz,hHz⟩:∃Hz,Hz=ext Hy [.arr 0 143 [.lit (.int .u8 pc),.lit (.int .u8 par),wv]]:=⟨_,rfl⟩
    clear hpc hc0 hc1 hcne hp
   case' neg =>
    rw[SI hp]at hpc;obtain⟨pc,par,bs,wv,hc0,hpw,hpar,hbs,hbl,hwo,hwc,hwf⟩:=hpc _ rfl;simp only[go_sem,e1,e3,e5,e10,m0',hb,hp,hpv,hpne,hiP];rw[hc0];obtain⟨Hz,hHz⟩:∃Hz,Hz=ext Hy [.arr 0 143 [.lit (.int .u8 pc),.lit (.int .u8 par),wv]]:=⟨_,rfl⟩
    clear hpc hc0 hp
   all_goals
    rw[<- hHz];refine W.env fun E3 hE3=>?_;have k1:E3 1=.ptr H.next 0 0:=(by rw[hE3];simp only[go_sem,e1]);have k2:E3 2=.ptr (H.next+1) 0 0:=(by rw[hE3];simp only[go_sem,e2]);have k3:E3 3=aa n:=(by rw[hE3];simp only[go_sem,e3]);have k4:E3 4=.ptr (H.next+3) 0 0:=(by rw[hE3];simp only[go_sem,e4]);have k5:E3 5=af P:=(by rw[hE3];simp only[go_sem,e5]);have k10:E3 10=aa i:=(by rw[hE3];simp only[go_sem,e10]);have k11:E3 11=.ptr Hy.next 0 0:=(by rw[hE3];simp only[go_sem]);have k12:E3 12=aa v:=(by rw[hE3];simp only[go_sem]);have k13:E3 13=aa 0:=(by rw[hE3];simp only[go_sem]);clear hE3;have nz:Hz.next=Hy.next+1:=(by rw[hHz];rfl);have z3:Hz.get (H.next+3)=some (.arr 0 81 [.lit (.int .i64 g),.own (H.next+2) 0 0 n 3]):=(by rw[hHz,dv _ _ _ (by omega)];exact(hF.2.1 (H.next+3) (by omega) (by omega)).trans g3');have zP:Hz.get Hy.next=some (.arr 0 143 [.lit (.int .u8 pc),.lit (.int .u8 par),wv]):=(by rw[hHz];exact bX);have zN:Hz.get (H.next+2)=some (.arr 0 87 (cj ns)):=(by rw[hHz,dv _ _ _ (by omega)];exact hF.2.2);have zO:∀id,id<H1.next->id≠H.next+2->Hz.get id=H1.get id:=fun id h1 h2=>by rw[hHz,dv _ _ _ (by omega)];exact hF.2.1 id h1 h2
    obtain⟨xr,xp⟩:=L.todo i v x (Nat.le_refl _) hpv hx;have hzl:=CO ns;have hvn:=get_lt hx;have hcx:(cj ns)[v*3+1]?=some (.lit (.slice none 0 0)):=by
     have:=je (f:=NodeP.cX) (z:=3) kV ns v 1 x hx (by omega);rw[show (cj ns)[v*3+1]?=_ from this];unfold NodeP.cX;rw[SK xr];rfl
    clear hHz e1 e2 e3 e4 e5 e10 f1 f2 f3 f4 f5 m0' m0 m1 m3;have vlt:(v:Int)<n:=hpr.2;have v0:(v:Int) >= 0:=hpr.1;have hset:∀pv pv',setAt ((cj ns).set (v*3+1) pv) (v*3+1) [pv']=(cj ns).set (v*3+1) pv':=fun pv pv'=>by rw[eM (by rw[SO];omega),UD]
    have hgetc:∀pv,((cj ns).set (v*3+1) pv)[v*3+1]?=some pv:=fun pv=>SX (by omega);refine W.me (Q':=fun e s2=>e=.exit 4/\∃pv l,s2.ρ 1=.ptr H.next 0 0/\s2.ρ 2=.ptr (H.next+1) 0 0/\s2.ρ 3=aa n/\s2.ρ 4=.ptr (H.next+3) 0 0/\s2.ρ 5=af P/\s2.ρ 10=aa i/\s2.ρ 11=.ptr Hy.next 0 0/\s2.ρ 12=aa v/\yu Hz s2.H (H.next+2) (v*3+1) (cj ns) pv l/\ParU P i n 0 l/\l=kW par P i n 0) ?_ ?_
    ·refine W.aG 44601490397061167054908922280959129468035072 (by rfl) (fun ρ Hu=>∃(u:Nat) (pv:AVal) (l:List Int),ρ 13=aa u/\u<=n/\yu Hz Hu (H.next+2) (v*3+1) (cj ns) pv l/\ParU P i u 0 l/\l=kW par P i u 0) (fun ρ H=>n-(iv (ρ 13)).toNat) ?_ ?_
     ·simp only[go_sem,k13];refine⟨0,.lit (.slice none 0 0),[],rfl,by omega,⟨⟨Nat.le_refl _,fun _ _ _=>rfl,?_⟩,.nil⟩,⟨by simp,by simp,by simp,by simp⟩,rfl⟩;rw[zN,lh hcx]
     rintro ρu Hu ⟨u,pv,l,h13,hu,hS,hL,hPk⟩;refine W.env fun E4 hE4=>?_;have q3:E4 3=aa n:=(by rw[hE4];simp only[go_sem,k3]);have q4:E4 4=.ptr (H.next+3) 0 0:=(by rw[hE4];simp only[go_sem,k4]);have q5:E4 5=af P:=(by rw[hE4];simp only[go_sem,k5]);have q10:E4 10=aa i:=(by rw[hE4];simp only[go_sem,k10]);have q11:E4 11=.ptr Hy.next 0 0:=(by rw[hE4];simp only[go_sem,k11]);have q12:E4 12=aa v:=(by rw[hE4];simp only[go_sem,k12]);have q13:E4 13=aa u:=(by rw[hE4];simp only[go_sem,h13]);have q1:E4 1=.ptr H.next 0 0:=(by rw[hE4];simp only[go_sem,k1]);have q2:E4 2=.ptr (H.next+1) 0 0:=(by rw[hE4];simp only[go_sem,k2]);clear hE4;refine W.vs ?_;by_cases hub:(u:Int)<n
     ·have u1:=SF ((u:Int)+1) (by omega);simp only[go_sem,q3,q13,hub];refine W.aG 44601490397058710981870980086493729605566464 (by rfl) (fun ρ Hk=>∃(k:Nat) (pv:AVal) (l:List Int),ρ 14=aa k/\k<=i/\Hu.next<=Hk.next/\yu Hz Hk (H.next+2) (v*3+1) (cj ns) pv l/\ParU P i u k l/\l=kW par P i u k) (fun ρ H=>i-(iv (ρ 14)).toNat) ?_ ?_
      ·simp only[go_sem];exact⟨0,pv,l,rfl,by omega,hS,hL,hPk⟩
      clear hS hL hPk;rintro ρk Hk ⟨k,pv,l,h14,hk,hnk,hS,hL,hPk⟩;refine W.env fun E5 hE5=>?_;have r4:E5 4=.ptr (H.next+3) 0 0:=(by rw[hE5];simp only[go_sem,q4]);have r5:E5 5=af P:=(by rw[hE5];simp only[go_sem,q5]);have r10:E5 10=aa i:=(by rw[hE5];simp only[go_sem,q10]);have r11:E5 11=.ptr Hy.next 0 0:=(by rw[hE5];simp only[go_sem,q11]);have r12:E5 12=aa v:=(by rw[hE5];simp only[go_sem,q12]);have r13:E5 13=aa u:=(by rw[hE5];simp only[go_sem,q13]);have r14:E5 14=aa k:=(by rw[hE5];simp only[go_sem,h14]);clear hE5;refine W.vs ?_;by_cases hki:(k:Int)<i
      ·obtain⟨hFz,hOz⟩:=hS;have hFz1:=hFz.1;obtain⟨a,ha,han⟩:=hP1 k (by omega);have hane:=aJ ha;have hkP:(k:Int)<P.length:=(by omega);have s1:=SF ((k:Int)+1) (by omega);have s2:=Ue (k:Int) (by omega);have y3:=ah ((hFz.2.1 (H.next+3) (by omega) (by omega)).trans z3);have yP:=ah ((hFz.2.1 Hy.next (by omega) (by omega)).trans zP);have yN:=ah hFz.2.2;have hgc:=hgetc pv;have hcne2:=aJ hgc;obtain⟨r2,hr2e⟩:∃r2,r2=CT par k:=⟨_,rfl⟩
       obtain⟨r1,hr1e⟩:∃r1,r1=par.fdiv (2 ^ (min ((k:Int)).toNat IntKind.u8.bits)):=⟨_,rfl⟩
       have hr1:∀t o1 o2,bx prog .shr t o1 o2 (.lit (.int .u8 par)) (.lit (.int .u64 (k:Int)))=some (.lit (.int .u8 r1)):=fun _ _ _=>by rw[hr1e];exact tq (by omega)
       have hr2:∀t o1 o2,bx prog .and t o1 o2 (.lit (.int .u8 r1)) (.lit (.int .u8 1))=some (.lit (.int .u8 r2)):=fun _ _ _=>by rw[hr2e,hr1e];exact tt
       have hlen:=va hOz (d:=some (.slice 3)) rfl;rw[pY,aH]at hlen;by_cases hau:(a:Int)=u
       ·have hau':a=u:=(by omega);by_cases hr:r2=1
        ·by_cases hl3:(l.length:Int)<3
         ·simp only[go_sem,r4,r5,r10,r11,r12,r13,r14,hki,ha,hane,hkP,s2,y3,yP,yN,hgc,hr1,hr2,hlen,hau,hr,hl3,vlt,v0];obtain⟨pv',Hj,hA,hO',hn',hpr'⟩:=fW (P:=prog) (H:=Hk) (t:=42) (x:=aa u) (n:=Hk.next+1) Tryz.underlying42 Tryz.dz Tryz.dH rfl (by rw[Tryz.dL,aH];omega) hOz hFz1 rfl;simp only[aa]at hA;have keep:∀id,id<Hz.next->Hj.get id=Hk.get id:=fun id h=>hpr' id (by omega) (hOz.ne h);have y3j:=ah ((keep _ (by omega)).trans ((hFz.2.1 (H.next+3) (by omega) (by omega)).trans z3));have yNj:=ah ((keep _ (by omega)).trans hFz.2.2);refine W.dr 12 [0,1,0,0,8,0,56,120,248,0,512,2040] mixed ?_;simp only[go_sem,r4,r12,r13,r14,y3,yN,yNj,hgc,vlt,v0,hA,s1];have hdj:mu (if kA pv=true then { eff:=aQ pv,rs:=aQ pv++[Hk.next] } else { eff:=[Hk.next+1],rs:=[Hk.next] }) { eff:=[],rs:=[H.next+3] }:=by
           rcases hOz with ⟨hO1,_⟩|⟨id,gg,hO1,hO2,hO3,_⟩
           ·rw[hO1];show mu { eff:=[Hk.next+1],rs:=[Hk.next] } _;exact⟨fun a ha=>by (obtain rfl:a=Hk.next+1:=by simpa using ha);simp;omega,fun a ha=>by simp at ha⟩
           ·rw[hO3];show mu { eff:=[id],rs:=[id]++[Hk.next] } _;exact⟨fun a ha=>by (obtain rfl:a=id:=by simpa using ha);simp;omega,fun a ha=>by simp at ha⟩
          have hpc1:=hO'.cells;rw[hpc1];refine⟨⟨by omega,by omega,by omega,by omega,by omega,by omega,by omega⟩,⟨hdj,hdj⟩,⟨rfl,by simp[hO'.one],by rw[SO];simp;omega⟩,by rw[au];omega,⟨k+1,pv',l++[(u:Int)],rfl,by omega,by rw[au];omega,⟨⟨by rw[au];omega,fun id h1 h2=>by rw[ae,SI h2,keep _ h1];exact hFz.2.1 id h1 h2,?_⟩,?_⟩,hL.add hperm (by omega) (by rw[ha,hau]) (by omega),by rw[vd,<- hPk];unfold pe;rw[SK ⟨by rw[ha,hau],by rw[<- hr2e];exact hr,by omega⟩]⟩,by rw[h14];simp only[aa,aM];omega⟩
          ·rw[ae,SK rfl,hset]
          ·have:=hO'.keep (lo':=Hz.next) (H':=Hj.upd (H.next+2) (.arr 0 87 (setAt ((cj ns).set (v*3+1) pv) (v*3+1) [pv']))) (Nat.le_refl _) (Nat.le_refl _) fun id _ h1 _ _ _=>by rw[ae,SI (by omega)]
           simpa[ints,aa] using this
         ·simp only[go_sem,r4,r5,r10,r11,r12,r13,r14,hki,ha,hane,hkP,s1,s2,y3,yP,yN,hgc,hr1,hr2,hlen,hau,hr,hl3,vlt,v0];exact⟨hnk,⟨k+1,pv,l,rfl,by omega,hnk,⟨hFz,hOz⟩,hL.skip,by rw[vd,<- hPk];unfold pe;rw[SI fun h=>hl3 (by have:=h.2.2;omega)]⟩,by rw[h14];simp only[aa,aM];omega⟩
        ·simp only[go_sem,r5,r10,r11,r13,r14,hki,ha,hane,hkP,s1,s2,yP,hr1,hr2,hau,hr];exact⟨hnk,⟨k+1,pv,l,rfl,by omega,hnk,⟨hFz,hOz⟩,hL.skip,by rw[vd,<- hPk];unfold pe;rw[SI fun h=>hr (by rw[hr2e];exact h.2.1)]⟩,by rw[h14];simp only[aa,aM];omega⟩
       ·simp only[go_sem,r5,r10,r13,r14,hki,ha,hane,hkP,s1,hau];exact⟨hnk,⟨k+1,pv,l,rfl,by omega,hnk,⟨hFz,hOz⟩,hL.skip,by rw[vd,<- hPk];unfold pe;rw[SI fun h=>hau (by have h1:=h.1;rw[ha]at h1;exact Option.some.inj h1)]⟩,by rw[h14];simp only[aa,aM];omega⟩
      ·obtain rfl:k=i:=(by omega);simp only[go_sem,r10,r13,r14,hki,u1];exact⟨by have:=hS.1.1;omega,⟨u+1,pv,l,rfl,by omega,hS,hL.next,by rw[Pv];exact hPk⟩,by rw[h13];simp only[aa,aM];omega⟩
     ·obtain rfl:u=n:=(by omega);simp only[go_sem,q1,q2,q3,q4,q5,q10,q11,q12,q13,hub];exact⟨pv,l,hS,hL,hPk⟩
    ·rintro e s2 ⟨rfl,pv,l,a1,a2,a3,a4,a5,a10,a11,a12,⟨hFz,hOz⟩,hL,hPk⟩;have hFz1:=hFz.1;obtain⟨rk,hrk,hfz⟩:∃rk,Hz.next<=rk/\Fz (fun id=>id=rk) s2.H s2.H.next pv (af l):=by
      rcases hOz with ⟨hO1,hO2⟩|⟨id,gg,hO1,hO2,hO3,hO4⟩
      ·have:l=[]:=by cases l with
        |nil=>rfl
        |cons b l=>simp[ints]at hO2
       rw[hO1,this];exact⟨s2.H.next,hFz1,.nil⟩
      ·refine⟨id,hO1,?_⟩;rw[hO3,aH];refine .frz rfl hO4 (by rw[Nat.mul_one,aH]) fun j hj h2 h'=>?_;simp only[Nat.zero_add,ints,SV];exact .lit _
     have hne2:H.next+2≠rk:=(by omega);refine⟨⟨s2.ρ,s2.H.fF rk (H.next+2) (.arr 0 87 ((cj ns).set (v*3+1) (af l)))⟩,cJ.fF aE hFz.2.2 hne2 (by simp) (zk (CR ns) hfz),Nat.le_refl _,trivial,?_⟩;obtain⟨Hm,hHm⟩:∃Hm,Hm=s2.H.fF rk (H.next+2) (.arr 0 87 ((cj ns).set (v*3+1) (af l))):=⟨_,rfl⟩
     rw[<- hHm];have hFm:mH Hz Hm (H.next+2) ((cj ns).set (v*3+1) (af l)):=by
      rw[hHm];exact⟨hFz1,fun id h1 h2=>(md (by omega) h2).trans (hFz.2.1 id h1 h2),vU hne2⟩
     clear hFz hOz hfz hHm hne2 hrk;simp only[go_sem];refine W.env fun E6 hE6=>?_;have y1:E6 1=.ptr H.next 0 0:=(by rw[hE6];simp only[go_sem,a1]);have y2:E6 2=.ptr (H.next+1) 0 0:=(by rw[hE6];simp only[go_sem,a2]);have y3:E6 3=aa n:=(by rw[hE6];simp only[go_sem,a3]);have y4:E6 4=.ptr (H.next+3) 0 0:=(by rw[hE6];simp only[go_sem,a4]);have y5:E6 5=af P:=(by rw[hE6];simp only[go_sem,a5]);have y10:E6 10=aa i:=(by rw[hE6];simp only[go_sem,a10]);have y11:E6 11=.ptr Hy.next 0 0:=(by rw[hE6];simp only[go_sem,a11]);have y12:E6 12=aa v:=(by rw[hE6];simp only[go_sem,a12]);have y15:E6 15=aa 0:=(by rw[hE6];simp only[go_sem]);clear hE6 a1 a2 a3 a4 a5 a10 a11 a12;have lsm:cY (aI cs l):=ki (by rw[gJ];have:=hL.p3;omega) fun c hc=>by
      unfold aI at hc;obtain⟨q,hq,rfl⟩:=SY.1 hc;have hqr:=hL.rng q hq;obtain⟨c,hc⟩:=get_of_lt (l:=cs) (i:=q.toNat) (by rw[csl];rcases hqr.2 with h|⟨_,k',h,_⟩<;>omega);rw[bp hc];have:=hc23 c (SE hc);omega
     have lpos:0<ao (aI cs l)/\ao (aI cs l)<=27:=by
      have c3:∀c∈aI cs l,1<=c/\c<=3:=fun c hc=>by
       unfold aI at hc;obtain⟨q,hq,rfl⟩:=SY.1 hc;have hqr:=hL.rng q hq;obtain⟨c,hc⟩:=get_of_lt (l:=cs) (i:=q.toNat) (by rw[csl];rcases hqr.2 with h|⟨_,k',h,_⟩<;>omega);rw[bp hc];have:=hc23 c (SE hc);omega
      have h1:=eD fun c hc=>(c3 c hc).1;have h2:=(nL (b:=3) (by omega) fun c hc=>⟨by have:=(c3 c hc).1;omega,(c3 c hc).2⟩).2;have h3:(3:Int) ^ (aI cs l).length<=3 ^ 3:=by
       have:(3:Nat) ^ (aI cs l).length<=3 ^ 3:=Te (by decide) (by rw[gJ];exact hL.p3)
       exact_mod_cast this
      omega
     obtain⟨R,hR⟩:=SR (show 0<=ao (aI cs l) by omega);have hxc:2<=x.card/\x.card<=3:=hc23 x.card (by rw[<- L.cards];exact SE (dm hx));have hFm1:=hFm.1;have w3:Hm.get (H.next+3)=some (.arr 0 81 [.lit (.int .i64 g),.own (H.next+2) 0 0 n 3]):=(hFm.2.1 _ (by omega) (by omega)).trans z3;have wP:Hm.get Hy.next=some (.arr 0 143 [.lit (.int .u8 pc),.lit (.int .u8 par),wv]):=(hFm.2.1 _ (by omega) (by omega)).trans zP;obtain⟨C1,hC1⟩:∃C1,C1=(cj ns).set (v*3+1) (af l):=⟨_,rfl⟩
     have c1l:C1.length=ns.length*3:=(by rw[hC1,SO,hzl]);have hcx2:C1[v*3+2]?=some (.lit (.slice none 0 0)):=by
      have:=je (f:=NodeP.cX) (z:=3) kV ns v 2 x hx (by omega);rw[hC1,S3 (by omega),show (cj ns)[v*3+2]?=_ from this];unfold NodeP.cX;rw[SK xr];rfl
     have hcx0:C1[v*3]?=some (aa x.card):=(by rw[hC1,S3 (by omega)];exact CP hx);rw[<- hC1]at hFm;have hset2:∀rv rv',setAt (C1.set (v*3+2) rv) (v*3+2) [rv']=C1.set (v*3+2) rv':=fun rv rv'=>by rw[eM (by rw[SO];omega),UD]
     have hgc2:∀rv,(C1.set (v*3+2) rv)[v*3+2]?=some rv:=fun rv=>SX (by omega);have hgc0:∀rv,(C1.set (v*3+2) rv)[v*3]?=some (aa x.card):=fun rv=>by rw[S3 (by omega)];exact hcx0
     refine W.me (Q':=fun e s2=>e=.exit 8/\∃(rv:AVal) (rows:List (List Int)),s2.ρ 1=.ptr H.next 0 0/\s2.ρ 2=.ptr (H.next+1) 0 0/\s2.ρ 3=aa n/\s2.ρ 4=.ptr (H.next+3) 0 0/\s2.ρ 5=af P/\s2.ρ 10=aa i/\rows.length=R/\rows=qu g x.card bs R/\(∀r∈rows,jz g x.card r)/\mH Hm s2.H (H.next+2) (C1.set (v*3+2) rv)/\ay Hm.next s2.H 42 rv (rows.map af)) ?_ ?_
     ·refine W.aG 98079714615372285444537148491336716315054007096738611200 (by rfl) (fun ρ Hr=>∃(r:Nat) (rv:AVal) (rows:List (List Int)),ρ 15=aa r/\r<=R/\rows.length=r/\rows=qu g x.card bs r/\(∀r∈rows,jz g x.card r)/\mH Hm Hr (H.next+2) (C1.set (v*3+2) rv)/\ay Hm.next Hr 42 rv (rows.map af)) (fun ρ H=>R-(iv (ρ 15)).toNat) ?_ ?_
      ·simp only[go_sem,y15];refine⟨0,.lit (.slice none 0 0),[],rfl,by omega,rfl,rfl,by simp,⟨Nat.le_refl _,fun _ _ _=>rfl,?_⟩,.nil⟩;rw[hFm.2.2,lh hcx2]
      rintro ρr Hr ⟨r,rv,rows,h15,hr,hrl,hrD,hrows,hFr,hOr⟩;refine W.env fun E7 hE7=>?_;have b1:E7 1=.ptr H.next 0 0:=(by rw[hE7];simp only[go_sem,y1]);have b2:E7 2=.ptr (H.next+1) 0 0:=(by rw[hE7];simp only[go_sem,y2]);have b3:E7 3=aa n:=(by rw[hE7];simp only[go_sem,y3]);have b4:E7 4=.ptr (H.next+3) 0 0:=(by rw[hE7];simp only[go_sem,y4]);have b5:E7 5=af P:=(by rw[hE7];simp only[go_sem,y5]);have b10:E7 10=aa i:=(by rw[hE7];simp only[go_sem,y10]);have b11:E7 11=.ptr Hy.next 0 0:=(by rw[hE7];simp only[go_sem,y11]);have b12:E7 12=aa v:=(by rw[hE7];simp only[go_sem,y12]);have b15:E7 15=aa r:=(by rw[hE7];simp only[go_sem,h15]);clear hE7;refine W.vs ?_;have hFr1:=hFr.1;have v3:=ah ((hFr.2.1 (H.next+3) (by omega) (by omega)).trans w3);have vP:=ah ((hFr.2.1 Hy.next (by omega) (by omega)).trans wP);have vN:=ah hFr.2.2;have hzp:∀z∈ns,z.rows=[]->z.parents=[]:=fun z hz hz0=>by
       obtain⟨u,hu⟩:=SW.1 hz;have hm:=vb ord n u (by have:=get_lt hu;omega);rw[<- hP]at hm;obtain⟨j,hj⟩:=SW.1 hm;rcases S9 j i with h|h
       ·exact absurd hz0 (L.done j u z h hj hu).ne
       ·exact(L.todo j u z h hj hu).2
      have hcard:ak (ns.set v ⟨x.card,l,rows⟩)=cs:=by
       have h1:ak (ns.set v ⟨x.card,l,rows⟩)=(ak ns).set v x.card:=(by unfold ak;rw[Um]);rw[h1,lh (dm hx),L.cards]
      have hpar:aP (ns.set v ⟨x.card,l,rows⟩) ⟨x.card,l,rows⟩=aI cs l:=(by unfold aP;rw[hcard]);have fzN:Fz (fun _=>True) Hr 0 (.agg [aa g,.own (H.next+2) 0 0 n 3]) (bL g (ns.set v ⟨x.card,l,rows⟩)):=by
       refine .agg rfl fun i hi _=>?_
       match i,hi with
       |0,_=>exact .lit _
       |1,_ =>
        show Fz _ _ _ _ (.vec (ns.set v ⟨x.card,l,rows⟩).length (aF (ns.set v ⟨x.card,l,rows⟩)));rw[SO,hnl,Pr (y:=⟨x.card,l,rows⟩) hx rfl];refine .frz trivial hFr.2.2 (by rw[SO,SO,iI];omega) fun j hj h2 h'=>?_;simp only[Nat.zero_add];refine CQ (A:=C1) (B:=(aF ns).set (v*3+1) (af l)) ?_ ?_ j _ _
        ·rw[hC1];exact CQ (Pq ns hzp) (.cI _)
        ·have:=hOr.fz (S:=fun _=>True) (nx:=0) (cs':=rows.map af) (fun _ _=>trivial) rfl fun i hi _=>by simp only[SV];exact .cI _
         rw[SM]at this;exact this
      simp only[go_sem,b4,b12,b15,v3];refine aw.clo ((ag.frame (H:=Hr) (args:=[.agg [aa g,.own (H.next+2) 0 0 n 3],aa v]) (args':=[bL g (ns.set v ⟨x.card,l,rows⟩),aa v]) (v':=af (aI cs l)) aE rfl (fun i hi _=>?_) (Pt g (ns.set v ⟨x.card,l,rows⟩) v ⟨x.card,l,rows⟩ (SX hvn) (by rw[SO];omega) (by show (l.length:Int)<_;have:=hL.p3;omega) (fun q hq=>by
        have hqr:=hL.rng q hq;rw[SO];rcases hqr.2 with h|⟨_,k',h,_⟩<;>omega) cz _ fun w Hq _ ho=>⟨_,rfl,by rw[hpar]at ho;exact ho.kj⟩)).mono fun r1 H1' hr1=>?_)
      ·match i,hi with
       |0,_=>exact fzN
       |1,_=>exact .lit _
      obtain⟨rfl,rfl⟩:=hr1;refine⟨trivial,?_⟩;simp only[go_sem];refine aw.clo (vA (aI cs l) lsm _ _ ⟨trivial,?_⟩);rw[hR];by_cases hrR:(r:Int)<R
      ·simp only[go_sem,hrR];obtain⟨xn,hxn⟩:=SR (show 0<=x.card by omega);have rc:0<=(r:Int)*(x.card+1)/\(r:Int)*(x.card+1)<=27*4:=⟨T8 (by omega) (by omega),TJ (by omega) (by omega) (by omega) (by omega)⟩
       have c1:=SF (x.card+1) (by omega);have c2:=SF ((r:Int)*(x.card+1)) (by omega);have c3:=SF ((r:Int)+1) (by omega);have hg2:=hgc2 rv;have hg0':=hgc0 rv;have hg2n:=aJ hg2;obtain⟨row,hrow⟩:∃row,row=nV g xn bs ((r:Int)*(x.card+1)):=⟨_,rfl⟩
       have hrok:jz g x.card row:=(by rw[hrow,hxn];exact O6 hg1.1 (by omega) _ _);have hpc84:∀Hq,bf prog G0 (.clo 77 [] []) [aa g,aa x.card,wv,aa ((r:Int)*(x.card+1))] Hq (af row) []:=fun Hq=>by
        refine bf.mk (fun i hi=>by cases hi) fun H2 _ _=>?_;refine ag.frame (H:=H2) (args:=[aa g,aa x.card,wv,aa ((r:Int)*(x.card+1))]) (args':=[aa g,aa xn,.vec bs.length (bZ bs),aa ((r:Int)*(x.card+1))]) (v':=af row) aE rfl (fun i hi _=>?_) (O7 g xn hg1 (by omega) bs hbl hbs _ (by omega) cz _ fun w Hw _ ho=>⟨_,rfl,by rw[hrow];exact ho.kj⟩)
        match i,hi with
        |0,_=>exact .lit _
        |1,_=>rw[hxn];exact .lit _
        |2,_=>exact hwf _
        |3,_=>exact .lit _
       obtain⟨rv',Hj,hA,hO',hn',hpr'⟩:=fW (P:=prog) (H:=H1') (t:=33) (x:=af row) (n:=H1'.next+1) Tryz.underlying33 Tryz.jv Tryz.jH rfl (by rw[Tryz.jG,SM];omega) hOr hFr1 rfl;have keep:∀id,id<Hm.next->Hj.get id=H1'.get id:=fun id h=>hpr' id (by omega) (hOr.ne h);have v3j:=ah ((keep _ (by omega)).trans ((hFr.2.1 (H.next+3) (by omega) (by omega)).trans w3));have vNj:=ah ((keep _ (by omega)).trans hFr.2.2);have hA':bM prog (ext H1' [.arr 0 42 [.vec row.length (ints row)]]) (H1'.next+1) 33 33 rv (.own H1'.next 0 0 1 1)=some (rv',Hj):=hA;refine W.dr 31 [0,1,0,0,8,0,56,120,248,0,512,0,2048,0,14336,30720,63488,0,131072,0,0,1048576,0,7340032,15728640,32505856,66060288,133693440,268434944,536870400,1073741816] mixed ?_;simp only[go_sem,b4,b11,b12,b15,v3,vP,vN,hg2,hg0',vlt,v0,c1,c2];refine⟨af row,[],hpc84 _,?_⟩;simp only[go_sem,b4,b11,b12,b15,vNj,vlt,v0,c3,hA'];have hdj:mu (if kA rv=true then { eff:=aQ rv,rs:=aQ rv++[H1'.next] } else { eff:=[H1'.next+1],rs:=[H1'.next] }) { eff:=[],rs:=[H.next+3] }:=by
        rcases hOr with ⟨hO1,_⟩|⟨id,gg,hO1,hO2,hO3,_⟩
        ·rw[hO1];show mu { eff:=[H1'.next+1],rs:=[H1'.next] } _;exact⟨fun a ha=>by (obtain rfl:a=H1'.next+1:=by simpa using ha);simp;omega,fun a ha=>by simp at ha⟩
        ·rw[hO3];show mu { eff:=[id],rs:=[id]++[H1'.next] } _;exact⟨fun a ha=>by (obtain rfl:a=id:=by simpa using ha);simp;omega,fun a ha=>by simp at ha⟩
       rw[hO'.cells];refine⟨⟨by omega,by omega,by omega,by omega,by omega,by omega,by omega⟩,⟨hdj,hdj⟩,⟨rfl,by simp[hO'.one],by rw[SO,c1l];simp;omega⟩,by rw[au];omega,⟨r+1,rv',rows++[row],rfl,by omega,by simp[hrl],by rw[Pw,<- hrD,hrow,show x.card.toNat=xn by omega],fun q hq=>?_,⟨by rw[au];omega,fun id h1 h2=>by rw[ae,SI h2,keep _ h1];exact hFr.2.1 id h1 h2,?_⟩,?_⟩,by rw[h15];simp only[aa,aM];omega⟩
       ·rcases S5.1 hq with h|h
        ·exact hrows q h
        ·obtain rfl:=List.mem_singleton.1 h;exact hrok
       ·rw[ae,SK rfl,hset2]
       ·have:=hO'.keep (lo':=Hm.next) (H':=Hj.upd (H.next+2) (.arr 0 87 (setAt (C1.set (v*3+2) rv) (v*3+2) [rv']))) (Nat.le_refl _) (Nat.le_refl _) fun id _ h1 _ _ _=>by rw[ae,SI (by omega)]
        simpa using this
      ·simp only[go_sem,b1,b2,b3,b4,b5,b10,hrR];exact⟨rv,rows,by omega,by rw[hrD];congr 1;omega,hrows,hFr,hOr⟩
     ·rintro e s3 ⟨rfl,rv,rows,a1,a2,a3,a4,a5,a10,hrl,hrD,hrows,hFr,hOr⟩;have hFr1:=hFr.1;obtain⟨rk,hrk,hfz⟩:∃rk,Hm.next<=rk/\Fz (fun id=>id=rk) s3.H s3.H.next rv (aj rows):=by
       rcases hOr with ⟨hO1,hO2⟩|⟨id,gg,hO1,hO2,hO3,hO4⟩
       ·have:rows=[]:=by cases rows with
         |nil=>rfl
         |cons b l=>simp at hO2
        rw[hO1,this];exact⟨s3.H.next,hFr1,.nil⟩
       ·refine⟨id,hO1,?_⟩;rw[hO3,SM];refine .frz rfl hO4 (by rw[Nat.mul_one,SM]) fun j hj h2 h'=>?_;simp only[Nat.zero_add,SV];exact .cI _
      have hne2:H.next+2≠rk:=(by omega);have hC1z:∀c∈C1,Fz (fun id=>id=rk) s3.H s3.H.next c c:=fun c hc=>by
       rw[hC1]at hc;rcases Tg hc with h|h
       ·exact CR ns c h
       ·rw[h];exact .cI _
      refine⟨⟨s3.ρ,s3.H.fF rk (H.next+2) (.arr 0 87 (C1.set (v*3+2) (aj rows)))⟩,cJ.fF aE hFr.2.2 hne2 (by simp) (zk hC1z hfz),Nat.le_refl _,trivial,?_⟩;obtain⟨He,hHe⟩:∃He,He=s3.H.fF rk (H.next+2) (.arr 0 87 (C1.set (v*3+2) (aj rows))):=⟨_,rfl⟩
      rw[<- hHe];have hFe:mH Hm He (H.next+2) (C1.set (v*3+2) (aj rows)):=by
       rw[hHe];exact⟨hFr1,fun id h1 h2=>(md (by omega) h2).trans (hFr.2.1 id h1 h2),vU hne2⟩
      clear hFr hOr hfz hHe hne2 hrk;have hFe1:=hFe.1;have i1:=SF ((i:Int)+1) (by omega);simp only[go_sem,a10,i1];have hiv:∀j u:Nat,P[j]?=some (u:Int)->u=v->j=i:=fun j u h1 h2=>by
       subst h2;exact(Uo (get_lt h1) hperm.nd).1 (by rw[h1,hpv])
      have hrne:rows≠[]:=fun h=>by rw[h]at hrl;simp at hrl;omega
      have hdone:DoneN g cs P n i ⟨x.card,l,rows⟩:=⟨⟨hL.pw,fun q hq=>⟨(hL.rng q hq).1,by rcases(hL.rng q hq).2 with h|⟨_,k',h,_⟩<;>omega⟩⟩,hL.p3,hL.rk,by show (rows.length:Int)=_;rw[hrl,hR],hrows,hrne⟩
      refine⟨by omega,⟨i+1,ns.set v ⟨x.card,l,rows⟩,rfl,by omega,⟨by rw[SO];exact hnl,?_,fun j u z hj hu hz=>?_,fun j u z hj hu hz=>?_,fun j u z hj hu hz=>?_,fun j u z hu hz=>?_⟩,by omega,by omega,fun id h1 h2=>?_,?_⟩,by rw[h10];simp only[aa,aM];omega⟩
      ·have h1:ak (ns.set v ⟨x.card,l,rows⟩)=(ak ns).set v x.card:=(by unfold ak;rw[Um]);rw[h1,lh (dm hx),L.cards]
      ·have huv:¬u=v:=fun h=>by have:=hiv j u hu h;omega
       rw[S3 (by omega)]at hz;exact L.todo j u z (by omega) hu hz
      ·by_cases huv:u=v
       ·obtain rfl:=hiv j u hu huv;rw[huv,SX hvn]at hz;cases hz;exact hdone
       ·rw[S3 (by omega)]at hz;have:j≠i:=fun h=>by
         rw[h,hpv]at hu;exact huv (by have:=Option.some.inj hu;omega)
        exact L.done j u z (by omega) hu hz
      ·by_cases huv:u=v
       ·obtain rfl:=hiv j u hu huv;rw[huv,SX hvn]at hz;rw[<- Option.some.inj hz];unfold yt;rw[<- L.cd j v x hpv hx,<- hpw.1,<- hpw.2,<- hPk,hR,hrD];rfl
       ·rw[S3 (by omega)]at hz;have:j≠i:=fun h=>by
         rw[h,hpv]at hu;exact huv (by have:=Option.some.inj hu;omega)
        exact L.eq j u z (by omega) hu hz
      ·by_cases huv:u=v
       ·obtain rfl:=hiv j u hu huv;rw[huv,SX hvn]at hz;rw[<- Option.some.inj hz];exact L.cd j v x hpv hx
       ·rw[S3 (by omega)]at hz;exact L.cd j u z hu hz
      ·rw[hFe.2.1 id (by omega) h2,hFm.2.1 id (by omega) h2];exact zO id h1 h2
      ·rw[hFe.2.2,Px (y:=⟨x.card,l,rows⟩) hx rfl hrne,hC1]
  ·obtain rfl:i=n:=(by omega);simp only[go_sem,e2,e3,e4,e10,hb,m1,m3];have hnl:=L.len;have hall:∀v:Nat,v<ns.length->(v:Int)∈P:=fun v hv=>by rw[hP];exact vb ord i v (by omega)
   have hdn:∀(v:Nat) (x:NodeP),ns[v]?=some x->∃j,DoneN g cs P i j x:=fun v x hx=>by
    obtain⟨j,hj⟩:=SW.1 (hall v (get_lt hx));exact⟨j,L.done j v x (by have:=get_lt hj;have:=hperm.len;omega) hj hx⟩
   have hdm:∀x∈ns,∃j,DoneN g cs P i j x:=fun x hx=>by
    obtain⟨v,hv⟩:=SW.1 hx;exact hdn v x hv
   have ov:Over H (Hy.upd (H.next+1) (.arr 0 81 [.lit (.int .i64 g),.own (H.next+2) 0 0 i 3])):=⟨by rw[au];omega,fun id h=>by rw[ae,SI (by omega),hF.2.1 id (by omega) (by omega)];exact o1.old id h⟩
   have hz:cj ns=aF ns:=Po fun x hx=>(hdm x hx).elim fun j hj=>hj.ne;have hcl8:∀x∈ns,2<=x.card/\x.card<=3:=fun x hx=>hc23 x.card (by rw[<- L.cards];exact SY.2 ⟨x,hx,rfl⟩);have hnet:NetOk g ns:=by
    refine⟨hg1,by omega,fun x hx=>?_,?_,CS (P:=P) (by rw[hnl];exact hperm) hall fun j v x hj hx q hq=>?_,fun x hx=>?_⟩
    ·obtain⟨j,hj⟩:=hdm x hx;have:=hcl8 x hx;exact⟨by omega,by rw[hnl];exact hj.pl⟩
    ·have h2:=(nL (b:=3) (by omega) (l:=ak ns) fun c hc=>by have:=hc23 c (by rw[<- L.cards];exact hc);omega).2;have h3:(3:Int) ^ (ak ns).length<=3 ^ 5:=by
      have:(3:Nat) ^ (ak ns).length<=3 ^ 5:=Te (by decide) (by rw[cC];omega)
      exact_mod_cast this
     omega
    ·have hd:=L.done j v x (by have:=get_lt hj;have:=hperm.len;omega) hj hx;exact⟨(hd.pl.2 q hq).1,hd.rk q hq⟩
    ·obtain⟨j,hj⟩:=hdm x hx;unfold fO aP;rw[L.cards];exact⟨hj.rl,hj.ro⟩
   rw[<- hnl];rw[<- hnl]at ov;refine ar.mk ov.next (hK g ns (H.next+2) _ ov (by omega) (by rw[au];omega) ?_ hnet (by omega) (fun x hx=>?_) (fun x hx=>?_) ⟨hg.symm,by rw[hnl];exact hn.symm,by rw[L.cards,hnl,<- hP];exact fun j v x hj hx=>L.eq j v x (by have:=get_lt hj;have:=hperm.len;omega) hj hx,by rw[hnl,<- hP];exact L.cd⟩)
   ·rw[ae,SI (by omega),hF.2.2,hz]
   ·obtain⟨j,hj⟩:=hdm x hx;exact hj.p3
   ·have:=hc23 x.card (by rw[<- L.cards];unfold ak;exact List.mem_map_of_mem hx);omega
theorem PA (g0:Int)(ps:List DrP)(ord:List Int)(hg0:U8 g0)(hps:∀x∈ps,x.Ok)(hpl:(ps.length:Int)<2 ^ 63)(hol:(ord.length:Int)<2 ^ 63)(ho8:∀x∈ord,U8 x)(H:AHeap)(K:ARes->AHeap->Prop)
  (hK:∀g ns N H',Over H H'->H.next<=N->N<H'.next->H'.get N=some (.arr 0 87 (aF ns))->NetOk g ns->ns.length<=5->(∀x∈ns,x.parents.length<=3)->(∀x∈ns,2<=x.card)->K (.ret (.agg [aa g,.own N 0 0 ns.length 3])) H'):
  ag prog G0 30 [uY g0 ps ord] H K:=Pz g0 ps ord hg0 hps hpl hol ho8 H K fun g ns N H' a b c d e f h i _=>hK g ns N H' a b c d e f h i
theorem PB (g0:Int)(ps:List DrP)(ord:List Int)(hg0:U8 g0)(hps:∀x∈ps,x.Ok)(hpl:(ps.length:Int)<2 ^ 63)(hol:(ord.length:Int)<2 ^ 63)(ho8:∀x∈ord,U8 x)(H:AHeap)(K:ARes->AHeap->Prop)
  (hK:∀g ns N H',Over H H'->H.next<=N->N<H'.next->H'.get N=some (.arr 0 87 (aF ns))->NetOk g ns->ns.length<=5->(∀x∈ns,x.parents.length<=3)->K (.ret (.agg [aa g,.own N 0 0 ns.length 3])) H'):
  ag prog G0 30 [uY g0 ps ord] H K:=PA g0 ps ord hg0 hps hpl hol ho8 H K fun g ns N H' a b c d e f h _=>hK g ns N H' a b c d e f h
theorem ve (s v:Nat)(hs:s<2 ^ 64)(H:AHeap)(K:ARes->AHeap->Prop)(hK:K (.ret (.lit (.bool (s.testBit v)))) H):ag prog G0 41 [bP s,aa v] H K:=by
 refine ag.st (n:=10) (rs:=[.tmp 4]) func41 ?_;have s1:=fun t x y=>mb (P:=prog) (t:=t) (x:=x) (y:=y) (k':=.i64) (s:=v) hs;have s2:=fun t x y=>oB (P:=prog) (t:=t) (x:=x) (y:=y) (s:=v) hs;cases hb:s.testBit v
 ·rw[hb]at hK;simp only[go_sem,s1,s2,hb];exact ar.mk (Nat.le_refl _) hK
 ·rw[hb]at hK;simp only[go_sem,s1,s2,hb];exact ar.mk (Nat.le_refl _) hK
def eU (s n:Nat):List Int:=((List.range n).filter fun v=>s.testBit v).map fun (v:Nat)=>(v:Int)
theorem PC (s n:Nat):eU s (n+1)=if s.testBit n=true then eU s n++[(n:Int)] else eU s n:=by
 unfold eU;rw[TZ,List.filter_append,Tq];by_cases h:s.testBit n=true
 ·rw[SK h];simp[h]
 ·rw[SI h];simp[h]
theorem qw {s n:Nat}{q:Int}:q∈eU s n↔∃v:Nat,q=v/\v<n/\s.testBit v=true:=by
 unfold eU;simp only[SY,List.mem_filter,Tn];exact⟨fun ⟨v,⟨h1,h2⟩,h3⟩=>⟨v,h3.symm,h1,h2⟩,fun ⟨v,h1,h2,h3⟩=>⟨v,⟨h2,h3⟩,h1.symm⟩⟩
theorem PD (s n:Nat):(eU s n).Pairwise (·<·):=by
 unfold eU;refine List.Pairwise.map _ (R:=(·<·)) (fun a b h=>by omega) ?_;exact List.Pairwise.filter _ List.pairwise_lt_range
theorem CU (s n:Nat):(eU s n).length<=n:=by
 unfold eU;rw[SM];exact Tt (V3 _ _) (by simp)
theorem CV (s:Nat)(hs:s<2 ^ 64)(H:AHeap)(K:ARes->AHeap->Prop)(hK:K (.ret (af (eU s 8))) H):ag prog G0 33 [bP s] H K:=by
 refine ag.clo ⟨_,func33,rfl,rfl⟩ fun hcl=>?_;refine ag.st (n:=17) (rs:=[.tmp 2]) func33 ?_;simp only[go_sem];refine W.aG 65528 (by rfl) (fun ρ H'=>∃k:Nat,ρ 4=aa k/\k<=8/\Over H H'/\ay H.next H' 3 (ρ 3) (ints (eU s k))) (fun ρ H=>8-(iv (ρ 4)).toNat) ?_ ?_
 ·simp only[go_sem];exact⟨0,rfl,by omega,.refl _,.nil⟩
 rintro ρ H' ⟨k,h4,hk,ov,h3⟩;refine W.en (fun E=>E 0=bP s /\ E 3=ρ 3 /\ E 4=aa k) (by simp only[go_sem,h4]) fun E ⟨e0,e3,e4⟩=>?_
 refine W.vs ?_;by_cases hb:(k:Int)<8
 ·have w1:=SF ((k:Int)+1) (by omega);have hbl:=CU s k;have hsu:=PC s k;simp only[go_sem,e0,e4,hb];refine aw.clo (ve s k hs _ _ ⟨trivial,?_⟩);by_cases hbit:s.testBit k=true
  ·obtain⟨v',H2,hA,ov2,hO,hn2,_⟩:=jk (k:Int) ov h3 (by omega);rw[SK hbit]at hsu;simp only[go_sem,e3,e4,hbit,w1,hA];exact⟨by have:=ov2.next;omega,⟨k+1,rfl,by omega,ov2,by rw[hsu];exact hO⟩,by rw[h4];simp only[aa,aM];omega⟩
  ·rw[SI hbit]at hsu;have hbf:s.testBit k=false:=(by simpa using hbit);simp only[go_sem,e3,e4,hbf,w1];exact⟨ov.next,⟨k+1,rfl,by omega,ov,by rw[hsu];exact h3⟩,by rw[h4];simp only[aa,aM];omega⟩
 ·obtain rfl:k=8:=by omega
  simp only[go_sem,e3,e4];exact ar.aV aE hcl ov (h3.dG fun i hi=>hi) hK
def CW:AVal->Nat
 |.own _ _ _ n _=>n
 |_=>0
theorem CX {lo:Nat}{H:AHeap}{e:TypeId}{v:AVal}{cs:List AVal}(h:ay lo H e v cs):CW v=cs.length:=by
 rcases h with ⟨rfl,rfl⟩|⟨_,_,_,_,rfl,_⟩<;>rfl
def vf (d:InfP):List AVal:=[.lit (.int .i64 d.grain),.vec d.nodes.length (aY d.nodes),.lit (.int .u64 (d.decs:Int)),.vec d.utils.length (aO d.utils)]
def sI (d:InfP):AVal:=.agg (vf d)
def gG (d:InfP)(cs:List AVal):List AVal:=[.lit (.int .i64 d.grain),.vec d.nodes.length cs,.lit (.int .u64 (d.decs:Int)),.vec d.utils.length (aO d.utils)]
def dw (d:InfP)(cs:List AVal):AVal:=.agg (gG d cs)
theorem im (d:InfP)(cs:List AVal):dw d cs=.agg (gG d cs):=rfl
theorem CY (d:InfP):sI d=.agg (vf d):=rfl
theorem vg (d:InfP)(cs:List AVal)(hd:d.decs<2 ^ 64)(hl:(d.nodes.length:Int)<2 ^ 39)(H:AHeap)(K:ARes->AHeap->Prop)(hK:K (.ret (af (aW (az d)))) H):ag prog G0 79 [dw d cs] H K:=by
 refine ag.clo ⟨_,func79,rfl,rfl⟩ fun hcl=>?_;refine ag.st (n:=21) (rs:=[.tmp 2]) func79 ?_;simp only[go_sem,im,gG];obtain⟨H1,hH1⟩:∃H1,H1=ext H [.arr 0 38 [.lit (.int .i64 d.grain),.vec d.nodes.length cs,.lit (.int .u64 (d.decs:Int)),.vec d.utils.length (aO d.utils)]]:=⟨_,rfl⟩
 have l1:=ah (show H1.get H.next=some (.arr 0 38 [.lit (.int .i64 d.grain),.vec d.nodes.length cs,.lit (.int .u64 (d.decs:Int)),.vec d.utils.length (aO d.utils)]) by rw[hH1];exact cq ..);have n1:H1.next=H.next+1:=hH1▸rfl
 have o1:Over H H1:=hH1▸.ext _ _
 rw[<- hH1];refine W.aG 1048568 (by rfl) (fun ρ H'=>∃k:Nat,ρ 4=aa k/\k<=d.nodes.length/\Over H1 H'/\ay H1.next H' 3 (ρ 3) (ints (aW (dO d.decs k)))) (fun ρ H=>d.nodes.length-(iv (ρ 4)).toNat) ?_ ?_
 ·simp only[go_sem];exact⟨0,rfl,by omega,.refl _,.nil⟩
 rintro ρ H' ⟨k,h4,hk,ov,h3⟩;refine W.en (fun E=>E 1=.ptr H.next 0 0 /\ E 3=ρ 3 /\ E 4=aa k) (by simp only[go_sem,h4]) fun E ⟨e1,e3,e4⟩=>?_
 refine W.vs ?_;have l2:=(ov.live (g:=0) (by omega:H.next<H1.next)).trans l1;by_cases hb:(k:Int)<d.nodes.length
 ·have w1:=SF ((k:Int)+1) (by omega);have hbl:(aW (dO d.decs k)).length<=k:=by simp only[aW,SM];exact fY
  have hsu:=uI d.decs k;simp only[go_sem,e1,e4,l2,hb];refine aw.clo (ve d.decs k hd _ _ ⟨trivial,?_⟩);by_cases hbit:d.decs.testBit k=true
  ·obtain⟨v',H2,hA,ov2,hO,hn2,_⟩:=jk (k:Int) ov h3 (by omega);rw[SK hbit]at hsu;simp only[go_sem,e3,e4,hbit,w1,hA];exact⟨ov2.next,⟨k+1,rfl,by omega,ov2,by rw[hsu,show aW (dO d.decs k++[k])=aW (dO d.decs k)++[(k:Int)] by simp[aW]];exact hO⟩,by rw[h4];simp only[aa,aM];omega⟩
  ·rw[SI hbit]at hsu;have hbf:d.decs.testBit k=false:=(by simpa using hbit);simp only[go_sem,e3,e4,hbf,w1];exact⟨ov.next,⟨k+1,rfl,by omega,ov,by rw[hsu];exact h3⟩,by rw[h4];simp only[aa,aM];omega⟩
 ·have hke:k=d.nodes.length:=by omega
  rw[hke]at h3;simp only[go_sem,e1,e3,e4,l2,hb];exact ar.aV aE hcl (o1.trans ov) (h3.dG fun i hi=>by omega) hK
theorem PG (g:Int)(ns:List NodeP)(hl:(ns.length:Int)<2 ^ 39)(hp:∀x∈ns,(x.parents.length:Int)<2 ^ 39/\∀q∈x.parents,0<=q/\q<64)(H:AHeap)(K:ARes->AHeap->Prop)
  (hK:∀v H',Over H H'->ay H.next H' 35 v ((bj ns).map bP)->K (.ret v) H'):ag prog G0 32 [bL g ns] H K:=by
 refine ag.clo ⟨_,func32,rfl,rfl⟩ fun hcl=>?_;refine ag.st (n:=43) (rs:=[.tmp 2]) func32 ?_;simp only[go_sem,bL,cE];obtain⟨H1,hH1⟩:∃H1,H1=ext H [.arr 0 81 [.lit (.int .i64 g),.vec ns.length (aF ns)]]:=⟨_,rfl⟩
 have l1:H1.live H.next 0=some (81,[.lit (.int .i64 g),.vec ns.length (aF ns)]):=by rw[hH1];exact ah (cq ..)
 have n1:H1.next=H.next+1:=hH1▸rfl
 have o1:Over H H1:=hH1▸.ext _ _
 rw[<- hH1];refine W.aG 4398046511096 (by rfl) (fun ρ H'=>∃k:Nat,ρ 4=aa k/\k<=ns.length/\ρ 1=.ptr H.next 0 0/\Over H1 H'/\ay H1.next H' 35 (ρ 3) (((bj ns).take k).map bP)) (fun ρ H=>ns.length-(iv (ρ 4)).toNat) ?_ ?_
 ·simp only[go_sem];exact⟨0,rfl,by omega,.refl _,.nil⟩
 rintro ρ H' ⟨k,h4,hk,h1,ov,h3⟩;refine W.vs ?_;have l2:=(ov.live (g:=0) (by omega:H.next<H1.next)).trans l1;by_cases hb:(k:Int)<ns.length
 ·obtain⟨x,hx⟩:=get_of_lt (l:=ns) (i:=k) (by omega);have hne:=dJ hx;have e1:=jY hx;obtain⟨xl,xr⟩:=hp x (SE hx);simp only[go_sem,h4,h1,l2,hb];refine W.aG 274877890656 (by rfl) (fun ρ' H2=>H2=H'/\∃j:Nat,ρ' 6=aa j/\j<=x.parents.length/\ρ' 5=bP (cS (x.parents.take j))) (fun ρ' H=>x.parents.length-(iv (ρ' 6)).toNat) ?_ ?_
  ·simp only[go_sem];exact⟨0,rfl,by omega,rfl⟩
  rintro ρ' H2 ⟨rfl,j,h6,hj,h5⟩;refine W.vs ?_;by_cases hb2:(j:Int)<x.parents.length
  ·obtain⟨q,hq⟩:=get_of_lt (l:=x.parents) (i:=j) (by omega);obtain⟨q0,q1⟩:=xr q (SE hq);obtain⟨u,rfl⟩:=SR q0;have hne2:=aJ hq;have w1:=Ue (u:Int) (by omega);have w2:=SF ((j:Int)+1) (by omega);have b1:cS (x.parents.take j)<2 ^ 64:=sy fun p hp=>by have:=xr p (S8 hp);omega
   have s1:=fun t x y=>py (P:=prog) (t:=t) (x:=x) (y:=y) (k':=.u64) (s:=u) (by omega);have s2:=fun t x y=>ma (P:=prog) (t:=t) (x:=x) (y:=y) (b:=2 ^ u) b1 (Ui (by decide) (by omega));simp only[go_sem,h4,h1,l2,hb,hne,e1,h6,h5,hb2,hq,hne2,w1,w2,s1,s2];exact⟨⟨j+1,by simp,by omega,by rw[aL hq,xY];rfl⟩,by omega⟩
  ·obtain⟨v',H3,hA,ov2,hO,hn2,_⟩:=DA (cS x.parents) ov h3 (by simp[bj];omega);have w1:=SF ((k:Int)+1) (by omega);rw[SH (by omega)]at h5;simp only[go_sem,h4,h1,l2,hb,hne,e1,h6,h5,hb2,w1,hA];refine⟨by have:=ov2.next;omega,⟨k+1,by simp,by omega,ov2,?_⟩,by omega⟩;rw[aL (mO hx)];exact hO
 ·simp only[go_sem,h4,h1,l2,hb];rw[SH (by simp[bj];omega)]at h3;exact ar.mk (o1.trans ov).next (hK _ _ (o1.trans ov) (h3.keep (by omega) (Nat.le_refl _) fun _ _ _ _ _ _=>rfl))
theorem PH (ps:List Nat)(hl:ps.length<=60)(hp:∀p∈ps,p<2 ^ 64)(r:List Nat)(htp:fJ ps=some r)(H:AHeap)(K:ARes->AHeap->Prop)(hK:∀v H',Over H H'->ay H.next H' 3 v (ints (aW r))->K (.ret v) H'):ag prog G0 78 [iq ps] H K:=by
 refine ag.clo ⟨_,func78,rfl,rfl⟩ fun hcl=>?_;refine ag.st (n:=40) (rs:=[.tmp 2]) func78 ?_;simp only[go_sem];refine W.aG 549755813880 (by rfl) (fun ρ H'=>∃(out:List Nat) (done:Nat),ρ 4=bP done/\done<2 ^ 64/\out.length<=ps.length/\Over H H'/\ay H.next H' 3 (ρ 3) (ints (aW out))/\iL ps (ps.length-out.length) out done=some r) (fun ρ H=>ps.length-CW (ρ 3)) ?_ ?_
 ·simp only[go_sem];exact⟨[],0,rfl,by decide,by simp,.refl _,.nil,htp⟩
 rintro ρ H' ⟨out,done,h4,hd,ho,ov,h3,ht⟩;refine W.en (fun E=>E 0=iq ps /\ E 3=ρ 3 /\ E 4=bP done) (by simp only[go_sem,h4]) fun E ⟨e0,e3,e4⟩=>?_
 refine W.vs ?_;have hlen:=va h3 (d:=some (.slice 3)) rfl;have hol:=CX h3;have nl:(aW out).length=out.length:=by simp[aW]
 rw[pY,aH,nl]at hlen;rw[aH,nl]at hol;by_cases hb:(out.length:Int)<ps.length
 ·simp only[go_sem,e0,e3,hlen,hb];have hk1:ps.length-out.length=(ps.length-(out.length+1))+1:=by omega
  refine W.aG 549755811896 (by rfl) (fun ρ2 H2=>H2=H'/\∃j:Nat,ρ2 5=aa j/\j<=ps.length/\ρ2 3=ρ 3/\ρ2 4=bP done/\∀v,v<j->jI ps done v=false) (fun ρ2 H=>ps.length-(iv (ρ2 5)).toNat) ?_ ?_
  ·simp only[go_sem,e3,e4];exact⟨0,rfl,by omega,fun v h=>absurd h (S4 _)⟩
  rintro ρ2 H2 ⟨rfl,j,h5,hj,h3',h4',hno⟩;refine W.en (fun E2=>E2 0=iq ps /\ E2 3=ρ 3 /\ E2 4=bP done /\ E2 5=aa j) (by simp only[go_sem,e0,h3',h4',h5]) fun E2 ⟨f0,f3,f4,f5⟩=>?_
  refine W.vs ?_;by_cases hb2:(j:Int)<ps.length
  ·obtain⟨p,hpj⟩:=get_of_lt (l:=ps) (i:=j) (by omega);have hpj':(ps.map bP)[j]?=some (bP p):=(by rw[List.getElem?_map,hpj];rfl);have hne:=aJ hpj';have s3:=fun t x y=>zf (P:=prog) (t:=t) (x:=x) (y:=y) (a:=p) (b:=done);have w1:=SF ((j:Int)+1) (by omega);have w2:=Ue (j:Int) (by omega);have cont:jI ps done j=false->∀v,v<j+1->jI ps done v=false:=fun h v hv=>by
    rcases S9 v j with h'|h'
    ·exact hno v h'
    ·obtain rfl:v=j:=(by omega);exact h
   have fe:jI ps done j=(!done.testBit j && decide (iT p done=0)):=(by unfold jI;rw[bp hpj]);simp only[go_sem,f0,f4,f5,hb2];refine aw.clo (yH done j hd (by omega) _ _ ⟨trivial,?_⟩);cases hbit:done.testBit j;rotate_left
   ·simp only[go_sem,f3,f4,f5,w1];exact⟨⟨j+1,rfl,by omega,cont (by rw[fe,hbit];rfl)⟩,by rw[h5];simp only[aa,aM];omega⟩
   by_cases hz:iT p done=0;rotate_left
   ·have hz':¬((iT p done:Nat):Int)=0:=(by omega);simp only[go_sem,f0,f3,f4,f5,hb2,hpj',hne,s3,hz',w1];exact⟨⟨j+1,rfl,by omega,cont (by rw[fe,hbit];simp[hz])⟩,by rw[h5];simp only[aa,aM];omega⟩
   have hz':((iT p done:Nat):Int)=0:=(by omega);have hnx:kP ps done=some j:=DG (by omega) hno (by rw[fe,hbit];simp[hz]);obtain⟨v',H3,hA,ov2,hO,hn2,_⟩:=jk (j:Int) ov h3 (by simp[aW];omega);have b2:(2:Nat) ^ j<2 ^ 64:=Ui (by decide) (by omega);have s4:=fun t x y=>py (P:=prog) (t:=t) (x:=x) (y:=y) (k':=.u64) (s:=j) (by omega);have s5:=fun t x y=>ma (P:=prog) (t:=t) (x:=x) (y:=y) hd b2;simp only[go_sem,f0,f3,f4,f5,hb2,hpj',hne,s3,s4,s5,hz',w2,hA];have hO':ay H.next H3 3 v' (ints (aW (out++[j]))):=by
    have e:aW (out++[j])=aW out++[(j:Int)]:=(by simp[aW]);rw[e];exact hO
   have hol':=CX hO';have nl':(aW (out++[j])).length=out.length+1:=(by simp[aW]);rw[aH,nl']at hol';refine⟨ov2.next,⟨out++[j],done |||2 ^ j,rfl,UU hd b2,by simp;omega,ov2,hO',?_⟩,by rw[hol,hol'];omega⟩;rw[<- ht,hk1]
   conv=>rhs;unfold iL
   rw[hnx,List.length_append];rfl
  ·have hnn:kP ps done=none:=DH fun v hv=>hno v (by omega);rw[hk1]at ht;unfold iL at ht;rw[hnn]at ht;cases ht
 ·simp only[go_sem,e0,e3,hlen,hb];have e:ps.length-out.length=0:=by omega
  rw[e]at ht;unfold iL at ht;cases ht;exact ar.mk ov.next (hK _ _ ov h3)
theorem PI {lo:Nat}{H:AHeap}{e:TypeId}{v:AVal}{l:List Nat}(h:ay lo H e v (l.map bP)):Fresh H v (iq l):=by
 rcases h with ⟨rfl,h⟩|⟨id,g,h1,h2,rfl,h4⟩
 ·have:l=[]:=by cases l with
   |nil=>rfl
   |cons a l=>simp at h
  subst this;exact .nil
 ·have e:iq l=.vec (l.map bP).length (l.map bP):=by rw[SM];rfl
  rw[e];refine .own h4 (by simp) fun j hj h2 h'=>?_;simp only[Nat.zero_add,SV];exact .lit _
theorem PJ (g:Int)(ns:List NodeP)(hl:ns.length<=8)(hp:∀x∈ns,(x.parents.length:Int)<2 ^ 39/\∀q∈x.parents,0<=q/\q<(ns.length:Int))(r:List Nat)(htp:fJ (bj ns)=some r)(H:AHeap)(K:ARes->AHeap->Prop)
  (hK:∀v H',Over H H'->ay H.next H' 3 v (ints (aW r))->K (.ret v) H'):ag prog G0 31 [bL g ns] H K:=by
 have hsl:(bj ns).length=ns.length:=by simp[bj]
 have hs64:∀p∈bj ns,p<2 ^ 64:=fun p h=>S1 (vE (n:=ns.length) (fun x hx q hq=>(hp x hx).2 q hq) p h) (Te (by decide) (by omega));refine ag.st (n:=6) (rs:=[.tmp 2]) func31 ?_;simp only[go_sem,bL,cE];refine aw.clo (DB g ns (by omega) (fun x hx=>⟨(hp x hx).1,fun q hq=>by have:=(hp x hx).2 q hq;omega⟩) _ _ ⟨trivial,?_⟩);simp only[go_sem];refine aw.clo (PH (bj ns) (by omega) hs64 r htp _ _ fun v H' ov ho=>⟨trivial,?_⟩);simp only[go_sem];have o1:Over H H':=(Over.ext _ _).trans ov;exact ar.mk o1.next (hK _ _ o1 (ho.keep (by simp[aS]) (Nat.le_refl _) fun _ _ _ _ _ _=>rfl))
structure UtD where
 vars:Int
 w:List Int
def I8 (n:Int):Prop:=-128<=n/\n<128
def pf (l:List Int):List AVal:=l.map fun n=>.lit (.int .i8 n)
theorem PE {l:List Int}{k:Nat}{a:Int}(h:l[k]?=some a):(pf l)[k]?=some (.lit (.int .i8 a)):=by unfold pf;rw[List.getElem?_map,h];rfl
def UtD.cells (x:UtD):List AVal:=[.lit (.int .u8 x.vars),.vec x.w.length (pf x.w)]
def UtD.Ok (x:UtD):Prop:=U8 x.vars/\(x.w.length:Int)<2 ^ 63/\∀b∈x.w,I8 b
def vh (p:Int)(k:Nat):Bool:=decide (IntKind.u8.wrap (((BitVec.ofInt IntKind.u8.bits (p.fdiv (2 ^ (min ((k:Int)).toNat IntKind.u8.bits))) &&& BitVec.ofInt IntKind.u8.bits 1).toNat:Nat):Int)=1)
def ea (p:Int):Nat->List Int
 |0=>[]
 |v+1=>if vh p v=true/\(ea p v).length<3 then ea p v++[(v:Int)] else ea p v
theorem vj (p:Int):∀n:Nat,(ea p n).Pairwise (·<·)/\(∀q∈ea p n,0<=q/\q<n)/\(ea p n).length<=3
 |0=>⟨by simp[ea],by simp[ea],by simp[ea]⟩
 |n+1=>by
  obtain⟨h1,h2,h3⟩:=vj p n;unfold ea;split
  ·rename_i h;refine⟨Uy.2 ⟨h1,by simp,fun a ha b hb=>by obtain rfl:=List.mem_singleton.1 hb;exact(h2 a ha).2⟩,fun q hq=>?_,by simp;omega⟩;rcases S5.1 hq with h4|h4
   ·have:=h2 q h4;omega
   ·obtain rfl:=List.mem_singleton.1 h4;omega
  ·exact⟨h1,fun q hq=>by have:=h2 q hq;omega,h3⟩
def fC (p:UtD)(ns:List NodeP):UtilP:=⟨ea p.vars ns.length,(List.range (ao (aI (ak ns) (ea p.vars ns.length))).toNat).map fun (i:Nat)=>if p.w.length=0 then 0 else (p.w.getD (i % p.w.length) 0).tmod 101⟩
theorem PF (p:UtD)(ns:List NodeP)(hc:∀x∈ns,1<=x.card):UtilOk ns (fC p ns):=by
 obtain⟨h1,h2,h3⟩:=vj p.vars ns.length;refine⟨⟨h1,h2⟩,?_,fun x hx=>?_⟩
 ·have hp:1<=ao (aI (ak ns) (ea p.vars ns.length)):=eD fun c h=>by
   unfold aI at h;obtain⟨q,hq,rfl⟩:=SY.1 h;have:=h2 q hq;obtain⟨x,hx⟩:=get_of_lt (l:=ns) (i:=q.toNat) (by omega);rw[bp (dm hx)];exact hc x (SE hx)
  show ((List.map _ _).length:Int)=ao (aI (ak ns) (ea p.vars ns.length));rw[SM,TK];omega
 ·unfold fC at hx;obtain⟨i,_,rfl⟩:=SY.1 hx;split
  ·omega
  ·have h:=VO (p.w.getD (i % p.w.length) 0) 101;have h2:=U0 (p.w.getD (i % p.w.length) 0).natAbs (show (101:Int).natAbs > 0 by decide);have h3:(101:Int).natAbs=101:=rfl;rw[h3]at h h2;omega
theorem PK (p:UtD)(hp:p.Ok)(g:Int)(ns:List NodeP)(h5:1<=ns.length/\ns.length<=8)(hc:∀x∈ns,1<=x.card/\x.card<=4)(H:AHeap)(K:ARes->AHeap->Prop)
  (hK:∀v1 v2 H',Over H H'->ay H.next H' 3 v1 (ints (fC p ns).vars)->ay H.next H' 3 v2 (ints (fC p ns).w)->K (.ret (.agg [v1,v2])) H'):ag prog G0 34 [.agg p.cells,bL g ns] H K:=by
 refine ag.st (n:=70) (rs:=[.cell 4 90]) func34 ?_;simp only[go_sem,bL,cE,UtD.cells];obtain⟨H1,hH1⟩:∃H1,H1=ext H [.arr 0 93 [.lit (.int .u8 p.vars),.vec p.w.length (pf p.w)],.arr 0 81 [.lit (.int .i64 g),.vec ns.length (aF ns)],.arr 0 90 [.lit (.slice none 0 0),.lit (.slice none 0 0)],.arr 0 90 [.lit (.slice none 0 0),.lit (.slice none 0 0)]]:=⟨_,rfl⟩
 have g0:=df hH1
 have g1:=gE hH1 1 rfl
 have g2:=gE hH1 2 rfl
 have g3:=gE hH1 3 rfl
 have n1:H1.next=H.next+4:=hH1▸rfl
 have o1:Over H H1:=hH1▸.ext _ _
 rw[<- hH1];clear hH1;obtain⟨cs,hcs⟩:∃cs,cs=ak ns:=⟨_,rfl⟩
 have smk:∀k,k<=ns.length->cY (aI cs (ea p.vars k)):=fun k hk=>by
  obtain⟨h1,h2,h3⟩:=vj p.vars k;refine ki (by rw[gJ];omega) fun c h=>?_;unfold aI at h;obtain⟨q,hq,rfl⟩:=SY.1 h;have:=h2 q hq;obtain⟨x,hx⟩:=get_of_lt (l:=ns) (i:=q.toNat) (by omega);rw[hcs,bp (dm hx)];exact hc x (SE hx)
 refine W.aG 8796093021376 (by rfl) (fun ρ Hx=>∃(k:Nat) (v1:AVal),ρ 7=aa k/\k<=ns.length/\ρ 6=aa (ao (aI cs (ea p.vars k)))/\H1.next<=Hx.next/\(∀id,id<H1.next->id≠H.next+3->Hx.get id=H1.get id)/\Hx.get (H.next+3)=some (.arr 0 90 [v1,.lit (.slice none 0 0)])/\ay H1.next Hx 3 v1 (ints (ea p.vars k))) (fun ρ H=>ns.length-(iv (ρ 7)).toNat) ?_ ?_
 ·simp only[go_sem];exact⟨0,_,rfl,by omega,rfl,g3,.nil⟩
 rintro ρ Hx ⟨k,v1,h7,hk,h6,hnx,hold,hu,hO⟩;refine W.en (fun E=>E 2=.ptr H.next 0 0 /\ E 3=.ptr (H.next+1) 0 0 /\ E 4=.ptr (H.next+2) 0 0 /\ E 5=.ptr (H.next+3) 0 0 /\ E 6=aa (ao (aI cs (ea p.vars k))) /\ E 7=aa k) (by simp only[go_sem,h6,h7]) fun E ⟨e2,e3,e4,e5,e6,e7⟩=>?_
 refine W.vs ?_;have l0:=ah ((hold _ (by omega) (by omega)).trans g0);have l1:=ah ((hold _ (by omega) (by omega)).trans g1);have l3:=ah hu;by_cases hb:(k:Int)<ns.length
 ·obtain⟨x,hx⟩:=get_of_lt (l:=ns) (i:=k) (by omega);have hne:=dJ hx;have c0:=iJ hx;have w1:=SF ((k:Int)+1) (by omega);obtain⟨r1,hr1⟩:∃r1,p.vars.fdiv (2 ^ (min ((k:Int)).toNat IntKind.u8.bits))=r1:=⟨_,rfl⟩
  obtain⟨r2,hr2⟩:∃r2,IntKind.u8.wrap (((BitVec.ofInt IntKind.u8.bits r1 &&& BitVec.ofInt IntKind.u8.bits 1).toNat:Nat):Int)=r2:=⟨_,rfl⟩
  have s1:∀t o1 o2,bx prog .shr t o1 o2 (.lit (.int .u8 p.vars)) (.lit (.int .i64 (k:Int)))=some (.lit (.int .u8 r1)):=fun t o1 o2=>by rw[tq (by omega),hr1]
  have s2:∀t o1 o2,bx prog .and t o1 o2 (.lit (.int .u8 r1)) (.lit (.int .u8 1))=some (.lit (.int .u8 r2)):=fun t o1 o2=>by rw[tt,hr2]
  have hb8:vh p.vars k=decide (r2=1):=by unfold vh;rw[hr1,hr2]
  have hlen:=va hO (d:=some (.slice 3)) rfl;rw[pY,aH]at hlen;obtain⟨u1,u2,u3⟩:=vj p.vars k;have hstep:ea p.vars (k+1)=if vh p.vars k=true/\(ea p.vars k).length<3 then ea p.vars k++[(k:Int)] else ea p.vars k:=rfl
  by_cases hr:r2=1
  ·by_cases h3:((ea p.vars k).length:Int)<3
   ·rw[SK ⟨by rw[hb8,Tm hr],by omega⟩]at hstep;obtain⟨v',H3,hA,hO3,hn3,hp3⟩:=fW (P:=prog) (H:=Hx) (t:=42) (x:=aa k) (n:=Hx.next+1) Tryz.underlying42 Tryz.dz Tryz.dH rfl (by rw[Tryz.dL,aH];omega) hO hnx rfl;simp only[aa]at hA;have keep:∀id,id<H1.next->H3.get id=Hx.get id:=fun id h=>hp3 id (by omega) (hO.ne h);have l1j:=ah ((keep _ (by omega)).trans ((hold _ (by omega) (by omega)).trans g1));have l3j:=ah ((keep _ (by omega)).trans hu);have hvc:=hO3.cells;have hvo:=hO3.one;have l1u:∀b,(H3.upd (H.next+3) b).live (H.next+1) 0=some (81,[.lit (.int .i64 g),.vec ns.length (aF ns)]):=fun b=>(bQ (by omega)).trans l1j;have hpr:ao (aI cs (ea p.vars (k+1)))=ao (aI cs (ea p.vars k))*x.card:=by
     rw[hstep];unfold aI;rw[Tq,hcs];show ao (_++[(ak ns).getD ((k:Int)).toNat 0])=_;rw[eQ,Int.toNat_natCast,bp (dm hx)]
    have hps:=(smk (k+1) (by omega)).prod;rw[hpr]at hps;have w2:=SF (ao (aI cs (ea p.vars k))*x.card) (by omega);simp only[go_sem,e2,e3,e5,e6,e7,l0,l1,l3,l3j,hb,s1,s2,hr,hlen,h3,w1,w2,hne,c0,hA,hvc,hvo,l1u];refine⟨by rw[au];omega,⟨k+1,v',rfl,by omega,by rw[hpr],by rw[au];omega,fun id h1 h2=>by rw[ae,SI h2,keep _ h1];exact hold id h1 h2,by rw[ae,SK rfl],?_⟩,by rw[h7];simp only[aa,aM];omega⟩;rw[hstep];have:=hO3.keep (lo':=H1.next) (H':=H3.upd (H.next+3) (.arr 0 90 [v',.lit (.slice none 0 0)])) (Nat.le_refl _) (Nat.le_refl _) fun id _ h1 _ _ _=>by rw[ae,SI (by omega)]
    simpa[ints,aa] using this
   ·rw[SI (by omega)]at hstep;simp only[go_sem,e2,e3,e5,e6,e7,l0,l1,l3,hb,s1,s2,hr,hlen,h3,w1];exact⟨hnx,⟨k+1,v1,rfl,by omega,by rw[hstep],hnx,hold,hu,by rw[hstep];exact hO⟩,by rw[h7];simp only[aa,aM];omega⟩
  ·rw[SI (by rw[hb8,TD hr];simp)]at hstep;simp only[go_sem,e2,e3,e6,e7,l0,l1,hb,s1,s2,hr,w1];exact⟨hnx,⟨k+1,v1,rfl,by omega,by rw[hstep],hnx,hold,hu,by rw[hstep];exact hO⟩,by rw[h7];simp only[aa,aM];omega⟩
 ·have hke:k=ns.length:=by omega
  simp only[go_sem,e3,e7,l1,hb];rw[hke]at hO e6;obtain⟨R,hR⟩:=SR (smk ns.length (by omega)).prod.1;have hR2:=(smk ns.length (by omega)).prod.2;rw[hR]at e6 hR2;have hwl:(fC p ns).w=(List.range R).map fun (i:Nat)=>if p.w.length=0 then 0 else (p.w.getD (i % p.w.length) 0).tmod 101:=by
   unfold fC;rw[<- hcs,hR];rfl
  have wget:∀(i:Nat) (x:Int),i<R->(if p.w.length=0 then 0 else (p.w.getD (i % p.w.length) 0).tmod 101)=x->(fC p ns).w[i]?=some x:=fun i x hi hx=>by
   rw[hwl,List.getElem?_map,Tc hi,Option.map_some,hx]
  have wlen:(fC p ns).w.length=R:=by rw[hwl];simp
  refine W.aG 590295801562612630272 (by rfl) (fun ρ H2=>∃(i:Nat) (v2:AVal),ρ 8=aa i/\i<=R/\Hx.next<=H2.next/\(∀id,id<Hx.next->id≠H.next+3->H2.get id=Hx.get id)/\H2.get (H.next+3)=some (.arr 0 90 [v1,v2])/\ay Hx.next H2 3 v2 (ints ((fC p ns).w.take i))) (fun ρ H=>R-(iv (ρ 8)).toNat) ?_ ?_
  ·simp only[go_sem];exact⟨0,_,rfl,by omega,hu,.nil⟩
  rintro ρ2 H2 ⟨i,v2,h8,hi,hn2,hold2,hu2,hO2⟩;refine W.en (fun E2=>E2 2=.ptr H.next 0 0 /\ E2 4=.ptr (H.next+2) 0 0 /\ E2 5=.ptr (H.next+3) 0 0 /\ E2 6=aa R /\ E2 8=aa i) (by simp only[go_sem,e2,e4,e5,e6,h8]) fun E2 ⟨f2,f4,f5,f6,f8⟩=>?_
  refine W.vs ?_;have o02:∀id,id<H1.next->id≠H.next+3->H2.get id=H1.get id:=fun id h1 h2=>(hold2 id (by omega) h2).trans (hold id h1 h2);have m0:=ah ((o02 _ (by omega) (by omega)).trans g0);have m3:=ah hu2;by_cases hb2:(i:Int)<R
  ·have w1:=SF ((i : Int)+1) (by omega);have hlen:=va hO2 (d:=some (.slice 3)) rfl;rw [pY,aH] at hlen;have tl : ((fC p ns).w.take i).length=i:=(by rw [SN,wlen];omega);have app : ∀ x : Int,(fC p ns).w[i]?=some x→∃ v' H3,bM prog (ext H2 [.arr 0 3 [.lit (.int .i64 x)]]) (H2.next+1) 42 42 v2 (.own H2.next 0 0 1 1)=some (v',H3)∧v'.cells=[v']∧v'.one=true∧H3.live (H.next+3) 0=some (90,[v1,v2])∧H2.next≤H3.next ∧
     ∀b,b=.arr 0 90 [v1,v']->(∀id,id<Hx.next->id≠H.next+3->(H3.upd (H.next+3) b).get id=Hx.get id)/\(H3.upd (H.next+3) b).get (H.next+3)=some (.arr 0 90 [v1,v'])/\ay Hx.next (H3.upd (H.next+3) b) 3 v' (ints ((fC p ns).w.take (i+1))):=fun x hx=>by
    obtain⟨v',H3,hA,hO3,hn3,hp3⟩:=fW (P:=prog) (H:=H2) (t:=42) (x:=aa x) (n:=H2.next+1) Tryz.underlying42 Tryz.dz Tryz.dH rfl (by rw[Tryz.dL,aH];omega) hO2 hn2 rfl;simp only[aa]at hA;have keep:∀id,id<Hx.next->H3.get id=H2.get id:=fun id h=>hp3 id (by omega) (hO2.ne h);refine⟨v',H3,hA,hO3.cells,hO3.one,ah ((keep _ (by omega)).trans hu2),hn3,fun b hb=>⟨fun id h1 h2=>by rw[ae,SI h2,keep _ h1];exact hold2 id h1 h2,by rw[ae,SK rfl,hb],?_⟩⟩;rw[aL hx];have:=hO3.keep (lo':=Hx.next) (H':=H3.upd (H.next+3) b) (Nat.le_refl _) (Nat.le_refl _) fun id _ h1 _ _ _=>by rw[ae,SI (by omega)]
    simpa[ints,aa] using this
   by_cases hz:(0:Int)<p.w.length
   ·have hzn:¬(p.w.length:Int)=0:=(by omega);have m1:(i:Int).tmod p.w.length=((i % p.w.length:Nat):Int):=(by rw[Ta (by omega)];rfl);have m2:=U0 i (show p.w.length > 0 by omega);obtain⟨q,hq⟩:∃q,q=i % p.w.length:=⟨_,rfl⟩
    rw[<- hq]at m1 m2;have hq0:(q:Int) >= 0:=(by omega);have hql:(q:Int)<p.w.length:=(by omega);obtain⟨b,hbg⟩:=get_of_lt (l:=p.w) (i:=q) m2;have b8:=hp.2.2 b (SE hbg);have hbg':=PE hbg;have hbne:=aJ hbg';unfold I8 at b8;have w4:IntKind.i64.wrap b=b:=SF _ (by omega);have tb:-9223372036854775808<=b.tmod 101/\b.tmod 101<9223372036854775808:=by
     have h:=VO b 101;have h2:=U0 b.natAbs (show (101:Int).natAbs > 0 by decide);have h3:(101:Int).natAbs=101:=rfl;rw[h3]at h h2;omega
    have w5:IntKind.i64.wrap (b.tmod 101)=b.tmod 101:=SF _ (by omega);obtain⟨v',H3,hA,hvc,hvo,l3,hn3,fin⟩:=app (b.tmod 101) (wget i _ (by omega) (by rw[SI (by omega),<- hq,bp hbg]));simp only[go_sem,f2,f6,f8,m0,hb2,hz];refine W.dr 7 [0,1,0,0,8,24,60] mixed ?_;simp only[go_sem,f2,f5,f8,m0,m3,hzn,m1,hq0,hql,hbg',hbne,w1,w4,hA,hvc,hvo,l3];refine⟨by rw[au];omega,⟨i+1,v',rfl,by omega,by rw[au];omega,(fin _ rfl).1,(fin _ rfl).2.1,(fin _ rfl).2.2⟩,by rw[h8];simp only[aa,aM];omega⟩
   ·have hzn:p.w.length=0:=(by omega);obtain⟨v',H3,hA,hvc,hvo,l3,hn3,fin⟩:=app 0 (wget i _ (by omega) (by rw[SK hzn]));simp only[go_sem,f2,f5,f6,f8,m0,m3,hb2,hz,w1,hA,hvc,hvo,l3];refine⟨by rw[au];omega,⟨i+1,v',rfl,by omega,by rw[au];omega,(fin _ rfl).1,(fin _ rfl).2.1,(fin _ rfl).2.2⟩,by rw[h8];simp only[aa,aM];omega⟩
  ·have hie:i=R:=(by omega);have m2:=ah ((o02 _ (by omega) (by omega)).trans g2);have hO1:ay H1.next H2 3 v1 (ints (ea p.vars ns.length)):=hO.keep (Nat.le_refl _) hn2 fun id _ h1 h3 _ _=>hold2 id h3 (by omega);have v1o:=hO1.one;have v2o:=hO2.one;have v1c:=hO1.cells;have v2c:=hO2.cells;rw[SH (by omega)]at hO2;simp only[go_sem,f4,f5,f6,f8,m2,m3,hb2,v1o,v2o];have k1:=hO1.keep (lo':=H.next) (H':=H2.upd (H.next+2) (.arr 0 90 [v1,v2])) (by omega) (by rw[au];omega) fun id _ h1 _ _ _=>by rw[ae,SI (by omega)]
   have k2:=hO2.keep (lo':=H.next) (H':=H2.upd (H.next+2) (.arr 0 90 [v1,v2])) (by omega) (by rw[au];omega) fun id _ h1 _ _ _=>by rw[ae,SI (by omega)]
   refine ar.mk (by rw[au];omega) (hK v1 v2 _ ⟨by rw[au];omega,fun id h=>?_⟩ k1 k2);rw[ae,SI (by omega),o02 id (by omega) (by omega)];exact o1.old id h
structure TopoR (ps:List Nat)(r:List Nat):Prop where
 len:r.length=ps.length
 nd:r.Nodup
 rng:∀v∈r,v<ps.length
 rk:∀(i v:Nat),r[i]?=some v->∀u,(ps.getD v 0).testBit u=true->∃j,j<i/\r[j]?=some u
theorem O8 {ps:List Nat}(hp:∀p∈ps,p<2 ^ 64):∀(k:Nat) (out:List Nat) (done:Nat) (r:List Nat),iL ps k out done=some r->(∀i,done.testBit i=true↔i∈out)->out.Nodup->(∀v∈out,v<ps.length)->(∀(i v:Nat),out[i]?=some v->∀u,(ps.getD v 0).testBit u=true->∃j,j<i/\out[j]?=some u) ->
  r.length=out.length+k/\r.Nodup/\(∀v∈r,v<ps.length)/\(∀(i v:Nat),r[i]?=some v->∀u,(ps.getD v 0).testBit u=true->∃j,j<i/\r[j]?=some u):=by
 intro k
 induction k with
 |zero =>
  intro out done r h h1 h2 h3 h4;unfold iL at h;cases h;exact⟨rfl,h2,h3,h4⟩
 |succ k ih =>
  intro out done r h h1 h2 h3 h4;unfold iL at h;cases hn:kP ps done with
  |none=>rw[hn]at h;cases h
  |some v =>
   rw[hn]at h;obtain⟨a,b,c⟩:=x8 hp hn;have hvo:v ∉ out:=fun hm=>by rw[(h1 v).2 hm]at b;cases b
   obtain⟨e1,e2,e3,e4⟩:=ih (out++[v]) (done |||2 ^ v) r h (fun i=>by
    rw[jx,S5,List.mem_singleton,T7,h1,decide_eq_true_eq];exact or_congr Iff.rfl eq_comm) (List.nodup_append.2 ⟨h2,by simp,fun x hx y hy=>by obtain rfl:=List.mem_singleton.1 hy;rintro rfl;exact hvo hx⟩) (fun x hx=>by
    rcases S5.1 hx with hx|hx
    ·exact h3 x hx
    ·obtain rfl:=List.mem_singleton.1 hx;exact a) (fun i x hx u hu=>by
    have hl:=get_lt hx;rw[List.length_append,T0]at hl;rcases S9 i out.length with hi|hi
    ·rw[SU hi]at hx;obtain⟨j,j1,j2⟩:=h4 i x hx u hu;exact⟨j,j1,by rw[SU (by omega)];exact j2⟩
    ·obtain rfl:i=out.length:=(by omega);simp only[List.getElem?_concat_length,Option.some.injEq]at hx;subst hx;obtain⟨j,hj⟩:=SW.1 ((h1 u).1 (c u hu));exact⟨j,get_lt hj,by rw[SU (get_lt hj)];exact hj⟩)
   exact⟨by rw[e1,List.length_append,T0];omega,e2,e3,e4⟩
theorem O9 {ps:List Nat}(hp:∀p∈ps,p<2 ^ 64){r:List Nat}(h:fJ ps=some r):TopoR ps r:=by
 obtain⟨e1,e2,e3,e4⟩:=O8 hp ps.length [] 0 r h (fun i=>by simp) (by simp) (by simp) (by simp);exact⟨by simpa using e1,e2,e3,e4⟩
theorem Pa:∀(n:Nat) (l:List Nat),l.Nodup->(∀v∈l,v<n)->l.length<=n:=by
 intro n
 induction n with
 |zero=>intro l _ h;cases l with
  |nil=>simp
  |cons a l=>exact absurd (h a (by simp)) (S4 _)
 |succ n ih =>
  intro l hd h;have h1:=ih (l.erase n) (hd.erase n) fun v hv=>by
   have h2:=(hd.mem_erase_iff).1 hv;have:=h v h2.2;omega
  have h3:=List.length_erase (a:=n) (l:=l);split at h3<;>omega
def lS (r:List Nat)(i v:Nat):Prop:=∃j,j<i/\r[j]?=some v
theorem lS.up {r:List Nat}{i k v:Nat}(h:lS r i v)(hk:i<=k):lS r k v:=h.imp fun j hj=>⟨by omega,hj.2⟩
structure DrD (ns:List NodeP)(r:List Nat)(rem:Bool)(i known decs:Nat)(os:List Nat)(ms:List NodeP):Prop where
 card:ak ms=ak ns
 old:∀v,decs.testBit v=false->ms[v]?=ns[v]?
 dec:∀v x,ms[v]?=some x->decs.testBit v=true->x.rows=[]/\∃s j,x.parents=eU s 8/\j<i/\r[j]?=some v/\∀u,s.testBit u=true->lS r j u
 decsb:∀v,decs.testBit v=true->lS r i v
 knownb:∀v,known.testBit v=true->lS r i v
 os3:os.length<=3
 osm:∀v,v∈os↔decs.testBit v=true
 osp:rem=true->os.Pairwise fun u v=>∀x y,ms[u]?=some x->ms[v]?=some y->Sub (cS x.parents |||2 ^ u) (cS y.parents)
 osk:rem=true->∀u∈os,∀x,ms[u]?=some x->Sub (cS x.parents |||2 ^ u) known
theorem DrD.len {ns ms:List NodeP}{r os:List Nat}{rem:Bool}{i known decs:Nat}(h:DrD ns r rem i known decs os ms):ms.length=ns.length:=by
 have:=congrArg List.length h.card;simpa[ak] using this
theorem DrD.start (ns:List NodeP)(r:List Nat)(rem:Bool):DrD ns r rem 0 0 0 [] ns :=
 ⟨rfl,fun _ _=>rfl,fun v x _ h=>by simp at h,fun v h=>by simp at h,fun v h=>by simp at h,by simp,fun v=>by simp,fun _=>.nil,fun _ u hu=>by cases hu⟩
theorem DrD.skip {ns ms:List NodeP}{r os:List Nat}{rem:Bool}{i known decs:Nat}(h:DrD ns r rem i known decs os ms):DrD ns r rem (i+1) known decs os ms :=
 ⟨h.card,h.old,fun v x hx hb=>by
  obtain⟨a,s,j,b,c,d⟩:=h.dec v x hx hb;exact⟨a,s,j,b,by omega,d⟩,fun v hb=>(h.decsb v hb).up (by omega),fun v hb=>(h.knownb v hb).up (by omega),h.os3,h.osm,h.osp,h.osk⟩
theorem Cy {s:Nat}(h:s<2 ^ 8):cS (eU s 8)=s:=by
 have h0:∀p∈eU s 8,0<=p:=fun p hp=>by obtain⟨v,rfl,_⟩:=qw.1 hp;omega
 refine Ux fun i=>?_;rw[nM h0];cases hb:s.testBit i with
 |true=>exact Tm (qw.2 ⟨i,rfl,oU h hb,hb⟩)
 |false =>
  refine TD fun hm=>?_;obtain⟨v,e,_,hv⟩:=qw.1 hm;obtain rfl:i=v:=by omega
  rw[hb]at hv;cases hv
theorem Cz {r:List Nat}{n i v:Nat}(hr:∀v∈r,v<n)(h:lS r i v):v<n:=h.elim fun _ hj=>hr v (SE hj.2)
theorem uT {r:List Nat}{n i s:Nat}(hr:∀v∈r,v<n)(h:∀v,s.testBit v=true->lS r i v):s<2 ^ n:=xZ fun v hv=>Cz hr (h v hv)
theorem DrD.step {ns ms:List NodeP}{r os:List Nat}{rem:Bool}{i known decs:Nat}(h:DrD ns r rem i known decs os ms)(hr:TopoR (bj ns) r)(h8:ns.length<=8)(ho:os.length<3){v:Nat}(hv:r[i]?=some v){x:NodeP}(hx:ns[v]?=some x){s:Nat}(hs:Sub s (cS x.parents)):
  decs.testBit v=false/\v<ns.length/\(if rem then s |||known else s)<2 ^ ns.length /\
  DrD ns r rem (i+1) (known |||(if rem then s |||known else s) |||2 ^ v) (decs |||2 ^ v) (os++[v]) (ms.set v ⟨x.card,eU (if rem then s |||known else s) 8,[]⟩):=by
 obtain⟨s',hs'⟩:∃s',s'=(if rem then s |||known else s):=⟨_,rfl⟩
 rw[<- hs'];have hsl:(bj ns).length=ns.length:=by simp[bj]
 have hrng:=hr.rng;rw[hsl]at hrng;have hvn:=hrng v (SE hv);have hml:=h.len;have inj:∀j,r[j]?=some v->j=i:=fun j hj=>(Uo (get_lt hj) hr.nd).1 (by rw[hj,hv]);have hdv:decs.testBit v=false:=by
  cases hb:decs.testBit v with
  |false=>rfl
  |true =>
   obtain⟨j,j1,j2⟩:=h.decsb v hb;have:=inj j j2;omega
 have sb:∀u,s.testBit u=true->lS r i u:=fun u hu=>hr.rk i v hv u (by rw[bp (mO hx)];exact hs u hu);have sb':∀u,s'.testBit u=true->lS r i u:=fun u hu=>by
  rw[hs']at hu;cases rem with
  |false=>exact sb u hu
  |true =>
   rw[SK rfl,Ul,T7]at hu;exact hu.elim (sb u) (h.knownb u)
 have hlt:=uT hrng sb';have hlt8:s'<2 ^ 8:=S1 hlt (Te (by decide) h8);have selfv:(ms.set v ⟨x.card,eU s' 8,[]⟩)[v]?=some ⟨x.card,eU s' 8,[]⟩:=SX (by omega);have othv:∀u,u≠v->(ms.set v ⟨x.card,eU s' 8,[]⟩)[u]?=ms[u]?:=fun u hu=>S3 (fun e=>hu e.symm);have osv:v ∉ os:=fun hm=>by rw[(h.osm v).1 hm]at hdv;cases hdv
 refine⟨hdv,hvn,hlt,⟨?_,fun u hu=>?_,fun u y hy hu=>?_,fun u hu=>?_,fun u hu=>?_,by simp;omega,fun u=>?_,fun hrem=>?_,fun hrem u hu y hy=>?_⟩⟩
 ·rw[<- h.card];unfold ak;rw[Um];apply Ti;intro k;rw[TM];split
  ·rename_i e;subst e;have:=h.card;have h1:(ak ms)[v]?=(ak ns)[v]?:=(by rw[this]);rw[SK (by rw[SM];omega)];rw[dm hx]at h1;exact h1.symm
  ·rfl
 ·rw[jx,Bool.or_eq_false_iff,VW]at hu;rw[othv u (fun e=>hu.2 e.symm)];exact h.old u hu.1
 ·by_cases e:u=v
  ·subst e;rw[selfv]at hy;cases hy;exact⟨rfl,s',i,rfl,by omega,hv,sb'⟩
  ·rw[othv u e]at hy;rw[jx,T7,decide_eq_true_eq]at hu;obtain⟨a,s2,j,b,c,d⟩:=h.dec u y hy (hu.resolve_right fun e'=>e e'.symm);exact⟨a,s2,j,b,by omega,d⟩
 ·rw[jx,T7,decide_eq_true_eq]at hu;rcases hu with hu|rfl
  ·exact(h.decsb u hu).up (by omega)
  ·exact⟨i,by omega,hv⟩
 ·rw[jx,Ul,T7,T7,decide_eq_true_eq]at hu;rcases hu with (hu|hu)|rfl
  ·exact(h.knownb u hu).up (by omega)
  ·exact(sb' u hu).up (by omega)
  ·exact⟨i,by omega,hv⟩
 ·rw[jx,S5,List.mem_singleton,h.osm,T7,decide_eq_true_eq];exact or_congr Iff.rfl eq_comm
 ·refine Uy.2 ⟨(h.osp hrem).imp_of_mem fun {a b} ha hb hab p q hp hq=>?_,by simp,fun a ha b hb p q hp hq=>?_⟩
  ·rw[othv a (fun e=>osv (e ▸ ha))]at hp;rw[othv b (fun e=>osv (e ▸ hb))]at hq;exact hab p q hp hq
  ·obtain rfl:=List.mem_singleton.1 hb;rw[othv a (fun e=>osv (e ▸ ha))]at hp;rw[selfv]at hq;cases hq;rw[show cS (⟨x.card,eU s' 8,[]⟩:NodeP).parents=s' from Cy hlt8,hs',SK hrem];exact(h.osk hrem a ha p hp).trans (Sub.right _ _)
 ·rcases S5.1 hu with hu|hu
  ·rw[othv u (fun e=>osv (e ▸ hu))]at hy;exact((h.osk hrem u hu y hy).trans (Sub.left _ _)).trans (Sub.left _ _)
  ·obtain rfl:=List.mem_singleton.1 hu;rw[selfv]at hy;cases hy;rw[show cS (⟨x.card,eU s' 8,[]⟩:NodeP).parents=s' from Cy hlt8];exact Sub.or ((Sub.right known s').trans (Sub.left _ _)) (Sub.right _ _)
structure DrI (rem:Bool)(d:InfP):Prop where
 ok:InfOk d
 n5:d.nodes.length<=5
 rows:∀v x,d.nodes[v]?=some x->d.decs.testBit v=false->x.rows≠[]
 os:∃os:List Nat,os.length<=3/\(∀v,v∈os↔d.decs.testBit v=true)/\(rem=true->os.Pairwise fun u v=>∀x y,d.nodes[u]?=some x->d.nodes[v]?=some y->Sub (cS x.parents |||2 ^ u) (cS y.parents))
theorem CA {g:Int}{ns:List NodeP}(h:NetOk g ns):∀x∈ns,x.rows≠[]:=fun x hx he=>by
 have h1:=(h.rows x hx).1;have h2:=eD (l:=aP ns x) fun c hc=>(oo (fun q hq=>by have:=(h.node x hx).2.2 q hq;omega) (fun y hy=>(h.node y hy).1) c hc).1;rw[he]at h1;simp at h1;omega
theorem DrD.fin {g:Int}{ns ms:List NodeP}{r os:List Nat}{rem:Bool}{i known decs:Nat}(h:DrD ns r rem i known decs os ms)(hn:NetOk g ns)(hr:TopoR (bj ns) r)(h5:ns.length<=5){us:List UtilP}(hul:us.length<=4)(hus:∀u∈us,UtilOk ns u):
  DrI rem ⟨g,ms,decs,us⟩:=by
 have hsl:(bj ns).length=ns.length:=by simp[bj]
 have hrng:=hr.rng;rw[hsl]at hrng;have hml:=h.len;have hdl:decs<2 ^ ns.length:=uT hrng h.decsb;have getN:∀(v:Nat) (x:NodeP),ms[v]?=some x->∃y,ns[v]?=some y/\y.card=x.card:=fun v x hx=>by
  obtain⟨y,hy⟩:=get_of_lt (l:=ns) (i:=v) (by have:=get_lt hx;omega);refine⟨y,hy,?_⟩;have h1:(ak ms)[v]?=(ak ns)[v]?:=by rw[h.card]
  rw[dm hx,dm hy]at h1;exact(Option.some.inj h1).symm
 have hcard:∀x∈ms,1<=x.card/\x.card<=4:=fun x hx=>by
  obtain⟨v,hv⟩:=SW.1 hx;obtain⟨y,hy,e⟩:=getN v x hv;rw[<- e];exact(hn.node y (SE hy)).1
 have hpl:∀(v:Nat) (x:NodeP),ms[v]?=some x->bO x.parents ms.length:=fun v x hx=>by
  cases hb:decs.testBit v with
  |false =>
   rw[h.old v hb]at hx;have:=(hn.node x (SE hx)).2;rw[hml];exact this
  |true =>
   obtain⟨_,s,j,e,_,_,hs⟩:=h.dec v x hx hb;rw[e];refine⟨PD _ _,fun q hq=>?_⟩;obtain⟨u,rfl,_,hu⟩:=qw.1 hq;have:=Cz hrng (hs u hu);rw[hml];omega
 have hR:RightN ⟨g,ms,decs,us⟩:=⟨by show 1<=ms.length/\ms.length<=8;rw[hml];exact hn.n1,by show decs >>> ms.length=0;rw[hml,Vb];exact UH hdl,hcard,fun v x hx hb=>⟨(h.dec v x hx hb).1,hpl v x hx⟩⟩
 have hperm:IsPerm ns.length (aW r):=⟨by rw[show (aW r).length=r.length by simp[aW],hr.len,hsl],by
  unfold aW;exact List.Pairwise.map _ (R:=(·≠·)) (fun a b h e=>h (by omega)) hr.nd,fun q hq=>by
  obtain⟨v,hv,rfl⟩:=SY.1 hq;have:=hrng v hv;omega⟩
 have natg:∀(j v:Nat),(aW r)[j]?=some (v:Int)↔r[j]?=some v:=fun j v=>by
  unfold aW;rw[List.getElem?_map,SG];exact⟨fun ⟨a,h1,h2⟩=>by rw[h1];congr 1;omega,fun h1=>⟨v,h1,rfl⟩⟩
 have hacy:j7 (bj ms):=by
  refine CS (P:=aW r) (by rw[hml];exact hperm) (fun v hv=>?_) fun j v x hj hx q hq=>?_
  ·refine Ty fun hno=>?_;rw[hml]at hv;have hsub:(v :: r).length<=ns.length:=by
    have hnd:(v :: r).Nodup:=Vm.2 ⟨fun hm=>hno (SY.2 ⟨v,hm,rfl⟩),hr.nd⟩;exact Pa ns.length _ hnd fun u hu=>by
     rcases List.mem_cons.1 hu with rfl|hu
     ·exact hv
     ·exact hrng u hu
   rw[List.length_cons,hr.len,hsl]at hsub;omega
  ·have q0:=((hpl v x hx).2 q hq).1;refine⟨q0,?_⟩;have hj':=(natg j v).1 hj;obtain⟨u,rfl⟩:=SR q0;cases hb:decs.testBit v with
   |false =>
    rw[h.old v hb]at hx;obtain⟨k,k1,k2⟩:=hr.rk j v hj' u (by
     rw[bp (mO hx),nM fun p hp=>((hn.node x (SE hx)).2.2 p hp).1];exact Tm hq)
    exact⟨k,k1,(natg k u).2 k2⟩
   |true =>
    obtain⟨_,s,j',e,_,hj2,hs⟩:=h.dec v x hx hb;rw[e]at hq;obtain⟨u',eu,_,hu⟩:=qw.1 hq;obtain rfl:u=u':=(by omega);obtain rfl:j'=j:=(Uo (get_lt hj2) hr.nd).1 (by rw[hj2,hj']);obtain⟨k,k1,k2⟩:=hs u hu;exact⟨k,k1,(natg k u).2 k2⟩
 have hpc:∀x,aP ms x=aP ns x:=fun x=>by unfold aP;rw[h.card]
 refine⟨⟨hR,⟨hn.g1,by rw[dB];exact hR.n1,fun y hy=>?_,?_,by rw[Dn];exact hacy,fun y hy=>?_⟩,hul,fun u hu=>?_⟩,by show ms.length<=5;omega,fun v x hx hb=>?_,os,h.os3,h.osm,h.osp⟩
 ·obtain⟨v,x,hx,rfl⟩:=sR hy;rw[(gD ..).1,(gD ..).2,dB];exact⟨hcard x (SE hx),hpl v x hx⟩
 ·rw[kg];show ao (ak ms)<=1024;rw[h.card];exact hn.size
 ·obtain⟨v,x,hx,rfl⟩:=sR hy;have hcx:=hcard x (SE hx);have hx':ms[v]?=some x:=hx;unfold fO;rw[pj];by_cases hb:decs.testBit v=true
  ·rw[lg hx hb];have x1:=(hR.dec v x hx hb).1;have hsm:=(iQ (x:=x) (ns:=ms) hR.n1.2 (hpl v x hx) hcard).prod;refine⟨?_,fun q hq=>?_⟩
   ·show ((x.rows++di g ms (fun _ _=>0) _ x).length:Int)=ao (aP ms x);rw[x1];simp only[di,List.nil_append,SM,TK,bB];omega
   ·rw[show ({ x with rows:=x.rows++di g ms (fun _ _=>0) (aU decs v) x }:NodeP).rows=x.rows++di g ms (fun _ _=>0) (aU decs v) x from rfl,x1,List.nil_append]at hq;unfold di at hq;obtain⟨i,hi,rfl⟩:=SY.1 hq;have:=hn.g1;exact Dm (by show 0<=g;omega) ⟨Int.le_refl 0,by show (0:Int)<x.card;omega⟩
  ·rw[kh hb];have hb':decs.testBit v=false:=(by simpa using hb);rw[h.old v hb']at hx';have:=hn.rows x (SE hx');unfold fO at this;show (x.rows.length:Int)=ao (aP ms x)/\_;rw[hpc];exact this
 ·have:=hus u hu;exact⟨by show bO u.vars ms.length;rw[hml];exact this.vars,by show _=ao (aI (ak ms) u.vars);rw[h.card];exact this.size,this.w⟩
 ·have hx':ms[v]?=some x:=hx;rw[h.old v hb]at hx';exact CA hn x (SE hx')
structure D20 where
 g:Int
 ps:List DrP
 ord:List Int
 decs:Int
 rem:Bool
 us:List UtD
structure D20.Ok (d:D20):Prop where
 g:U8 d.g
 ps:∀x∈d.ps,x.Ok
 pl:(d.ps.length:Int)<2 ^ 63
 ol:(d.ord.length:Int)<2 ^ 63
 o8:∀x∈d.ord,U8 x
 decs:U8 d.decs
 us:∀u∈d.us,u.Ok
 ul:(d.us.length:Int)<2 ^ 63
def mF (us:List UtD):List AVal:=(us.map UtD.cells).flatten
def D20.cells (d:D20):List AVal:=[.lit (.int .u8 d.g),.vec d.ps.length (fZ d.ps),.vec d.ord.length (bZ d.ord),.lit (.int .u8 d.decs),.lit (.bool d.rem),.vec d.us.length (mF d.us)]
theorem Pb {l:List UtD}{i:Nat}{x:UtD}(h:l[i]?=some x):((mF l).drop (i*2)).take 2=[.lit (.int .u8 x.vars),.vec x.w.length (pf x.w)]:=nK (f:=UtD.cells) (z:=2) (fun _=>rfl) l i x h
theorem Pc {l:List UtD}{i:Nat}{x:UtD}(h:l[i]?=some x):(mF l)[i*2]?=some (.lit (.int .u8 x.vars)):=je (f:=UtD.cells) (z:=2) (fun _=>rfl) l i 0 x h (by omega)
theorem Pd {l:List UtD}{i:Nat}{x:UtD}(h:l[i]?=some x):¬mF l=[]:=fun e=>by
 have:=Pc h;rw[e]at this;simp at this
theorem Pe {l:List NodeP}{i:Nat}{x:NodeP}(p:List Int)(h:l[i]?=some x):((aY l).set (i*3+1) (af p)).set (i*3+2) (.lit (.slice none 0 0))=aY (l.set i ⟨x.card,p,[]⟩):=by
 have hl:=get_lt h;have h1:=uZ (f:=NodeP.gk) (z:=3) (fun _=>rfl) l i ⟨x.card,p,[]⟩ hl;have h2:=nK (f:=NodeP.gk) (z:=3) (fun _=>rfl) l i x h;unfold aY;rw[h1];have h3:(l.map NodeP.gk).flatten=((l.map NodeP.gk).flatten).take (i*3)++(x.gk++((l.map NodeP.gk).flatten).drop (i*3+3)):=by
  rw[<- h2,<- Uw,Tl,Tl]
 have hlen:(((l.map NodeP.gk).flatten).take (i*3)).length=i*3:=by
  rw[SN,kJ (f:=NodeP.gk) (z:=3) (fun _=>rfl)];omega
 conv=>lhs;rw[h3]
 rw[To _ _ (by omega),To _ _ (by omega),hlen,show i*3+1-i*3=1 by omega,show i*3+2-i*3=2 by omega];simp[NodeP.gk,bq]
theorem Pf {l:List NodeP}(h:∀x∈l,x.rows≠[]):aY l=aF l:=by
 unfold aY aF;congr 1;exact Th fun x hx=>by unfold NodeP.gk NodeP.cells;rw[sB (h x hx)]
theorem yg {H:AHeap}{nx N:Nat}{e:TypeId}{g:Int}{ms:List NodeP}(h:H.get N=some (.arr 0 e (aY ms))):Fz (fun _=>True) H nx (.agg [aa g,.own N 0 0 ms.length 3]) (bL g ms):=by
 refine .agg rfl fun i hi _=>?_
 match i,hi with
 |0,_=>exact .lit _
 |1,_ =>
  refine .frz trivial h (iI ms) fun j hj h2 h'=>?_;have e0:(0:Nat)+j=j:=Nat.zero_add j;have h3:j<(aY ms).length:=by omega
  have:=Cf (S:=fun _=>True) (H:=H) (nx:=nx) ms j h3 h';simpa only[e0] using this
theorem uU {S:Nat->Prop}{H:AHeap}{nx:Nat}(l:List UtilP):∀c∈aO l,Fz S H nx c c:=by
 intro c hc;unfold aO at hc;obtain⟨r,hr,hc⟩:=Uh.1 hc;obtain⟨x,_,rfl⟩:=SY.1 hr;unfold UtilP.cells at hc;simp only[List.mem_cons,List.not_mem_nil,or_false]at hc;rcases hc with rfl|rfl<;>exact .cI _
theorem Pg (d:D20)(hd:d.Ok)(H:AHeap)(K:ARes->AHeap->Prop)(hK:∀x,DrI d.rem x->K (.ret (sI x)) H):ag prog G0 6 [.agg d.cells] H K:=by
 refine ag.clo ⟨_,func6,rfl,rfl⟩ fun hcl=>?_;refine ag.st (n:=128) (rs:=[.cell 2 38]) func6 ?_;simp only[go_sem,D20.cells];obtain⟨H0,hH0⟩:∃H0,H0=ext H [.arr 0 28 [.lit (.int .u8 d.g),.vec d.ps.length (fZ d.ps),.vec d.ord.length (bZ d.ord),.lit (.int .u8 d.decs),.lit (.bool d.rem),.vec d.us.length (mF d.us)],.arr 0 38 [.lit (.int .i64 0),.lit (.slice none 0 0),.lit (.int .u64 0),.lit (.slice none 0 0)]]:=⟨_,rfl⟩
 have g00:=df hH0
 have g01:=gE hH0 1 rfl
 have n0:H0.next=H.next+2:=hH0▸rfl
 have o0:Over H H0:=hH0▸.ext _ _
 rw[<- hH0];clear hH0;refine aw.clo (PB d.g d.ps d.ord hd.g hd.ps hd.pl hd.ol hd.o8 _ _ fun g ns N H' ov hN1 hN2 hget hnet h5 hp3=>⟨trivial,?_⟩);simp only[go_sem];obtain⟨B,hB⟩:∃B,B=H'.next:=⟨_,rfl⟩
 rw[<- hB];obtain⟨H1,hH1⟩:∃H1,H1=ext H' [.arr 0 81 [.lit (.int .i64 g),.own N 0 0 ns.length 3],.arr 0 38 [.lit (.int .i64 g),.own N 0 0 ns.length 3,.lit (.int .u64 0),.lit (.slice none 0 0)]]:=⟨_,rfl⟩
 have n1:H1.next=B+2:=by rw[hH1,hB];rfl
 have ovn:=ov.next;have g10:H1.get H.next=some (.arr 0 28 [.lit (.int .u8 d.g),.vec d.ps.length (fZ d.ps),.vec d.ord.length (bZ d.ord),.lit (.int .u8 d.decs),.lit (.bool d.rem),.vec d.us.length (mF d.us)]):=by rw[hH1,dv _ _ _ (by omega),ov.old _ (by omega)];exact g00
 have g11:H1.get (H.next+1)=some (.arr 0 38 [.lit (.int .i64 0),.lit (.slice none 0 0),.lit (.int .u64 0),.lit (.slice none 0 0)]):=by rw[hH1,dv _ _ _ (by omega),ov.old _ (by omega)];exact g01
 have gN:H1.get N=some (.arr 0 87 (aY ns)):=by rw[hH1,dv _ _ _ (by omega),Pf (CA hnet)];exact hget
 have gB:H1.get B=some (.arr 0 81 [.lit (.int .i64 g),.own N 0 0 ns.length 3]):=by rw[hH1,hB];exact cq ..
 have gB1:H1.get (B+1)=some (.arr 0 38 [.lit (.int .i64 g),.own N 0 0 ns.length 3,.lit (.int .u64 ((0:Nat):Int)),.lit (.slice none 0 0)]):=by rw[hH1,hB];exact bD H' _ 1 (by simp)
 have o1:Over H H1:=by rw[hH1];exact(o0.trans ov).trans (.ext _ _)
 rw[<- hH1];clear hH1 hget;have hsl:(bj ns).length=ns.length:=by simp[bj]
 have hpr:∀x∈ns,(x.parents.length:Int)<2 ^ 39/\∀q∈x.parents,0<=q/\q<(ns.length:Int):=fun x hx=>⟨by have:=hp3 x hx;omega,(hnet.node x hx).2.2⟩
 have hs8:∀p∈bj ns,p<2 ^ (bj ns).length:=by rw[hsl];exact vE fun x hx=>(hpr x hx).2
 obtain⟨r,hr⟩:=Tv.1 ((Ca hs8 (by omega)).2 hnet.acyc);have hTR:=O9 (fun p h=>S1 (hs8 p h) (Te (by decide) (by omega))) hr;have hrl:=hTR.len;rw[hsl]at hrl;refine aw.clo ((ag.frame (H:=H1) (args:=[.agg [aa g,.own N 0 0 ns.length 3]]) (args':=[bL g ns]) (v':=af (aW r)) aE rfl (fun i hi _=>?_) (PJ g ns (by omega) hpr r hr cz _ fun v H' _ ho=>⟨_,rfl,ho.kj⟩)).mono fun rr H2 hrr=>?_)
 ·match i,hi with
  |0,_=>exact yg gN
 obtain⟨rfl,rfl⟩:=hrr;refine⟨trivial,?_⟩;simp only[go_sem];refine W.me (Q':=fun e s2=>e=.exit 0/\∃(i known decs:Nat) (os:List Nat) (ms:List NodeP),s2.ρ 1=.ptr H.next 0 0/\s2.ρ 2=.ptr (H.next+1) 0 0/\s2.ρ 3=.ptr B 0 0/\s2.ρ 4=.ptr (B+1) 0 0/\DrD ns r d.rem i known decs os ms/\H2.next<=s2.H.next/\(∀id,id<H2.next->id≠N->id≠B+1->s2.H.get id=H2.get id)/\s2.H.get N=some (.arr 0 87 (aY ms)) /\
  s2.H.get (B+1)=some (.arr 0 38 [.lit (.int .i64 g),.own N 0 0 ns.length 3,.lit (.int .u64 (decs:Int)),.lit (.slice none 0 0)])) ?_ ?_
 rotate_left
 ·rintro e s2 ⟨rfl,i,known,decs,os,ms,e1,e2,e3,e4,L,hnx,hold,hN,hB1⟩;refine⟨s2,.refl _,Nat.le_refl _,trivial,?_⟩;obtain⟨ρ2,Hy⟩:=s2;dsimp only at e1 e2 e3 e4 hnx hold hN hB1;simp only[go_sem];have hml:=L.len;have hcd:∀x∈ms,1<=x.card/\x.card<=4:=fun x hx=>by
   obtain⟨v,hv⟩:=SW.1 hx;obtain⟨y,hy⟩:=get_of_lt (l:=ns) (i:=v) (by have:=get_lt hv;omega);have h1:(ak ms)[v]?=(ak ns)[v]?:=(by rw[L.card]);rw[dm hv,dm hy]at h1;rw[Option.some.inj h1];exact(hnet.node y (SE hy)).1
  have hn1:=hnet.n1;obtain⟨ut,hut⟩:∃ut:List UtilP,ut=d.us.map fun u=>fC u ms:=⟨_,rfl⟩
  refine W.aG 170141163178059628080016879768632823808 (by rfl) (fun ρ Hu=>∃(i:Nat) (uv:AVal),ρ 12=aa i/\i<=d.us.length/\i<=4/\Hy.next<=Hu.next/\(∀id,id<Hy.next->id≠B+1->Hu.get id=Hy.get id)/\Hu.get (B+1)=some (.arr 0 38 [.lit (.int .i64 g),.own N 0 0 ns.length 3,.lit (.int .u64 (decs:Int)),uv])/\cG Hy.next Hu 90 2 uv i (aO (ut.take i))) (fun ρ H=>d.us.length-(iv (ρ 12)).toNat) ?_ ?_
  ·simp only[go_sem];exact⟨0,_,rfl,by omega,by omega,hB1,.nil⟩
  rintro ρ Hu ⟨i,uv,h12,hi,hi4,hnu,holdu,hBu,hO⟩;refine W.en (fun E=>E 1=.ptr H.next 0 0 /\ E 2=.ptr (H.next+1) 0 0 /\ E 3=.ptr B 0 0 /\ E 4=.ptr (B+1) 0 0 /\ E 12=aa i) (by simp only[go_sem,e1,e2,e3,e4,h12]) fun E ⟨f1,f2,f3,f4,f12⟩=>?_
  refine W.vs ?_;have uh:Hu.get H.next=_:=((holdu H.next (by omega) (by omega)).trans (hold H.next (by omega) (by omega) (by omega))).trans g10;have l0:=ah uh;have lB:=ah (((holdu B (by omega) (by omega)).trans (hold B (by omega) (by omega) (by omega))).trans gB);have lB1:=ah hBu;have hNu:Hu.get N=some (.arr 0 87 (aY ms)):=(holdu N (by omega) (by omega)).trans hN;by_cases hb:(i:Int)<d.us.length/\(i:Int)<4
  ·obtain⟨u,hu⟩:=get_of_lt (l:=d.us) (i:=i) (by omega);have huo:=hd.us u (SE hu);have cne:=Pd hu;have c0:=Pb hu;have cl:i*2+2<=(mF d.us).length:=(by rw[show (mF d.us).length=d.us.length*2 from kJ (f:=UtD.cells) (fun _=>rfl) _];omega);have w1:=SF ((i:Int)+1) (by omega);have hpc:∀Hq,Hq.get N=some (.arr 0 87 (aY ms))->N<Hq.next->bf prog G0 (.clo 34 [] []) [.agg [.lit (.int .u8 u.vars),.vec u.w.length (pf u.w)],.agg [.lit (.int .i64 g),.own N 0 0 ns.length 3]] Hq (.agg [af (fC u ms).vars,af (fC u ms).w]) [N]:=fun Hq hq hqn=>by
    refine bf.mk (fun i hi=>by obtain rfl:=List.mem_singleton.1 hi;exact hqn) fun H2 h1 h2=>?_;refine ag.frame (H:=H2) (args:=[.agg u.cells,.agg [aa g,.own N 0 0 ns.length 3]]) (args':=[.agg u.cells,bL g ms]) (v':=.agg [af (fC u ms).vars,af (fC u ms).w]) aE rfl (fun i hi _=>?_) (PK u huo g ms (by omega) hcd cz _ fun v1 v2 H' _ o1 o2=>⟨_,rfl,.agg rfl fun i hi _=>?_⟩)
    ·match i,hi with
     |0,_ =>
      refine .agg rfl fun i hi _=>?_
      match i,hi with
      |0,_=>exact .lit _
      |1,_ =>
       refine .vec rfl fun j hj _=>?_;simp only[pf,SV];exact .lit _
     |1,_=>rw[<- hml];exact yg ((h1 N (by simp)).trans hq)
    ·match i,hi with
     |0,_=>exact o1.kj
     |1,_=>exact o2.kj
   obtain⟨uv',Hj,hA,hO',hnj,hpj⟩:=mR (P:=prog) (xs:=[af (fC u ms).vars,af (fC u ms).w]) Tryz.underlying36 Tryz.uD Tryz.uF rfl rfl (by rw[Tryz.uE];omega) hO hnu rfl;simp only[af]at hA;have keep:∀id,id<Hy.next->Hj.get id=Hu.get id:=fun id h=>hpj id (by omega) (hO.ne h);have lB1j:=ah ((keep _ (by omega)).trans hBu);have hvc:=hO'.cells;have hvo:=hO'.one;simp only[go_sem,f1,f12,l0,hb.1,hb.2];refine W.dr 10 [0,1,0,4,0,28,60,0,252,508] mixed ?_;simp only[go_sem,f1,f3,f4,f12,l0,lB,lB1,cne,c0,cl,hb.1];refine⟨_,[N],hpc _ hNu (by omega),?_⟩;simp only[go_sem,f4,f12,hA,lB1j,hvc,hvo,w1];have hug:ut[i]?=some (fC u ms):=(by rw[hut,List.getElem?_map,hu];rfl);have e2':aO (ut.take (i+1))=aO (ut.take i)++[af (fC u ms).vars,af (fC u ms).w]:=by
    rw[aL hug];unfold aO;rw[Tq,List.flatten_append];simp[UtilP.cells]
   refine⟨⟨fun _ h=>by omega,fun _ h=>by omega⟩,by rw[au];omega,⟨i+1,uv',rfl,by omega,by omega,by rw[au];omega,fun id h1 h2=>by rw[ae,SI h2,keep _ h1];exact holdu id h1 h2,by rw[ae,SK rfl],?_⟩,by rw[h12];simp only[aa,aM];omega⟩;rw[e2'];exact hO'.keep (by rw[au];omega) fun id gg h1 _ _=>by rw[ae,SI (by omega)]
  ·have fin:∀b,ar prog G0 H K (.agg [.lit (.int .i64 g),.own N 0 0 ns.length 3,.lit (.int .u64 (decs:Int)),uv]) (Hu.upd (H.next+1) b):=fun b=>by
    have o1n:=o1.next;have ov2:Over H (Hu.upd (H.next+1) b):=⟨by rw[au];omega,fun id h=>by
     rw[ae,SI (by omega),holdu id (by omega) (by omega),hold id (by omega) (by omega) (by omega)];exact o1.old id h⟩
    have htl:(ut.take i).length=i:=(by rw[SN,hut,SM];omega);refine ar.aV (v':=sI ⟨g,ms,decs,ut.take i⟩) aE hcl ov2 (.agg rfl fun j hj _=>?_) (hK _ (L.fin hnet hTR h5 (by omega) fun u hu=>?_))
    ·match j,hj with
     |0,_=>exact .lit _
     |1,_ =>
      show Fz _ _ _ (.own N 0 0 ns.length 3) (.vec ms.length (aY ms));rw[<- hml];refine .frz (by omega) (show (Hu.upd (H.next+1) b).get N=some (.arr 0 87 (aY ms)) by rw[ae,SI (by omega)];exact hNu) (iM ms) fun j hj h2 h'=>?_;have e0:(0:Nat)+j=j:=Nat.zero_add j;have h3:j<(aY ms).length:=(by omega);have:=uJ (S:=fun id=>H.next<=id) (H:=Hu.upd (H.next+1) b) (nx:=H.next) ms _ (Tk h3);simpa only[e0] using this
     |2,_=>exact .lit _
     |3,_ =>
      show Fz _ _ _ uv (.vec (ut.take i).length (aO (ut.take i)));rcases hO with ⟨h,hz,hc⟩|⟨id,gg,k1,k2,h,k4,k5⟩
      ·rw[h,hc,htl,hz];exact .nil
      ·rw[h,htl];refine .frz (by omega) (show (Hu.upd (H.next+1) b).get id=some (.arr gg 90 (aO (ut.take i))) by rw[ae,SI (by omega)];exact k5) k4 fun j hj h2 h'=>?_;have e0:(0:Nat)+j=j:=Nat.zero_add j;have h3:j<(aO (ut.take i)).length:=(by omega);have:=uU (S:=fun id=>H.next<=id) (H:=Hu.upd (H.next+1) b) (nx:=H.next) (ut.take i) _ (Tk h3);simpa only[e0] using this
    ·have hu2:=S8 hu;rw[hut]at hu2;obtain⟨p,hp,rfl⟩:=SY.1 hu2;have:=PF p ms fun x hx=>(hcd x hx).1;exact⟨by have:=this.vars;rw[hml]at this;exact this,by have:=this.size;rw[L.card]at this;exact this,this.w⟩
   have lR:Hu.live (H.next+1) 0=_:=ah (((holdu (H.next+1) (by omega) (by omega)).trans (hold (H.next+1) (by omega) (by omega) (by omega))).trans g11);have uvc:=hO.cells;have uvo:=hO.one;by_cases hb1:(i:Int)<d.us.length
   ·have hb4:¬(i:Int)<4:=fun h=>hb ⟨hb1,h⟩;simp only[go_sem,f1,f2,f4,f12,l0,lB1,lR,hb1,hb4,uvo];exact fin _
   ·simp only[go_sem,f1,f2,f4,f12,l0,lB1,lR,hb1,uvo];exact fin _
 refine W.aG 20282409603651670423947242901440 (by rfl) (fun ρ Hx=>∃(i known decs:Nat) (os:List Nat) (ms:List NodeP),ρ 8=aa i/\i<=r.length/\ρ 6=bP known/\ρ 7=aa os.length/\DrD ns r d.rem i known decs os ms/\H2.next<=Hx.next/\(∀id,id<H2.next->id≠N->id≠B+1->Hx.get id=H2.get id)/\Hx.get N=some (.arr 0 87 (aY ms)) /\
  Hx.get (B+1)=some (.arr 0 38 [.lit (.int .i64 g),.own N 0 0 ns.length 3,.lit (.int .u64 (decs:Int)),.lit (.slice none 0 0)])) (fun ρ H=>r.length-(iv (ρ 8)).toNat) ?_ ?_
 ·simp only[go_sem];exact⟨0,0,0,[],ns,rfl,by omega,rfl,rfl,.start ns r d.rem,gN,gB1⟩
 rintro ρ Hx ⟨i,known,decs,os,ms,h8,hi,h6,h7,L,hnx,hold,hN,hB1⟩;refine W.en (fun E=>E 1=.ptr H.next 0 0 /\ E 2=.ptr (H.next+1) 0 0 /\ E 3=.ptr B 0 0 /\ E 4=.ptr (B+1) 0 0 /\ E 5=af (aW r) /\ E 6=bP known /\ E 7=aa os.length /\ E 8=aa i) (by simp only[go_sem,h6,h7,h8]) fun E ⟨e1,e2,e3,e4,e5,e6,e7,e8⟩=>?_
 refine W.vs ?_;have l0:=ah ((hold H.next (by omega) (by omega) (by omega)).trans g10);have lB:=ah ((hold B (by omega) (by omega) (by omega)).trans gB);have lB1:=ah hB1;have lN:=ah hN;have hrng:=hTR.rng;rw[hsl]at hrng;have hml:=L.len;have natl:(aW r).length=r.length:=by simp[aW]
 have nat5:∀ {s:Nat},s<2 ^ ns.length->s<2 ^ 64:=fun h=>S1 h (Te (by decide) (by omega));have hk64:known<2 ^ 64:=nat5 (uT hrng L.knownb);have hd64:decs<2 ^ 64:=nat5 (uT hrng L.decsb);by_cases hb:(i:Int)<r.length;rotate_left
 ·simp only[go_sem,e1,e2,e3,e4,e5,e8,natl,hb];exact⟨i,known,decs,os,ms,L,hnx,hold,hN,hB1⟩
 by_cases h3:os.length<3;rotate_left
 ·have h3':¬(os.length:Int)<3:=by omega
  simp only[go_sem,e1,e2,e3,e4,e5,e7,e8,natl,hb,h3'];exact⟨i,known,decs,os,ms,L,hnx,hold,hN,hB1⟩
 have h3':(os.length:Int)<3:=by omega
 obtain⟨v,hv⟩:=get_of_lt (l:=r) (i:=i) (by omega);have hvi:(aW r)[i]?=some (v:Int):=by unfold aW;rw[List.getElem?_map,hv];rfl
 have hvne:=aJ hvi;have hvn:=hrng v (SE hv);have w1:=SF ((i:Int)+1) (by omega);obtain⟨r1,hr1⟩:∃r1,d.decs.fdiv (2 ^ (min ((i:Int)).toNat IntKind.u8.bits))=r1:=⟨_,rfl⟩
 obtain⟨r2,hr2⟩:∃r2,IntKind.u8.wrap (((BitVec.ofInt IntKind.u8.bits r1 &&& BitVec.ofInt IntKind.u8.bits 1).toNat:Nat):Int)=r2:=⟨_,rfl⟩
 have s1:∀t o1 o2,bx prog .shr t o1 o2 (.lit (.int .u8 d.decs)) (.lit (.int .i64 (i:Int)))=some (.lit (.int .u8 r1)):=fun t o1 o2=>by rw[tq (by omega),hr1]
 have s2:∀t o1 o2,bx prog .and t o1 o2 (.lit (.int .u8 r1)) (.lit (.int .u8 1))=some (.lit (.int .u8 r2)):=fun t o1 o2=>by rw[tt,hr2]
 by_cases hrz:r2=0
 ·simp only[go_sem,e1,e2,e3,e4,e5,e6,e7,e8,natl,hb,h3',l0,hvi,hvne,s1,s2,hrz,w1];exact⟨hnx,⟨i+1,known,decs,os,ms,rfl,by omega,rfl,rfl,L.skip,hnx,hold,hN,hB1⟩,by rw[h8];simp only[aa,aM];omega⟩
 obtain⟨x,hx⟩:=get_of_lt (l:=ns) (i:=v) hvn;have hdv:=(L.step hTR (by omega) h3 hv hx (s:=0) (fun i hi=>by simp at hi)).1;have hmx:ms[v]?=some x:=by rw[L.old v hdv];exact hx
 have hxp:=hpr x (SE hx);have hmp:∀y∈ms,(y.parents.length:Int)<2 ^ 39/\∀q∈y.parents,0<=q/\q<64:=fun y hy=>by
  obtain⟨u,hu⟩:=SW.1 hy;cases hbu:decs.testBit u with
  |false =>
   rw[L.old u hbu]at hu;obtain⟨q1,q2⟩:=hpr y (SE hu);exact⟨q1,fun q hq=>by have:=q2 q hq;omega⟩
  |true =>
   obtain⟨_,s,j,e,_⟩:=L.dec u y hu hbu;rw[e];refine⟨by have:=CU s 8;omega,fun q hq=>?_⟩;obtain⟨z,rfl,hz,_⟩:=qw.1 hq;omega
 have hset:((bj ms).map bP)[v]?=some (bP (cS x.parents)):=by rw[List.getElem?_map,mO hmx];rfl
 have hsne:=aJ hset;have hmn:(bj ms).length=ns.length:=by rw[<- hml];simp[bj]
 simp only[go_sem,e1,e3,e5,e7,e8,natl,hb,h3',l0,lB,hvi,hvne,s1,s2,hrz];refine aw.clo ((ag.frame (H:=Hx) (args:=[.agg [aa g,.own N 0 0 ns.length 3]]) (args':=[bL g ms]) (v':=iq (bj ms)) aE rfl (fun i hi _=>?_) (PG g ms (by omega) hmp cz _ fun v H' _ ho=>⟨_,rfl,PI ho⟩)).mono fun rr Hz hrr=>?_)
 ·match i,hi with
  |0,_=>rw[<- hml];exact yg hN
 obtain⟨rfl,rfl⟩:=hrr;refine⟨trivial,?_⟩;have hvI:(v:Int)<ns.length:=by omega
 simp only[go_sem,hset,hsne,hmn,hvI];have xs64:cS x.parents<2 ^ 64:=nat5 (sy hxp.2);refine W.aG 9444732684264313719808 (by rfl) (fun ρ2 Hq=>Hq=Hz/\∃k s:Nat,ρ2 11=aa k/\k<=x.parents.length/\ρ2 10=bP s/\Sub s (cS x.parents)/\s<2 ^ 64) (fun ρ2 H=>x.parents.length-(iv (ρ2 11)).toNat) ?_ ?_
 ·simp only[go_sem];exact⟨0,_,rfl,by omega,rfl,.refl _,xs64⟩
 rintro ρ2 Hq ⟨rfl,k,s,h11,hk,h10,hs,hs64⟩;refine W.en (fun E2=>E2 1=.ptr H.next 0 0 /\ E2 2=.ptr (H.next+1) 0 0 /\ E2 3=.ptr B 0 0 /\ E2 4=.ptr (B+1) 0 0 /\ E2 5=af (aW r) /\ E2 6=bP known /\ E2 7=aa os.length /\ E2 8=aa i /\ E2 9=aa v /\ E2 10=bP s /\ E2 11=aa k) (by simp only[go_sem,e1,e2,e3,e4,e5,e6,e7,e8,h10,h11]) fun E2 ⟨f1,f2,f3,f4,f5,f6,f7,f8,f9,f10,f11⟩=>?_
 refine W.vs ?_;have nne:=OG hmx;have nlen:=iM ms;have n1v:=nQ hmx;by_cases hb2:(k:Int)<x.parents.length
 ·obtain⟨q,hq⟩:=get_of_lt (l:=x.parents) (i:=k) (by omega);have hqr:=hxp.2 q (SE hq);obtain⟨u,rfl⟩:=SR hqr.1;have hqne:=aJ hq;have w2:=SF ((k:Int)+1) (by omega);by_cases hk2:(k:Int) >= 2
  ·have s3:=fun t x y=>py (P:=prog) (t:=t) (x:=x) (y:=y) (k':=.i64) (s:=u) (by omega);have s4:=fun t x y=>zf (P:=prog) (t:=t) (x:=x) (y:=y) (a:=s) (b:=2 ^ u);simp only[go_sem,f4,f9,f10,f11,lB1,lN,n1v,hvI,hb2,hk2,hq,hqne,w2,s3,s4];exact⟨⟨k+1,iT s (2 ^ u),rfl,by omega,rfl,fun i hi=>by rw[ze hs64,TQ]at hi;exact hs i hi.1,D4 _ _⟩,by rw[h11];simp only[aa,aM];omega⟩
  ·simp only[go_sem,f4,f9,f10,f11,lB1,lN,n1v,hvI,hb2,hk2,w2];exact⟨⟨k+1,s,rfl,by omega,rfl,hs,hs64⟩,by rw[h11];simp only[aa,aM];omega⟩
 ·obtain⟨s',hs'⟩:∃s',s'=(if d.rem then s |||known else s):=⟨_,rfl⟩
  have hsv:=L.step hTR (by omega) h3 hv hx hs;rw[<- hs']at hsv;obtain⟨_,_,hslt,L2⟩:=hsv;have s64:=nat5 hslt;have b2v:(2:Nat) ^ v<2 ^ 64:=Ui (by decide) (by omega);have o1':=fun t x y=>ma (P:=prog) (t:=t) (x:=x) (y:=y) hd64 b2v;have o2':=fun t x y=>ma (P:=prog) (t:=t) (x:=x) (y:=y) hk64 s64;have o3':=fun t x y=>ma (P:=prog) (t:=t) (x:=x) (y:=y) (UU hk64 s64) b2v;have o4':=fun t x y=>ma (P:=prog) (t:=t) (x:=x) (y:=y) hs64 hk64;have s6:=fun t x y=>py (P:=prog) (t:=t) (x:=x) (y:=y) (k':=.i64) (s:=v) (by omega);have w3:=SF ((os.length:Int)+1) (by omega);have nse:=Pe (eU s' 8) hmx;have gone:∀b,(Hq.upd N b).live (B+1) 0=some (38,[.lit (.int .i64 g),.own N 0 0 ns.length 3,.lit (.int .u64 (decs:Int)),.lit (.slice none 0 0)]):=fun b=>(bQ (by omega)).trans lB1;have st1:∀a,setAt (aY ms) (v*3+1) [a]=(aY ms).set (v*3+1) a:=fun a=>eM (by omega);have st2:∀a b,setAt ((aY ms).set (v*3+1) a) (v*3+2) [b]=((aY ms).set (v*3+1) a).set (v*3+2) b:=fun a b=>eM (by rw[SO];omega);have gone2:∀b b',((Hq.upd N b).upd N b').live (B+1) 0=some (38,[.lit (.int .i64 g),.own N 0 0 ns.length 3,.lit (.int .u64 (decs:Int)),.lit (.slice none 0 0)]):=fun b b'=>(bQ (by omega)).trans (gone b);simp only[af]at nse;cases hrem:d.rem
  ·have es:s'=s:=(by rw[hs',hrem];rfl);subst es;simp only[go_sem,f1,f3,f4,f6,f7,f8,f9,f11,lB1,lN,n1v,hvI,hb2,l0,hrem];refine W.dr 5 [0,1,0,0,8] mixed ?_;simp only[go_sem,f4,f9,f10,lB1,lN,hvI,hml,nlen,gone];refine⟨af (eU s' 8),[],bf.pure fun H2=>CV s' s64 H2 _ ⟨rfl,rfl⟩,?_⟩;simp only[go_sem,hml,nlen,st1,st2,nse,SO];refine⟨by omega,by omega,?_⟩;refine W.dr 4 [0,1,0,4] mixed ?_;simp only[go_sem,f4,f6,f7,f8,f9,f10,gone2,s6,o1',o2',o3',w1,w3];refine⟨by simp only[au];omega,⟨i+1,known |||s' |||2 ^ v,decs |||2 ^ v,os++[v],_,rfl,by omega,rfl,by simp,hrem ▸ L2,by simp only[au];omega,fun id h1 h2 h3=>by simp only[ae];rw[SI h3,SI h2,SI h2];exact hold id h1 h2 h3,by rw[ae,SI (by omega),ae,SK rfl],by rw[ae,SK rfl]⟩,by rw[h8];simp only[aa,aM];omega⟩
  ·have es:s |||known=s':=by rw[hs',hrem];rfl
   rw[es]at o4';simp only[go_sem,f1,f3,f4,f6,f7,f8,f9,f10,f11,lB1,lN,n1v,hvI,hb2,l0,hrem,o4'];refine W.dr 5 [0,1,0,0,8] mixed ?_;simp only[go_sem,f4,f9,f10,lB1,lN,hvI,hml,nlen,gone];refine⟨af (eU s' 8),[],bf.pure fun H2=>CV s' s64 H2 _ ⟨rfl,rfl⟩,?_⟩;simp only[go_sem,hml,nlen,st1,st2,nse,SO];refine⟨by omega,by omega,?_⟩;refine W.dr 4 [0,1,0,4] mixed ?_;simp only[go_sem,f4,f6,f7,f8,f9,f10,gone2,s6,o1',o2',o3',w1,w3];refine⟨by simp only[au];omega,⟨i+1,known |||s' |||2 ^ v,decs |||2 ^ v,os++[v],_,rfl,by omega,rfl,by simp,hrem ▸ L2,by simp only[au];omega,fun id h1 h2 h3=>by simp only[ae];rw[SI h3,SI h2,SI h2];exact hold id h1 h2 h3,by rw[ae,SI (by omega),ae,SK rfl],by rw[ae,SK rfl]⟩,by rw[h8];simp only[aa,aM];omega⟩
end Go.Proofs
