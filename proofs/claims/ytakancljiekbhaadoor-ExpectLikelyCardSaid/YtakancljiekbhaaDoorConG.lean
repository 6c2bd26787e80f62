/- Own work: contracts. -/
import Derived.Test.YtakancljiekbhaaDoorConE
import Derived.Test.YtakancljiekbhaaDoorProg
import Derived.Test.YtakancljiekbhaaDoorLibC
import Derived.Test.YtakancljiekbhaaDoorConA
import Derived.Test.YtakancljiekbhaaDoorConF
import Derived.Test.YtakancljiekbhaaDoorRows
import Derived.ProofKit
import Derived.LaidMore
import Derived.Stop.Joined
import Derived.Test.YtakancljiekbhaaDoorConC
import Derived.Test.YtakancljiekbhaaDoorConB
import Derived.Test.YtakancljiekbhaaDoorConD
set_option linter.all false
set_option maxRecDepth 100000
namespace Go.Proofs
open Go.Hx
def my (H1 H':AHeap)(N:Nat)(cs:List AVal):Prop:=H1.next<=H'.next/\(∀ id,id<H1.next->id≠N->H'.get id=H1.get id)/\H'.get N=some (.arr 0 53 cs)
theorem TF {l:List NodeP}{i:Nat}{x y:NodeP}(h:l[i]?=some x)(hr:x.rows=[])(hy:y.rows=[]):bJ (l.set i y)=(bJ l).set (i*3) (aa y.card):=by
 have hl:=get_lt h;have h1:=AU (f:=NodeP.cD) (z:=3) kE l i y hl;have h2:=qO (f:=NodeP.cD) (z:=3) kE l i x h;have e1:x.cD=[aa x.card,.lit (.slice none 0 0),.lit (.slice none 0 0)]:=Vx hr;have e2:y.cD=[aa y.card,.lit (.slice none 0 0),.lit (.slice none 0 0)]:=Vx hy;unfold bJ;rw[h1,e2];rw[e1]at h2;have h3:(l.map NodeP.cD).flatten=((l.map NodeP.cD).flatten).take (i*3)++([aa x.card,.lit (.slice none 0 0),.lit (.slice none 0 0)]++((l.map NodeP.cD).flatten).drop (i*3+3)):=by
  rw[<- h2,<- XG,V4,V4]
 have hlen:(((l.map NodeP.cD).flatten).take (i*3)).length=i*3:=by
  rw[VC,nF (f:=NodeP.cD) (z:=3) kE];omega
 conv=>rhs;rw[h3]
 rw[Ww _ _ (by omega),hlen];simp
theorem wQ (ord:List Int):∀ (n v:Nat),v<n->(v:Int)∈fG ord n
 | 0,v,h=>by omega
 | n+1,v,h=>by
  unfold fG;by_cases hv:v=n
  ·subst hv;simp
  ·have:=wQ ord n v (by omega);rw[<- V4 (mv ord n) (fG ord n)]at this;rcases VP.1 this with h|h
   ·exact Xi _ h
   ·exact Xb _ (Wz _ h)
def mz (ps:List DrP)(i:Nat):Int × List Int:=match ps[i]? with
 | some y=>(y.par,y.w)
 | none=>(0,[])
def FY (p:Int)(k:Nat):Int:=IntKind.u8.wrap (((BitVec.ofInt IntKind.u8.bits (p.fdiv (2 ^ (min ((k:Int)).toNat IntKind.u8.bits))) &&& BitVec.ofInt IntKind.u8.bits 1).toNat:Nat):Int)
def oU (par:Int)(P:List Int)(u:Nat)(l:List Int)(k:Nat):List Int:=if P[k]?=some (u:Int)/\FY par k=1/\l.length<3 then l++[(u:Int)] else l
def kF (par:Int)(P:List Int)(i u k:Nat):List Int:=(List.range k).foldl (oU par P u) ((List.range u).foldl (fun l u=>(List.range i).foldl (oU par P u) l) [])
theorem wS (par:Int)(P:List Int)(i u k:Nat):kF par P i u (k+1)=oU par P u (kF par P i u k) k:=by unfold kF;rw[WI,WK];rfl
theorem TG (par:Int)(P:List Int)(i u:Nat):kF par P i (u+1) 0=kF par P i u i:=by unfold kF;rw[WI,WK];rfl
def q9 (ps:List DrP)(i:Nat):Int:=match ps[i]? with
 | some y=>2+y.card % 2
 | none=>2
def jr (ps:List DrP)(n i:Nat)(W:Int):Int:=if IntKind.i64.wrap (W*q9 ps i*2 ^ (min ((n:Int) - 1 - i).toNat IntKind.i64.bits)) > 100 then 2 else q9 ps i
def jN (ps:List DrP)(n:Nat):Nat->Int
 | 0=>1
 | i+1=>jN ps n i*jr ps n i (jN ps n i)
def ra (g c:Int)(bs:List Int)(R:Nat):List (List Int):=(List.range R).map fun (q:Nat)=>nL g c.toNat bs ((q:Int)*(c+1))
theorem TH (g c:Int)(bs:List Int)(R:Nat):ra g c bs (R+1)=ra g c bs R++[nL g c.toNat bs ((R:Int)*(c+1))]:=by unfold ra;rw[WI,Wo];rfl
def AV (g:Int)(ps:List DrP)(cs P:List Int)(n j:Nat):NodeP:=⟨jr ps n j (jN ps n j),kF (mz ps j).1 P j n 0,ra g (jr ps n j (jN ps n j)) (mz ps j).2 (aA (aP cs (kF (mz ps j).1 P j n 0))).toNat⟩
structure DoneN (g:Int)(cs P:List Int)(n j:Nat)(x:NodeP):Prop where
 pl:dL x.parents n
 p3:x.parents.length<=3
 rk:∀ q∈x.parents,∃ k,k<j/\P[k]?=some q
 rl:(x.rows.length:Int)=aA (aP cs x.parents)
 ro:∀ r∈x.rows,kG g x.card r
 ne:x.rows≠[]
structure LoopN (g:Int)(ps:List DrP)(cs P:List Int)(n i:Nat)(ns:List NodeP):Prop where
 len:ns.length=n
 cards:af ns=cs
 todo:∀ (j v:Nat) (x:NodeP),i<=j->P[j]?=some (v:Int)->ns[v]?=some x->x.rows=[]/\x.parents=[]
 done:∀ (j v:Nat) (x:NodeP),j<i->P[j]?=some (v:Int)->ns[v]?=some x->DoneN g cs P n j x
 eq:∀ (j v:Nat) (x:NodeP),j<i->P[j]?=some (v:Int)->ns[v]?=some x->x=AV g ps cs P n j
 cd:∀ (j v:Nat) (x:NodeP),P[j]?=some (v:Int)->ns[v]?=some x->x.card=jr ps n j (jN ps n j)
theorem TI {l:List NodeP}{i:Nat}{x y:NodeP}(h:l[i]?=some x)(hy:y.card=x.card)(hr:y.rows≠[]):bJ (l.set i y)=((bJ l).set (i*3+1) (ab y.parents)).set (i*3+2) (aB y.rows):=by
 have hl:=get_lt h;have h1:=AU (f:=NodeP.cD) (z:=3) kE l i y hl;have h2:=qO (f:=NodeP.cD) (z:=3) kE l i x h;unfold bJ;rw[h1];have h3:(l.map NodeP.cD).flatten=((l.map NodeP.cD).flatten).take (i*3)++(x.cD++((l.map NodeP.cD).flatten).drop (i*3+3)):=by
  rw[<- h2,<- XG,V4,V4]
 have hlen:(((l.map NodeP.cD).flatten).take (i*3)).length=i*3:=by
  rw[VC,nF (f:=NodeP.cD) (z:=3) kE];omega
 have ex:∃ b c,x.cD=[aa x.card,b,c]:=by unfold NodeP.cD;split<;>exact⟨_,_,rfl⟩
 obtain⟨b,c,ex⟩:=ex;have ey:y.cD=[aa y.card,ab y.parents,aB y.rows]:=Vw hr
 conv=>rhs;rw[h3]
 rw[Ww _ _ (by omega),Ww _ _ (by omega),hlen,show i*3+1 - i*3=1 by omega,show i*3+2 - i*3=2 by omega,ex,ey];simp [hy]
structure ParU (P:List Int)(i u k:Nat)(l:List Int):Prop where
 pw:l.Pairwise (·<·)
 rng:∀ q∈l,0<=q/\(q<u\/(q=u/\∃ k',k'<k/\P[k']?=some q))
 p3:l.length<=3
 rk:∀ q∈l,∃ k',k'<i/\P[k']?=some q
theorem ParU.skip {P:List Int}{i u k:Nat}{l:List Int}(h:ParU P i u k l):ParU P i u (k+1) l:=⟨h.pw,fun q hq=>⟨(h.rng q hq).1,(h.rng q hq).2.imp id fun ⟨a,k',b,c⟩=>⟨a,k',by omega,c⟩⟩,h.p3,h.rk⟩
theorem ParU.next {P:List Int}{i u k:Nat}{l:List Int}(h:ParU P i u k l):ParU P i (u+1) 0 l:=⟨h.pw,fun q hq=>⟨(h.rng q hq).1,.inl (by rcases(h.rng q hq).2 with h1|h1<;>omega)⟩,h.p3,h.rk⟩
theorem ParU.add {P:List Int}{n i u k:Nat}{l:List Int}(hP:IsPerm n P)(h:ParU P i u k l)(hk:k<i)(hu:P[k]?=some (u:Int))(h3:l.length<3):ParU P i u (k+1) (l++[(u:Int)]):=by
 have lt:∀ q∈l,q<u:=fun q hq=>by
  rcases(h.rng q hq).2 with h1|⟨h1,k',h2,h4⟩
  ·exact h1
  ·exfalso;have e:P[k']?=P[k]?:=(by rw[h4,hu,h1]);have:=(W4 (get_lt h4) hP.nd).1 e;omega
 refine⟨X6.2 ⟨h.pw,by simp,fun a ha b hb=>by obtain rfl:=List.mem_singleton.1 hb;exact lt a ha⟩,fun q hq=>?_,by simp;omega,fun q hq=>?_⟩
 ·rcases VP.1 hq with h1|h1
  ·exact⟨(h.rng q h1).1,.inl (lt q h1)⟩
  ·obtain rfl:=List.mem_singleton.1 h1;exact⟨by omega,.inr ⟨rfl,k,by omega,hu⟩⟩
 ·rcases VP.1 hq with h1|h1
  ·exact h.rk q h1
  ·obtain rfl:=List.mem_singleton.1 h1;exact⟨k,hk,hu⟩
def AW (Hz Hx:AHeap)(N at':Nat)(C:List AVal)(pv:AVal)(l:List Int):Prop:=my Hz Hx N (C.set at' pv)/\aC Hz.next Hx 3 pv (ints l)
def TJ (g:Int)(ps:List DrP)(ord:List Int)(ns:List NodeP):Prop:=ns.length=min (max ps.length 1) 5/\(∀ (j v:Nat) (x:NodeP),(fG ord ns.length)[j]?=some (v:Int)->ns[v]?=some x->x=AV g ps (af ns) (fG ord ns.length) ns.length j)/\∀ (j v:Nat) (x:NodeP),(fG ord ns.length)[j]?=some (v:Int)->ns[v]?=some x->x.card=jr ps ns.length j (jN ps ns.length j)
set_option maxHeartbeats 4000000 in
theorem TK (g0:Int)(ps:List DrP)(ord:List Int)(hg0:U8 g0)(hps:∀ x∈ps,x.Ok)(hpl:(ps.length:Int)<2 ^ 63)(hol:(ord.length:Int)<2 ^ 63)(ho8:∀ x∈ord,U8 x)(H:AHeap)(K:ARes->AHeap->Prop)
  (hK:∀ g ns N H',Over H H'->H.next<=N->N<H'.next->H'.get N=some (.arr 0 53 (au ns))->NetOk g ns->ns.length<=5->(∀ x∈ns,x.parents.length<=3)->(∀ x∈ns,2<=x.card)->(g=1+g0 % 60/\TJ g ps ord ns)->K (.ret (.agg [aa g,.own N 0 0 ns.length 3])) H'):
  ae Tryd.prog G0 5 [AT g0 ps ord] H K:=by
 refine ae.bF (n:=187) (rs:=[.cell 2 36]) Tryd.func5 rfl rfl rfl (by decide) (by kernel_rfl) (by simp) ?_;obtain⟨n,hn⟩:∃ n:Nat,min (max ps.length 1) 5=n:=⟨_,rfl⟩
 have h51:1<=n/\n<=5:=by omega
 have hmn:(if 5<(if (1:Int) > ps.length then 1 else (ps.length:Int)) then 5 else (if (1:Int) > ps.length then 1 else (ps.length:Int)))=(n:Int):=by split<;>split<;>omega
 have t0:g0.tmod 60=g0 % 60:=V6 hg0.1;have w0:IntKind.u8.wrap (g0 % 60)=g0 % 60:=Y0 _ (by omega);have w1:IntKind.i64.wrap (g0 % 60)=g0 % 60:=Vt _ (by omega);have w2:=Vt (1+g0 % 60) (by omega);obtain⟨g,hg⟩:∃ g,1+g0 % 60=g:=⟨_,rfl⟩
 have hg1:1<=g/\g<=60:=by omega
 rw[hg]at w2;simp only[go_sem,AT];refine W.draw 9 [0,1,3,7,15,0,32,127,0] Tryd.mixed (by kernel_rfl) (by kernel_rfl) ?_;simp only[go_sem,hmn,t0,w1,hg,w2];refine⟨by omega,⟨⟨by omega,by omega⟩,⟨by omega,by omega⟩,?_⟩⟩;obtain⟨H1,hH1⟩:∃ H1,H1=ext (ext H [.arr 0 25 [.lit (.int .u8 g0),.vec ps.length (fH ps),.vec ord.length (bh ord)],.arr 0 36 [.lit (.int .i64 0),.lit (.slice none 0 0)],.arr 0 53 (List.replicate n [AVal.lit (.int .i64 0),.lit (.slice none 0 0),.lit (.slice none 0 0)]).flatten]) [.arr 0 36 [.lit (.int .i64 g),.own (H.next+2) 0 0 n 3]]:=⟨_,rfl⟩
 refine W.en (fun E=>E 1=.ptr H.next 0 0 /\ E 2=.ptr (H.next+1) 0 0 /\ E 3=aa n /\ E 4=.ptr (H.next+3) 0 0) (by simp only[go_sem]) fun E ⟨e1,e2,e3,e4⟩=>?_
 show W _ _ _ _ _ _ ⟨E,ext (ext H [.arr 0 25 [.lit (.int .u8 g0),.vec ps.length (fH ps),.vec ord.length (bh ord)],.arr 0 36 [.lit (.int .i64 0),.lit (.slice none 0 0)],.arr 0 53 (List.replicate n [AVal.lit (.int .i64 0),.lit (.slice none 0 0),.lit (.slice none 0 0)]).flatten]) [.arr 0 36 [.lit (.int .i64 g),.own (H.next+2) 0 0 n 3]]⟩;rw[<- hH1];have n1:H1.next=H.next+4:=by rw[hH1];rfl
 have o1:Over H H1:=by rw[hH1];exact(Over.ext _ _).trans (.ext _ _)
 have g0':H1.get H.next=some (.arr 0 25 [.lit (.int .u8 g0),.vec ps.length (fH ps),.vec ord.length (bh ord)]):=by rw[hH1,p7];exact dN ..
 have g1':H1.get (H.next+1)=some (.arr 0 36 [.lit (.int .i64 0),.lit (.slice none 0 0)]):=by rw[hH1,p7];exact bC H _ 1 (by simp)
 have g2':H1.get (H.next+2)=some (.arr 0 53 (bJ (List.replicate n ⟨0,[],[]⟩))):=by
  rw[hH1,p7,show bJ (List.replicate n ⟨0,[],[]⟩)=(List.replicate n [AVal.lit (.int .i64 0),.lit (.slice none 0 0),.lit (.slice none 0 0)]).flatten by unfold bJ;rw[Yg];rfl];exact bC H _ 2 (by simp)
 have g3':H1.get (H.next+3)=some (.arr 0 36 [.lit (.int .i64 g),.own (H.next+2) 0 0 n 3]):=by rw[hH1,p7];exact bC H _ 3 (by simp)
 clear hH1;have l0:=ak g0';have l1:=ak (show (ext H1 [.arr 0 5 (List.replicate n (.lit (.int .u8 0)))]).get H.next=some (.arr 0 25 [.lit (.int .u8 g0),.vec ps.length (fH ps),.vec ord.length (bh ord)]) by rw[dV _ _ _ (by omega)];exact g0');refine W.draw 4 [0,1,0,4] Tryd.mixed (by kernel_rfl) (by kernel_rfl) ?_;simp only[go_sem,e1,e3,l1];refine⟨⟨by omega,by omega⟩,by omega,by omega,?_⟩;obtain⟨H2,hH2⟩:∃ H2,H2=ext H1 [.arr 0 5 (List.replicate n (.lit (.int .u8 0)))]:=⟨_,rfl⟩
 have gb:H2.get H1.next=some (.arr 0 5 (List.replicate n (.lit (.int .u8 0)))):=by rw[hH2];exact cS
 rw[<- hH2];refine aw.clo ((ae.frame (H:=H2) (args:=[.agg [.own H1.next 0 0 n 1,.lit (.int .u16 0),.vec ord.length (bh ord)]]) (args':=[.agg [.vec n (bh (List.replicate n 0)),.lit (.int .u16 0),.vec ord.length (bh ord)]]) (v':=ab (fG ord n)) aT rfl (fun i hi _=>?_) (Tq n h51.2 ord hol ho8 cL _ fun v H' _ ho=>⟨_,rfl,ho.tz⟩)).mono fun r H' hr=>?_)
 ·match i,hi with
  | 0,_ =>
   refine .agg rfl fun i hi _=>?_
   match i,hi with
   | 0,_ =>
    have:bh (List.replicate n 0)=List.replicate n (.lit (.int .u8 0)):=(by unfold bh;rw[Yg]);rw[this];exact Fz.tA gb (by simp) fun c hc=>⟨_,Wk hc⟩
   | 1,_=>exact .lit _
   | 2,_=>exact .vec rfl fun i hi _=>by simp only[bh,VF];exact .lit _
 obtain⟨rfl,rfl⟩:=hr;refine⟨trivial,?_⟩;have hperm:=AS ord n;obtain⟨P,hP⟩:∃ P,P=fG ord n:=⟨_,rfl⟩
 rw[<- hP]at hperm ⊢;have n2:H'.next=H1.next+1:=by rw[hH2];rfl
 have F0:my H1 H' (H.next+2) (bJ (List.replicate n ⟨0,[],[]⟩)):=by
  rw[hH2];exact⟨by simp [dF],fun id h _=>dV _ _ _ h,by rw[dV _ _ _ (by omega)];exact g2'⟩
 clear hH2 gb;simp only[go_sem,e3];have bs:∀ k:Nat,k<=5->(3:Int) ^ k<=243:=fun k hk=>by
  have:(3:Nat) ^ k<=3 ^ 5:=VT (by decide) hk;have h2:((3 ^ k:Nat):Int)<=((3 ^ 5:Nat):Int):=by exact_mod_cast this
  push_cast at h2
  exact h2
 refine W.aG 151115727451794287100864 (by rfl) (fun ρ Hx=>∃ (i:Nat) (ns:List NodeP) (Wd:Int),ρ 7=aa i/\i<=n/\ns.length=n/\(∀ x∈ns,x.rows=[]/\x.parents=[])/\(∀ j v:Nat,j<i->P[j]?=some (v:Int)->∃ x,ns[v]?=some x/\2<=x.card/\x.card<=3/\x.card=jr ps n j (jN ps n j))/\ρ 6=aa Wd/\Wd=jN ps n i/\1<=Wd/\Wd<=3 ^ i/\H'.next<=Hx.next/\my H1 Hx (H.next+2) (bJ ns)) (fun ρ H=>n - (iv (ρ 7)).toNat) ?_ ?_
 ·simp only[go_sem];exact⟨0,_,1,rfl,by omega,by simp,fun x hx=>by obtain rfl:=Wk hx;exact⟨rfl,rfl⟩,fun j v hj=>by omega,rfl,rfl,by omega,by simp,F0⟩
 rintro ρ Hx ⟨i,ns,Wd,h7,hi,hnl,hnz,hnc,h6,hWe,hW1,hW3,hnx,hF⟩;refine W.en (fun E2=>E2 1=.ptr H.next 0 0 /\ E2 2=.ptr (H.next+1) 0 0 /\ E2 3=aa n /\ E2 4=.ptr (H.next+3) 0 0 /\ E2 5=ab P /\ E2 6=aa Wd /\ E2 7=aa i) (by simp only[go_sem,e1,e2,e3,e4,h6,h7]) fun E2 ⟨f1,f2,f3,f4,f5,f6,f7⟩=>?_
 refine W.vs ?_;have hPl:=hperm.len;have hFn:=hF.1;have m0:=ak ((hF.2.1 H.next (by omega) (by omega)).trans g0');have m3:=ak ((hF.2.1 (H.next+3) (by omega) (by omega)).trans g3');have mN:=ak hF.2.2;have m0':∀ L,(ext Hx L).live H.next 0=some (25,[.lit (.int .u8 g0),.vec ps.length (fH ps),.vec ord.length (bh ord)]):=fun L=>(fN (by omega)).trans m0;have m3':∀ L,(ext Hx L).live (H.next+3) 0=some (36,[.lit (.int .i64 g),.own (H.next+2) 0 0 n 3]):=fun L=>(fN (by omega)).trans m3;have mN':∀ L,(ext Hx L).live (H.next+2) 0=some (53,bJ ns):=fun L=>(fN (by omega)).trans mN;by_cases hb:(i:Int)<n
 ·obtain⟨pv,hpv⟩:=get_of_lt (l:=P) (i:=i) (by omega);have hpr:=hperm.rng pv (Vs hpv);obtain⟨v,rfl⟩:=VU hpr.1;obtain⟨x,hx⟩:=get_of_lt (l:=ns) (i:=v) (by omega);have hpne:=aJ hpv;have hz0:=FV hx;have hzne:=aJ hz0;have hzl:=FU ns;have hv:(v:Int)<n:=hpr.2;have hv0:(v:Int) >= 0:=hpr.1;have hiP:(i:Int)<P.length:=by omega
  have w3:=bs i (by omega);have i1:=Vt ((i:Int)+1) (by omega);have i2:=Vt ((n:Int) - 1) (by omega);have i3:=Vt ((n:Int) - 1 - i) (by omega);have i4:=Wl ((n:Int) - 1 - i) (by omega);have fin:∀ (c:Int) (B:Blk),2<=c/\c<=3->c=jr ps n i Wd->v*3+1<=(bJ ns).length/\H'.next<=((ext Hx [B]).upd (H.next+2) (.arr 0 53 (setAt (bJ ns) (v*3) [.lit (.int .i64 c)]))).next /\
    (∃ (i_1:Nat) (ns_1:List NodeP) (Wd_1:Int),AVal.lit (.int .i64 ((i:Int)+1))=.lit (.int .i64 i_1)/\i_1<=n/\ns_1.length=n/\(∀ x∈ns_1,x.rows=[]/\x.parents=[])/\(∀ j v:Nat,j<i_1->P[j]?=some (v:Int)->∃ x,ns_1[v]?=some x/\2<=x.card/\x.card<=3/\x.card=jr ps n j (jN ps n j)) /\
     AVal.lit (.int .i64 (Wd*c))=.lit (.int .i64 Wd_1)/\Wd_1=jN ps n i_1/\1<=Wd_1/\Wd_1<=3 ^ i_1/\H'.next<=((ext Hx [B]).upd (H.next+2) (.arr 0 53 (setAt (bJ ns) (v*3) [.lit (.int .i64 c)]))).next/\my H1 ((ext Hx [B]).upd (H.next+2) (.arr 0 53 (setAt (bJ ns) (v*3) [.lit (.int .i64 c)]))) (H.next+2) (bJ ns_1)) /\
    n - ((i:Int)+1).toNat<n - (iv (ρ 7)).toNat:=by
   intro c B c23 hce;have p1:2<=Wd*c/\Wd*c<=3 ^ i*3:=by
    constructor
    ·have:=W7 hW1 c23.1 (by omega) (by omega);omega
    ·exact W7 hW3 c23.2 (by omega) (by omega)
   have nn:((ext Hx [B]).upd (H.next+2) (.arr 0 53 (setAt (bJ ns) (v*3) [.lit (.int .i64 c)]))).next=Hx.next+1:=rfl;refine⟨by rw[hzl];have:=get_lt hx;omega,by rw[nn];omega,⟨i+1,ns.set v ⟨c,[],[]⟩,Wd*c,rfl,by omega,by simp [hnl],fun z hz=>?_,fun j u hj hu=>?_,rfl,by show Wd*c=jN ps n i*jr ps n i (jN ps n i);rw[<- hWe,<- hce],by omega,by rw[YK];omega,by rw[nn];omega,?_⟩,by rw[h7];simp only[aa,aN];omega⟩
   ·rcases Wy hz with h|h
    ·exact hnz z h
    ·rw[h];exact⟨rfl,rfl⟩
   ·by_cases huv:u=v
    ·subst huv;have hji:j=i:=(W4 (get_lt hu) hperm.nd).1 (by rw[hu,hpv]);exact⟨_,VI (get_lt hx),by dsimp only;omega,by dsimp only;omega,by dsimp only;rw[hji,<- hWe];exact hce⟩
    ·rw[VS (by omega)];refine hnc j u ?_ hu;rcases VR j i with h|h
     ·exact h
     ·obtain rfl:j=i:=(by omega);rw[hpv]at hu;exact absurd (by have:=Option.some.inj hu;omega) huv
   ·refine⟨by rw[nn];omega,fun id h1 h2=>by rw[ag,Vw h2,dV _ _ _ (by omega)];exact hF.2.1 id h1 h2,?_⟩;rw[ag,Vx rfl,TF hx (hnz x (Vs hx)).1 rfl];congr 2;exact jP (by rw[hzl];have:=get_lt hx;omega)
  by_cases hp:(i:Int)<ps.length
  ·obtain⟨y,hy⟩:=get_of_lt (l:=ps) (i:=i) (by omega);have hyo:=hps y (Vs hy);have hc0:=FS hy;have hc1:i*3+3<=(fH ps).length:=(by rw[FT];omega);have hcne:¬ fH ps=[]:=fun h=>by rw[h]at hc1;simp at hc1
   have c8:=hyo.1;have t1:y.card.tmod 2=y.card % 2:=V6 c8.1;have i5:=Y0 (y.card % 2) (by omega);have i6:=Vt (y.card % 2) (by omega);have i7:=Vt (2+y.card % 2) (by omega);have c23:2<=(2+y.card % 2)/\(2+y.card % 2)<=3:=(by omega);have p1:2<=Wd*(2+y.card % 2)/\Wd*(2+y.card % 2)<=3 ^ i*3:=by
    constructor
    ·have:=W7 hW1 c23.1 (by omega) (by omega);omega
    ·exact W7 hW3 c23.2 (by omega) (by omega)
   have p2:2<=Wd*2/\Wd*2<=3 ^ i*3:=(by omega);have j1:=Vt (Wd*(2+y.card % 2)) (by omega);have j2:=Vt (Wd*2) (by omega);obtain⟨q,hq⟩:∃ q,IntKind.i64.wrap (Wd*(2+y.card % 2)*2 ^ (min ((n:Int) - 1 - i).toNat IntKind.i64.bits))=q:=⟨_,rfl⟩
   have cA:jr ps n i Wd=if q > 100 then 2 else 2+y.card % 2:=by
    have h0:q9 ps i=2+y.card % 2:=(by unfold q9;rw[hy]);unfold jr;rw[h0,hq]
   have hsh:∀ t o1 o2,aU Tryd.prog .shl t o1 o2 (.lit (.int .i64 (Wd*(2+y.card % 2)))) (.lit (.int .u64 ((n:Int) - 1 - i)))=some (.lit (.int .i64 q)):=fun t o1 o2=>by rw[ry (by omega),hq]
   by_cases hq1:q > 100
   ·simp only[go_sem,f1,f3,f6,f7,m0',hb,hp,i2,i3,i4,j1,j2,hsh,hc0,hc1,hcne,t1,i6,i7,hq1];refine W.draw 7 [0,1,0,0,12,28,0] Tryd.mixed (by kernel_rfl) (by kernel_rfl) ?_;simp only[go_sem,f4,f5,f6,f7,m3',mN',i1,hpv,hpne,hv,hv0,hiP];exact fin 2 _ (by omega) (by rw[cA,Vx hq1])
   ·simp only[go_sem,f1,f3,f6,f7,m0',hb,hp,i2,i3,i4,j1,hsh,hc0,hc1,hcne,t1,i6,i7,hq1];refine W.draw 7 [0,1,0,0,12,28,0] Tryd.mixed (by kernel_rfl) (by kernel_rfl) ?_;simp only[go_sem,f4,f5,f6,f7,m3',mN',i1,hpv,hpne,hv,hv0,hiP];exact fin (2+y.card % 2) _ c23 (by rw[cA,Vw hq1])
  ·have p2:2<=Wd*2/\Wd*2<=3 ^ i*3:=(by omega);have i5:IntKind.i64.wrap (2+IntKind.i64.wrap (Int.tmod 0 2))=2:=(by decide);have j2:=Vt (Wd*2) (by omega);obtain⟨q,hq⟩:∃ q,IntKind.i64.wrap (Wd*2*2 ^ (min ((n:Int) - 1 - i).toNat IntKind.i64.bits))=q:=⟨_,rfl⟩
   have cA:jr ps n i Wd=2:=by
    have h0:q9 ps i=2:=(by unfold q9;rw[VB (by omega)]);unfold jr;rw[h0];split<;>rfl
   have hsh:∀ t o1 o2,aU Tryd.prog .shl t o1 o2 (.lit (.int .i64 (Wd*2))) (.lit (.int .u64 ((n:Int) - 1 - i)))=some (.lit (.int .i64 q)):=fun t o1 o2=>by rw[ry (by omega),hq]
   by_cases hq1:q > 100
   ·simp only[go_sem,f1,f3,f6,f7,m0',hb,hp,i2,i3,i4,j2,hsh,i5,hq1];refine W.draw 7 [0,1,0,0,12,28,0] Tryd.mixed (by kernel_rfl) (by kernel_rfl) ?_;simp only[go_sem,f4,f5,f6,f7,m3',mN',i1,hpv,hpne,hv,hv0,hiP];exact fin 2 _ (by omega) cA.symm
   ·simp only[go_sem,f1,f3,f6,f7,m0',hb,hp,i2,i3,i4,j2,hsh,i5,hq1];refine W.draw 7 [0,1,0,0,12,28,0] Tryd.mixed (by kernel_rfl) (by kernel_rfl) ?_;simp only[go_sem,f4,f5,f6,f7,m3',mN',i1,hpv,hpne,hv,hv0,hiP];exact fin 2 _ (by omega) cA.symm
 ·obtain rfl:n=i:=by omega
  clear bs hW1 hW3 h6 f6;simp only[go_sem,f3,f7,hb];obtain⟨cs,hcs⟩:∃ cs,cs=af ns:=⟨_,rfl⟩
  have csl:cs.length=n:=by rw[hcs,bK,hnl]
  have hc23:∀ c∈cs,2<=c/\c<=3:=fun c hc=>by
   obtain⟨v,hv⟩:=V0.1 hc;have hvn:=get_lt hv;have hm:=wQ ord n v (by omega);rw[<- hP]at hm;obtain⟨j,hj⟩:=V0.1 hm;obtain⟨x,hx,h2,h3,_⟩:=hnc j v (by have:=get_lt hj;omega) hj;rw[hcs,cN hx]at hv;cases hv;exact⟨h2,h3⟩
  have L0:LoopN g ps cs P n 0 ns:=⟨hnl,hcs.symm,fun j v x _ _ hx=>hnz x (Vs hx),fun j v x h=>by omega,fun j v x h=>by omega,fun j v x hj hx=>by
   obtain⟨x',hx',_,_,h4⟩:=hnc j v (by have:=get_lt hj;omega) hj;rw[hx']at hx;rw[<- Option.some.inj hx];exact h4⟩
  clear hnc hnz h7;refine W.aG 98079714615416886934934209737619636635871851991103765504 (by rfl) (fun ρ Hy=>∃ (i:Nat) (ns:List NodeP),ρ 10=aa i/\i<=n/\LoopN g ps cs P n i ns/\Hx.next<=Hy.next/\my H1 Hy (H.next+2) (bJ ns)) (fun ρ H=>n - (iv (ρ 10)).toNat) ?_ ?_
  ·simp only[go_sem];exact⟨0,ns,rfl,by omega,L0,hF⟩
  clear L0 hF m0 m3 mN m0' m3' mN' hFn hnl hcs f7;rintro ρ Hy ⟨i,ns,h10,hi,L,hny,hF⟩;refine W.en (fun E=>E 1=.ptr H.next 0 0 /\ E 2=.ptr (H.next+1) 0 0 /\ E 3=aa n /\ E 4=.ptr (H.next+3) 0 0 /\ E 5=ab P /\ E 10=aa i) (by simp only[go_sem,f1,f2,f3,f4,f5,h10]) fun E ⟨e1,e2,e3,e4,e5,e10⟩=>?_
  refine W.vs ?_;have hFn:=hF.1;have m0:=ak ((hF.2.1 H.next (by omega) (by omega)).trans g0');have m1:=ak ((hF.2.1 (H.next+1) (by omega) (by omega)).trans g1');have m3:=ak ((hF.2.1 (H.next+3) (by omega) (by omega)).trans g3');have m0':∀ L,(ext Hy L).live H.next 0=some (25,[.lit (.int .u8 g0),.vec ps.length (fH ps),.vec ord.length (bh ord)]):=fun L=>(fN (by omega)).trans m0;by_cases hb:(i:Int)<n
  ·obtain⟨pv,hpv⟩:=get_of_lt (l:=P) (i:=i) (by omega);have hpr:=hperm.rng pv (Vs hpv);obtain⟨v,rfl⟩:=VU hpr.1;have hnl:=L.len;obtain⟨x,hx⟩:=get_of_lt (l:=ns) (i:=v) (by omega);have hpne:=aJ hpv;have hiP:(i:Int)<P.length:=(by omega);have hP1:∀ k:Nat,k<n->∃ u:Nat,P[k]?=some (u:Int)/\u<n:=fun k hk=>by
    obtain⟨q,hq⟩:=get_of_lt (l:=P) (i:=k) (by omega);have:=hperm.rng q (Vs hq);obtain⟨u,rfl⟩:=VU this.1;exact⟨u,hq,by omega⟩
   have hpc:∀ (B:List AVal),B=(if (i:Int)<ps.length then (fH ps).drop (i*3) |>.take 3 else [.lit (.int .u8 0),.lit (.int .u8 0),.lit (.slice none 0 0)])->∃ (pc par:Int) (bs:List Int) (wv:AVal),B=[.lit (.int .u8 pc),.lit (.int .u8 par),wv]/\(par=(mz ps i).1/\bs=(mz ps i).2)/\U8 par/\(∀ b∈bs,U8 b)/\(bs.length:Int)<2 ^ 63/\wv.one=true/\wv.cells=[wv]/\∀ H0,Fz (fun _=>True) H0 0 wv (.vec bs.length (bh bs)):=by
    rintro B rfl;by_cases hp:(i:Int)<ps.length
    ·obtain⟨y,hy⟩:=get_of_lt (l:=ps) (i:=i) (by omega);have hyo:=hps y (Vs hy);rw[Vx hp,FS hy];exact⟨y.card,y.par,y.w,_,rfl,⟨by unfold mz;rw[hy],by unfold mz;rw[hy]⟩,hyo.2.1,hyo.2.2.2,hyo.2.2.1,rfl,rfl,fun H0=>.vec rfl fun i hi _=>by simp only[bh,VF];exact .lit _⟩
    ·rw[Vw hp];exact⟨0,0,[],_,rfl,⟨by unfold mz;rw[VB (by omega)],by unfold mz;rw[VB (by omega)]⟩,by unfold U8;omega,by simp,by simp,rfl,rfl,fun H0=>.nil⟩
   by_cases hp:(i:Int)<ps.length
   case' pos =>
    have hc1:i*3+3<=(fH ps).length:=(by rw[FT];omega);have hcne:¬ fH ps=[]:=fun h=>by rw[h]at hc1;simp at hc1
    rw[Vx hp]at hpc;obtain⟨pc,par,bs,wv,hc0,hpw,hpar,hbs,hbl,hwo,hwc,hwf⟩:=hpc _ rfl;simp only[go_sem,e1,e3,e5,e10,m0',hb,hp,hc0,hc1,hcne,hpv,hpne,hiP,hwo,Bool.and_true];obtain⟨Hz,hHz⟩:∃ Hz,Hz=ext Hy [.arr 0 71 [.lit (.int .u8 pc),.lit (.int .u8 par),wv]]:=⟨_,rfl⟩
    clear hpc hc0 hc1 hcne hp
   case' neg =>
    rw[Vw hp]at hpc;obtain⟨pc,par,bs,wv,hc0,hpw,hpar,hbs,hbl,hwo,hwc,hwf⟩:=hpc _ rfl;simp only[go_sem,e1,e3,e5,e10,m0',hb,hp,hpv,hpne,hiP];rw[hc0];obtain⟨Hz,hHz⟩:∃ Hz,Hz=ext Hy [.arr 0 71 [.lit (.int .u8 pc),.lit (.int .u8 par),wv]]:=⟨_,rfl⟩
    clear hpc hc0 hp
   all_goals
    rw[<- hHz];refine W.env fun E3 hE3=>?_;have k1:E3 1=.ptr H.next 0 0:=(by rw[hE3];simp only[go_sem,e1]);have k2:E3 2=.ptr (H.next+1) 0 0:=(by rw[hE3];simp only[go_sem,e2]);have k3:E3 3=aa n:=(by rw[hE3];simp only[go_sem,e3]);have k4:E3 4=.ptr (H.next+3) 0 0:=(by rw[hE3];simp only[go_sem,e4]);have k5:E3 5=ab P:=(by rw[hE3];simp only[go_sem,e5]);have k10:E3 10=aa i:=(by rw[hE3];simp only[go_sem,e10]);have k11:E3 11=.ptr Hy.next 0 0:=(by rw[hE3];simp only[go_sem]);have k12:E3 12=aa v:=(by rw[hE3];simp only[go_sem]);have k13:E3 13=aa 0:=(by rw[hE3];simp only[go_sem]);clear hE3;have nz:Hz.next=Hy.next+1:=(by rw[hHz];rfl);have z3:Hz.get (H.next+3)=some (.arr 0 36 [.lit (.int .i64 g),.own (H.next+2) 0 0 n 3]):=(by rw[hHz,dV _ _ _ (by omega)];exact(hF.2.1 (H.next+3) (by omega) (by omega)).trans g3');have zP:Hz.get Hy.next=some (.arr 0 71 [.lit (.int .u8 pc),.lit (.int .u8 par),wv]):=(by rw[hHz];exact cS);have zN:Hz.get (H.next+2)=some (.arr 0 53 (bJ ns)):=(by rw[hHz,dV _ _ _ (by omega)];exact hF.2.2);have zO:∀ id,id<H1.next->id≠H.next+2->Hz.get id=H1.get id:=fun id h1 h2=>by rw[hHz,dV _ _ _ (by omega)];exact hF.2.1 id h1 h2
    obtain⟨xr,xp⟩:=L.todo i v x (Nat.le_refl _) hpv hx;have hzl:=FU ns;have hvn:=get_lt hx;have hcx:(bJ ns)[v*3+1]?=some (.lit (.slice none 0 0)):=by
     have:=lp (f:=NodeP.cD) (z:=3) kE ns v 1 x hx (by omega);rw[show (bJ ns)[v*3+1]?=_ from this];unfold NodeP.cD;rw[Vx xr];rfl
    clear hHz e1 e2 e3 e4 e5 e10 f1 f2 f3 f4 f5 m0' m0 m1 m3;have vlt:(v:Int)<n:=hpr.2;have v0:(v:Int) >= 0:=hpr.1;have hset:∀ pv pv',setAt ((bJ ns).set (v*3+1) pv) (v*3+1) [pv']=(bJ ns).set (v*3+1) pv':=fun pv pv'=>by rw[jP (by rw[VG];omega),X2]
    have hgetc:∀ pv,((bJ ns).set (v*3+1) pv)[v*3+1]?=some pv:=fun pv=>VI (by omega);refine W.xq (Q':=fun e s2=>e=.exit 4/\∃ pv l,s2.ρ 1=.ptr H.next 0 0/\s2.ρ 2=.ptr (H.next+1) 0 0/\s2.ρ 3=aa n/\s2.ρ 4=.ptr (H.next+3) 0 0/\s2.ρ 5=ab P/\s2.ρ 10=aa i/\s2.ρ 11=.ptr Hy.next 0 0/\s2.ρ 12=aa v/\AW Hz s2.H (H.next+2) (v*3+1) (bJ ns) pv l/\ParU P i n 0 l/\l=kF par P i n 0) ?_ ?_
    ·refine W.aG 44601490397061167054908922280959129468035072 (by rfl) (fun ρ Hu=>∃ (u:Nat) (pv:AVal) (l:List Int),ρ 13=aa u/\u<=n/\AW Hz Hu (H.next+2) (v*3+1) (bJ ns) pv l/\ParU P i u 0 l/\l=kF par P i u 0) (fun ρ H=>n - (iv (ρ 13)).toNat) ?_ ?_
     ·simp only[go_sem,k13];refine⟨0,.lit (.slice none 0 0),[],rfl,by omega,⟨⟨Nat.le_refl _,fun _ _ _=>rfl,?_⟩,.nil⟩,⟨by simp,by simp,by simp,by simp⟩,rfl⟩;rw[zN,oY hcx]
     rintro ρu Hu ⟨u,pv,l,h13,hu,hS,hL,hPk⟩;refine W.env fun E4 hE4=>?_;have q3:E4 3=aa n:=(by rw[hE4];simp only[go_sem,k3]);have q4:E4 4=.ptr (H.next+3) 0 0:=(by rw[hE4];simp only[go_sem,k4]);have q5:E4 5=ab P:=(by rw[hE4];simp only[go_sem,k5]);have q10:E4 10=aa i:=(by rw[hE4];simp only[go_sem,k10]);have q11:E4 11=.ptr Hy.next 0 0:=(by rw[hE4];simp only[go_sem,k11]);have q12:E4 12=aa v:=(by rw[hE4];simp only[go_sem,k12]);have q13:E4 13=aa u:=(by rw[hE4];simp only[go_sem,h13]);have q1:E4 1=.ptr H.next 0 0:=(by rw[hE4];simp only[go_sem,k1]);have q2:E4 2=.ptr (H.next+1) 0 0:=(by rw[hE4];simp only[go_sem,k2]);clear hE4;refine W.vs ?_;by_cases hub:(u:Int)<n
     ·have u1:=Vt ((u:Int)+1) (by omega);simp only[go_sem,q3,q13,hub];refine W.aG 44601490397058710981870980086493729605566464 (by rfl) (fun ρ Hk=>∃ (k:Nat) (pv:AVal) (l:List Int),ρ 14=aa k/\k<=i/\Hu.next<=Hk.next/\AW Hz Hk (H.next+2) (v*3+1) (bJ ns) pv l/\ParU P i u k l/\l=kF par P i u k) (fun ρ H=>i - (iv (ρ 14)).toNat) ?_ ?_
      ·simp only[go_sem];exact⟨0,pv,l,rfl,by omega,hS,hL,hPk⟩
      clear hS hL hPk;rintro ρk Hk ⟨k,pv,l,h14,hk,hnk,hS,hL,hPk⟩;refine W.env fun E5 hE5=>?_;have r4:E5 4=.ptr (H.next+3) 0 0:=(by rw[hE5];simp only[go_sem,q4]);have r5:E5 5=ab P:=(by rw[hE5];simp only[go_sem,q5]);have r10:E5 10=aa i:=(by rw[hE5];simp only[go_sem,q10]);have r11:E5 11=.ptr Hy.next 0 0:=(by rw[hE5];simp only[go_sem,q11]);have r12:E5 12=aa v:=(by rw[hE5];simp only[go_sem,q12]);have r13:E5 13=aa u:=(by rw[hE5];simp only[go_sem,q13]);have r14:E5 14=aa k:=(by rw[hE5];simp only[go_sem,h14]);clear hE5;refine W.vs ?_;by_cases hki:(k:Int)<i
      ·obtain⟨hFz,hOz⟩:=hS;have hFz1:=hFz.1;obtain⟨a,ha,han⟩:=hP1 k (by omega);have hane:=aJ ha;have hkP:(k:Int)<P.length:=(by omega);have s1:=Vt ((k:Int)+1) (by omega);have s2:=Wl (k:Int) (by omega);have y3:=ak ((hFz.2.1 (H.next+3) (by omega) (by omega)).trans z3);have yP:=ak ((hFz.2.1 Hy.next (by omega) (by omega)).trans zP);have yN:=ak hFz.2.2;have hgc:=hgetc pv;have hcne2:=aJ hgc;obtain⟨r2,hr2e⟩:∃ r2,r2=FY par k:=⟨_,rfl⟩
       obtain⟨r1,hr1e⟩:∃ r1,r1=par.fdiv (2 ^ (min ((k:Int)).toNat IntKind.u8.bits)):=⟨_,rfl⟩
       have hr1:∀ t o1 o2,aU Tryd.prog .shr t o1 o2 (.lit (.int .u8 par)) (.lit (.int .u64 (k:Int)))=some (.lit (.int .u8 r1)):=fun _ _ _=>by rw[hr1e];exact ru (by omega)
       have hr2:∀ t o1 o2,aU Tryd.prog .and t o1 o2 (.lit (.int .u8 r1)) (.lit (.int .u8 1))=some (.lit (.int .u8 r2)):=fun _ _ _=>by rw[hr2e,hr1e];exact tB
       have hlen:=TB hOz (d:=some (.slice 3)) rfl;rw[yu,aR]at hlen;by_cases hau:(a:Int)=u
       ·have hau':a=u:=(by omega);by_cases hr:r2=1
        ·by_cases hl3:(l.length:Int)<3
         ·simp only[go_sem,r4,r5,r10,r11,r12,r13,r14,hki,ha,hane,hkP,s2,y3,yP,yN,hgc,hr1,hr2,hlen,hau,hr,hl3,vlt,v0];obtain⟨pv',Hj,hA,hO',hn',hpr'⟩:=jc (P:=Tryd.prog) (H:=Hk) (t:=39) (x:=aa u) (n:=Hk.next+1) Tryd.underlying39 Tryd.fh Tryd.fR rfl (by rw[Tryd.gL,aR];omega) hOz hFz1 rfl;simp only[aa]at hA;have keep:∀ id,id<Hz.next->Hj.get id=Hk.get id:=fun id h=>hpr' id (by omega) (hOz.ne h);have y3j:=ak ((keep _ (by omega)).trans ((hFz.2.1 (H.next+3) (by omega) (by omega)).trans z3));have yNj:=ak ((keep _ (by omega)).trans hFz.2.2);refine W.draw 12 [0,1,0,0,8,0,56,120,248,0,512,2040] Tryd.mixed (by kernel_rfl) (by kernel_rfl) ?_;simp only[go_sem,r4,r12,r13,r14,y3,yN,yNj,hgc,vlt,v0,hA,s1];have hdj:mO (if kO pv=true then { eff:=aI pv,rs:=aI pv++[Hk.next] } else { eff:=[Hk.next+1],rs:=[Hk.next] }) { eff:=[],rs:=[H.next+3] }:=by
           rcases hOz with ⟨hO1,_⟩|⟨id,gg,hO1,hO2,hO3,_⟩
           ·rw[hO1];show mO { eff:=[Hk.next+1],rs:=[Hk.next] } _;exact⟨fun a ha=>by (obtain rfl:a=Hk.next+1:=by simpa using ha);simp;omega,fun a ha=>by simp at ha⟩
           ·rw[hO3];show mO { eff:=[id],rs:=[id]++[Hk.next] } _;exact⟨fun a ha=>by (obtain rfl:a=id:=by simpa using ha);simp;omega,fun a ha=>by simp at ha⟩
          have hpc1:=hO'.cells;rw[hpc1];refine⟨⟨by omega,by omega,by omega,by omega,by omega,by omega,by omega⟩,⟨hdj,hdj⟩,⟨rfl,by simp [hO'.one],by rw[VG];simp;omega⟩,by rw[aE];omega,⟨k+1,pv',l++[(u:Int)],rfl,by omega,by rw[aE];omega,⟨⟨by rw[aE];omega,fun id h1 h2=>by rw[ag,Vw h2,keep _ h1];exact hFz.2.1 id h1 h2,?_⟩,?_⟩,hL.add hperm (by omega) (by rw[ha,hau]) (by omega),by rw[wS,<- hPk];unfold oU;rw[Vx ⟨by rw[ha,hau],by rw[<- hr2e];exact hr,by omega⟩]⟩,by rw[h14];simp only[aa,aN];omega⟩
          ·rw[ag,Vx rfl,hset]
          ·have:=hO'.keep (lo':=Hz.next) (H':=Hj.upd (H.next+2) (.arr 0 53 (setAt ((bJ ns).set (v*3+1) pv) (v*3+1) [pv']))) (Nat.le_refl _) (Nat.le_refl _) fun id _ h1 _ _ _=>by rw[ag,Vw (by omega)]
           simpa [ints,aa] using this
         ·simp only[go_sem,r4,r5,r10,r11,r12,r13,r14,hki,ha,hane,hkP,s1,s2,y3,yP,yN,hgc,hr1,hr2,hlen,hau,hr,hl3,vlt,v0];exact⟨hnk,⟨k+1,pv,l,rfl,by omega,hnk,⟨hFz,hOz⟩,hL.skip,by rw[wS,<- hPk];unfold oU;rw[Vw fun h=>hl3 (by have:=h.2.2;omega)]⟩,by rw[h14];simp only[aa,aN];omega⟩
        ·simp only[go_sem,r5,r10,r11,r13,r14,hki,ha,hane,hkP,s1,s2,yP,hr1,hr2,hau,hr];exact⟨hnk,⟨k+1,pv,l,rfl,by omega,hnk,⟨hFz,hOz⟩,hL.skip,by rw[wS,<- hPk];unfold oU;rw[Vw fun h=>hr (by rw[hr2e];exact h.2.1)]⟩,by rw[h14];simp only[aa,aN];omega⟩
       ·simp only[go_sem,r5,r10,r13,r14,hki,ha,hane,hkP,s1,hau];exact⟨hnk,⟨k+1,pv,l,rfl,by omega,hnk,⟨hFz,hOz⟩,hL.skip,by rw[wS,<- hPk];unfold oU;rw[Vw fun h=>hau (by have h1:=h.1;rw[ha]at h1;exact Option.some.inj h1)]⟩,by rw[h14];simp only[aa,aN];omega⟩
      ·obtain rfl:k=i:=(by omega);simp only[go_sem,r10,r13,r14,hki,u1];exact⟨by have:=hS.1.1;omega,⟨u+1,pv,l,rfl,by omega,hS,hL.next,by rw[TG];exact hPk⟩,by rw[h13];simp only[aa,aN];omega⟩
     ·obtain rfl:u=n:=(by omega);simp only[go_sem,q1,q2,q3,q4,q5,q10,q11,q12,q13,hub];exact⟨pv,l,hS,hL,hPk⟩
    ·rintro e s2 ⟨rfl,pv,l,a1,a2,a3,a4,a5,a10,a11,a12,⟨hFz,hOz⟩,hL,hPk⟩;have hFz1:=hFz.1;obtain⟨rk,hrk,hfz⟩:∃ rk,Hz.next<=rk/\Fz (fun id=>id=rk) s2.H s2.H.next pv (ab l):=by
      rcases hOz with ⟨hO1,hO2⟩|⟨id,gg,hO1,hO2,hO3,hO4⟩
      ·have:l=[]:=by cases l with
        | nil=>rfl
        | cons b l=>simp [ints]at hO2
       rw[hO1,this];exact⟨s2.H.next,hFz1,.nil⟩
      ·refine⟨id,hO1,?_⟩;rw[hO3,aR];refine .frz rfl hO4 (by rw[Nat.mul_one,aR]) fun j hj h2 h'=>?_;simp only[Nat.zero_add,ints,VF];exact .lit _
     have hne2:H.next+2≠rk:=(by omega);refine⟨⟨s2.ρ,s2.H.fq rk (H.next+2) (.arr 0 53 ((bJ ns).set (v*3+1) (ab l)))⟩,dD.fq aT hFz.2.2 hne2 (by simp) (GO (FX ns) hfz),Nat.le_refl _,trivial,?_⟩;obtain⟨Hm,hHm⟩:∃ Hm,Hm=s2.H.fq rk (H.next+2) (.arr 0 53 ((bJ ns).set (v*3+1) (ab l))):=⟨_,rfl⟩
     rw[<- hHm];have hFm:my Hz Hm (H.next+2) ((bJ ns).set (v*3+1) (ab l)):=by
      rw[hHm];exact⟨hFz1,fun id h1 h2=>(Be (by omega) h2).trans (hFz.2.1 id h1 h2),Bd hne2⟩
     clear hFz hOz hfz hHm hne2 hrk;simp only[go_sem];refine W.env fun E6 hE6=>?_;have y1:E6 1=.ptr H.next 0 0:=(by rw[hE6];simp only[go_sem,a1]);have y2:E6 2=.ptr (H.next+1) 0 0:=(by rw[hE6];simp only[go_sem,a2]);have y3:E6 3=aa n:=(by rw[hE6];simp only[go_sem,a3]);have y4:E6 4=.ptr (H.next+3) 0 0:=(by rw[hE6];simp only[go_sem,a4]);have y5:E6 5=ab P:=(by rw[hE6];simp only[go_sem,a5]);have y10:E6 10=aa i:=(by rw[hE6];simp only[go_sem,a10]);have y11:E6 11=.ptr Hy.next 0 0:=(by rw[hE6];simp only[go_sem,a11]);have y12:E6 12=aa v:=(by rw[hE6];simp only[go_sem,a12]);have y15:E6 15=aa 0:=(by rw[hE6];simp only[go_sem]);clear hE6 a1 a2 a3 a4 a5 a10 a11 a12;have lsm:eQ (aP cs l):=rm (by rw[iU];have:=hL.p3;omega) fun c hc=>by
      unfold aP at hc;obtain⟨q,hq,rfl⟩:=VN.1 hc;have hqr:=hL.rng q hq;obtain⟨c,hc⟩:=get_of_lt (l:=cs) (i:=q.toNat) (by rw[csl];rcases hqr.2 with h|⟨_,k',h,_⟩<;>omega);rw[bf hc];have:=hc23 c (Vs hc);omega
     have lpos:0<aA (aP cs l)/\aA (aP cs l)<=27:=by
      have c3:∀ c∈aP cs l,1<=c/\c<=3:=fun c hc=>by
       unfold aP at hc;obtain⟨q,hq,rfl⟩:=VN.1 hc;have hqr:=hL.rng q hq;obtain⟨c,hc⟩:=get_of_lt (l:=cs) (i:=q.toNat) (by rw[csl];rcases hqr.2 with h|⟨_,k',h,_⟩<;>omega);rw[bf hc];have:=hc23 c (Vs hc);omega
      have h1:=mq fun c hc=>(c3 c hc).1;have h2:=(oO (b:=3) (by omega) fun c hc=>⟨by have:=(c3 c hc).1;omega,(c3 c hc).2⟩).2;have h3:(3:Int) ^ (aP cs l).length<=3 ^ 3:=by
       have:(3:Nat) ^ (aP cs l).length<=3 ^ 3:=VT (by decide) (by rw[iU];exact hL.p3)
       exact_mod_cast this
      omega
     obtain⟨R,hR⟩:=VU (show 0<=aA (aP cs l) by omega);have hxc:2<=x.card/\x.card<=3:=hc23 x.card (by rw[<- L.cards];exact Vs (cN hx));have hFm1:=hFm.1;have w3:Hm.get (H.next+3)=some (.arr 0 36 [.lit (.int .i64 g),.own (H.next+2) 0 0 n 3]):=(hFm.2.1 _ (by omega) (by omega)).trans z3;have wP:Hm.get Hy.next=some (.arr 0 71 [.lit (.int .u8 pc),.lit (.int .u8 par),wv]):=(hFm.2.1 _ (by omega) (by omega)).trans zP;obtain⟨C1,hC1⟩:∃ C1,C1=(bJ ns).set (v*3+1) (ab l):=⟨_,rfl⟩
     have c1l:C1.length=ns.length*3:=(by rw[hC1,VG,hzl]);have hcx2:C1[v*3+2]?=some (.lit (.slice none 0 0)):=by
      have:=lp (f:=NodeP.cD) (z:=3) kE ns v 2 x hx (by omega);rw[hC1,VS (by omega),show (bJ ns)[v*3+2]?=_ from this];unfold NodeP.cD;rw[Vx xr];rfl
     have hcx0:C1[v*3]?=some (aa x.card):=(by rw[hC1,VS (by omega)];exact FV hx);rw[<- hC1]at hFm;have hset2:∀ rv rv',setAt (C1.set (v*3+2) rv) (v*3+2) [rv']=C1.set (v*3+2) rv':=fun rv rv'=>by rw[jP (by rw[VG];omega),X2]
     have hgc2:∀ rv,(C1.set (v*3+2) rv)[v*3+2]?=some rv:=fun rv=>VI (by omega);have hgc0:∀ rv,(C1.set (v*3+2) rv)[v*3]?=some (aa x.card):=fun rv=>by rw[VS (by omega)];exact hcx0
     refine W.xq (Q':=fun e s2=>e=.exit 8/\∃ (rv:AVal) (rows:List (List Int)),s2.ρ 1=.ptr H.next 0 0/\s2.ρ 2=.ptr (H.next+1) 0 0/\s2.ρ 3=aa n/\s2.ρ 4=.ptr (H.next+3) 0 0/\s2.ρ 5=ab P/\s2.ρ 10=aa i/\rows.length=R/\rows=ra g x.card bs R/\(∀ r∈rows,kG g x.card r)/\my Hm s2.H (H.next+2) (C1.set (v*3+2) rv)/\aC Hm.next s2.H 39 rv (rows.map ab)) ?_ ?_
     ·refine W.aG 98079714615372285444537148491336716315054007096738611200 (by rfl) (fun ρ Hr=>∃ (r:Nat) (rv:AVal) (rows:List (List Int)),ρ 15=aa r/\r<=R/\rows.length=r/\rows=ra g x.card bs r/\(∀ r∈rows,kG g x.card r)/\my Hm Hr (H.next+2) (C1.set (v*3+2) rv)/\aC Hm.next Hr 39 rv (rows.map ab)) (fun ρ H=>R - (iv (ρ 15)).toNat) ?_ ?_
      ·simp only[go_sem,y15];refine⟨0,.lit (.slice none 0 0),[],rfl,by omega,rfl,rfl,by simp,⟨Nat.le_refl _,fun _ _ _=>rfl,?_⟩,.nil⟩;rw[hFm.2.2,oY hcx2]
      rintro ρr Hr ⟨r,rv,rows,h15,hr,hrl,hrD,hrows,hFr,hOr⟩;refine W.env fun E7 hE7=>?_;have b1:E7 1=.ptr H.next 0 0:=(by rw[hE7];simp only[go_sem,y1]);have b2:E7 2=.ptr (H.next+1) 0 0:=(by rw[hE7];simp only[go_sem,y2]);have b3:E7 3=aa n:=(by rw[hE7];simp only[go_sem,y3]);have b4:E7 4=.ptr (H.next+3) 0 0:=(by rw[hE7];simp only[go_sem,y4]);have b5:E7 5=ab P:=(by rw[hE7];simp only[go_sem,y5]);have b10:E7 10=aa i:=(by rw[hE7];simp only[go_sem,y10]);have b11:E7 11=.ptr Hy.next 0 0:=(by rw[hE7];simp only[go_sem,y11]);have b12:E7 12=aa v:=(by rw[hE7];simp only[go_sem,y12]);have b15:E7 15=aa r:=(by rw[hE7];simp only[go_sem,h15]);clear hE7;refine W.vs ?_;have hFr1:=hFr.1;have v3:=ak ((hFr.2.1 (H.next+3) (by omega) (by omega)).trans w3);have vP:=ak ((hFr.2.1 Hy.next (by omega) (by omega)).trans wP);have vN:=ak hFr.2.2;have hzp:∀ z∈ns,z.rows=[]->z.parents=[]:=fun z hz hz0=>by
       obtain⟨u,hu⟩:=V0.1 hz;have hm:=wQ ord n u (by have:=get_lt hu;omega);rw[<- hP]at hm;obtain⟨j,hj⟩:=V0.1 hm;rcases VR j i with h|h
       ·exact absurd hz0 (L.done j u z h hj hu).ne
       ·exact(L.todo j u z h hj hu).2
      have hcard:af (ns.set v ⟨x.card,l,rows⟩)=cs:=by
       have h1:af (ns.set v ⟨x.card,l,rows⟩)=(af ns).set v x.card:=(by unfold af;rw[Ys]);rw[h1,oY (cN hx),L.cards]
      have hpar:aQ (ns.set v ⟨x.card,l,rows⟩) ⟨x.card,l,rows⟩=aP cs l:=(by unfold aQ;rw[hcard]);have fzN:Fz (fun _=>True) Hr 0 (.agg [aa g,.own (H.next+2) 0 0 n 3]) (aZ g (ns.set v ⟨x.card,l,rows⟩)):=by
       refine .agg rfl fun i hi _=>?_
       match i,hi with
       | 0,_=>exact .lit _
       | 1,_ =>
        show Fz _ _ _ _ (.vec (ns.set v ⟨x.card,l,rows⟩).length (au (ns.set v ⟨x.card,l,rows⟩)));rw[VG,hnl,TA (y:=⟨x.card,l,rows⟩) hx rfl];refine .frz trivial hFr.2.2 (by rw[VG,VG,fT];omega) fun j hj h2 h'=>?_;simp only[Nat.zero_add];refine FW (A:=C1) (B:=(au ns).set (v*3+1) (ab l)) ?_ ?_ j _ _
        ·rw[hC1];exact FW (Ty ns hzp) (.ef _)
        ·have:=hOr.fz (S:=fun _=>True) (nx:=0) (cs':=rows.map ab) (fun _ _=>trivial) rfl fun i hi _=>by simp only[VF];exact .ef _
         rw[VD]at this;exact this
      simp only[go_sem,b4,b12,b15,v3];refine aw.clo ((ae.frame (H:=Hr) (args:=[.agg [aa g,.own (H.next+2) 0 0 n 3],aa v]) (args':=[aZ g (ns.set v ⟨x.card,l,rows⟩),aa v]) (v':=ab (aP cs l)) aT rfl (fun i hi _=>?_) (TD g (ns.set v ⟨x.card,l,rows⟩) v ⟨x.card,l,rows⟩ (VI hvn) (by rw[VG];omega) (by show (l.length:Int)<_;have:=hL.p3;omega) (fun q hq=>by
        have hqr:=hL.rng q hq;rw[VG];rcases hqr.2 with h|⟨_,k',h,_⟩<;>omega) cL _ fun w Hq _ ho=>⟨_,rfl,by rw[hpar]at ho;exact ho.tz⟩)).mono fun r1 H1' hr1=>?_)
      ·match i,hi with
       | 0,_=>exact fzN
       | 1,_=>exact .lit _
      obtain⟨rfl,rfl⟩:=hr1;refine⟨trivial,?_⟩;simp only[go_sem];refine aw.clo (A1 (aP cs l) lsm _ _ ⟨trivial,?_⟩);rw[hR];by_cases hrR:(r:Int)<R
      ·simp only[go_sem,hrR];obtain⟨xn,hxn⟩:=VU (show 0<=x.card by omega);have rc:0<=(r:Int)*(x.card+1)/\(r:Int)*(x.card+1)<=27*4:=⟨WE (by omega) (by omega),W7 (by omega) (by omega) (by omega) (by omega)⟩
       have c1:=Vt (x.card+1) (by omega);have c2:=Vt ((r:Int)*(x.card+1)) (by omega);have c3:=Vt ((r:Int)+1) (by omega);have hg2:=hgc2 rv;have hg0':=hgc0 rv;have hg2n:=aJ hg2;obtain⟨row,hrow⟩:∃ row,row=nL g xn bs ((r:Int)*(x.card+1)):=⟨_,rfl⟩
       have hrok:kG g x.card row:=(by rw[hrow,hxn];exact Tu hg1.1 (by omega) _ _);have hpc84:∀ Hq,df Tryd.prog G0 (.clo 24 [] []) [aa g,aa x.card,wv,aa ((r:Int)*(x.card+1))] Hq (ab row) []:=fun Hq=>by
        refine df.mk (fun i hi=>by cases hi) fun H2 _ _=>?_;refine ae.frame (H:=H2) (args:=[aa g,aa x.card,wv,aa ((r:Int)*(x.card+1))]) (args':=[aa g,aa xn,.vec bs.length (bh bs),aa ((r:Int)*(x.card+1))]) (v':=ab row) aT rfl (fun i hi _=>?_) (Tv g xn hg1 (by omega) bs hbl hbs _ (by omega) cL _ fun w Hw _ ho=>⟨_,rfl,by rw[hrow];exact ho.tz⟩)
        match i,hi with
        | 0,_=>exact .lit _
        | 1,_=>rw[hxn];exact .lit _
        | 2,_=>exact hwf _
        | 3,_=>exact .lit _
       obtain⟨rv',Hj,hA,hO',hn',hpr'⟩:=jc (P:=Tryd.prog) (H:=H1') (t:=40) (x:=ab row) (n:=H1'.next+1) Tryd.underlying40 Tryd.qL Tryd.qN rfl (by rw[Tryd.qM,VD];omega) hOr hFr1 rfl;have keep:∀ id,id<Hm.next->Hj.get id=H1'.get id:=fun id h=>hpr' id (by omega) (hOr.ne h);have v3j:=ak ((keep _ (by omega)).trans ((hFr.2.1 (H.next+3) (by omega) (by omega)).trans w3));have vNj:=ak ((keep _ (by omega)).trans hFr.2.2);have hA':bM Tryd.prog (ext H1' [.arr 0 39 [.vec row.length (ints row)]]) (H1'.next+1) 40 40 rv (.own H1'.next 0 0 1 1)=some (rv',Hj):=hA;refine W.draw 31 [0,1,0,0,8,0,56,120,248,0,512,0,2048,0,14336,30720,63488,0,131072,0,0,1048576,0,7340032,15728640,32505856,66060288,133693440,268434944,536870400,1073741816] Tryd.mixed (by kernel_rfl) (by kernel_rfl) ?_;simp only[go_sem,b4,b11,b12,b15,v3,vP,vN,hg2,hg0',vlt,v0,c1,c2];refine⟨ab row,[],hpc84 _,?_⟩;simp only[go_sem,b4,b11,b12,b15,vNj,vlt,v0,c3,hA'];have hdj:mO (if kO rv=true then { eff:=aI rv,rs:=aI rv++[H1'.next] } else { eff:=[H1'.next+1],rs:=[H1'.next] }) { eff:=[],rs:=[H.next+3] }:=by
        rcases hOr with ⟨hO1,_⟩|⟨id,gg,hO1,hO2,hO3,_⟩
        ·rw[hO1];show mO { eff:=[H1'.next+1],rs:=[H1'.next] } _;exact⟨fun a ha=>by (obtain rfl:a=H1'.next+1:=by simpa using ha);simp;omega,fun a ha=>by simp at ha⟩
        ·rw[hO3];show mO { eff:=[id],rs:=[id]++[H1'.next] } _;exact⟨fun a ha=>by (obtain rfl:a=id:=by simpa using ha);simp;omega,fun a ha=>by simp at ha⟩
       rw[hO'.cells];refine⟨⟨by omega,by omega,by omega,by omega,by omega,by omega,by omega⟩,⟨hdj,hdj⟩,⟨rfl,by simp [hO'.one],by rw[VG,c1l];simp;omega⟩,by rw[aE];omega,⟨r+1,rv',rows++[row],rfl,by omega,by simp [hrl],by rw[TH,<- hrD,hrow,show x.card.toNat=xn by omega],fun q hq=>?_,⟨by rw[aE];omega,fun id h1 h2=>by rw[ag,Vw h2,keep _ h1];exact hFr.2.1 id h1 h2,?_⟩,?_⟩,by rw[h15];simp only[aa,aN];omega⟩
       ·rcases VP.1 hq with h|h
        ·exact hrows q h
        ·obtain rfl:=List.mem_singleton.1 h;exact hrok
       ·rw[ag,Vx rfl,hset2]
       ·have:=hO'.keep (lo':=Hm.next) (H':=Hj.upd (H.next+2) (.arr 0 53 (setAt (C1.set (v*3+2) rv) (v*3+2) [rv']))) (Nat.le_refl _) (Nat.le_refl _) fun id _ h1 _ _ _=>by rw[ag,Vw (by omega)]
        simpa using this
      ·simp only[go_sem,b1,b2,b3,b4,b5,b10,hrR];exact⟨rv,rows,by omega,by rw[hrD];congr 1;omega,hrows,hFr,hOr⟩
     ·rintro e s3 ⟨rfl,rv,rows,a1,a2,a3,a4,a5,a10,hrl,hrD,hrows,hFr,hOr⟩;have hFr1:=hFr.1;obtain⟨rk,hrk,hfz⟩:∃ rk,Hm.next<=rk/\Fz (fun id=>id=rk) s3.H s3.H.next rv (aB rows):=by
       rcases hOr with ⟨hO1,hO2⟩|⟨id,gg,hO1,hO2,hO3,hO4⟩
       ·have:rows=[]:=by cases rows with
         | nil=>rfl
         | cons b l=>simp at hO2
        rw[hO1,this];exact⟨s3.H.next,hFr1,.nil⟩
       ·refine⟨id,hO1,?_⟩;rw[hO3,VD];refine .frz rfl hO4 (by rw[Nat.mul_one,VD]) fun j hj h2 h'=>?_;simp only[Nat.zero_add,VF];exact .ef _
      have hne2:H.next+2≠rk:=(by omega);have hC1z:∀ c∈C1,Fz (fun id=>id=rk) s3.H s3.H.next c c:=fun c hc=>by
       rw[hC1]at hc;rcases Wy hc with h|h
       ·exact FX ns c h
       ·rw[h];exact .ef _
      refine⟨⟨s3.ρ,s3.H.fq rk (H.next+2) (.arr 0 53 (C1.set (v*3+2) (aB rows)))⟩,dD.fq aT hFr.2.2 hne2 (by simp) (GO hC1z hfz),Nat.le_refl _,trivial,?_⟩;obtain⟨He,hHe⟩:∃ He,He=s3.H.fq rk (H.next+2) (.arr 0 53 (C1.set (v*3+2) (aB rows))):=⟨_,rfl⟩
      rw[<- hHe];have hFe:my Hm He (H.next+2) (C1.set (v*3+2) (aB rows)):=by
       rw[hHe];exact⟨hFr1,fun id h1 h2=>(Be (by omega) h2).trans (hFr.2.1 id h1 h2),Bd hne2⟩
      clear hFr hOr hfz hHe hne2 hrk;have hFe1:=hFe.1;have i1:=Vt ((i:Int)+1) (by omega);simp only[go_sem,a10,i1];have hiv:∀ j u:Nat,P[j]?=some (u:Int)->u=v->j=i:=fun j u h1 h2=>by
       subst h2;exact(W4 (get_lt h1) hperm.nd).1 (by rw[h1,hpv])
      have hrne:rows≠[]:=fun h=>by rw[h]at hrl;simp at hrl;omega
      have hdone:DoneN g cs P n i ⟨x.card,l,rows⟩:=⟨⟨hL.pw,fun q hq=>⟨(hL.rng q hq).1,by rcases(hL.rng q hq).2 with h|⟨_,k',h,_⟩<;>omega⟩⟩,hL.p3,hL.rk,by show (rows.length:Int)=_;rw[hrl,hR],hrows,hrne⟩
      refine⟨by omega,⟨i+1,ns.set v ⟨x.card,l,rows⟩,rfl,by omega,⟨by rw[VG];exact hnl,?_,fun j u z hj hu hz=>?_,fun j u z hj hu hz=>?_,fun j u z hj hu hz=>?_,fun j u z hu hz=>?_⟩,by omega,by omega,fun id h1 h2=>?_,?_⟩,by rw[h10];simp only[aa,aN];omega⟩
      ·have h1:af (ns.set v ⟨x.card,l,rows⟩)=(af ns).set v x.card:=(by unfold af;rw[Ys]);rw[h1,oY (cN hx),L.cards]
      ·have huv:¬ u=v:=fun h=>by have:=hiv j u hu h;omega
       rw[VS (by omega)]at hz;exact L.todo j u z (by omega) hu hz
      ·by_cases huv:u=v
       ·obtain rfl:=hiv j u hu huv;rw[huv,VI hvn]at hz;cases hz;exact hdone
       ·rw[VS (by omega)]at hz;have:j≠i:=fun h=>by
         rw[h,hpv]at hu;exact huv (by have:=Option.some.inj hu;omega)
        exact L.done j u z (by omega) hu hz
      ·by_cases huv:u=v
       ·obtain rfl:=hiv j u hu huv;rw[huv,VI hvn]at hz;rw[<- Option.some.inj hz];unfold AV;rw[<- L.cd j v x hpv hx,<- hpw.1,<- hpw.2,<- hPk,hR,hrD];rfl
       ·rw[VS (by omega)]at hz;have:j≠i:=fun h=>by
         rw[h,hpv]at hu;exact huv (by have:=Option.some.inj hu;omega)
        exact L.eq j u z (by omega) hu hz
      ·by_cases huv:u=v
       ·obtain rfl:=hiv j u hu huv;rw[huv,VI hvn]at hz;rw[<- Option.some.inj hz];exact L.cd j v x hpv hx
       ·rw[VS (by omega)]at hz;exact L.cd j u z hu hz
      ·rw[hFe.2.1 id (by omega) h2,hFm.2.1 id (by omega) h2];exact zO id h1 h2
      ·rw[hFe.2.2,TI (y:=⟨x.card,l,rows⟩) hx rfl hrne,hC1]
  ·obtain rfl:i=n:=(by omega);simp only[go_sem,e2,e3,e4,e10,hb,m1,m3];have hnl:=L.len;have hall:∀ v:Nat,v<ns.length->(v:Int)∈P:=fun v hv=>by rw[hP];exact wQ ord i v (by omega)
   have hdn:∀ (v:Nat) (x:NodeP),ns[v]?=some x->∃ j,DoneN g cs P i j x:=fun v x hx=>by
    obtain⟨j,hj⟩:=V0.1 (hall v (get_lt hx));exact⟨j,L.done j v x (by have:=get_lt hj;have:=hperm.len;omega) hj hx⟩
   have hdm:∀ x∈ns,∃ j,DoneN g cs P i j x:=fun x hx=>by
    obtain⟨v,hv⟩:=V0.1 hx;exact hdn v x hv
   have ov:Over H (Hy.upd (H.next+1) (.arr 0 36 [.lit (.int .i64 g),.own (H.next+2) 0 0 i 3])):=⟨by rw[aE];omega,fun id h=>by rw[ag,Vw (by omega),hF.2.1 id (by omega) (by omega)];exact o1.old id h⟩
   have hz:bJ ns=au ns:=Tw fun x hx=>(hdm x hx).elim fun j hj=>hj.ne;have hcl8:∀ x∈ns,2<=x.card/\x.card<=3:=fun x hx=>hc23 x.card (by rw[<- L.cards];exact VN.2 ⟨x,hx,rfl⟩);have hnet:NetOk g ns:=by
    refine⟨hg1,by omega,fun x hx=>?_,?_,TE (P:=P) (by rw[hnl];exact hperm) hall fun j v x hj hx q hq=>?_,fun x hx=>?_⟩
    ·obtain⟨j,hj⟩:=hdm x hx;have:=hcl8 x hx;exact⟨by omega,by rw[hnl];exact hj.pl⟩
    ·have h2:=(oO (b:=3) (by omega) (l:=af ns) fun c hc=>by have:=hc23 c (by rw[<- L.cards];exact hc);omega).2;have h3:(3:Int) ^ (af ns).length<=3 ^ 5:=by
      have:(3:Nat) ^ (af ns).length<=3 ^ 5:=VT (by decide) (by rw[bK];omega)
      exact_mod_cast this
     omega
    ·have hd:=L.done j v x (by have:=get_lt hj;have:=hperm.len;omega) hj hx;exact⟨(hd.pl.2 q hq).1,hd.rk q hq⟩
    ·obtain⟨j,hj⟩:=hdm x hx;unfold ju aQ;rw[L.cards];exact⟨hj.rl,hj.ro⟩
   rw[<- hnl];rw[<- hnl]at ov;refine av.mk ov.next (hK g ns (H.next+2) _ ov (by omega) (by rw[aE];omega) ?_ hnet (by omega) (fun x hx=>?_) (fun x hx=>?_) ⟨hg.symm,by rw[hnl];exact hn.symm,by rw[L.cards,hnl,<- hP];exact fun j v x hj hx=>L.eq j v x (by have:=get_lt hj;have:=hperm.len;omega) hj hx,by rw[hnl,<- hP];exact L.cd⟩)
   ·rw[ag,Vw (by omega),hF.2.2,hz]
   ·obtain⟨j,hj⟩:=hdm x hx;exact hj.p3
   ·have:=hc23 x.card (by rw[<- L.cards];unfold af;exact List.mem_map_of_mem hx);omega
theorem TL (g0:Int)(ps:List DrP)(ord:List Int)(hg0:U8 g0)(hps:∀ x∈ps,x.Ok)(hpl:(ps.length:Int)<2 ^ 63)(hol:(ord.length:Int)<2 ^ 63)(ho8:∀ x∈ord,U8 x)(H:AHeap)(K:ARes->AHeap->Prop)
  (hK:∀ g ns N H',Over H H'->H.next<=N->N<H'.next->H'.get N=some (.arr 0 53 (au ns))->NetOk g ns->ns.length<=5->(∀ x∈ns,x.parents.length<=3)->(∀ x∈ns,2<=x.card)->K (.ret (.agg [aa g,.own N 0 0 ns.length 3])) H'):
  ae Tryd.prog G0 5 [AT g0 ps ord] H K:=TK g0 ps ord hg0 hps hpl hol ho8 H K fun g ns N H' a b c d e f h i _=>hK g ns N H' a b c d e f h i
def GR (args:Array Value):Sem Value:=do
  let (x, y, c) ← Extern.MathBitsCarry.three "Add64" args
  pure (Extern.MathBitsCarry.pair ((x+y+c) % Extern.MathBitsCarry.m64) ((x+y+c) / Extern.MathBitsCarry.m64))
def dU:List AVal->Option AVal
  | [.lit (.int .u64 a),.lit (.int .u64 b),.lit (.int .u64 c)]=>bif Nat.ble c.toNat 1 then some (.tup [.lit (.int .u64 (Int.ofNat ((a.toNat+b.toNat+c.toNat) % 18446744073709551616))),.lit (.int .u64 (Int.ofNat ((a.toNat+b.toNat+c.toNat) / 18446744073709551616)))]) else none
  | _=>none
theorem Vc {P:Program}(a b:Nat)(Γ:az)(H:AHeap)(w:World):RelV P Γ H w (.tup [.lit (.int .u64 (Int.ofNat a)),.lit (.int .u64 (Int.ofNat b))]) (Extern.MathBitsCarry.pair a b):=by
  unfold Extern.MathBitsCarry.pair;refine RelV.tup (cs:=[.int .u64 (Int.ofNat a),.int .u64 (Int.ofNat b)]) rfl fun i h _=>?_
  match i,h with
  | 0,_=>exact .lit _
  | 1,_=>exact .lit _
theorem Vd {P:Program}(s:String)(w:World)(a b c:Int)(hc:¬ c.toNat > 1):(Extern.MathBitsCarry.three s #[.int .u64 a,.int .u64 b,.int .u64 c]).run P w=.ok (a.toNat,b.toNat,c.toNat) w:=by
  have h1:∀ x:Int,(asInt (.int .u64 x)).run P w=.ok x w:=fun x=>rfl;show (do
    let c:=(<- asInt (.int .u64 c)).toNat
    if c > 1 then unsupported _
    pure ((<- asInt (.int .u64 a)).toNat,(<- asInt (.int .u64 b)).toNat,c):Sem (Nat × Nat × Nat)).run P w=_
  rw[ao (h1 c)];simp only[hc,if_false];rfl
theorem GS {G:Nat->Option (List AVal)}{a b c:Int}{r:AVal}(h:dU [.lit (.int .u64 a),.lit (.int .u64 b),.lit (.int .u64 c)]=some r){H:AHeap}{K:ARes->AHeap->Prop}(hK:K (.ret r) H):aw Tryd.prog G (.clo 59 [] []) [.lit (.int .u64 a),.lit (.int .u64 b),.lit (.int .u64 c)] H K:=by
  simp only[dU]at h;cases hb:Nat.ble c.toNat 1 with
  | false=>rw[hb]at h;cases h
  | true =>
    rw[hb]at h;have hc:¬ c.toNat > 1:=(by have:=WG hb;omega);cases h;refine aw.ext (e:=GR) (vs:=[.int .u64 a,.int .u64 b,.int .u64 c]) Tryd.func59 rfl (by kernel_rfl) (by kernel_rfl) (by kernel_rfl) rfl (fun w=>?_) (fun Γ H w=>Vc _ _ Γ H w) hK;unfold GR;rw[ao (Vd _ w a b c hc)];rfl
theorem Ve:∀ {args:List AVal} {r:AVal},dU args=some r->∃ a b c,args=[.lit (.int .u64 a),.lit (.int .u64 b),.lit (.int .u64 c)]:=by
  intro args r h;unfold dU at h;split at h
  · exact⟨_,_,_,rfl⟩
  · cases h
def Bf:FuncId->Option (List AVal->Option AVal):=fun f=>bif Nat.beq f 59 then some dU else none
theorem Vf {E:EP}(hP:E.P=Tryd.prog)(_:E.G=E.G)(hx:E.ext=Bf):qu E:=by
  intro f e h args r hr H K hK;rw[hx]at h;rw[hP];unfold Bf at h;cases h1:Nat.beq f 59 with
  | true =>
    rw[h1]at h;have e1:=VO h1;subst e1;cases h;obtain⟨a,b,c,rfl⟩:=Ve hr;exact GS hr hK
  | false=>rw[h1]at h;cases h
noncomputable def Tryd.GT:EP:={ P:=Tryd.prog,G:=G0,gd:=fun _=>none,known:=vE [],ext:=Bf }
theorem Tryd.Vh:EOk Tryd.GT:=.Ov (l:=[]) rfl aT Tryd.mixed (fun _ _ h=>by cases h) trivial (Vf rfl rfl rfl)
theorem Tryd.Vi:zL Tryd.GT 1000000 4 [] (.lit (.bool true))=true:=by kernel_rfl
theorem Vj (H:AHeap)(K:ARes->AHeap->Prop)(hK:K (.ret (.lit (.bool true))) H):ae Tryd.prog G0 4 [] H K :=
 (ae.frame (args':=[]) aT rfl (fun i h _=>absurd h (VX _)) (Ow Tryd.Vh Tryd.Vi)).mono fun r H' ⟨h1,h2⟩=>by rw[h1,h2];exact hK
theorem Ps {S:Nat->Prop}{H:AHeap}{nx:Nat}(l:List NodeP):∀ c∈au l,Fz S H nx c c:=by
 intro c hc;unfold au at hc;obtain⟨r,hr,hc⟩:=Xg.1 hc;obtain⟨x,_,rfl⟩:=VN.1 hr;unfold NodeP.cells at hc;simp only[List.mem_cons,List.not_mem_nil,or_false]at hc;rcases hc with rfl|rfl|rfl
 ·exact .lit _
 ·exact .ef _
 ·exact qZ _
noncomputable def vO (g:Int)(ns:List NodeP)(cs:List Int)(xs:List (List Int))(v:Int):Int:=if cb g ns cs xs≠0 then cb g ns cs xs else if v<0\/v >= ns.length then 2 else if jI ns xs=true then 0 else 7
noncomputable def vQ (g:Int)(ns:List NodeP)(cs:List Int)(xs:List (List Int))(v:Int):List Int:=if cb g ns cs xs≠0 then [] else if v<0\/v >= ns.length then [] else if jI ns xs=true then cJ ns (ns.getD v.toNat ⟨0,[],[]⟩) v.toNat xs else []
theorem Pt (g:Int)(ns:List NodeP)(cs:List Int)(xs:List (List Int))(v:Int):vL g ns cs xs v=.tup [ab (vQ g ns cs xs v),aa (vO g ns cs xs v)]:=by
 unfold vL vQ vO;split
 ·rfl
 ·split
  ·rfl
  ·split<;>rfl
def sU (g0:Int)(ps:List DrP)(ord:List Int)(cw ca cr cn:Int)(ws ms:List Int)(bw ba bn:Int):List AVal :=
 [.lit (.int .u8 g0),.vec ps.length (fH ps),.vec ord.length (bh ord),.lit (.int .u8 cw),.lit (.int .u8 ca),.lit (.int .u8 cr),.lit (.int .i64 cn),.vec ws.length (eM ws),.vec ms.length (bh ms),.lit (.int .u8 bw),.lit (.int .u8 ba),.lit (.int .i64 bn)]
theorem Pu {g:Int}{ns:List NodeP}(hok:NetOk g ns)(hp3:∀ x∈ns,x.parents.length<=3):SmallN 600 ns:=by
 have nn8:=hok.n1.2;refine⟨by omega,fun x hx=>?_⟩;have hx3:=hp3 x hx;have hrow:=hok.rows x hx;have hin:ik x.parents ns.length:=fun q hq=>by have:=(hok.node x hx).2.2 q hq;omega
 have hpc:=Gp hin fun y hy=>(hok.node y hy).1;have hpl3:(aQ ns x).length<=3:=by rw[show (aQ ns x).length=_ from iU _ _];exact hx3
 have hp:=oO (b:=4) (by omega) (l:=aQ ns x) fun c hc=>by have:=hpc c hc;omega
 have h4:(4:Nat) ^ (aQ ns x).length<=4 ^ 3:=VT (by decide) hpl3;have h5:((4:Int) ^ (aQ ns x).length)<=4 ^ 3:=by exact_mod_cast h4
 have h6:(4:Int) ^ 3=64:=by decide
 have hcard:=(hok.node x hx).1;exact⟨by omega,by have:=hrow.1;omega,fun r hr=>by have:=(hrow.2 r hr).1;exact⟨fun e=>by rw[e]at this;simp at this;omega,by omega⟩⟩
structure StoryP where
 g0:Int
 ps:List DrP
 ord:List Int
 cw:Int
 ca:Int
 cr:Int
 cn:Int
 ws:List Int
 ms:List Int
 bw:Int
 ba:Int
 bn:Int
def StoryP.cells (s:StoryP):List AVal:=sU s.g0 s.ps s.ord s.cw s.ca s.cr s.cn s.ws s.ms s.bw s.ba s.bn
structure StoryP.Ok (s:StoryP):Prop where
 g:U8 s.g0
 p:∀ x∈s.ps,x.Ok
 pl:(s.ps.length:Int)<2 ^ 63
 ol:(s.ord.length:Int)<2 ^ 63
 o8:∀ x∈s.ord,U8 x
 cw:U8 s.cw
 ca:U8 s.ca
 cr:U8 s.cr
 ws:∀ x∈s.ws,0<=x/\x<65536
 ms:∀ x∈s.ms,0<=x/\x<256
 wl:(s.ws.length:Int)<2 ^ 63
 ml:(s.ms.length:Int)<2 ^ 63
 bw:U8 s.bw
 ba:U8 s.ba
structure D05P where
 g:Int
 ps:List DrP
 ord:List Int
def D05P.cells (x:D05P):List AVal:=[.lit (.int .u8 x.g),.vec x.ps.length (fH x.ps),.vec x.ord.length (bh x.ord)]
structure D05P.Ok (x:D05P):Prop where
 g:U8 x.g
 p:∀ y∈x.ps,y.Ok
 pl:(x.ps.length:Int)<2 ^ 63
 ol:(x.ord.length:Int)<2 ^ 63
 o8:∀ y∈x.ord,U8 y
end Go.Proofs
namespace Go.Proofs.YtakancljiekbhaaDoor
open Go.ChangeShapes Go.WideShapes Go.ChangeAt Go.RowKit Go.Hx
theorem Tryd.own:ownKnob Tryd.prog.godebug=none:=by kernel_rfl
theorem Tryd.laidOut:laidOutB Tryd.prog=true:=by kernel_rfl
theorem Tryd.Qc:Tryd.prog.underlying 4=some .bool:=by kernel_rfl
def En:String:=match (Rows.expectLikelyRow.laid) with
 | p :: _=>p.1
 | []=>Tryd.f0.name
theorem Tryd.Qd:Tryd.prog.globalNamed En=some 0:=by kernel_rfl
theorem Tryd.Qe:(Tryd.prog.globals[0]?).map (·.type)=some 56:=by kernel_rfl
theorem Tryd.Qf:Tryd.prog.underlying 56=some (.array 18 3):=by kernel_rfl
theorem Tryd.Qg:Tryd.prog.cellsOf 56=18*Tryd.prog.cellsOf 3:=by kernel_rfl
theorem Tryd.Qh (os:Os)(args:Array Value):laidMetH Tryd.prog Rows.expectLikelyRow.laid ((World.doorLaid Tryd.prog 400 os).forCall (fun _ _=>0) ⟨#[],args,[]⟩).memory :=
 laidMetH_of_parts3 (fuel:=8) (laidMet_of_run' 8 (by kernel_rfl) (by kernel_rfl)) (by kernel_rfl) (by kernel_rfl)
theorem Tryd.Qi {W:World}(h:laidMetH Tryd.prog Rows.expectLikelyRow.laid W):xz Tryd.prog G0 W:=by
 rw[MakeChecks.laidMetH_plain _ _ _ (by kernel_rfl)]at h;obtain⟨ps,hL,_⟩:=h;have hL':DataW.LaidVars Tryd.prog W [(En,.agg (gW.map fun n=>.lit (.int .i64 n)))] ps:=hL;obtain⟨h1,_⟩:=IF Tryd.Qd Tryd.Qe Tryd.Qf Tryd.underlying3 Tryd.Qg hL';intro g cells hg;unfold G0 at hg;split at hg
 ·rename_i h0;subst h0;cases hg;exact h1
 ·cases hg
section
variable {W:World} {H:Type} {enc:TypeId × Value->H} {spare:Nat->Bool} {held:Bool}
theorem tc {n:Nat}(h:n<=maxLen):(n:Int)<2 ^ 63:=by
 have:maxLen=9223372036854775807:=by decide
 omega
theorem me {n:Int}(h:(Lit.int .u8 n).wf=true):U8 n:=by
 have:=wf_u8 h;unfold U8;omega
theorem Qj {n:Int}(h:(Lit.int .u16 n).wf=true):0<=n/\n<65536:=by
 have:0<=n/\n<=65535:=by simpa [Lit.wf,IntKind.min,IntKind.max,IntKind.signed,IntKind.bits] using h
 omega
theorem Qk:eW enc Tryd.prog W spare held 71 fun _ zs=>∃ x:DrP,zs=x.cells/\x.Ok:=by
 have hu:=Tryd.underlying71;have c1:=Tryd.qK;have c2:=Tryd.wB;refine(rX (φ:=fun i _ xs=>if i=2 then ∃ l:List Int,xs=[.vec l.length (lU .u8 l)]/\l.length<=maxLen/\∀ c,c∈l->(Lit.int .u8 c).wf=true else ∃ n,xs=[.lit (.int .u8 n)]/\(Lit.int .u8 n).wf=true) hu
  (fun cs hcs=>by
   have hc:Tryd.prog.cellsOf 71=3:=(by kernel_rfl);rw[hc]at hcs
   match cs,hcs with
   | [a,b,c],_=>simp [c1,c2])
  (fun i hi=>match i,hi with
   | 0,_=>(jC Tryd.underlying5).mono fun _ _ ⟨n,_,h,w⟩=>⟨n,h,w⟩
   | 1,_=>(jC Tryd.underlying5).mono fun _ _ ⟨n,_,h,w⟩=>⟨n,h,w⟩
   | 2,_=>(tX Tryd.underlying23 Tryd.underlying5 c1).mono fun _ _ h=>h)).mono fun d zs ⟨ds,rows,_,e,hl1,hl2,hall⟩=>?_
 match rows,ds,hl2,hl1,hall with
 | [x,y,z],[d0,d1,d2],_,_,hall =>
  obtain⟨n0,e0,w0⟩:=hall 0 (by simp) (by simp);obtain⟨n1,e1,w1⟩:=hall 1 (by simp) (by simp);obtain⟨l,e2,w2,w3⟩:=hall 2 (by simp) (by simp);simp only[Wb,W0]at e0 e1 e2;subst e0;subst e1;subst e2;refine⟨⟨n0,n1,l⟩,by rw[e];rfl,?_⟩;exact⟨me w0,me w1,tc w2,fun c hc=>me (w3 c hc)⟩
theorem Ql {α:Type}{t e:TypeId}{f:α->List AVal}{q:α->Prop}(ht:Tryd.prog.underlying t=some (.slice e))(hz:0<Tryd.prog.cellsOf e)(he:eW enc Tryd.prog W spare held e fun _ zs=>∃ x:α,zs=f x/\q x):
  eW enc Tryd.prog W spare held t fun _ zs=>∃ l:List α,zs=[.vec l.length (l.map f).flatten]/\l.length<=maxLen/\∀ x∈l,q x :=
 (BZ ht hz he).mono fun d zs h=>by
  rcases h with ⟨_,rfl⟩|⟨ds,rest,rows,_,rfl,hr,_,hl⟩
  ·exact⟨[],rfl,XY _,fun c h=>by cases h⟩
  ·obtain⟨l,rfl,hq⟩:=B1 (f:=f) (q:=q) (fun d zs h=>h) hr;exact⟨l,by rw[VD],by simpa using hl,hq⟩
theorem Qm:eW enc Tryd.prog W spare held 25 fun _ zs=>∃ (g:Int) (ps:List DrP) (ord:List Int),zs=[.lit (.int .u8 g),.vec ps.length (fH ps),.vec ord.length (bh ord)]/\U8 g/\(∀ x∈ps,x.Ok)/\(ps.length:Int)<2 ^ 63/\(ord.length:Int)<2 ^ 63/\∀ x∈ord,U8 x:=by
 have hu:=Tryd.underlying25;have c1:=Tryd.qK;have c2:=Tryd.wB;have c3:=Tryd.EI;have c4:=Tryd.EO;refine(rX (φ:=fun i _ xs=>if i=2 then ∃ l:List Int,xs=[.vec l.length (lU .u8 l)]/\l.length<=maxLen/\∀ c,c∈l->(Lit.int .u8 c).wf=true else if i=1 then ∃ l:List DrP,xs=[.vec l.length (l.map DrP.cells).flatten]/\l.length<=maxLen/\∀ x∈l,x.Ok else ∃ n,xs=[.lit (.int .u8 n)]/\(Lit.int .u8 n).wf=true) hu
  (fun cs hcs=>by
   have hc:Tryd.prog.cellsOf 25=3:=(by kernel_rfl);rw[hc]at hcs
   match cs,hcs with
   | [a,b,c],_=>simp [c1,c2,c3])
  (fun i hi=>match i,hi with
   | 0,_=>(jC Tryd.underlying5).mono fun _ _ ⟨n,_,h,w⟩=>⟨n,h,w⟩
   | 1,_=>(Ql Tryd.underlying22 (by rw[c4];decide) Qk).mono fun _ _ h=>h
   | 2,_=>(tX Tryd.underlying23 Tryd.underlying5 c1).mono fun _ _ h=>h)).mono fun d zs ⟨ds,rows,_,e,hl1,hl2,hall⟩=>?_
 match rows,ds,hl2,hl1,hall with
 | [x,y,z],[d0,d1,d2],_,_,hall =>
  obtain⟨n0,e0,w0⟩:=hall 0 (by simp) (by simp);obtain⟨ps,e1,w1,w1'⟩:=hall 1 (by simp) (by simp);obtain⟨l,e2,w2,w3⟩:=hall 2 (by simp) (by simp);simp only[Wb,W0]at e0 e1 e2;subst e0;subst e1;subst e2;exact⟨n0,ps,l,by rw[e];rfl,me w0,w1',tc w1,tc w2,fun c hc=>me (w3 c hc)⟩
theorem Ao {n:Int}(h:(Lit.int .u8 n).wf=true):0<=n/\n<=255:=by
 have:=me h;unfold U8 at this;omega
theorem Qn:eW enc Tryd.prog W spare held 27 fun _ zs=>∃ w a r n:Int,zs=vW w a r n/\(0<=w/\w<=255)/\(0<=a/\a<=255)/\(0<=r/\r<=255):=by
 have hu:=Tryd.underlying27;have c1:=Tryd.qK;have c2:=Tryd.fh;refine(rX (φ:=fun i _ xs=>if i=3 then ∃ n,xs=[.lit (.int .i64 n)] else ∃ n,xs=[.lit (.int .u8 n)]/\(Lit.int .u8 n).wf=true) hu
  (fun cs hcs=>by
   have hc:Tryd.prog.cellsOf 27=4:=(by kernel_rfl);rw[hc]at hcs
   match cs,hcs with
   | [a,b,c,d],_=>simp [c1,c2])
  (fun i hi=>match i,hi with
   | 0,_=>(jC Tryd.underlying5).mono fun _ _ ⟨n,_,h,w⟩=>⟨n,h,w⟩
   | 1,_=>(jC Tryd.underlying5).mono fun _ _ ⟨n,_,h,w⟩=>⟨n,h,w⟩
   | 2,_=>(jC Tryd.underlying5).mono fun _ _ ⟨n,_,h,w⟩=>⟨n,h,w⟩
   | 3,_=>(jC Tryd.underlying3).mono fun _ _ ⟨n,_,h,_⟩=>⟨n,h⟩)).mono fun d zs ⟨ds,rows,_,e,hl1,hl2,hall⟩=>?_
 match rows,ds,hl2,hl1,hall with
 | [x,y,z,u],[d0,d1,d2,d3],_,_,hall =>
  obtain⟨n0,e0,w0⟩:=hall 0 (by simp) (by simp);obtain⟨n1,e1,w1⟩:=hall 1 (by simp) (by simp);obtain⟨n2,e2,w2⟩:=hall 2 (by simp) (by simp);obtain⟨n3,e3⟩:=hall 3 (by simp) (by simp);simp only[Wb,W0]at e0 e1 e2 e3;subst e0;subst e1;subst e2;subst e3;exact⟨n0,n1,n2,n3,by rw[e];rfl,Ao w0,Ao w1,Ao w2⟩
theorem Qo:eW enc Tryd.prog W spare held 30 fun _ zs=>∃ w a n:Int,zs=EB w a n/\U8 w/\U8 a:=by
 have hu:=Tryd.underlying30;have c1:=Tryd.qK;have c2:=Tryd.fh;refine(rX (φ:=fun i _ xs=>if i=2 then ∃ n,xs=[.lit (.int .i64 n)] else ∃ n,xs=[.lit (.int .u8 n)]/\(Lit.int .u8 n).wf=true) hu
  (fun cs hcs=>by
   have hc:Tryd.prog.cellsOf 30=3:=(by kernel_rfl);rw[hc]at hcs
   match cs,hcs with
   | [a,b,c],_=>simp [c1,c2])
  (fun i hi=>match i,hi with
   | 0,_=>(jC Tryd.underlying5).mono fun _ _ ⟨n,_,h,w⟩=>⟨n,h,w⟩
   | 1,_=>(jC Tryd.underlying5).mono fun _ _ ⟨n,_,h,w⟩=>⟨n,h,w⟩
   | 2,_=>(jC Tryd.underlying3).mono fun _ _ ⟨n,_,h,_⟩=>⟨n,h⟩)).mono fun d zs ⟨ds,rows,_,e,hl1,hl2,hall⟩=>?_
 match rows,ds,hl2,hl1,hall with
 | [x,y,z],[d0,d1,d2],_,_,hall =>
  obtain⟨n0,e0,w0⟩:=hall 0 (by simp) (by simp);obtain⟨n1,e1,w1⟩:=hall 1 (by simp) (by simp);obtain⟨n2,e2⟩:=hall 2 (by simp) (by simp);simp only[Wb,W0]at e0 e1 e2;subst e0;subst e1;subst e2;exact⟨n0,n1,n2,by rw[e];rfl,me w0,me w1⟩
theorem Qp:eW enc Tryd.prog W spare held 32 fun _ zs=>∃ s:StoryP,zs=s.cells/\s.Ok:=by
 have hu:=Tryd.underlying32;have c1:=Tryd.EJ;have c2:=Tryd.EK;have c3:=Tryd.EL;have c4:=Tryd.wB;have c5:=Tryd.EM;have c6:=Tryd.EN;have c7:=Tryd.qK;refine(rX (φ:=fun i _ xs=>if i=0 then ∃ (g:Int) (ps:List DrP) (ord:List Int),xs=[.lit (.int .u8 g),.vec ps.length (fH ps),.vec ord.length (bh ord)]/\U8 g/\(∀ x∈ps,x.Ok)/\(ps.length:Int)<2 ^ 63/\(ord.length:Int)<2 ^ 63/\∀ x∈ord,U8 x
   else if i=1 then ∃ w a r n:Int,xs=vW w a r n/\(0<=w/\w<=255)/\(0<=a/\a<=255)/\(0<=r/\r<=255)
   else if i=2 then ∃ l:List Int,xs=[.vec l.length (lU .u16 l)]/\l.length<=maxLen/\∀ c,c∈l->(Lit.int .u16 c).wf=true
   else if i=3 then ∃ l:List Int,xs=[.vec l.length (lU .u8 l)]/\l.length<=maxLen/\∀ c,c∈l->(Lit.int .u8 c).wf=true
   else ∃ w a n:Int,xs=EB w a n/\U8 w/\U8 a) hu
  (fun cs hcs=>by
   have hc:Tryd.prog.cellsOf 32=12:=(by kernel_rfl);rw[hc]at hcs
   match cs,hcs with
   | [a,b,c,d,e,f,g,h,i,j,k,l],_=>simp [c1,c2,c3,c4,c5])
  (fun i hi=>match i,hi with
   | 0,_=>Qm.mono fun _ _ h=>h
   | 1,_=>Qn.mono fun _ _ h=>h
   | 2,_=>(tX Tryd.underlying28 Tryd.underlying66 c6).mono fun _ _ h=>h
   | 3,_=>(tX Tryd.underlying23 Tryd.underlying5 c7).mono fun _ _ h=>h
   | 4,_=>Qo.mono fun _ _ h=>h)).mono fun d zs ⟨ds,rows,_,e,hl1,hl2,hall⟩=>?_
 match rows,ds,hl2,hl1,hall with
 | [x,y,z,u,w],[d0,d1,d2,d3,d4],_,_,hall =>
  obtain⟨g,ps,ord,e0,w0,wa,wb,wc,wd⟩:=hall 0 (by simp) (by simp);obtain⟨cw,ca,cr,cn,e1,w1,wf,wg⟩:=hall 1 (by simp) (by simp);obtain⟨ws,e2,w2,wh⟩:=hall 2 (by simp) (by simp);obtain⟨ms,e3,w3,wi⟩:=hall 3 (by simp) (by simp);obtain⟨bw,ba,bn,e4,w4,wj⟩:=hall 4 (by simp) (by simp);simp only[Wb,W0]at e0 e1 e2 e3 e4;subst e0;subst e1;subst e2;subst e3;subst e4;exact⟨⟨g,ps,ord,cw,ca,cr,cn,ws,ms,bw,ba,bn⟩,by rw[e];rfl,⟨w0,wa,wb,wc,wd,(by unfold U8;omega:U8 cw),(by unfold U8;omega:U8 ca),(by unfold U8;omega:U8 cr),fun c hc=>Qj (wh c hc),fun c hc=>by have:=me (wi c hc);unfold U8 at this;exact this,tc w2,tc w3,w4,wj⟩⟩
theorem Qq {r:Reach}{b:Nat}{v:Value}{d:DataW H}{ps:List MemPlace}(hval:Value.okWide Tryd.prog W r b 32 v)(hd:DataW.Trod enc Tryd.prog W 0 spare held 32 v d ps):
  ∃ x:StoryP,RelV Tryd.prog iV cL W (.agg x.cells) v/\x.Ok:=by
 obtain⟨xs,h1,x,rfl,h2⟩:=ID Qp (.inl ⟨_,Tryd.underlying32⟩) hval hd;exact⟨x,h1,h2⟩
end
end Go.Proofs.YtakancljiekbhaaDoor
namespace Go.Proofs
open Go.Hx
def sV (g:Int)(ns:List NodeP)(least:Int):Bool:=decide (∀ x∈ns,0<=least/\least<=60/\least*x.card<=g)
def mj (n:Nat):List AVal:=(List.replicate n [AVal.lit (.int .i64 0),.lit (.slice none 0 0),.lit (.slice none 0 0)]).flatten
theorem Fa (n:Nat):mj (n+1)=[AVal.lit (.int .i64 0),.lit (.slice none 0 0),.lit (.slice none 0 0)]++mj n:=by unfold mj;rw[Xn,List.flatten_cons]
theorem Fb:∀ n:Nat,(mj n).length=n*3
 | 0=>rfl
 | n+1=>by rw[Fa,List.length_append,Fb n];simp;omega
def eN (n:Nat)(ns:List NodeP):List AVal:=au ns++mj (n - ns.length)
theorem Sg {n:Nat}{ns:List NodeP}(h:ns.length<=n):(eN n ns).length=n*3:=by unfold eN;rw[List.length_append,fT,Fb,<- Wc];congr 1;omega
theorem Sh {n:Nat}{ns:List NodeP}{x:NodeP}(h:ns.length<n):setAt (eN n ns) (ns.length*3) x.cells=eN n (ns++[x]):=by
 obtain⟨k,hk⟩:∃ k,n - ns.length=k+1:=⟨n - ns.length - 1,by omega⟩
 have hk2:n - (ns++[x]).length=k:=by simp;omega
 have hl:=fT ns;unfold eN setAt;rw[hk,hk2,Fa,show au (ns++[x])=au ns++x.cells by unfold au;simp];rw[List.take_append_of_le_length (by omega),Vz (by omega),List.drop_append,Xx (by rw[hl];omega),List.nil_append];congr 1;rw[show ns.length*3+x.cells.length - (au ns).length=3 by rw[hl];show ns.length*3+3 - _=3;omega];rfl
theorem wG {n:Nat}{ns:List NodeP}:∀ c∈eN n ns,∀ (S:Nat->Prop) (Hz:AHeap) (nx:Nat),Fz S Hz nx c c:=fun c hc S Hz nx=>by
 unfold eN at hc;rcases VP.1 hc with hc|hc
 ·unfold au at hc;obtain⟨r,hr,hc⟩:=Xg.1 hc;obtain⟨x,_,rfl⟩:=VN.1 hr;unfold NodeP.cells at hc;simp only[List.mem_cons,List.not_mem_nil,or_false]at hc;rcases hc with rfl|rfl|rfl
  ·exact .lit _
  ·exact .ef _
  ·exact qZ _
 ·unfold mj at hc;obtain⟨r,hr,hc⟩:=Xg.1 hc;obtain rfl:=Wk hr;simp only[List.mem_cons,List.not_mem_nil,or_false]at hc;rcases hc with rfl|rfl|rfl<;>exact .lit _
theorem AE (ns:List NodeP):eN ns.length ns=au ns:=by unfold eN;rw[W8];exact List.append_nil _
theorem Fc {S:Nat->Prop}{H:AHeap}{nx:Nat}{g e:Int}{nv:AVal}{ns:List NodeP}(h:Fz S H nx nv (dk ns)):Fz S H nx (.tup [.agg [.lit (.int .i64 g),nv],.lit (.int .i64 e)]) (.tup [aZ g ns,aa e]):=by
 refine .tup rfl fun i hi _=>?_
 match i,hi with
 | 0,_ =>
  refine .agg rfl fun i hi _=>?_
  match i,hi with
  | 0,_=>exact .lit _
  | 1,_=>exact h
 | 1,_=>exact .lit _
theorem ed.fzN {S:Nat->Prop}{lo nx:Nat}{H:AHeap}{v:AVal}{ns:List NodeP}(h:ed lo H 53 3 v ns.length (au ns))(hS:∀ i,lo<=i->S i):Fz S H nx v (dk ns):=by
 rcases h with ⟨rfl,h0,_⟩|⟨id,g,h1,_,rfl,h4,h5⟩
 ·obtain rfl:=List.length_eq_zero_iff.1 h0;exact .nil
 ·refine .frz (hS id h1) h5 (by rw[fT]) fun j hj h2 h'=>?_;have hm:∀ q∈au ns,Fz S H nx q q:=fun q hq=>wG (n:=ns.length) (ns:=ns) q (by rw[AE];exact hq) S H nx;simpa only[Nat.zero_add] using hm _ (Wh h')
def fC (l:List Int)(c j:Nat):List Int:=(l.drop (j*c)).take c
noncomputable def nq (g least:Int)(l:List Int)(c j:Nat):List Int:=nE least (dQ g least (fC l c j)) (fC l c j)
noncomputable def iI (g least:Int)(l:List Int)(x:NodeP):NodeP:=⟨x.card,x.parents,(List.range x.rows.length).map (nq g least l x.card.toNat)⟩
noncomputable def ji (g least:Int)(ns:List NodeP)(xs:List (List Int)):List NodeP:=(List.range ns.length).map fun v=>iI g least (cJ ns (ns.getD v ⟨0,[],[]⟩) v xs) (ns.getD v ⟨0,[],[]⟩)
theorem nr (g least:Int)(ns:List NodeP)(xs:List (List Int)):(ji g least ns xs).length=ns.length:=by simp [ji]
theorem sW {g least:Int}{ns:List NodeP}{xs:List (List Int)}{v:Nat}{x:NodeP}(hx:ns[v]?=some x):(ji g least ns xs)[v]?=some (iI g least (cJ ns x v xs) x):=by
 unfold ji;rw[List.getElem?_map,Wu (get_lt hx)];show some (iI g least (cJ ns (ns.getD v ⟨0,[],[]⟩) v xs) (ns.getD v ⟨0,[],[]⟩))=_;rw[bf hx]
theorem qD {l:List Int}{c j m:Nat}(hl:l.length=m*c)(hj:j<m):(fC l c j).length=c:=by
 unfold fC;have h1:j*c+c<=m*c:=by have:=V3 c (show j+1<=m by omega);rw[Wc]at this;omega
 rw[VC,Wg,hl];omega
theorem D4 {l:List Int}{c j:Nat}:∀ x∈fC l c j,x∈l:=fun _ h=>WV (VW h)
theorem qE {g:Int}{ns:List NodeP}(h:NetOk g ns)(h6:ns.length<=6){v:Nat}{x:NodeP}(hx:ns[v]?=some x)(xs:List (List Int))(hr:∀ r∈xs,r.length=ns.length):(cJ ns x v xs).length=x.rows.length*x.card.toNat:=by
 have:=(sS h h6 hx xs hr).1;have hc:=(h.node x (Vs hx)).1;have e:((x.rows.length*x.card.toNat:Nat):Int)=x.rows.length*x.card:=by rw[Wx,Ws (by omega)]
 omega
def qF (g:Int)(ns:List NodeP)(least:Int):Prop:=0<=least/\∀ x∈ns,least*x.card<=g
theorem vT {g least:Int}{ns:List NodeP}(h:NetOk g ns)(h6:ns.length<=6)(hf:qF g ns least){v:Nat}{x:NodeP}(hx:ns[v]?=some x){xs:List (List Int)}(hx40:xs.length<=64)(hr:∀ r∈xs,r.length=ns.length){j:Nat}(hj:j<x.rows.length):
  jo (fC (cJ ns x v xs) x.card.toNat j) g least:=by
 have hxm:=Vs hx;have hc:=(h.node x hxm).1;have hg:=h.g1;have hl:=qD (qE h h6 hx xs hr) hj;have hb:=(sS h h6 hx xs hr).2;refine⟨by omega,fun y hy=>?_,by omega,hf.1,?_⟩
 ·have:=hb y (D4 y hy);omega
 ·rw[hl,Ws (by omega)];exact hf.2 x hxm
theorem sX {g:Int}{ns:List NodeP}(h:NetOk g ns){least:Int}:sV g ns least=true↔qF g ns least:=by
 have hg:=h.g1;have hn:=h.n1;obtain⟨y,hy⟩:=get_of_lt (l:=ns) (i:=0) (by omega);have hym:=Vs hy;unfold sV;rw[WW];constructor
 ·intro hh;exact⟨(hh y hym).1,fun x hx=>(hh x hx).2.2⟩
 ·intro hh x hx;have hc:=(h.node x hx).1;have h1:=hh.2 x hx;have h3:least*1<=least*x.card:=V8 (by omega) hh.1;exact⟨hh.1,by omega,h1⟩
theorem D5 {g c least:Int}(hc:1<=c):least<=g / c↔least*c<=g:=XV (by omega)
noncomputable def ld (g:Int)(ns:List NodeP)(cs:List Int)(xs:List (List Int))(least:Int):Int:=if cb g ns cs xs≠0 then cb g ns cs xs else if sV g ns least=true then if jI ns xs=true then 0 else 7 else 2
noncomputable def oG (g:Int)(ns:List NodeP)(cs:List Int)(xs:List (List Int))(least:Int):Int × List NodeP:=if ld g ns cs xs least=0 then (g,ji g least ns xs) else (0,[])
theorem PB {c:List Int}{g least:Int}(h:jo c g least):(nE least (dQ g least c) c).length=c.length:=by
 obtain⟨s,hs⟩:=AD least (dQ g least c) (c:=c) (by have:=h.1;omega);rw[<- ti hs];obtain⟨M,_,rfl⟩:=hs;simp [eF]
theorem PC {g least:Int}{ns:List NodeP}(h:NetOk g ns)(h6:ns.length<=6)(hf:qF g ns least){xs:List (List Int)}(hx40:xs.length<=64)(hr:∀ r∈xs,r.length=ns.length)(hn:gi ns):gi (ji g least ns xs):=by
 refine⟨by rw[nr];exact hn.1,fun y hy=>?_⟩;obtain⟨v,hv,rfl⟩:=VN.1 hy;obtain⟨x,hx⟩:=get_of_lt (VJ.1 hv);rw[bf hx];have hxm:=Vs hx;obtain⟨a,b,c⟩:=hn.2 x hxm;refine⟨a,by show (((List.range x.rows.length).map _).length:Int)<_;simpa using b,fun r hr'=>?_⟩;obtain⟨j,hj,rfl⟩:=VN.1 hr';have hj:=VJ.1 hj;have hc:=(h.node x hxm).1;unfold nq;rw[PB (vT h h6 hf hx hx40 hr hj),qD (qE h h6 hx xs hr) hj];omega
end Go.Proofs
namespace Go.Hx
variable {P:Program} {t:TypeId} {x y:Operand} {k k':IntKind} {a b:Int}
theorem PW (w:Nat){a:Nat}{n:Nat}(ha:a<2 ^ w)(hn:n<=w)(hw:0<w):((BitVec.ofInt w (a:Int) &&& BitVec.ofInt w ((2 ^ n - 1:Nat):Int)).toNat)=a % 2 ^ n:=by
 have h1:(2:Nat) ^ n<=2 ^ w:=VT (by decide) hn;have h0:0<(2:Nat) ^ n:=Yr n;have e1:(BitVec.ofInt w (a:Int)).toNat=a:=by rw[BitVec.ofInt_natCast,BitVec.toNat_ofNat,XH ha]
 have e2:(BitVec.ofInt w ((2 ^ n - 1:Nat):Int)).toNat=2 ^ n - 1:=by rw[BitVec.ofInt_natCast,BitVec.toNat_ofNat,XH (by omega)]
 rw[BitVec.toNat_and,e1,e2,Nat.and_two_pow_sub_one_eq_mod]
theorem Al (h:0<=a/\a<18446744073709551616):aU P .and t x y (.lit (.int .u64 a)) (.lit (.int .u64 4294967295))=some (.lit (.int .u64 (a % 4294967296))):=by
 obtain⟨n,rfl⟩:=VU h.1;rw[tB];have:=PW 64 (a:=n) (n:=32) (by omega) (by decide) (by decide);have e:(BitVec.ofInt (IntKind.bits .u64) (n:Int) &&& BitVec.ofInt (IntKind.bits .u64) 4294967295).toNat=n % 4294967296:=this;rw[e,Wl _ (by omega)];simp
theorem ta (h:0<=a/\a<18446744073709551616):aU P .shr t x y (.lit (.int .u64 a)) (.lit (.int k' 32))=some (.lit (.int .u64 (a / 4294967296))):=by
 rw[ru (by decide)];have e:a.fdiv (2 ^ (min (32:Int).toNat (IntKind.bits .u64)))=a / 4294967296:=Yd a (by decide);rw[e]
end Go.Hx
namespace Go.Proofs
open Go.Hx
theorem PX {p q r w0 t w1 hi xy B:Nat}(hB:0<B)(hxy:xy=r*(B*B)+(p+q)*B+w0)(ht:t=p+w0 / B)(hw1:w1=t % B+q)(hhi:hi=r+t / B+w1 / B):
  xy / (B*B)=hi:=by
 have e0:=XA w0 B;have l0:=X8 w0 hB;have e1:=XA t B;have e2:=XA w1 B;have l2:=X8 w1 hB;generalize w0 / B=c0 at *
 generalize w0 % B=r0 at *
 generalize t / B=c1 at *
 generalize t % B=r1 at *
 generalize w1 / B=c2 at *
 generalize w1 % B=r2 at *
 have key:xy=hi*(B*B)+(r2*B+r0):=by
  subst hhi;have a1:p*B=t*B - c0*B:=by rw[ht,Wc];omega
  have a2:q*B=w1*B - r1*B:=by rw[hw1,Wc];omega
  have a3:t*B=c1*(B*B)+r1*B:=by rw[<- e1,Wc];congr 1;ac_rfl
  have a4:w1*B=c2*(B*B)+r2*B:=by rw[<- e2,Wc];congr 1;ac_rfl
  have a5:c0*B<=t*B:=V3 _ (by omega);have a6:r1*B<=w1*B:=V3 _ (by omega);have a7:w0=c0*B+r0:=by rw[<- e0,Xl]
  rw[hxy,Wc,Wc,Wc];omega
 have small:r2*B+r0<B*B:=by
  have:r2*B+B<=B*B:=by rw[<- Xy];exact V3 _ l2
  omega
 rw[key];exact Nat.div_eq_of_lt_le (Nat.le_add_right _ _) (by rw[Wc,Yz];omega)
set_option maxHeartbeats 2000000 in
theorem PY (x y:Nat)(hx:x<18446744073709551616)(hy:y<18446744073709551616)(H:AHeap)(K:ARes->AHeap->Prop)
  (hK:K (.ret (.tup [.lit (.int .u64 (x*y / 18446744073709551616:Nat)),.lit (.int .u64 (x*y % 18446744073709551616:Nat))])) H):ae Tryd.prog G0 58 [.lit (.int .u64 x),.lit (.int .u64 y)] H K:=by
 obtain⟨x1,x0,hxe,hx0,hx1⟩:∃ x1 x0:Nat,x=x1*4294967296+x0/\x0<4294967296/\x1<4294967296:=⟨x / 4294967296,x % 4294967296,by omega,by omega,by omega⟩
 obtain⟨y1,y0,hye,hy0,hy1⟩:∃ y1 y0:Nat,y=y1*4294967296+y0/\y0<4294967296/\y1<4294967296:=⟨y / 4294967296,y % 4294967296,by omega,by omega,by omega⟩
 have bnd:∀ a b:Nat,a<4294967296->b<4294967296->a*b<=18446744065119617025:=fun a b ha hb=>by
  have:=Xk (show a<=4294967295 by omega) (show b<=4294967295 by omega);omega
 obtain⟨w0,hw0⟩:∃ w0,w0=x0*y0:=⟨_,rfl⟩
 have b0:=bnd x0 y0 hx0 hy0;obtain⟨p,hp⟩:∃ p,p=x1*y0:=⟨_,rfl⟩
 have b1:=bnd x1 y0 hx1 hy0;obtain⟨q,hq⟩:∃ q,q=x0*y1:=⟨_,rfl⟩
 have b2:=bnd x0 y1 hx0 hy1;obtain⟨r,hr⟩:∃ r,r=x1*y1:=⟨_,rfl⟩
 have b3:=bnd x1 y1 hx1 hy1;have hxy:x*y=r*18446744073709551616+(p+q)*4294967296+w0:=by
  rw[hxe,hye,hr,hp,hq,hw0,Wc,Xz,Xz,Wc];have e1:x1*4294967296*(y1*4294967296)=x1*y1*18446744073709551616:=by
   rw[Nat.mul_mul_mul_comm]
  have e2:x1*4294967296*y0=x1*y0*4294967296:=by ac_rfl
  have e3:x0*(y1*4294967296)=x0*y1*4294967296:=by ac_rfl
  rw[e1,e2,e3];omega
 have m1:((x:Int) % 4294967296)=(x0:Nat):=by omega
 have m2:((x:Int) / 4294967296)=(x1:Nat):=by omega
 have m3:((y:Int) % 4294967296)=(y0:Nat):=by omega
 have m4:((y:Int) / 4294967296)=(y1:Nat):=by omega
 have g1:((w0:Int))=(x0:Int)*(y0:Int):=by rw[hw0,Wx]
 have g2:((p:Int))=(x1:Int)*(y0:Int):=by rw[hp,Wx]
 have g3:((q:Int))=(x0:Int)*(y1:Int):=by rw[hq,Wx]
 have g4:((r:Int))=(x1:Int)*(y1:Int):=by rw[hr,Wx]
 obtain⟨t,ht⟩:∃ t:Nat,t=p+w0 / 4294967296:=⟨_,rfl⟩
 obtain⟨w1,hw1⟩:∃ w1:Nat,w1=t % 4294967296+q:=⟨_,rfl⟩
 obtain⟨hi,hhi⟩:∃ hi:Nat,hi=r+t / 4294967296+w1 / 4294967296:=⟨_,rfl⟩
 have hBB:(4294967296:Nat)*4294967296=18446744073709551616:=by decide
 have r1':x*y / 18446744073709551616=hi:=by
  have h2:x*y=r*(4294967296*4294967296)+(p+q)*4294967296+w0:=by rw[hBB];exact hxy
  have:=PX (by decide) h2 ht hw1 hhi;rw[hBB]at this;exact this
 have B0:∀ n:Nat,n<18446744073709551616->(0<=(n:Int)/\(n:Int)<18446744073709551616):=fun n h=>by omega
 have kx:=B0 x hx;have ky:=B0 y hy;have kw:=B0 w0 (by omega);have kt:=B0 t (by omega);have kv:=B0 w1 (by omega);have v1:=Wl (w0:Int) (by omega);have v2:=Wl (p:Int) (by omega);have v3:=Wl (q:Int) (by omega);have v4:=Wl (r:Int) (by omega);have s1:(p:Int)+(w0:Int) / 4294967296=(t:Int):=by omega
 have s2:(t:Int) % 4294967296+(q:Int)=(w1:Int):=by omega
 have v5:=Wl (t:Int) (by omega);have v6:=Wl (w1:Int) (by omega);have s3:(r:Int)+(t:Int) / 4294967296=((r+t / 4294967296:Nat):Int):=by omega
 have v7:=Wl ((r+t / 4294967296:Nat):Int) (by omega);have s4:((r+t / 4294967296:Nat):Int)+(w1:Int) / 4294967296=(hi:Int):=by omega
 have v8:=Wl (hi:Int) (by omega);have s5:IntKind.u64.wrap ((x:Int)*(y:Int))=((x*y % 18446744073709551616:Nat):Int):=by rw[UU,<- Wx];omega
 rw[r1']at hK;refine ae.cX (n:=51) (rs:=[.tmp 4,.tmp 5]) Tryd.func58 rfl rfl rfl (by decide) (by simp) ?_;refine W.sq ?_;simp only[go_sem];refine W.env fun E0 hE0=>?_;have a0_0:E0 0=.lit (.int .u64 (x:Nat)):=by rw[hE0];rfl
 have a0_1:E0 1=.lit (.int .u64 (y:Nat)):=by rw[hE0];rfl
 clear hE0;refine W.sq ?_;simp only[go_sem,a0_0,m1,Al,kx];refine W.env fun E1 hE1=>?_;have a1_0:E1 0=.lit (.int .u64 (x:Nat)):=by rw[hE1];exact a0_0
 have a1_1:E1 1=.lit (.int .u64 (y:Nat)):=by rw[hE1];exact a0_1
 have a1_6:E1 6=.lit (.int .u64 (x0:Nat)):=by rw[hE1];rfl
 clear hE1;refine W.sq ?_;simp only[go_sem,a1_0,m2,ta,kx];refine W.env fun E2 hE2=>?_;have a2_0:E2 0=.lit (.int .u64 (x:Nat)):=by rw[hE2];exact a1_0
 have a2_1:E2 1=.lit (.int .u64 (y:Nat)):=by rw[hE2];exact a1_1
 have a2_6:E2 6=.lit (.int .u64 (x0:Nat)):=by rw[hE2];exact a1_6
 have a2_7:E2 7=.lit (.int .u64 (x1:Nat)):=by rw[hE2];rfl
 clear hE2;refine W.sq ?_;simp only[go_sem,a2_1,m3,Al,ky];refine W.env fun E3 hE3=>?_;have a3_0:E3 0=.lit (.int .u64 (x:Nat)):=by rw[hE3];exact a2_0
 have a3_1:E3 1=.lit (.int .u64 (y:Nat)):=by rw[hE3];exact a2_1
 have a3_6:E3 6=.lit (.int .u64 (x0:Nat)):=by rw[hE3];exact a2_6
 have a3_7:E3 7=.lit (.int .u64 (x1:Nat)):=by rw[hE3];exact a2_7
 have a3_8:E3 8=.lit (.int .u64 (y0:Nat)):=by rw[hE3];rfl
 clear hE3;refine W.sq ?_;simp only[go_sem,a3_1,m4,ta,ky];refine W.env fun E4 hE4=>?_;have a4_0:E4 0=.lit (.int .u64 (x:Nat)):=by rw[hE4];exact a3_0
 have a4_1:E4 1=.lit (.int .u64 (y:Nat)):=by rw[hE4];exact a3_1
 have a4_6:E4 6=.lit (.int .u64 (x0:Nat)):=by rw[hE4];exact a3_6
 have a4_7:E4 7=.lit (.int .u64 (x1:Nat)):=by rw[hE4];exact a3_7
 have a4_8:E4 8=.lit (.int .u64 (y0:Nat)):=by rw[hE4];exact a3_8
 have a4_9:E4 9=.lit (.int .u64 (y1:Nat)):=by rw[hE4];rfl
 clear hE4;refine W.sq ?_;simp only[go_sem,a4_6,a4_8,<- g1,v1];refine W.env fun E5 hE5=>?_;have a5_0:E5 0=.lit (.int .u64 (x:Nat)):=by rw[hE5];exact a4_0
 have a5_1:E5 1=.lit (.int .u64 (y:Nat)):=by rw[hE5];exact a4_1
 have a5_6:E5 6=.lit (.int .u64 (x0:Nat)):=by rw[hE5];exact a4_6
 have a5_7:E5 7=.lit (.int .u64 (x1:Nat)):=by rw[hE5];exact a4_7
 have a5_8:E5 8=.lit (.int .u64 (y0:Nat)):=by rw[hE5];exact a4_8
 have a5_9:E5 9=.lit (.int .u64 (y1:Nat)):=by rw[hE5];exact a4_9
 have a5_10:E5 10=.lit (.int .u64 (w0:Nat)):=by rw[hE5];rfl
 clear hE5;refine W.sq ?_;simp only[go_sem,a5_7,a5_8,a5_10,<- g2,v2,ta,kw,s1,v5];refine W.env fun E6 hE6=>?_;have a6_0:E6 0=.lit (.int .u64 (x:Nat)):=by rw[hE6];exact a5_0
 have a6_1:E6 1=.lit (.int .u64 (y:Nat)):=by rw[hE6];exact a5_1
 have a6_6:E6 6=.lit (.int .u64 (x0:Nat)):=by rw[hE6];exact a5_6
 have a6_7:E6 7=.lit (.int .u64 (x1:Nat)):=by rw[hE6];exact a5_7
 have a6_8:E6 8=.lit (.int .u64 (y0:Nat)):=by rw[hE6];exact a5_8
 have a6_9:E6 9=.lit (.int .u64 (y1:Nat)):=by rw[hE6];exact a5_9
 have a6_10:E6 10=.lit (.int .u64 (w0:Nat)):=by rw[hE6];exact a5_10
 have a6_11:E6 11=.lit (.int .u64 (t:Nat)):=by rw[hE6];rfl
 clear hE6;refine W.sq ?_;simp only[go_sem,a6_11,Al,kt];refine W.env fun E7 hE7=>?_;have a7_0:E7 0=.lit (.int .u64 (x:Nat)):=by rw[hE7];exact a6_0
 have a7_1:E7 1=.lit (.int .u64 (y:Nat)):=by rw[hE7];exact a6_1
 have a7_6:E7 6=.lit (.int .u64 (x0:Nat)):=by rw[hE7];exact a6_6
 have a7_7:E7 7=.lit (.int .u64 (x1:Nat)):=by rw[hE7];exact a6_7
 have a7_8:E7 8=.lit (.int .u64 (y0:Nat)):=by rw[hE7];exact a6_8
 have a7_9:E7 9=.lit (.int .u64 (y1:Nat)):=by rw[hE7];exact a6_9
 have a7_10:E7 10=.lit (.int .u64 (w0:Nat)):=by rw[hE7];exact a6_10
 have a7_11:E7 11=.lit (.int .u64 (t:Nat)):=by rw[hE7];exact a6_11
 have a7_12:E7 12=.lit (.int .u64 ((t:Int) % 4294967296)):=by rw[hE7];rfl
 clear hE7;refine W.sq ?_;simp only[go_sem,a7_11,ta,kt];refine W.env fun E8 hE8=>?_;have a8_0:E8 0=.lit (.int .u64 (x:Nat)):=by rw[hE8];exact a7_0
 have a8_1:E8 1=.lit (.int .u64 (y:Nat)):=by rw[hE8];exact a7_1
 have a8_6:E8 6=.lit (.int .u64 (x0:Nat)):=by rw[hE8];exact a7_6
 have a8_7:E8 7=.lit (.int .u64 (x1:Nat)):=by rw[hE8];exact a7_7
 have a8_8:E8 8=.lit (.int .u64 (y0:Nat)):=by rw[hE8];exact a7_8
 have a8_9:E8 9=.lit (.int .u64 (y1:Nat)):=by rw[hE8];exact a7_9
 have a8_10:E8 10=.lit (.int .u64 (w0:Nat)):=by rw[hE8];exact a7_10
 have a8_11:E8 11=.lit (.int .u64 (t:Nat)):=by rw[hE8];exact a7_11
 have a8_12:E8 12=.lit (.int .u64 ((t:Int) % 4294967296)):=by rw[hE8];exact a7_12
 have a8_13:E8 13=.lit (.int .u64 ((t:Int) / 4294967296)):=by rw[hE8];rfl
 clear hE8;refine W.sq ?_;simp only[go_sem,a8_6,a8_9,a8_12,<- g3,v3,s2,v6];refine W.env fun E9 hE9=>?_;have a9_0:E9 0=.lit (.int .u64 (x:Nat)):=by rw[hE9];exact a8_0
 have a9_1:E9 1=.lit (.int .u64 (y:Nat)):=by rw[hE9];exact a8_1
 have a9_6:E9 6=.lit (.int .u64 (x0:Nat)):=by rw[hE9];exact a8_6
 have a9_7:E9 7=.lit (.int .u64 (x1:Nat)):=by rw[hE9];exact a8_7
 have a9_8:E9 8=.lit (.int .u64 (y0:Nat)):=by rw[hE9];exact a8_8
 have a9_9:E9 9=.lit (.int .u64 (y1:Nat)):=by rw[hE9];exact a8_9
 have a9_10:E9 10=.lit (.int .u64 (w0:Nat)):=by rw[hE9];exact a8_10
 have a9_11:E9 11=.lit (.int .u64 (t:Nat)):=by rw[hE9];exact a8_11
 have a9_12:E9 12=.lit (.int .u64 (w1:Nat)):=by rw[hE9];rfl
 have a9_13:E9 13=.lit (.int .u64 ((t:Int) / 4294967296)):=by rw[hE9];exact a8_13
 clear hE9;refine W.sq ?_;simp only[go_sem,a9_7,a9_9,a9_12,a9_13,<- g4,v4,ta,kv,s3,v7,s4,v8];refine W.env fun E10 hE10=>?_;have a10_0:E10 0=.lit (.int .u64 (x:Nat)):=by rw[hE10];exact a9_0
 have a10_1:E10 1=.lit (.int .u64 (y:Nat)):=by rw[hE10];exact a9_1
 have a10_6:E10 6=.lit (.int .u64 (x0:Nat)):=by rw[hE10];exact a9_6
 have a10_7:E10 7=.lit (.int .u64 (x1:Nat)):=by rw[hE10];exact a9_7
 have a10_8:E10 8=.lit (.int .u64 (y0:Nat)):=by rw[hE10];exact a9_8
 have a10_9:E10 9=.lit (.int .u64 (y1:Nat)):=by rw[hE10];exact a9_9
 have a10_10:E10 10=.lit (.int .u64 (w0:Nat)):=by rw[hE10];exact a9_10
 have a10_11:E10 11=.lit (.int .u64 (t:Nat)):=by rw[hE10];exact a9_11
 have a10_12:E10 12=.lit (.int .u64 (w1:Nat)):=by rw[hE10];exact a9_12
 have a10_13:E10 13=.lit (.int .u64 ((t:Int) / 4294967296)):=by rw[hE10];exact a9_13
 have a10_4:E10 4=.lit (.int .u64 (hi:Nat)):=by rw[hE10];rfl
 clear hE10;refine W.sq ?_;simp only[go_sem,a10_0,a10_1,s5];refine W.env fun E11 hE11=>?_;have a11_0:E11 0=.lit (.int .u64 (x:Nat)):=by rw[hE11];exact a10_0
 have a11_1:E11 1=.lit (.int .u64 (y:Nat)):=by rw[hE11];exact a10_1
 have a11_6:E11 6=.lit (.int .u64 (x0:Nat)):=by rw[hE11];exact a10_6
 have a11_7:E11 7=.lit (.int .u64 (x1:Nat)):=by rw[hE11];exact a10_7
 have a11_8:E11 8=.lit (.int .u64 (y0:Nat)):=by rw[hE11];exact a10_8
 have a11_9:E11 9=.lit (.int .u64 (y1:Nat)):=by rw[hE11];exact a10_9
 have a11_10:E11 10=.lit (.int .u64 (w0:Nat)):=by rw[hE11];exact a10_10
 have a11_11:E11 11=.lit (.int .u64 (t:Nat)):=by rw[hE11];exact a10_11
 have a11_12:E11 12=.lit (.int .u64 (w1:Nat)):=by rw[hE11];exact a10_12
 have a11_13:E11 13=.lit (.int .u64 ((t:Int) / 4294967296)):=by rw[hE11];exact a10_13
 have a11_4:E11 4=.lit (.int .u64 (hi:Nat)):=by rw[hE11];exact a10_4
 have a11_5:E11 5=.lit (.int .u64 ((x*y % 18446744073709551616:Nat):Int)):=by rw[hE11];rfl
 clear hE11;refine W.vs ?_;simp only[go_sem,a11_4,a11_5];exact av.mk (Nat.le_refl _) hK
def aY (B:Nat):List Nat -> Nat
  | [] => 0
  | d :: l => d + B * aY B l
def kZ (B:Nat):Nat -> Nat -> List Nat
  | 0, _ => []
  | f + 1, v => if v = 0 then [] else v % B :: kZ B f (v / B)
def dW (B v:Nat):List Nat := kZ B v v
def DV (l:List Nat):Prop := ∀ d, l.getLast? = some d -> d ≠ 0
structure NormD (B:Nat)(l:List Nat):Prop where
  lt:∀ d ∈ l, d < B
  top:DV l
theorem NormD.nil (B:Nat):NormD B [] := ⟨fun d h => (by cases h), fun d h => (by cases h)⟩
theorem NormD.tail {B d:Nat}{l:List Nat}(h:NormD B (d :: l)):NormD B l := ⟨fun e he => h.lt e (by simp [he]), fun e he => h.top e (by
  cases l with
  | nil => cases he
  | cons x l => rw[YY]; exact he)⟩
theorem Ad {B:Nat}(hB:2 <= B):∀ {l:List Nat}, NormD B l -> l ≠ [] -> 0 < aY B l := by
  intro l
  induction l with
  | nil => intro _ h; exact absurd rfl h
  | cons d l ih =>
    intro h _;cases l with
    | nil =>
      have := h.top d rfl;show 0 < d + B * 0;omega
    | cons x l =>
      have h1 := ih h.tail (by simp);have:0 < B * aY B (x :: l) := YA (by omega) h1;show 0 < d + B * aY B (x :: l);omega
theorem Pw {B:Nat}(hB:2 <= B):∀ {l m:List Nat}, NormD B l -> NormD B m -> aY B l = aY B m -> l = m := by
  intro l
  induction l with
  | nil =>
    intro m _ hm h;cases m with
    | nil => rfl
    | cons e m =>
      have := Ad hB hm (by simp);have h0:aY B [] = 0 := rfl;omega
  | cons d l ih =>
    intro m hl hm h;cases m with
    | nil =>
      have := Ad hB hl (by simp);have h0:aY B [] = 0 := rfl;omega
    | cons e m =>
      have h1:d + B * aY B l = e + B * aY B m := h;have hd := hl.lt d (by simp);have he := hm.lt e (by simp);have e1:d = e := by
        have := congrArg (· % B) h1;simp only[Nat.add_mul_mod_self_left, XH hd, XH he]at this;exact this
      subst e1;have e2:aY B l = aY B m := YR (show 0 < B by omega) (by omega);rw[ih hl.tail hm.tail e2]
theorem DW {B:Nat}(hB:2 <= B):∀ f v, v <= f -> NormD B (kZ B f v) /\ aY B (kZ B f v) = v /\ (v ≠ 0 -> kZ B f v ≠ []) := by
  intro f
  induction f with
  | zero => intro v hv; obtain rfl : v = 0 := by omega
            exact⟨.nil B, rfl, fun h => absurd rfl h⟩
  | succ f ih =>
    intro v hv;unfold kZ;by_cases h:v = 0
    · rw[Vx h, h]; exact⟨.nil B, rfl, fun h => absurd rfl h⟩
    · rw[Vw h];have hlt:v / B < v := Nat.div_lt_self (by omega) (by omega);obtain⟨a, b, c⟩ := ih (v / B) (by omega);refine⟨⟨fun d hd => ?_, fun d hd => ?_⟩, ?_, fun _ => by simp⟩
      · rcases List.mem_cons.1 hd with rfl | hd
        · exact X8 _ (by omega)
        · exact a.lt d hd
      · by_cases h0:v / B = 0
        · have e : kZ B f (v / B) = [] := by
            rw[h0]; cases f <;> simp [kZ]
          rw[e]at hd;simp only[List.getLast?_singleton, Option.some.injEq]at hd;have := XA v B;rw[h0]at this;omega
        · have hne := c h0;cases hq:kZ B f (v / B) with
          | nil => exact absurd hq hne
          | cons x l => rw[hq, YY]at hd; rw[hq]at a; exact a.top d hd
      · show v % B + B * aY B (kZ B f (v / B)) = v;rw[b];have := XA v B;omega
theorem qC {B:Nat}(hB:2 <= B)(v:Nat):NormD B (dW B v) := (DW hB v v (Nat.le_refl _)).1
theorem oF {B:Nat}(hB:2 <= B)(v:Nat):aY B (dW B v) = v := (DW hB v v (Nat.le_refl _)).2.1
theorem vR {B:Nat}(hB:2 <= B){l:List Nat}(h:NormD B l):l = dW B (aY B l) := Pw hB h (qC hB _) (oF hB _).symm
theorem Px {B:Nat}:∀ (l m:List Nat), aY B (l ++ m) = aY B l + B ^ l.length * aY B m := by
  intro l m
  induction l with
  | nil => show _ = 0 + B ^ 0 * _; simp
  | cons d l ih =>
    show d + B * aY B (l ++ m) = d + B * aY B l + B ^ (l.length + 1) * aY B m;rw[ih, Xz, W9, Xl (B ^ l.length) B, WM];omega
theorem DX {B:Nat}:∀ {l:List Nat},(∀ d∈l,d<B)->aY B l<B ^ l.length:=by
 intro l
 induction l with
 | nil=>intro _;simp [aY]
 | cons d l ih =>
  intro h;have h1:=h d (by simp);have h2:=ih fun x hx=>h x (by simp [hx]);show d+B*aY B l<B ^ (l.length+1);have h3:B*(aY B l+1)<=B*B ^ l.length:=Xv B h2;rw[W9,Xl (B ^ l.length)];rw[Xz]at h3;omega
theorem Ae {B:Nat}(hB:2<=B):∀ {l:List Nat},NormD B l->l≠[]->B ^ (l.length - 1)<=aY B l:=by
 intro l
 induction l with
 | nil=>intro _ h;exact absurd rfl h
 | cons d l ih =>
  intro h _;cases l with
  | nil =>
   have:=h.top d rfl;show B ^ 0<=d+B*0;simp;omega
  | cons x l =>
   have h1:=ih h.tail (by simp);show B ^ (l.length+1)<=d+B*aY B (x :: l);have h2:B*B ^ l.length<=B*aY B (x :: l):=Xv B h1;rw[W9,Xl];omega
theorem DY {B:Nat}(hB:2<=B){x y:List Nat}(hx:NormD B x)(hy:NormD B y)(h:x.length<y.length):aY B x<aY B y:=by
 have h1:=DX hx.lt;have h2:=Ae hB hy fun e=>by rw[e]at h;simp at h
 have h3:B ^ x.length<=B ^ (y.length - 1):=VT (by omega) (by omega);omega
theorem DZ {B:Nat}:∀ {x y:List Nat},x.length=y.length->(∀ d∈x,d<B)->(∀ d∈y,d<B)->∀ i,i<x.length->(∀ j,i<j->j<x.length->x.getD j 0=y.getD j 0)->x.getD i 0<y.getD i 0->aY B x<aY B y:=by
 intro x
 induction x with
 | nil=>intro y _ _ _ i hi;exact absurd hi (VX _)
 | cons a x ih =>
  intro y hl hx hy i hi he hlt;cases y with
  | nil=>simp at hl
  | cons b y =>
   simp only[List.length_cons]at hl hi;have ha:=hx a (by simp);have hb:=hy b (by simp);show a+B*aY B x<b+B*aY B y;cases i with
   | zero =>
    have hxy:x=y:=by
     apply V9;intro j;rcases VR j x.length with h|h
     ·have:=he (j+1) (by omega) (by simp;omega);rw[Wi,Wi]at this;rw[Vy,Vy]at this;rw[Vv h,Vv (by omega)]at this ⊢;exact congrArg some this
     ·rw[VB h,VB (by omega)]
    rw[Ya,Ya]at hlt;rw[hxy];omega
   | succ i =>
    rw[Wi,Wi]at hlt;have:=ih (y:=y) (by omega) (fun d h=>hx d (by simp [h])) (fun d h=>hy d (by simp [h])) i (by omega) (fun j h1 h2=>by
     have:=he (j+1) (by omega) (by simp;omega);rw[Wi,Wi]at this;exact this) hlt
    have h3:B*(aY B x+1)<=B*aY B y:=Xv B this;rw[Xz]at h3;omega
theorem norm_eq {x y:List Nat}(hl:x.length=y.length)(h:∀ j,j<x.length->x.getD j 0=y.getD j 0):x=y:=by
 apply V9;intro j;rcases VR j x.length with hj|hj
 ·have:=h j hj;rw[Vy,Vy,Vv hj,Vv (by omega)]at this;rw[Vv hj,Vv (by omega)];exact congrArg some this
 ·rw[VB hj,VB (by omega)]
def gh (x y:Nat):Int:=if x<y then -1 else if x=y then 0 else 1
theorem Py (x:Nat):gh x x=0:=by unfold gh;simp
theorem D0 {x y:Nat}(h:x<y):gh x y=-1:=by unfold gh;rw[Vx h]
theorem D1 {x y:Nat}(h:y<x):gh x y=1:=by unfold gh;rw[Vw (by omega),Vw (by omega)]
theorem vS {B:Nat}(l:List Nat)(d:Nat):aY B (l++[d])=aY B l+B ^ l.length*d:=by
 rw[Px];show _+_*(d+B*0)=_;simp
theorem Pz {B n:Nat}{l out:List Nat}{i d c:Nat}(hd:l[i]?=some d)(ho:out.length=i)(h:aY B out+B ^ i*c=aY B (l.take i)*n):
  aY B (out++[(d*n+c) % B])+B ^ (i+1)*((d*n+c) / B)=aY B (l.take (i+1))*n:=by
 have hil:=get_lt hd;rw[vS,ho,aL hd,vS,VC,Xa (by omega),Wc,<- h];have e:=XA (d*n+c) B;have e2:B ^ i*(d*n+c)=B ^ i*(B*((d*n+c) / B))+B ^ i*((d*n+c) % B):=by rw[<- Xz,e]
 rw[W9,WM (B ^ i) B,WM (B ^ i) d];rw[Xz]at e2;omega
set_option maxHeartbeats 1000000 in
theorem PA {B:Nat}(hB:2<=B){x y:List Nat}(hx:NormD B x)(hy:NormD B y)(hxl:x.length<2 ^ 40)(hyl:y.length<2 ^ 40)(H:AHeap)(K:ARes->AHeap->Prop)(hK:K (.ret (aa (gh (aY B x) (aY B y)))) H):
  ae Tryd.prog G0 41 [im x,im y] H K:=by
 have lx:(x.map bE).length=x.length:=VD ..;have ly:(y.map bE).length=y.length:=VD ..;refine ae.bF (n:=41) (rs:=[.tmp 4]) Tryd.func41 rfl rfl rfl (by decide) (by kernel_rfl) (by simp) ?_;by_cases hl:(x.length:Int)=y.length;rotate_left
 ·by_cases hlt:(x.length:Int)<y.length
  ·rw[D0 (DY hB hx hy (by omega))]at hK;simp only[go_sem,hl,hlt];exact av.mk (Nat.le_refl _) hK
  ·rw[D1 (DY hB hy hx (by omega))]at hK;simp only[go_sem,hl,hlt];exact av.mk (Nat.le_refl _) hK
 have hll:x.length=y.length:=by omega
 have w0:=Vt ((y.length:Int) - 1) (by omega);simp only[go_sem,hl,w0];refine W.aG 2199022731312 (by rfl) (fun ρ H'=>H'=H/\∃ m:Nat,ρ 5=aa ((m:Int) - 1)/\m<=x.length/\∀ j,m<=j->j<x.length->x.getD j 0=y.getD j 0) (fun ρ H=>(iv (ρ 5)+1).toNat) ?_ ?_
 ·simp only[go_sem];exact⟨x.length,by rw[hl],by omega,fun j h1 h2=>absurd h2 (by omega)⟩
 rintro ρ H' ⟨hHx,m,h5,hm,hall⟩;rw[hHx];refine W.en (fun E=>E 0=.vec x.length (x.map bE) /\ E 1=.vec y.length (y.map bE) /\ E 5=aa ((m:Int) - 1)) (by simp only[go_sem,hl,<- hll,h5]) fun E ⟨e0,e1,e5⟩=>?_
 refine W.vs ?_;by_cases hm0:m=0
 ·subst hm0;have e5':E 5=aa (-1):=e5;have he:=norm_eq hll fun j hj=>hall j (XY _) hj;rw[he,Py]at hK;simp only[go_sem,e5'];exact av.mk (Nat.le_refl _) hK
 obtain⟨k,rfl⟩:∃ k,m=k+1:=⟨m - 1,by omega⟩
 have e5':E 5=aa k:=by rw[e5];congr 1;omega
 obtain⟨a,ha⟩:=get_of_lt (l:=x) (i:=k) (by omega);obtain⟨b,hb⟩:=get_of_lt (l:=y) (i:=k) (by omega);have hga:(x.map bE)[k]?=some (.lit (.int .u64 (a:Int))):=by rw[List.getElem?_map,ha];rfl
 have hgb:(y.map bE)[k]?=some (.lit (.int .u64 (b:Int))):=by rw[List.getElem?_map,hb];rfl
 have han:=aJ hga;have hbn:=aJ hgb;have hk0:(k:Int) >= 0:=by omega
 have hkx:(k:Int)<x.length:=by omega
 have hky:(k:Int)<y.length:=by omega
 have w1:=Vt ((k:Int) - 1) (by omega);have hda:x.getD k 0=a:=bf ha;have hdb:y.getD k 0=b:=bf hb;by_cases hab:(a:Int)=b
 ·simp only[go_sem,e5',hk0];refine W.draw 8 [0,0,3,7,0,0,48,112] Tryd.mixed (by kernel_rfl) (by kernel_rfl) ?_;simp only[go_sem,e0,e1,e5',hga,hgb,han,hbn,hkx,hky,hab,w1];refine⟨⟨k,rfl,by omega,fun j h1 h2=>?_⟩,by rw[h5];simp only[aa,aN];omega⟩;rcases VR k j with h|h
  ·exact hall j (by omega) h2
  ·obtain rfl:j=k:=(by omega);rw[hda,hdb];omega
 ·have hcmp:gh (aY B x) (aY B y)=if a<b then -1 else 1:=by
   split
   ·rename_i h;exact D0 (DZ hll hx.lt hy.lt k (by omega) (fun j h1 h2=>hall j (by omega) h2) (by rw[hda,hdb];exact h))
   ·rename_i h;exact D1 (DZ hll.symm hy.lt hx.lt k (by omega) (fun j h1 h2=>(hall j (by omega) (by omega)).symm) (by rw[hda,hdb];omega))
  rw[hcmp]at hK;by_cases hlt:(a:Int)<b
  ·rw[Vx (by omega)]at hK;simp only[go_sem,e5',hk0];refine W.draw 8 [0,0,3,7,0,0,48,112] Tryd.mixed (by kernel_rfl) (by kernel_rfl) ?_;simp only[go_sem,e0,e1,e5',hga,hgb,han,hbn,hkx,hky,hab];refine W.draw 8 [0,0,3,7,0,0,48,112] Tryd.mixed (by kernel_rfl) (by kernel_rfl) ?_;simp only[go_sem,e0,e1,e5',hga,hgb,han,hbn,hkx,hky,hlt];exact av.mk (Nat.le_refl _) hK
  ·rw[Vw (by omega)]at hK;simp only[go_sem,e5',hk0];refine W.draw 8 [0,0,3,7,0,0,48,112] Tryd.mixed (by kernel_rfl) (by kernel_rfl) ?_;simp only[go_sem,e0,e1,e5',hga,hgb,han,hbn,hkx,hky,hab];refine W.draw 8 [0,0,3,7,0,0,48,112] Tryd.mixed (by kernel_rfl) (by kernel_rfl) ?_;simp only[go_sem,e0,e1,e5',hga,hgb,han,hbn,hkx,hky,hlt];exact av.mk (Nat.le_refl _) hK
def fB (ns:List NodeP)(wh:Nat)(xs:List (List Int)):Nat:=xs.foldl (fun a r=>a*(dz ns r).toNat*wh) 1
theorem Af (ns:List NodeP)(wh:Nat)(xs:List (List Int))(r:List Int):fB ns wh (xs++[r])=fB ns wh xs*(dz ns r).toNat*wh:=by unfold fB;rw[WK];rfl
theorem D2 {B v k:Nat}(hB:2<=B)(h:v<B ^ k):(dW B v).length<=k:=by
 refine V2 fun hh=>?_;have hn:dW B v≠[]:=fun e=>by rw[e]at hh;simp at hh
 have h1:=Ae hB (qC hB v) hn;rw[oF hB]at h1;have h2:B ^ k<=B ^ ((dW B v).length - 1):=VT (by omega) (by omega);omega
theorem Ag {g:Int}{ns:List NodeP}(h:NetOk g ns){r:List Int}(hr:r.length=ns.length):0<=dz ns r:=by
 have:=zX h hr (di (af ns) r).length;rw[WR]at this;exact this.1
theorem D3 {g:Int}{ns:List NodeP}(h:NetOk g ns)(h6:ns.length<=6){wh:Nat}(hw:wh<=46656000000)(xs:List (List Int))(hr:∀ r∈xs,r.length=ns.length):fB ns wh xs<(2 ^ 74) ^ xs.length+1:=by
 have key:∀ k,k<=xs.length->fB ns wh (xs.take k)<=(2 ^ 74) ^ k:=by
  intro k
  induction k with
  | zero=>intro _;exact Nat.le_refl 1
  | succ k ih =>
   intro hk;obtain⟨r,hrk⟩:=get_of_lt (l:=xs) (i:=k) (by omega);have hrl:=hr r (Vs hrk);have h1:=z8 h h6 hrl;have h0:=Ag h hrl;rw[aL hrk,Af,WM,W9];refine Xk (ih (by omega)) ?_;refine We (Xk (show (dz ns r).toNat<=46656000000 by omega) hw) (by decide)
 have:=key xs.length (Nat.le_refl _);rw[WR]at this;omega
theorem PZ {B:Nat}(hB:2<=B){l:List Nat}(h:∀ d∈l,d<B)(hn:l≠[])(hv:B ^ (l.length - 1)<=aY B l):DV l:=by
 intro d hd h0;subst h0;obtain⟨q,rfl⟩:=List.getLast?_eq_some_iff.1 hd;rw[vS,YJ,Nat.add_zero]at hv;have h2:=DX (B:=B) (l:=q) fun d hd=>h d (by simp [hd]);have h3:(q++[0]).length - 1=q.length:=by simp
 rw[h3]at hv;omega
theorem Am {B:Nat}(hB:2<=B):dW B 0=[]:=(vR hB (NormD.nil B)).symm
theorem P0 {B:Nat}{l:List Nat}{c:Nat}(h:∀ d∈l,d<B)(hc:c<B)(h0:c≠0):NormD B (l++[c]):=⟨fun d hd=>by
 rcases VP.1 hd with hd|hd
 ·exact h d hd
 ·rw[List.mem_singleton.1 hd];exact hc,fun d hd=>by
 rw[List.getLast?_append]at hd;simp at hd;omega⟩
set_option maxHeartbeats 4000000 in
theorem Ei {lo b:Nat}{l:List Nat}{sl:AVal}{w:Nat}(hw:w<18446744073709551616)(hl:NormD 18446744073709551616 l)(hll:l.length<2 ^ 36)(H:AHeap)(hb:b<H.next)(hlo:lo<=H.next)(gB:H.get b=some (.arr 0 91 [sl]))(hO:aC lo H 97 sl (l.map bE))(hz:l=[]->sl=.lit (.slice none 0 0))
  (K:ARes->AHeap->Prop) (hK:∀ H' sl',H.next<=H'.next->(∀ id,id<H.next->id≠b->(∀ g n,sl≠.own id g 0 n 1)->H'.get id=H.get id)->H'.get b=some (.arr 0 91 [sl'])->aC lo H' 97 sl' ((dW 18446744073709551616 (aY 18446744073709551616 l*w)).map bE)->(dW 18446744073709551616 (aY 18446744073709551616 l*w)=[]->sl'=.lit (.slice none 0 0))->K (.ret (.tup [])) H'):
  ae Tryd.prog G0 44 [.ptr b 0 0,.lit (.int .u64 w)] H K:=by
 have hB:2<=18446744073709551616:=by decide
 have lB:=ak gB;have so:=hO.one;have sc:=hO.cells;have gk:∀ id,id≠b->∀ bk,(H.upd b bk).get id=H.get id:=fun id h2 bk=>by rw[ag,Vw h2]
 refine ae.cX (n:=56) (rs:=[]) Tryd.func44 rfl rfl rfl (by decide) (by simp) ?_;by_cases w0:w=0
 ·subst w0;refine W.sq ?_;simp only[go_sem,lB];refine av.mk (by rw[aE];exact Nat.le_refl _) (hK _ _ (by rw[aE];exact Nat.le_refl _) (fun id _ h2 _=>gk id h2 _) (by rw[ag,Vx rfl]) ?_ fun _=>rfl);rw[YJ,Am hB];exact .nil
 have w0':¬ (w:Int)=0:=by omega
 refine W.sq ?_;simp only[go_sem,w0'];refine W.sq ?_;simp only[go_sem];rcases hO with ⟨rfl,hnil⟩|⟨id,g,i1,i2,rfl,gI⟩
 ·have hl0:l=[]:=List.map_eq_nil_iff.1 hnil;subst hl0;refine W.sq ?_;simp only[go_sem,lB];refine W.en (fun E=>E 0=.ptr b 0 0 /\ E 4=.lit (.int .u64 0) /\ E 18=aa 0 /\ E 19=aa 0) (by simp only[go_sem]) fun E ⟨e0,e4,e18,e19⟩=>?_
  refine W.aG 70368743655408 (by kernel_rfl) (fun ρ Hx=>Hx=H/\ρ 19=aa 0/\ρ 4=.lit (.int .u64 0)) (fun _ _=>0) ?_ ?_
  ·exact⟨rfl,e19,e4⟩
  rintro ρ Hx ⟨hHx,h19,h4⟩;rw[hHx];refine W.vs ?_;simp only[go_sem,e18,h19];refine W.vs ?_;simp only[go_sem,h4];refine av.mk (Nat.le_refl _) (hK _ _ (Nat.le_refl _) (fun _ _ _ _=>rfl) gB ?_ fun _=>rfl);rw[show aY 18446744073709551616 []=0 by rfl,Xj,Am hB];exact .nil
 have lne:l≠[]:=fun e=>by have:=hz e;cases this
 have Vne:dW 18446744073709551616 (aY 18446744073709551616 l*w)≠[]:=fun e=>by
  have h1:=oF hB (aY 18446744073709551616 l*w);rw[e]at h1;have h2:=Ad hB hl lne;have h3:0<aY 18446744073709551616 l*w:=YA h2 (by omega);have h4:aY 18446744073709551616 []=0:=rfl;omega
 have ib:b≠id:=fun e=>by rw[e,gI]at gB;cases gB
 rw[VD]at lB so sc gB;obtain⟨n,hn⟩:∃ n,n=l.length:=⟨_,rfl⟩
 rw[<- hn]at lB so sc gB hll;have lI:=ak gI;have hlm:(l.map bE).length=n:=by rw[VD,hn]
 refine W.sq ?_;simp only[go_sem,lB,lI];refine W.en (fun E=>E 0=.ptr b 0 0 /\ E 1=.lit (.int .u64 w) /\ E 4=.lit (.int .u64 0) /\ E 17=.own id g 0 n 1 /\ E 18=aa n /\ E 19=aa 0) (by simp only[go_sem]) fun E ⟨e0,e1,e4,e17,e18,e19⟩=>?_
 refine W.aG 70368743655408 (by kernel_rfl) (fun ρ Hx=>∃ (i c:Nat) (out:List Nat),ρ 19=aa i/\i<=n/\ρ 4=.lit (.int .u64 c)/\c<18446744073709551616/\out.length=i/\(∀ d∈out,d<18446744073709551616)/\aY 18446744073709551616 out+18446744073709551616 ^ i*c=aY 18446744073709551616 (l.take i)*w/\Hx.next=H.next/\(∀ k,k≠id->Hx.get k=H.get k)/\Hx.get id=some (.arr g 97 ((out++l.drop i).map bE))) (fun ρ Hx=>n - (iv (ρ 19)).toNat) ?_ ?_
 ·exact⟨0,0,[],e19,by omega,e4,by decide,rfl,fun d h=>(by cases h),by simp [aY],rfl,fun _ _=>rfl,gI⟩
 rintro ρ Hx ⟨i,c,out,h19,hi,h4,hc,hol,hod,hval,hnx,hold,gx⟩;refine W.en (fun F=>F 0=.ptr b 0 0 /\ F 1=.lit (.int .u64 w) /\ F 4=.lit (.int .u64 c) /\ F 17=.own id g 0 n 1 /\ F 18=aa n /\ F 19=aa i) (by simp only[go_sem,e0,e1,h4,e17,e18,h19]) fun F ⟨f0,f1,f4,f17,f18,f19⟩=>?_
 have lx:=ak gx;have lb:=ak ((hold b ib).trans gB);by_cases hbn:(i:Int)<n
 ·obtain⟨d,hd⟩:=get_of_lt (l:=l) (i:=i) (by omega);have hdB:=hl.lt d (Vs hd);have hdr:l.drop i=d :: l.drop (i+1):=qS hd;have hgd:(out++l.drop i)[i]?=some d:=by rw[VQ (by omega),hol,W8,hdr];rfl
  have hgd2:((out++l.drop i).map bE)[i]?=some (.lit (.int .u64 (d:Int))):=by rw[List.getElem?_map,hgd];rfl
  have hgn:=aJ hgd2;have hlen:(out++l.drop i).length=n:=by rw[List.length_append,Wg];omega
  obtain⟨hi',hhi⟩:∃ q,q=d*w / 18446744073709551616:=⟨_,rfl⟩
  obtain⟨lo',hlo'⟩:∃ q,q=d*w % 18446744073709551616:=⟨_,rfl⟩
  have hm:d*w<=18446744073709551615*18446744073709551615:=Xk (by omega) (by omega);have hst:=Pz (B:=18446744073709551616) hd hol hval;obtain⟨dw,hdw⟩:∃ q,q=d*w:=⟨_,rfl⟩
  rw[<- hdw]at hhi hlo' hm hst;have lo2:lo'<18446744073709551616:=by rw[hlo'];exact X8 _ (by decide)
  have sE:(dw+c) % 18446744073709551616=(lo'+c) % 18446744073709551616:=by omega
  have cE:(dw+c) / 18446744073709551616=hi'+(lo'+c) / 18446744073709551616:=by omega
  rw[sE,cE]at hst;have cB:hi'+(lo'+c) / 18446744073709551616<18446744073709551616:=by omega
  have sB:(lo'+c) % 18446744073709551616<18446744073709551616:=X8 _ (by decide);obtain⟨sm,hsm⟩:∃ q,q=(lo'+c) % 18446744073709551616:=⟨_,rfl⟩
  obtain⟨mo,hmo⟩:∃ q,q=(lo'+c) / 18446744073709551616:=⟨_,rfl⟩
  rw[<- hsm,<- hmo]at hst;rw[<- hsm]at sB;rw[<- hmo]at cB;have w1:=Vt ((i:Int)+1) (by omega);have w2:=Wl ((hi':Int)+mo) (by omega);refine W.sq ?_;simp only[go_sem,f18,f19,hbn];refine W.sq ?_;simp only[go_sem];refine W.seq (W.block ?_);refine W.sq ?_;simp only[go_sem,f17,f19,lx,hgd2,hbn];refine W.sq ?_;simp only[go_sem,f1];refine aw.clo (PY d w hdB hw _ _ ⟨trivial,?_⟩);rw[<- hdw,<- hhi,<- hlo'];simp only[go_sem];refine W.sq ?_;simp only[go_sem,f4];refine GS (r:=.tup [.lit (.int .u64 (sm:Int)),.lit (.int .u64 (mo:Int))]) (by rw[hsm,hmo];rfl) ⟨trivial,?_⟩;simp only[go_sem];refine W.vs ?_;simp only[go_sem,f0,lb,lx,hbn,w2];refine⟨by rw[VD,hlen];omega,?_⟩;refine W.vs ?_;simp only[go_sem,f19,w1];refine⟨by rw[aE];omega,⟨i+1,hi'+mo,out++[sm],rfl,by omega,by rw[Yu],cB,by simp [hol],fun e he=>?_,hst,by rw[aE];exact hnx,fun k hk=>by rw[ag,Vw hk];exact hold k hk,?_⟩,by rw[h19];simp only[aa,aN];omega⟩
  ·rcases VP.1 he with he|he
   ·exact hod e he
   ·rw[List.mem_singleton.1 he];exact sB
  ·rw[ag,Vx rfl,Gu (by omega),Ww _ _ (by omega),hol,W8,hdr,List.set_cons_zero,List.append_assoc];rfl
 have ei:i=n:=by omega
 subst ei;rw[hn,WR,<- hn]at hval;rw[Xx (by omega),List.append_nil]at gx;have hOx:aC lo Hx 97 (.own id g 0 i 1) (out.map bE):=.inr ⟨id,g,i1,by omega,by rw[VD,hol],gx⟩;have hk':∀ k,(∀ g' n',AVal.own id g 0 (l.map bE).length 1≠.own k g' 0 n' 1)->k≠id:=fun k h e=>h g (l.map bE).length (by rw[e]);have bx:=(hold b ib).trans gB;refine W.vs ?_;simp only[go_sem,f18,f19,hbn];by_cases c0:c=0
 ·subst c0;refine W.vs ?_;simp only[go_sem,f4];refine av.mk (by omega) (hK _ _ (by omega) (fun k _ _ h3=>hold k (hk' k h3)) bx ?_ fun h=>absurd h Vne);rw[YJ,Nat.add_zero]at hval;have e:out=dW 18446744073709551616 (aY 18446744073709551616 l*w):=by
   rw[<- hval];by_cases h0:out=[]
   ·subst h0;exact(Am hB).symm
   ·refine vR hB ⟨hod,PZ hB hod h0 ?_⟩;rw[hval];have h1:=Ae hB hl fun e=>by rw[e]at hn;rw[hn]at hol;exact h0 (VK hol)
    have h2:aY 18446744073709551616 l*1<=aY 18446744073709551616 l*w:=Xv _ (by omega);rw[hol,hn];omega
  rw[<- e];exact hOx
 ·have c0':¬ (c:Int)=0:=by omega
  obtain⟨v',H2,hA,hO2,hn2,hp⟩:=jc (P:=Tryd.prog) (H:=Hx) (t:=91) (x:=.lit (.int .u64 (c:Int))) (n:=Hx.next+1) Tryd.underlying91 Tryd.EU Tryd.EW rfl (by rw[Tryd.EV,VD];omega) hOx (by omega) rfl;have lbE:∀ L,(ext Hx L).live b 0=_:=fun L=>(fN (by omega)).trans (ak bx);have b2:=(hp b (by omega) (fun g n e=>ib (AVal.own.inj e).1.symm)).trans bx;have lb2:=ak b2;have vo:=hO2.one;have vc:=hO2.cells;refine W.vs ?_;simp only[go_sem,f0,f4,c0',ak bx,hA,lb2,vo,vc];have e:out.map bE++[AVal.lit (.int .u64 (c:Int))]=(dW 18446744073709551616 (aY 18446744073709551616 l*w)).map bE:=by
   have h1:=vR hB (P0 hod hc c0);rw[vS,hol,hval]at h1;rw[<- h1,Wo];rfl
  rw[e]at hO2;refine av.mk (by rw[aE];omega) (hK _ v' (by rw[aE];omega) (fun k h1 h2 h3=>by rw[ag,Vw h2,hp k (by omega) fun _ _ e=>hk' k h3 (AVal.own.inj e).1.symm];exact hold k (hk' k h3)) (by rw[ag,Vx rfl]) (hO2.keep (Nat.le_refl _) (by rw[aE];omega) fun k _ h1 _ hk _=>by rw[ag,Vw (fun e=>by rw[e,b2]at hk;cases hk)]) fun h=>absurd h Vne)
end Go.Proofs
