/- Own work: contracts. -/
import Derived.Test.YtebhdkihcdmmjaaGreatConC
set_option linter.all false
set_option maxHeartbeats 8000000
set_option maxRecDepth 100000
namespace Go.Proofs
open Go.Hx Tryz
variable {rem:Bool}{g:Int}{P l:List Int}{os ps r:List Nat}{ms ns:List ZJ}{Y i k known lo n nx u v:Nat}{e:TypeId}{H:ZH}{x y:ZJ}
def nf (H1 H':ZH)(N:Nat)(cs:List ZI):Prop:=H1.A<=H'.A/\(∀id,id<H1.A->id≠N->H'.get id=H1.get id)/\H'.get N=some (.J 0 76 cs)
def RA {l:List ZJ}(h:l[i]?=some x)(hr:x.nb=[])(hy:y.nb=[]):bP (l.set i y)=(bP l).set (i*3) (aa y.L):=by
 have hl:=aP h;have h1:=vX (f:=ZJ.c7) (z:=3) lu l i y hl;have h2:=ow (f:=ZJ.c7) (z:=3) lu l i x h;have e1:x.c7=[aa x.L,.lit (.slice none 0 0),.lit (.slice none 0 0)]:=Vf hr;have e2:y.c7=[aa y.L,.lit (.slice none 0 0),.lit (.slice none 0 0)]:=Vf hy;unfold bP;rw[h1,e2];rw[e1]at h2;have h3:(l.map ZJ.c7).flatten=((l.map ZJ.c7).flatten).take (i*3)++([aa x.L,.lit (.slice none 0 0),.lit (.slice none 0 0)]++((l.map ZJ.c7).flatten).drop (i*3+3)):=by
  rw[<- h2,<- XB,VX,VX]
 have hlen:(((l.map ZJ.c7).flatten).take (i*3)).length=i*3:=by
  rw[Vr,mh (f:=ZJ.c7) (z:=3) lu];omega
 conv=>rhs;rw[h3]
 rw[Wz _ _ V,hlen];simp
theorem vZ (ord:List Int):∀(n v:Nat),v<n->(v:Int)∈gR ord n
 |0,v,h=>V
 |n+1,v,h=>by
  unfold gR;by_cases hv:v=n
  ·subst hv;simp
  ·have:=vZ ord n v V;rw[<- VX (mY ord n) (gR ord n)]at this;rcases VC.1 this with h|h
   ·exact Yf _ h
   ·exact YG _ (Xj _ h)
def ni (ps:List Z9)(i:Nat):Int × List Int:=match ps[i]? with
 |some y=>(y.par,y.w)
 |none=>(0,[])
def EG (p:Int)(k:Nat):Int:=IntKind.u8.wrap (((BitVec.ofInt IntKind.u8.bits (p.fdiv (2 ^ (min ((k:Int)).toNat IntKind.u8.bits))) &&& BitVec.ofInt IntKind.u8.bits 1).toNat:Nat):Int)
def pN (par:Int)(P:List Int)(u:Nat)(l:List Int)(k:Nat):List Int:=if P[k]?=some (u:Int)/\EG par k=1/\l.length<3 then l++[(u:Int)] else l
def lC (par:Int)(P:List Int)(i u k:Nat):List Int:=(List.range k).foldl (pN par P u) ((List.range u).foldl (fun l u=>(List.range i).foldl (pN par P u) l) [])
def v9 (par:Int)(P:List Int)(i u k:Nat):lC par P i u (k+1)=pN par P u (lC par P i u k) k:=by unfold lC;rw[VW,Wl];rfl
def RB (par:Int)(P:List Int)(i u:Nat):lC par P i (u+1) 0=lC par P i u i:=by unfold lC;rw[VW,Wl];rfl
def rz (ps:List Z9)(i:Nat):Int:=match ps[i]? with
 |some y=>2+y.L % 2
 |none=>2
def jV (ps:List Z9)(n i:Nat)(W:Int):Int:=if IntKind.i64.wrap (W*rz ps i*2 ^ (min ((n:Int)-1-i).toNat IntKind.i64.bits)) > 100 then 2 else rz ps i
def kz (ps:List Z9)(n:Nat):Nat->Int
 |0=>1
 |i+1=>kz ps n i*jV ps n i (kz ps n i)
def rA (g c:Int)(bs:List Int)(R:Nat):List (List Int):=(List.range R).map fun (q:Nat)=>oC g c.toNat bs ((q:Int)*(c+1))
def RC (g c:Int)(bs:List Int)(R:Nat):rA g c bs (R+1)=rA g c bs R++[oC g c.toNat bs ((R:Int)*(c+1))]:=by unfold rA;rw[VW,V5];rfl
def zR (g:Int)(ps:List Z9)(cs P:List Int)(n j:Nat):ZJ:=⟨jV ps n j (kz ps n j),lC (ni ps j).1 P j n 0,rA g (jV ps n j (kz ps n j)) (ni ps j).2 (aD (aL cs (lC (ni ps j).1 P j n 0))).toNat⟩
structure DoneN (g:Int)(cs P:List Int)(n j:Nat)(x:ZJ):Prop where
 pl:bZ x.F n
 p3:x.F.length<=3
 rk:∀q∈x.F,∃k,k<j/\P[k]?=some q
 rl:(x.nb.length:Int)=aD (aL cs x.F)
 ro:∀r∈x.nb,kI g x.L r
 ne:x.nb≠[]
structure LoopN (g:Int)(ps:List Z9)(cs P:List Int)(n i:Nat)(ns:List ZJ):Prop where
 len:ns.length=n
 nB:aw ns=cs
 todo:∀(j v:Nat) (x:ZJ),i<=j->P[j]?=some (v:Int)->ns[v]?=some x->x.nb=[]/\x.F=[]
 done:∀(j v:Nat) (x:ZJ),j<i->P[j]?=some (v:Int)->ns[v]?=some x->DoneN g cs P n j x
 eq:∀(j v:Nat) (x:ZJ),j<i->P[j]?=some (v:Int)->ns[v]?=some x->x=zR g ps cs P n j
 cd:∀(j v:Nat) (x:ZJ),P[j]?=some (v:Int)->ns[v]?=some x->x.L=jV ps n j (kz ps n j)
def RD {l:List ZJ}(h:l[i]?=some x)(hy:y.L=x.L)(hr:y.nb≠[]):bP (l.set i y)=((bP l).set (i*3+1) (af y.F)).set (i*3+2) (ba y.nb):=by
 have hl:=aP h;have h1:=vX (f:=ZJ.c7) (z:=3) lu l i y hl;have h2:=ow (f:=ZJ.c7) (z:=3) lu l i x h;unfold bP;rw[h1];have h3:(l.map ZJ.c7).flatten=((l.map ZJ.c7).flatten).take (i*3)++(x.c7++((l.map ZJ.c7).flatten).drop (i*3+3)):=by
  rw[<- h2,<- XB,VX,VX]
 have hlen:(((l.map ZJ.c7).flatten).take (i*3)).length=i*3:=by
  rw[Vr,mh (f:=ZJ.c7) (z:=3) lu];omega
 have ex:∃b c,x.c7=[aa x.L,b,c]:=by unfold ZJ.c7;split<;>exact⟨_,_,rfl⟩
 obtain⟨b,c,ex⟩:=ex;have ey:y.c7=[aa y.L,af y.F,ba y.nb]:=Ve hr
 conv=>rhs;rw[h3]
 rw[Wz _ _ V,Wz _ _ V,hlen,show i*3+1-i*3=1 by omega,show i*3+2-i*3=2 by omega,ex,ey];simp[hy]
structure nnh (P:List Int)(i u k:Nat)(l:List Int):Prop where
 pw:l.Pairwise (·<·)
 np:∀q∈l,0<=q/\(q<u\/(q=u/\∃k',k'<k/\P[k']?=some q))
 p3:l.length<=3
 rk:∀q∈l,∃k',k'<i/\P[k']?=some q
def nnh.skip (h:nnh P i u k l):nnh P i u (k+1) l:=⟨h.pw,fun q hq=>⟨(h.np q hq).1,(h.np q hq).2.imp id fun ⟨a,k',b,c⟩=>⟨a,k',V,c⟩⟩,h.p3,h.rk⟩
def nnh.A (h:nnh P i u k l):nnh P i (u+1) 0 l:=⟨h.pw,fun q hq=>⟨(h.np q hq).1,.inl (by rcases(h.np q hq).2 with h1|h1<;>omega)⟩,h.p3,h.rk⟩
def nnh.add (hP:nng n P)(h:nnh P i u k l)(hk:k<i)(hu:P[k]?=some (u:Int))(h3:l.length<3):nnh P i u (k+1) (l++[(u:Int)]):=by
 have lt:∀q∈l,q<u:=fun q hq=>by
  rcases(h.np q hq).2 with h1|⟨h1,k',h2,h4⟩
  ·exact h1
  ·exfalso;have e:P[k']?=P[k]?:=(by rw[h4,hu,h1]);have:=(Ws (aP h4) hP.nd).1 e;omega
 refine⟨Xh.2 ⟨h.pw,ZD,fun a ha b hb=>by obtain rfl:=List.mem_singleton.1 hb;exact lt a ha⟩,fun q hq=>?_,by simp;omega,fun q hq=>?_⟩
 ·rcases VC.1 hq with h1|h1
  ·exact⟨(h.np q h1).1,.inl (lt q h1)⟩
  ·obtain rfl:=List.mem_singleton.1 h1;exact⟨V,.inr ⟨rfl,k,V,hu⟩⟩
 ·rcases VC.1 hq with h1|h1
  ·exact h.rk q h1
  ·obtain rfl:=List.mem_singleton.1 h1;exact⟨k,hk,hu⟩
def zT (Hz Hx:ZH)(N at':Nat)(C:List ZI)(pv:ZI)(l:List Int):Prop:=nf Hz Hx N (C.set at' pv)/\aK Hz.A Hx 3 pv (ints l)
def RE (g:Int)(ps:List Z9)(ord:List Int)(ns:List ZJ):Prop:=ns.length=min (max ps.length 1) 5/\(∀(j v:Nat) (x:ZJ),(gR ord ns.length)[j]?=some (v:Int)->ns[v]?=some x->x=zR g ps (aw ns) (gR ord ns.length) ns.length j)/\∀(j v:Nat) (x:ZJ),(gR ord ns.length)[j]?=some (v:Int)->ns[v]?=some x->x.L=jV ps ns.length j (kz ps ns.length j)
def RF (g0:Int)(ps:List Z9)(ord:List Int)(hg0:U8 g0)(hps:∀x∈ps,x.Ok)(hpl:(ps.length:Int)<2 ^ 63)(hol:(ord.length:Int)<2 ^ 63)(ho8:∀x∈ord,U8 x)(H:ZH)(K:ZN->ZH->Prop)
  (hK:∀g ns N H',ZM H H'->H.A<=N->N<H'.A->H'.get N=some (.J 0 76 (aI ns))->Z1 g ns->ns.length<=5->(∀x∈ns,x.F.length<=3)->(∀x∈ns,2<=x.L)->(g=1+g0 % 60/\RE g ps ord ns)->K (.ret (.agg [aa g,.U N 0 0 ns.length 3])) H'):
  ae prog G0 34 [vW g0 ps ord] H K:=by
 refine ae.st (n:=187) (rs:=[.cell 2 90]) func34 ?_;obtain⟨n,hn⟩:∃n:Nat,min (max ps.length 1) 5=n:=⟨_,rfl⟩
 have h51:1<=n/\n<=5:=V
 have hmn:(if 5<(if (1:Int) > ps.length then 1 else (ps.length:Int)) then 5 else (if (1:Int) > ps.length then 1 else (ps.length:Int)))=(n:Int):=by split<;>split<;>omega
 have t0:g0.tmod 60=g0 % 60:=VS hg0.1;have w0:IntKind.u8.wrap (g0 % 60)=g0 % 60:=Yx _ V;have w1:IntKind.i64.wrap (g0 % 60)=g0 % 60:=Vb _ V;have w2:=Vb (1+g0 % 60) V;obtain⟨g,hg⟩:∃g,1+g0 % 60=g:=⟨_,rfl⟩
 have hg1:1<=g/\g<=60:=V
 rw[hg]at w2;simp only[go_sem,vW];refine W.dr 9 [0,1,3,7,15,0,32,127,0] mixed ?_;simp only[go_sem,hmn,t0,w1,hg,w2];refine⟨V,⟨⟨V,V⟩,⟨V,V⟩,?_⟩⟩;obtain⟨H1,hH1⟩:∃H1,H1=ext (ext H [.J 0 25 [.lit (.int .u8 g0),.Q ps.length (gD ps),.Q ord.length (cI ord)],.J 0 90 [.lit (.int .i64 0),.lit (.slice none 0 0)],.J 0 76 (List.replicate n [ZI.lit (.int .i64 0),.lit (.slice none 0 0),.lit (.slice none 0 0)]).flatten]) [.J 0 90 [.lit (.int .i64 g),.U (H.A+2) 0 0 n 3]]:=⟨_,rfl⟩
 refine W.en (fun E=>E 1=.O H.A 0 0 /\ E 2=.O (H.A+1) 0 0 /\ E 3=aa n /\ E 4=.O (H.A+3) 0 0) (by simp only[go_sem]) fun E ⟨e1,e2,e3,e4⟩=>?_
 show W _ _ _ _ _ _ ⟨E,ext (ext H [.J 0 25 [.lit (.int .u8 g0),.Q ps.length (gD ps),.Q ord.length (cI ord)],.J 0 90 [.lit (.int .i64 0),.lit (.slice none 0 0)],.J 0 76 (List.replicate n [ZI.lit (.int .i64 0),.lit (.slice none 0 0),.lit (.slice none 0 0)]).flatten]) [.J 0 90 [.lit (.int .i64 g),.U (H.A+2) 0 0 n 3]]⟩;rw[<- hH1];have n1:H1.A=H.A+4:=by rw[hH1];rfl
 have o1:ZM H H1:=by rw[hH1];exact(ZM.ext _ _).trans (.ext _ _)
 have g0':H1.get H.A=some (.J 0 25 [.lit (.int .u8 g0),.Q ps.length (gD ps),.Q ord.length (cI ord)]):=by rw[hH1,ef];exact cH ..
 have g1':H1.get (H.A+1)=some (.J 0 90 [.lit (.int .i64 0),.lit (.slice none 0 0)]):=by rw[hH1,ef];exact bN H _ 1 (ZD)
 have g2':H1.get (H.A+2)=some (.J 0 76 (bP (List.replicate n ⟨0,[],[]⟩))):=by
  rw[hH1,ef,show bP (List.replicate n ⟨0,[],[]⟩)=(List.replicate n [ZI.lit (.int .i64 0),.lit (.slice none 0 0),.lit (.slice none 0 0)]).flatten by unfold bP;rw[Yp];rfl];exact bN H _ 2 (ZD)
 have g3':H1.get (H.A+3)=some (.J 0 90 [.lit (.int .i64 g),.U (H.A+2) 0 0 n 3]):=by rw[hH1,ef];exact bN H _ 3 (ZD)
 clear hH1;have l0:=ah g0';have l1:=ah (show (ext H1 [.J 0 5 (List.replicate n (.lit (.int .u8 0)))]).get H.A=some (.J 0 25 [.lit (.int .u8 g0),.Q ps.length (gD ps),.Q ord.length (cI ord)]) by rw[dc _ _ _ V];exact g0');refine W.dr 4 [0,1,0,4] mixed ?_;simp only[go_sem,e1,e3,l1];refine⟨⟨V,V⟩,V,V,?_⟩;obtain⟨H2,hH2⟩:∃H2,H2=ext H1 [.J 0 5 (List.replicate n (.lit (.int .u8 0)))]:=⟨_,rfl⟩
 have gb:=dI hH2
 rw[<- hH2];refine ao.X ((ae.frame (H:=H2) (args:=[.agg [.U H1.A 0 0 n 1,.lit (.int .u16 0),.Q ord.length (cI ord)]]) (args':=[.agg [.Q n (cI (List.replicate n 0)),.lit (.int .u16 0),.Q ord.length (cI ord)]]) (v':=af (gR ord n)) aF rfl (fun i hi _=>?_) (Rb n h51.2 ord hol ho8 cR _ fun v H' _ ho=>⟨_,rfl,ho.pY⟩)).mono fun r H' hr=>?_)
 ·match i,hi with
  |0,_ =>
   refine .agg rfl fun i hi _=>?_
   match i,hi with
   |0,_ =>
    have:cI (List.replicate n 0)=List.replicate n (.lit (.int .u8 0)):=(by unfold cI;rw[Yp]);rw[this];exact Fz.tS gb ZD fun c hc=>⟨_,WU hc⟩
   |1,_=>exact .lit _
   |2,_=>exact .Q rfl fun i hi _=>by simp only[cI,Vt];exact .lit _
 obtain⟨rfl,rfl⟩:=hr;refine⟨trivial,?_⟩;have hperm:=zH ord n;obtain⟨P,hP⟩:∃P,P=gR ord n:=⟨_,rfl⟩
 rw[<- hP]at hperm ⊢;have n2:H'.A=H1.A+1:=hH2▸rfl
 have F0:nf H1 H' (H.A+2) (bP (List.replicate n ⟨0,[],[]⟩)):=by
  rw[hH2];exact⟨by simp[aX],fun id h _=>dc _ _ _ h,by rw[dc _ _ _ V];exact g2'⟩
 clear hH2 gb;simp only[go_sem,e3];have bs:∀k:Nat,k<=5->(3:Int) ^ k<=243:=fun k hk=>by
  have:(3:Nat) ^ k<=3 ^ 5:=Vq ZE hk;have h2:((3 ^ k:Nat):Int)<=((3 ^ 5:Nat):Int):=by exact_mod_cast this
  push_cast at h2
  exact h2
 refine W.aT 151115727451794287100864 (by rfl) (fun ρ Hx=>∃(i:Nat) (ns:List ZJ) (Wd:Int),ρ 7=aa i/\i<=n/\ns.length=n/\(∀x∈ns,x.nb=[]/\x.F=[])/\(∀j v:Nat,j<i->P[j]?=some (v:Int)->∃x,ns[v]?=some x/\2<=x.L/\x.L<=3/\x.L=jV ps n j (kz ps n j))/\ρ 6=aa Wd/\Wd=kz ps n i/\1<=Wd/\Wd<=3 ^ i/\H'.A<=Hx.A/\nf H1 Hx (H.A+2) (bP ns)) (fun ρ H=>n-(iv (ρ 7)).toNat) ?_ ?_
 ·simp only[go_sem];exact⟨0,_,1,rfl,V,ZD,fun x hx=>by obtain rfl:=WU hx;exact⟨rfl,rfl⟩,fun j v hj=>V,rfl,rfl,V,ZD,F0⟩
 rintro ρ Hx ⟨i,ns,Wd,h7,hi,hnl,hnz,hnc,h6,hWe,hW1,hW3,hnx,hF⟩;refine W.en (fun E2=>E2 1=.O H.A 0 0 /\ E2 2=.O (H.A+1) 0 0 /\ E2 3=aa n /\ E2 4=.O (H.A+3) 0 0 /\ E2 5=af P /\ E2 6=aa Wd /\ E2 7=aa i) (by simp only[go_sem,e1,e2,e3,e4,h6,h7]) fun E2 ⟨f1,f2,f3,f4,f5,f6,f7⟩=>?_
 refine W.vs ?_;have hPl:=hperm.len;have hFn:=hF.1;have m0:=ah ((hF.2.1 H.A V V).trans g0');have m3:=ah ((hF.2.1 (H.A+3) V V).trans g3');have mN:=ah hF.2.2;have m0':∀L,(ext Hx L).na H.A 0=some (25,[.lit (.int .u8 g0),.Q ps.length (gD ps),.Q ord.length (cI ord)]):=fun L=>(eF V).trans m0;have m3':∀L,(ext Hx L).na (H.A+3) 0=some (90,[.lit (.int .i64 g),.U (H.A+2) 0 0 n 3]):=fun L=>(eF V).trans m3;have mN':∀L,(ext Hx L).na (H.A+2) 0=some (76,bP ns):=fun L=>(eF V).trans mN;by_cases hb:(i:Int)<n
 ·obtain⟨pv,hpv⟩:=ay (l:=P) (i:=i) V;have hpr:=hperm.np pv (Va hpv);obtain⟨v,rfl⟩:=Vk hpr.1;obtain⟨x,hx⟩:=ay (l:=ns) (i:=v) V;have hpne:=bd hpv;have hz0:=EA hx;have hzne:=bd hz0;have hzl:=Ez ns;have hv:(v:Int)<n:=hpr.2;have hv0:(v:Int) >= 0:=hpr.1;have hiP:(i:Int)<P.length:=V
  have w3:=bs i V;have i1:=Vb ((i:Int)+1) V;have i2:=Vb ((n:Int)-1) V;have i3:=Vb ((n:Int)-1-i) V;have i4:=VL ((n:Int)-1-i) V;have fin:∀(c:Int) (B:ZO),2<=c/\c<=3->c=jV ps n i Wd->v*3+1<=(bP ns).length/\H'.A<=((ext Hx [B]).upd (H.A+2) (.J 0 76 (setAt (bP ns) (v*3) [.lit (.int .i64 c)]))).A /\
    (∃(i_1:Nat) (ns_1:List ZJ) (Wd_1:Int),ZI.lit (.int .i64 ((i:Int)+1))=.lit (.int .i64 i_1)/\i_1<=n/\ns_1.length=n/\(∀x∈ns_1,x.nb=[]/\x.F=[])/\(∀j v:Nat,j<i_1->P[j]?=some (v:Int)->∃x,ns_1[v]?=some x/\2<=x.L/\x.L<=3/\x.L=jV ps n j (kz ps n j)) /\
     ZI.lit (.int .i64 (Wd*c))=.lit (.int .i64 Wd_1)/\Wd_1=kz ps n i_1/\1<=Wd_1/\Wd_1<=3 ^ i_1/\H'.A<=((ext Hx [B]).upd (H.A+2) (.J 0 76 (setAt (bP ns) (v*3) [.lit (.int .i64 c)]))).A/\nf H1 ((ext Hx [B]).upd (H.A+2) (.J 0 76 (setAt (bP ns) (v*3) [.lit (.int .i64 c)]))) (H.A+2) (bP ns_1)) /\
    n-((i:Int)+1).toNat<n-(iv (ρ 7)).toNat:=by
   intro c B c23 hce;have p1:2<=Wd*c/\Wd*c<=3 ^ i*3:=by
    constructor
    ·have:=W4 hW1 c23.1 V V;omega
    ·exact W4 hW3 c23.2 V (V)
   have nn:((ext Hx [B]).upd (H.A+2) (.J 0 76 (setAt (bP ns) (v*3) [.lit (.int .i64 c)]))).A=Hx.A+1:=rfl;refine⟨by rw[hzl];have:=aP hx;omega,by rw[nn];omega,⟨i+1,ns.set v ⟨c,[],[]⟩,Wd*c,rfl,V,by simp[hnl],fun z hz=>?_,fun j u hj hu=>?_,rfl,by show Wd*c=kz ps n i*jV ps n i (kz ps n i);rw[<- hWe,<- hce],V,by rw[Xr];omega,by rw[nn];omega,?_⟩,by rw[h7];simp only[aa,bf];omega⟩
   ·rcases V8 hz with h|h
    ·exact hnz z h
    ·rw[h];exact⟨rfl,rfl⟩
   ·by_cases huv:u=v
    ·subst huv;have hji:j=i:=(Ws (aP hu) hperm.nd).1 (by rw[hu,hpv]);exact⟨_,Vz (aP hx),by dsimp only;omega,by dsimp only;omega,by dsimp only;rw[hji,<- hWe];exact hce⟩
    ·rw[VN V];refine hnc j u ?_ hu;rcases VA j i with h|h
     ·exact h
     ·obtain rfl:j=i:=V;rw[hpv]at hu;exact absurd (by have:=Option.some.inj hu;omega) huv
   ·refine⟨by rw[nn];omega,fun id h1 h2=>by rw[aj,Ve h2,dc _ _ _ V];exact hF.2.1 id h1 h2,?_⟩;rw[aj,Vf rfl,RA hx (hnz x (Va hx)).1 rfl];congr 2;exact iY (by rw[hzl];have:=aP hx;omega)
  by_cases hp:(i:Int)<ps.length
  ·obtain⟨y,hy⟩:=ay (l:=ps) (i:=i) V;have hyo:=hps y (Va hy);have hc0:=Ex hy;have hc1:i*3+3<=(gD ps).length:=(by rw[Ey];omega);have hcne:¬gD ps=[]:=fun h=>by rw[h]at hc1;simp at hc1
   have c8:=hyo.1;have t1:y.L.tmod 2=y.L % 2:=VS c8.1;have i5:=Yx (y.L % 2) V;have i6:=Vb (y.L % 2) V;have i7:=Vb (2+y.L % 2) V;have c23:2<=(2+y.L % 2)/\(2+y.L % 2)<=3:=V;have p1:2<=Wd*(2+y.L % 2)/\Wd*(2+y.L % 2)<=3 ^ i*3:=by
    constructor
    ·have:=W4 hW1 c23.1 V V;omega
    ·exact W4 hW3 c23.2 V (V)
   have p2:2<=Wd*2/\Wd*2<=3 ^ i*3:=V;have j1:=Vb (Wd*(2+y.L % 2)) V;have j2:=Vb (Wd*2) V;obtain⟨q,hq⟩:∃q,IntKind.i64.wrap (Wd*(2+y.L % 2)*2 ^ (min ((n:Int)-1-i).toNat IntKind.i64.bits))=q:=⟨_,rfl⟩
   have cA:jV ps n i Wd=if q > 100 then 2 else 2+y.L % 2:=by
    have h0:rz ps i=2+y.L % 2:=(by unfold rz;rw[hy]);unfold jV;rw[h0,hq]
   have hsh:∀t o1 o2,aV prog .shl t o1 o2 (.lit (.int .i64 (Wd*(2+y.L % 2)))) (.lit (.int .u64 ((n:Int)-1-i)))=some (.lit (.int .i64 q)):=fun t o1 o2=>by rw[AK V,hq]
   by_cases hq1:q > 100
   ·simp only[go_sem,f1,f3,f6,f7,m0',hb,hp,i2,i3,i4,j1,j2,hsh,hc0,hc1,hcne,t1,i6,i7,hq1];refine W.dr 7 [0,1,0,0,12,28,0] mixed ?_;simp only[go_sem,f4,f5,f6,f7,m3',mN',i1,hpv,hpne,hv,hv0,hiP];exact fin 2 _ V (by rw[cA,Vf hq1])
   ·simp only[go_sem,f1,f3,f6,f7,m0',hb,hp,i2,i3,i4,j1,hsh,hc0,hc1,hcne,t1,i6,i7,hq1];refine W.dr 7 [0,1,0,0,12,28,0] mixed ?_;simp only[go_sem,f4,f5,f6,f7,m3',mN',i1,hpv,hpne,hv,hv0,hiP];exact fin (2+y.L % 2) _ c23 (by rw[cA,Ve hq1])
  ·have p2:2<=Wd*2/\Wd*2<=3 ^ i*3:=V;have i5:IntKind.i64.wrap (2+IntKind.i64.wrap (Int.tmod 0 2))=2:=ZE;have j2:=Vb (Wd*2) V;obtain⟨q,hq⟩:∃q,IntKind.i64.wrap (Wd*2*2 ^ (min ((n:Int)-1-i).toNat IntKind.i64.bits))=q:=⟨_,rfl⟩
   have cA:jV ps n i Wd=2:=by
    have h0:rz ps i=2:=(by unfold rz;rw[Vm V]);unfold jV;rw[h0];split<;>rfl
   have hsh:∀t o1 o2,aV prog .shl t o1 o2 (.lit (.int .i64 (Wd*2))) (.lit (.int .u64 ((n:Int)-1-i)))=some (.lit (.int .i64 q)):=fun t o1 o2=>by rw[AK V,hq]
   by_cases hq1:q > 100
   ·simp only[go_sem,f1,f3,f6,f7,m0',hb,hp,i2,i3,i4,j2,hsh,i5,hq1];refine W.dr 7 [0,1,0,0,12,28,0] mixed ?_;simp only[go_sem,f4,f5,f6,f7,m3',mN',i1,hpv,hpne,hv,hv0,hiP];exact fin 2 _ V cA.symm
   ·simp only[go_sem,f1,f3,f6,f7,m0',hb,hp,i2,i3,i4,j2,hsh,i5,hq1];refine W.dr 7 [0,1,0,0,12,28,0] mixed ?_;simp only[go_sem,f4,f5,f6,f7,m3',mN',i1,hpv,hpne,hv,hv0,hiP];exact fin 2 _ V cA.symm
 ·obtain rfl:n=i:=V
  clear bs hW1 hW3 h6 f6;simp only[go_sem,f3,f7,hb];obtain⟨cs,hcs⟩:∃cs,cs=aw ns:=⟨_,rfl⟩
  have csl:cs.length=n:=by rw[hcs,eW,hnl]
  have hc23:∀c∈cs,2<=c/\c<=3:=fun c hc=>by
   obtain⟨v,hv⟩:=Vj.1 hc;have hvn:=aP hv;have hm:=vZ ord n v V;rw[<- hP]at hm;obtain⟨j,hj⟩:=Vj.1 hm;obtain⟨x,hx,h2,h3,_⟩:=hnc j v (by have:=aP hj;omega) hj;rw[hcs,cW hx]at hv;cases hv;exact⟨h2,h3⟩
  have L0:LoopN g ps cs P n 0 ns:=⟨hnl,hcs.symm,fun j v x _ _ hx=>hnz x (Va hx),fun j v x h=>V,fun j v x h=>V,fun j v x hj hx=>by
   obtain⟨x',hx',_,_,h4⟩:=hnc j v (by have:=aP hj;omega) hj;rw[hx']at hx;rw[<- Option.some.inj hx];exact h4⟩
  clear hnc hnz h7;refine W.aT 98079714615416886934934209737619636635871851991103765504 (by rfl) (fun ρ Hy=>∃(i:Nat) (ns:List ZJ),ρ 10=aa i/\i<=n/\LoopN g ps cs P n i ns/\Hx.A<=Hy.A/\nf H1 Hy (H.A+2) (bP ns)) (fun ρ H=>n-(iv (ρ 10)).toNat) ?_ ?_
  ·simp only[go_sem];exact⟨0,ns,rfl,V,L0,hF⟩
  clear L0 hF m0 m3 mN m0' m3' mN' hFn hnl hcs f7;rintro ρ Hy ⟨i,ns,h10,hi,L,hny,hF⟩;refine W.en (fun E=>E 1=.O H.A 0 0 /\ E 2=.O (H.A+1) 0 0 /\ E 3=aa n /\ E 4=.O (H.A+3) 0 0 /\ E 5=af P /\ E 10=aa i) (by simp only[go_sem,f1,f2,f3,f4,f5,h10]) fun E ⟨e1,e2,e3,e4,e5,e10⟩=>?_
  refine W.vs ?_;have hFn:=hF.1;have m0:=ah ((hF.2.1 H.A V V).trans g0');have m1:=ah ((hF.2.1 (H.A+1) V V).trans g1');have m3:=ah ((hF.2.1 (H.A+3) V V).trans g3');have m0':∀L,(ext Hy L).na H.A 0=some (25,[.lit (.int .u8 g0),.Q ps.length (gD ps),.Q ord.length (cI ord)]):=fun L=>(eF V).trans m0;by_cases hb:(i:Int)<n
  ·obtain⟨pv,hpv⟩:=ay (l:=P) (i:=i) V;have hpr:=hperm.np pv (Va hpv);obtain⟨v,rfl⟩:=Vk hpr.1;have hnl:=L.len;obtain⟨x,hx⟩:=ay (l:=ns) (i:=v) V;have hpne:=bd hpv;have hiP:(i:Int)<P.length:=V;have hP1:∀k:Nat,k<n->∃u:Nat,P[k]?=some (u:Int)/\u<n:=fun k hk=>by
    obtain⟨q,hq⟩:=ay (l:=P) (i:=k) V;have:=hperm.np q (Va hq);obtain⟨u,rfl⟩:=Vk this.1;exact⟨u,hq,V⟩
   have hpc:∀(B:List ZI),B=(if (i:Int)<ps.length then (gD ps).drop (i*3) |>.take 3 else [.lit (.int .u8 0),.lit (.int .u8 0),.lit (.slice none 0 0)])->∃(pc par:Int) (bs:List Int) (wv:ZI),B=[.lit (.int .u8 pc),.lit (.int .u8 par),wv]/\(par=(ni ps i).1/\bs=(ni ps i).2)/\U8 par/\(∀b∈bs,U8 b)/\(bs.length:Int)<2 ^ 63/\wv.one=true/\wv.cells=[wv]/\∀H0,Fz (fun _=>True) H0 0 wv (.Q bs.length (cI bs)):=by
    rintro B rfl;by_cases hp:(i:Int)<ps.length
    ·obtain⟨y,hy⟩:=ay (l:=ps) (i:=i) V;have hyo:=hps y (Va hy);rw[Vf hp,Ex hy];exact⟨y.L,y.par,y.w,_,rfl,⟨by unfold ni;rw[hy],by unfold ni;rw[hy]⟩,hyo.2.1,hyo.2.2.2,hyo.2.2.1,rfl,rfl,fun H0=>.Q rfl fun i hi _=>by simp only[cI,Vt];exact .lit _⟩
    ·rw[Ve hp];exact⟨0,0,[],_,rfl,⟨by unfold ni;rw[Vm V],by unfold ni;rw[Vm V]⟩,by unfold U8;omega,ZD,ZD,rfl,rfl,fun H0=>.nil⟩
   by_cases hp:(i:Int)<ps.length
   case' pos =>
    have hc1:i*3+3<=(gD ps).length:=(by rw[Ey];omega);have hcne:¬gD ps=[]:=fun h=>by rw[h]at hc1;simp at hc1
    rw[Vf hp]at hpc;obtain⟨pc,par,bs,wv,hc0,hpw,hpar,hbs,hbl,hwo,hwc,hwf⟩:=hpc _ rfl;simp only[go_sem,e1,e3,e5,e10,m0',hb,hp,hc0,hc1,hcne,hpv,hpne,hiP,hwo,Bool.and_true];obtain⟨Hz,hHz⟩:∃Hz,Hz=ext Hy [.J 0 148 [.lit (.int .u8 pc),.lit (.int .u8 par),wv]]:=⟨_,rfl⟩
    clear hpc hc0 hc1 hcne hp
   case' neg =>
    rw[Ve hp]at hpc;obtain⟨pc,par,bs,wv,hc0,hpw,hpar,hbs,hbl,hwo,hwc,hwf⟩:=hpc _ rfl;simp only[go_sem,e1,e3,e5,e10,m0',hb,hp,hpv,hpne,hiP];rw[hc0];obtain⟨Hz,hHz⟩:∃Hz,Hz=ext Hy [.J 0 148 [.lit (.int .u8 pc),.lit (.int .u8 par),wv]]:=⟨_,rfl⟩
    clear hpc hc0 hp
   all_goals
    rw[<- hHz];refine W.env fun E3 hE3=>?_;have k1:E3 1=.O H.A 0 0:=(by rw[hE3];simp only[go_sem,e1]);have k2:E3 2=.O (H.A+1) 0 0:=(by rw[hE3];simp only[go_sem,e2]);have k3:E3 3=aa n:=(by rw[hE3];simp only[go_sem,e3]);have k4:E3 4=.O (H.A+3) 0 0:=(by rw[hE3];simp only[go_sem,e4]);have k5:E3 5=af P:=(by rw[hE3];simp only[go_sem,e5]);have k10:E3 10=aa i:=(by rw[hE3];simp only[go_sem,e10]);have k11:E3 11=.O Hy.A 0 0:=(by rw[hE3];simp only[go_sem]);have k12:E3 12=aa v:=(by rw[hE3];simp only[go_sem]);have k13:E3 13=aa 0:=(by rw[hE3];simp only[go_sem]);clear hE3;have nz:Hz.A=Hy.A+1:=(by rw[hHz];rfl);have z3:Hz.get (H.A+3)=some (.J 0 90 [.lit (.int .i64 g),.U (H.A+2) 0 0 n 3]):=(by rw[hHz,dc _ _ _ V];exact(hF.2.1 (H.A+3) V V).trans g3');have zP:Hz.get Hy.A=some (.J 0 148 [.lit (.int .u8 pc),.lit (.int .u8 par),wv]):=(by rw[hHz];exact eh);have zN:Hz.get (H.A+2)=some (.J 0 76 (bP ns)):=(by rw[hHz,dc _ _ _ V];exact hF.2.2);have zO:∀id,id<H1.A->id≠H.A+2->Hz.get id=H1.get id:=fun id h1 h2=>by rw[hHz,dc _ _ _ V];exact hF.2.1 id h1 h2
    obtain⟨xr,xp⟩:=L.todo i v x ZG hpv hx;have hzl:=Ez ns;have hvn:=aP hx;have hcx:(bP ns)[v*3+1]?=some (.lit (.slice none 0 0)):=by
     have:=ko (f:=ZJ.c7) (z:=3) lu ns v 1 x hx V;rw[show (bP ns)[v*3+1]?=_ from this];unfold ZJ.c7;rw[Vf xr];rfl
    clear hHz e1 e2 e3 e4 e5 e10 f1 f2 f3 f4 f5 m0' m0 m1 m3;have vlt:(v:Int)<n:=hpr.2;have v0:(v:Int) >= 0:=hpr.1;have hset:∀pv pv',setAt ((bP ns).set (v*3+1) pv) (v*3+1) [pv']=(bP ns).set (v*3+1) pv':=fun pv pv'=>by rw[iY (by rw[VE];omega),YW]
    have hgetc:∀pv,((bP ns).set (v*3+1) pv)[v*3+1]?=some pv:=fun pv=>Vz V;refine W.xm (Q':=fun e s2=>e=.exit 4/\∃pv l,s2.ρ 1=.O H.A 0 0/\s2.ρ 2=.O (H.A+1) 0 0/\s2.ρ 3=aa n/\s2.ρ 4=.O (H.A+3) 0 0/\s2.ρ 5=af P/\s2.ρ 10=aa i/\s2.ρ 11=.O Hy.A 0 0/\s2.ρ 12=aa v/\zT Hz s2.H (H.A+2) (v*3+1) (bP ns) pv l/\nnh P i n 0 l/\l=lC par P i n 0) ?_ ?_
    ·refine W.aT 44601490397061167054908922280959129468035072 (by rfl) (fun ρ Hu=>∃(u:Nat) (pv:ZI) (l:List Int),ρ 13=aa u/\u<=n/\zT Hz Hu (H.A+2) (v*3+1) (bP ns) pv l/\nnh P i u 0 l/\l=lC par P i u 0) (fun ρ H=>n-(iv (ρ 13)).toNat) ?_ ?_
     ·simp only[go_sem,k13];refine⟨0,.lit (.slice none 0 0),[],rfl,V,⟨⟨ZG,fun _ _ _=>rfl,?_⟩,.nil⟩,⟨ZD,ZD,ZD,ZD⟩,rfl⟩;rw[zN,tQ hcx]
     rintro ρu Hu ⟨u,pv,l,h13,hu,hS,hL,hPk⟩;refine W.env fun E4 hE4=>?_;have q3:E4 3=aa n:=(by rw[hE4];simp only[go_sem,k3]);have q4:E4 4=.O (H.A+3) 0 0:=(by rw[hE4];simp only[go_sem,k4]);have q5:E4 5=af P:=(by rw[hE4];simp only[go_sem,k5]);have q10:E4 10=aa i:=(by rw[hE4];simp only[go_sem,k10]);have q11:E4 11=.O Hy.A 0 0:=(by rw[hE4];simp only[go_sem,k11]);have q12:E4 12=aa v:=(by rw[hE4];simp only[go_sem,k12]);have q13:E4 13=aa u:=(by rw[hE4];simp only[go_sem,h13]);have q1:E4 1=.O H.A 0 0:=(by rw[hE4];simp only[go_sem,k1]);have q2:E4 2=.O (H.A+1) 0 0:=(by rw[hE4];simp only[go_sem,k2]);clear hE4;refine W.vs ?_;by_cases hub:(u:Int)<n
     ·have u1:=Vb ((u:Int)+1) V;simp only[go_sem,q3,q13,hub];refine W.aT 44601490397058710981870980086493729605566464 (by rfl) (fun ρ Hk=>∃(k:Nat) (pv:ZI) (l:List Int),ρ 14=aa k/\k<=i/\Hu.A<=Hk.A/\zT Hz Hk (H.A+2) (v*3+1) (bP ns) pv l/\nnh P i u k l/\l=lC par P i u k) (fun ρ H=>i-(iv (ρ 14)).toNat) ?_ ?_
      ·simp only[go_sem];exact⟨0,pv,l,rfl,V,hS,hL,hPk⟩
      clear hS hL hPk;rintro ρk Hk ⟨k,pv,l,h14,hk,hnk,hS,hL,hPk⟩;refine W.env fun E5 hE5=>?_;have r4:E5 4=.O (H.A+3) 0 0:=(by rw[hE5];simp only[go_sem,q4]);have r5:E5 5=af P:=(by rw[hE5];simp only[go_sem,q5]);have r10:E5 10=aa i:=(by rw[hE5];simp only[go_sem,q10]);have r11:E5 11=.O Hy.A 0 0:=(by rw[hE5];simp only[go_sem,q11]);have r12:E5 12=aa v:=(by rw[hE5];simp only[go_sem,q12]);have r13:E5 13=aa u:=(by rw[hE5];simp only[go_sem,q13]);have r14:E5 14=aa k:=(by rw[hE5];simp only[go_sem,h14]);clear hE5;refine W.vs ?_;by_cases hki:(k:Int)<i
      ·obtain⟨hFz,hOz⟩:=hS;have hFz1:=hFz.1;obtain⟨a,ha,han⟩:=hP1 k V;have hane:=bd ha;have hkP:(k:Int)<P.length:=V;have s1:=Vb ((k:Int)+1) V;have s2:=VL (k:Int) V;have y3:=ah ((hFz.2.1 (H.A+3) V V).trans z3);have yP:=ah ((hFz.2.1 Hy.A V V).trans zP);have yN:=ah hFz.2.2;have hgc:=hgetc pv;have hcne2:=bd hgc;obtain⟨r2,hr2e⟩:∃r2,r2=EG par k:=⟨_,rfl⟩
       obtain⟨r1,hr1e⟩:∃r1,r1=par.fdiv (2 ^ (min ((k:Int)).toNat IntKind.u8.bits)):=⟨_,rfl⟩
       have hr1:∀t o1 o2,aV prog .shr t o1 o2 (.lit (.int .u8 par)) (.lit (.int .u64 (k:Int)))=some (.lit (.int .u8 r1)):=fun _ _ _=>by rw[hr1e];exact rW (V)
       have hr2:∀t o1 o2,aV prog .and t o1 o2 (.lit (.int .u8 r1)) (.lit (.int .u8 1))=some (.lit (.int .u8 r2)):=fun _ _ _=>by rw[hr2e,hr1e];exact qd
       have hlen:=vY hOz (d:=some (.slice 3)) rfl;rw[qM,bE]at hlen;by_cases hau:(a:Int)=u
       ·have hau':a=u:=V;by_cases hr:r2=1
        ·by_cases hl3:(l.length:Int)<3
         ·simp only[go_sem,r4,r5,r10,r11,r12,r13,r14,hki,ha,hane,hkP,s2,y3,yP,yN,hgc,hr1,hr2,hlen,hau,hr,hl3,vlt,v0];obtain⟨pv',Hj,hA,hO',hn',hpr'⟩:=jN (P:=prog) (H:=Hk) (t:=72) (x:=aa u) (n:=Hk.A+1) Tryz.underlying72 Tryz.fR Tryz.fD rfl (by rw[Tryz.gM,bE];omega) hOz hFz1 rfl;simp only[aa]at hA;have ng:∀id,id<Hz.A->Hj.get id=Hk.get id:=fun id h=>hpr' id V (hOz.ne h);have y3j:=ah ((ng _ V).trans ((hFz.2.1 (H.A+3) V V).trans z3));have yNj:=ah ((ng _ V).trans hFz.2.2);refine W.dr 12 [0,1,0,0,8,0,56,120,248,0,512,2040] mixed ?_;simp only[go_sem,r4,r12,r13,r14,y3,yN,yNj,hgc,vlt,v0,hA,s1];have hdj:oh (if ma pv=true then { nD:=aS pv,rs:=aS pv++[Hk.A] } else { nD:=[Hk.A+1],rs:=[Hk.A] }) { nD:=[],rs:=[H.A+3] }:=by
           rcases hOz with ⟨hO1,_⟩|⟨id,gg,hO1,hO2,hO3,_⟩
           ·rw[hO1];show oh { nD:=[Hk.A+1],rs:=[Hk.A] } _;exact⟨fun a ha=>by (obtain rfl:a=Hk.A+1:=by simpa using ha);simp;omega,fun a ha=>by simp at ha⟩
           ·rw[hO3];show oh { nD:=[id],rs:=[id]++[Hk.A] } _;exact⟨fun a ha=>by (obtain rfl:a=id:=by simpa using ha);simp;omega,fun a ha=>by simp at ha⟩
          have hpc1:=hO'.cells;rw[hpc1];refine⟨⟨V,V,V,V,V,V,V⟩,⟨hdj,hdj⟩,⟨rfl,by simp[hO'.one],by rw[VE];simp;omega⟩,by rw[aQ];omega,⟨k+1,pv',l++[(u:Int)],rfl,V,by rw[aQ];omega,⟨⟨by rw[aQ];omega,fun id h1 h2=>by rw[aj,Ve h2,ng _ h1];exact hFz.2.1 id h1 h2,?_⟩,?_⟩,hL.add hperm V (by rw[ha,hau]) V,by rw[v9,<- hPk];unfold pN;rw[Vf ⟨by rw[ha,hau],by rw[<- hr2e];exact hr,V⟩]⟩,by rw[h14];simp only[aa,bf];omega⟩
          ·rw[aj,Vf rfl,hset]
          ·have:=hO'.ng (lo':=Hz.A) (H':=Hj.upd (H.A+2) (.J 0 76 (setAt ((bP ns).set (v*3+1) pv) (v*3+1) [pv']))) ZG ZG fun id _ h1 _ _ _=>by rw[aj,Ve V]
           simpa[ints,aa] using this
         ·simp only[go_sem,r4,r5,r10,r11,r12,r13,r14,hki,ha,hane,hkP,s1,s2,y3,yP,yN,hgc,hr1,hr2,hlen,hau,hr,hl3,vlt,v0];exact⟨hnk,⟨k+1,pv,l,rfl,V,hnk,⟨hFz,hOz⟩,hL.skip,by rw[v9,<- hPk];unfold pN;rw[Ve fun h=>hl3 (by have:=h.2.2;omega)]⟩,by rw[h14];simp only[aa,bf];omega⟩
        ·simp only[go_sem,r5,r10,r11,r13,r14,hki,ha,hane,hkP,s1,s2,yP,hr1,hr2,hau,hr];exact⟨hnk,⟨k+1,pv,l,rfl,V,hnk,⟨hFz,hOz⟩,hL.skip,by rw[v9,<- hPk];unfold pN;rw[Ve fun h=>hr (by rw[hr2e];exact h.2.1)]⟩,by rw[h14];simp only[aa,bf];omega⟩
       ·simp only[go_sem,r5,r10,r13,r14,hki,ha,hane,hkP,s1,hau];exact⟨hnk,⟨k+1,pv,l,rfl,V,hnk,⟨hFz,hOz⟩,hL.skip,by rw[v9,<- hPk];unfold pN;rw[Ve fun h=>hau (by have h1:=h.1;rw[ha]at h1;exact Option.some.inj h1)]⟩,by rw[h14];simp only[aa,bf];omega⟩
      ·obtain rfl:k=i:=V;simp only[go_sem,r10,r13,r14,hki,u1];exact⟨by have:=hS.1.1;omega,⟨u+1,pv,l,rfl,V,hS,hL.A,by rw[RB];exact hPk⟩,by rw[h13];simp only[aa,bf];omega⟩
     ·obtain rfl:u=n:=V;simp only[go_sem,q1,q2,q3,q4,q5,q10,q11,q12,q13,hub];exact⟨pv,l,hS,hL,hPk⟩
    ·rintro e s2 ⟨rfl,pv,l,a1,a2,a3,a4,a5,a10,a11,a12,⟨hFz,hOz⟩,hL,hPk⟩;have hFz1:=hFz.1;obtain⟨rk,hrk,hfz⟩:∃rk,Hz.A<=rk/\Fz (fun id=>id=rk) s2.H s2.H.A pv (af l):=by
      rcases hOz with ⟨hO1,hO2⟩|⟨id,gg,hO1,hO2,hO3,hO4⟩
      ·have:l=[]:=by cases l with
        |nil=>rfl
        |cons b l=>simp[ints]at hO2
       rw[hO1,this];exact⟨s2.H.A,hFz1,.nil⟩
      ·refine⟨id,hO1,?_⟩;rw[hO3,bE];refine .nz rfl hO4 (by rw[Nat.mul_one,bE]) fun j hj h2 h'=>?_;simp only[Nat.zero_add,ints,Vt];exact .lit _
     have hne2:H.A+2≠rk:=V;refine⟨⟨s2.ρ,s2.H.fI rk (H.A+2) (.J 0 76 ((bP ns).set (v*3+1) (af l)))⟩,eZ.fI aF hFz.2.2 hne2 ZD (AO (EC ns) hfz),ZG,trivial,?_⟩;obtain⟨Hm,hHm⟩:∃Hm,Hm=s2.H.fI rk (H.A+2) (.J 0 76 ((bP ns).set (v*3+1) (af l))):=⟨_,rfl⟩
     rw[<- hHm];have hFm:nf Hz Hm (H.A+2) ((bP ns).set (v*3+1) (af l)):=by
      rw[hHm];exact⟨hFz1,fun id h1 h2=>(mD V h2).trans (hFz.2.1 id h1 h2),xk hne2⟩
     clear hFz hOz hfz hHm hne2 hrk;simp only[go_sem];refine W.env fun E6 hE6=>?_;have y1:E6 1=.O H.A 0 0:=(by rw[hE6];simp only[go_sem,a1]);have y2:E6 2=.O (H.A+1) 0 0:=(by rw[hE6];simp only[go_sem,a2]);have y3:E6 3=aa n:=(by rw[hE6];simp only[go_sem,a3]);have y4:E6 4=.O (H.A+3) 0 0:=(by rw[hE6];simp only[go_sem,a4]);have y5:E6 5=af P:=(by rw[hE6];simp only[go_sem,a5]);have y10:E6 10=aa i:=(by rw[hE6];simp only[go_sem,a10]);have y11:E6 11=.O Hy.A 0 0:=(by rw[hE6];simp only[go_sem,a11]);have y12:E6 12=aa v:=(by rw[hE6];simp only[go_sem,a12]);have y15:E6 15=aa 0:=(by rw[hE6];simp only[go_sem]);clear hE6 a1 a2 a3 a4 a5 a10 a11 a12;have lsm:fh (aL cs l):=rP (by rw[jm];have:=hL.p3;omega) fun c hc=>by
      unfold aL at hc;obtain⟨q,hq,rfl⟩:=Vu.1 hc;have hqr:=hL.np q hq;obtain⟨c,hc⟩:=ay (l:=cs) (i:=q.toNat) (by rw[csl];rcases hqr.2 with h|⟨_,k',h,_⟩<;>omega);rw[bJ hc];have:=hc23 c (Va hc);omega
     have lpos:0<aD (aL cs l)/\aD (aL cs l)<=27:=by
      have c3:∀c∈aL cs l,1<=c/\c<=3:=fun c hc=>by
       unfold aL at hc;obtain⟨q,hq,rfl⟩:=Vu.1 hc;have hqr:=hL.np q hq;obtain⟨c,hc⟩:=ay (l:=cs) (i:=q.toNat) (by rw[csl];rcases hqr.2 with h|⟨_,k',h,_⟩<;>omega);rw[bJ hc];have:=hc23 c (Va hc);omega
      have h1:=fZ fun c hc=>(c3 c hc).1;have h2:=(pF (b:=3) V fun c hc=>⟨by have:=(c3 c hc).1;omega,(c3 c hc).2⟩).2;have h3:(3:Int) ^ (aL cs l).length<=3 ^ 3:=by
       have:(3:Nat) ^ (aL cs l).length<=3 ^ 3:=Vq ZE (by rw[jm];exact hL.p3)
       exact_mod_cast this
      omega
     obtain⟨R,hR⟩:=Vk (show 0<=aD (aL cs l) by omega);have hxc:2<=x.L/\x.L<=3:=hc23 x.L (by rw[<- L.nB];exact Va (cW hx));have hFm1:=hFm.1;have w3:Hm.get (H.A+3)=some (.J 0 90 [.lit (.int .i64 g),.U (H.A+2) 0 0 n 3]):=(hFm.2.1 _ V V).trans z3;have wP:Hm.get Hy.A=some (.J 0 148 [.lit (.int .u8 pc),.lit (.int .u8 par),wv]):=(hFm.2.1 _ V V).trans zP;obtain⟨C1,hC1⟩:∃C1,C1=(bP ns).set (v*3+1) (af l):=⟨_,rfl⟩
     have c1l:C1.length=ns.length*3:=(by rw[hC1,VE,hzl]);have hcx2:C1[v*3+2]?=some (.lit (.slice none 0 0)):=by
      have:=ko (f:=ZJ.c7) (z:=3) lu ns v 2 x hx V;rw[hC1,VN V,show (bP ns)[v*3+2]?=_ from this];unfold ZJ.c7;rw[Vf xr];rfl
     have hcx0:C1[v*3]?=some (aa x.L):=(by rw[hC1,VN V];exact EA hx);rw[<- hC1]at hFm;have hset2:∀rv rv',setAt (C1.set (v*3+2) rv) (v*3+2) [rv']=C1.set (v*3+2) rv':=fun rv rv'=>by rw[iY (by rw[VE];omega),YW]
     have hgc2:∀rv,(C1.set (v*3+2) rv)[v*3+2]?=some rv:=fun rv=>Vz V;have hgc0:∀rv,(C1.set (v*3+2) rv)[v*3]?=some (aa x.L):=fun rv=>by rw[VN V];exact hcx0
     refine W.xm (Q':=fun e s2=>e=.exit 8/\∃(rv:ZI) (nb:List (List Int)),s2.ρ 1=.O H.A 0 0/\s2.ρ 2=.O (H.A+1) 0 0/\s2.ρ 3=aa n/\s2.ρ 4=.O (H.A+3) 0 0/\s2.ρ 5=af P/\s2.ρ 10=aa i/\nb.length=R/\nb=rA g x.L bs R/\(∀r∈nb,kI g x.L r)/\nf Hm s2.H (H.A+2) (C1.set (v*3+2) rv)/\aK Hm.A s2.H 72 rv (nb.map af)) ?_ ?_
     ·refine W.aT 98079714615372285444537148491336716315054007096738611200 (by rfl) (fun ρ Hr=>∃(r:Nat) (rv:ZI) (nb:List (List Int)),ρ 15=aa r/\r<=R/\nb.length=r/\nb=rA g x.L bs r/\(∀r∈nb,kI g x.L r)/\nf Hm Hr (H.A+2) (C1.set (v*3+2) rv)/\aK Hm.A Hr 72 rv (nb.map af)) (fun ρ H=>R-(iv (ρ 15)).toNat) ?_ ?_
      ·simp only[go_sem,y15];refine⟨0,.lit (.slice none 0 0),[],rfl,V,rfl,rfl,ZD,⟨ZG,fun _ _ _=>rfl,?_⟩,.nil⟩;rw[hFm.2.2,tQ hcx2]
      rintro ρr Hr ⟨r,rv,nb,h15,hr,hrl,hrD,hrows,hFr,hOr⟩;refine W.env fun E7 hE7=>?_;have b1:E7 1=.O H.A 0 0:=(by rw[hE7];simp only[go_sem,y1]);have b2:E7 2=.O (H.A+1) 0 0:=(by rw[hE7];simp only[go_sem,y2]);have b3:E7 3=aa n:=(by rw[hE7];simp only[go_sem,y3]);have b4:E7 4=.O (H.A+3) 0 0:=(by rw[hE7];simp only[go_sem,y4]);have b5:E7 5=af P:=(by rw[hE7];simp only[go_sem,y5]);have b10:E7 10=aa i:=(by rw[hE7];simp only[go_sem,y10]);have b11:E7 11=.O Hy.A 0 0:=(by rw[hE7];simp only[go_sem,y11]);have b12:E7 12=aa v:=(by rw[hE7];simp only[go_sem,y12]);have b15:E7 15=aa r:=(by rw[hE7];simp only[go_sem,h15]);clear hE7;refine W.vs ?_;have hFr1:=hFr.1;have v3:=ah ((hFr.2.1 (H.A+3) V V).trans w3);have vP:=ah ((hFr.2.1 Hy.A V V).trans wP);have vN:=ah hFr.2.2;have hzp:∀z∈ns,z.nb=[]->z.F=[]:=fun z hz hz0=>by
       obtain⟨u,hu⟩:=Vj.1 hz;have hm:=vZ ord n u (by have:=aP hu;omega);rw[<- hP]at hm;obtain⟨j,hj⟩:=Vj.1 hm;rcases VA j i with h|h
       ·exact absurd hz0 (L.done j u z h hj hu).ne
       ·exact(L.todo j u z h hj hu).2
      have hcard:aw (ns.set v ⟨x.L,l,nb⟩)=cs:=by
       have h1:aw (ns.set v ⟨x.L,l,nb⟩)=(aw ns).set v x.L:=(by unfold aw;rw[X9]);rw[h1,tQ (cW hx),L.nB]
      have hpar:aU (ns.set v ⟨x.L,l,nb⟩) ⟨x.L,l,nb⟩=aL cs l:=(by unfold aU;rw[hcard]);have fzN:Fz (fun _=>True) Hr 0 (.agg [aa g,.U (H.A+2) 0 0 n 3]) (fa g (ns.set v ⟨x.L,l,nb⟩)):=by
       refine .agg rfl fun i hi _=>?_
       match i,hi with
       |0,_=>exact .lit _
       |1,_ =>
        show Fz _ _ _ _ (.Q (ns.set v ⟨x.L,l,nb⟩).length (aI (ns.set v ⟨x.L,l,nb⟩)));rw[VE,hnl,Rx (y:=⟨x.L,l,nb⟩) hx rfl];refine .nz trivial hFr.2.2 (by rw[VE,VE,kq];omega) fun j hj h2 h'=>?_;simp only[Nat.zero_add];refine EB (A:=C1) (B:=(aI ns).set (v*3+1) (af l)) ?_ ?_ j _ _
        ·rw[hC1];exact EB (Rw ns hzp) (.ee _)
        ·have:=hOr.fz (S:=fun _=>True) (nx:=0) (cs':=nb.map af) (fun _ _=>trivial) rfl fun i hi _=>by simp only[Vt];exact .ee _
         rw[Vx]at this;exact this
      simp only[go_sem,b4,b12,b15,v3];refine ao.X ((ae.frame (H:=Hr) (args:=[.agg [aa g,.U (H.A+2) 0 0 n 3],aa v]) (args':=[fa g (ns.set v ⟨x.L,l,nb⟩),aa v]) (v':=af (aL cs l)) aF rfl (fun i hi _=>?_) (Rz g (ns.set v ⟨x.L,l,nb⟩) v ⟨x.L,l,nb⟩ (Vz hvn) (by rw[VE];omega) (by show (l.length:Int)<_;have:=hL.p3;omega) (fun q hq=>by
        have hqr:=hL.np q hq;rw[VE];rcases hqr.2 with h|⟨_,k',h,_⟩<;>omega) cR _ fun w Hq _ ho=>⟨_,rfl,by rw[hpar]at ho;exact ho.pY⟩)).mono fun r1 H1' hr1=>?_)
      ·match i,hi with
       |0,_=>exact fzN
       |1,_=>exact .lit _
      obtain⟨rfl,rfl⟩:=hr1;refine⟨trivial,?_⟩;simp only[go_sem];refine ao.X (Tb (aL cs l) lsm _ _ ⟨trivial,?_⟩);rw[hR];by_cases hrR:(r:Int)<R
      ·simp only[go_sem,hrR];obtain⟨xn,hxn⟩:=Vk (show 0<=x.L by omega);have rc:0<=(r:Int)*(x.L+1)/\(r:Int)*(x.L+1)<=27*4:=⟨W3 V V,W4 V V V V⟩
       have c1:=Vb (x.L+1) V;have c2:=Vb ((r:Int)*(x.L+1)) V;have c3:=Vb ((r:Int)+1) V;have hg2:=hgc2 rv;have hg0':=hgc0 rv;have hg2n:=bd hg2;obtain⟨row,hrow⟩:∃row,row=oC g xn bs ((r:Int)*(x.L+1)):=⟨_,rfl⟩
       have hrok:kI g x.L row:=(by rw[hrow,hxn];exact Re hg1.1 V _ _);have hpc84:∀Hq,bD prog G0 (.X 77 [] []) [aa g,aa x.L,wv,aa ((r:Int)*(x.L+1))] Hq (af row) []:=fun Hq=>by
        refine bD.mk (fun i hi=>by cases hi) fun H2 _ _=>?_;refine ae.frame (H:=H2) (args:=[aa g,aa x.L,wv,aa ((r:Int)*(x.L+1))]) (args':=[aa g,aa xn,.Q bs.length (cI bs),aa ((r:Int)*(x.L+1))]) (v':=af row) aF rfl (fun i hi _=>?_) (Rf g xn hg1 V bs hbl hbs _ V cR _ fun w Hw _ ho=>⟨_,rfl,by rw[hrow];exact ho.pY⟩)
        match i,hi with
        |0,_=>exact .lit _
        |1,_=>rw[hxn];exact .lit _
        |2,_=>exact hwf _
        |3,_=>exact .lit _
       obtain⟨rv',Hj,hA,hO',hn',hpr'⟩:=jN (P:=prog) (H:=H1') (t:=74) (x:=af row) (n:=H1'.A+1) Tryz.underlying74 Tryz.zc Tryz.ze rfl (by rw[Tryz.zd,Vx];omega) hOr hFr1 rfl;have ng:∀id,id<Hm.A->Hj.get id=H1'.get id:=fun id h=>hpr' id V (hOr.ne h);have v3j:=ah ((ng _ V).trans ((hFr.2.1 (H.A+3) V V).trans w3));have vNj:=ah ((ng _ V).trans hFr.2.2);have hA':bU prog (ext H1' [.J 0 72 [.Q row.length (ints row)]]) (H1'.A+1) 74 74 rv (.U H1'.A 0 0 1 1)=some (rv',Hj):=hA;refine W.dr 31 [0,1,0,0,8,0,56,120,248,0,512,0,2048,0,14336,30720,63488,0,131072,0,0,1048576,0,7340032,15728640,32505856,66060288,133693440,268434944,536870400,1073741816] mixed ?_;simp only[go_sem,b4,b11,b12,b15,v3,vP,vN,hg2,hg0',vlt,v0,c1,c2];refine⟨af row,[],hpc84 _,?_⟩;simp only[go_sem,b4,b11,b12,b15,vNj,vlt,v0,c3,hA'];have hdj:oh (if ma rv=true then { nD:=aS rv,rs:=aS rv++[H1'.A] } else { nD:=[H1'.A+1],rs:=[H1'.A] }) { nD:=[],rs:=[H.A+3] }:=by
        rcases hOr with ⟨hO1,_⟩|⟨id,gg,hO1,hO2,hO3,_⟩
        ·rw[hO1];show oh { nD:=[H1'.A+1],rs:=[H1'.A] } _;exact⟨fun a ha=>by (obtain rfl:a=H1'.A+1:=by simpa using ha);simp;omega,fun a ha=>by simp at ha⟩
        ·rw[hO3];show oh { nD:=[id],rs:=[id]++[H1'.A] } _;exact⟨fun a ha=>by (obtain rfl:a=id:=by simpa using ha);simp;omega,fun a ha=>by simp at ha⟩
       rw[hO'.cells];refine⟨⟨V,V,V,V,V,V,V⟩,⟨hdj,hdj⟩,⟨rfl,by simp[hO'.one],by rw[VE,c1l];simp;omega⟩,by rw[aQ];omega,⟨r+1,rv',nb++[row],rfl,V,by simp[hrl],by rw[RC,<- hrD,hrow,show x.L.toNat=xn by omega],fun q hq=>?_,⟨by rw[aQ];omega,fun id h1 h2=>by rw[aj,Ve h2,ng _ h1];exact hFr.2.1 id h1 h2,?_⟩,?_⟩,by rw[h15];simp only[aa,bf];omega⟩
       ·rcases VC.1 hq with h|h
        ·exact hrows q h
        ·obtain rfl:=List.mem_singleton.1 h;exact hrok
       ·rw[aj,Vf rfl,hset2]
       ·have:=hO'.ng (lo':=Hm.A) (H':=Hj.upd (H.A+2) (.J 0 76 (setAt (C1.set (v*3+2) rv) (v*3+2) [rv']))) ZG ZG fun id _ h1 _ _ _=>by rw[aj,Ve V]
        simpa using this
      ·simp only[go_sem,b1,b2,b3,b4,b5,b10,hrR];exact⟨rv,nb,V,by rw[hrD];congr 1;omega,hrows,hFr,hOr⟩
     ·rintro e s3 ⟨rfl,rv,nb,a1,a2,a3,a4,a5,a10,hrl,hrD,hrows,hFr,hOr⟩;have hFr1:=hFr.1;obtain⟨rk,hrk,hfz⟩:∃rk,Hm.A<=rk/\Fz (fun id=>id=rk) s3.H s3.H.A rv (ba nb):=by
       rcases hOr with ⟨hO1,hO2⟩|⟨id,gg,hO1,hO2,hO3,hO4⟩
       ·have:nb=[]:=by cases nb with
         |nil=>rfl
         |cons b l=>simp at hO2
        rw[hO1,this];exact⟨s3.H.A,hFr1,.nil⟩
       ·refine⟨id,hO1,?_⟩;rw[hO3,Vx];refine .nz rfl hO4 (by rw[Nat.mul_one,Vx]) fun j hj h2 h'=>?_;simp only[Nat.zero_add,Vt];exact .ee _
      have hne2:H.A+2≠rk:=V;have hC1z:∀c∈C1,Fz (fun id=>id=rk) s3.H s3.H.A c c:=fun c hc=>by
       rw[hC1]at hc;rcases V8 hc with h|h
       ·exact EC ns c h
       ·rw[h];exact .ee _
      refine⟨⟨s3.ρ,s3.H.fI rk (H.A+2) (.J 0 76 (C1.set (v*3+2) (ba nb)))⟩,eZ.fI aF hFr.2.2 hne2 ZD (AO hC1z hfz),ZG,trivial,?_⟩;obtain⟨He,hHe⟩:∃He,He=s3.H.fI rk (H.A+2) (.J 0 76 (C1.set (v*3+2) (ba nb))):=⟨_,rfl⟩
      rw[<- hHe];have hFe:nf Hm He (H.A+2) (C1.set (v*3+2) (ba nb)):=by
       rw[hHe];exact⟨hFr1,fun id h1 h2=>(mD V h2).trans (hFr.2.1 id h1 h2),xk hne2⟩
      clear hFr hOr hfz hHe hne2 hrk;have hFe1:=hFe.1;have i1:=Vb ((i:Int)+1) V;simp only[go_sem,a10,i1];have hiv:∀j u:Nat,P[j]?=some (u:Int)->u=v->j=i:=fun j u h1 h2=>by
       subst h2;exact(Ws (aP h1) hperm.nd).1 (by rw[h1,hpv])
      have hrne:nb≠[]:=fun h=>by rw[h]at hrl;simp at hrl;omega
      have hdone:DoneN g cs P n i ⟨x.L,l,nb⟩:=⟨⟨hL.pw,fun q hq=>⟨(hL.np q hq).1,by rcases(hL.np q hq).2 with h|⟨_,k',h,_⟩<;>omega⟩⟩,hL.p3,hL.rk,by show (nb.length:Int)=_;rw[hrl,hR],hrows,hrne⟩
      refine⟨V,⟨i+1,ns.set v ⟨x.L,l,nb⟩,rfl,V,⟨by rw[VE];exact hnl,?_,fun j u z hj hu hz=>?_,fun j u z hj hu hz=>?_,fun j u z hj hu hz=>?_,fun j u z hu hz=>?_⟩,V,V,fun id h1 h2=>?_,?_⟩,by rw[h10];simp only[aa,bf];omega⟩
      ·have h1:aw (ns.set v ⟨x.L,l,nb⟩)=(aw ns).set v x.L:=(by unfold aw;rw[X9]);rw[h1,tQ (cW hx),L.nB]
      ·have huv:¬u=v:=fun h=>by have:=hiv j u hu h;omega
       rw[VN V]at hz;exact L.todo j u z V hu hz
      ·by_cases huv:u=v
       ·obtain rfl:=hiv j u hu huv;rw[huv,Vz hvn]at hz;cases hz;exact hdone
       ·rw[VN V]at hz;have:j≠i:=fun h=>by
         rw[h,hpv]at hu;exact huv (by have:=Option.some.inj hu;omega)
        exact L.done j u z V hu hz
      ·by_cases huv:u=v
       ·obtain rfl:=hiv j u hu huv;rw[huv,Vz hvn]at hz;rw[<- Option.some.inj hz];unfold zR;rw[<- L.cd j v x hpv hx,<- hpw.1,<- hpw.2,<- hPk,hR,hrD];rfl
       ·rw[VN V]at hz;have:j≠i:=fun h=>by
         rw[h,hpv]at hu;exact huv (by have:=Option.some.inj hu;omega)
        exact L.eq j u z V hu hz
      ·by_cases huv:u=v
       ·obtain rfl:=hiv j u hu huv;rw[huv,Vz hvn]at hz;rw[<- Option.some.inj hz];exact L.cd j v x hpv hx
       ·rw[VN V]at hz;exact L.cd j u z hu hz
      ·rw[hFe.2.1 id V h2,hFm.2.1 id V h2];exact zO id h1 h2
      ·rw[hFe.2.2,RD (y:=⟨x.L,l,nb⟩) hx rfl hrne,hC1]
  ·obtain rfl:i=n:=V;simp only[go_sem,e2,e3,e4,e10,hb,m1,m3];have hnl:=L.len;have hall:∀v:Nat,v<ns.length->(v:Int)∈P:=fun v hv=>by rw[hP];exact vZ ord i v (V)
   have hdn:∀(v:Nat) (x:ZJ),ns[v]?=some x->∃j,DoneN g cs P i j x:=fun v x hx=>by
    obtain⟨j,hj⟩:=Vj.1 (hall v (aP hx));exact⟨j,L.done j v x (by have:=aP hj;have:=hperm.len;omega) hj hx⟩
   have hdm:∀x∈ns,∃j,DoneN g cs P i j x:=fun x hx=>by
    obtain⟨v,hv⟩:=Vj.1 hx;exact hdn v x hv
   have ov:ZM H (Hy.upd (H.A+1) (.J 0 90 [.lit (.int .i64 g),.U (H.A+2) 0 0 i 3])):=⟨by rw[aQ];omega,fun id h=>by rw[aj,Ve V,hF.2.1 id V V];exact o1.nf id h⟩
   have hz:bP ns=aI ns:=Ru fun x hx=>(hdm x hx).elim fun j hj=>hj.ne;have hcl8:∀x∈ns,2<=x.L/\x.L<=3:=fun x hx=>hc23 x.L (by rw[<- L.nB];exact Vu.2 ⟨x,hx,rfl⟩);have hnet:Z1 g ns:=by
    refine⟨hg1,V,fun x hx=>?_,?_,ED (P:=P) (by rw[hnl];exact hperm) hall fun j v x hj hx q hq=>?_,fun x hx=>?_⟩
    ·obtain⟨j,hj⟩:=hdm x hx;have:=hcl8 x hx;exact⟨V,by rw[hnl];exact hj.pl⟩
    ·have h2:=(pF (b:=3) V (l:=aw ns) fun c hc=>by have:=hc23 c (by rw[<- L.nB];exact hc);omega).2;have h3:(3:Int) ^ (aw ns).length<=3 ^ 5:=by
      have:(3:Nat) ^ (aw ns).length<=3 ^ 5:=Vq ZE (by rw[eW];omega)
      exact_mod_cast this
     omega
    ·have hd:=L.done j v x (by have:=aP hj;have:=hperm.len;omega) hj hx;exact⟨(hd.pl.2 q hq).1,hd.rk q hq⟩
    ·obtain⟨j,hj⟩:=hdm x hx;unfold gG aU;rw[L.nB];exact⟨hj.rl,hj.ro⟩
   rw[<- hnl];rw[<- hnl]at ov;refine ak.mk ov.A (hK g ns (H.A+2) _ ov V (by rw[aQ];omega) ?_ hnet V (fun x hx=>?_) (fun x hx=>?_) ⟨hg.symm,by rw[hnl];exact hn.symm,by rw[L.nB,hnl,<- hP];exact fun j v x hj hx=>L.eq j v x (by have:=aP hj;have:=hperm.len;omega) hj hx,by rw[hnl,<- hP];exact L.cd⟩)
   ·rw[aj,Ve V,hF.2.2,hz]
   ·obtain⟨j,hj⟩:=hdm x hx;exact hj.p3
   ·have:=hc23 x.L (by rw[<- L.nB];unfold aw;exact List.mem_map_of_mem hx);omega
def RG (g0:Int)(ps:List Z9)(ord:List Int)(hg0:U8 g0)(hps:∀x∈ps,x.Ok)(hpl:(ps.length:Int)<2 ^ 63)(hol:(ord.length:Int)<2 ^ 63)(ho8:∀x∈ord,U8 x)(H:ZH)(K:ZN->ZH->Prop)
  (hK:∀g ns N H',ZM H H'->H.A<=N->N<H'.A->H'.get N=some (.J 0 76 (aI ns))->Z1 g ns->ns.length<=5->(∀x∈ns,x.F.length<=3)->(∀x∈ns,2<=x.L)->K (.ret (.agg [aa g,.U N 0 0 ns.length 3])) H'):
  ae prog G0 34 [vW g0 ps ord] H K:=RF g0 ps ord hg0 hps hpl hol ho8 H K fun g ns N H' a b c d e f h i _=>hK g ns N H' a b c d e f h i
def RH (g0:Int)(ps:List Z9)(ord:List Int)(hg0:U8 g0)(hps:∀x∈ps,x.Ok)(hpl:(ps.length:Int)<2 ^ 63)(hol:(ord.length:Int)<2 ^ 63)(ho8:∀x∈ord,U8 x)(H:ZH)(K:ZN->ZH->Prop)
  (hK:∀g ns N H',ZM H H'->H.A<=N->N<H'.A->H'.get N=some (.J 0 76 (aI ns))->Z1 g ns->ns.length<=5->(∀x∈ns,x.F.length<=3)->K (.ret (.agg [aa g,.U N 0 0 ns.length 3])) H'):
  ae prog G0 34 [vW g0 ps ord] H K:=RG g0 ps ord hg0 hps hpl hol ho8 H K fun g ns N H' a b c d e f h _=>hK g ns N H' a b c d e f h
def EI (s v:Nat)(hs:s<2 ^ 64)(H:ZH)(K:ZN->ZH->Prop)(hK:K (.ret (.lit (.bool (s.testBit v)))) H):ae prog G0 47 [aM s,aa v] H K:=by
 refine ae.st (n:=10) (rs:=[.tmp 4]) func47 ?_;have s1:=fun t x y=>jo (P:=prog) (t:=t) (x:=x) (y:=y) (k':=.i64) (s:=v) hs;have s2:=fun t x y=>oU (P:=prog) (t:=t) (x:=x) (y:=y) (s:=v) hs;cases hb:s.testBit v
 ·rw[hb]at hK;simp only[go_sem,s1,s2,hb];exact ak.mk ZG hK
 ·rw[hb]at hK;simp only[go_sem,s1,s2,hb];exact ak.mk ZG hK
def dR (s n:Nat):List Int:=((List.range n).filter fun v=>s.testBit v).map fun (v:Nat)=>(v:Int)
def RI (s n:Nat):dR s (n+1)=if s.testBit n=true then dR s n++[(n:Int)] else dR s n:=by
 unfold dR;rw[VW,WZ,V5];by_cases h:s.testBit n=true
 ·rw[Vf h];simp[h]
 ·rw[Ve h];simp[h]
def lD {s:Nat}{q:Int}:q∈dR s n↔∃v:Nat,q=v/\v<n/\s.testBit v=true:=by
 unfold dR;simp only[Vu,WO,Vp];exact⟨fun ⟨v,⟨h1,h2⟩,h3⟩=>⟨v,h3.symm,h1,h2⟩,fun ⟨v,h1,h2,h3⟩=>⟨v,⟨h2,h3⟩,h1.symm⟩⟩
def zU (s n:Nat):(dR s n).Pairwise (·<·):=by
 unfold dR;refine List.Pairwise.map _ (R:=(·<·)) (fun a b h=>V) ?_;exact List.Pairwise.filter _ List.pairwise_lt_range
def EJ (s n:Nat):(dR s n).length<=n:=by
 unfold dR;rw[Vx];exact VO (YH _ _) (ZD)
def EK (s:Nat)(hs:s<2 ^ 64)(H:ZH)(K:ZN->ZH->Prop)(hK:K (.ret (af (dR s 8))) H):ae prog G0 37 [aM s] H K:=by
 refine ae.X ⟨_,func37,rfl,rfl⟩ fun hcl=>?_;refine ae.st (n:=17) (rs:=[.tmp 2]) func37 ?_;simp only[go_sem];refine W.aT 65528 (by rfl) (fun ρ H'=>∃k:Nat,ρ 4=aa k/\k<=8/\ZM H H'/\aK H.A H' 3 (ρ 3) (ints (dR s k))) (fun ρ H=>8-(iv (ρ 4)).toNat) ?_ ?_
 ·simp only[go_sem];exact⟨0,rfl,V,.refl _,.nil⟩
 rintro ρ H' ⟨k,h4,hk,ov,h3⟩;refine W.en (fun E=>E 0=aM s /\ E 3=ρ 3 /\ E 4=aa k) (by simp only[go_sem,h4]) fun E ⟨e0,e3,e4⟩=>?_
 refine W.vs ?_;by_cases hb:(k:Int)<8
 ·have w1:=Vb ((k:Int)+1) V;have hbl:=EJ s k;have hsu:=RI s k;simp only[go_sem,e0,e4,hb];refine ao.X (EI s k hs _ _ ⟨trivial,?_⟩);by_cases hbit:s.testBit k=true
  ·obtain⟨v',H2,hA,ov2,hO,hn2,_⟩:=lT (k:Int) ov h3 V;rw[Vf hbit]at hsu;simp only[go_sem,e3,e4,hbit,w1,hA];exact⟨by have:=ov2.A;omega,⟨k+1,rfl,V,ov2,by rw[hsu];exact hO⟩,by rw[h4];simp only[aa,bf];omega⟩
  ·rw[Ve hbit]at hsu;have hbf:s.testBit k=false:=(by simpa using hbit);simp only[go_sem,e3,e4,hbf,w1];exact⟨ov.A,⟨k+1,rfl,V,ov,by rw[hsu];exact h3⟩,by rw[h4];simp only[aa,bf];omega⟩
 ·obtain rfl:k=8:=V
  simp only[go_sem,e3,e4];exact ak.bB aF hcl ov (h3.iB fun i hi=>hi) hK
def zV:ZI->Nat
 |.U _ _ _ n _=>n
 |_=>0
def wa {v:ZI}{cs:List ZI}(h:aK lo H e v cs):zV v=cs.length:=by
 rcases h with ⟨rfl,rfl⟩|⟨_,_,_,_,rfl,_⟩<;>rfl
def zW (d:ZK):List ZI:=[.lit (.int .i64 d.nl),.Q d.C.length (bh d.C),.lit (.int .u64 (d.Y:Int)),.Q d.Z.length (bt d.Z)]
def lE (d:ZK):ZI:=.agg (zW d)
def zX (d:ZK)(cs:List ZI):List ZI:=[.lit (.int .i64 d.nl),.Q d.C.length cs,.lit (.int .u64 (d.Y:Int)),.Q d.Z.length (bt d.Z)]
def EL (d:ZK)(cs:List ZI):ZI:=.agg (zX d cs)
def RJ (d:ZK)(cs:List ZI):EL d cs=.agg (zX d cs):=rfl
def RK (d:ZK):lE d=.agg (zW d):=rfl
def RL (d:ZK)(cs:List ZI)(hd:d.Y<2 ^ 64)(hl:(d.C.length:Int)<2 ^ 39)(H:ZH)(K:ZN->ZH->Prop)(hK:K (.ret (af (aH (aG d)))) H):ae prog G0 27 [EL d cs] H K:=by
 refine ae.X ⟨_,func27,rfl,rfl⟩ fun hcl=>?_;refine ae.st (n:=21) (rs:=[.tmp 2]) func27 ?_;simp only[go_sem,RJ,zX];obtain⟨H1,hH1⟩:∃H1,H1=ext H [.J 0 38 [.lit (.int .i64 d.nl),.Q d.C.length cs,.lit (.int .u64 (d.Y:Int)),.Q d.Z.length (bt d.Z)]]:=⟨_,rfl⟩
 have l1:=ah (show H1.get H.A=some (.J 0 38 [.lit (.int .i64 d.nl),.Q d.C.length cs,.lit (.int .u64 (d.Y:Int)),.Q d.Z.length (bt d.Z)]) by rw[hH1];exact cH ..);have n1:H1.A=H.A+1:=hH1▸rfl
 have o1:ZM H H1:=hH1▸.ext _ _
 rw[<- hH1];refine W.aT 1048568 (by rfl) (fun ρ H'=>∃k:Nat,ρ 4=aa k/\k<=d.C.length/\ZM H1 H'/\aK H1.A H' 3 (ρ 3) (ints (aH (fb d.Y k)))) (fun ρ H=>d.C.length-(iv (ρ 4)).toNat) ?_ ?_
 ·simp only[go_sem];exact⟨0,rfl,V,.refl _,.nil⟩
 rintro ρ H' ⟨k,h4,hk,ov,h3⟩;refine W.en (fun E=>E 1=.O H.A 0 0 /\ E 3=ρ 3 /\ E 4=aa k) (by simp only[go_sem,h4]) fun E ⟨e1,e3,e4⟩=>?_
 refine W.vs ?_;have l2:=(ov.na (g:=0) (by omega:H.A<H1.A)).trans l1;by_cases hb:(k:Int)<d.C.length
 ·have w1:=Vb ((k:Int)+1) V;have hbl:(aH (fb d.Y k)).length<=k:=by simp only[aH,Vx];exact pH
  have hsu:=vK d.Y k;simp only[go_sem,e1,e4,l2,hb];refine ao.X (EI d.Y k hd _ _ ⟨trivial,?_⟩);by_cases hbit:d.Y.testBit k=true
  ·obtain⟨v',H2,hA,ov2,hO,hn2,_⟩:=lT (k:Int) ov h3 V;rw[Vf hbit]at hsu;simp only[go_sem,e3,e4,hbit,w1,hA];exact⟨ov2.A,⟨k+1,rfl,V,ov2,by rw[hsu,show aH (fb d.Y k++[k])=aH (fb d.Y k)++[(k:Int)] by simp[aH]];exact hO⟩,by rw[h4];simp only[aa,bf];omega⟩
  ·rw[Ve hbit]at hsu;have hbf:d.Y.testBit k=false:=(by simpa using hbit);simp only[go_sem,e3,e4,hbf,w1];exact⟨ov.A,⟨k+1,rfl,V,ov,by rw[hsu];exact h3⟩,by rw[h4];simp only[aa,bf];omega⟩
 ·have hke:k=d.C.length:=V
  rw[hke]at h3;simp only[go_sem,e1,e3,e4,l2,hb];exact ak.bB aF hcl (o1.trans ov) (h3.iB fun i hi=>V) hK
def RM (d:ZK)(hd:d.Y<2 ^ 64)(hl:(d.C.length:Int)<2 ^ 39)(H:ZH)(K:ZN->ZH->Prop)(hK:K (.ret (af (aH (aG d)))) H):ae prog G0 27 [lE d] H K:=RL d _ hd hl H K hK
def RP (g:Int)(ns:List ZJ)(hl:(ns.length:Int)<2 ^ 39)(hp:∀x∈ns,(x.F.length:Int)<2 ^ 39/\∀q∈x.F,0<=q/\q<64)(H:ZH)(K:ZN->ZH->Prop)
  (hK:∀v H',ZM H H'->aK H.A H' 34 v ((aC ns).map aM)->K (.ret v) H'):ae prog G0 36 [fa g ns] H K:=by
 refine ae.X ⟨_,func36,rfl,rfl⟩ fun hcl=>?_;refine ae.st (n:=43) (rs:=[.tmp 2]) func36 ?_;simp only[go_sem,fa,eU];obtain⟨H1,hH1⟩:∃H1,H1=ext H [.J 0 90 [.lit (.int .i64 g),.Q ns.length (aI ns)]]:=⟨_,rfl⟩
 have l1:H1.na H.A 0=some (90,[.lit (.int .i64 g),.Q ns.length (aI ns)]):=by rw[hH1];exact ah (cH ..)
 have n1:H1.A=H.A+1:=hH1▸rfl
 have o1:ZM H H1:=hH1▸.ext _ _
 rw[<- hH1];refine W.aT 4398046511096 (by rfl) (fun ρ H'=>∃k:Nat,ρ 4=aa k/\k<=ns.length/\ρ 1=.O H.A 0 0/\ZM H1 H'/\aK H1.A H' 34 (ρ 3) (((aC ns).take k).map aM)) (fun ρ H=>ns.length-(iv (ρ 4)).toNat) ?_ ?_
 ·simp only[go_sem];exact⟨0,rfl,V,.refl _,.nil⟩
 rintro ρ H' ⟨k,h4,hk,h1,ov,h3⟩;refine W.vs ?_;have l2:=(ov.na (g:=0) (by omega:H.A<H1.A)).trans l1;by_cases hb:(k:Int)<ns.length
 ·obtain⟨x,hx⟩:=ay (l:=ns) (i:=k) V;have hne:=fU hx;have e1:=mT hx;obtain⟨xl,xr⟩:=hp x (Va hx);simp only[go_sem,h4,h1,l2,hb];refine W.aT 274877890656 (by rfl) (fun ρ' H2=>H2=H'/\∃j:Nat,ρ' 6=aa j/\j<=x.F.length/\ρ' 5=aM (bG (x.F.take j))) (fun ρ' H=>x.F.length-(iv (ρ' 6)).toNat) ?_ ?_
  ·simp only[go_sem];exact⟨0,rfl,V,rfl⟩
  rintro ρ' H2 ⟨rfl,j,h6,hj,h5⟩;refine W.vs ?_;by_cases hb2:(j:Int)<x.F.length
  ·obtain⟨q,hq⟩:=ay (l:=x.F) (i:=j) V;obtain⟨q0,q1⟩:=xr q (Va hq);obtain⟨u,rfl⟩:=Vk q0;have hne2:=bd hq;have w1:=VL (u:Int) V;have w2:=Vb ((j:Int)+1) V;have b1:bG (x.F.take j)<2 ^ 64:=lg fun p hp=>by have:=xr p (VD hp);omega
   have s1:=fun t x y=>lQ (P:=prog) (t:=t) (x:=x) (y:=y) (k':=.u64) (s:=u) V;have s2:=fun t x y=>j5 (P:=prog) (t:=t) (x:=x) (y:=y) (b:=2 ^ u) b1 (Wt ZE V);simp only[go_sem,h4,h1,l2,hb,hne,e1,h6,h5,hb2,hq,hne2,w1,w2,s1,s2];exact⟨⟨j+1,ZD,V,by rw[bb hq,vF];rfl⟩,V⟩
  ·obtain⟨v',H3,hA,ov2,hO,hn2,_⟩:=FN (bG x.F) ov h3 (by simp[aC];omega);have w1:=Vb ((k:Int)+1) V;rw[Vg V]at h5;simp only[go_sem,h4,h1,l2,hb,hne,e1,h6,h5,hb2,w1,hA];refine⟨by have:=ov2.A;omega,⟨k+1,ZD,V,ov2,?_⟩,V⟩;rw[bb (kH hx)];exact hO
 ·simp only[go_sem,h4,h1,l2,hb];rw[Vg (by simp[aC];omega)]at h3;exact ak.mk (o1.trans ov).A (hK _ _ (o1.trans ov) (h3.ng V ZG fun _ _ _ _ _ _=>rfl))
def RQ (ps:List Nat)(hl:ps.length<=60)(hp:∀p∈ps,p<2 ^ 64)(r:List Nat)(htp:fF ps=some r)(H:ZH)(K:ZN->ZH->Prop)(hK:∀v H',ZM H H'->aK H.A H' 3 v (ints (aH r))->K (.ret v) H'):ae prog G0 78 [jn ps] H K:=by
 refine ae.X ⟨_,func78,rfl,rfl⟩ fun hcl=>?_;refine ae.st (n:=40) (rs:=[.tmp 2]) func78 ?_;simp only[go_sem];refine W.aT 549755813880 (by rfl) (fun ρ H'=>∃(out:List Nat) (done:Nat),ρ 4=aM done/\done<2 ^ 64/\out.length<=ps.length/\ZM H H'/\aK H.A H' 3 (ρ 3) (ints (aH out))/\ia ps (ps.length-out.length) out done=some r) (fun ρ H=>ps.length-zV (ρ 3)) ?_ ?_
 ·simp only[go_sem];exact⟨[],0,rfl,ZE,ZD,.refl _,.nil,htp⟩
 rintro ρ H' ⟨out,done,h4,hd,ho,ov,h3,ht⟩;refine W.en (fun E=>E 0=jn ps /\ E 3=ρ 3 /\ E 4=aM done) (by simp only[go_sem,h4]) fun E ⟨e0,e3,e4⟩=>?_
 refine W.vs ?_;have hlen:=vY h3 (d:=some (.slice 3)) rfl;have hol:=wa h3;have nl:(aH out).length=out.length:=by simp[aH]
 rw[qM,bE,nl]at hlen;rw[bE,nl]at hol;by_cases hb:(out.length:Int)<ps.length
 ·simp only[go_sem,e0,e3,hlen,hb];have hk1:ps.length-out.length=(ps.length-(out.length+1))+1:=V
  refine W.aT 549755811896 (by rfl) (fun ρ2 H2=>H2=H'/\∃j:Nat,ρ2 5=aa j/\j<=ps.length/\ρ2 3=ρ 3/\ρ2 4=aM done/\∀v,v<j->jT ps done v=false) (fun ρ2 H=>ps.length-(iv (ρ2 5)).toNat) ?_ ?_
  ·simp only[go_sem,e3,e4];exact⟨0,rfl,V,fun v h=>absurd h (Vs _)⟩
  rintro ρ2 H2 ⟨rfl,j,h5,hj,h3',h4',hno⟩;refine W.en (fun E2=>E2 0=jn ps /\ E2 3=ρ 3 /\ E2 4=aM done /\ E2 5=aa j) (by simp only[go_sem,e0,h3',h4',h5]) fun E2 ⟨f0,f3,f4,f5⟩=>?_
  refine W.vs ?_;by_cases hb2:(j:Int)<ps.length
  ·obtain⟨p,hpj⟩:=ay (l:=ps) (i:=j) V;have hpj':(ps.map aM)[j]?=some (aM p):=(by rw[List.getElem?_map,hpj];rfl);have hne:=bd hpj';have s3:=fun t x y=>nK (P:=prog) (t:=t) (x:=x) (y:=y) (a:=p) (b:=done);have w1:=Vb ((j:Int)+1) V;have w2:=VL (j:Int) V;have cont:jT ps done j=false->∀v,v<j+1->jT ps done v=false:=fun h v hv=>by
    rcases VA v j with h'|h'
    ·exact hno v h'
    ·obtain rfl:v=j:=V;exact h
   have fe:jT ps done j=(!done.testBit j && decide (dV p done=0)):=(by unfold jT;rw[bJ hpj]);simp only[go_sem,f0,f4,f5,hb2];refine ao.X (Tg done j hd V _ _ ⟨trivial,?_⟩);cases hbit:done.testBit j;rotate_left
   ·simp only[go_sem,f3,f4,f5,w1];exact⟨⟨j+1,rfl,V,cont (by rw[fe,hbit];rfl)⟩,by rw[h5];simp only[aa,bf];omega⟩
   by_cases hz:dV p done=0;rotate_left
   ·have hz':¬((dV p done:Nat):Int)=0:=V;simp only[go_sem,f0,f3,f4,f5,hb2,hpj',hne,s3,hz',w1];exact⟨⟨j+1,rfl,V,cont (by rw[fe,hbit];simp[hz])⟩,by rw[h5];simp only[aa,bf];omega⟩
   have hz':((dV p done:Nat):Int)=0:=V;have hnx:kr ps done=some j:=FU V hno (by rw[fe,hbit];simp[hz]);obtain⟨v',H3,hA,ov2,hO,hn2,_⟩:=lT (j:Int) ov h3 (by simp[aH];omega);have b2:(2:Nat) ^ j<2 ^ 64:=Wt ZE V;have s4:=fun t x y=>lQ (P:=prog) (t:=t) (x:=x) (y:=y) (k':=.u64) (s:=j) V;have s5:=fun t x y=>j5 (P:=prog) (t:=t) (x:=x) (y:=y) hd b2;simp only[go_sem,f0,f3,f4,f5,hb2,hpj',hne,s3,s4,s5,hz',w2,hA];have hO':aK H.A H3 3 v' (ints (aH (out++[j]))):=by
    have e:aH (out++[j])=aH out++[(j:Int)]:=(by simp[aH]);rw[e];exact hO
   have hol':=wa hO';have nl':(aH (out++[j])).length=out.length+1:=(by simp[aH]);rw[bE,nl']at hol';refine⟨ov2.A,⟨out++[j],done |||2 ^ j,rfl,WR hd b2,by simp;omega,ov2,hO',?_⟩,by rw[hol,hol'];omega⟩;rw[<- ht,hk1]
   conv=>rhs;unfold ia
   rw[hnx,List.length_append];rfl
  ·have hnn:kr ps done=none:=FV fun v hv=>hno v V;rw[hk1]at ht;unfold ia at ht;rw[hnn]at ht;cases ht
 ·simp only[go_sem,e0,e3,hlen,hb];have e:ps.length-out.length=0:=V
  rw[e]at ht;unfold ia at ht;cases ht;exact ak.mk ov.A (hK _ _ ov h3)
def RS {v:ZI}{l:List Nat}(h:aK lo H e v (l.map aM)):Z3 H v (jn l):=by
 rcases h with ⟨rfl,h⟩|⟨id,g,h1,h2,rfl,h4⟩
 ·have:l=[]:=by cases l with
   |nil=>rfl
   |cons a l=>simp at h
  subst this;exact .nil
 ·have e:jn l=.Q (l.map aM).length (l.map aM):=by rw[Vx];rfl
  rw[e];refine .U h4 ZD fun j hj h2 h'=>?_;simp only[Nat.zero_add,Vt];exact .lit _
def RT (g:Int)(ns:List ZJ)(hl:ns.length<=8)(hp:∀x∈ns,(x.F.length:Int)<2 ^ 39/\∀q∈x.F,0<=q/\q<(ns.length:Int))(r:List Nat)(htp:fF (aC ns)=some r)(H:ZH)(K:ZN->ZH->Prop)
  (hK:∀v H',ZM H H'->aK H.A H' 3 v (ints (aH r))->K (.ret v) H'):ae prog G0 35 [fa g ns] H K:=by
 have hsl:(aC ns).length=ns.length:=by simp[aC]
 have hs64:∀p∈aC ns,p<2 ^ 64:=fun p h=>Vl (rR (n:=ns.length) (fun x hx q hq=>(hp x hx).2 q hq) p h) (Vq ZE V);refine ae.st (n:=6) (rs:=[.tmp 2]) func35 ?_;simp only[go_sem,fa,eU];refine ao.X (Th g ns V (fun x hx=>⟨(hp x hx).1,fun q hq=>by have:=(hp x hx).2 q hq;omega⟩) _ _ ⟨trivial,?_⟩);simp only[go_sem];refine ao.X (RQ (aC ns) V hs64 r htp _ _ fun v H' ov ho=>⟨trivial,?_⟩);simp only[go_sem];have o1:ZM H H':=(ZM.ext _ _).trans ov;exact ak.mk o1.A (hK _ _ o1 (ho.ng (by simp[aX]) ZG fun _ _ _ _ _ _=>rfl))
structure UtD where
 vars:Int
 w:List Int
def I8 (n:Int):Prop:=-128<=n/\n<128
def pO (l:List Int):List ZI:=l.map fun n=>.lit (.int .i8 n)
def RN {a:Int}(h:l[k]?=some a):(pO l)[k]?=some (.lit (.int .i8 a)):=by unfold pO;rw[List.getElem?_map,h];rfl
def UtD.cells (x:UtD):List ZI:=[.lit (.int .u8 x.vars),.Q x.w.length (pO x.w)]
def UtD.Ok (x:UtD):Prop:=U8 x.vars/\(x.w.length:Int)<2 ^ 63/\∀b∈x.w,I8 b
def we (p:Int)(k:Nat):Bool:=decide (IntKind.u8.wrap (((BitVec.ofInt IntKind.u8.bits (p.fdiv (2 ^ (min ((k:Int)).toNat IntKind.u8.bits))) &&& BitVec.ofInt IntKind.u8.bits 1).toNat:Nat):Int)=1)
def eG (p:Int):Nat->List Int
 |0=>[]
 |v+1=>if we p v=true/\(eG p v).length<3 then eG p v++[(v:Int)] else eG p v
theorem wg (p:Int):∀n:Nat,(eG p n).Pairwise (·<·)/\(∀q∈eG p n,0<=q/\q<n)/\(eG p n).length<=3
 |0=>⟨by simp[eG],by simp[eG],by simp[eG]⟩
 |n+1=>by
  obtain⟨h1,h2,h3⟩:=wg p n;unfold eG;split
  ·rename_i h;refine⟨Xh.2 ⟨h1,ZD,fun a ha b hb=>by obtain rfl:=List.mem_singleton.1 hb;exact(h2 a ha).2⟩,fun q hq=>?_,by simp;omega⟩;rcases VC.1 hq with h4|h4
   ·have:=h2 q h4;omega
   ·obtain rfl:=List.mem_singleton.1 h4;omega
  ·exact⟨h1,fun q hq=>by have:=h2 q hq;omega,h3⟩
def fu (p:UtD)(ns:List ZJ):ZV:=⟨eG p.vars ns.length,(List.range (aD (aL (aw ns) (eG p.vars ns.length))).toNat).map fun (i:Nat)=>if p.w.length=0 then 0 else (p.w.getD (i % p.w.length) 0).tmod 101⟩
def RO (p:UtD)(ns:List ZJ)(hc:∀x∈ns,1<=x.L):Z8 ns (fu p ns):=by
 obtain⟨h1,h2,h3⟩:=wg p.vars ns.length;refine⟨⟨h1,h2⟩,?_,fun x hx=>?_⟩
 ·have hp:1<=aD (aL (aw ns) (eG p.vars ns.length)):=fZ fun c h=>by
   unfold aL at h;obtain⟨q,hq,rfl⟩:=Vu.1 h;have:=h2 q hq;obtain⟨x,hx⟩:=ay (l:=ns) (i:=q.toNat) V;rw[bJ (cW hx)];exact hc x (Va hx)
  show ((List.map _ _).length:Int)=aD (aL (aw ns) (eG p.vars ns.length));rw[Vx,WT];omega
 ·unfold fu at hx;obtain⟨i,_,rfl⟩:=Vu.1 hx;split
  ·omega
  ·have h:=Y9 (p.w.getD (i % p.w.length) 0) 101;have h2:=XX (p.w.getD (i % p.w.length) 0).natAbs (show (101:Int).natAbs > 0 by decide);have h3:(101:Int).natAbs=101:=rfl;rw[h3]at h h2;omega
def RU (p:UtD)(hp:p.Ok)(g:Int)(ns:List ZJ)(h5:1<=ns.length/\ns.length<=8)(hc:∀x∈ns,1<=x.L/\x.L<=4)(H:ZH)(K:ZN->ZH->Prop)
  (hK:∀v1 v2 H',ZM H H'->aK H.A H' 3 v1 (ints (fu p ns).vars)->aK H.A H' 3 v2 (ints (fu p ns).w)->K (.ret (.agg [v1,v2])) H'):ae prog G0 38 [.agg p.cells,fa g ns] H K:=by
 refine ae.st (n:=70) (rs:=[.cell 4 87]) func38 ?_;simp only[go_sem,fa,eU,UtD.cells];obtain⟨H1,hH1⟩:∃H1,H1=ext H [.J 0 98 [.lit (.int .u8 p.vars),.Q p.w.length (pO p.w)],.J 0 90 [.lit (.int .i64 g),.Q ns.length (aI ns)],.J 0 87 [.lit (.slice none 0 0),.lit (.slice none 0 0)],.J 0 87 [.lit (.slice none 0 0),.lit (.slice none 0 0)]]:=⟨_,rfl⟩
 have g0:=dI hH1
 have g1:=gE hH1 1 rfl
 have g2:=gE hH1 2 rfl
 have g3:=gE hH1 3 rfl
 have n1:H1.A=H.A+4:=hH1▸rfl
 have o1:ZM H H1:=hH1▸.ext _ _
 rw[<- hH1];clear hH1;obtain⟨cs,hcs⟩:∃cs,cs=aw ns:=⟨_,rfl⟩
 have smk:∀k,k<=ns.length->fh (aL cs (eG p.vars k)):=fun k hk=>by
  obtain⟨h1,h2,h3⟩:=wg p.vars k;refine rP (by rw[jm];omega) fun c h=>?_;unfold aL at h;obtain⟨q,hq,rfl⟩:=Vu.1 h;have:=h2 q hq;obtain⟨x,hx⟩:=ay (l:=ns) (i:=q.toNat) V;rw[hcs,bJ (cW hx)];exact hc x (Va hx)
 refine W.aT 8796093021376 (by rfl) (fun ρ Hx=>∃(k:Nat) (v1:ZI),ρ 7=aa k/\k<=ns.length/\ρ 6=aa (aD (aL cs (eG p.vars k)))/\H1.A<=Hx.A/\(∀id,id<H1.A->id≠H.A+3->Hx.get id=H1.get id)/\Hx.get (H.A+3)=some (.J 0 87 [v1,.lit (.slice none 0 0)])/\aK H1.A Hx 3 v1 (ints (eG p.vars k))) (fun ρ H=>ns.length-(iv (ρ 7)).toNat) ?_ ?_
 ·simp only[go_sem];exact⟨0,_,rfl,V,rfl,g3,.nil⟩
 rintro ρ Hx ⟨k,v1,h7,hk,h6,hnx,hold,hu,hO⟩;refine W.en (fun E=>E 2=.O H.A 0 0 /\ E 3=.O (H.A+1) 0 0 /\ E 4=.O (H.A+2) 0 0 /\ E 5=.O (H.A+3) 0 0 /\ E 6=aa (aD (aL cs (eG p.vars k))) /\ E 7=aa k) (by simp only[go_sem,h6,h7]) fun E ⟨e2,e3,e4,e5,e6,e7⟩=>?_
 refine W.vs ?_;have l0:=ah ((hold _ V V).trans g0);have l1:=ah ((hold _ V V).trans g1);have l3:=ah hu;by_cases hb:(k:Int)<ns.length
 ·obtain⟨x,hx⟩:=ay (l:=ns) (i:=k) V;have hne:=fU hx;have c0:=mS hx;have w1:=Vb ((k:Int)+1) V;obtain⟨r1,hr1⟩:∃r1,p.vars.fdiv (2 ^ (min ((k:Int)).toNat IntKind.u8.bits))=r1:=⟨_,rfl⟩
  obtain⟨r2,hr2⟩:∃r2,IntKind.u8.wrap (((BitVec.ofInt IntKind.u8.bits r1 &&& BitVec.ofInt IntKind.u8.bits 1).toNat:Nat):Int)=r2:=⟨_,rfl⟩
  have s1:∀t o1 o2,aV prog .shr t o1 o2 (.lit (.int .u8 p.vars)) (.lit (.int .i64 (k:Int)))=some (.lit (.int .u8 r1)):=fun t o1 o2=>by rw[rW V,hr1]
  have s2:∀t o1 o2,aV prog .and t o1 o2 (.lit (.int .u8 r1)) (.lit (.int .u8 1))=some (.lit (.int .u8 r2)):=fun t o1 o2=>by rw[qd,hr2]
  have hb8:we p.vars k=decide (r2=1):=by unfold we;rw[hr1,hr2]
  have hlen:=vY hO (d:=some (.slice 3)) rfl;rw[qM,bE]at hlen;obtain⟨u1,u2,u3⟩:=wg p.vars k;have hstep:eG p.vars (k+1)=if we p.vars k=true/\(eG p.vars k).length<3 then eG p.vars k++[(k:Int)] else eG p.vars k:=rfl
  by_cases hr:r2=1
  ·by_cases h3:((eG p.vars k).length:Int)<3
   ·rw[Vf ⟨by rw[hb8,VB hr],V⟩]at hstep;obtain⟨v',H3,hA,hO3,hn3,hp3⟩:=jN (P:=prog) (H:=Hx) (t:=72) (x:=aa k) (n:=Hx.A+1) Tryz.underlying72 Tryz.fR Tryz.fD rfl (by rw[Tryz.gM,bE];omega) hO hnx rfl;simp only[aa]at hA;have ng:∀id,id<H1.A->H3.get id=Hx.get id:=fun id h=>hp3 id V (hO.ne h);have l1j:=ah ((ng _ V).trans ((hold _ V V).trans g1));have l3j:=ah ((ng _ V).trans hu);have hvc:=hO3.cells;have hvo:=hO3.one;have l1u:∀b,(H3.upd (H.A+3) b).na (H.A+1) 0=some (90,[.lit (.int .i64 g),.Q ns.length (aI ns)]):=fun b=>(lS V).trans l1j;have hpr:aD (aL cs (eG p.vars (k+1)))=aD (aL cs (eG p.vars k))*x.L:=by
     rw[hstep];unfold aL;rw[V5,hcs];show aD (_++[(aw ns).getD ((k:Int)).toNat 0])=_;rw[jj,Int.toNat_natCast,bJ (cW hx)]
    have hps:=(smk (k+1) V).prod;rw[hpr]at hps;have w2:=Vb (aD (aL cs (eG p.vars k))*x.L) V;simp only[go_sem,e2,e3,e5,e6,e7,l0,l1,l3,l3j,hb,s1,s2,hr,hlen,h3,w1,w2,hne,c0,hA,hvc,hvo,l1u];refine⟨by rw[aQ];omega,⟨k+1,v',rfl,V,by rw[hpr],by rw[aQ];omega,fun id h1 h2=>by rw[aj,Ve h2,ng _ h1];exact hold id h1 h2,by rw[aj,Vf rfl],?_⟩,by rw[h7];simp only[aa,bf];omega⟩;rw[hstep];have:=hO3.ng (lo':=H1.A) (H':=H3.upd (H.A+3) (.J 0 87 [v',.lit (.slice none 0 0)])) ZG ZG fun id _ h1 _ _ _=>by rw[aj,Ve V]
    simpa[ints,aa] using this
   ·rw[Ve V]at hstep;simp only[go_sem,e2,e3,e5,e6,e7,l0,l1,l3,hb,s1,s2,hr,hlen,h3,w1];exact⟨hnx,⟨k+1,v1,rfl,V,by rw[hstep],hnx,hold,hu,by rw[hstep];exact hO⟩,by rw[h7];simp only[aa,bf];omega⟩
  ·rw[Ve (by rw[hb8,V1 hr];simp)]at hstep;simp only[go_sem,e2,e3,e6,e7,l0,l1,hb,s1,s2,hr,w1];exact⟨hnx,⟨k+1,v1,rfl,V,by rw[hstep],hnx,hold,hu,by rw[hstep];exact hO⟩,by rw[h7];simp only[aa,bf];omega⟩
 ·have hke:k=ns.length:=V
  simp only[go_sem,e3,e7,l1,hb];rw[hke]at hO e6;obtain⟨R,hR⟩:=Vk (smk ns.length V).prod.1;have hR2:=(smk ns.length V).prod.2;rw[hR]at e6 hR2;have hwl:(fu p ns).w=(List.range R).map fun (i:Nat)=>if p.w.length=0 then 0 else (p.w.getD (i % p.w.length) 0).tmod 101:=by
   unfold fu;rw[<- hcs,hR];rfl
  have wget:∀(i:Nat) (x:Int),i<R->(if p.w.length=0 then 0 else (p.w.getD (i % p.w.length) 0).tmod 101)=x->(fu p ns).w[i]?=some x:=fun i x hi hx=>by
   rw[hwl,List.getElem?_map,VQ hi,Option.map_some,hx]
  have wlen:(fu p ns).w.length=R:=by rw[hwl];simp
  refine W.aT 590295801562612630272 (by rfl) (fun ρ H2=>∃(i:Nat) (v2:ZI),ρ 8=aa i/\i<=R/\Hx.A<=H2.A/\(∀id,id<Hx.A->id≠H.A+3->H2.get id=Hx.get id)/\H2.get (H.A+3)=some (.J 0 87 [v1,v2])/\aK Hx.A H2 3 v2 (ints ((fu p ns).w.take i))) (fun ρ H=>R-(iv (ρ 8)).toNat) ?_ ?_
  ·simp only[go_sem];exact⟨0,_,rfl,V,hu,.nil⟩
  rintro ρ2 H2 ⟨i,v2,h8,hi,hn2,hold2,hu2,hO2⟩;refine W.en (fun E2=>E2 2=.O H.A 0 0 /\ E2 4=.O (H.A+2) 0 0 /\ E2 5=.O (H.A+3) 0 0 /\ E2 6=aa R /\ E2 8=aa i) (by simp only[go_sem,e2,e4,e5,e6,h8]) fun E2 ⟨f2,f4,f5,f6,f8⟩=>?_
  refine W.vs ?_;have o02:∀id,id<H1.A->id≠H.A+3->H2.get id=H1.get id:=fun id h1 h2=>(hold2 id V h2).trans (hold id h1 h2);have m0:=ah ((o02 _ V V).trans g0);have m3:=ah hu2;by_cases hb2:(i:Int)<R
  ·have w1:=Vb ((i : Int)+1) V;have hlen:=vY hO2 (d:=some (.slice 3)) rfl;rw [qM,bE] at hlen;have tl : ((fu p ns).w.take i).length=i:=(by rw [Vr,wlen];omega);have app : ∀ x : Int,(fu p ns).w[i]?=some x→∃ v' H3,bU prog (ext H2 [.J 0 3 [.lit (.int .i64 x)]]) (H2.A+1) 72 72 v2 (.U H2.A 0 0 1 1)=some (v',H3)∧v'.cells=[v']∧v'.one=true∧H3.na (H.A+3) 0=some (87,[v1,v2])∧H2.A≤H3.A ∧
     ∀b,b=.J 0 87 [v1,v']->(∀id,id<Hx.A->id≠H.A+3->(H3.upd (H.A+3) b).get id=Hx.get id)/\(H3.upd (H.A+3) b).get (H.A+3)=some (.J 0 87 [v1,v'])/\aK Hx.A (H3.upd (H.A+3) b) 3 v' (ints ((fu p ns).w.take (i+1))):=fun x hx=>by
    obtain⟨v',H3,hA,hO3,hn3,hp3⟩:=jN (P:=prog) (H:=H2) (t:=72) (x:=aa x) (n:=H2.A+1) Tryz.underlying72 Tryz.fR Tryz.fD rfl (by rw[Tryz.gM,bE];omega) hO2 hn2 rfl;simp only[aa]at hA;have ng:∀id,id<Hx.A->H3.get id=H2.get id:=fun id h=>hp3 id V (hO2.ne h);refine⟨v',H3,hA,hO3.cells,hO3.one,ah ((ng _ V).trans hu2),hn3,fun b hb=>⟨fun id h1 h2=>by rw[aj,Ve h2,ng _ h1];exact hold2 id h1 h2,by rw[aj,Vf rfl,hb],?_⟩⟩;rw[bb hx];have:=hO3.ng (lo':=Hx.A) (H':=H3.upd (H.A+3) b) ZG ZG fun id _ h1 _ _ _=>by rw[aj,Ve V]
    simpa[ints,aa] using this
   by_cases hz:(0:Int)<p.w.length
   ·have hzn:¬(p.w.length:Int)=0:=V;have m1:(i:Int).tmod p.w.length=((i % p.w.length:Nat):Int):=(by rw[VS V];rfl);have m2:=XX i (show p.w.length > 0 by omega);obtain⟨q,hq⟩:∃q,q=i % p.w.length:=⟨_,rfl⟩
    rw[<- hq]at m1 m2;have hq0:(q:Int) >= 0:=V;have hql:(q:Int)<p.w.length:=V;obtain⟨b,hbg⟩:=ay (l:=p.w) (i:=q) m2;have b8:=hp.2.2 b (Va hbg);have hbg':=RN hbg;have hbne:=bd hbg';unfold I8 at b8;have w4:IntKind.i64.wrap b=b:=Vb _ V;have tb:-9223372036854775808<=b.tmod 101/\b.tmod 101<9223372036854775808:=by
     have h:=Y9 b 101;have h2:=XX b.natAbs (show (101:Int).natAbs > 0 by decide);have h3:(101:Int).natAbs=101:=rfl;rw[h3]at h h2;omega
    have w5:IntKind.i64.wrap (b.tmod 101)=b.tmod 101:=Vb _ V;obtain⟨v',H3,hA,hvc,hvo,l3,hn3,fin⟩:=app (b.tmod 101) (wget i _ V (by rw[Ve V,<- hq,bJ hbg]));simp only[go_sem,f2,f6,f8,m0,hb2,hz];refine W.dr 7 [0,1,0,0,8,24,60] mixed ?_;simp only[go_sem,f2,f5,f8,m0,m3,hzn,m1,hq0,hql,hbg',hbne,w1,w4,hA,hvc,hvo,l3];refine⟨by rw[aQ];omega,⟨i+1,v',rfl,V,by rw[aQ];omega,(fin _ rfl).1,(fin _ rfl).2.1,(fin _ rfl).2.2⟩,by rw[h8];simp only[aa,bf];omega⟩
   ·have hzn:p.w.length=0:=V;obtain⟨v',H3,hA,hvc,hvo,l3,hn3,fin⟩:=app 0 (wget i _ V (by rw[Vf hzn]));simp only[go_sem,f2,f5,f6,f8,m0,m3,hb2,hz,w1,hA,hvc,hvo,l3];refine⟨by rw[aQ];omega,⟨i+1,v',rfl,V,by rw[aQ];omega,(fin _ rfl).1,(fin _ rfl).2.1,(fin _ rfl).2.2⟩,by rw[h8];simp only[aa,bf];omega⟩
  ·have hie:i=R:=V;have m2:=ah ((o02 _ V V).trans g2);have hO1:aK H1.A H2 3 v1 (ints (eG p.vars ns.length)):=hO.ng ZG hn2 fun id _ h1 h3 _ _=>hold2 id h3 V;have v1o:=hO1.one;have v2o:=hO2.one;have v1c:=hO1.cells;have v2c:=hO2.cells;rw[Vg V]at hO2;simp only[go_sem,f4,f5,f6,f8,m2,m3,hb2,v1o,v2o];have k1:=hO1.ng (lo':=H.A) (H':=H2.upd (H.A+2) (.J 0 87 [v1,v2])) V (by rw[aQ];omega) fun id _ h1 _ _ _=>by rw[aj,Ve V]
   have k2:=hO2.ng (lo':=H.A) (H':=H2.upd (H.A+2) (.J 0 87 [v1,v2])) V (by rw[aQ];omega) fun id _ h1 _ _ _=>by rw[aj,Ve V]
   refine ak.mk (by rw[aQ];omega) (hK v1 v2 _ ⟨by rw[aQ];omega,fun id h=>?_⟩ k1 k2);rw[aj,Ve V,o02 id V V];exact o1.nf id h
structure TopoR (ps:List Nat)(r:List Nat):Prop where
 len:r.length=ps.length
 nd:r.Nodup
 np:∀v∈r,v<ps.length
 rk:∀(i v:Nat),r[i]?=some v->∀u,(ps.getD v 0).testBit u=true->∃j,j<i/\r[j]?=some u
def Rg (hp:∀p∈ps,p<2 ^ 64):∀(k:Nat) (out:List Nat) (done:Nat) (r:List Nat),ia ps k out done=some r->(∀i,done.testBit i=true↔i∈out)->out.Nodup->(∀v∈out,v<ps.length)->(∀(i v:Nat),out[i]?=some v->∀u,(ps.getD v 0).testBit u=true->∃j,j<i/\out[j]?=some u) ->
  r.length=out.length+k/\r.Nodup/\(∀v∈r,v<ps.length)/\(∀(i v:Nat),r[i]?=some v->∀u,(ps.getD v 0).testBit u=true->∃j,j<i/\r[j]?=some u):=by
 intro k
 induction k with
 |zero =>
  intro out done r h h1 h2 h3 h4;unfold ia at h;cases h;exact⟨rfl,h2,h3,h4⟩
 |succ k ih =>
  intro out done r h h1 h2 h3 h4;unfold ia at h;cases hn:kr ps done with
  |none=>rw[hn]at h;cases h
  |some v =>
   rw[hn]at h;obtain⟨a,b,c⟩:=vI hp hn;have hvo:v ∉ out:=fun hm=>by rw[(h1 v).2 hm]at b;cases b
   obtain⟨e1,e2,e3,e4⟩:=ih (out++[v]) (done |||2 ^ v) r h (fun i=>by
    rw[gO,VC,List.mem_singleton,VM,h1,decide_eq_true_eq];exact or_congr Iff.rfl eq_comm) (Xn.2 ⟨h2,ZD,fun x hx y hy=>by obtain rfl:=List.mem_singleton.1 hy;rintro rfl;exact hvo hx⟩) (fun x hx=>by
    rcases VC.1 hx with hx|hx
    ·exact h3 x hx
    ·obtain rfl:=List.mem_singleton.1 hx;exact a) (fun i x hx u hu=>by
    have hl:=aP hx;rw[List.length_append,Wf]at hl;rcases VA i out.length with hi|hi
    ·rw[Vv hi]at hx;obtain⟨j,j1,j2⟩:=h4 i x hx u hu;exact⟨j,j1,by rw[Vv V];exact j2⟩
    ·obtain rfl:i=out.length:=V;simp only[Y5,Option.some.injEq]at hx;subst hx;obtain⟨j,hj⟩:=Vj.1 ((h1 u).1 (c u hu));exact⟨j,aP hj,by rw[Vv (aP hj)];exact hj⟩)
   exact⟨by rw[e1,List.length_append,Wf];omega,e2,e3,e4⟩
def Eo (hp:∀p∈ps,p<2 ^ 64)(h:fF ps=some r):TopoR ps r:=by
 obtain⟨e1,e2,e3,e4⟩:=Rg hp ps.length [] 0 r h (fun i=>ZD) ZD ZD ZD;exact⟨by simpa using e1,e2,e3,e4⟩
def Ep:∀(n:Nat) (l:List Nat),l.Nodup->(∀v∈l,v<n)->l.length<=n:=by
 intro n
 induction n with
 |zero=>intro l _ h;cases l with
  |nil=>simp
  |cons a l=>exact absurd (h a ZD) (Vs _)
 |succ n ih =>
  intro l hd h;have h1:=ih (l.erase n) (hd.erase n) fun v hv=>by
   have h2:=(hd.mem_erase_iff).1 hv;have:=h v h2.2;omega
  have h3:=List.length_erase (a:=n) (l:=l);split at h3<;>omega
def mn (r:List Nat)(i v:Nat):Prop:=∃j,j<i/\r[j]?=some v
def mn.up (h:mn r i v)(hk:i<=k):mn r k v:=h.imp fun j hj=>⟨V,hj.2⟩
structure DrD (ns:List ZJ)(r:List Nat)(rem:Bool)(i known Y:Nat)(os:List Nat)(ms:List ZJ):Prop where
 L:aw ms=aw ns
 nf:∀v,Y.testBit v=false->ms[v]?=ns[v]?
 dec:∀v x,ms[v]?=some x->Y.testBit v=true->x.nb=[]/\∃s j,x.F=dR s 8/\j<i/\r[j]?=some v/\∀u,s.testBit u=true->mn r j u
 decsb:∀v,Y.testBit v=true->mn r i v
 knownb:∀v,known.testBit v=true->mn r i v
 os3:os.length<=3
 osm:∀v,v∈os↔Y.testBit v=true
 osp:rem=true->os.Pairwise fun u v=>∀x y,ms[u]?=some x->ms[v]?=some y->Sub (bG x.F |||2 ^ u) (bG y.F)
 osk:rem=true->∀u∈os,∀x,ms[u]?=some x->Sub (bG x.F |||2 ^ u) known
def DrD.len (h:DrD ns r rem i known Y os ms):ms.length=ns.length:=by
 have:=congrArg List.length h.L;simpa[aw] using this
def DrD.start (ns:List ZJ)(r:List Nat)(rem:Bool):DrD ns r rem 0 0 0 [] ns :=
 ⟨rfl,fun _ _=>rfl,fun v x _ h=>by simp at h,fun v h=>by simp at h,fun v h=>by simp at h,ZD,fun v=>ZD,fun _=>.nil,fun _ u hu=>by cases hu⟩
def DrD.skip (h:DrD ns r rem i known Y os ms):DrD ns r rem (i+1) known Y os ms :=
 ⟨h.L,h.nf,fun v x hx hb=>by
  obtain⟨a,s,j,b,c,d⟩:=h.dec v x hx hb;exact⟨a,s,j,b,V,d⟩,fun v hb=>(h.decsb v hb).up V,fun v hb=>(h.knownb v hb).up V,h.os3,h.osm,h.osp,h.osk⟩
def Er {s:Nat}(h:s<2 ^ 8):bG (dR s 8)=s:=by
 have h0:∀p∈dR s 8,0<=p:=fun p hp=>by obtain⟨v,rfl,_⟩:=lD.1 hp;omega
 refine VP fun i=>?_;rw[iE h0];cases hb:s.testBit i with
 |true=>exact VB (lD.2 ⟨i,rfl,mV h hb,hb⟩)
 |false =>
  refine V1 fun hm=>?_;obtain⟨v,e,_,hv⟩:=lD.1 hm;obtain rfl:i=v:=V
  rw[hb]at hv;cases hv
def Es (hr:∀v∈r,v<n)(h:mn r i v):v<n:=h.elim fun _ hj=>hr v (Va hj.2)
def vU {s:Nat}(hr:∀v∈r,v<n)(h:∀v,s.testBit v=true->mn r i v):s<2 ^ n:=vG fun v hv=>Es hr (h v hv)
def DrD.step (h:DrD ns r rem i known Y os ms)(hr:TopoR (aC ns) r)(h8:ns.length<=8)(ho:os.length<3)(hv:r[i]?=some v)(hx:ns[v]?=some x){s:Nat}(hs:Sub s (bG x.F)):
  Y.testBit v=false/\v<ns.length/\(if rem then s |||known else s)<2 ^ ns.length /\
  DrD ns r rem (i+1) (known |||(if rem then s |||known else s) |||2 ^ v) (Y |||2 ^ v) (os++[v]) (ms.set v ⟨x.L,dR (if rem then s |||known else s) 8,[]⟩):=by
 obtain⟨s',hs'⟩:∃s',s'=(if rem then s |||known else s):=⟨_,rfl⟩
 rw[<- hs'];have hsl:(aC ns).length=ns.length:=by simp[aC]
 have hrng:=hr.np;rw[hsl]at hrng;have hvn:=hrng v (Va hv);have hml:=h.len;have inj:∀j,r[j]?=some v->j=i:=fun j hj=>(Ws (aP hj) hr.nd).1 (by rw[hj,hv]);have hdv:Y.testBit v=false:=by
  cases hb:Y.testBit v with
  |false=>rfl
  |true =>
   obtain⟨j,j1,j2⟩:=h.decsb v hb;have:=inj j j2;omega
 have sb:∀u,s.testBit u=true->mn r i u:=fun u hu=>hr.rk i v hv u (by rw[bJ (kH hx)];exact hs u hu);have sb':∀u,s'.testBit u=true->mn r i u:=fun u hu=>by
  rw[hs']at hu;cases rem with
  |false=>exact sb u hu
  |true =>
   rw[Vf rfl,Vw,VM]at hu;exact hu.elim (sb u) (h.knownb u)
 have hlt:=vU hrng sb';have hlt8:s'<2 ^ 8:=Vl hlt (Vq ZE h8);have selfv:(ms.set v ⟨x.L,dR s' 8,[]⟩)[v]?=some ⟨x.L,dR s' 8,[]⟩:=Vz V;have othv:∀u,u≠v->(ms.set v ⟨x.L,dR s' 8,[]⟩)[u]?=ms[u]?:=fun u hu=>VN (fun e=>hu e.symm);have osv:v ∉ os:=fun hm=>by rw[(h.osm v).1 hm]at hdv;cases hdv
 refine⟨hdv,hvn,hlt,⟨?_,fun u hu=>?_,fun u y hy hu=>?_,fun u hu=>?_,fun u hu=>?_,by simp;omega,fun u=>?_,fun hrem=>?_,fun hrem u hu y hy=>?_⟩⟩
 ·rw[<- h.L];unfold aw;rw[X9];apply V2;intro k;rw[W2];split
  ·rename_i e;subst e;have:=h.L;have h1:(aw ms)[v]?=(aw ns)[v]?:=(by rw[this]);rw[Vf (by rw[Vx];omega)];rw[cW hx]at h1;exact h1.symm
  ·rfl
 ·rw[gO,Bool.or_eq_false_iff,Yv]at hu;rw[othv u (fun e=>hu.2 e.symm)];exact h.nf u hu.1
 ·by_cases e:u=v
  ·subst e;rw[selfv]at hy;cases hy;exact⟨rfl,s',i,rfl,V,hv,sb'⟩
  ·rw[othv u e]at hy;rw[gO,VM,decide_eq_true_eq]at hu;obtain⟨a,s2,j,b,c,d⟩:=h.dec u y hy (hu.resolve_right fun e'=>e e'.symm);exact⟨a,s2,j,b,V,d⟩
 ·rw[gO,VM,decide_eq_true_eq]at hu;rcases hu with hu|rfl
  ·exact(h.decsb u hu).up (V)
  ·exact⟨i,V,hv⟩
 ·rw[gO,Vw,VM,VM,decide_eq_true_eq]at hu;rcases hu with (hu|hu)|rfl
  ·exact(h.knownb u hu).up (V)
  ·exact(sb' u hu).up (V)
  ·exact⟨i,V,hv⟩
 ·rw[gO,VC,List.mem_singleton,h.osm,VM,decide_eq_true_eq];exact or_congr Iff.rfl eq_comm
 ·refine Xh.2 ⟨(h.osp hrem).imp_of_mem fun {a b} ha hb hab p q hp hq=>?_,ZD,fun a ha b hb p q hp hq=>?_⟩
  ·rw[othv a (fun e=>osv (e ▸ ha))]at hp;rw[othv b (fun e=>osv (e ▸ hb))]at hq;exact hab p q hp hq
  ·obtain rfl:=List.mem_singleton.1 hb;rw[othv a (fun e=>osv (e ▸ ha))]at hp;rw[selfv]at hq;cases hq;rw[show bG (⟨x.L,dR s' 8,[]⟩:ZJ).F=s' from Er hlt8,hs',Vf hrem];exact(h.osk hrem a ha p hp).trans (Sub.right _ _)
 ·rcases VC.1 hu with hu|hu
  ·rw[othv u (fun e=>osv (e ▸ hu))]at hy;exact((h.osk hrem u hu y hy).trans (Sub.left _ _)).trans (Sub.left _ _)
  ·obtain rfl:=List.mem_singleton.1 hu;rw[selfv]at hy;cases hy;rw[show bG (⟨x.L,dR s' 8,[]⟩:ZJ).F=s' from Er hlt8];exact Sub.or ((Sub.right known s').trans (Sub.left _ _)) (Sub.right _ _)
structure DrI (rem:Bool)(d:ZK):Prop where
 ok:ZP d
 n5:d.C.length<=5
 nb:∀v x,d.C[v]?=some x->d.Y.testBit v=false->x.nb≠[]
 os:∃os:List Nat,os.length<=3/\(∀v,v∈os↔d.Y.testBit v=true)/\(rem=true->os.Pairwise fun u v=>∀x y,d.C[u]?=some x->d.C[v]?=some y->Sub (bG x.F |||2 ^ u) (bG y.F))
def Et (h:Z1 g ns):∀x∈ns,x.nb≠[]:=fun x hx he=>by
 have h1:=(h.nb x hx).1;have h2:=fZ (l:=aU ns x) fun c hc=>(rQ (fun q hq=>by have:=(h.node x hx).2.2 q hq;omega) (fun y hy=>(h.node y hy).1) c hc).1;rw[he]at h1;simp at h1;omega
def DrD.fin (h:DrD ns r rem i known Y os ms)(hn:Z1 g ns)(hr:TopoR (aC ns) r)(h5:ns.length<=5){us:List ZV}(hul:us.length<=4)(hus:∀u∈us,Z8 ns u):
  DrI rem ⟨g,ms,Y,us⟩:=by
 have hsl:(aC ns).length=ns.length:=by simp[aC]
 have hrng:=hr.np;rw[hsl]at hrng;have hml:=h.len;have hdl:Y<2 ^ ns.length:=vU hrng h.decsb;have getN:∀(v:Nat) (x:ZJ),ms[v]?=some x->∃y,ns[v]?=some y/\y.L=x.L:=fun v x hx=>by
  obtain⟨y,hy⟩:=ay (l:=ns) (i:=v) (by have:=aP hx;omega);refine⟨y,hy,?_⟩;have h1:(aw ms)[v]?=(aw ns)[v]?:=by rw[h.L]
  rw[cW hx,cW hy]at h1;exact(Option.some.inj h1).symm
 have hcard:∀x∈ms,1<=x.L/\x.L<=4:=fun x hx=>by
  obtain⟨v,hv⟩:=Vj.1 hx;obtain⟨y,hy,e⟩:=getN v x hv;rw[<- e];exact(hn.node y (Va hy)).1
 have hpl:∀(v:Nat) (x:ZJ),ms[v]?=some x->bZ x.F ms.length:=fun v x hx=>by
  cases hb:Y.testBit v with
  |false =>
   rw[h.nf v hb]at hx;have:=(hn.node x (Va hx)).2;rw[hml];exact this
  |true =>
   obtain⟨_,s,j,e,_,_,hs⟩:=h.dec v x hx hb;rw[e];refine⟨zU _ _,fun q hq=>?_⟩;obtain⟨u,rfl,_,hu⟩:=lD.1 hq;have:=Es hrng (hs u hu);rw[hml];omega
 have hR:Z4 ⟨g,ms,Y,us⟩:=⟨by show 1<=ms.length/\ms.length<=8;rw[hml];exact hn.n1,by show Y >>> ms.length=0;rw[hml,XR];exact W8 hdl,hcard,fun v x hx hb=>⟨(h.dec v x hx hb).1,hpl v x hx⟩⟩
 have hperm:nng ns.length (aH r):=⟨by rw[show (aH r).length=r.length by simp[aH],hr.len,hsl],by
  unfold aH;exact List.Pairwise.map _ (R:=(·≠·)) (fun a b h e=>h V) hr.nd,fun q hq=>by
  obtain⟨v,hv,rfl⟩:=Vu.1 hq;have:=hrng v hv;omega⟩
 have natg:∀(j v:Nat),(aH r)[j]?=some (v:Int)↔r[j]?=some v:=fun j v=>by
  unfold aH;rw[List.getElem?_map,Vc];exact⟨fun ⟨a,h1,h2⟩=>by rw[h1];congr 1;omega,fun h1=>⟨v,h1,rfl⟩⟩
 have hacy:jS (aC ms):=by
  refine ED (P:=aH r) (by rw[hml];exact hperm) (fun v hv=>?_) fun j v x hj hx q hq=>?_
  ·refine VZ fun hno=>?_;rw[hml]at hv;have hsub:(v :: r).length<=ns.length:=by
    have hnd:(v :: r).Nodup:=XK.2 ⟨fun hm=>hno (Vu.2 ⟨v,hm,rfl⟩),hr.nd⟩;exact Ep ns.length _ hnd fun u hu=>by
     rcases List.mem_cons.1 hu with rfl|hu
     ·exact hv
     ·exact hrng u hu
   rw[List.length_cons,hr.len,hsl]at hsub;omega
  ·have q0:=((hpl v x hx).2 q hq).1;refine⟨q0,?_⟩;have hj':=(natg j v).1 hj;obtain⟨u,rfl⟩:=Vk q0;cases hb:Y.testBit v with
   |false =>
    rw[h.nf v hb]at hx;obtain⟨k,k1,k2⟩:=hr.rk j v hj' u (by
     rw[bJ (kH hx),iE fun p hp=>((hn.node x (Va hx)).2.2 p hp).1];exact VB hq)
    exact⟨k,k1,(natg k u).2 k2⟩
   |true =>
    obtain⟨_,s,j',e,_,hj2,hs⟩:=h.dec v x hx hb;rw[e]at hq;obtain⟨u',eu,_,hu⟩:=lD.1 hq;obtain rfl:u=u':=V;obtain rfl:j'=j:=(Ws (aP hj2) hr.nd).1 (by rw[hj2,hj']);obtain⟨k,k1,k2⟩:=hs u hu;exact⟨k,k1,(natg k u).2 k2⟩
 have hpc:∀x,aU ms x=aU ns x:=fun x=>by unfold aU;rw[h.L]
 refine⟨⟨hR,⟨hn.g1,by rw[ik];exact hR.n1,fun y hy=>?_,?_,by rw[tO];exact hacy,fun y hy=>?_⟩,hul,fun u hu=>?_⟩,by show ms.length<=5;omega,fun v x hx hb=>?_,os,h.os3,h.osm,h.osp⟩
 ·obtain⟨v,x,hx,rfl⟩:=pV hy;rw[(iP ..).1,(iP ..).2,ik];exact⟨hcard x (Va hx),hpl v x hx⟩
 ·rw[jX];show aD (aw ms)<=1024;rw[h.L];exact hn.size
 ·obtain⟨v,x,hx,rfl⟩:=pV hy;have hcx:=hcard x (Va hx);have hx':ms[v]?=some x:=hx;unfold gG;rw[rM];by_cases hb:Y.testBit v=true
  ·rw[wH hx hb];have x1:=(hR.dec v x hx hb).1;have hsm:=(oM (x:=x) (ns:=ms) hR.n1.2 (hpl v x hx) hcard).prod;refine⟨?_,fun q hq=>?_⟩
   ·show ((x.nb++dE g ms (fun _ _=>0) _ x).length:Int)=aD (aU ms x);rw[x1];simp only[dE,List.nil_append,Vx,WT,cr];omega
   ·rw[show ({ x with nb:=x.nb++dE g ms (fun _ _=>0) (bp Y v) x }:ZJ).nb=x.nb++dE g ms (fun _ _=>0) (bp Y v) x from rfl,x1,List.nil_append]at hq;unfold dE at hq;obtain⟨i,hi,rfl⟩:=Vu.1 hq;have:=hn.g1;exact Ap (by show 0<=g;omega) ⟨Int.le_refl 0,by show (0:Int)<x.L;omega⟩
  ·rw[oK hb];have hb':Y.testBit v=false:=(by simpa using hb);rw[h.nf v hb']at hx';have:=hn.nb x (Va hx');unfold gG at this;show (x.nb.length:Int)=aD (aU ms x)/\_;rw[hpc];exact this
 ·have:=hus u hu;exact⟨by show bZ u.vars ms.length;rw[hml];exact this.vars,by show _=aD (aL (aw ms) u.vars);rw[h.L];exact this.size,this.w⟩
 ·have hx':ms[v]?=some x:=hx;rw[h.nf v hb]at hx';exact Et hn x (Va hx')
structure D20 where
 g:Int
 ps:List Z9
 ord:List Int
 Y:Int
 rem:Bool
 us:List UtD
structure D20.Ok (d:D20):Prop where
 g:U8 d.g
 ps:∀x∈d.ps,x.Ok
 pl:(d.ps.length:Int)<2 ^ 63
 ol:(d.ord.length:Int)<2 ^ 63
 o8:∀x∈d.ord,U8 x
 Y:U8 d.Y
 us:∀u∈d.us,u.Ok
 ul:(d.us.length:Int)<2 ^ 63
def mZ (us:List UtD):List ZI:=(us.map UtD.cells).flatten
def D20.cells (d:D20):List ZI:=[.lit (.int .u8 d.g),.Q d.ps.length (gD d.ps),.Q d.ord.length (cI d.ord),.lit (.int .u8 d.Y),.lit (.bool d.rem),.Q d.us.length (mZ d.us)]
def Rh {l:List UtD}{x:UtD}(h:l[i]?=some x):((mZ l).drop (i*2)).take 2=[.lit (.int .u8 x.vars),.Q x.w.length (pO x.w)]:=ow (f:=UtD.cells) (z:=2) (fun _=>rfl) l i x h
def Ri {l:List UtD}{x:UtD}(h:l[i]?=some x):(mZ l)[i*2]?=some (.lit (.int .u8 x.vars)):=ko (f:=UtD.cells) (z:=2) (fun _=>rfl) l i 0 x h (V)
def Rj {l:List UtD}{x:UtD}(h:l[i]?=some x):¬mZ l=[]:=fun e=>by
 have:=Ri h;rw[e]at this;simp at this
def Rk {l:List ZJ}(p:List Int)(h:l[i]?=some x):((bh l).set (i*3+1) (af p)).set (i*3+2) (.lit (.slice none 0 0))=bh (l.set i ⟨x.L,p,[]⟩):=by
 have hl:=aP h;have h1:=vX (f:=ZJ.gJ) (z:=3) (fun _=>rfl) l i ⟨x.L,p,[]⟩ hl;have h2:=ow (f:=ZJ.gJ) (z:=3) (fun _=>rfl) l i x h;unfold bh;rw[h1];have h3:(l.map ZJ.gJ).flatten=((l.map ZJ.gJ).flatten).take (i*3)++(x.gJ++((l.map ZJ.gJ).flatten).drop (i*3+3)):=by
  rw[<- h2,<- XB,VX,VX]
 have hlen:(((l.map ZJ.gJ).flatten).take (i*3)).length=i*3:=by
  rw[Vr,mh (f:=ZJ.gJ) (z:=3) (fun _=>rfl)];omega
 conv=>lhs;rw[h3]
 rw[Wz _ _ V,Wz _ _ V,hlen,show i*3+1-i*3=1 by omega,show i*3+2-i*3=2 by omega];simp[ZJ.gJ,ic]
def Rl {l:List ZJ}(h:∀x∈l,x.nb≠[]):bh l=aI l:=by
 unfold bh aI;congr 1;exact VF fun x hx=>by unfold ZJ.gJ ZJ.cells;rw[zC (h x hx)]
def zI {N:Nat}(h:H.get N=some (.J 0 e (bh ms))):Fz (fun _=>True) H nx (.agg [aa g,.U N 0 0 ms.length 3]) (fa g ms):=by
 refine .agg rfl fun i hi _=>?_
 match i,hi with
 |0,_=>exact .lit _
 |1,_ =>
  refine .nz trivial h (kq ms) fun j hj h2 h'=>?_;have e0:(0:Nat)+j=j:=Nat.zero_add j;have h3:j<(bh ms).length:=V
  have:=zD (S:=fun _=>True) (H:=H) (nx:=nx) ms j h3 h';simpa only[e0] using this
def vV {S:Nat->Prop}(l:List ZV):∀c∈bt l,Fz S H nx c c:=by
 intro c hc;unfold bt at hc;obtain⟨r,hr,hc⟩:=XV.1 hc;obtain⟨x,_,rfl⟩:=Vu.1 hr;unfold ZV.cells at hc;simp only[List.mem_cons,List.not_mem_nil,or_false]at hc;rcases hc with rfl|rfl<;>exact .ee _
def Rm (d:D20)(hd:d.Ok)(H:ZH)(K:ZN->ZH->Prop)(hK:∀x,DrI d.rem x->x.Z=(d.us.map fun u=>fu u x.C).take 4->K (.ret (lE x)) H):ae prog G0 10 [.agg d.cells] H K:=by
 refine ae.X ⟨_,func10,rfl,rfl⟩ fun hcl=>?_;refine ae.st (n:=128) (rs:=[.cell 2 38]) func10 ?_;simp only[go_sem,D20.cells];obtain⟨H0,hH0⟩:∃H0,H0=ext H [.J 0 28 [.lit (.int .u8 d.g),.Q d.ps.length (gD d.ps),.Q d.ord.length (cI d.ord),.lit (.int .u8 d.Y),.lit (.bool d.rem),.Q d.us.length (mZ d.us)],.J 0 38 [.lit (.int .i64 0),.lit (.slice none 0 0),.lit (.int .u64 0),.lit (.slice none 0 0)]]:=⟨_,rfl⟩
 have g00:=dI hH0
 have g01:=gE hH0 1 rfl
 have n0:H0.A=H.A+2:=hH0▸rfl
 have o0:ZM H H0:=hH0▸.ext _ _
 rw[<- hH0];clear hH0;refine ao.X (RH d.g d.ps d.ord hd.g hd.ps hd.pl hd.ol hd.o8 _ _ fun g ns N H' ov hN1 hN2 hget hnet h5 hp3=>⟨trivial,?_⟩);simp only[go_sem];obtain⟨B,hB⟩:∃B,B=H'.A:=⟨_,rfl⟩
 rw[<- hB];obtain⟨H1,hH1⟩:∃H1,H1=ext H' [.J 0 90 [.lit (.int .i64 g),.U N 0 0 ns.length 3],.J 0 38 [.lit (.int .i64 g),.U N 0 0 ns.length 3,.lit (.int .u64 0),.lit (.slice none 0 0)]]:=⟨_,rfl⟩
 have n1:H1.A=B+2:=by rw[hH1,hB];rfl
 have ovn:=ov.A;have g10:H1.get H.A=some (.J 0 28 [.lit (.int .u8 d.g),.Q d.ps.length (gD d.ps),.Q d.ord.length (cI d.ord),.lit (.int .u8 d.Y),.lit (.bool d.rem),.Q d.us.length (mZ d.us)]):=by rw[hH1,dc _ _ _ V,ov.nf _ V];exact g00
 have g11:H1.get (H.A+1)=some (.J 0 38 [.lit (.int .i64 0),.lit (.slice none 0 0),.lit (.int .u64 0),.lit (.slice none 0 0)]):=by rw[hH1,dc _ _ _ V,ov.nf _ V];exact g01
 have gN:H1.get N=some (.J 0 76 (bh ns)):=by rw[hH1,dc _ _ _ V,Rl (Et hnet)];exact hget
 have gB:H1.get B=some (.J 0 90 [.lit (.int .i64 g),.U N 0 0 ns.length 3]):=by rw[hH1,hB];exact cH ..
 have gB1:H1.get (B+1)=some (.J 0 38 [.lit (.int .i64 g),.U N 0 0 ns.length 3,.lit (.int .u64 ((0:Nat):Int)),.lit (.slice none 0 0)]):=by rw[hH1,hB];exact bN H' _ 1 (ZD)
 have o1:ZM H H1:=by rw[hH1];exact(o0.trans ov).trans (.ext _ _)
 rw[<- hH1];clear hH1 hget;have hsl:(aC ns).length=ns.length:=by simp[aC]
 have hpr:∀x∈ns,(x.F.length:Int)<2 ^ 39/\∀q∈x.F,0<=q/\q<(ns.length:Int):=fun x hx=>⟨by have:=hp3 x hx;omega,(hnet.node x hx).2.2⟩
 have hs8:∀p∈aC ns,p<2 ^ (aC ns).length:=by rw[hsl];exact rR fun x hx=>(hpr x hx).2
 obtain⟨r,hr⟩:=VJ.1 ((vJ hs8 V).2 hnet.nL);have hTR:=Eo (fun p h=>Vl (hs8 p h) (Vq ZE V)) hr;have hrl:=hTR.len;rw[hsl]at hrl;refine ao.X ((ae.frame (H:=H1) (args:=[.agg [aa g,.U N 0 0 ns.length 3]]) (args':=[fa g ns]) (v':=af (aH r)) aF rfl (fun i hi _=>?_) (RT g ns V hpr r hr cR _ fun v H' _ ho=>⟨_,rfl,ho.pY⟩)).mono fun rr H2 hrr=>?_)
 ·match i,hi with
  |0,_=>exact zI gN
 obtain⟨rfl,rfl⟩:=hrr;refine⟨trivial,?_⟩;simp only[go_sem];refine W.xm (Q':=fun e s2=>e=.exit 0/\∃(i known Y:Nat) (os:List Nat) (ms:List ZJ),s2.ρ 1=.O H.A 0 0/\s2.ρ 2=.O (H.A+1) 0 0/\s2.ρ 3=.O B 0 0/\s2.ρ 4=.O (B+1) 0 0/\DrD ns r d.rem i known Y os ms/\H2.A<=s2.H.A/\(∀id,id<H2.A->id≠N->id≠B+1->s2.H.get id=H2.get id)/\s2.H.get N=some (.J 0 76 (bh ms)) /\
  s2.H.get (B+1)=some (.J 0 38 [.lit (.int .i64 g),.U N 0 0 ns.length 3,.lit (.int .u64 (Y:Int)),.lit (.slice none 0 0)])) ?_ ?_
 rotate_left
 ·rintro e s2 ⟨rfl,i,known,Y,os,ms,e1,e2,e3,e4,L,hnx,hold,hN,hB1⟩;refine⟨s2,.refl _,ZG,trivial,?_⟩;obtain⟨ρ2,Hy⟩:=s2;dsimp only at e1 e2 e3 e4 hnx hold hN hB1;simp only[go_sem];have hml:=L.len;have hcd:∀x∈ms,1<=x.L/\x.L<=4:=fun x hx=>by
   obtain⟨v,hv⟩:=Vj.1 hx;obtain⟨y,hy⟩:=ay (l:=ns) (i:=v) (by have:=aP hv;omega);have h1:(aw ms)[v]?=(aw ns)[v]?:=(by rw[L.L]);rw[cW hv,cW hy]at h1;rw[Option.some.inj h1];exact(hnet.node y (Va hy)).1
  have hn1:=hnet.n1;obtain⟨ut,hut⟩:∃ut:List ZV,ut=d.us.map fun u=>fu u ms:=⟨_,rfl⟩
  refine W.aT 170141163178059628080016879768632823808 (by rfl) (fun ρ Hu=>∃(i:Nat) (uv:ZI),ρ 12=aa i/\i<=d.us.length/\i<=4/\Hy.A<=Hu.A/\(∀id,id<Hy.A->id≠B+1->Hu.get id=Hy.get id)/\Hu.get (B+1)=some (.J 0 38 [.lit (.int .i64 g),.U N 0 0 ns.length 3,.lit (.int .u64 (Y:Int)),uv])/\fy Hy.A Hu 87 2 uv i (bt (ut.take i))) (fun ρ H=>d.us.length-(iv (ρ 12)).toNat) ?_ ?_
  ·simp only[go_sem];exact⟨0,_,rfl,V,V,hB1,.nil⟩
  rintro ρ Hu ⟨i,uv,h12,hi,hi4,hnu,holdu,hBu,hO⟩;refine W.en (fun E=>E 1=.O H.A 0 0 /\ E 2=.O (H.A+1) 0 0 /\ E 3=.O B 0 0 /\ E 4=.O (B+1) 0 0 /\ E 12=aa i) (by simp only[go_sem,e1,e2,e3,e4,h12]) fun E ⟨f1,f2,f3,f4,f12⟩=>?_
  refine W.vs ?_;have uh:Hu.get H.A=_:=((holdu H.A V V).trans (hold H.A V V V)).trans g10;have l0:=ah uh;have lB:=ah (((holdu B V V).trans (hold B V V V)).trans gB);have lB1:=ah hBu;have hNu:Hu.get N=some (.J 0 76 (bh ms)):=(holdu N V V).trans hN;by_cases hb:(i:Int)<d.us.length/\(i:Int)<4
  ·obtain⟨u,hu⟩:=ay (l:=d.us) (i:=i) V;have huo:=hd.us u (Va hu);have cne:=Rj hu;have c0:=Rh hu;have cl:i*2+2<=(mZ d.us).length:=(by rw[show (mZ d.us).length=d.us.length*2 from mh (f:=UtD.cells) (fun _=>rfl) _];omega);have w1:=Vb ((i:Int)+1) V;have hpc:∀Hq,Hq.get N=some (.J 0 76 (bh ms))->N<Hq.A->bD prog G0 (.X 38 [] []) [.agg [.lit (.int .u8 u.vars),.Q u.w.length (pO u.w)],.agg [.lit (.int .i64 g),.U N 0 0 ns.length 3]] Hq (.agg [af (fu u ms).vars,af (fu u ms).w]) [N]:=fun Hq hq hqn=>by
    refine bD.mk (fun i hi=>by obtain rfl:=List.mem_singleton.1 hi;exact hqn) fun H2 h1 h2=>?_;refine ae.frame (H:=H2) (args:=[.agg u.cells,.agg [aa g,.U N 0 0 ns.length 3]]) (args':=[.agg u.cells,fa g ms]) (v':=.agg [af (fu u ms).vars,af (fu u ms).w]) aF rfl (fun i hi _=>?_) (RU u huo g ms V hcd cR _ fun v1 v2 H' _ o1 o2=>⟨_,rfl,.agg rfl fun i hi _=>?_⟩)
    ·match i,hi with
     |0,_ =>
      refine .agg rfl fun i hi _=>?_
      match i,hi with
      |0,_=>exact .lit _
      |1,_ =>
       refine .Q rfl fun j hj _=>?_;simp only[pO,Vt];exact .lit _
     |1,_=>rw[<- hml];exact zI ((h1 N ZD).trans hq)
    ·match i,hi with
     |0,_=>exact o1.pY
     |1,_=>exact o2.pY
   obtain⟨uv',Hj,hA,hO',hnj,hpj⟩:=Gr (P:=prog) (xs:=[af (fu u ms).vars,af (fu u ms).w]) Tryz.underlying36 Tryz.CZ Tryz.C2 rfl rfl (by rw[Tryz.C0];omega) hO hnu rfl;simp only[af]at hA;have ng:∀id,id<Hy.A->Hj.get id=Hu.get id:=fun id h=>hpj id V (hO.ne h);have lB1j:=ah ((ng _ V).trans hBu);have hvc:=hO'.cells;have hvo:=hO'.one;simp only[go_sem,f1,f12,l0,hb.1,hb.2];refine W.dr 10 [0,1,0,4,0,28,60,0,252,508] mixed ?_;simp only[go_sem,f1,f3,f4,f12,l0,lB,lB1,cne,c0,cl,hb.1];refine⟨_,[N],hpc _ hNu V,?_⟩;simp only[go_sem,f4,f12,hA,lB1j,hvc,hvo,w1];have hug:ut[i]?=some (fu u ms):=(by rw[hut,List.getElem?_map,hu];rfl);have e2':bt (ut.take (i+1))=bt (ut.take i)++[af (fu u ms).vars,af (fu u ms).w]:=by
    rw[bb hug];unfold bt;rw[V5,Yk];simp[ZV.cells]
   refine⟨⟨fun _ h=>V,fun _ h=>V⟩,by rw[aQ];omega,⟨i+1,uv',rfl,V,V,by rw[aQ];omega,fun id h1 h2=>by rw[aj,Ve h2,ng _ h1];exact holdu id h1 h2,by rw[aj,Vf rfl],?_⟩,by rw[h12];simp only[aa,bf];omega⟩;rw[e2'];exact hO'.ng (by rw[aQ];omega) fun id gg h1 _ _=>by rw[aj,Ve V]
  ·have fin:∀b,ak prog G0 H K (.agg [.lit (.int .i64 g),.U N 0 0 ns.length 3,.lit (.int .u64 (Y:Int)),uv]) (Hu.upd (H.A+1) b):=fun b=>by
    have o1n:=o1.A;have ov2:ZM H (Hu.upd (H.A+1) b):=⟨by rw[aQ];omega,fun id h=>by
     rw[aj,Ve V,holdu id V V,hold id V V V];exact o1.nf id h⟩
    have htl:(ut.take i).length=i:=(by rw[Vr,hut,Vx];omega);refine ak.bB (v':=lE ⟨g,ms,Y,ut.take i⟩) aF hcl ov2 (.agg rfl fun j hj _=>?_) (hK _ (L.fin hnet hTR h5 V fun u hu=>?_) (by
     show ut.take i=_;rw[<- hut];rcases VA i 4 with h4|h4
     ·have hul:ut.length=d.us.length:=(by rw[hut,Vx]);have hid:d.us.length<=i:=V;rw[Vg V,Vg V]
     ·rw[show i=4 by omega]))
    ·match j,hj with
     |0,_=>exact .lit _
     |1,_ =>
      show Fz _ _ _ (.U N 0 0 ns.length 3) (.Q ms.length (bh ms));rw[<- hml];refine .nz V (show (Hu.upd (H.A+1) b).get N=some (.J 0 76 (bh ms)) by rw[aj,Ve V];exact hNu) (mW ms) fun j hj h2 h'=>?_;have e0:(0:Nat)+j=j:=Nat.zero_add j;have h3:j<(bh ms).length:=V;have:=zE (S:=fun id=>H.A<=id) (H:=Hu.upd (H.A+1) b) (nx:=H.A) ms _ (Wb h3);simpa only[e0] using this
     |2,_=>exact .lit _
     |3,_ =>
      show Fz _ _ _ uv (.Q (ut.take i).length (bt (ut.take i)));rcases hO with ⟨h,hz,hc⟩|⟨id,gg,k1,k2,h,k4,k5⟩
      ·rw[h,hc,htl,hz];exact .nil
      ·rw[h,htl];refine .nz V (show (Hu.upd (H.A+1) b).get id=some (.J gg 87 (bt (ut.take i))) by rw[aj,Ve V];exact k5) k4 fun j hj h2 h'=>?_;have e0:(0:Nat)+j=j:=Nat.zero_add j;have h3:j<(bt (ut.take i)).length:=V;have:=vV (S:=fun id=>H.A<=id) (H:=Hu.upd (H.A+1) b) (nx:=H.A) (ut.take i) _ (Wb h3);simpa only[e0] using this
    ·have hu2:=VD hu;rw[hut]at hu2;obtain⟨p,hp,rfl⟩:=Vu.1 hu2;have:=RO p ms fun x hx=>(hcd x hx).1;exact⟨by have:=this.vars;rw[hml]at this;exact this,by have:=this.size;rw[L.L]at this;exact this,this.w⟩
   have lR:Hu.na (H.A+1) 0=_:=ah (((holdu (H.A+1) V V).trans (hold (H.A+1) V V V)).trans g11);have uvc:=hO.cells;have uvo:=hO.one;by_cases hb1:(i:Int)<d.us.length
   ·have hb4:¬(i:Int)<4:=fun h=>hb ⟨hb1,h⟩;simp only[go_sem,f1,f2,f4,f12,l0,lB1,lR,hb1,hb4,uvo];exact fin _
   ·simp only[go_sem,f1,f2,f4,f12,l0,lB1,lR,hb1,uvo];exact fin _
 refine W.aT 20282409603651670423947242901440 (by rfl) (fun ρ Hx=>∃(i known Y:Nat) (os:List Nat) (ms:List ZJ),ρ 8=aa i/\i<=r.length/\ρ 6=aM known/\ρ 7=aa os.length/\DrD ns r d.rem i known Y os ms/\H2.A<=Hx.A/\(∀id,id<H2.A->id≠N->id≠B+1->Hx.get id=H2.get id)/\Hx.get N=some (.J 0 76 (bh ms)) /\
  Hx.get (B+1)=some (.J 0 38 [.lit (.int .i64 g),.U N 0 0 ns.length 3,.lit (.int .u64 (Y:Int)),.lit (.slice none 0 0)])) (fun ρ H=>r.length-(iv (ρ 8)).toNat) ?_ ?_
 ·simp only[go_sem];exact⟨0,0,0,[],ns,rfl,V,rfl,rfl,.start ns r d.rem,gN,gB1⟩
 rintro ρ Hx ⟨i,known,Y,os,ms,h8,hi,h6,h7,L,hnx,hold,hN,hB1⟩;refine W.en (fun E=>E 1=.O H.A 0 0 /\ E 2=.O (H.A+1) 0 0 /\ E 3=.O B 0 0 /\ E 4=.O (B+1) 0 0 /\ E 5=af (aH r) /\ E 6=aM known /\ E 7=aa os.length /\ E 8=aa i) (by simp only[go_sem,h6,h7,h8]) fun E ⟨e1,e2,e3,e4,e5,e6,e7,e8⟩=>?_
 refine W.vs ?_;have l0:=ah ((hold H.A V V V).trans g10);have lB:=ah ((hold B V V V).trans gB);have lB1:=ah hB1;have lN:=ah hN;have hrng:=hTR.np;rw[hsl]at hrng;have hml:=L.len;have natl:(aH r).length=r.length:=by simp[aH]
 have nat5:∀ {s:Nat},s<2 ^ ns.length->s<2 ^ 64:=fun h=>Vl h (Vq ZE V);have hk64:known<2 ^ 64:=nat5 (vU hrng L.knownb);have hd64:Y<2 ^ 64:=nat5 (vU hrng L.decsb);by_cases hb:(i:Int)<r.length;rotate_left
 ·simp only[go_sem,e1,e2,e3,e4,e5,e8,natl,hb];exact⟨i,known,Y,os,ms,L,hnx,hold,hN,hB1⟩
 by_cases h3:os.length<3;rotate_left
 ·have h3':¬(os.length:Int)<3:=V
  simp only[go_sem,e1,e2,e3,e4,e5,e7,e8,natl,hb,h3'];exact⟨i,known,Y,os,ms,L,hnx,hold,hN,hB1⟩
 have h3':(os.length:Int)<3:=V
 obtain⟨v,hv⟩:=ay (l:=r) (i:=i) V;have hvi:(aH r)[i]?=some (v:Int):=by unfold aH;rw[List.getElem?_map,hv];rfl
 have hvne:=bd hvi;have hvn:=hrng v (Va hv);have w1:=Vb ((i:Int)+1) V;obtain⟨r1,hr1⟩:∃r1,d.Y.fdiv (2 ^ (min ((i:Int)).toNat IntKind.u8.bits))=r1:=⟨_,rfl⟩
 obtain⟨r2,hr2⟩:∃r2,IntKind.u8.wrap (((BitVec.ofInt IntKind.u8.bits r1 &&& BitVec.ofInt IntKind.u8.bits 1).toNat:Nat):Int)=r2:=⟨_,rfl⟩
 have s1:∀t o1 o2,aV prog .shr t o1 o2 (.lit (.int .u8 d.Y)) (.lit (.int .i64 (i:Int)))=some (.lit (.int .u8 r1)):=fun t o1 o2=>by rw[rW V,hr1]
 have s2:∀t o1 o2,aV prog .and t o1 o2 (.lit (.int .u8 r1)) (.lit (.int .u8 1))=some (.lit (.int .u8 r2)):=fun t o1 o2=>by rw[qd,hr2]
 by_cases hrz:r2=0
 ·simp only[go_sem,e1,e2,e3,e4,e5,e6,e7,e8,natl,hb,h3',l0,hvi,hvne,s1,s2,hrz,w1];exact⟨hnx,⟨i+1,known,Y,os,ms,rfl,V,rfl,rfl,L.skip,hnx,hold,hN,hB1⟩,by rw[h8];simp only[aa,bf];omega⟩
 obtain⟨x,hx⟩:=ay (l:=ns) (i:=v) hvn;have hdv:=(L.step hTR V h3 hv hx (s:=0) (fun i hi=>by simp at hi)).1;have hmx:ms[v]?=some x:=by rw[L.nf v hdv];exact hx
 have hxp:=hpr x (Va hx);have hmp:∀y∈ms,(y.F.length:Int)<2 ^ 39/\∀q∈y.F,0<=q/\q<64:=fun y hy=>by
  obtain⟨u,hu⟩:=Vj.1 hy;cases hbu:Y.testBit u with
  |false =>
   rw[L.nf u hbu]at hu;obtain⟨q1,q2⟩:=hpr y (Va hu);exact⟨q1,fun q hq=>by have:=q2 q hq;omega⟩
  |true =>
   obtain⟨_,s,j,e,_⟩:=L.dec u y hu hbu;rw[e];refine⟨by have:=EJ s 8;omega,fun q hq=>?_⟩;obtain⟨z,rfl,hz,_⟩:=lD.1 hq;omega
 have hset:((aC ms).map aM)[v]?=some (aM (bG x.F)):=by rw[List.getElem?_map,kH hmx];rfl
 have hsne:=bd hset;have hmn:(aC ms).length=ns.length:=by rw[<- hml];simp[aC]
 simp only[go_sem,e1,e3,e5,e7,e8,natl,hb,h3',l0,lB,hvi,hvne,s1,s2,hrz];refine ao.X ((ae.frame (H:=Hx) (args:=[.agg [aa g,.U N 0 0 ns.length 3]]) (args':=[fa g ms]) (v':=jn (aC ms)) aF rfl (fun i hi _=>?_) (RP g ms V hmp cR _ fun v H' _ ho=>⟨_,rfl,RS ho⟩)).mono fun rr Hz hrr=>?_)
 ·match i,hi with
  |0,_=>rw[<- hml];exact zI hN
 obtain⟨rfl,rfl⟩:=hrr;refine⟨trivial,?_⟩;have hvI:(v:Int)<ns.length:=V
 simp only[go_sem,hset,hsne,hmn,hvI];have xs64:bG x.F<2 ^ 64:=nat5 (lg hxp.2);refine W.aT 9444732684264313719808 (by rfl) (fun ρ2 Hq=>Hq=Hz/\∃k s:Nat,ρ2 11=aa k/\k<=x.F.length/\ρ2 10=aM s/\Sub s (bG x.F)/\s<2 ^ 64) (fun ρ2 H=>x.F.length-(iv (ρ2 11)).toNat) ?_ ?_
 ·simp only[go_sem];exact⟨0,_,rfl,V,rfl,.refl _,xs64⟩
 rintro ρ2 Hq ⟨rfl,k,s,h11,hk,h10,hs,hs64⟩;refine W.en (fun E2=>E2 1=.O H.A 0 0 /\ E2 2=.O (H.A+1) 0 0 /\ E2 3=.O B 0 0 /\ E2 4=.O (B+1) 0 0 /\ E2 5=af (aH r) /\ E2 6=aM known /\ E2 7=aa os.length /\ E2 8=aa i /\ E2 9=aa v /\ E2 10=aM s /\ E2 11=aa k) (by simp only[go_sem,e1,e2,e3,e4,e5,e6,e7,e8,h10,h11]) fun E2 ⟨f1,f2,f3,f4,f5,f6,f7,f8,f9,f10,f11⟩=>?_
 refine W.vs ?_;have nne:=QN hmx;have nlen:=mW ms;have n1v:=rp hmx;by_cases hb2:(k:Int)<x.F.length
 ·obtain⟨q,hq⟩:=ay (l:=x.F) (i:=k) V;have hqr:=hxp.2 q (Va hq);obtain⟨u,rfl⟩:=Vk hqr.1;have hqne:=bd hq;have w2:=Vb ((k:Int)+1) V;by_cases hk2:(k:Int) >= 2
  ·have s3:=fun t x y=>lQ (P:=prog) (t:=t) (x:=x) (y:=y) (k':=.i64) (s:=u) V;have s4:=fun t x y=>nK (P:=prog) (t:=t) (x:=x) (y:=y) (a:=s) (b:=2 ^ u);simp only[go_sem,f4,f9,f10,f11,lB1,lN,n1v,hvI,hb2,hk2,hq,hqne,w2,s3,s4];exact⟨⟨k+1,dV s (2 ^ u),rfl,V,rfl,fun i hi=>by rw[lP hs64,VI]at hi;exact hs i hi.1,AL _ _⟩,by rw[h11];simp only[aa,bf];omega⟩
  ·simp only[go_sem,f4,f9,f10,f11,lB1,lN,n1v,hvI,hb2,hk2,w2];exact⟨⟨k+1,s,rfl,V,rfl,hs,hs64⟩,by rw[h11];simp only[aa,bf];omega⟩
 ·obtain⟨s',hs'⟩:∃s',s'=(if d.rem then s |||known else s):=⟨_,rfl⟩
  have hsv:=L.step hTR V h3 hv hx hs;rw[<- hs']at hsv;obtain⟨_,_,hslt,L2⟩:=hsv;have s64:=nat5 hslt;have b2v:(2:Nat) ^ v<2 ^ 64:=Wt ZE V;have o1':=fun t x y=>j5 (P:=prog) (t:=t) (x:=x) (y:=y) hd64 b2v;have o2':=fun t x y=>j5 (P:=prog) (t:=t) (x:=x) (y:=y) hk64 s64;have o3':=fun t x y=>j5 (P:=prog) (t:=t) (x:=x) (y:=y) (WR hk64 s64) b2v;have o4':=fun t x y=>j5 (P:=prog) (t:=t) (x:=x) (y:=y) hs64 hk64;have s6:=fun t x y=>lQ (P:=prog) (t:=t) (x:=x) (y:=y) (k':=.i64) (s:=v) V;have w3:=Vb ((os.length:Int)+1) V;have nse:=Rk (dR s' 8) hmx;have gone:∀b,(Hq.upd N b).na (B+1) 0=some (38,[.lit (.int .i64 g),.U N 0 0 ns.length 3,.lit (.int .u64 (Y:Int)),.lit (.slice none 0 0)]):=fun b=>(lS V).trans lB1;have st1:∀a,setAt (bh ms) (v*3+1) [a]=(bh ms).set (v*3+1) a:=fun a=>iY V;have st2:∀a b,setAt ((bh ms).set (v*3+1) a) (v*3+2) [b]=((bh ms).set (v*3+1) a).set (v*3+2) b:=fun a b=>iY (by rw[VE];omega);have gone2:∀b b',((Hq.upd N b).upd N b').na (B+1) 0=some (38,[.lit (.int .i64 g),.U N 0 0 ns.length 3,.lit (.int .u64 (Y:Int)),.lit (.slice none 0 0)]):=fun b b'=>(lS V).trans (gone b);simp only[af]at nse;cases hrem:d.rem
  ·have es:s'=s:=(by rw[hs',hrem];rfl);subst es;simp only[go_sem,f1,f3,f4,f6,f7,f8,f9,f11,lB1,lN,n1v,hvI,hb2,l0,hrem];refine W.dr 5 [0,1,0,0,8] mixed ?_;simp only[go_sem,f4,f9,f10,lB1,lN,hvI,hml,nlen,gone];refine⟨af (dR s' 8),[],bD.pure fun H2=>EK s' s64 H2 _ ⟨rfl,rfl⟩,?_⟩;simp only[go_sem,hml,nlen,st1,st2,nse,VE];refine⟨V,V,?_⟩;refine W.dr 4 [0,1,0,4] mixed ?_;simp only[go_sem,f4,f6,f7,f8,f9,f10,gone2,s6,o1',o2',o3',w1,w3];refine⟨by simp only[aQ];omega,⟨i+1,known |||s' |||2 ^ v,Y |||2 ^ v,os++[v],_,rfl,V,rfl,ZD,hrem ▸ L2,by simp only[aQ];omega,fun id h1 h2 h3=>by simp only[aj];rw[Ve h3,Ve h2,Ve h2];exact hold id h1 h2 h3,by rw[aj,Ve V,aj,Vf rfl],by rw[aj,Vf rfl]⟩,by rw[h8];simp only[aa,bf];omega⟩
  ·have es:s |||known=s':=by rw[hs',hrem];rfl
   rw[es]at o4';simp only[go_sem,f1,f3,f4,f6,f7,f8,f9,f10,f11,lB1,lN,n1v,hvI,hb2,l0,hrem,o4'];refine W.dr 5 [0,1,0,0,8] mixed ?_;simp only[go_sem,f4,f9,f10,lB1,lN,hvI,hml,nlen,gone];refine⟨af (dR s' 8),[],bD.pure fun H2=>EK s' s64 H2 _ ⟨rfl,rfl⟩,?_⟩;simp only[go_sem,hml,nlen,st1,st2,nse,VE];refine⟨V,V,?_⟩;refine W.dr 4 [0,1,0,4] mixed ?_;simp only[go_sem,f4,f6,f7,f8,f9,f10,gone2,s6,o1',o2',o3',w1,w3];refine⟨by simp only[aQ];omega,⟨i+1,known |||s' |||2 ^ v,Y |||2 ^ v,os++[v],_,rfl,V,rfl,ZD,hrem ▸ L2,by simp only[aQ];omega,fun id h1 h2 h3=>by simp only[aj];rw[Ve h3,Ve h2,Ve h2];exact hold id h1 h2 h3,by rw[aj,Ve V,aj,Vf rfl],by rw[aj,Vf rfl]⟩,by rw[h8];simp only[aa,bf];omega⟩
def Rn (d:D20)(hd:d.Ok)(H:ZH)(K:ZN->ZH->Prop)(hK:∀x,DrI d.rem x->K (.ret (lE x)) H):ae prog G0 10 [.agg d.cells] H K :=
 Rm d hd H K fun x hx _=>hK x hx
end Go.Proofs
