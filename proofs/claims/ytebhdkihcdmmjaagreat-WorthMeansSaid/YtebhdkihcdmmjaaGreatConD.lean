/- Own work: contracts. -/
import Derived.Test.YtebhdkihcdmmjaaGreatConC
set_option linter.all false
set_option maxHeartbeats 8000000
set_option maxRecDepth 100000
namespace Go.Proofs
open Go.Hx Tryz
variable {rem:Bool}{g:Int}{P l:List Int}{os ps r:List Nat}{ms ns:List ZM}{i k known lo n nl nx u v:Nat}{e:TypeId}{H:ZK}{x y:ZM}
def nk (H1 H':ZK)(N:Nat)(cs:List ZL):Prop:=H1.A<=H'.A/\(∀id,id<H1.A->id≠N->H'.get id=H1.get id)/\H'.get N=some (.J 0 76 cs)
def RG {l:List ZM}(h:l[i]?=some x)(hr:x.nb=[])(hy:y.nb=[]):bP (l.set i y)=(bP l).set (i*3) (aa y.L):=by
 have hl:=aO h;have h1:=wz (f:=ZM.cY) (z:=3) lC l i y hl;have h2:=oB (f:=ZM.cY) (z:=3) lC l i x h;have e1:x.cY=[aa x.L,.lit (.slice none 0 0),.lit (.slice none 0 0)]:=Vh hr;have e2:y.cY=[aa y.L,.lit (.slice none 0 0),.lit (.slice none 0 0)]:=Vh hy;unfold bP;rw[h1,e2];rw[e1]at h2;have h3:(l.map ZM.cY).flatten=((l.map ZM.cY).flatten).take (i*3)++([aa x.L,.lit (.slice none 0 0),.lit (.slice none 0 0)]++((l.map ZM.cY).flatten).drop (i*3+3)):=by
  rw[<- h2,<- XC,V2,V2]
 have hlen:(((l.map ZM.cY).flatten).take (i*3)).length=i*3:=by
  rw[Vv,mg (f:=ZM.cY) (z:=3) lC];omega
 conv=>rhs;rw[h3]
 rw[WC _ _ V,hlen];simp
theorem wB (ord:List Int):∀(n v:Nat),v<n->(v:Int)∈gQ ord n
 |0,v,h=>V
 |n+1,v,h=>by
  unfold gQ;by_cases hv:v=n
  ·subst hv;simp
  ·have:=wB ord n v V;rw[<- V2 (ni ord n) (gQ ord n)]at this;rcases VH.1 this with h|h
   ·exact Yc _ h
   ·exact YG _ (Xl _ h)
def np (ps:List DrP)(i:Nat):Int × List Int:=match ps[i]? with
 |some y=>(y.par,y.w)
 |none=>(0,[])
def EX (p:Int)(k:Nat):Int:=IntKind.u8.wrap (((BitVec.ofInt IntKind.u8.bits (p.fdiv (2 ^ (min ((k:Int)).toNat IntKind.u8.bits))) &&& BitVec.ofInt IntKind.u8.bits 1).toNat:Nat):Int)
def pY (par:Int)(P:List Int)(u:Nat)(l:List Int)(k:Nat):List Int:=if P[k]?=some (u:Int)/\EX par k=1/\l.length<3 then l++[(u:Int)] else l
def lD (par:Int)(P:List Int)(i u k:Nat):List Int:=(List.range k).foldl (pY par P u) ((List.range u).foldl (fun l u=>(List.range i).foldl (pY par P u) l) [])
def wC (par:Int)(P:List Int)(i u k:Nat):lD par P i u (k+1)=pY par P u (lD par P i u k) k:=by unfold lD;rw[VX,Wn];rfl
def RH (par:Int)(P:List Int)(i u:Nat):lD par P i (u+1) 0=lD par P i u i:=by unfold lD;rw[VX,Wn];rfl
def rL (ps:List DrP)(i:Nat):Int:=match ps[i]? with
 |some y=>2+y.L % 2
 |none=>2
def jU (ps:List DrP)(n i:Nat)(W:Int):Int:=if IntKind.i64.wrap (W*rL ps i*2 ^ (min ((n:Int)-1-i).toNat IntKind.i64.bits)) > 100 then 2 else rL ps i
def kz (ps:List DrP)(n:Nat):Nat->Int
 |0=>1
 |i+1=>kz ps n i*jU ps n i (kz ps n i)
def rM (g c:Int)(bs:List Int)(R:Nat):List (List Int):=(List.range R).map fun (q:Nat)=>oI g c.toNat bs ((q:Int)*(c+1))
def RI (g c:Int)(bs:List Int)(R:Nat):rM g c bs (R+1)=rM g c bs R++[oI g c.toNat bs ((R:Int)*(c+1))]:=by unfold rM;rw[VX,V8];rfl
def Ae (g:Int)(ps:List DrP)(cs P:List Int)(n j:Nat):ZM:=⟨jU ps n j (kz ps n j),lD (np ps j).1 P j n 0,rM g (jU ps n j (kz ps n j)) (np ps j).2 (aC (aK cs (lD (np ps j).1 P j n 0))).toNat⟩
structure DoneN (g:Int)(cs P:List Int)(n j:Nat)(x:ZM):Prop where
 pl:bW x.F n
 p3:x.F.length<=3
 rk:∀q∈x.F,∃k,k<j/\P[k]?=some q
 rl:(x.nb.length:Int)=aC (aK cs x.F)
 ro:∀r∈x.nb,kJ g x.L r
 ne:x.nb≠[]
structure LoopN (g:Int)(ps:List DrP)(cs P:List Int)(n i:Nat)(ns:List ZM):Prop where
 len:ns.length=n
 nz:au ns=cs
 todo:∀(j v:Nat) (x:ZM),i<=j->P[j]?=some (v:Int)->ns[v]?=some x->x.nb=[]/\x.F=[]
 done:∀(j v:Nat) (x:ZM),j<i->P[j]?=some (v:Int)->ns[v]?=some x->DoneN g cs P n j x
 eq:∀(j v:Nat) (x:ZM),j<i->P[j]?=some (v:Int)->ns[v]?=some x->x=Ae g ps cs P n j
 cd:∀(j v:Nat) (x:ZM),P[j]?=some (v:Int)->ns[v]?=some x->x.L=jU ps n j (kz ps n j)
def RJ {l:List ZM}(h:l[i]?=some x)(hy:y.L=x.L)(hr:y.nb≠[]):bP (l.set i y)=((bP l).set (i*3+1) (af y.F)).set (i*3+2) (bb y.nb):=by
 have hl:=aO h;have h1:=wz (f:=ZM.cY) (z:=3) lC l i y hl;have h2:=oB (f:=ZM.cY) (z:=3) lC l i x h;unfold bP;rw[h1];have h3:(l.map ZM.cY).flatten=((l.map ZM.cY).flatten).take (i*3)++(x.cY++((l.map ZM.cY).flatten).drop (i*3+3)):=by
  rw[<- h2,<- XC,V2,V2]
 have hlen:(((l.map ZM.cY).flatten).take (i*3)).length=i*3:=by
  rw[Vv,mg (f:=ZM.cY) (z:=3) lC];omega
 have ex:∃b c,x.cY=[aa x.L,b,c]:=by unfold ZM.cY;split<;>exact⟨_,_,rfl⟩
 obtain⟨b,c,ex⟩:=ex;have ey:y.cY=[aa y.L,af y.F,bb y.nb]:=Vg hr
 conv=>rhs;rw[h3]
 rw[WC _ _ V,WC _ _ V,hlen,show i*3+1-i*3=1 by omega,show i*3+2-i*3=2 by omega,ex,ey];simp[hy]
structure nnk (P:List Int)(i u k:Nat)(l:List Int):Prop where
 pw:l.Pairwise (·<·)
 np:∀q∈l,0<=q/\(q<u\/(q=u/\∃k',k'<k/\P[k']?=some q))
 p3:l.length<=3
 rk:∀q∈l,∃k',k'<i/\P[k']?=some q
def nnk.skip (h:nnk P i u k l):nnk P i u (k+1) l:=⟨h.pw,fun q hq=>⟨(h.np q hq).1,(h.np q hq).2.imp id fun ⟨a,k',b,c⟩=>⟨a,k',V,c⟩⟩,h.p3,h.rk⟩
def nnk.A (h:nnk P i u k l):nnk P i (u+1) 0 l:=⟨h.pw,fun q hq=>⟨(h.np q hq).1,.inl (by rcases(h.np q hq).2 with h1|h1<;>omega)⟩,h.p3,h.rk⟩
def nnk.add (hP:nnj n P)(h:nnk P i u k l)(hk:k<i)(hu:P[k]?=some (u:Int))(h3:l.length<3):nnk P i u (k+1) (l++[(u:Int)]):=by
 have lt:∀q∈l,q<u:=fun q hq=>by
  rcases(h.np q hq).2 with h1|⟨h1,k',h2,h4⟩
  ·exact h1
  ·exfalso;have e:P[k']?=P[k]?:=(by rw[h4,hu,h1]);have:=(Wu (aO h4) hP.nd).1 e;omega
 refine⟨Xj.2 ⟨h.pw,ZG,fun a ha b hb=>by obtain rfl:=List.mem_singleton.1 hb;exact lt a ha⟩,fun q hq=>?_,by simp;omega,fun q hq=>?_⟩
 ·rcases VH.1 hq with h1|h1
  ·exact⟨(h.np q h1).1,.inl (lt q h1)⟩
  ·obtain rfl:=List.mem_singleton.1 h1;exact⟨V,.inr ⟨rfl,k,V,hu⟩⟩
 ·rcases VH.1 hq with h1|h1
  ·exact h.rk q h1
  ·obtain rfl:=List.mem_singleton.1 h1;exact⟨k,hk,hu⟩
def Af (Hz Hx:ZK)(N at':Nat)(C:List ZL)(pv:ZL)(l:List Int):Prop:=nk Hz Hx N (C.set at' pv)/\aI Hz.A Hx 3 pv (ints l)
def RK (g:Int)(ps:List DrP)(ord:List Int)(ns:List ZM):Prop:=ns.length=min (max ps.length 1) 5/\(∀(j v:Nat) (x:ZM),(gQ ord ns.length)[j]?=some (v:Int)->ns[v]?=some x->x=Ae g ps (au ns) (gQ ord ns.length) ns.length j)/\∀(j v:Nat) (x:ZM),(gQ ord ns.length)[j]?=some (v:Int)->ns[v]?=some x->x.L=jU ps ns.length j (kz ps ns.length j)
def RL (g0:Int)(ps:List DrP)(ord:List Int)(hg0:U8 g0)(hps:∀x∈ps,x.Ok)(hpl:(ps.length:Int)<2 ^ 63)(hol:(ord.length:Int)<2 ^ 63)(ho8:∀x∈ord,U8 x)(H:ZK)(K:ZQ->ZK->Prop)
  (hK:∀g ns N H',ZP H H'->H.A<=N->N<H'.A->H'.get N=some (.J 0 76 (aG ns))->Z4 g ns->ns.length<=5->(∀x∈ns,x.F.length<=3)->(∀x∈ns,2<=x.L)->(g=1+g0 % 60/\RK g ps ord ns)->K (.ret (.agg [aa g,.U N 0 0 ns.length 3])) H'):
  ae prog G0 34 [wy g0 ps ord] H K:=by
 refine ae.st (n:=187) (rs:=[.cell 2 90]) func34 ?_;obtain⟨n,hn⟩:∃n:Nat,min (max ps.length 1) 5=n:=⟨_,rfl⟩
 have h51:1<=n/\n<=5:=V
 have hmn:(if 5<(if (1:Int) > ps.length then 1 else (ps.length:Int)) then 5 else (if (1:Int) > ps.length then 1 else (ps.length:Int)))=(n:Int):=by split<;>split<;>omega
 have t0:g0.tmod 60=g0 % 60:=VV hg0.1;have w0:IntKind.u8.wrap (g0 % 60)=g0 % 60:=Zi _ V;have w1:IntKind.i64.wrap (g0 % 60)=g0 % 60:=Vd _ V;have w2:=Vd (1+g0 % 60) V;obtain⟨g,hg⟩:∃g,1+g0 % 60=g:=⟨_,rfl⟩
 have hg1:1<=g/\g<=60:=V
 rw[hg]at w2;simp only[go_sem,wy];refine W.dr 9 [0,1,3,7,15,0,32,127,0] mixed ?_;simp only[go_sem,hmn,t0,w1,hg,w2];refine⟨V,⟨⟨V,V⟩,⟨V,V⟩,?_⟩⟩;obtain⟨H1,hH1⟩:∃H1,H1=ext (ext H [.J 0 25 [.lit (.int .u8 g0),.Q ps.length (gi ps),.Q ord.length (cG ord)],.J 0 90 [.lit (.int .i64 0),.lit (.slice none 0 0)],.J 0 76 (List.replicate n [ZL.lit (.int .i64 0),.lit (.slice none 0 0),.lit (.slice none 0 0)]).flatten]) [.J 0 90 [.lit (.int .i64 g),.U (H.A+2) 0 0 n 3]]:=⟨_,rfl⟩
 refine W.en (fun E=>E 1=.O H.A 0 0 /\ E 2=.O (H.A+1) 0 0 /\ E 3=aa n /\ E 4=.O (H.A+3) 0 0) (by simp only[go_sem]) fun E ⟨e1,e2,e3,e4⟩=>?_
 show W _ _ _ _ _ _ ⟨E,ext (ext H [.J 0 25 [.lit (.int .u8 g0),.Q ps.length (gi ps),.Q ord.length (cG ord)],.J 0 90 [.lit (.int .i64 0),.lit (.slice none 0 0)],.J 0 76 (List.replicate n [ZL.lit (.int .i64 0),.lit (.slice none 0 0),.lit (.slice none 0 0)]).flatten]) [.J 0 90 [.lit (.int .i64 g),.U (H.A+2) 0 0 n 3]]⟩;rw[<- hH1];have n1:H1.A=H.A+4:=by rw[hH1];rfl
 have o1:ZP H H1:=by rw[hH1];exact(ZP.ext _ _).trans (.ext _ _)
 have g0':H1.get H.A=some (.J 0 25 [.lit (.int .u8 g0),.Q ps.length (gi ps),.Q ord.length (cG ord)]):=by rw[hH1,ee];exact cL ..
 have g1':H1.get (H.A+1)=some (.J 0 90 [.lit (.int .i64 0),.lit (.slice none 0 0)]):=by rw[hH1,ee];exact bM H _ 1 (ZG)
 have g2':H1.get (H.A+2)=some (.J 0 76 (bP (List.replicate n ⟨0,[],[]⟩))):=by
  rw[hH1,ee,show bP (List.replicate n ⟨0,[],[]⟩)=(List.replicate n [ZL.lit (.int .i64 0),.lit (.slice none 0 0),.lit (.slice none 0 0)]).flatten by unfold bP;rw[Yo];rfl];exact bM H _ 2 (ZG)
 have g3':H1.get (H.A+3)=some (.J 0 90 [.lit (.int .i64 g),.U (H.A+2) 0 0 n 3]):=by rw[hH1,ee];exact bM H _ 3 (ZG)
 clear hH1;have l0:=ag g0';have l1:=ag (show (ext H1 [.J 0 5 (List.replicate n (.lit (.int .u8 0)))]).get H.A=some (.J 0 25 [.lit (.int .u8 g0),.Q ps.length (gi ps),.Q ord.length (cG ord)]) by rw[c9 _ _ _ V];exact g0');refine W.dr 4 [0,1,0,4] mixed ?_;simp only[go_sem,e1,e3,l1];refine⟨⟨V,V⟩,V,V,?_⟩;obtain⟨H2,hH2⟩:∃H2,H2=ext H1 [.J 0 5 (List.replicate n (.lit (.int .u8 0)))]:=⟨_,rfl⟩
 have gb:=dh hH2
 rw[<- hH2];refine ak.X ((ae.frame (H:=H2) (args:=[.agg [.U H1.A 0 0 n 1,.lit (.int .u16 0),.Q ord.length (cG ord)]]) (args':=[.agg [.Q n (cG (List.replicate n 0)),.lit (.int .u16 0),.Q ord.length (cG ord)]]) (v':=af (gQ ord n)) aF rfl (fun i hi _=>?_) (Rh n h51.2 ord hol ho8 cW _ fun v H' _ ho=>⟨_,rfl,ho.qk⟩)).mono fun r H' hr=>?_)
 ·match i,hi with
  |0,_ =>
   refine .agg rfl fun i hi _=>?_
   match i,hi with
   |0,_ =>
    have:cG (List.replicate n 0)=List.replicate n (.lit (.int .u8 0)):=(by unfold cG;rw[Yo]);rw[this];exact Fz.ud gb ZG fun c hc=>⟨_,WU hc⟩
   |1,_=>exact .lit _
   |2,_=>exact .Q rfl fun i hi _=>by simp only[cG,Vw];exact .lit _
 obtain⟨rfl,rfl⟩:=hr;refine⟨trivial,?_⟩;have hperm:=z7 ord n;obtain⟨P,hP⟩:∃P,P=gQ ord n:=⟨_,rfl⟩
 rw[<- hP]at hperm ⊢;have n2:H'.A=H1.A+1:=hH2▸rfl
 have F0:nk H1 H' (H.A+2) (bP (List.replicate n ⟨0,[],[]⟩)):=by
  rw[hH2];exact⟨by simp[aW],fun id h _=>c9 _ _ _ h,by rw[c9 _ _ _ V];exact g2'⟩
 clear hH2 gb;simp only[go_sem,e3];have bs:∀k:Nat,k<=5->(3:Int) ^ k<=243:=fun k hk=>by
  have:(3:Nat) ^ k<=3 ^ 5:=Vr ZH hk;have h2:((3 ^ k:Nat):Int)<=((3 ^ 5:Nat):Int):=by exact_mod_cast this
  push_cast at h2
  exact h2
 refine W.aS 151115727451794287100864 (by rfl) (fun ρ Hx=>∃(i:Nat) (ns:List ZM) (Wd:Int),ρ 7=aa i/\i<=n/\ns.length=n/\(∀x∈ns,x.nb=[]/\x.F=[])/\(∀j v:Nat,j<i->P[j]?=some (v:Int)->∃x,ns[v]?=some x/\2<=x.L/\x.L<=3/\x.L=jU ps n j (kz ps n j))/\ρ 6=aa Wd/\Wd=kz ps n i/\1<=Wd/\Wd<=3 ^ i/\H'.A<=Hx.A/\nk H1 Hx (H.A+2) (bP ns)) (fun ρ H=>n-(iv (ρ 7)).toNat) ?_ ?_
 ·simp only[go_sem];exact⟨0,_,1,rfl,V,ZG,fun x hx=>by obtain rfl:=WU hx;exact⟨rfl,rfl⟩,fun j v hj=>V,rfl,rfl,V,ZG,F0⟩
 rintro ρ Hx ⟨i,ns,Wd,h7,hi,hnl,hnz,hnc,h6,hWe,hW1,hW3,hnx,hF⟩;refine W.en (fun E2=>E2 1=.O H.A 0 0 /\ E2 2=.O (H.A+1) 0 0 /\ E2 3=aa n /\ E2 4=.O (H.A+3) 0 0 /\ E2 5=af P /\ E2 6=aa Wd /\ E2 7=aa i) (by simp only[go_sem,e1,e2,e3,e4,h6,h7]) fun E2 ⟨f1,f2,f3,f4,f5,f6,f7⟩=>?_
 refine W.vs ?_;have hPl:=hperm.len;have hFn:=hF.1;have m0:=ag ((hF.2.1 H.A V V).trans g0');have m3:=ag ((hF.2.1 (H.A+3) V V).trans g3');have mN:=ag hF.2.2;have m0':∀L,(ext Hx L).na H.A 0=some (25,[.lit (.int .u8 g0),.Q ps.length (gi ps),.Q ord.length (cG ord)]):=fun L=>(eF V).trans m0;have m3':∀L,(ext Hx L).na (H.A+3) 0=some (90,[.lit (.int .i64 g),.U (H.A+2) 0 0 n 3]):=fun L=>(eF V).trans m3;have mN':∀L,(ext Hx L).na (H.A+2) 0=some (76,bP ns):=fun L=>(eF V).trans mN;by_cases hb:(i:Int)<n
 ·obtain⟨pv,hpv⟩:=ay (l:=P) (i:=i) V;have hpr:=hperm.np pv (an hpv);obtain⟨v,rfl⟩:=Vm hpr.1;obtain⟨x,hx⟩:=ay (l:=ns) (i:=v) V;have hpne:=aZ hpv;have hz0:=ET hx;have hzne:=aZ hz0;have hzl:=ES ns;have hv:(v:Int)<n:=hpr.2;have hv0:(v:Int) >= 0:=hpr.1;have hiP:(i:Int)<P.length:=V
  have w3:=bs i V;have i1:=Vd ((i:Int)+1) V;have i2:=Vd ((n:Int)-1) V;have i3:=Vd ((n:Int)-1-i) V;have i4:=VK ((n:Int)-1-i) V;have fin:∀(c:Int) (B:ZR),2<=c/\c<=3->c=jU ps n i Wd->v*3+1<=(bP ns).length/\H'.A<=((ext Hx [B]).upd (H.A+2) (.J 0 76 (setAt (bP ns) (v*3) [.lit (.int .i64 c)]))).A /\
    (∃(i_1:Nat) (ns_1:List ZM) (Wd_1:Int),ZL.lit (.int .i64 ((i:Int)+1))=.lit (.int .i64 i_1)/\i_1<=n/\ns_1.length=n/\(∀x∈ns_1,x.nb=[]/\x.F=[])/\(∀j v:Nat,j<i_1->P[j]?=some (v:Int)->∃x,ns_1[v]?=some x/\2<=x.L/\x.L<=3/\x.L=jU ps n j (kz ps n j)) /\
     ZL.lit (.int .i64 (Wd*c))=.lit (.int .i64 Wd_1)/\Wd_1=kz ps n i_1/\1<=Wd_1/\Wd_1<=3 ^ i_1/\H'.A<=((ext Hx [B]).upd (H.A+2) (.J 0 76 (setAt (bP ns) (v*3) [.lit (.int .i64 c)]))).A/\nk H1 ((ext Hx [B]).upd (H.A+2) (.J 0 76 (setAt (bP ns) (v*3) [.lit (.int .i64 c)]))) (H.A+2) (bP ns_1)) /\
    n-((i:Int)+1).toNat<n-(iv (ρ 7)).toNat:=by
   intro c B c23 hce;have p1:2<=Wd*c/\Wd*c<=3 ^ i*3:=by
    constructor
    ·have:=WV hW1 c23.1 V V;omega
    ·exact WV hW3 c23.2 V (V)
   have nn:((ext Hx [B]).upd (H.A+2) (.J 0 76 (setAt (bP ns) (v*3) [.lit (.int .i64 c)]))).A=Hx.A+1:=rfl;refine⟨by rw[hzl];have:=aO hx;omega,by rw[nn];omega,⟨i+1,ns.set v ⟨c,[],[]⟩,Wd*c,rfl,V,by simp[hnl],fun z hz=>?_,fun j u hj hu=>?_,rfl,by show Wd*c=kz ps n i*jU ps n i (kz ps n i);rw[<- hWe,<- hce],V,by rw[Xt];omega,by rw[nn];omega,?_⟩,by rw[h7];simp only[aa,bf];omega⟩
   ·rcases Wa hz with h|h
    ·exact hnz z h
    ·rw[h];exact⟨rfl,rfl⟩
   ·by_cases huv:u=v
    ·subst huv;have hji:j=i:=(Wu (aO hu) hperm.nd).1 (by rw[hu,hpv]);exact⟨_,VB (aO hx),by dsimp only;omega,by dsimp only;omega,by dsimp only;rw[hji,<- hWe];exact hce⟩
    ·rw[VP V];refine hnc j u ?_ hu;rcases VC j i with h|h
     ·exact h
     ·obtain rfl:j=i:=V;rw[hpv]at hu;exact absurd (by have:=Option.some.inj hu;omega) huv
   ·refine⟨by rw[nn];omega,fun id h1 h2=>by rw[ah,Vg h2,c9 _ _ _ V];exact hF.2.1 id h1 h2,?_⟩;rw[ah,Vh rfl,RG hx (hnz x (an hx)).1 rfl];congr 2;exact iX (by rw[hzl];have:=aO hx;omega)
  by_cases hp:(i:Int)<ps.length
  ·obtain⟨y,hy⟩:=ay (l:=ps) (i:=i) V;have hyo:=hps y (an hy);have hc0:=EO hy;have hc1:i*3+3<=(gi ps).length:=(by rw[ER];omega);have hcne:¬gi ps=[]:=fun h=>by rw[h]at hc1;simp at hc1
   have c8:=hyo.1;have t1:y.L.tmod 2=y.L % 2:=VV c8.1;have i5:=Zi (y.L % 2) V;have i6:=Vd (y.L % 2) V;have i7:=Vd (2+y.L % 2) V;have c23:2<=(2+y.L % 2)/\(2+y.L % 2)<=3:=V;have p1:2<=Wd*(2+y.L % 2)/\Wd*(2+y.L % 2)<=3 ^ i*3:=by
    constructor
    ·have:=WV hW1 c23.1 V V;omega
    ·exact WV hW3 c23.2 V (V)
   have p2:2<=Wd*2/\Wd*2<=3 ^ i*3:=V;have j1:=Vd (Wd*(2+y.L % 2)) V;have j2:=Vd (Wd*2) V;obtain⟨q,hq⟩:∃q,IntKind.i64.wrap (Wd*(2+y.L % 2)*2 ^ (min ((n:Int)-1-i).toNat IntKind.i64.bits))=q:=⟨_,rfl⟩
   have cA:jU ps n i Wd=if q > 100 then 2 else 2+y.L % 2:=by
    have h0:rL ps i=2+y.L % 2:=(by unfold rL;rw[hy]);unfold jU;rw[h0,hq]
   have hsh:∀t o1 o2,aU prog .shl t o1 o2 (.lit (.int .i64 (Wd*(2+y.L % 2)))) (.lit (.int .u64 ((n:Int)-1-i)))=some (.lit (.int .i64 q)):=fun t o1 o2=>by rw[AY V,hq]
   by_cases hq1:q > 100
   ·simp only[go_sem,f1,f3,f6,f7,m0',hb,hp,i2,i3,i4,j1,j2,hsh,hc0,hc1,hcne,t1,i6,i7,hq1];refine W.dr 7 [0,1,0,0,12,28,0] mixed ?_;simp only[go_sem,f4,f5,f6,f7,m3',mN',i1,hpv,hpne,hv,hv0,hiP];exact fin 2 _ V (by rw[cA,Vh hq1])
   ·simp only[go_sem,f1,f3,f6,f7,m0',hb,hp,i2,i3,i4,j1,hsh,hc0,hc1,hcne,t1,i6,i7,hq1];refine W.dr 7 [0,1,0,0,12,28,0] mixed ?_;simp only[go_sem,f4,f5,f6,f7,m3',mN',i1,hpv,hpne,hv,hv0,hiP];exact fin (2+y.L % 2) _ c23 (by rw[cA,Vg hq1])
  ·have p2:2<=Wd*2/\Wd*2<=3 ^ i*3:=V;have i5:IntKind.i64.wrap (2+IntKind.i64.wrap (Int.tmod 0 2))=2:=ZH;have j2:=Vd (Wd*2) V;obtain⟨q,hq⟩:∃q,IntKind.i64.wrap (Wd*2*2 ^ (min ((n:Int)-1-i).toNat IntKind.i64.bits))=q:=⟨_,rfl⟩
   have cA:jU ps n i Wd=2:=by
    have h0:rL ps i=2:=(by unfold rL;rw[Vo V]);unfold jU;rw[h0];split<;>rfl
   have hsh:∀t o1 o2,aU prog .shl t o1 o2 (.lit (.int .i64 (Wd*2))) (.lit (.int .u64 ((n:Int)-1-i)))=some (.lit (.int .i64 q)):=fun t o1 o2=>by rw[AY V,hq]
   by_cases hq1:q > 100
   ·simp only[go_sem,f1,f3,f6,f7,m0',hb,hp,i2,i3,i4,j2,hsh,i5,hq1];refine W.dr 7 [0,1,0,0,12,28,0] mixed ?_;simp only[go_sem,f4,f5,f6,f7,m3',mN',i1,hpv,hpne,hv,hv0,hiP];exact fin 2 _ V cA.symm
   ·simp only[go_sem,f1,f3,f6,f7,m0',hb,hp,i2,i3,i4,j2,hsh,i5,hq1];refine W.dr 7 [0,1,0,0,12,28,0] mixed ?_;simp only[go_sem,f4,f5,f6,f7,m3',mN',i1,hpv,hpne,hv,hv0,hiP];exact fin 2 _ V cA.symm
 ·obtain rfl:n=i:=V
  clear bs hW1 hW3 h6 f6;simp only[go_sem,f3,f7,hb];obtain⟨cs,hcs⟩:∃cs,cs=au ns:=⟨_,rfl⟩
  have csl:cs.length=n:=by rw[hcs,eU,hnl]
  have hc23:∀c∈cs,2<=c/\c<=3:=fun c hc=>by
   obtain⟨v,hv⟩:=Vl.1 hc;have hvn:=aO hv;have hm:=wB ord n v V;rw[<- hP]at hm;obtain⟨j,hj⟩:=Vl.1 hm;obtain⟨x,hx,h2,h3,_⟩:=hnc j v (by have:=aO hj;omega) hj;rw[hcs,cS hx]at hv;cases hv;exact⟨h2,h3⟩
  have L0:LoopN g ps cs P n 0 ns:=⟨hnl,hcs.symm,fun j v x _ _ hx=>hnz x (an hx),fun j v x h=>V,fun j v x h=>V,fun j v x hj hx=>by
   obtain⟨x',hx',_,_,h4⟩:=hnc j v (by have:=aO hj;omega) hj;rw[hx']at hx;rw[<- Option.some.inj hx];exact h4⟩
  clear hnc hnz h7;refine W.aS 98079714615416886934934209737619636635871851991103765504 (by rfl) (fun ρ Hy=>∃(i:Nat) (ns:List ZM),ρ 10=aa i/\i<=n/\LoopN g ps cs P n i ns/\Hx.A<=Hy.A/\nk H1 Hy (H.A+2) (bP ns)) (fun ρ H=>n-(iv (ρ 10)).toNat) ?_ ?_
  ·simp only[go_sem];exact⟨0,ns,rfl,V,L0,hF⟩
  clear L0 hF m0 m3 mN m0' m3' mN' hFn hnl hcs f7;rintro ρ Hy ⟨i,ns,h10,hi,L,hny,hF⟩;refine W.en (fun E=>E 1=.O H.A 0 0 /\ E 2=.O (H.A+1) 0 0 /\ E 3=aa n /\ E 4=.O (H.A+3) 0 0 /\ E 5=af P /\ E 10=aa i) (by simp only[go_sem,f1,f2,f3,f4,f5,h10]) fun E ⟨e1,e2,e3,e4,e5,e10⟩=>?_
  refine W.vs ?_;have hFn:=hF.1;have m0:=ag ((hF.2.1 H.A V V).trans g0');have m1:=ag ((hF.2.1 (H.A+1) V V).trans g1');have m3:=ag ((hF.2.1 (H.A+3) V V).trans g3');have m0':∀L,(ext Hy L).na H.A 0=some (25,[.lit (.int .u8 g0),.Q ps.length (gi ps),.Q ord.length (cG ord)]):=fun L=>(eF V).trans m0;by_cases hb:(i:Int)<n
  ·obtain⟨pv,hpv⟩:=ay (l:=P) (i:=i) V;have hpr:=hperm.np pv (an hpv);obtain⟨v,rfl⟩:=Vm hpr.1;have hnl:=L.len;obtain⟨x,hx⟩:=ay (l:=ns) (i:=v) V;have hpne:=aZ hpv;have hiP:(i:Int)<P.length:=V;have hP1:∀k:Nat,k<n->∃u:Nat,P[k]?=some (u:Int)/\u<n:=fun k hk=>by
    obtain⟨q,hq⟩:=ay (l:=P) (i:=k) V;have:=hperm.np q (an hq);obtain⟨u,rfl⟩:=Vm this.1;exact⟨u,hq,V⟩
   have hpc:∀(B:List ZL),B=(if (i:Int)<ps.length then (gi ps).drop (i*3) |>.take 3 else [.lit (.int .u8 0),.lit (.int .u8 0),.lit (.slice none 0 0)])->∃(pc par:Int) (bs:List Int) (wv:ZL),B=[.lit (.int .u8 pc),.lit (.int .u8 par),wv]/\(par=(np ps i).1/\bs=(np ps i).2)/\U8 par/\(∀b∈bs,U8 b)/\(bs.length:Int)<2 ^ 63/\wv.one=true/\wv.cells=[wv]/\∀H0,Fz (fun _=>True) H0 0 wv (.Q bs.length (cG bs)):=by
    rintro B rfl;by_cases hp:(i:Int)<ps.length
    ·obtain⟨y,hy⟩:=ay (l:=ps) (i:=i) V;have hyo:=hps y (an hy);rw[Vh hp,EO hy];exact⟨y.L,y.par,y.w,_,rfl,⟨by unfold np;rw[hy],by unfold np;rw[hy]⟩,hyo.2.1,hyo.2.2.2,hyo.2.2.1,rfl,rfl,fun H0=>.Q rfl fun i hi _=>by simp only[cG,Vw];exact .lit _⟩
    ·rw[Vg hp];exact⟨0,0,[],_,rfl,⟨by unfold np;rw[Vo V],by unfold np;rw[Vo V]⟩,by unfold U8;omega,ZG,ZG,rfl,rfl,fun H0=>.nil⟩
   by_cases hp:(i:Int)<ps.length
   case' pos =>
    have hc1:i*3+3<=(gi ps).length:=(by rw[ER];omega);have hcne:¬gi ps=[]:=fun h=>by rw[h]at hc1;simp at hc1
    rw[Vh hp]at hpc;obtain⟨pc,par,bs,wv,hc0,hpw,hpar,hbs,hbl,hwo,hwc,hwf⟩:=hpc _ rfl;simp only[go_sem,e1,e3,e5,e10,m0',hb,hp,hc0,hc1,hcne,hpv,hpne,hiP,hwo,Bool.and_true];obtain⟨Hz,hHz⟩:∃Hz,Hz=ext Hy [.J 0 148 [.lit (.int .u8 pc),.lit (.int .u8 par),wv]]:=⟨_,rfl⟩
    clear hpc hc0 hc1 hcne hp
   case' neg =>
    rw[Vg hp]at hpc;obtain⟨pc,par,bs,wv,hc0,hpw,hpar,hbs,hbl,hwo,hwc,hwf⟩:=hpc _ rfl;simp only[go_sem,e1,e3,e5,e10,m0',hb,hp,hpv,hpne,hiP];rw[hc0];obtain⟨Hz,hHz⟩:∃Hz,Hz=ext Hy [.J 0 148 [.lit (.int .u8 pc),.lit (.int .u8 par),wv]]:=⟨_,rfl⟩
    clear hpc hc0 hp
   all_goals
    rw[<- hHz];refine W.env fun E3 hE3=>?_;have k1:E3 1=.O H.A 0 0:=(by rw[hE3];simp only[go_sem,e1]);have k2:E3 2=.O (H.A+1) 0 0:=(by rw[hE3];simp only[go_sem,e2]);have k3:E3 3=aa n:=(by rw[hE3];simp only[go_sem,e3]);have k4:E3 4=.O (H.A+3) 0 0:=(by rw[hE3];simp only[go_sem,e4]);have k5:E3 5=af P:=(by rw[hE3];simp only[go_sem,e5]);have k10:E3 10=aa i:=(by rw[hE3];simp only[go_sem,e10]);have k11:E3 11=.O Hy.A 0 0:=(by rw[hE3];simp only[go_sem]);have k12:E3 12=aa v:=(by rw[hE3];simp only[go_sem]);have k13:E3 13=aa 0:=(by rw[hE3];simp only[go_sem]);clear hE3;have nz:Hz.A=Hy.A+1:=(by rw[hHz];rfl);have z3:Hz.get (H.A+3)=some (.J 0 90 [.lit (.int .i64 g),.U (H.A+2) 0 0 n 3]):=(by rw[hHz,c9 _ _ _ V];exact(hF.2.1 (H.A+3) V V).trans g3');have zP:Hz.get Hy.A=some (.J 0 148 [.lit (.int .u8 pc),.lit (.int .u8 par),wv]):=(by rw[hHz];exact ef);have zN:Hz.get (H.A+2)=some (.J 0 76 (bP ns)):=(by rw[hHz,c9 _ _ _ V];exact hF.2.2);have zO:∀id,id<H1.A->id≠H.A+2->Hz.get id=H1.get id:=fun id h1 h2=>by rw[hHz,c9 _ _ _ V];exact hF.2.1 id h1 h2
    obtain⟨xr,xp⟩:=L.todo i v x ZJ hpv hx;have hzl:=ES ns;have hvn:=aO hx;have hcx:(bP ns)[v*3+1]?=some (.lit (.slice none 0 0)):=by
     have:=ko (f:=ZM.cY) (z:=3) lC ns v 1 x hx V;rw[show (bP ns)[v*3+1]?=_ from this];unfold ZM.cY;rw[Vh xr];rfl
    clear hHz e1 e2 e3 e4 e5 e10 f1 f2 f3 f4 f5 m0' m0 m1 m3;have vlt:(v:Int)<n:=hpr.2;have v0:(v:Int) >= 0:=hpr.1;have hset:∀pv pv',setAt ((bP ns).set (v*3+1) pv) (v*3+1) [pv']=(bP ns).set (v*3+1) pv':=fun pv pv'=>by rw[iX (by rw[VF];omega),YX]
    have hgetc:∀pv,((bP ns).set (v*3+1) pv)[v*3+1]?=some pv:=fun pv=>VB V;refine W.xG (Q':=fun e s2=>e=.exit 4/\∃pv l,s2.ρ 1=.O H.A 0 0/\s2.ρ 2=.O (H.A+1) 0 0/\s2.ρ 3=aa n/\s2.ρ 4=.O (H.A+3) 0 0/\s2.ρ 5=af P/\s2.ρ 10=aa i/\s2.ρ 11=.O Hy.A 0 0/\s2.ρ 12=aa v/\Af Hz s2.H (H.A+2) (v*3+1) (bP ns) pv l/\nnk P i n 0 l/\l=lD par P i n 0) ?_ ?_
    ·refine W.aS 44601490397061167054908922280959129468035072 (by rfl) (fun ρ Hu=>∃(u:Nat) (pv:ZL) (l:List Int),ρ 13=aa u/\u<=n/\Af Hz Hu (H.A+2) (v*3+1) (bP ns) pv l/\nnk P i u 0 l/\l=lD par P i u 0) (fun ρ H=>n-(iv (ρ 13)).toNat) ?_ ?_
     ·simp only[go_sem,k13];refine⟨0,.lit (.slice none 0 0),[],rfl,V,⟨⟨ZJ,fun _ _ _=>rfl,?_⟩,.nil⟩,⟨ZG,ZG,ZG,ZG⟩,rfl⟩;rw[zN,ub hcx]
     rintro ρu Hu ⟨u,pv,l,h13,hu,hS,hL,hPk⟩;refine W.env fun E4 hE4=>?_;have q3:E4 3=aa n:=(by rw[hE4];simp only[go_sem,k3]);have q4:E4 4=.O (H.A+3) 0 0:=(by rw[hE4];simp only[go_sem,k4]);have q5:E4 5=af P:=(by rw[hE4];simp only[go_sem,k5]);have q10:E4 10=aa i:=(by rw[hE4];simp only[go_sem,k10]);have q11:E4 11=.O Hy.A 0 0:=(by rw[hE4];simp only[go_sem,k11]);have q12:E4 12=aa v:=(by rw[hE4];simp only[go_sem,k12]);have q13:E4 13=aa u:=(by rw[hE4];simp only[go_sem,h13]);have q1:E4 1=.O H.A 0 0:=(by rw[hE4];simp only[go_sem,k1]);have q2:E4 2=.O (H.A+1) 0 0:=(by rw[hE4];simp only[go_sem,k2]);clear hE4;refine W.vs ?_;by_cases hub:(u:Int)<n
     ·have u1:=Vd ((u:Int)+1) V;simp only[go_sem,q3,q13,hub];refine W.aS 44601490397058710981870980086493729605566464 (by rfl) (fun ρ Hk=>∃(k:Nat) (pv:ZL) (l:List Int),ρ 14=aa k/\k<=i/\Hu.A<=Hk.A/\Af Hz Hk (H.A+2) (v*3+1) (bP ns) pv l/\nnk P i u k l/\l=lD par P i u k) (fun ρ H=>i-(iv (ρ 14)).toNat) ?_ ?_
      ·simp only[go_sem];exact⟨0,pv,l,rfl,V,hS,hL,hPk⟩
      clear hS hL hPk;rintro ρk Hk ⟨k,pv,l,h14,hk,hnk,hS,hL,hPk⟩;refine W.env fun E5 hE5=>?_;have r4:E5 4=.O (H.A+3) 0 0:=(by rw[hE5];simp only[go_sem,q4]);have r5:E5 5=af P:=(by rw[hE5];simp only[go_sem,q5]);have r10:E5 10=aa i:=(by rw[hE5];simp only[go_sem,q10]);have r11:E5 11=.O Hy.A 0 0:=(by rw[hE5];simp only[go_sem,q11]);have r12:E5 12=aa v:=(by rw[hE5];simp only[go_sem,q12]);have r13:E5 13=aa u:=(by rw[hE5];simp only[go_sem,q13]);have r14:E5 14=aa k:=(by rw[hE5];simp only[go_sem,h14]);clear hE5;refine W.vs ?_;by_cases hki:(k:Int)<i
      ·obtain⟨hFz,hOz⟩:=hS;have hFz1:=hFz.1;obtain⟨a,ha,han⟩:=hP1 k V;have hane:=aZ ha;have hkP:(k:Int)<P.length:=V;have s1:=Vd ((k:Int)+1) V;have s2:=VK (k:Int) V;have y3:=ag ((hFz.2.1 (H.A+3) V V).trans z3);have yP:=ag ((hFz.2.1 Hy.A V V).trans zP);have yN:=ag hFz.2.2;have hgc:=hgetc pv;have hcne2:=aZ hgc;obtain⟨r2,hr2e⟩:∃r2,r2=EX par k:=⟨_,rfl⟩
       obtain⟨r1,hr1e⟩:∃r1,r1=par.fdiv (2 ^ (min ((k:Int)).toNat IntKind.u8.bits)):=⟨_,rfl⟩
       have hr1:∀t o1 o2,aU prog .shr t o1 o2 (.lit (.int .u8 par)) (.lit (.int .u64 (k:Int)))=some (.lit (.int .u8 r1)):=fun _ _ _=>by rw[hr1e];exact su (V)
       have hr2:∀t o1 o2,aU prog .and t o1 o2 (.lit (.int .u8 r1)) (.lit (.int .u8 1))=some (.lit (.int .u8 r2)):=fun _ _ _=>by rw[hr2e,hr1e];exact qt
       have hlen:=wA hOz (d:=some (.slice 3)) rfl;rw[rf,bD]at hlen;by_cases hau:(a:Int)=u
       ·have hau':a=u:=V;by_cases hr:r2=1
        ·by_cases hl3:(l.length:Int)<3
         ·simp only[go_sem,r4,r5,r10,r11,r12,r13,r14,hki,ha,hane,hkP,s2,y3,yP,yN,hgc,hr1,hr2,hlen,hau,hr,hl3,vlt,v0];obtain⟨pv',Hj,hA,hO',hn',hpr'⟩:=jv (P:=prog) (H:=Hk) (t:=72) (x:=aa u) (n:=Hk.A+1) Tryz.underlying72 Tryz.fC Tryz.fm rfl (by rw[Tryz.fV,bD];omega) hOz hFz1 rfl;simp only[aa]at hA;have ng:∀id,id<Hz.A->Hj.get id=Hk.get id:=fun id h=>hpr' id V (hOz.ne h);have y3j:=ag ((ng _ V).trans ((hFz.2.1 (H.A+3) V V).trans z3));have yNj:=ag ((ng _ V).trans hFz.2.2);refine W.dr 12 [0,1,0,0,8,0,56,120,248,0,512,2040] mixed ?_;simp only[go_sem,r4,r12,r13,r14,y3,yN,yNj,hgc,vlt,v0,hA,s1];have hdj:oo (if lZ pv=true then { nC:=aR pv,rs:=aR pv++[Hk.A] } else { nC:=[Hk.A+1],rs:=[Hk.A] }) { nC:=[],rs:=[H.A+3] }:=by
           rcases hOz with ⟨hO1,_⟩|⟨id,gg,hO1,hO2,hO3,_⟩
           ·rw[hO1];show oo { nC:=[Hk.A+1],rs:=[Hk.A] } _;exact⟨fun a ha=>by (obtain rfl:a=Hk.A+1:=by simpa using ha);simp;omega,fun a ha=>by simp at ha⟩
           ·rw[hO3];show oo { nC:=[id],rs:=[id]++[Hk.A] } _;exact⟨fun a ha=>by (obtain rfl:a=id:=by simpa using ha);simp;omega,fun a ha=>by simp at ha⟩
          have hpc1:=hO'.cells;rw[hpc1];refine⟨⟨V,V,V,V,V,V,V⟩,⟨hdj,hdj⟩,⟨rfl,by simp[hO'.one],by rw[VF];simp;omega⟩,by rw[aQ];omega,⟨k+1,pv',l++[(u:Int)],rfl,V,by rw[aQ];omega,⟨⟨by rw[aQ];omega,fun id h1 h2=>by rw[ah,Vg h2,ng _ h1];exact hFz.2.1 id h1 h2,?_⟩,?_⟩,hL.add hperm V (by rw[ha,hau]) V,by rw[wC,<- hPk];unfold pY;rw[Vh ⟨by rw[ha,hau],by rw[<- hr2e];exact hr,V⟩]⟩,by rw[h14];simp only[aa,bf];omega⟩
          ·rw[ah,Vh rfl,hset]
          ·have:=hO'.ng (lo':=Hz.A) (H':=Hj.upd (H.A+2) (.J 0 76 (setAt ((bP ns).set (v*3+1) pv) (v*3+1) [pv']))) ZJ ZJ fun id _ h1 _ _ _=>by rw[ah,Vg V]
           simpa[ints,aa] using this
         ·simp only[go_sem,r4,r5,r10,r11,r12,r13,r14,hki,ha,hane,hkP,s1,s2,y3,yP,yN,hgc,hr1,hr2,hlen,hau,hr,hl3,vlt,v0];exact⟨hnk,⟨k+1,pv,l,rfl,V,hnk,⟨hFz,hOz⟩,hL.skip,by rw[wC,<- hPk];unfold pY;rw[Vg fun h=>hl3 (by have:=h.2.2;omega)]⟩,by rw[h14];simp only[aa,bf];omega⟩
        ·simp only[go_sem,r5,r10,r11,r13,r14,hki,ha,hane,hkP,s1,s2,yP,hr1,hr2,hau,hr];exact⟨hnk,⟨k+1,pv,l,rfl,V,hnk,⟨hFz,hOz⟩,hL.skip,by rw[wC,<- hPk];unfold pY;rw[Vg fun h=>hr (by rw[hr2e];exact h.2.1)]⟩,by rw[h14];simp only[aa,bf];omega⟩
       ·simp only[go_sem,r5,r10,r13,r14,hki,ha,hane,hkP,s1,hau];exact⟨hnk,⟨k+1,pv,l,rfl,V,hnk,⟨hFz,hOz⟩,hL.skip,by rw[wC,<- hPk];unfold pY;rw[Vg fun h=>hau (by have h1:=h.1;rw[ha]at h1;exact Option.some.inj h1)]⟩,by rw[h14];simp only[aa,bf];omega⟩
      ·obtain rfl:k=i:=V;simp only[go_sem,r10,r13,r14,hki,u1];exact⟨by have:=hS.1.1;omega,⟨u+1,pv,l,rfl,V,hS,hL.A,by rw[RH];exact hPk⟩,by rw[h13];simp only[aa,bf];omega⟩
     ·obtain rfl:u=n:=V;simp only[go_sem,q1,q2,q3,q4,q5,q10,q11,q12,q13,hub];exact⟨pv,l,hS,hL,hPk⟩
    ·rintro e s2 ⟨rfl,pv,l,a1,a2,a3,a4,a5,a10,a11,a12,⟨hFz,hOz⟩,hL,hPk⟩;have hFz1:=hFz.1;obtain⟨rk,hrk,hfz⟩:∃rk,Hz.A<=rk/\Fz (fun id=>id=rk) s2.H s2.H.A pv (af l):=by
      rcases hOz with ⟨hO1,hO2⟩|⟨id,gg,hO1,hO2,hO3,hO4⟩
      ·have:l=[]:=by cases l with
        |nil=>rfl
        |cons b l=>simp[ints]at hO2
       rw[hO1,this];exact⟨s2.H.A,hFz1,.nil⟩
      ·refine⟨id,hO1,?_⟩;rw[hO3,bD];refine .ny rfl hO4 (by rw[Nat.mul_one,bD]) fun j hj h2 h'=>?_;simp only[Nat.zero_add,ints,Vw];exact .lit _
     have hne2:H.A+2≠rk:=V;refine⟨⟨s2.ρ,s2.H.fG rk (H.A+2) (.J 0 76 ((bP ns).set (v*3+1) (af l)))⟩,eV.fG aF hFz.2.2 hne2 ZG (A2 (EV ns) hfz),ZJ,trivial,?_⟩;obtain⟨Hm,hHm⟩:∃Hm,Hm=s2.H.fG rk (H.A+2) (.J 0 76 ((bP ns).set (v*3+1) (af l))):=⟨_,rfl⟩
     rw[<- hHm];have hFm:nk Hz Hm (H.A+2) ((bP ns).set (v*3+1) (af l)):=by
      rw[hHm];exact⟨hFz1,fun id h1 h2=>(mF V h2).trans (hFz.2.1 id h1 h2),xF hne2⟩
     clear hFz hOz hfz hHm hne2 hrk;simp only[go_sem];refine W.env fun E6 hE6=>?_;have y1:E6 1=.O H.A 0 0:=(by rw[hE6];simp only[go_sem,a1]);have y2:E6 2=.O (H.A+1) 0 0:=(by rw[hE6];simp only[go_sem,a2]);have y3:E6 3=aa n:=(by rw[hE6];simp only[go_sem,a3]);have y4:E6 4=.O (H.A+3) 0 0:=(by rw[hE6];simp only[go_sem,a4]);have y5:E6 5=af P:=(by rw[hE6];simp only[go_sem,a5]);have y10:E6 10=aa i:=(by rw[hE6];simp only[go_sem,a10]);have y11:E6 11=.O Hy.A 0 0:=(by rw[hE6];simp only[go_sem,a11]);have y12:E6 12=aa v:=(by rw[hE6];simp only[go_sem,a12]);have y15:E6 15=aa 0:=(by rw[hE6];simp only[go_sem]);clear hE6 a1 a2 a3 a4 a5 a10 a11 a12;have lsm:fb (aK cs l):=se (by rw[jj];have:=hL.p3;omega) fun c hc=>by
      unfold aK at hc;obtain⟨q,hq,rfl⟩:=Vu.1 hc;have hqr:=hL.np q hq;obtain⟨c,hc⟩:=ay (l:=cs) (i:=q.toNat) (by rw[csl];rcases hqr.2 with h|⟨_,k',h,_⟩<;>omega);rw[bI hc];have:=hc23 c (an hc);omega
     have lpos:0<aC (aK cs l)/\aC (aK cs l)<=27:=by
      have c3:∀c∈aK cs l,1<=c/\c<=3:=fun c hc=>by
       unfold aK at hc;obtain⟨q,hq,rfl⟩:=Vu.1 hc;have hqr:=hL.np q hq;obtain⟨c,hc⟩:=ay (l:=cs) (i:=q.toNat) (by rw[csl];rcases hqr.2 with h|⟨_,k',h,_⟩<;>omega);rw[bI hc];have:=hc23 c (an hc);omega
      have h1:=fX fun c hc=>(c3 c hc).1;have h2:=(pS (b:=3) V fun c hc=>⟨by have:=(c3 c hc).1;omega,(c3 c hc).2⟩).2;have h3:(3:Int) ^ (aK cs l).length<=3 ^ 3:=by
       have:(3:Nat) ^ (aK cs l).length<=3 ^ 3:=Vr ZH (by rw[jj];exact hL.p3)
       exact_mod_cast this
      omega
     obtain⟨R,hR⟩:=Vm (show 0<=aC (aK cs l) by omega);have hxc:2<=x.L/\x.L<=3:=hc23 x.L (by rw[<- L.nz];exact an (cS hx));have hFm1:=hFm.1;have w3:Hm.get (H.A+3)=some (.J 0 90 [.lit (.int .i64 g),.U (H.A+2) 0 0 n 3]):=(hFm.2.1 _ V V).trans z3;have wP:Hm.get Hy.A=some (.J 0 148 [.lit (.int .u8 pc),.lit (.int .u8 par),wv]):=(hFm.2.1 _ V V).trans zP;obtain⟨C1,hC1⟩:∃C1,C1=(bP ns).set (v*3+1) (af l):=⟨_,rfl⟩
     have c1l:C1.length=ns.length*3:=(by rw[hC1,VF,hzl]);have hcx2:C1[v*3+2]?=some (.lit (.slice none 0 0)):=by
      have:=ko (f:=ZM.cY) (z:=3) lC ns v 2 x hx V;rw[hC1,VP V,show (bP ns)[v*3+2]?=_ from this];unfold ZM.cY;rw[Vh xr];rfl
     have hcx0:C1[v*3]?=some (aa x.L):=(by rw[hC1,VP V];exact ET hx);rw[<- hC1]at hFm;have hset2:∀rv rv',setAt (C1.set (v*3+2) rv) (v*3+2) [rv']=C1.set (v*3+2) rv':=fun rv rv'=>by rw[iX (by rw[VF];omega),YX]
     have hgc2:∀rv,(C1.set (v*3+2) rv)[v*3+2]?=some rv:=fun rv=>VB V;have hgc0:∀rv,(C1.set (v*3+2) rv)[v*3]?=some (aa x.L):=fun rv=>by rw[VP V];exact hcx0
     refine W.xG (Q':=fun e s2=>e=.exit 8/\∃(rv:ZL) (nb:List (List Int)),s2.ρ 1=.O H.A 0 0/\s2.ρ 2=.O (H.A+1) 0 0/\s2.ρ 3=aa n/\s2.ρ 4=.O (H.A+3) 0 0/\s2.ρ 5=af P/\s2.ρ 10=aa i/\nb.length=R/\nb=rM g x.L bs R/\(∀r∈nb,kJ g x.L r)/\nk Hm s2.H (H.A+2) (C1.set (v*3+2) rv)/\aI Hm.A s2.H 72 rv (nb.map af)) ?_ ?_
     ·refine W.aS 98079714615372285444537148491336716315054007096738611200 (by rfl) (fun ρ Hr=>∃(r:Nat) (rv:ZL) (nb:List (List Int)),ρ 15=aa r/\r<=R/\nb.length=r/\nb=rM g x.L bs r/\(∀r∈nb,kJ g x.L r)/\nk Hm Hr (H.A+2) (C1.set (v*3+2) rv)/\aI Hm.A Hr 72 rv (nb.map af)) (fun ρ H=>R-(iv (ρ 15)).toNat) ?_ ?_
      ·simp only[go_sem,y15];refine⟨0,.lit (.slice none 0 0),[],rfl,V,rfl,rfl,ZG,⟨ZJ,fun _ _ _=>rfl,?_⟩,.nil⟩;rw[hFm.2.2,ub hcx2]
      rintro ρr Hr ⟨r,rv,nb,h15,hr,hrl,hrD,hrows,hFr,hOr⟩;refine W.env fun E7 hE7=>?_;have b1:E7 1=.O H.A 0 0:=(by rw[hE7];simp only[go_sem,y1]);have b2:E7 2=.O (H.A+1) 0 0:=(by rw[hE7];simp only[go_sem,y2]);have b3:E7 3=aa n:=(by rw[hE7];simp only[go_sem,y3]);have b4:E7 4=.O (H.A+3) 0 0:=(by rw[hE7];simp only[go_sem,y4]);have b5:E7 5=af P:=(by rw[hE7];simp only[go_sem,y5]);have b10:E7 10=aa i:=(by rw[hE7];simp only[go_sem,y10]);have b11:E7 11=.O Hy.A 0 0:=(by rw[hE7];simp only[go_sem,y11]);have b12:E7 12=aa v:=(by rw[hE7];simp only[go_sem,y12]);have b15:E7 15=aa r:=(by rw[hE7];simp only[go_sem,h15]);clear hE7;refine W.vs ?_;have hFr1:=hFr.1;have v3:=ag ((hFr.2.1 (H.A+3) V V).trans w3);have vP:=ag ((hFr.2.1 Hy.A V V).trans wP);have vN:=ag hFr.2.2;have hzp:∀z∈ns,z.nb=[]->z.F=[]:=fun z hz hz0=>by
       obtain⟨u,hu⟩:=Vl.1 hz;have hm:=wB ord n u (by have:=aO hu;omega);rw[<- hP]at hm;obtain⟨j,hj⟩:=Vl.1 hm;rcases VC j i with h|h
       ·exact absurd hz0 (L.done j u z h hj hu).ne
       ·exact(L.todo j u z h hj hu).2
      have hcard:au (ns.set v ⟨x.L,l,nb⟩)=cs:=by
       have h1:au (ns.set v ⟨x.L,l,nb⟩)=(au ns).set v x.L:=(by unfold au;rw[X6]);rw[h1,ub (cS hx),L.nz]
      have hpar:aT (ns.set v ⟨x.L,l,nb⟩) ⟨x.L,l,nb⟩=aK cs l:=(by unfold aT;rw[hcard]);have fzN:Fz (fun _=>True) Hr 0 (.agg [aa g,.U (H.A+2) 0 0 n 3]) (eZ g (ns.set v ⟨x.L,l,nb⟩)):=by
       refine .agg rfl fun i hi _=>?_
       match i,hi with
       |0,_=>exact .lit _
       |1,_ =>
        show Fz _ _ _ _ (.Q (ns.set v ⟨x.L,l,nb⟩).length (aG (ns.set v ⟨x.L,l,nb⟩)));rw[VF,hnl,RD (y:=⟨x.L,l,nb⟩) hx rfl];refine .ny trivial hFr.2.2 (by rw[VF,VF,kq];omega) fun j hj h2 h'=>?_;simp only[Nat.zero_add];refine EU (A:=C1) (B:=(aG ns).set (v*3+1) (af l)) ?_ ?_ j _ _
        ·rw[hC1];exact EU (RC ns hzp) (.ea _)
        ·have:=hOr.fz (S:=fun _=>True) (nx:=0) (cs':=nb.map af) (fun _ _=>trivial) rfl fun i hi _=>by simp only[Vw];exact .ea _
         rw[VA]at this;exact this
      simp only[go_sem,b4,b12,b15,v3];refine ak.X ((ae.frame (H:=Hr) (args:=[.agg [aa g,.U (H.A+2) 0 0 n 3],aa v]) (args':=[eZ g (ns.set v ⟨x.L,l,nb⟩),aa v]) (v':=af (aK cs l)) aF rfl (fun i hi _=>?_) (RF g (ns.set v ⟨x.L,l,nb⟩) v ⟨x.L,l,nb⟩ (VB hvn) (by rw[VF];omega) (by show (l.length:Int)<_;have:=hL.p3;omega) (fun q hq=>by
        have hqr:=hL.np q hq;rw[VF];rcases hqr.2 with h|⟨_,k',h,_⟩<;>omega) cW _ fun w Hq _ ho=>⟨_,rfl,by rw[hpar]at ho;exact ho.qk⟩)).mono fun r1 H1' hr1=>?_)
      ·match i,hi with
       |0,_=>exact fzN
       |1,_=>exact .lit _
      obtain⟨rfl,rfl⟩:=hr1;refine⟨trivial,?_⟩;simp only[go_sem];refine ak.X (Te (aK cs l) lsm _ _ ⟨trivial,?_⟩);rw[hR];by_cases hrR:(r:Int)<R
      ·simp only[go_sem,hrR];obtain⟨xn,hxn⟩:=Vm (show 0<=x.L by omega);have rc:0<=(r:Int)*(x.L+1)/\(r:Int)*(x.L+1)<=27*4:=⟨W2 V V,WV V V V V⟩
       have c1:=Vd (x.L+1) V;have c2:=Vd ((r:Int)*(x.L+1)) V;have c3:=Vd ((r:Int)+1) V;have hg2:=hgc2 rv;have hg0':=hgc0 rv;have hg2n:=aZ hg2;obtain⟨row,hrow⟩:∃row,row=oI g xn bs ((r:Int)*(x.L+1)):=⟨_,rfl⟩
       have hrok:kJ g x.L row:=(by rw[hrow,hxn];exact Rk hg1.1 V _ _);have hpc84:∀Hq,aY prog G0 (.X 77 [] []) [aa g,aa x.L,wv,aa ((r:Int)*(x.L+1))] Hq (af row) []:=fun Hq=>by
        refine aY.mk (fun i hi=>by cases hi) fun H2 _ _=>?_;refine ae.frame (H:=H2) (args:=[aa g,aa x.L,wv,aa ((r:Int)*(x.L+1))]) (args':=[aa g,aa xn,.Q bs.length (cG bs),aa ((r:Int)*(x.L+1))]) (v':=af row) aF rfl (fun i hi _=>?_) (Rl g xn hg1 V bs hbl hbs _ V cW _ fun w Hw _ ho=>⟨_,rfl,by rw[hrow];exact ho.qk⟩)
        match i,hi with
        |0,_=>exact .lit _
        |1,_=>rw[hxn];exact .lit _
        |2,_=>exact hwf _
        |3,_=>exact .lit _
       obtain⟨rv',Hj,hA,hO',hn',hpr'⟩:=jv (P:=prog) (H:=H1') (t:=74) (x:=af row) (n:=H1'.A+1) Tryz.underlying74 Tryz.zr Tryz.zu rfl (by rw[Tryz.zt,VA];omega) hOr hFr1 rfl;have ng:∀id,id<Hm.A->Hj.get id=H1'.get id:=fun id h=>hpr' id V (hOr.ne h);have v3j:=ag ((ng _ V).trans ((hFr.2.1 (H.A+3) V V).trans w3));have vNj:=ag ((ng _ V).trans hFr.2.2);have hA':bS prog (ext H1' [.J 0 72 [.Q row.length (ints row)]]) (H1'.A+1) 74 74 rv (.U H1'.A 0 0 1 1)=some (rv',Hj):=hA;refine W.dr 31 [0,1,0,0,8,0,56,120,248,0,512,0,2048,0,14336,30720,63488,0,131072,0,0,1048576,0,7340032,15728640,32505856,66060288,133693440,268434944,536870400,1073741816] mixed ?_;simp only[go_sem,b4,b11,b12,b15,v3,vP,vN,hg2,hg0',vlt,v0,c1,c2];refine⟨af row,[],hpc84 _,?_⟩;simp only[go_sem,b4,b11,b12,b15,vNj,vlt,v0,c3,hA'];have hdj:oo (if lZ rv=true then { nC:=aR rv,rs:=aR rv++[H1'.A] } else { nC:=[H1'.A+1],rs:=[H1'.A] }) { nC:=[],rs:=[H.A+3] }:=by
        rcases hOr with ⟨hO1,_⟩|⟨id,gg,hO1,hO2,hO3,_⟩
        ·rw[hO1];show oo { nC:=[H1'.A+1],rs:=[H1'.A] } _;exact⟨fun a ha=>by (obtain rfl:a=H1'.A+1:=by simpa using ha);simp;omega,fun a ha=>by simp at ha⟩
        ·rw[hO3];show oo { nC:=[id],rs:=[id]++[H1'.A] } _;exact⟨fun a ha=>by (obtain rfl:a=id:=by simpa using ha);simp;omega,fun a ha=>by simp at ha⟩
       rw[hO'.cells];refine⟨⟨V,V,V,V,V,V,V⟩,⟨hdj,hdj⟩,⟨rfl,by simp[hO'.one],by rw[VF,c1l];simp;omega⟩,by rw[aQ];omega,⟨r+1,rv',nb++[row],rfl,V,by simp[hrl],by rw[RI,<- hrD,hrow,show x.L.toNat=xn by omega],fun q hq=>?_,⟨by rw[aQ];omega,fun id h1 h2=>by rw[ah,Vg h2,ng _ h1];exact hFr.2.1 id h1 h2,?_⟩,?_⟩,by rw[h15];simp only[aa,bf];omega⟩
       ·rcases VH.1 hq with h|h
        ·exact hrows q h
        ·obtain rfl:=List.mem_singleton.1 h;exact hrok
       ·rw[ah,Vh rfl,hset2]
       ·have:=hO'.ng (lo':=Hm.A) (H':=Hj.upd (H.A+2) (.J 0 76 (setAt (C1.set (v*3+2) rv) (v*3+2) [rv']))) ZJ ZJ fun id _ h1 _ _ _=>by rw[ah,Vg V]
        simpa using this
      ·simp only[go_sem,b1,b2,b3,b4,b5,b10,hrR];exact⟨rv,nb,V,by rw[hrD];congr 1;omega,hrows,hFr,hOr⟩
     ·rintro e s3 ⟨rfl,rv,nb,a1,a2,a3,a4,a5,a10,hrl,hrD,hrows,hFr,hOr⟩;have hFr1:=hFr.1;obtain⟨rk,hrk,hfz⟩:∃rk,Hm.A<=rk/\Fz (fun id=>id=rk) s3.H s3.H.A rv (bb nb):=by
       rcases hOr with ⟨hO1,hO2⟩|⟨id,gg,hO1,hO2,hO3,hO4⟩
       ·have:nb=[]:=by cases nb with
         |nil=>rfl
         |cons b l=>simp at hO2
        rw[hO1,this];exact⟨s3.H.A,hFr1,.nil⟩
       ·refine⟨id,hO1,?_⟩;rw[hO3,VA];refine .ny rfl hO4 (by rw[Nat.mul_one,VA]) fun j hj h2 h'=>?_;simp only[Nat.zero_add,Vw];exact .ea _
      have hne2:H.A+2≠rk:=V;have hC1z:∀c∈C1,Fz (fun id=>id=rk) s3.H s3.H.A c c:=fun c hc=>by
       rw[hC1]at hc;rcases Wa hc with h|h
       ·exact EV ns c h
       ·rw[h];exact .ea _
      refine⟨⟨s3.ρ,s3.H.fG rk (H.A+2) (.J 0 76 (C1.set (v*3+2) (bb nb)))⟩,eV.fG aF hFr.2.2 hne2 ZG (A2 hC1z hfz),ZJ,trivial,?_⟩;obtain⟨He,hHe⟩:∃He,He=s3.H.fG rk (H.A+2) (.J 0 76 (C1.set (v*3+2) (bb nb))):=⟨_,rfl⟩
      rw[<- hHe];have hFe:nk Hm He (H.A+2) (C1.set (v*3+2) (bb nb)):=by
       rw[hHe];exact⟨hFr1,fun id h1 h2=>(mF V h2).trans (hFr.2.1 id h1 h2),xF hne2⟩
      clear hFr hOr hfz hHe hne2 hrk;have hFe1:=hFe.1;have i1:=Vd ((i:Int)+1) V;simp only[go_sem,a10,i1];have hiv:∀j u:Nat,P[j]?=some (u:Int)->u=v->j=i:=fun j u h1 h2=>by
       subst h2;exact(Wu (aO h1) hperm.nd).1 (by rw[h1,hpv])
      have hrne:nb≠[]:=fun h=>by rw[h]at hrl;simp at hrl;omega
      have hdone:DoneN g cs P n i ⟨x.L,l,nb⟩:=⟨⟨hL.pw,fun q hq=>⟨(hL.np q hq).1,by rcases(hL.np q hq).2 with h|⟨_,k',h,_⟩<;>omega⟩⟩,hL.p3,hL.rk,by show (nb.length:Int)=_;rw[hrl,hR],hrows,hrne⟩
      refine⟨V,⟨i+1,ns.set v ⟨x.L,l,nb⟩,rfl,V,⟨by rw[VF];exact hnl,?_,fun j u z hj hu hz=>?_,fun j u z hj hu hz=>?_,fun j u z hj hu hz=>?_,fun j u z hu hz=>?_⟩,V,V,fun id h1 h2=>?_,?_⟩,by rw[h10];simp only[aa,bf];omega⟩
      ·have h1:au (ns.set v ⟨x.L,l,nb⟩)=(au ns).set v x.L:=(by unfold au;rw[X6]);rw[h1,ub (cS hx),L.nz]
      ·have huv:¬u=v:=fun h=>by have:=hiv j u hu h;omega
       rw[VP V]at hz;exact L.todo j u z V hu hz
      ·by_cases huv:u=v
       ·obtain rfl:=hiv j u hu huv;rw[huv,VB hvn]at hz;cases hz;exact hdone
       ·rw[VP V]at hz;have:j≠i:=fun h=>by
         rw[h,hpv]at hu;exact huv (by have:=Option.some.inj hu;omega)
        exact L.done j u z V hu hz
      ·by_cases huv:u=v
       ·obtain rfl:=hiv j u hu huv;rw[huv,VB hvn]at hz;rw[<- Option.some.inj hz];unfold Ae;rw[<- L.cd j v x hpv hx,<- hpw.1,<- hpw.2,<- hPk,hR,hrD];rfl
       ·rw[VP V]at hz;have:j≠i:=fun h=>by
         rw[h,hpv]at hu;exact huv (by have:=Option.some.inj hu;omega)
        exact L.eq j u z V hu hz
      ·by_cases huv:u=v
       ·obtain rfl:=hiv j u hu huv;rw[huv,VB hvn]at hz;rw[<- Option.some.inj hz];exact L.cd j v x hpv hx
       ·rw[VP V]at hz;exact L.cd j u z hu hz
      ·rw[hFe.2.1 id V h2,hFm.2.1 id V h2];exact zO id h1 h2
      ·rw[hFe.2.2,RJ (y:=⟨x.L,l,nb⟩) hx rfl hrne,hC1]
  ·obtain rfl:i=n:=V;simp only[go_sem,e2,e3,e4,e10,hb,m1,m3];have hnl:=L.len;have hall:∀v:Nat,v<ns.length->(v:Int)∈P:=fun v hv=>by rw[hP];exact wB ord i v (V)
   have hdn:∀(v:Nat) (x:ZM),ns[v]?=some x->∃j,DoneN g cs P i j x:=fun v x hx=>by
    obtain⟨j,hj⟩:=Vl.1 (hall v (aO hx));exact⟨j,L.done j v x (by have:=aO hj;have:=hperm.len;omega) hj hx⟩
   have hdm:∀x∈ns,∃j,DoneN g cs P i j x:=fun x hx=>by
    obtain⟨v,hv⟩:=Vl.1 hx;exact hdn v x hv
   have ov:ZP H (Hy.upd (H.A+1) (.J 0 90 [.lit (.int .i64 g),.U (H.A+2) 0 0 i 3])):=⟨by rw[aQ];omega,fun id h=>by rw[ah,Vg V,hF.2.1 id V V];exact o1.nf id h⟩
   have hz:bP ns=aG ns:=RA fun x hx=>(hdm x hx).elim fun j hj=>hj.ne;have hcl8:∀x∈ns,2<=x.L/\x.L<=3:=fun x hx=>hc23 x.L (by rw[<- L.nz];exact Vu.2 ⟨x,hx,rfl⟩);have hnet:Z4 g ns:=by
    refine⟨hg1,V,fun x hx=>?_,?_,EW (P:=P) (by rw[hnl];exact hperm) hall fun j v x hj hx q hq=>?_,fun x hx=>?_⟩
    ·obtain⟨j,hj⟩:=hdm x hx;have:=hcl8 x hx;exact⟨V,by rw[hnl];exact hj.pl⟩
    ·have h2:=(pS (b:=3) V (l:=au ns) fun c hc=>by have:=hc23 c (by rw[<- L.nz];exact hc);omega).2;have h3:(3:Int) ^ (au ns).length<=3 ^ 5:=by
      have:(3:Nat) ^ (au ns).length<=3 ^ 5:=Vr ZH (by rw[eU];omega)
      exact_mod_cast this
     omega
    ·have hd:=L.done j v x (by have:=aO hj;have:=hperm.len;omega) hj hx;exact⟨(hd.pl.2 q hq).1,hd.rk q hq⟩
    ·obtain⟨j,hj⟩:=hdm x hx;unfold gF aT;rw[L.nz];exact⟨hj.rl,hj.ro⟩
   rw[<- hnl];rw[<- hnl]at ov;refine aj.mk ov.A (hK g ns (H.A+2) _ ov V (by rw[aQ];omega) ?_ hnet V (fun x hx=>?_) (fun x hx=>?_) ⟨hg.symm,by rw[hnl];exact hn.symm,by rw[L.nz,hnl,<- hP];exact fun j v x hj hx=>L.eq j v x (by have:=aO hj;have:=hperm.len;omega) hj hx,by rw[hnl,<- hP];exact L.cd⟩)
   ·rw[ah,Vg V,hF.2.2,hz]
   ·obtain⟨j,hj⟩:=hdm x hx;exact hj.p3
   ·have:=hc23 x.L (by rw[<- L.nz];unfold au;exact List.mem_map_of_mem hx);omega
def RM (g0:Int)(ps:List DrP)(ord:List Int)(hg0:U8 g0)(hps:∀x∈ps,x.Ok)(hpl:(ps.length:Int)<2 ^ 63)(hol:(ord.length:Int)<2 ^ 63)(ho8:∀x∈ord,U8 x)(H:ZK)(K:ZQ->ZK->Prop)
  (hK:∀g ns N H',ZP H H'->H.A<=N->N<H'.A->H'.get N=some (.J 0 76 (aG ns))->Z4 g ns->ns.length<=5->(∀x∈ns,x.F.length<=3)->(∀x∈ns,2<=x.L)->K (.ret (.agg [aa g,.U N 0 0 ns.length 3])) H'):
  ae prog G0 34 [wy g0 ps ord] H K:=RL g0 ps ord hg0 hps hpl hol ho8 H K fun g ns N H' a b c d e f h i _=>hK g ns N H' a b c d e f h i
def RN (g0:Int)(ps:List DrP)(ord:List Int)(hg0:U8 g0)(hps:∀x∈ps,x.Ok)(hpl:(ps.length:Int)<2 ^ 63)(hol:(ord.length:Int)<2 ^ 63)(ho8:∀x∈ord,U8 x)(H:ZK)(K:ZQ->ZK->Prop)
  (hK:∀g ns N H',ZP H H'->H.A<=N->N<H'.A->H'.get N=some (.J 0 76 (aG ns))->Z4 g ns->ns.length<=5->(∀x∈ns,x.F.length<=3)->K (.ret (.agg [aa g,.U N 0 0 ns.length 3])) H'):
  ae prog G0 34 [wy g0 ps ord] H K:=RM g0 ps ord hg0 hps hpl hol ho8 H K fun g ns N H' a b c d e f h _=>hK g ns N H' a b c d e f h
def RO (s v:Nat)(hs:s<2 ^ 64)(H:ZK)(K:ZQ->ZK->Prop)(hK:K (.ret (.lit (.bool (s.testBit v)))) H):ae prog G0 47 [aL s,aa v] H K:=by
 refine ae.st (n:=10) (rs:=[.tmp 4]) func47 ?_;have s1:=fun t x y=>jm (P:=prog) (t:=t) (x:=x) (y:=y) (k':=.i64) (s:=v) hs;have s2:=fun t x y=>pf (P:=prog) (t:=t) (x:=x) (y:=y) (s:=v) hs;cases hb:s.testBit v
 ·rw[hb]at hK;simp only[go_sem,s1,s2,hb];exact aj.mk ZJ hK
 ·rw[hb]at hK;simp only[go_sem,s1,s2,hb];exact aj.mk ZJ hK
def dQ (s n:Nat):List Int:=((List.range n).filter fun v=>s.testBit v).map fun (v:Nat)=>(v:Int)
def RP (s n:Nat):dQ s (n+1)=if s.testBit n=true then dQ s n++[(n:Int)] else dQ s n:=by
 unfold dQ;rw[VX,WY,V8];by_cases h:s.testBit n=true
 ·rw[Vh h];simp[h]
 ·rw[Vg h];simp[h]
def lE {s:Nat}{q:Int}:q∈dQ s n↔∃v:Nat,q=v/\v<n/\s.testBit v=true:=by
 unfold dQ;simp only[Vu,Xa,Vs];exact⟨fun ⟨v,⟨h1,h2⟩,h3⟩=>⟨v,h3.symm,h1,h2⟩,fun ⟨v,h1,h2,h3⟩=>⟨v,⟨h2,h3⟩,h1.symm⟩⟩
def Ag (s n:Nat):(dQ s n).Pairwise (·<·):=by
 unfold dQ;refine List.Pairwise.map _ (R:=(·<·)) (fun a b h=>V) ?_;exact List.Pairwise.filter _ List.pairwise_lt_range
def EY (s n:Nat):(dQ s n).length<=n:=by
 unfold dQ;rw[VA];exact VM (YH _ _) (ZG)
def EZ (s:Nat)(hs:s<2 ^ 64)(H:ZK)(K:ZQ->ZK->Prop)(hK:K (.ret (af (dQ s 8))) H):ae prog G0 37 [aL s] H K:=by
 refine ae.X ⟨_,func37,rfl,rfl⟩ fun hcl=>?_;refine ae.st (n:=17) (rs:=[.tmp 2]) func37 ?_;simp only[go_sem];refine W.aS 65528 (by rfl) (fun ρ H'=>∃k:Nat,ρ 4=aa k/\k<=8/\ZP H H'/\aI H.A H' 3 (ρ 3) (ints (dQ s k))) (fun ρ H=>8-(iv (ρ 4)).toNat) ?_ ?_
 ·simp only[go_sem];exact⟨0,rfl,V,.refl _,.nil⟩
 rintro ρ H' ⟨k,h4,hk,ov,h3⟩;refine W.en (fun E=>E 0=aL s /\ E 3=ρ 3 /\ E 4=aa k) (by simp only[go_sem,h4]) fun E ⟨e0,e3,e4⟩=>?_
 refine W.vs ?_;by_cases hb:(k:Int)<8
 ·have w1:=Vd ((k:Int)+1) V;have hbl:=EY s k;have hsu:=RP s k;simp only[go_sem,e0,e4,hb];refine ak.X (RO s k hs _ _ ⟨trivial,?_⟩);by_cases hbit:s.testBit k=true
  ·obtain⟨v',H2,hA,ov2,hO,hn2,_⟩:=mD (k:Int) ov h3 V;rw[Vh hbit]at hsu;simp only[go_sem,e3,e4,hbit,w1,hA];exact⟨by have:=ov2.A;omega,⟨k+1,rfl,V,ov2,by rw[hsu];exact hO⟩,by rw[h4];simp only[aa,bf];omega⟩
  ·rw[Vg hbit]at hsu;have hbf:s.testBit k=false:=(by simpa using hbit);simp only[go_sem,e3,e4,hbf,w1];exact⟨ov.A,⟨k+1,rfl,V,ov,by rw[hsu];exact h3⟩,by rw[h4];simp only[aa,bf];omega⟩
 ·obtain rfl:k=8:=V
  simp only[go_sem,e3,e4];exact aj.bB aF hcl ov (h3.iB fun i hi=>hi) hK
def Ah:ZL->Nat
 |.U _ _ _ n _=>n
 |_=>0
def wD {v:ZL}{cs:List ZL}(h:aI lo H e v cs):Ah v=cs.length:=by
 rcases h with ⟨rfl,rfl⟩|⟨_,_,_,_,rfl,_⟩<;>rfl
def Ai (d:ZN):List ZL:=[.lit (.int .i64 d.Z),.Q d.C.length (bh d.C),.lit (.int .u64 (d.nl:Int)),.Q d.Y.length (bA d.Y)]
def nr (d:ZN):ZL:=.agg (Ai d)
def RQ (d:ZN):nr d=.agg (Ai d):=rfl
def RU (g:Int)(ns:List ZM)(hl:(ns.length:Int)<2 ^ 39)(hp:∀x∈ns,(x.F.length:Int)<2 ^ 39/\∀q∈x.F,0<=q/\q<64)(H:ZK)(K:ZQ->ZK->Prop)
  (hK:∀v H',ZP H H'->aI H.A H' 34 v ((aB ns).map aL)->K (.ret v) H'):ae prog G0 36 [eZ g ns] H K:=by
 refine ae.X ⟨_,func36,rfl,rfl⟩ fun hcl=>?_;refine ae.st (n:=43) (rs:=[.tmp 2]) func36 ?_;simp only[go_sem,eZ,eQ];obtain⟨H1,hH1⟩:∃H1,H1=ext H [.J 0 90 [.lit (.int .i64 g),.Q ns.length (aG ns)]]:=⟨_,rfl⟩
 have l1:H1.na H.A 0=some (90,[.lit (.int .i64 g),.Q ns.length (aG ns)]):=by rw[hH1];exact ag (cL ..)
 have n1:H1.A=H.A+1:=hH1▸rfl
 have o1:ZP H H1:=hH1▸.ext _ _
 rw[<- hH1];refine W.aS 4398046511096 (by rfl) (fun ρ H'=>∃k:Nat,ρ 4=aa k/\k<=ns.length/\ρ 1=.O H.A 0 0/\ZP H1 H'/\aI H1.A H' 34 (ρ 3) (((aB ns).take k).map aL)) (fun ρ H=>ns.length-(iv (ρ 4)).toNat) ?_ ?_
 ·simp only[go_sem];exact⟨0,rfl,V,.refl _,.nil⟩
 rintro ρ H' ⟨k,h4,hk,h1,ov,h3⟩;refine W.vs ?_;have l2:=(ov.na (g:=0) (by omega:H.A<H1.A)).trans l1;by_cases hb:(k:Int)<ns.length
 ·obtain⟨x,hx⟩:=ay (l:=ns) (i:=k) V;have hne:=fQ hx;have e1:=mW hx;obtain⟨xl,xr⟩:=hp x (an hx);simp only[go_sem,h4,h1,l2,hb];refine W.aS 274877890656 (by rfl) (fun ρ' H2=>H2=H'/\∃j:Nat,ρ' 6=aa j/\j<=x.F.length/\ρ' 5=aL (bF (x.F.take j))) (fun ρ' H=>x.F.length-(iv (ρ' 6)).toNat) ?_ ?_
  ·simp only[go_sem];exact⟨0,rfl,V,rfl⟩
  rintro ρ' H2 ⟨rfl,j,h6,hj,h5⟩;refine W.vs ?_;by_cases hb2:(j:Int)<x.F.length
  ·obtain⟨q,hq⟩:=ay (l:=x.F) (i:=j) V;obtain⟨q0,q1⟩:=xr q (an hq);obtain⟨u,rfl⟩:=Vm q0;have hne2:=aZ hq;have w1:=VK (u:Int) V;have w2:=Vd ((j:Int)+1) V;have b1:bF (x.F.take j)<2 ^ 64:=lh fun p hp=>by have:=xr p (VE hp);omega
   have s1:=fun t x y=>lP (P:=prog) (t:=t) (x:=x) (y:=y) (k':=.u64) (s:=u) V;have s2:=fun t x y=>j5 (P:=prog) (t:=t) (x:=x) (y:=y) (b:=2 ^ u) b1 (Ww ZH V);simp only[go_sem,h4,h1,l2,hb,hne,e1,h6,h5,hb2,hq,hne2,w1,w2,s1,s2];exact⟨⟨j+1,ZG,V,by rw[bd hq,vY];rfl⟩,V⟩
  ·obtain⟨v',H3,hA,ov2,hO,hn2,_⟩:=F1 (bF x.F) ov h3 (by simp[aB];omega);have w1:=Vd ((k:Int)+1) V;rw[Vi V]at h5;simp only[go_sem,h4,h1,l2,hb,hne,e1,h6,h5,hb2,w1,hA];refine⟨by have:=ov2.A;omega,⟨k+1,ZG,V,ov2,?_⟩,V⟩;rw[bd (kI hx)];exact hO
 ·simp only[go_sem,h4,h1,l2,hb];rw[Vi (by simp[aB];omega)]at h3;exact aj.mk (o1.trans ov).A (hK _ _ (o1.trans ov) (h3.ng V ZJ fun _ _ _ _ _ _=>rfl))
def RV (ps:List Nat)(hl:ps.length<=60)(hp:∀p∈ps,p<2 ^ 64)(r:List Nat)(htp:fD ps=some r)(H:ZK)(K:ZQ->ZK->Prop)(hK:∀v H',ZP H H'->aI H.A H' 3 v (ints (aE r))->K (.ret v) H'):ae prog G0 78 [jk ps] H K:=by
 refine ae.X ⟨_,func78,rfl,rfl⟩ fun hcl=>?_;refine ae.st (n:=40) (rs:=[.tmp 2]) func78 ?_;simp only[go_sem];refine W.aS 549755813880 (by rfl) (fun ρ H'=>∃(out:List Nat) (done:Nat),ρ 4=aL done/\done<2 ^ 64/\out.length<=ps.length/\ZP H H'/\aI H.A H' 3 (ρ 3) (ints (aE out))/\ic ps (ps.length-out.length) out done=some r) (fun ρ H=>ps.length-Ah (ρ 3)) ?_ ?_
 ·simp only[go_sem];exact⟨[],0,rfl,ZH,ZG,.refl _,.nil,htp⟩
 rintro ρ H' ⟨out,done,h4,hd,ho,ov,h3,ht⟩;refine W.en (fun E=>E 0=jk ps /\ E 3=ρ 3 /\ E 4=aL done) (by simp only[go_sem,h4]) fun E ⟨e0,e3,e4⟩=>?_
 refine W.vs ?_;have hlen:=wA h3 (d:=some (.slice 3)) rfl;have hol:=wD h3;have nl:(aE out).length=out.length:=by simp[aE]
 rw[rf,bD,nl]at hlen;rw[bD,nl]at hol;by_cases hb:(out.length:Int)<ps.length
 ·simp only[go_sem,e0,e3,hlen,hb];have hk1:ps.length-out.length=(ps.length-(out.length+1))+1:=V
  refine W.aS 549755811896 (by rfl) (fun ρ2 H2=>H2=H'/\∃j:Nat,ρ2 5=aa j/\j<=ps.length/\ρ2 3=ρ 3/\ρ2 4=aL done/\∀v,v<j->jS ps done v=false) (fun ρ2 H=>ps.length-(iv (ρ2 5)).toNat) ?_ ?_
  ·simp only[go_sem,e3,e4];exact⟨0,rfl,V,fun v h=>absurd h (Vt _)⟩
  rintro ρ2 H2 ⟨rfl,j,h5,hj,h3',h4',hno⟩;refine W.en (fun E2=>E2 0=jk ps /\ E2 3=ρ 3 /\ E2 4=aL done /\ E2 5=aa j) (by simp only[go_sem,e0,h3',h4',h5]) fun E2 ⟨f0,f3,f4,f5⟩=>?_
  refine W.vs ?_;by_cases hb2:(j:Int)<ps.length
  ·obtain⟨p,hpj⟩:=ay (l:=ps) (i:=j) V;have hpj':(ps.map aL)[j]?=some (aL p):=(by rw[List.getElem?_map,hpj];rfl);have hne:=aZ hpj';have s3:=fun t x y=>pe (P:=prog) (t:=t) (x:=x) (y:=y) (a:=p) (b:=done);have w1:=Vd ((j:Int)+1) V;have w2:=VK (j:Int) V;have cont:jS ps done j=false->∀v,v<j+1->jS ps done v=false:=fun h v hv=>by
    rcases VC v j with h'|h'
    ·exact hno v h'
    ·obtain rfl:v=j:=V;exact h
   have fe:jS ps done j=(!done.testBit j && decide (eE p done=0)):=(by unfold jS;rw[bI hpj]);simp only[go_sem,f0,f4,f5,hb2];refine ak.X (Tj done j hd V _ _ ⟨trivial,?_⟩);cases hbit:done.testBit j;rotate_left
   ·simp only[go_sem,f3,f4,f5,w1];exact⟨⟨j+1,rfl,V,cont (by rw[fe,hbit];rfl)⟩,by rw[h5];simp only[aa,bf];omega⟩
   by_cases hz:eE p done=0;rotate_left
   ·have hz':¬((eE p done:Nat):Int)=0:=V;simp only[go_sem,f0,f3,f4,f5,hb2,hpj',hne,s3,hz',w1];exact⟨⟨j+1,rfl,V,cont (by rw[fe,hbit];simp[hz])⟩,by rw[h5];simp only[aa,bf];omega⟩
   have hz':((eE p done:Nat):Int)=0:=V;have hnx:kr ps done=some j:=F7 V hno (by rw[fe,hbit];simp[hz]);obtain⟨v',H3,hA,ov2,hO,hn2,_⟩:=mD (j:Int) ov h3 (by simp[aE];omega);have b2:(2:Nat) ^ j<2 ^ 64:=Ww ZH V;have s4:=fun t x y=>lP (P:=prog) (t:=t) (x:=x) (y:=y) (k':=.u64) (s:=j) V;have s5:=fun t x y=>j5 (P:=prog) (t:=t) (x:=x) (y:=y) hd b2;simp only[go_sem,f0,f3,f4,f5,hb2,hpj',hne,s3,s4,s5,hz',w2,hA];have hO':aI H.A H3 3 v' (ints (aE (out++[j]))):=by
    have e:aE (out++[j])=aE out++[(j:Int)]:=(by simp[aE]);rw[e];exact hO
   have hol':=wD hO';have nl':(aE (out++[j])).length=out.length+1:=(by simp[aE]);rw[bD,nl']at hol';refine⟨ov2.A,⟨out++[j],done |||2 ^ j,rfl,WR hd b2,by simp;omega,ov2,hO',?_⟩,by rw[hol,hol'];omega⟩;rw[<- ht,hk1]
   conv=>rhs;unfold ic
   rw[hnx,List.length_append];rfl
  ·have hnn:kr ps done=none:=F8 fun v hv=>hno v V;rw[hk1]at ht;unfold ic at ht;rw[hnn]at ht;cases ht
 ·simp only[go_sem,e0,e3,hlen,hb];have e:ps.length-out.length=0:=V
  rw[e]at ht;unfold ic at ht;cases ht;exact aj.mk ov.A (hK _ _ ov h3)
def RW {v:ZL}{l:List Nat}(h:aI lo H e v (l.map aL)):Z6 H v (jk l):=by
 rcases h with ⟨rfl,h⟩|⟨id,g,h1,h2,rfl,h4⟩
 ·have:l=[]:=by cases l with
   |nil=>rfl
   |cons a l=>simp at h
  subst this;exact .nil
 ·have e:jk l=.Q (l.map aL).length (l.map aL):=by rw[VA];rfl
  rw[e];refine .U h4 ZG fun j hj h2 h'=>?_;simp only[Nat.zero_add,Vw];exact .lit _
def RX (g:Int)(ns:List ZM)(hl:ns.length<=8)(hp:∀x∈ns,(x.F.length:Int)<2 ^ 39/\∀q∈x.F,0<=q/\q<(ns.length:Int))(r:List Nat)(htp:fD (aB ns)=some r)(H:ZK)(K:ZQ->ZK->Prop)
  (hK:∀v H',ZP H H'->aI H.A H' 3 v (ints (aE r))->K (.ret v) H'):ae prog G0 35 [eZ g ns] H K:=by
 have hsl:(aB ns).length=ns.length:=by simp[aB]
 have hs64:∀p∈aB ns,p<2 ^ 64:=fun p h=>Vn (sh (n:=ns.length) (fun x hx q hq=>(hp x hx).2 q hq) p h) (Vr ZH V);refine ae.st (n:=6) (rs:=[.tmp 2]) func35 ?_;simp only[go_sem,eZ,eQ];refine ak.X (Tk g ns V (fun x hx=>⟨(hp x hx).1,fun q hq=>by have:=(hp x hx).2 q hq;omega⟩) _ _ ⟨trivial,?_⟩);simp only[go_sem];refine ak.X (RV (aB ns) V hs64 r htp _ _ fun v H' ov ho=>⟨trivial,?_⟩);simp only[go_sem];have o1:ZP H H':=(ZP.ext _ _).trans ov;exact aj.mk o1.A (hK _ _ o1 (ho.ng (by simp[aW]) ZJ fun _ _ _ _ _ _=>rfl))
structure UtD where
 vars:Int
 w:List Int
def I8 (n:Int):Prop:=-128<=n/\n<128
def pZ (l:List Int):List ZL:=l.map fun n=>.lit (.int .i8 n)
def RS {a:Int}(h:l[k]?=some a):(pZ l)[k]?=some (.lit (.int .i8 a)):=by unfold pZ;rw[List.getElem?_map,h];rfl
def UtD.cells (x:UtD):List ZL:=[.lit (.int .u8 x.vars),.Q x.w.length (pZ x.w)]
def UtD.Ok (x:UtD):Prop:=U8 x.vars/\(x.w.length:Int)<2 ^ 63/\∀b∈x.w,I8 b
def wE (p:Int)(k:Nat):Bool:=decide (IntKind.u8.wrap (((BitVec.ofInt IntKind.u8.bits (p.fdiv (2 ^ (min ((k:Int)).toNat IntKind.u8.bits))) &&& BitVec.ofInt IntKind.u8.bits 1).toNat:Nat):Int)=1)
def eG (p:Int):Nat->List Int
 |0=>[]
 |v+1=>if wE p v=true/\(eG p v).length<3 then eG p v++[(v:Int)] else eG p v
theorem wG (p:Int):∀n:Nat,(eG p n).Pairwise (·<·)/\(∀q∈eG p n,0<=q/\q<n)/\(eG p n).length<=3
 |0=>⟨by simp[eG],by simp[eG],by simp[eG]⟩
 |n+1=>by
  obtain⟨h1,h2,h3⟩:=wG p n;unfold eG;split
  ·rename_i h;refine⟨Xj.2 ⟨h1,ZG,fun a ha b hb=>by obtain rfl:=List.mem_singleton.1 hb;exact(h2 a ha).2⟩,fun q hq=>?_,by simp;omega⟩;rcases VH.1 hq with h4|h4
   ·have:=h2 q h4;omega
   ·obtain rfl:=List.mem_singleton.1 h4;omega
  ·exact⟨h1,fun q hq=>by have:=h2 q hq;omega,h3⟩
def fu (p:UtD)(ns:List ZM):ZY:=⟨eG p.vars ns.length,(List.range (aC (aK (au ns) (eG p.vars ns.length))).toNat).map fun (i:Nat)=>if p.w.length=0 then 0 else (p.w.getD (i % p.w.length) 0).tmod 101⟩
def RT (p:UtD)(ns:List ZM)(hc:∀x∈ns,1<=x.L):nnl ns (fu p ns):=by
 obtain⟨h1,h2,h3⟩:=wG p.vars ns.length;refine⟨⟨h1,h2⟩,?_,fun x hx=>?_⟩
 ·have hp:1<=aC (aK (au ns) (eG p.vars ns.length)):=fX fun c h=>by
   unfold aK at h;obtain⟨q,hq,rfl⟩:=Vu.1 h;have:=h2 q hq;obtain⟨x,hx⟩:=ay (l:=ns) (i:=q.toNat) V;rw[bI (cS hx)];exact hc x (an hx)
  show ((List.map _ _).length:Int)=aC (aK (au ns) (eG p.vars ns.length));rw[VA,WT];omega
 ·unfold fu at hx;obtain⟨i,_,rfl⟩:=Vu.1 hx;split
  ·omega
  ·have h:=Y7 (p.w.getD (i % p.w.length) 0) 101;have h2:=XU (p.w.getD (i % p.w.length) 0).natAbs (show (101:Int).natAbs > 0 by decide);have h3:(101:Int).natAbs=101:=rfl;rw[h3]at h h2;omega
def RY (p:UtD)(hp:p.Ok)(g:Int)(ns:List ZM)(h5:1<=ns.length/\ns.length<=8)(hc:∀x∈ns,1<=x.L/\x.L<=4)(H:ZK)(K:ZQ->ZK->Prop)
  (hK:∀v1 v2 H',ZP H H'->aI H.A H' 3 v1 (ints (fu p ns).vars)->aI H.A H' 3 v2 (ints (fu p ns).w)->K (.ret (.agg [v1,v2])) H'):ae prog G0 38 [.agg p.cells,eZ g ns] H K:=by
 refine ae.st (n:=70) (rs:=[.cell 4 87]) func38 ?_;simp only[go_sem,eZ,eQ,UtD.cells];obtain⟨H1,hH1⟩:∃H1,H1=ext H [.J 0 98 [.lit (.int .u8 p.vars),.Q p.w.length (pZ p.w)],.J 0 90 [.lit (.int .i64 g),.Q ns.length (aG ns)],.J 0 87 [.lit (.slice none 0 0),.lit (.slice none 0 0)],.J 0 87 [.lit (.slice none 0 0),.lit (.slice none 0 0)]]:=⟨_,rfl⟩
 have g0:=dh hH1
 have g1:=gE hH1 1 rfl
 have g2:=gE hH1 2 rfl
 have g3:=gE hH1 3 rfl
 have n1:H1.A=H.A+4:=hH1▸rfl
 have o1:ZP H H1:=hH1▸.ext _ _
 rw[<- hH1];clear hH1;obtain⟨cs,hcs⟩:∃cs,cs=au ns:=⟨_,rfl⟩
 have smk:∀k,k<=ns.length->fb (aK cs (eG p.vars k)):=fun k hk=>by
  obtain⟨h1,h2,h3⟩:=wG p.vars k;refine se (by rw[jj];omega) fun c h=>?_;unfold aK at h;obtain⟨q,hq,rfl⟩:=Vu.1 h;have:=h2 q hq;obtain⟨x,hx⟩:=ay (l:=ns) (i:=q.toNat) V;rw[hcs,bI (cS hx)];exact hc x (an hx)
 refine W.aS 8796093021376 (by rfl) (fun ρ Hx=>∃(k:Nat) (v1:ZL),ρ 7=aa k/\k<=ns.length/\ρ 6=aa (aC (aK cs (eG p.vars k)))/\H1.A<=Hx.A/\(∀id,id<H1.A->id≠H.A+3->Hx.get id=H1.get id)/\Hx.get (H.A+3)=some (.J 0 87 [v1,.lit (.slice none 0 0)])/\aI H1.A Hx 3 v1 (ints (eG p.vars k))) (fun ρ H=>ns.length-(iv (ρ 7)).toNat) ?_ ?_
 ·simp only[go_sem];exact⟨0,_,rfl,V,rfl,g3,.nil⟩
 rintro ρ Hx ⟨k,v1,h7,hk,h6,hnx,hold,hu,hO⟩;refine W.en (fun E=>E 2=.O H.A 0 0 /\ E 3=.O (H.A+1) 0 0 /\ E 4=.O (H.A+2) 0 0 /\ E 5=.O (H.A+3) 0 0 /\ E 6=aa (aC (aK cs (eG p.vars k))) /\ E 7=aa k) (by simp only[go_sem,h6,h7]) fun E ⟨e2,e3,e4,e5,e6,e7⟩=>?_
 refine W.vs ?_;have l0:=ag ((hold _ V V).trans g0);have l1:=ag ((hold _ V V).trans g1);have l3:=ag hu;by_cases hb:(k:Int)<ns.length
 ·obtain⟨x,hx⟩:=ay (l:=ns) (i:=k) V;have hne:=fQ hx;have c0:=mV hx;have w1:=Vd ((k:Int)+1) V;obtain⟨r1,hr1⟩:∃r1,p.vars.fdiv (2 ^ (min ((k:Int)).toNat IntKind.u8.bits))=r1:=⟨_,rfl⟩
  obtain⟨r2,hr2⟩:∃r2,IntKind.u8.wrap (((BitVec.ofInt IntKind.u8.bits r1 &&& BitVec.ofInt IntKind.u8.bits 1).toNat:Nat):Int)=r2:=⟨_,rfl⟩
  have s1:∀t o1 o2,aU prog .shr t o1 o2 (.lit (.int .u8 p.vars)) (.lit (.int .i64 (k:Int)))=some (.lit (.int .u8 r1)):=fun t o1 o2=>by rw[su V,hr1]
  have s2:∀t o1 o2,aU prog .and t o1 o2 (.lit (.int .u8 r1)) (.lit (.int .u8 1))=some (.lit (.int .u8 r2)):=fun t o1 o2=>by rw[qt,hr2]
  have hb8:wE p.vars k=decide (r2=1):=by unfold wE;rw[hr1,hr2]
  have hlen:=wA hO (d:=some (.slice 3)) rfl;rw[rf,bD]at hlen;obtain⟨u1,u2,u3⟩:=wG p.vars k;have hstep:eG p.vars (k+1)=if wE p.vars k=true/\(eG p.vars k).length<3 then eG p.vars k++[(k:Int)] else eG p.vars k:=rfl
  by_cases hr:r2=1
  ·by_cases h3:((eG p.vars k).length:Int)<3
   ·rw[Vh ⟨by rw[hb8,VD hr],V⟩]at hstep;obtain⟨v',H3,hA,hO3,hn3,hp3⟩:=jv (P:=prog) (H:=Hx) (t:=72) (x:=aa k) (n:=Hx.A+1) Tryz.underlying72 Tryz.fC Tryz.fm rfl (by rw[Tryz.fV,bD];omega) hO hnx rfl;simp only[aa]at hA;have ng:∀id,id<H1.A->H3.get id=Hx.get id:=fun id h=>hp3 id V (hO.ne h);have l1j:=ag ((ng _ V).trans ((hold _ V V).trans g1));have l3j:=ag ((ng _ V).trans hu);have hvc:=hO3.cells;have hvo:=hO3.one;have l1u:∀b,(H3.upd (H.A+3) b).na (H.A+1) 0=some (90,[.lit (.int .i64 g),.Q ns.length (aG ns)]):=fun b=>(lQ V).trans l1j;have hpr:aC (aK cs (eG p.vars (k+1)))=aC (aK cs (eG p.vars k))*x.L:=by
     rw[hstep];unfold aK;rw[V8,hcs];show aC (_++[(au ns).getD ((k:Int)).toNat 0])=_;rw[jh,Int.toNat_natCast,bI (cS hx)]
    have hps:=(smk (k+1) V).prod;rw[hpr]at hps;have w2:=Vd (aC (aK cs (eG p.vars k))*x.L) V;simp only[go_sem,e2,e3,e5,e6,e7,l0,l1,l3,l3j,hb,s1,s2,hr,hlen,h3,w1,w2,hne,c0,hA,hvc,hvo,l1u];refine⟨by rw[aQ];omega,⟨k+1,v',rfl,V,by rw[hpr],by rw[aQ];omega,fun id h1 h2=>by rw[ah,Vg h2,ng _ h1];exact hold id h1 h2,by rw[ah,Vh rfl],?_⟩,by rw[h7];simp only[aa,bf];omega⟩;rw[hstep];have:=hO3.ng (lo':=H1.A) (H':=H3.upd (H.A+3) (.J 0 87 [v',.lit (.slice none 0 0)])) ZJ ZJ fun id _ h1 _ _ _=>by rw[ah,Vg V]
    simpa[ints,aa] using this
   ·rw[Vg V]at hstep;simp only[go_sem,e2,e3,e5,e6,e7,l0,l1,l3,hb,s1,s2,hr,hlen,h3,w1];exact⟨hnx,⟨k+1,v1,rfl,V,by rw[hstep],hnx,hold,hu,by rw[hstep];exact hO⟩,by rw[h7];simp only[aa,bf];omega⟩
  ·rw[Vg (by rw[hb8,V7 hr];simp)]at hstep;simp only[go_sem,e2,e3,e6,e7,l0,l1,hb,s1,s2,hr,w1];exact⟨hnx,⟨k+1,v1,rfl,V,by rw[hstep],hnx,hold,hu,by rw[hstep];exact hO⟩,by rw[h7];simp only[aa,bf];omega⟩
 ·have hke:k=ns.length:=V
  simp only[go_sem,e3,e7,l1,hb];rw[hke]at hO e6;obtain⟨R,hR⟩:=Vm (smk ns.length V).prod.1;have hR2:=(smk ns.length V).prod.2;rw[hR]at e6 hR2;have hwl:(fu p ns).w=(List.range R).map fun (i:Nat)=>if p.w.length=0 then 0 else (p.w.getD (i % p.w.length) 0).tmod 101:=by
   unfold fu;rw[<- hcs,hR];rfl
  have wget:∀(i:Nat) (x:Int),i<R->(if p.w.length=0 then 0 else (p.w.getD (i % p.w.length) 0).tmod 101)=x->(fu p ns).w[i]?=some x:=fun i x hi hx=>by
   rw[hwl,List.getElem?_map,VR hi,Option.map_some,hx]
  have wlen:(fu p ns).w.length=R:=by rw[hwl];simp
  refine W.aS 590295801562612630272 (by rfl) (fun ρ H2=>∃(i:Nat) (v2:ZL),ρ 8=aa i/\i<=R/\Hx.A<=H2.A/\(∀id,id<Hx.A->id≠H.A+3->H2.get id=Hx.get id)/\H2.get (H.A+3)=some (.J 0 87 [v1,v2])/\aI Hx.A H2 3 v2 (ints ((fu p ns).w.take i))) (fun ρ H=>R-(iv (ρ 8)).toNat) ?_ ?_
  ·simp only[go_sem];exact⟨0,_,rfl,V,hu,.nil⟩
  rintro ρ2 H2 ⟨i,v2,h8,hi,hn2,hold2,hu2,hO2⟩;refine W.en (fun E2=>E2 2=.O H.A 0 0 /\ E2 4=.O (H.A+2) 0 0 /\ E2 5=.O (H.A+3) 0 0 /\ E2 6=aa R /\ E2 8=aa i) (by simp only[go_sem,e2,e4,e5,e6,h8]) fun E2 ⟨f2,f4,f5,f6,f8⟩=>?_
  refine W.vs ?_;have o02:∀id,id<H1.A->id≠H.A+3->H2.get id=H1.get id:=fun id h1 h2=>(hold2 id V h2).trans (hold id h1 h2);have m0:=ag ((o02 _ V V).trans g0);have m3:=ag hu2;by_cases hb2:(i:Int)<R
  ·have w1:=Vd ((i : Int)+1) V;have hlen:=wA hO2 (d:=some (.slice 3)) rfl;rw [rf,bD] at hlen;have tl : ((fu p ns).w.take i).length=i:=(by rw [Vv,wlen];omega);have app : ∀ x : Int,(fu p ns).w[i]?=some x→∃ v' H3,bS prog (ext H2 [.J 0 3 [.lit (.int .i64 x)]]) (H2.A+1) 72 72 v2 (.U H2.A 0 0 1 1)=some (v',H3)∧v'.cells=[v']∧v'.one=true∧H3.na (H.A+3) 0=some (87,[v1,v2])∧H2.A≤H3.A ∧
     ∀b,b=.J 0 87 [v1,v']->(∀id,id<Hx.A->id≠H.A+3->(H3.upd (H.A+3) b).get id=Hx.get id)/\(H3.upd (H.A+3) b).get (H.A+3)=some (.J 0 87 [v1,v'])/\aI Hx.A (H3.upd (H.A+3) b) 3 v' (ints ((fu p ns).w.take (i+1))):=fun x hx=>by
    obtain⟨v',H3,hA,hO3,hn3,hp3⟩:=jv (P:=prog) (H:=H2) (t:=72) (x:=aa x) (n:=H2.A+1) Tryz.underlying72 Tryz.fC Tryz.fm rfl (by rw[Tryz.fV,bD];omega) hO2 hn2 rfl;simp only[aa]at hA;have ng:∀id,id<Hx.A->H3.get id=H2.get id:=fun id h=>hp3 id V (hO2.ne h);refine⟨v',H3,hA,hO3.cells,hO3.one,ag ((ng _ V).trans hu2),hn3,fun b hb=>⟨fun id h1 h2=>by rw[ah,Vg h2,ng _ h1];exact hold2 id h1 h2,by rw[ah,Vh rfl,hb],?_⟩⟩;rw[bd hx];have:=hO3.ng (lo':=Hx.A) (H':=H3.upd (H.A+3) b) ZJ ZJ fun id _ h1 _ _ _=>by rw[ah,Vg V]
    simpa[ints,aa] using this
   by_cases hz:(0:Int)<p.w.length
   ·have hzn:¬(p.w.length:Int)=0:=V;have m1:(i:Int).tmod p.w.length=((i % p.w.length:Nat):Int):=(by rw[VV V];rfl);have m2:=XU i (show p.w.length > 0 by omega);obtain⟨q,hq⟩:∃q,q=i % p.w.length:=⟨_,rfl⟩
    rw[<- hq]at m1 m2;have hq0:(q:Int) >= 0:=V;have hql:(q:Int)<p.w.length:=V;obtain⟨b,hbg⟩:=ay (l:=p.w) (i:=q) m2;have b8:=hp.2.2 b (an hbg);have hbg':=RS hbg;have hbne:=aZ hbg';unfold I8 at b8;have w4:IntKind.i64.wrap b=b:=Vd _ V;have tb:-9223372036854775808<=b.tmod 101/\b.tmod 101<9223372036854775808:=by
     have h:=Y7 b 101;have h2:=XU b.natAbs (show (101:Int).natAbs > 0 by decide);have h3:(101:Int).natAbs=101:=rfl;rw[h3]at h h2;omega
    have w5:IntKind.i64.wrap (b.tmod 101)=b.tmod 101:=Vd _ V;obtain⟨v',H3,hA,hvc,hvo,l3,hn3,fin⟩:=app (b.tmod 101) (wget i _ V (by rw[Vg V,<- hq,bI hbg]));simp only[go_sem,f2,f6,f8,m0,hb2,hz];refine W.dr 7 [0,1,0,0,8,24,60] mixed ?_;simp only[go_sem,f2,f5,f8,m0,m3,hzn,m1,hq0,hql,hbg',hbne,w1,w4,hA,hvc,hvo,l3];refine⟨by rw[aQ];omega,⟨i+1,v',rfl,V,by rw[aQ];omega,(fin _ rfl).1,(fin _ rfl).2.1,(fin _ rfl).2.2⟩,by rw[h8];simp only[aa,bf];omega⟩
   ·have hzn:p.w.length=0:=V;obtain⟨v',H3,hA,hvc,hvo,l3,hn3,fin⟩:=app 0 (wget i _ V (by rw[Vh hzn]));simp only[go_sem,f2,f5,f6,f8,m0,m3,hb2,hz,w1,hA,hvc,hvo,l3];refine⟨by rw[aQ];omega,⟨i+1,v',rfl,V,by rw[aQ];omega,(fin _ rfl).1,(fin _ rfl).2.1,(fin _ rfl).2.2⟩,by rw[h8];simp only[aa,bf];omega⟩
  ·have hie:i=R:=V;have m2:=ag ((o02 _ V V).trans g2);have hO1:aI H1.A H2 3 v1 (ints (eG p.vars ns.length)):=hO.ng ZJ hn2 fun id _ h1 h3 _ _=>hold2 id h3 V;have v1o:=hO1.one;have v2o:=hO2.one;have v1c:=hO1.cells;have v2c:=hO2.cells;rw[Vi V]at hO2;simp only[go_sem,f4,f5,f6,f8,m2,m3,hb2,v1o,v2o];have k1:=hO1.ng (lo':=H.A) (H':=H2.upd (H.A+2) (.J 0 87 [v1,v2])) V (by rw[aQ];omega) fun id _ h1 _ _ _=>by rw[ah,Vg V]
   have k2:=hO2.ng (lo':=H.A) (H':=H2.upd (H.A+2) (.J 0 87 [v1,v2])) V (by rw[aQ];omega) fun id _ h1 _ _ _=>by rw[ah,Vg V]
   refine aj.mk (by rw[aQ];omega) (hK v1 v2 _ ⟨by rw[aQ];omega,fun id h=>?_⟩ k1 k2);rw[ah,Vg V,o02 id V V];exact o1.nf id h
structure TopoR (ps:List Nat)(r:List Nat):Prop where
 len:r.length=ps.length
 nd:r.Nodup
 np:∀v∈r,v<ps.length
 rk:∀(i v:Nat),r[i]?=some v->∀u,(ps.getD v 0).testBit u=true->∃j,j<i/\r[j]?=some u
def Rm (hp:∀p∈ps,p<2 ^ 64):∀(k:Nat) (out:List Nat) (done:Nat) (r:List Nat),ic ps k out done=some r->(∀i,done.testBit i=true↔i∈out)->out.Nodup->(∀v∈out,v<ps.length)->(∀(i v:Nat),out[i]?=some v->∀u,(ps.getD v 0).testBit u=true->∃j,j<i/\out[j]?=some u) ->
  r.length=out.length+k/\r.Nodup/\(∀v∈r,v<ps.length)/\(∀(i v:Nat),r[i]?=some v->∀u,(ps.getD v 0).testBit u=true->∃j,j<i/\r[j]?=some u):=by
 intro k
 induction k with
 |zero =>
  intro out done r h h1 h2 h3 h4;unfold ic at h;cases h;exact⟨rfl,h2,h3,h4⟩
 |succ k ih =>
  intro out done r h h1 h2 h3 h4;unfold ic at h;cases hn:kr ps done with
  |none=>rw[hn]at h;cases h
  |some v =>
   rw[hn]at h;obtain⟨a,b,c⟩:=v9 hp hn;have hvo:v ∉ out:=fun hm=>by rw[(h1 v).2 hm]at b;cases b
   obtain⟨e1,e2,e3,e4⟩:=ih (out++[v]) (done |||2 ^ v) r h (fun i=>by
    rw[gM,VH,List.mem_singleton,VN,h1,decide_eq_true_eq];exact or_congr Iff.rfl eq_comm) (Xp.2 ⟨h2,ZG,fun x hx y hy=>by obtain rfl:=List.mem_singleton.1 hy;rintro rfl;exact hvo hx⟩) (fun x hx=>by
    rcases VH.1 hx with hx|hx
    ·exact h3 x hx
    ·obtain rfl:=List.mem_singleton.1 hx;exact a) (fun i x hx u hu=>by
    have hl:=aO hx;rw[List.length_append,Wh]at hl;rcases VC i out.length with hi|hi
    ·rw[Vx hi]at hx;obtain⟨j,j1,j2⟩:=h4 i x hx u hu;exact⟨j,j1,by rw[Vx V];exact j2⟩
    ·obtain rfl:i=out.length:=V;simp only[Y4,Option.some.injEq]at hx;subst hx;obtain⟨j,hj⟩:=Vl.1 ((h1 u).1 (c u hu));exact⟨j,aO hj,by rw[Vx (aO hj)];exact hj⟩)
   exact⟨by rw[e1,List.length_append,Wh];omega,e2,e3,e4⟩
def EG (hp:∀p∈ps,p<2 ^ 64)(h:fD ps=some r):TopoR ps r:=by
 obtain⟨e1,e2,e3,e4⟩:=Rm hp ps.length [] 0 r h (fun i=>ZG) ZG ZG ZG;exact⟨by simpa using e1,e2,e3,e4⟩
def EI:∀(n:Nat) (l:List Nat),l.Nodup->(∀v∈l,v<n)->l.length<=n:=by
 intro n
 induction n with
 |zero=>intro l _ h;cases l with
  |nil=>simp
  |cons a l=>exact absurd (h a ZG) (Vt _)
 |succ n ih =>
  intro l hd h;have h1:=ih (l.erase n) (hd.erase n) fun v hv=>by
   have h2:=(hd.mem_erase_iff).1 hv;have:=h v h2.2;omega
  have h3:=List.length_erase (a:=n) (l:=l);split at h3<;>omega
def mm (r:List Nat)(i v:Nat):Prop:=∃j,j<i/\r[j]?=some v
def mm.up (h:mm r i v)(hk:i<=k):mm r k v:=h.imp fun j hj=>⟨V,hj.2⟩
structure DrD (ns:List ZM)(r:List Nat)(rem:Bool)(i known nl:Nat)(os:List Nat)(ms:List ZM):Prop where
 L:au ms=au ns
 nf:∀v,nl.testBit v=false->ms[v]?=ns[v]?
 dec:∀v x,ms[v]?=some x->nl.testBit v=true->x.nb=[]/\∃s j,x.F=dQ s 8/\j<i/\r[j]?=some v/\∀u,s.testBit u=true->mm r j u
 decsb:∀v,nl.testBit v=true->mm r i v
 knownb:∀v,known.testBit v=true->mm r i v
 os3:os.length<=3
 osm:∀v,v∈os↔nl.testBit v=true
 osp:rem=true->os.Pairwise fun u v=>∀x y,ms[u]?=some x->ms[v]?=some y->Sub (bF x.F |||2 ^ u) (bF y.F)
 osk:rem=true->∀u∈os,∀x,ms[u]?=some x->Sub (bF x.F |||2 ^ u) known
def DrD.len (h:DrD ns r rem i known nl os ms):ms.length=ns.length:=by
 have:=congrArg List.length h.L;simpa[au] using this
def DrD.start (ns:List ZM)(r:List Nat)(rem:Bool):DrD ns r rem 0 0 0 [] ns :=
 ⟨rfl,fun _ _=>rfl,fun v x _ h=>by simp at h,fun v h=>by simp at h,fun v h=>by simp at h,ZG,fun v=>ZG,fun _=>.nil,fun _ u hu=>by cases hu⟩
def DrD.skip (h:DrD ns r rem i known nl os ms):DrD ns r rem (i+1) known nl os ms :=
 ⟨h.L,h.nf,fun v x hx hb=>by
  obtain⟨a,s,j,b,c,d⟩:=h.dec v x hx hb;exact⟨a,s,j,b,V,d⟩,fun v hb=>(h.decsb v hb).up V,fun v hb=>(h.knownb v hb).up V,h.os3,h.osm,h.osp,h.osk⟩
def EJ {s:Nat}(h:s<2 ^ 8):bF (dQ s 8)=s:=by
 have h0:∀p∈dQ s 8,0<=p:=fun p hp=>by obtain⟨v,rfl,_⟩:=lE.1 hp;omega
 refine VW fun i=>?_;rw[iD h0];cases hb:s.testBit i with
 |true=>exact VD (lE.2 ⟨i,rfl,mY h hb,hb⟩)
 |false =>
  refine V7 fun hm=>?_;obtain⟨v,e,_,hv⟩:=lE.1 hm;obtain rfl:i=v:=V
  rw[hb]at hv;cases hv
def EK (hr:∀v∈r,v<n)(h:mm r i v):v<n:=h.elim fun _ hj=>hr v (an hj.2)
def wu {s:Nat}(hr:∀v∈r,v<n)(h:∀v,s.testBit v=true->mm r i v):s<2 ^ n:=vZ fun v hv=>EK hr (h v hv)
def DrD.step (h:DrD ns r rem i known nl os ms)(hr:TopoR (aB ns) r)(h8:ns.length<=8)(ho:os.length<3)(hv:r[i]?=some v)(hx:ns[v]?=some x){s:Nat}(hs:Sub s (bF x.F)):
  nl.testBit v=false/\v<ns.length/\(if rem then s |||known else s)<2 ^ ns.length /\
  DrD ns r rem (i+1) (known |||(if rem then s |||known else s) |||2 ^ v) (nl |||2 ^ v) (os++[v]) (ms.set v ⟨x.L,dQ (if rem then s |||known else s) 8,[]⟩):=by
 obtain⟨s',hs'⟩:∃s',s'=(if rem then s |||known else s):=⟨_,rfl⟩
 rw[<- hs'];have hsl:(aB ns).length=ns.length:=by simp[aB]
 have hrng:=hr.np;rw[hsl]at hrng;have hvn:=hrng v (an hv);have hml:=h.len;have inj:∀j,r[j]?=some v->j=i:=fun j hj=>(Wu (aO hj) hr.nd).1 (by rw[hj,hv]);have hdv:nl.testBit v=false:=by
  cases hb:nl.testBit v with
  |false=>rfl
  |true =>
   obtain⟨j,j1,j2⟩:=h.decsb v hb;have:=inj j j2;omega
 have sb:∀u,s.testBit u=true->mm r i u:=fun u hu=>hr.rk i v hv u (by rw[bI (kI hx)];exact hs u hu);have sb':∀u,s'.testBit u=true->mm r i u:=fun u hu=>by
  rw[hs']at hu;cases rem with
  |false=>exact sb u hu
  |true =>
   rw[Vh rfl,Vy,VN]at hu;exact hu.elim (sb u) (h.knownb u)
 have hlt:=wu hrng sb';have hlt8:s'<2 ^ 8:=Vn hlt (Vr ZH h8);have selfv:(ms.set v ⟨x.L,dQ s' 8,[]⟩)[v]?=some ⟨x.L,dQ s' 8,[]⟩:=VB V;have othv:∀u,u≠v->(ms.set v ⟨x.L,dQ s' 8,[]⟩)[u]?=ms[u]?:=fun u hu=>VP (fun e=>hu e.symm);have osv:v ∉ os:=fun hm=>by rw[(h.osm v).1 hm]at hdv;cases hdv
 refine⟨hdv,hvn,hlt,⟨?_,fun u hu=>?_,fun u y hy hu=>?_,fun u hu=>?_,fun u hu=>?_,by simp;omega,fun u=>?_,fun hrem=>?_,fun hrem u hu y hy=>?_⟩⟩
 ·rw[<- h.L];unfold au;rw[X6];apply V3;intro k;rw[W1];split
  ·rename_i e;subst e;have:=h.L;have h1:(au ms)[v]?=(au ns)[v]?:=(by rw[this]);rw[Vh (by rw[VA];omega)];rw[cS hx]at h1;exact h1.symm
  ·rfl
 ·rw[gM,Bool.or_eq_false_iff,Yu]at hu;rw[othv u (fun e=>hu.2 e.symm)];exact h.nf u hu.1
 ·by_cases e:u=v
  ·subst e;rw[selfv]at hy;cases hy;exact⟨rfl,s',i,rfl,V,hv,sb'⟩
  ·rw[othv u e]at hy;rw[gM,VN,decide_eq_true_eq]at hu;obtain⟨a,s2,j,b,c,d⟩:=h.dec u y hy (hu.resolve_right fun e'=>e e'.symm);exact⟨a,s2,j,b,V,d⟩
 ·rw[gM,VN,decide_eq_true_eq]at hu;rcases hu with hu|rfl
  ·exact(h.decsb u hu).up (V)
  ·exact⟨i,V,hv⟩
 ·rw[gM,Vy,VN,VN,decide_eq_true_eq]at hu;rcases hu with (hu|hu)|rfl
  ·exact(h.knownb u hu).up (V)
  ·exact(sb' u hu).up (V)
  ·exact⟨i,V,hv⟩
 ·rw[gM,VH,List.mem_singleton,h.osm,VN,decide_eq_true_eq];exact or_congr Iff.rfl eq_comm
 ·refine Xj.2 ⟨(h.osp hrem).imp_of_mem fun {a b} ha hb hab p q hp hq=>?_,ZG,fun a ha b hb p q hp hq=>?_⟩
  ·rw[othv a (fun e=>osv (e ▸ ha))]at hp;rw[othv b (fun e=>osv (e ▸ hb))]at hq;exact hab p q hp hq
  ·obtain rfl:=List.mem_singleton.1 hb;rw[othv a (fun e=>osv (e ▸ ha))]at hp;rw[selfv]at hq;cases hq;rw[show bF (⟨x.L,dQ s' 8,[]⟩:ZM).F=s' from EJ hlt8,hs',Vh hrem];exact(h.osk hrem a ha p hp).trans (Sub.right _ _)
 ·rcases VH.1 hu with hu|hu
  ·rw[othv u (fun e=>osv (e ▸ hu))]at hy;exact((h.osk hrem u hu y hy).trans (Sub.left _ _)).trans (Sub.left _ _)
  ·obtain rfl:=List.mem_singleton.1 hu;rw[selfv]at hy;cases hy;rw[show bF (⟨x.L,dQ s' 8,[]⟩:ZM).F=s' from EJ hlt8];exact Sub.or ((Sub.right known s').trans (Sub.left _ _)) (Sub.right _ _)
structure DrI (rem:Bool)(d:ZN):Prop where
 ok:ZS d
 n5:d.C.length<=5
 nb:∀v x,d.C[v]?=some x->d.nl.testBit v=false->x.nb≠[]
 os:∃os:List Nat,os.length<=3/\(∀v,v∈os↔d.nl.testBit v=true)/\(rem=true->os.Pairwise fun u v=>∀x y,d.C[u]?=some x->d.C[v]?=some y->Sub (bF x.F |||2 ^ u) (bF y.F))
def EL (h:Z4 g ns):∀x∈ns,x.nb≠[]:=fun x hx he=>by
 have h1:=(h.nb x hx).1;have h2:=fX (l:=aT ns x) fun c hc=>(sf (fun q hq=>by have:=(h.node x hx).2.2 q hq;omega) (fun y hy=>(h.node y hy).1) c hc).1;rw[he]at h1;simp at h1;omega
def DrD.fin (h:DrD ns r rem i known nl os ms)(hn:Z4 g ns)(hr:TopoR (aB ns) r)(h5:ns.length<=5){us:List ZY}(hul:us.length<=4)(hus:∀u∈us,nnl ns u):
  DrI rem ⟨g,ms,nl,us⟩:=by
 have hsl:(aB ns).length=ns.length:=by simp[aB]
 have hrng:=hr.np;rw[hsl]at hrng;have hml:=h.len;have hdl:nl<2 ^ ns.length:=wu hrng h.decsb;have getN:∀(v:Nat) (x:ZM),ms[v]?=some x->∃y,ns[v]?=some y/\y.L=x.L:=fun v x hx=>by
  obtain⟨y,hy⟩:=ay (l:=ns) (i:=v) (by have:=aO hx;omega);refine⟨y,hy,?_⟩;have h1:(au ms)[v]?=(au ns)[v]?:=by rw[h.L]
  rw[cS hx,cS hy]at h1;exact(Option.some.inj h1).symm
 have hcard:∀x∈ms,1<=x.L/\x.L<=4:=fun x hx=>by
  obtain⟨v,hv⟩:=Vl.1 hx;obtain⟨y,hy,e⟩:=getN v x hv;rw[<- e];exact(hn.node y (an hy)).1
 have hpl:∀(v:Nat) (x:ZM),ms[v]?=some x->bW x.F ms.length:=fun v x hx=>by
  cases hb:nl.testBit v with
  |false =>
   rw[h.nf v hb]at hx;have:=(hn.node x (an hx)).2;rw[hml];exact this
  |true =>
   obtain⟨_,s,j,e,_,_,hs⟩:=h.dec v x hx hb;rw[e];refine⟨Ag _ _,fun q hq=>?_⟩;obtain⟨u,rfl,_,hu⟩:=lE.1 hq;have:=EK hrng (hs u hu);rw[hml];omega
 have hR:Z7 ⟨g,ms,nl,us⟩:=⟨by show 1<=ms.length/\ms.length<=8;rw[hml];exact hn.n1,by show nl >>> ms.length=0;rw[hml,XP];exact W6 hdl,hcard,fun v x hx hb=>⟨(h.dec v x hx hb).1,hpl v x hx⟩⟩
 have hperm:nnj ns.length (aE r):=⟨by rw[show (aE r).length=r.length by simp[aE],hr.len,hsl],by
  unfold aE;exact List.Pairwise.map _ (R:=(·≠·)) (fun a b h e=>h V) hr.nd,fun q hq=>by
  obtain⟨v,hv,rfl⟩:=Vu.1 hq;have:=hrng v hv;omega⟩
 have natg:∀(j v:Nat),(aE r)[j]?=some (v:Int)↔r[j]?=some v:=fun j v=>by
  unfold aE;rw[List.getElem?_map,Ve];exact⟨fun ⟨a,h1,h2⟩=>by rw[h1];congr 1;omega,fun h1=>⟨v,h1,rfl⟩⟩
 have hacy:jR (aB ms):=by
  refine EW (P:=aE r) (by rw[hml];exact hperm) (fun v hv=>?_) fun j v x hj hx q hq=>?_
  ·refine VZ fun hno=>?_;rw[hml]at hv;have hsub:(v :: r).length<=ns.length:=by
    have hnd:(v :: r).Nodup:=W9.2 ⟨fun hm=>hno (Vu.2 ⟨v,hm,rfl⟩),hr.nd⟩;exact EI ns.length _ hnd fun u hu=>by
     rcases List.mem_cons.1 hu with rfl|hu
     ·exact hv
     ·exact hrng u hu
   rw[List.length_cons,hr.len,hsl]at hsub;omega
  ·have q0:=((hpl v x hx).2 q hq).1;refine⟨q0,?_⟩;have hj':=(natg j v).1 hj;obtain⟨u,rfl⟩:=Vm q0;cases hb:nl.testBit v with
   |false =>
    rw[h.nf v hb]at hx;obtain⟨k,k1,k2⟩:=hr.rk j v hj' u (by
     rw[bI (kI hx),iD fun p hp=>((hn.node x (an hx)).2.2 p hp).1];exact VD hq)
    exact⟨k,k1,(natg k u).2 k2⟩
   |true =>
    obtain⟨_,s,j',e,_,hj2,hs⟩:=h.dec v x hx hb;rw[e]at hq;obtain⟨u',eu,_,hu⟩:=lE.1 hq;obtain rfl:u=u':=V;obtain rfl:j'=j:=(Wu (aO hj2) hr.nd).1 (by rw[hj2,hj']);obtain⟨k,k1,k2⟩:=hs u hu;exact⟨k,k1,(natg k u).2 k2⟩
 have hpc:∀x,aT ms x=aT ns x:=fun x=>by unfold aT;rw[h.L]
 refine⟨⟨hR,⟨hn.g1,by rw[ik];exact hR.n1,fun y hy=>?_,?_,by rw[tZ];exact hacy,fun y hy=>?_⟩,hul,fun u hu=>?_⟩,by show ms.length<=5;omega,fun v x hx hb=>?_,os,h.os3,h.osm,h.osp⟩
 ·obtain⟨v,x,hx,rfl⟩:=qh hy;rw[(iP ..).1,(iP ..).2,ik];exact⟨hcard x (an hx),hpl v x hx⟩
 ·rw[jX];show aC (au ms)<=1024;rw[h.L];exact hn.size
 ·obtain⟨v,x,hx,rfl⟩:=qh hy;have hcx:=hcard x (an hx);have hx':ms[v]?=some x:=hx;unfold gF;rw[rZ];by_cases hb:nl.testBit v=true
  ·rw[wV hx hb];have x1:=(hR.dec v x hx hb).1;have hsm:=(oV (x:=x) (ns:=ms) hR.n1.2 (hpl v x hx) hcard).prod;refine⟨?_,fun q hq=>?_⟩
   ·show ((x.nb++dG g ms (fun _ _=>0) _ x).length:Int)=aC (aT ms x);rw[x1];simp only[dG,List.nil_append,VA,WT,bZ];omega
   ·rw[show ({ x with nb:=x.nb++dG g ms (fun _ _=>0) (bp nl v) x }:ZM).nb=x.nb++dG g ms (fun _ _=>0) (bp nl v) x from rfl,x1,List.nil_append]at hq;unfold dG at hq;obtain⟨i,hi,rfl⟩:=Vu.1 hq;have:=hn.g1;exact AD (by show 0<=g;omega) ⟨Int.le_refl 0,by show (0:Int)<x.L;omega⟩
  ·rw[oT hb];have hb':nl.testBit v=false:=(by simpa using hb);rw[h.nf v hb']at hx';have:=hn.nb x (an hx');unfold gF at this;show (x.nb.length:Int)=aC (aT ms x)/\_;rw[hpc];exact this
 ·have:=hus u hu;exact⟨by show bW u.vars ms.length;rw[hml];exact this.vars,by show _=aC (aK (au ms) u.vars);rw[h.L];exact this.size,this.w⟩
 ·have hx':ms[v]?=some x:=hx;rw[h.nf v hb]at hx';exact EL hn x (an hx')
structure D20 where
 g:Int
 ps:List DrP
 ord:List Int
 nl:Int
 rem:Bool
 us:List UtD
structure D20.Ok (d:D20):Prop where
 g:U8 d.g
 ps:∀x∈d.ps,x.Ok
 pl:(d.ps.length:Int)<2 ^ 63
 ol:(d.ord.length:Int)<2 ^ 63
 o8:∀x∈d.ord,U8 x
 nl:U8 d.nl
 us:∀u∈d.us,u.Ok
 ul:(d.us.length:Int)<2 ^ 63
def nj (us:List UtD):List ZL:=(us.map UtD.cells).flatten
def D20.cells (d:D20):List ZL:=[.lit (.int .u8 d.g),.Q d.ps.length (gi d.ps),.Q d.ord.length (cG d.ord),.lit (.int .u8 d.nl),.lit (.bool d.rem),.Q d.us.length (nj d.us)]
def Rn {l:List UtD}{x:UtD}(h:l[i]?=some x):((nj l).drop (i*2)).take 2=[.lit (.int .u8 x.vars),.Q x.w.length (pZ x.w)]:=oB (f:=UtD.cells) (z:=2) (fun _=>rfl) l i x h
def Ro {l:List UtD}{x:UtD}(h:l[i]?=some x):(nj l)[i*2]?=some (.lit (.int .u8 x.vars)):=ko (f:=UtD.cells) (z:=2) (fun _=>rfl) l i 0 x h (V)
def Rp {l:List UtD}{x:UtD}(h:l[i]?=some x):¬nj l=[]:=fun e=>by
 have:=Ro h;rw[e]at this;simp at this
def Rq {l:List ZM}(p:List Int)(h:l[i]?=some x):((bh l).set (i*3+1) (af p)).set (i*3+2) (.lit (.slice none 0 0))=bh (l.set i ⟨x.L,p,[]⟩):=by
 have hl:=aO h;have h1:=wz (f:=ZM.gI) (z:=3) (fun _=>rfl) l i ⟨x.L,p,[]⟩ hl;have h2:=oB (f:=ZM.gI) (z:=3) (fun _=>rfl) l i x h;unfold bh;rw[h1];have h3:(l.map ZM.gI).flatten=((l.map ZM.gI).flatten).take (i*3)++(x.gI++((l.map ZM.gI).flatten).drop (i*3+3)):=by
  rw[<- h2,<- XC,V2,V2]
 have hlen:(((l.map ZM.gI).flatten).take (i*3)).length=i*3:=by
  rw[Vv,mg (f:=ZM.gI) (z:=3) (fun _=>rfl)];omega
 conv=>lhs;rw[h3]
 rw[WC _ _ V,WC _ _ V,hlen,show i*3+1-i*3=1 by omega,show i*3+2-i*3=2 by omega];simp[ZM.gI,ie]
def Rr {l:List ZM}(h:∀x∈l,x.nb≠[]):bh l=aG l:=by
 unfold bh aG;congr 1;exact VI fun x hx=>by unfold ZM.gI ZM.cells;rw[zW (h x hx)]
def z8 {N:Nat}(h:H.get N=some (.J 0 e (bh ms))):Fz (fun _=>True) H nx (.agg [aa g,.U N 0 0 ms.length 3]) (eZ g ms):=by
 refine .agg rfl fun i hi _=>?_
 match i,hi with
 |0,_=>exact .lit _
 |1,_ =>
  refine .ny trivial h (kq ms) fun j hj h2 h'=>?_;have e0:(0:Nat)+j=j:=Nat.zero_add j;have h3:j<(bh ms).length:=V
  have:=zX (S:=fun _=>True) (H:=H) (nx:=nx) ms j h3 h';simpa only[e0] using this
def wx {S:Nat->Prop}(l:List ZY):∀c∈bA l,Fz S H nx c c:=by
 intro c hc;unfold bA at hc;obtain⟨r,hr,hc⟩:=XS.1 hc;obtain⟨x,_,rfl⟩:=Vu.1 hr;unfold ZY.cells at hc;simp only[List.mem_cons,List.not_mem_nil,or_false]at hc;rcases hc with rfl|rfl<;>exact .ea _
def Rs (d:D20)(hd:d.Ok)(H:ZK)(K:ZQ->ZK->Prop)(hK:∀x,DrI d.rem x->x.Y=(d.us.map fun u=>fu u x.C).take 4->K (.ret (nr x)) H):ae prog G0 10 [.agg d.cells] H K:=by
 refine ae.X ⟨_,func10,rfl,rfl⟩ fun hcl=>?_;refine ae.st (n:=128) (rs:=[.cell 2 38]) func10 ?_;simp only[go_sem,D20.cells];obtain⟨H0,hH0⟩:∃H0,H0=ext H [.J 0 28 [.lit (.int .u8 d.g),.Q d.ps.length (gi d.ps),.Q d.ord.length (cG d.ord),.lit (.int .u8 d.nl),.lit (.bool d.rem),.Q d.us.length (nj d.us)],.J 0 38 [.lit (.int .i64 0),.lit (.slice none 0 0),.lit (.int .u64 0),.lit (.slice none 0 0)]]:=⟨_,rfl⟩
 have g00:=dh hH0
 have g01:=gE hH0 1 rfl
 have n0:H0.A=H.A+2:=hH0▸rfl
 have o0:ZP H H0:=hH0▸.ext _ _
 rw[<- hH0];clear hH0;refine ak.X (RN d.g d.ps d.ord hd.g hd.ps hd.pl hd.ol hd.o8 _ _ fun g ns N H' ov hN1 hN2 hget hnet h5 hp3=>⟨trivial,?_⟩);simp only[go_sem];obtain⟨B,hB⟩:∃B,B=H'.A:=⟨_,rfl⟩
 rw[<- hB];obtain⟨H1,hH1⟩:∃H1,H1=ext H' [.J 0 90 [.lit (.int .i64 g),.U N 0 0 ns.length 3],.J 0 38 [.lit (.int .i64 g),.U N 0 0 ns.length 3,.lit (.int .u64 0),.lit (.slice none 0 0)]]:=⟨_,rfl⟩
 have n1:H1.A=B+2:=by rw[hH1,hB];rfl
 have ovn:=ov.A;have g10:H1.get H.A=some (.J 0 28 [.lit (.int .u8 d.g),.Q d.ps.length (gi d.ps),.Q d.ord.length (cG d.ord),.lit (.int .u8 d.nl),.lit (.bool d.rem),.Q d.us.length (nj d.us)]):=by rw[hH1,c9 _ _ _ V,ov.nf _ V];exact g00
 have g11:H1.get (H.A+1)=some (.J 0 38 [.lit (.int .i64 0),.lit (.slice none 0 0),.lit (.int .u64 0),.lit (.slice none 0 0)]):=by rw[hH1,c9 _ _ _ V,ov.nf _ V];exact g01
 have gN:H1.get N=some (.J 0 76 (bh ns)):=by rw[hH1,c9 _ _ _ V,Rr (EL hnet)];exact hget
 have gB:H1.get B=some (.J 0 90 [.lit (.int .i64 g),.U N 0 0 ns.length 3]):=by rw[hH1,hB];exact cL ..
 have gB1:H1.get (B+1)=some (.J 0 38 [.lit (.int .i64 g),.U N 0 0 ns.length 3,.lit (.int .u64 ((0:Nat):Int)),.lit (.slice none 0 0)]):=by rw[hH1,hB];exact bM H' _ 1 (ZG)
 have o1:ZP H H1:=by rw[hH1];exact(o0.trans ov).trans (.ext _ _)
 rw[<- hH1];clear hH1 hget;have hsl:(aB ns).length=ns.length:=by simp[aB]
 have hpr:∀x∈ns,(x.F.length:Int)<2 ^ 39/\∀q∈x.F,0<=q/\q<(ns.length:Int):=fun x hx=>⟨by have:=hp3 x hx;omega,(hnet.node x hx).2.2⟩
 have hs8:∀p∈aB ns,p<2 ^ (aB ns).length:=by rw[hsl];exact sh fun x hx=>(hpr x hx).2
 obtain⟨r,hr⟩:=VQ.1 ((we hs8 V).2 hnet.nL);have hTR:=EG (fun p h=>Vn (hs8 p h) (Vr ZH V)) hr;have hrl:=hTR.len;rw[hsl]at hrl;refine ak.X ((ae.frame (H:=H1) (args:=[.agg [aa g,.U N 0 0 ns.length 3]]) (args':=[eZ g ns]) (v':=af (aE r)) aF rfl (fun i hi _=>?_) (RX g ns V hpr r hr cW _ fun v H' _ ho=>⟨_,rfl,ho.qk⟩)).mono fun rr H2 hrr=>?_)
 ·match i,hi with
  |0,_=>exact z8 gN
 obtain⟨rfl,rfl⟩:=hrr;refine⟨trivial,?_⟩;simp only[go_sem];refine W.xG (Q':=fun e s2=>e=.exit 0/\∃(i known nl:Nat) (os:List Nat) (ms:List ZM),s2.ρ 1=.O H.A 0 0/\s2.ρ 2=.O (H.A+1) 0 0/\s2.ρ 3=.O B 0 0/\s2.ρ 4=.O (B+1) 0 0/\DrD ns r d.rem i known nl os ms/\H2.A<=s2.H.A/\(∀id,id<H2.A->id≠N->id≠B+1->s2.H.get id=H2.get id)/\s2.H.get N=some (.J 0 76 (bh ms)) /\
  s2.H.get (B+1)=some (.J 0 38 [.lit (.int .i64 g),.U N 0 0 ns.length 3,.lit (.int .u64 (nl:Int)),.lit (.slice none 0 0)])) ?_ ?_
 rotate_left
 ·rintro e s2 ⟨rfl,i,known,nl,os,ms,e1,e2,e3,e4,L,hnx,hold,hN,hB1⟩;refine⟨s2,.refl _,ZJ,trivial,?_⟩;obtain⟨ρ2,Hy⟩:=s2;dsimp only at e1 e2 e3 e4 hnx hold hN hB1;simp only[go_sem];have hml:=L.len;have hcd:∀x∈ms,1<=x.L/\x.L<=4:=fun x hx=>by
   obtain⟨v,hv⟩:=Vl.1 hx;obtain⟨y,hy⟩:=ay (l:=ns) (i:=v) (by have:=aO hv;omega);have h1:(au ms)[v]?=(au ns)[v]?:=(by rw[L.L]);rw[cS hv,cS hy]at h1;rw[Option.some.inj h1];exact(hnet.node y (an hy)).1
  have hn1:=hnet.n1;obtain⟨ut,hut⟩:∃ut:List ZY,ut=d.us.map fun u=>fu u ms:=⟨_,rfl⟩
  refine W.aS 170141163178059628080016879768632823808 (by rfl) (fun ρ Hu=>∃(i:Nat) (uv:ZL),ρ 12=aa i/\i<=d.us.length/\i<=4/\Hy.A<=Hu.A/\(∀id,id<Hy.A->id≠B+1->Hu.get id=Hy.get id)/\Hu.get (B+1)=some (.J 0 38 [.lit (.int .i64 g),.U N 0 0 ns.length 3,.lit (.int .u64 (nl:Int)),uv])/\fy Hy.A Hu 87 2 uv i (bA (ut.take i))) (fun ρ H=>d.us.length-(iv (ρ 12)).toNat) ?_ ?_
  ·simp only[go_sem];exact⟨0,_,rfl,V,V,hB1,.nil⟩
  rintro ρ Hu ⟨i,uv,h12,hi,hi4,hnu,holdu,hBu,hO⟩;refine W.en (fun E=>E 1=.O H.A 0 0 /\ E 2=.O (H.A+1) 0 0 /\ E 3=.O B 0 0 /\ E 4=.O (B+1) 0 0 /\ E 12=aa i) (by simp only[go_sem,e1,e2,e3,e4,h12]) fun E ⟨f1,f2,f3,f4,f12⟩=>?_
  refine W.vs ?_;have uh:Hu.get H.A=_:=((holdu H.A V V).trans (hold H.A V V V)).trans g10;have l0:=ag uh;have lB:=ag (((holdu B V V).trans (hold B V V V)).trans gB);have lB1:=ag hBu;have hNu:Hu.get N=some (.J 0 76 (bh ms)):=(holdu N V V).trans hN;by_cases hb:(i:Int)<d.us.length/\(i:Int)<4
  ·obtain⟨u,hu⟩:=ay (l:=d.us) (i:=i) V;have huo:=hd.us u (an hu);have cne:=Rp hu;have c0:=Rn hu;have cl:i*2+2<=(nj d.us).length:=(by rw[show (nj d.us).length=d.us.length*2 from mg (f:=UtD.cells) (fun _=>rfl) _];omega);have w1:=Vd ((i:Int)+1) V;have hpc:∀Hq,Hq.get N=some (.J 0 76 (bh ms))->N<Hq.A->aY prog G0 (.X 38 [] []) [.agg [.lit (.int .u8 u.vars),.Q u.w.length (pZ u.w)],.agg [.lit (.int .i64 g),.U N 0 0 ns.length 3]] Hq (.agg [af (fu u ms).vars,af (fu u ms).w]) [N]:=fun Hq hq hqn=>by
    refine aY.mk (fun i hi=>by obtain rfl:=List.mem_singleton.1 hi;exact hqn) fun H2 h1 h2=>?_;refine ae.frame (H:=H2) (args:=[.agg u.cells,.agg [aa g,.U N 0 0 ns.length 3]]) (args':=[.agg u.cells,eZ g ms]) (v':=.agg [af (fu u ms).vars,af (fu u ms).w]) aF rfl (fun i hi _=>?_) (RY u huo g ms V hcd cW _ fun v1 v2 H' _ o1 o2=>⟨_,rfl,.agg rfl fun i hi _=>?_⟩)
    ·match i,hi with
     |0,_ =>
      refine .agg rfl fun i hi _=>?_
      match i,hi with
      |0,_=>exact .lit _
      |1,_ =>
       refine .Q rfl fun j hj _=>?_;simp only[pZ,Vw];exact .lit _
     |1,_=>rw[<- hml];exact z8 ((h1 N ZG).trans hq)
    ·match i,hi with
     |0,_=>exact o1.qk
     |1,_=>exact o2.qk
   obtain⟨uv',Hj,hA,hO',hnj,hpj⟩:=GC (P:=prog) (xs:=[af (fu u ms).vars,af (fu u ms).w]) Tryz.underlying36 Tryz.Df Tryz.Di rfl rfl (by rw[Tryz.Dh];omega) hO hnu rfl;simp only[af]at hA;have ng:∀id,id<Hy.A->Hj.get id=Hu.get id:=fun id h=>hpj id V (hO.ne h);have lB1j:=ag ((ng _ V).trans hBu);have hvc:=hO'.cells;have hvo:=hO'.one;simp only[go_sem,f1,f12,l0,hb.1,hb.2];refine W.dr 10 [0,1,0,4,0,28,60,0,252,508] mixed ?_;simp only[go_sem,f1,f3,f4,f12,l0,lB,lB1,cne,c0,cl,hb.1];refine⟨_,[N],hpc _ hNu V,?_⟩;simp only[go_sem,f4,f12,hA,lB1j,hvc,hvo,w1];have hug:ut[i]?=some (fu u ms):=(by rw[hut,List.getElem?_map,hu];rfl);have e2':bA (ut.take (i+1))=bA (ut.take i)++[af (fu u ms).vars,af (fu u ms).w]:=by
    rw[bd hug];unfold bA;rw[V8,YM];simp[ZY.cells]
   refine⟨⟨fun _ h=>V,fun _ h=>V⟩,by rw[aQ];omega,⟨i+1,uv',rfl,V,V,by rw[aQ];omega,fun id h1 h2=>by rw[ah,Vg h2,ng _ h1];exact holdu id h1 h2,by rw[ah,Vh rfl],?_⟩,by rw[h12];simp only[aa,bf];omega⟩;rw[e2'];exact hO'.ng (by rw[aQ];omega) fun id gg h1 _ _=>by rw[ah,Vg V]
  ·have fin:∀b,aj prog G0 H K (.agg [.lit (.int .i64 g),.U N 0 0 ns.length 3,.lit (.int .u64 (nl:Int)),uv]) (Hu.upd (H.A+1) b):=fun b=>by
    have o1n:=o1.A;have ov2:ZP H (Hu.upd (H.A+1) b):=⟨by rw[aQ];omega,fun id h=>by
     rw[ah,Vg V,holdu id V V,hold id V V V];exact o1.nf id h⟩
    have htl:(ut.take i).length=i:=(by rw[Vv,hut,VA];omega);refine aj.bB (v':=nr ⟨g,ms,nl,ut.take i⟩) aF hcl ov2 (.agg rfl fun j hj _=>?_) (hK _ (L.fin hnet hTR h5 V fun u hu=>?_) (by
     show ut.take i=_;rw[<- hut];rcases VC i 4 with h4|h4
     ·have hul:ut.length=d.us.length:=(by rw[hut,VA]);have hid:d.us.length<=i:=V;rw[Vi V,Vi V]
     ·rw[show i=4 by omega]))
    ·match j,hj with
     |0,_=>exact .lit _
     |1,_ =>
      show Fz _ _ _ (.U N 0 0 ns.length 3) (.Q ms.length (bh ms));rw[<- hml];refine .ny V (show (Hu.upd (H.A+1) b).get N=some (.J 0 76 (bh ms)) by rw[ah,Vg V];exact hNu) (mZ ms) fun j hj h2 h'=>?_;have e0:(0:Nat)+j=j:=Nat.zero_add j;have h3:j<(bh ms).length:=V;have:=zY (S:=fun id=>H.A<=id) (H:=Hu.upd (H.A+1) b) (nx:=H.A) ms _ (We h3);simpa only[e0] using this
     |2,_=>exact .lit _
     |3,_ =>
      show Fz _ _ _ uv (.Q (ut.take i).length (bA (ut.take i)));rcases hO with ⟨h,hz,hc⟩|⟨id,gg,k1,k2,h,k4,k5⟩
      ·rw[h,hc,htl,hz];exact .nil
      ·rw[h,htl];refine .ny V (show (Hu.upd (H.A+1) b).get id=some (.J gg 87 (bA (ut.take i))) by rw[ah,Vg V];exact k5) k4 fun j hj h2 h'=>?_;have e0:(0:Nat)+j=j:=Nat.zero_add j;have h3:j<(bA (ut.take i)).length:=V;have:=wx (S:=fun id=>H.A<=id) (H:=Hu.upd (H.A+1) b) (nx:=H.A) (ut.take i) _ (We h3);simpa only[e0] using this
    ·have hu2:=VE hu;rw[hut]at hu2;obtain⟨p,hp,rfl⟩:=Vu.1 hu2;have:=RT p ms fun x hx=>(hcd x hx).1;exact⟨by have:=this.vars;rw[hml]at this;exact this,by have:=this.size;rw[L.L]at this;exact this,this.w⟩
   have lR:Hu.na (H.A+1) 0=_:=ag (((holdu (H.A+1) V V).trans (hold (H.A+1) V V V)).trans g11);have uvc:=hO.cells;have uvo:=hO.one;by_cases hb1:(i:Int)<d.us.length
   ·have hb4:¬(i:Int)<4:=fun h=>hb ⟨hb1,h⟩;simp only[go_sem,f1,f2,f4,f12,l0,lB1,lR,hb1,hb4,uvo];exact fin _
   ·simp only[go_sem,f1,f2,f4,f12,l0,lB1,lR,hb1,uvo];exact fin _
 refine W.aS 20282409603651670423947242901440 (by rfl) (fun ρ Hx=>∃(i known nl:Nat) (os:List Nat) (ms:List ZM),ρ 8=aa i/\i<=r.length/\ρ 6=aL known/\ρ 7=aa os.length/\DrD ns r d.rem i known nl os ms/\H2.A<=Hx.A/\(∀id,id<H2.A->id≠N->id≠B+1->Hx.get id=H2.get id)/\Hx.get N=some (.J 0 76 (bh ms)) /\
  Hx.get (B+1)=some (.J 0 38 [.lit (.int .i64 g),.U N 0 0 ns.length 3,.lit (.int .u64 (nl:Int)),.lit (.slice none 0 0)])) (fun ρ H=>r.length-(iv (ρ 8)).toNat) ?_ ?_
 ·simp only[go_sem];exact⟨0,0,0,[],ns,rfl,V,rfl,rfl,.start ns r d.rem,gN,gB1⟩
 rintro ρ Hx ⟨i,known,nl,os,ms,h8,hi,h6,h7,L,hnx,hold,hN,hB1⟩;refine W.en (fun E=>E 1=.O H.A 0 0 /\ E 2=.O (H.A+1) 0 0 /\ E 3=.O B 0 0 /\ E 4=.O (B+1) 0 0 /\ E 5=af (aE r) /\ E 6=aL known /\ E 7=aa os.length /\ E 8=aa i) (by simp only[go_sem,h6,h7,h8]) fun E ⟨e1,e2,e3,e4,e5,e6,e7,e8⟩=>?_
 refine W.vs ?_;have l0:=ag ((hold H.A V V V).trans g10);have lB:=ag ((hold B V V V).trans gB);have lB1:=ag hB1;have lN:=ag hN;have hrng:=hTR.np;rw[hsl]at hrng;have hml:=L.len;have natl:(aE r).length=r.length:=by simp[aE]
 have nat5:∀ {s:Nat},s<2 ^ ns.length->s<2 ^ 64:=fun h=>Vn h (Vr ZH V);have hk64:known<2 ^ 64:=nat5 (wu hrng L.knownb);have hd64:nl<2 ^ 64:=nat5 (wu hrng L.decsb);by_cases hb:(i:Int)<r.length;rotate_left
 ·simp only[go_sem,e1,e2,e3,e4,e5,e8,natl,hb];exact⟨i,known,nl,os,ms,L,hnx,hold,hN,hB1⟩
 by_cases h3:os.length<3;rotate_left
 ·have h3':¬(os.length:Int)<3:=V
  simp only[go_sem,e1,e2,e3,e4,e5,e7,e8,natl,hb,h3'];exact⟨i,known,nl,os,ms,L,hnx,hold,hN,hB1⟩
 have h3':(os.length:Int)<3:=V
 obtain⟨v,hv⟩:=ay (l:=r) (i:=i) V;have hvi:(aE r)[i]?=some (v:Int):=by unfold aE;rw[List.getElem?_map,hv];rfl
 have hvne:=aZ hvi;have hvn:=hrng v (an hv);have w1:=Vd ((i:Int)+1) V;obtain⟨r1,hr1⟩:∃r1,d.nl.fdiv (2 ^ (min ((i:Int)).toNat IntKind.u8.bits))=r1:=⟨_,rfl⟩
 obtain⟨r2,hr2⟩:∃r2,IntKind.u8.wrap (((BitVec.ofInt IntKind.u8.bits r1 &&& BitVec.ofInt IntKind.u8.bits 1).toNat:Nat):Int)=r2:=⟨_,rfl⟩
 have s1:∀t o1 o2,aU prog .shr t o1 o2 (.lit (.int .u8 d.nl)) (.lit (.int .i64 (i:Int)))=some (.lit (.int .u8 r1)):=fun t o1 o2=>by rw[su V,hr1]
 have s2:∀t o1 o2,aU prog .and t o1 o2 (.lit (.int .u8 r1)) (.lit (.int .u8 1))=some (.lit (.int .u8 r2)):=fun t o1 o2=>by rw[qt,hr2]
 by_cases hrz:r2=0
 ·simp only[go_sem,e1,e2,e3,e4,e5,e6,e7,e8,natl,hb,h3',l0,hvi,hvne,s1,s2,hrz,w1];exact⟨hnx,⟨i+1,known,nl,os,ms,rfl,V,rfl,rfl,L.skip,hnx,hold,hN,hB1⟩,by rw[h8];simp only[aa,bf];omega⟩
 obtain⟨x,hx⟩:=ay (l:=ns) (i:=v) hvn;have hdv:=(L.step hTR V h3 hv hx (s:=0) (fun i hi=>by simp at hi)).1;have hmx:ms[v]?=some x:=by rw[L.nf v hdv];exact hx
 have hxp:=hpr x (an hx);have hmp:∀y∈ms,(y.F.length:Int)<2 ^ 39/\∀q∈y.F,0<=q/\q<64:=fun y hy=>by
  obtain⟨u,hu⟩:=Vl.1 hy;cases hbu:nl.testBit u with
  |false =>
   rw[L.nf u hbu]at hu;obtain⟨q1,q2⟩:=hpr y (an hu);exact⟨q1,fun q hq=>by have:=q2 q hq;omega⟩
  |true =>
   obtain⟨_,s,j,e,_⟩:=L.dec u y hu hbu;rw[e];refine⟨by have:=EY s 8;omega,fun q hq=>?_⟩;obtain⟨z,rfl,hz,_⟩:=lE.1 hq;omega
 have hset:((aB ms).map aL)[v]?=some (aL (bF x.F)):=by rw[List.getElem?_map,kI hmx];rfl
 have hsne:=aZ hset;have hmn:(aB ms).length=ns.length:=by rw[<- hml];simp[aB]
 simp only[go_sem,e1,e3,e5,e7,e8,natl,hb,h3',l0,lB,hvi,hvne,s1,s2,hrz];refine ak.X ((ae.frame (H:=Hx) (args:=[.agg [aa g,.U N 0 0 ns.length 3]]) (args':=[eZ g ms]) (v':=jk (aB ms)) aF rfl (fun i hi _=>?_) (RU g ms V hmp cW _ fun v H' _ ho=>⟨_,rfl,RW ho⟩)).mono fun rr Hz hrr=>?_)
 ·match i,hi with
  |0,_=>rw[<- hml];exact z8 hN
 obtain⟨rfl,rfl⟩:=hrr;refine⟨trivial,?_⟩;have hvI:(v:Int)<ns.length:=V
 simp only[go_sem,hset,hsne,hmn,hvI];have xs64:bF x.F<2 ^ 64:=nat5 (lh hxp.2);refine W.aS 9444732684264313719808 (by rfl) (fun ρ2 Hq=>Hq=Hz/\∃k s:Nat,ρ2 11=aa k/\k<=x.F.length/\ρ2 10=aL s/\Sub s (bF x.F)/\s<2 ^ 64) (fun ρ2 H=>x.F.length-(iv (ρ2 11)).toNat) ?_ ?_
 ·simp only[go_sem];exact⟨0,_,rfl,V,rfl,.refl _,xs64⟩
 rintro ρ2 Hq ⟨rfl,k,s,h11,hk,h10,hs,hs64⟩;refine W.en (fun E2=>E2 1=.O H.A 0 0 /\ E2 2=.O (H.A+1) 0 0 /\ E2 3=.O B 0 0 /\ E2 4=.O (B+1) 0 0 /\ E2 5=af (aE r) /\ E2 6=aL known /\ E2 7=aa os.length /\ E2 8=aa i /\ E2 9=aa v /\ E2 10=aL s /\ E2 11=aa k) (by simp only[go_sem,e1,e2,e3,e4,e5,e6,e7,e8,h10,h11]) fun E2 ⟨f1,f2,f3,f4,f5,f6,f7,f8,f9,f10,f11⟩=>?_
 refine W.vs ?_;have nne:=QT hmx;have nlen:=mZ ms;have n1v:=rH hmx;by_cases hb2:(k:Int)<x.F.length
 ·obtain⟨q,hq⟩:=ay (l:=x.F) (i:=k) V;have hqr:=hxp.2 q (an hq);obtain⟨u,rfl⟩:=Vm hqr.1;have hqne:=aZ hq;have w2:=Vd ((k:Int)+1) V;by_cases hk2:(k:Int) >= 2
  ·have s3:=fun t x y=>lP (P:=prog) (t:=t) (x:=x) (y:=y) (k':=.i64) (s:=u) V;have s4:=fun t x y=>pe (P:=prog) (t:=t) (x:=x) (y:=y) (a:=s) (b:=2 ^ u);simp only[go_sem,f4,f9,f10,f11,lB1,lN,n1v,hvI,hb2,hk2,hq,hqne,w2,s3,s4];exact⟨⟨k+1,eE s (2 ^ u),rfl,V,rfl,fun i hi=>by rw[mA hs64,VL]at hi;exact hs i hi.1,AZ _ _⟩,by rw[h11];simp only[aa,bf];omega⟩
  ·simp only[go_sem,f4,f9,f10,f11,lB1,lN,n1v,hvI,hb2,hk2,w2];exact⟨⟨k+1,s,rfl,V,rfl,hs,hs64⟩,by rw[h11];simp only[aa,bf];omega⟩
 ·obtain⟨s',hs'⟩:∃s',s'=(if d.rem then s |||known else s):=⟨_,rfl⟩
  have hsv:=L.step hTR V h3 hv hx hs;rw[<- hs']at hsv;obtain⟨_,_,hslt,L2⟩:=hsv;have s64:=nat5 hslt;have b2v:(2:Nat) ^ v<2 ^ 64:=Ww ZH V;have o1':=fun t x y=>j5 (P:=prog) (t:=t) (x:=x) (y:=y) hd64 b2v;have o2':=fun t x y=>j5 (P:=prog) (t:=t) (x:=x) (y:=y) hk64 s64;have o3':=fun t x y=>j5 (P:=prog) (t:=t) (x:=x) (y:=y) (WR hk64 s64) b2v;have o4':=fun t x y=>j5 (P:=prog) (t:=t) (x:=x) (y:=y) hs64 hk64;have s6:=fun t x y=>lP (P:=prog) (t:=t) (x:=x) (y:=y) (k':=.i64) (s:=v) V;have w3:=Vd ((os.length:Int)+1) V;have nse:=Rq (dQ s' 8) hmx;have gone:∀b,(Hq.upd N b).na (B+1) 0=some (38,[.lit (.int .i64 g),.U N 0 0 ns.length 3,.lit (.int .u64 (nl:Int)),.lit (.slice none 0 0)]):=fun b=>(lQ V).trans lB1;have st1:∀a,setAt (bh ms) (v*3+1) [a]=(bh ms).set (v*3+1) a:=fun a=>iX V;have st2:∀a b,setAt ((bh ms).set (v*3+1) a) (v*3+2) [b]=((bh ms).set (v*3+1) a).set (v*3+2) b:=fun a b=>iX (by rw[VF];omega);have gone2:∀b b',((Hq.upd N b).upd N b').na (B+1) 0=some (38,[.lit (.int .i64 g),.U N 0 0 ns.length 3,.lit (.int .u64 (nl:Int)),.lit (.slice none 0 0)]):=fun b b'=>(lQ V).trans (gone b);simp only[af]at nse;cases hrem:d.rem
  ·have es:s'=s:=(by rw[hs',hrem];rfl);subst es;simp only[go_sem,f1,f3,f4,f6,f7,f8,f9,f11,lB1,lN,n1v,hvI,hb2,l0,hrem];refine W.dr 5 [0,1,0,0,8] mixed ?_;simp only[go_sem,f4,f9,f10,lB1,lN,hvI,hml,nlen,gone];refine⟨af (dQ s' 8),[],aY.pure fun H2=>EZ s' s64 H2 _ ⟨rfl,rfl⟩,?_⟩;simp only[go_sem,hml,nlen,st1,st2,nse,VF];refine⟨V,V,?_⟩;refine W.dr 4 [0,1,0,4] mixed ?_;simp only[go_sem,f4,f6,f7,f8,f9,f10,gone2,s6,o1',o2',o3',w1,w3];refine⟨by simp only[aQ];omega,⟨i+1,known |||s' |||2 ^ v,nl |||2 ^ v,os++[v],_,rfl,V,rfl,ZG,hrem ▸ L2,by simp only[aQ];omega,fun id h1 h2 h3=>by simp only[ah];rw[Vg h3,Vg h2,Vg h2];exact hold id h1 h2 h3,by rw[ah,Vg V,ah,Vh rfl],by rw[ah,Vh rfl]⟩,by rw[h8];simp only[aa,bf];omega⟩
  ·have es:s |||known=s':=by rw[hs',hrem];rfl
   rw[es]at o4';simp only[go_sem,f1,f3,f4,f6,f7,f8,f9,f10,f11,lB1,lN,n1v,hvI,hb2,l0,hrem,o4'];refine W.dr 5 [0,1,0,0,8] mixed ?_;simp only[go_sem,f4,f9,f10,lB1,lN,hvI,hml,nlen,gone];refine⟨af (dQ s' 8),[],aY.pure fun H2=>EZ s' s64 H2 _ ⟨rfl,rfl⟩,?_⟩;simp only[go_sem,hml,nlen,st1,st2,nse,VF];refine⟨V,V,?_⟩;refine W.dr 4 [0,1,0,4] mixed ?_;simp only[go_sem,f4,f6,f7,f8,f9,f10,gone2,s6,o1',o2',o3',w1,w3];refine⟨by simp only[aQ];omega,⟨i+1,known |||s' |||2 ^ v,nl |||2 ^ v,os++[v],_,rfl,V,rfl,ZG,hrem ▸ L2,by simp only[aQ];omega,fun id h1 h2 h3=>by simp only[ah];rw[Vg h3,Vg h2,Vg h2];exact hold id h1 h2 h3,by rw[ah,Vg V,ah,Vh rfl],by rw[ah,Vh rfl]⟩,by rw[h8];simp only[aa,bf];omega⟩
def Rt (d:D20)(hd:d.Ok)(H:ZK)(K:ZQ->ZK->Prop)(hK:∀x,DrI d.rem x->K (.ret (nr x)) H):ae prog G0 10 [.agg d.cells] H K :=
 Rs d hd H K fun x hx _=>hK x hx
end Go.Proofs
