/- Own work: contracts. -/
import Derived.Test.YtcccmbeolcjacaaConD
import Derived.Test.YtcccmbeolcjacaaLibC
import Derived.Test.YtcccmbeolcjacaaConB
import Derived.Test.YtcccmbeolcjacaaConA
set_option linter.all false
set_option maxHeartbeats 8000000
set_option maxRecDepth 100000
namespace Go.Proofs
open Go.Hx Try
variable {ns:List TA}{k:Nat}{x:TA}
def gK (w a r n:Int):List Ty:=[.lit (.int .u8 w),.lit (.int .u8 a),.lit (.int .u8 r),.lit (.int .i64 n)]
def dc (ns:List TA)(a k:Nat)(pv rv:Ty):List Ty:=((aH (ns.take k)).set (a*3+1) pv).set (a*3+2) rv
def KO (ns:List TA)(a k:Nat)(pv rv:Ty):(dc ns a k pv rv).length=(ns.take k).length*3:=by unfold dc;rw[P2,P2,eg]
def KP (h:ns[k]?=some x)(pv rv pk rk:Ty):dc ns k k pv rv++[aa x.J,pk,rk]=dc ns k (k+1) pk rk:=by
 have hk:=aG h;have hl:=eg (ns.take k);have hkl:(ns.take k).length=k:=by rw[P9];omega
 unfold dc;rw[Ri (l:=aH (ns.take k)) U,Ri U,aO h,wS,QL _ _ U,QL _ _ U,hl,hkl,show k*3+1-k*3=1 by omega,show k*3+2-k*3=2 by omega];rfl
def KR {a:Nat}(h:ns[k]?=some x)(hne:k≠a)(pv rv:Ty):dc ns a (k+1) pv rv=dc ns a k pv rv++[aa x.J,ag x.F,aS x]:=by
 have hk:=aG h;have hl:=eg (ns.take k);have hkl:(ns.take k).length=k:=by rw[P9];omega
 unfold dc;rw[aO h,wS];by_cases ha:a<k
 ·rw[Sj _ _ U,Sj _ _ (by rw[P2];omega)]
 ·rw[Ri (by simp[hl];omega),Ri (by simp[hl];omega),Ri (l:=aH (ns.take k)) U,Ri U]
def Az (ns:List TA)(a lo:Nat)(k:Nat)(H:Tz)(nh:Ty):Prop :=
 ∃pv rv,bE lo H 83 3 nh k (dc ns a k pv rv)/\pv.one=true/\rv.one=true/\(a<k->∃x,ns[a]?=some x/\∃ids,TV lo H pv rv ids x)
def AA {A id g:Nat}(c pv:Ty):∀i (h:i<(aJ ns A c pv (.V id g 0 0 1)).length) (h':i<(aJ ns A c pv (.V id (g+1) 0 0 1)).length),Ua id g (aJ ns A c pv (.V id g 0 0 1))[i] (aJ ns A c pv (.V id (g+1) 0 0 1))[i]:=by
 intro i h h';have e:aJ ns A c pv (.V id (g+1) 0 0 1)=(aJ ns A c pv (.V id g 0 0 1)).set (A*3+2) (.V id (g+1) 0 0 1):=(pN c pv _ _).symm;simp only[e,Rk];split
 ·rename_i hi;subst hi;have h2:=PV h;have hA:A<ns.length:=by rw[de]at h;omega
  rw[jO hA]at h2;rw[<- Option.some.inj h2];exact .hole
 ·exact .same _
structure HoleAt (w r:Int)(ns:List TA)(A:Nat)(x:TA):Prop where
 w5:w % 12=5
 at':ns[A]?=some x
 ne:x.O≠[]
 r0:r % (x.O.length:Int)=0
def KS (w a r n:Int)(hw:0<=w/\w<=255)(ha:0<=a/\a<=255)(hr:0<=r/\r<=255)(g:Int)(ns:List TA)(m:Nat)(hm:m<2 ^ 30)(hs:TM m ns)(H:Tz)(K:TF->Tz->Prop)
  (hol:Prop) (xh:TA) (hhol:hol->HoleAt w r ns (a % (ns.length:Int)).toNat xh)
  (hKn:¬hol->∀g' ns' cs,(g',ns',cs)=df (w % 12) (a % (ns.length:Int)).toNat r n g ns->TM (m+1) ns'->TH (fun v=>w % 12=5->v=(a % (ns.length:Int)).toNat->∀x,ns[v]?=some x->x.O≠[]->¬r % (x.O.length:Int)=0) ns' cs->(w % 12=0->ns'=ns)/\ns'.length<=ns.length+1->K (.ret (.agg [aa g',.M ns'.length cs])) H)
  (hKh:hol->∀id gg H',H.C<=id->id<H'.C->(∀j,j<H.C->H'.get j=H.get j)->H'.get id=some (.L gg 59 [])->K (.ret (.agg [aa g,.M ns.length (aJ ns (a % (ns.length:Int)).toNat (aa xh.J) (ag xh.F) (.V id gg 0 0 1))])) H'):
  af prog G0 45 [.agg (gK w a r n),bR g ns] H K:=by
 refine af.nl ⟨_,func45,rfl,rfl⟩ fun hcl=>?_;refine af.sw (n:=323) (rs:=[.cell 4 64]) func45 ?_;refine W.sq ?_;simp only[go_sem,gK,bR,cz];obtain⟨Hb,hHb⟩:∃Hb,Hb=ext H [.L 0 30 [.lit (.int .u8 w),.lit (.int .u8 a),.lit (.int .u8 r),.lit (.int .i64 n)],.L 0 64 [.lit (.int .i64 g),.M ns.length (aI ns)],.L 0 64 [.lit (.int .i64 0),.lit (.slice none 0 0)]]:=⟨_,rfl⟩
 have b0:=dA hHb
 have b1:=gE hHb 1 rfl
 have b2:=gE hHb 2 rfl
 have nb:Hb.C=H.C+3:=hHb▸rfl
 have ob:TC H Hb:=hHb▸.ext _ _
 rw[<- hHb];clear hHb;obtain⟨A,hA⟩:∃A:Nat,A=(a % (ns.length:Int)).toNat:=⟨_,rfl⟩
 have hsl:=hs.len;refine W.en (fun E=>E 2=.Y H.C 0 0 /\ E 3=.Y (H.C+1) 0 0 /\ E 4=.Y (H.C+2) 0 0) (by simp only[go_sem]) fun E ⟨e2,e3,e4⟩=>?_
 refine W.sq ?_;simp only[go_sem];refine W.eO (fun s'=>s'.ρ 2=.Y H.C 0 0/\s'.ρ 3=.Y (H.C+1) 0 0/\s'.ρ 4=.Y (H.C+2) 0 0/\Hb.C<=s'.H.C/\(∀id,id<H.C+3->s'.H.get id=Hb.get id)/\Az ns A (H.C+3) ns.length s'.H (s'.ρ 5)) ?_ ?_;rotate_left
 ·rintro⟨ρ3,Hx⟩ ⟨m2,m3,m4,nx,hold,pv,rv,hO,pv1,rv1,hNA⟩;simp only at m2 m3 m4 nx hold hO hNA;obtain⟨nh,h5⟩:∃nh,ρ3 5=nh:=⟨_,rfl⟩
  rw[h5]at hO;have l1:=ae ((hold _ U).trans b1);have nh1:=hO.one;have nhc:=hO.cells;refine W.sq ?_;simp only[go_sem,m3,h5,l1,nh1,nhc];obtain⟨Hs,hHs⟩:∃Hs,Hs=Hx.upd (H.C+1) (.L 0 64 [.lit (.int .i64 g),nh]):=⟨_,rfl⟩
  rw[<- hHs];have sn:Hs.C=Hx.C:=by rw[hHs];rfl
  have so:∀id,id≠H.C+1->Hs.get id=Hx.get id:=fun id h=>by rw[hHs,ab,PX h]
  have g1:Hs.get (H.C+1)=some (.L 0 64 [.lit (.int .i64 g),nh]):=by rw[hHs,ab,PZ rfl]
  have g2:Hs.get (H.C+2)=_:=(so _ U).trans ((hold _ U).trans b2);have s1:=ae g1;have s0:Hs.Z H.C 0=_:=ae ((so _ U).trans ((hold _ U).trans b0));have s2:=ae g2;have sO:bE (H.C+3) Hs 83 3 nh ns.length (dc ns A ns.length pv rv):=hO.na U fun id _ h _ _=>so id U;have sold:∀id,id<H.C->Hs.get id=H.get id:=fun id h=>by rw[so id U,hold id U];exact ob.nb id h
  refine W.en (fun E=>E 2=.Y H.C 0 0 /\ E 3=.Y (H.C+1) 0 0 /\ E 4=.Y (H.C+2) 0 0 /\ E 5=nh) (by simp only[go_sem,m2,m3,m4,h5]) fun E ⟨t2,t3,t4,t5⟩=>?_
  clear hHs l1 hO;by_cases hn0:ns.length=0
  ·have hns:ns=[]:=P1 hn0;have hlen:dK Hs nh=some (.lit (.int .i64 0)):=by
    rcases sO with ⟨z1,z2,z3⟩|⟨id,gg,z1,z2,z3,z4,z5⟩
    ·rw[z1];rfl
    ·rw[z3,hn0];unfold dK;simp[ae z5]
   refine W.vs ?_;simp only[go_sem,t3,t4,t5,s1,s2,hlen,nh1];refine aw.bJ (v':=.agg [aa g,.M 0 []]) aT hcl (H2:=Hs.upd (H.C+2) _) ⟨by rw[aq];omega,fun id h=>by rw[ab,PX U];exact sold id h⟩ (.agg rfl fun i hi _=>?_) ?_
   ·match i,hi with
    |0,_=>exact .lit _
    |1,_ =>
     have hO2:bE (H.C+3) (Hs.upd (H.C+2) (.L 0 64 [.lit (.int .i64 g),nh])) 83 3 nh ns.length (dc ns A ns.length pv rv):=sO.na (by rw[aq];omega) fun id _ h _ _=>by rw[ab,PX U]
     have hl0:(dc ns A ns.length pv rv).length=0:=(by rw[KO,hn0];rfl);have:=sP (S:=fun id=>H.C<=id) (nx:=H.C) (cs':=[]) hO2 (fun i hi=>U) (by rw[hl0];rfl) fun i hi=>absurd hi U;rw[hn0]at this;exact this
   ·have:=hKn (fun h=>by have:=(hhol h).at';rw[hns]at this;simp at this) g [] [] (by rw[hns];rfl) ⟨Tu,fun x hx=>by simp at hx⟩ ⟨rfl,fun v x hx=>by simp at hx⟩ ⟨fun _=>hns.symm,Tu⟩;exact this
  have hn1:0<ns.length:=U
  rcases sO with ⟨_,z2,_⟩|⟨id,gg,z1,z2,z3,z4,z5⟩
  ·omega
  subst z3;have sid:=ae z5;have hn0':¬(ns.length:Int)=0:=U
  refine W.sq ?_;simp only[go_sem,t5,sid,hn0'];have hAlt:A<ns.length:=by
   have:=QS a (show (0:Int)<ns.length by omega);have:=QY a (show (ns.length:Int)≠0 by omega);omega
  have hAe:Int.tmod a ns.length=A:=by rw[Qp ha.1];have:=QY a (show (ns.length:Int)≠0 by omega);omega
  obtain⟨x,hx,ids,hN0⟩:=hNA hAlt;have hN:TV (H.C+3) Hs pv rv ids x:=hN0.na U fun id h _=>so id U;clear hN0 hNA;obtain⟨x1,x2,x3⟩:=hs.node x (an hx);have ecs:dc ns A ns.length pv rv=aJ ns A (aa x.J) pv rv:=by unfold dc;rw[PY Tx];exact KU hx _ _
  obtain⟨cs0,hcs0⟩:∃c,c=aJ ns A (aa x.J) pv rv:=⟨_,rfl⟩
  rw[ecs,<- hcs0]at z4 z5 sid;have c0:=lM (ns:=ns) hAlt (aa x.J) pv rv;have c1:=nE (ns:=ns) hAlt (aa x.J) pv rv;have c2:=jO (ns:=ns) hAlt (aa x.J) pv rv;have cl:=de ns A (aa x.J) pv rv;have cne:=wu (ns:=ns) hAlt (aa x.J) pv rv;rw[<- hcs0]at c0 c1 c2 cl cne;have hA0:(A:Int)<ns.length:=U
  have wa:=PW a U;have wA:=PW (A:Int) U;refine W.sq ?_;simp only[go_sem,t2,t5,s0,sid,hAe,hn0',hA0,wa];refine W.sq ?_;simp only[go_sem];have rvl:dK Hs rv=some (aa x.O.length):=by
   have hl:=hN.O.len;rw[P8]at hl;rcases hN.O.top with ⟨h1,h2⟩|⟨i,g',_,_,h1,h2⟩
   ·have h3:(List.zipWith (fun i n=>Ty.V i 0 0 n 1) ids ((x.O.map ints).map List.length)).length=0:=(by rw[h2];rfl);simp[hl]at h3;rw[h1,h3];rfl
   ·rw[h1];unfold dK;simp[ae h2,hl,aa]
  refine W.en (fun E=>E 2=.Y H.C 0 0 /\ E 3=.Y (H.C+1) 0 0 /\ E 4=.Y (H.C+2) 0 0 /\ E 5=.V id gg 0 ns.length 3 /\ E 10=.Y id gg (A*3) /\ E 11=aa (-1)) (by simp only[go_sem,t2,t3,t4,t5]) fun E ⟨u2,u3,u4,u5,u10,u11⟩=>?_
  refine W.eO (fun s'=>s'.H=Hs/\s'.ρ 2=.Y H.C 0 0/\s'.ρ 3=.Y (H.C+1) 0 0/\s'.ρ 4=.Y (H.C+2) 0 0/\s'.ρ 10=.Y id gg (A*3)/\∃R:Int,s'.ρ 11=aa R/\(x.O=[]/\R=-1\/x.O≠[]/\0<=R/\R<x.O.length/\R=r % (x.O.length:Int))) ?_ ?_
  ·refine W.sq ?_;by_cases hr0:x.O=[]
   ·simp only[go_sem,u10,sid,c2,rvl,hr0];refine W.cond (t:=false) rfl ?_;refine W.vs ?_;simp only[go_sem];refine⟨u2,u3,u4,u10,-1,u11,?_⟩;simp[hr0]
   ·have hr1:0<x.O.length:=QT.2 hr0;have hr2:(0:Int)<x.O.length:=U;have hr3:¬(x.O.length:Int)=0:=U;have wr:=PW r U;have hRe:Int.tmod r x.O.length=r % x.O.length:=Qp hr.1;have hR0:=QY r hr3;have hR1:=QS r hr2;have wR:=PW (r % (x.O.length:Int)) U;simp only[go_sem,u10,sid,c2,rvl,hr2];refine W.cond (t:=true) rfl ?_;refine W.dr 8 [0,1,3,0,8,24,56,120] mixed ?_;simp only[go_sem,u2,u10,s0,sid,c2,rvl,hr3,wr,hRe];exact⟨u3,u4,_,rfl,.inr ⟨hr0,hR0,hR1,rfl⟩⟩
  rintro⟨ρ4,H4⟩ ⟨hH,v2,v3,v4,v10,R,v11,hR⟩;simp only at hH v2 v3 v4 v10 v11;rw[hH];clear hH;have w8:Int.tmod w 12=w % 12:=Qp hw.1;rcases Classical.em hol with hl|hnl
  ·obtain⟨k1,k2,k3,k4⟩:=hhol hl;rw[<- hA]at k2;rw[hx]at k2;obtain rfl:x=xh:=Option.some.inj k2;rcases hR with ⟨hR2,_⟩|⟨_,hR0,hR1,hR3⟩
   ·exact absurd hR2 k3
   rw[k4]at hR3;subst hR3;obtain⟨q,hq⟩:=az (l:=x.O) (i:=0) U;obtain⟨idt,gt,cells,idr,hra⟩:=TN.rowAt hN.O hq;have hrv:=hra.rv;have lt:=ae hra.top;have ltl:=hra.len;have e1:setAt cs0 (A*3+2) [.V idt gt 0 0 1]=aJ ns A (aa x.J) pv (.V idt gt 0 0 1):=(by rw[dm U,hcs0,pN]);have w9:Int.tmod w 12=5:=(by rw[w8];exact k1);have nid:idt≠id:=fun h=>by
    have h1:=hra.top;rw[h,z5]at h1;cases h1
   refine W.eO (fun s'=>s'.ρ 3=.Y (H.C+1) 0 0/\s'.ρ 4=.Y (H.C+2) 0 0/\s'.H=Hs.upd id (.L gg 83 (aJ ns A (aa x.J) pv (.V idt gt 0 0 1)))) ?_ ?_
   ·refine W.sq ?_;simp only[go_sem,v2,s0,w9];refine W.env fun E hE=>?_;have u3:E 3=.Y (H.C+1) 0 0:=(by rw[hE];simp only[go_sem,v3]);have u4:E 4=.Y (H.C+2) 0 0:=(by rw[hE];simp only[go_sem,v4]);have u10:E 10=.Y id gg (A*3):=(by rw[hE];simp only[go_sem,v10]);have u11:E 11=aa 0:=(by rw[hE];simp only[go_sem,v11]);have u101:E 101=.lit (.int .u8 5):=(by rw[hE];simp only[go_sem]);clear hE v2 v3 v4 v10 v11 t2 t3 t4 t5;refine W.block ?_
    iterate 5
     refine W.sq ?_;simp only[go_sem,u101];refine W.cond (t:=false) rfl ?_
    refine W.sq ?_;simp only[go_sem,u101];refine W.cond (t:=true) rfl ?_;refine W.vs ?_;simp only[go_sem,u10,u11,sid,c2,hrv,lt,e1];exact⟨U,by simp only[go_sem,u3],by simp only[go_sem,u4]⟩
   rintro⟨ρ5,H5⟩ ⟨f3,f4,hH5⟩;simp only at f3 f4 hH5;have g5:∀j,j≠id->H5.get j=Hs.get j:=fun j h=>by rw[hH5,ab,PX h]
   have d5:H5.get id=some (.L gg 83 (aJ ns A (aa x.J) pv (.V idt gt 0 0 1))):=(by rw[hH5,ab,PZ rfl]);have n5:H5.C=Hs.C:=(by rw[hH5,aq]);have l5:=ae ((g5 (H.C+1) U).trans g1);have l6:=ae ((g5 (H.C+2) U).trans g2);clear hH5;refine W.vs ?_;simp only[go_sem,f3,f4,l5,l6];obtain⟨H7,hH7⟩:∃H7,H7=H5.upd (H.C+2) (.L 0 64 [.lit (.int .i64 g),.V id gg 0 ns.length 3]):=⟨_,rfl⟩
   rw[<- hH7];have g7:∀j,j≠H.C+2->H7.get j=H5.get j:=fun j h=>by rw[hH7,ab,PX h]
   have n7:H7.C=Hs.C:=(by rw[hH7,aq,n5]);clear hH7;have hti:=hra.tlo;refine aw.hole (v':=.agg [aa g,.M ns.length (aJ ns A (aa x.J) (ag x.F) (.V idt gt 0 0 1))]) (v2:=.agg [aa g,.M ns.length (aJ ns A (aa x.J) (ag x.F) (.V idt (gt+1) 0 0 1))]) aT ⟨U,fun j h=>by rw[g7 j U,g5 j U];exact sold j h⟩ (id:=idt) U ((g7 idt U).trans ((g5 idt nid).trans hra.top)) (.agg rfl fun i hi _=>?_) (.agg rfl fun i hi _=>?_) (fun H' hn' ho' hg'=>by
    have:=hKh hl idt (gt+1) H' U U ho' hg';rw[<- hA]at this;exact this)
   ·match i,hi with
    |0,_=>exact .lit _
    |1,_ =>
     refine .np ⟨U,fun h=>nid h.symm⟩ ((g7 id U).trans d5) (de ..) fun j hj h2' h'=>?_;simp only[Nat.zero_add]at h2' ⊢;refine lO ?_ (.V U fun h=>h.2 rfl) j h2' h';rcases hN.par with ⟨h3,h4⟩|⟨i3,g3,h1,h2,h3,h4⟩
     ·have:x.F=[]:=(by simpa[ints] using h4);rw[h3,this];exact .nil
     ·rw[h3];have hi3:i3≠id:=fun h=>by rw[h,z5]at h4;cases h4
      have hi4:i3≠idt:=fun h=>by
       have h5:=hra.top;rw[<- h,h4]at h5;cases h5
      have:=Fz.ints (S:=fun j=>H.C<=j/\j≠idt) (nx:=H7.C) (o:=0) (x:=x.F) (n:=(ints x.F).length) ⟨U,hi4⟩ ((g7 i3 U).trans ((g5 i3 hi3).trans h4)) (aR _) fun j hj=>by rw[Nat.zero_add,gF,PV hj];rfl
      exact this
   ·match i,hi with
    |0,_=>exact .same _
    |1,_=>exact .M (by rw[de,de]) fun j h1 h2=>AA _ _ j h1 h2
  have hK:=hKn hnl;obtain⟨e,he⟩:∃e:Nat->Prop,e=fun v=>w % 12=5->v=A->∀x,ns[v]?=some x->x.O≠[]->¬r % (x.O.length:Int)=0:=⟨_,rfl⟩
  rw[<- hA,<- he]at hK;obtain⟨Φ,hΦ⟩:∃ Φ:St->Prop,∀s',Φ s'↔(s'.ρ 3=.Y (H.C+1) 0 0/\s'.ρ 4=.Y (H.C+2) 0 0/\∃(g':Int) (nv:Ty) (ns':List TA) (cs':List Ty),Hs.C<=s'.H.C/\(∀i,i<H.C->s'.H.get i=H.get i)/\s'.H.get (H.C+1)=some (.L 0 64 [.lit (.int .i64 g'),nv])/\nv.one=true/\nv.cells=[nv]/\(∃q,s'.H.get (H.C+2)=some (.L 0 64 q)/\q.length=2)/\(∀H3,H3.C=s'.H.C->(∀i,i≠H.C+2->H3.get i=s'.H.get i)->Fz (fun i=>H.C<=i) H3 H.C nv (.M ns'.length cs'))/\TM (m+1) ns'/\TH e ns' cs'/\(w % 12=0->ns'=ns)/\ns'.length<=ns.length+1/\(g',ns',cs')=df (w % 12) A r n g ns):=⟨_,fun _=>Iff.rfl⟩
  refine W.eO Φ ?_ ?_;rotate_left
  ·rintro⟨ρ5,H5⟩ hq5;obtain⟨f3,f4,g',nv,ns',cs',n5,o5,p5,nv1,nvc,⟨q,q5,ql⟩,hfz,hsm,hnq,hw0,hw1,hbn⟩:=(hΦ _).1 hq5;simp only at f3 f4 n5 o5 p5 q5 hfz;have l5:=ae p5;obtain⟨q0,q1,rfl⟩:∃q0 q1,q=[q0,q1]:=by
    match q,ql with
    | [q0,q1],_=>exact⟨q0,q1,rfl⟩
   have l6:=ae q5;refine W.vs ?_;simp only[go_sem,f3,f4,l5,l6,nv1];refine aw.bJ (v':=.agg [aa g',.M ns'.length cs']) aT hcl ⟨by rw[aq];omega,fun i h=>by rw[ab,PX U];exact o5 i h⟩ (.agg rfl fun i hi _=>?_) (hK g' ns' cs' hbn hsm hnq ⟨hw0,hw1⟩)
   match i,hi with
   |0,_=>exact .lit _
   |1,_=>exact hfz _ rfl fun i h=>by rw[ab,PX h]
  refine W.sq ?_;simp only[go_sem,v2,s0,w8];obtain⟨c,hc⟩:∃c,c=w % 12:=⟨_,rfl⟩
  have hc0:0<=c/\c<12:=U
  rw[<- hc];refine W.en (fun E=>E 2=.Y H.C 0 0 /\ E 3=.Y (H.C+1) 0 0 /\ E 4=.Y (H.C+2) 0 0 /\ E 10=.Y id gg (A*3) /\ E 11=aa R /\ E 101=.lit (.int .u8 c)) (by simp only[go_sem,v2,v3,v4,v10,v11]) fun E ⟨u2,u3,u4,u10,u11,u101⟩=>?_
  clear v2 v3 v4 v10 v11 t2 t3 t4 t5;refine W.block ?_;clear hK;have g2':∃q,Hs.get (H.C+2)=some (.L 0 64 q)/\q.length=2:=⟨_,g2,rfl⟩
  have hfin:∀(H3:Tz) (cc:Int) (pv' rv' pw rw:Ty),H3.get id=some (.L gg 83 (aJ ns A (aa cc) pv' rv'))->Fz (fun i=>H.C<=i) H3 H.C pv' pw->Fz (fun i=>H.C<=i) H3 H.C rv' rw->Fz (fun i=>H.C<=i) H3 H.C (.V id gg 0 ns.length 3) (.M ns.length (aJ ns A (aa cc) pw rw)):=fun H3 cc pv' rv' pw rw h1 h2 h3=>by
   refine .np (show H.C<=id by omega) h1 (de ..) fun j hj h2' h'=>?_;simp only[Nat.zero_add]at h2' ⊢;exact lO h2 h3 j h2' h'
  have hgone:∀H3:Tz,pL (fun i=>H.C<=i) (H.C+3) H3:=fun H3 i g e c h1 _ _ _=>by show H.C<=i;omega
  have hset:ns.set A x=ns:=gU hx;have hsm0:TM (m+1) ns:=hs.mono (Rc m);have bN:c≠0->c≠10->c≠11->df c A r n g ns=(g,ns.set A (cR c r n g x).1,aJ ns A (aa (cR c r n g x).1.J) (ag (cR c r n g x).1.F) (cR c r n g x).2):=fun y0 y1 y2=>by
   unfold df;rw[hx];simp only;rw[PX y0,PX y1,PX y2]
    -- the I as they are
  have same:∀H3:Tz,Hs.C<=H3.C->(∀i,H.C+3<=i->i<Hs.C->H3.get i=Hs.get i)->Fz (fun i=>H.C<=i) H3 H.C (.V id gg 0 ns.length 3) (.M ns.length (aJ ns A (aa x.J) (ag x.F) (aS x))):=fun H3 h1 h2=>by
   have hN3:=hN.na (H':=H3) h1 h2;refine hfin H3 _ _ _ _ _ ?_ (hN3.pM (hgone _)) (hN3.lL (hgone _));rw[h2 id z1 z2,z5,hcs0]
  have nq0:TH e ns (aJ ns A (aa x.J) (ag x.F) (aS x)):=by
   have:=pO (e:=e) (x':=x) (rv:=aS x) hAlt (.inr rfl) fun _=>rfl;rw[hset]at this;exact this
  have noch:∀E':Env,c≠0->c≠10->c≠11->cR c r n g x=(x,aS x)->E' 3=.Y (H.C+1) 0 0->E' 4=.Y (H.C+2) 0 0->Φ ⟨E',Hs⟩:=fun E' y0 y1 y2 y3 h3 h4=>(hΦ _).2 ⟨h3,h4,g,.V id gg 0 ns.length 3,ns,_,Tx,sold,g1,rfl,rfl,g2',fun H3 h5 h6=>same H3 (by rw[h5];exact Nat.le_refl _) fun i h7 _=>h6 i U,hsm0,nq0,fun _=>rfl,U,by rw[<- hc,bN y0 y1 y2,y3,hset]⟩;by_cases h0:c=0
  ·refine W.sq ?_;simp only[go_sem,u101,h0];refine W.cond (t:=true) rfl ?_;refine W.vs ?_;simp only[go_sem,u2,u3,s0,s1];refine(hΦ _).2 ⟨by simp only[go_sem,u3],by simp only[go_sem,u4],n,.V id gg 0 ns.length 3,ns,_,by rw[aq];exact Nat.le_refl _,fun i h=>by rw[ab,PX U];exact sold i h,by rw[ab,PZ rfl],rfl,rfl,?_,fun H3 h5 h6=>same H3 (by rw[h5,aq];exact Nat.le_refl _) fun i h7 _=>by rw[h6 i U,ab,PX U],hsm0,nq0,fun _=>rfl,U,by rw[<- hc,h0];unfold df;rw[hx];rfl⟩;obtain⟨q,hq,ql⟩:=g2';exact⟨q,by rw[ab,PX U];exact hq,ql⟩
    -- one node set anew
  have hset1:∀(E':Env) (H2:Tz) (x':TA) (pv' rv' rw:Ty),E' 3=.Y (H.C+1) 0 0->E' 4=.Y (H.C+2) 0 0->Hs.C<=H2.C->(∀i,i<H.C+3->H2.get i=Hs.get i)->H2.get id=some (.L gg 83 (aJ ns A (aa x'.J) pv' rv')) ->
    (∀H3:Tz,H3.C=H2.C->(∀i,i≠H.C+2->H3.get i=H2.get i)->Fz (fun i=>H.C<=i) H3 H.C pv' (ag x'.F)/\Fz (fun i=>H.C<=i) H3 H.C rv' rw)->(rw=av x'.O\/rw=aS x')->(e A->rw=aS x')->(x'.F.length<=m+1/\x'.O.length<=m+1/\∀r∈x'.O,r≠[]/\r.length<=m+1)->c≠10->c≠11->cR c r n g x=(x',rw)->Φ ⟨E',H2⟩:=by
   intro E' H2 x' pv' rv' rw h3 h4 hn ho hid hfz hr he2 hsz y1 y2 y3;refine(hΦ _).2 ⟨h3,h4,g,.V id gg 0 ns.length 3,ns.set A x',aJ ns A (aa x'.J) (ag x'.F) rw,hn,fun i h=>by rw[ho i U];exact sold i h,(ho _ U).trans g1,rfl,rfl,?_,fun H3 h5 h6=>?_,hsm0.set hsz,pO hAlt hr he2,fun h=>absurd (hc.trans h) h0,by rw[P2];omega,by rw[<- hc,bN h0 y1 y2,y3]⟩
   ·obtain⟨q,hq,ql⟩:=g2';exact⟨q,(ho _ U).trans hq,ql⟩
   ·obtain⟨f1,f2⟩:=hfz H3 h5 h6;have:=hfin H3 x'.J pv' rv' _ _ ((h6 id U).trans hid) f1 f2;rw[P2];exact this
  have par3:∀H3:Tz,Hs.C<=H3.C->(∀i g2 e2 c2,H.C+3<=i->i<Hs.C->Hs.get i=some (.L g2 e2 c2)->e2≠83->H3.get i=Hs.get i)->Fz (fun i=>H.C<=i) H3 H.C pv (ag x.F)/\Fz (fun i=>H.C<=i) H3 H.C rv (aS x):=fun H3 h1 h2=>by
   have hN3:=hN.keepE (H':=H3) h1 h2;exact⟨hN3.pM (hgone _),hN3.lL (hgone _)⟩
  have xsz:x.F.length<=m+1/\x.O.length<=m+1/\∀r∈x.O,r≠[]/\r.length<=m+1:=⟨U,U,fun r hr=>⟨(x3 r hr).1,by have:=(x3 r hr).2;omega⟩⟩
  have nid:∀ {i g2 e2 c2},Hs.get i=some (.L g2 e2 c2)->e2≠83->i≠id:=fun h1 h2 h3=>by
   rw[h3,z5]at h1;cases h1;exact h2 rfl
  have pne:∀i g2 e2 c2,Hs.get i=some (.L g2 e2 c2)->e2≠3->∀g n,pv≠.V i g 0 n 1:=fun i g2 e2 c2 h1 h2 g n hv=>by
   rcases hN.par with ⟨h3,_⟩|⟨i3,g3,_,_,h3,h4⟩
   ·rw[h3]at hv;cases hv
   ·rw[h3]at hv;obtain rfl:=(Ty.V.inj hv).1;rw[h4]at h1;cases h1;exact h2 rfl
  have plo:∀i,i<H.C+3->∀g n,pv≠.V i g 0 n 1:=fun i h g n hv=>by
   rcases hN.par with ⟨h3,_⟩|⟨i3,g3,h1,_,h3,h4⟩
   ·rw[h3]at hv;cases hv
   ·rw[h3]at hv;have:=(Ty.V.inj hv).1;omega
  refine W.sq ?_;simp only[go_sem,u101,h0];refine W.cond (t:=false) rfl ?_;by_cases h1:c=1
  ·refine W.sq ?_;simp only[go_sem,u101,h1];refine W.cond (t:=true) rfl ?_;refine W.vs ?_;have c1l:A*3+1<=cs0.length:=U;have e1:setAt cs0 (A*3) [.lit (.int .i64 n)]=aJ ns A (aa n) pv rv:=(by rw[dm U,hcs0,KT];rfl);simp only[go_sem,u2,u10,s0,sid,c1l,e1];refine hset1 _ _ { x with J:=n } pv rv (aS x) (by simp only[go_sem,u3]) (by simp only[go_sem,u4]) (by rw[aq];exact Nat.le_refl _) (fun i h=>by rw[ab,PX U]) (by rw[ab,PZ rfl];rfl) (fun H3 h5 h6=>?_) (.inr rfl) (fun _=>rfl) xsz U U (by rw[h1];rfl);exact par3 H3 (by rw[h5,aq];exact Nat.le_refl _) fun i g2 e2 c2 h1 _ h3 h4=>by rw[h6 i U,ab,PX (nid h3 h4)]
  refine W.sq ?_;simp only[go_sem,u101,h1];refine W.cond (t:=false) rfl ?_;by_cases h2:c=2
  ·refine W.sq ?_;simp only[go_sem,u101,h2];refine W.cond (t:=true) rfl ?_;obtain⟨pv2,H2,hA2,oP,n2,hp2⟩:=gG (P:=prog) (H:=Hs) (t:=59) (x:=aa n) (n:=Hs.C+1) Try.underlying59 Try.dC Try.eb rfl (by rw[Try.eR,aR];omega) hN.par U rfl;simp only[aa]at hA2;have kid:H2.get id=_:=(hp2 _ U (pne _ _ _ _ z5 Tv)).trans z5;have lid:=ae kid;have c1l:A*3+2<=cs0.length:=U;have e1:setAt cs0 (A*3+1) [pv2]=aJ ns A (aa x.J) pv2 rv:=(by rw[dm U,hcs0,AB]);have pv21:=oP.one;have pv2c:=oP.cells;have fin2:∀E':Env,E' 3=.Y (H.C+1) 0 0->E' 4=.Y (H.C+2) 0 0->Φ ⟨E',H2.upd id (.L gg 83 (aJ ns A (aa x.J) pv2 rv))⟩:=fun E' h3 h4=>by
    refine hset1 _ _ { x with F:=x.F++[n] } pv2 rv (aS x) h3 h4 (by rw[aq];omega) (fun i h=>by rw[ab,PX U];exact hp2 i U (plo i h)) (by rw[ab,PZ rfl]) (fun H3 h5 h6=>?_) (.inr rfl) (fun _=>rfl) ⟨by simp;omega,xsz.2.1,xsz.2.2⟩ U U (by rw[h2];rfl);have k3:∀i g2 e2 c2,H.C+3<=i->H2.get i=some (.L g2 e2 c2)->e2≠83->H3.get i=H2.get i:=fun i g2 e2 c2 h1 h3 h4=>by
     rw[h6 i U,ab,PX];rintro rfl;rw[kid]at h3;cases h3;exact h4 rfl
    have oP3:ay (H.C+3) H3 3 pv2 (ints (x.F++[n])):=by
     have:=oP.na (H':=H3) Tx (by rw[h5,aq];exact Nat.le_refl _) fun i g h1 _ h3 _=>k3 i g _ _ h1 h3 Tv;simpa[ints] using this
    have rM:=hN.O.wo (H':=H3) (by rw[h5,aq];omega) fun i g2 e2 c2 h1 h2 h3 h4=>by
     have h7:H2.get i=Hs.get i:=hp2 i h2 fun g n hv=>by
      rcases h4 with h4|h4
      ·exact pne _ _ _ _ h3 (by rw[h4];decide) _ _ hv
      ·exact hN.dj _ _ _ hv h4
     refine(k3 i g2 e2 c2 h1 (h7.trans h3) ?_).trans h7;rcases h4 with h4|h4
     ·rw[h4];decide
     ·have:=hN.O.elem h4;rw[h3]at this;obtain⟨_,this⟩:=this;cases this;decide
    have hN3:TV (H.C+3) H3 (.lit (.slice none 0 0)) rv ids { x with F:=[] }:=⟨.nil,rM,fun _ _ _ h=>(by cases h),hN.nil⟩
    exact⟨oP3.dW fun i h=>U,hN3.lL (hgone _)⟩
   refine W.dr 9 [0,0,2,6,14,0,32,96,254] mixed ?_;rcases hN.par with ⟨hv,_⟩|⟨i3,g3,_,_,hv,h4⟩
   ·subst hv;simp only[go_sem,u2,u10,s0,sid,c1,c1l,e1,hA2,lid,pv21,pv2c];exact⟨⟨fun _ h=>U,fun _ h=>U,fun _ h=>U⟩,fin2 _ (by simp only[go_sem,u3]) (by simp only[go_sem,u4])⟩
   ·rw[aR]at hv;subst hv;simp only[go_sem,u2,u10,s0,sid,c1,c1l,e1,hA2,lid,pv21,pv2c];exact⟨⟨fun _ h=>U,fun _ h=>U,fun _ h=>U⟩,fin2 _ (by simp only[go_sem,u3]) (by simp only[go_sem,u4])⟩
  refine W.sq ?_;simp only[go_sem,u101,h2];refine W.cond (t:=false) rfl ?_;by_cases h3:c=3
  ·refine W.sq ?_;simp only[go_sem,u101,h3];refine W.cond (t:=true) rfl ?_;refine W.vs ?_;have c1l:A*3+2<=cs0.length:=U;have e1:setAt cs0 (A*3+1) [.lit (.slice none 0 0)]=aJ ns A (aa x.J) (.lit (.slice none 0 0)) rv:=(by rw[dm U,hcs0,AB]);simp only[go_sem,u10,sid,c1l,e1];refine hset1 _ _ { x with F:=[] } (.lit (.slice none 0 0)) rv (aS x) (by simp only[go_sem,u3]) (by simp only[go_sem,u4]) (by rw[aq];exact Nat.le_refl _) (fun i h=>by rw[ab,PX U]) (by rw[ab,PZ rfl];rfl) (fun H3 h5 h6=>?_) (.inr rfl) (fun _=>rfl) ⟨Tu,xsz.2.1,xsz.2.2⟩ U U (by rw[h3];rfl);exact⟨.nil,(par3 H3 (by rw[h5,aq];exact Nat.le_refl _) fun i g2 e2 c2 h1 _ h3 h4=>by rw[h6 i U,ab,PX (nid h3 h4)]).2⟩
  refine W.sq ?_;simp only[go_sem,u101,h3];refine W.cond (t:=false) rfl ?_;by_cases h4:c=4
  ·refine W.sq ?_;simp only[go_sem,u101,h4];refine W.cond (t:=true) rfl ?_;obtain⟨rv2,H2,hA2,oM,n2,hp2⟩:=hN.O.Ay (P:=prog) (n:=Hs.C+1+1) (t:=48) (r:=ints [n]) Try.underlying48 Try.jQ Try.jS Try.jR Tv (by rw[P8];omega) U rfl;rw[aR]at hA2;simp only[ints,aa,List.map_cons,List.map_nil,List.length_cons,List.length_nil,Nat.zero_add]at hA2;have kid:H2.get id=_:=(hp2 _ U (hN.O.ne z5 Tv)).trans z5;have lid:=ae kid;have e1:setAt cs0 (A*3+2) [rv2]=aJ ns A (aa x.J) pv rv2:=(by rw[dm U,hcs0,pN]);have rv21:=oM.top.one;have rv2c:=oM.top.cells;have fin4:∀E':Env,E' 3=.Y (H.C+1) 0 0->E' 4=.Y (H.C+2) 0 0->Φ ⟨E',H2.upd id (.L gg 83 (aJ ns A (aa x.J) pv rv2))⟩:=fun E' h3' h4'=>by
    have hne:({ x with O:=x.O++[[n]] }:TA).O≠[]:=Tu;refine hset1 _ _ { x with O:=x.O++[[n]] } pv rv2 (aS { x with O:=x.O++[[n]] }) h3' h4' (by rw[aq];omega) (fun i h=>by rw[ab,PX U];exact hp2 i U (hN.O.top.ne U)) (by rw[ab,PZ rfl]) (fun H3 h5 h6=>?_) (.inr rfl) (fun _=>rfl) ⟨xsz.1,by simp;omega,fun r hr=>?_⟩ U U (by rw[h4];rfl)
    ·have k3:∀i g2 e2 c2,H.C+3<=i->H2.get i=some (.L g2 e2 c2)->e2≠83->H3.get i=H2.get i:=fun i g2 e2 c2 h1 h3 h4=>by
      rw[h6 i U,ab,PX];rintro rfl;rw[kid]at h3;cases h3;exact h4 rfl
     have oP3:=hN.par.na (H':=H3) Tx (by rw[h5,aq];omega) fun i g h1 h2 h3 _=>by
      have h7:H2.get i=Hs.get i:=hp2 i h2 (hN.O.ne h3 Tv);exact(k3 i g _ _ h1 (h7.trans h3) Tv).trans h7
     have rM:TN (H.C+3) H3 59 3 rv2 (ids++[Hs.C]) ((x.O++[[n]]).map ints):=by
      have:=oM.wo (H':=H3) (by rw[h5,aq];exact Nat.le_refl _) fun i g2 e2 c2 h1 _ h3 h4=>k3 i g2 e2 c2 h1 h3 (by
       rcases h4 with h4|h4
       ·rw[h4];decide
       ·have:=oM.elem h4;rw[h3]at this;obtain⟨_,this⟩:=this;cases this;decide)
      rw[Q2];exact this
     have hN3:TV (H.C+3) H3 (.lit (.slice none 0 0)) rv2 (ids++[Hs.C]) { x with F:=[],O:=x.O++[[n]] }:=⟨.nil,rM,fun _ _ _ h=>(by cases h),fun h=>by simp at h⟩
     exact⟨oP3.dW fun i h=>U,hN3.lL (hgone _)⟩
    ·rcases Qe.1 hr with h|h
     ·exact xsz.2.2 r h
     ·obtain rfl:=List.mem_singleton.1 h;exact⟨Tu,Tu⟩
   refine W.dr 10 [0,0,2,6,14,0,32,96,224,510] mixed ?_;have hl:ids.length=x.O.length:=(by have:=hN.O.len;rwa [P8]at this);rcases hN.O.top with ⟨hv,_⟩|⟨i3,g3,_,_,hv,h4⟩
   ·subst hv;simp only[go_sem,u2,u10,s0,sid,c2,hA2,lid,rv21,rv2c,e1];exact⟨⟨fun _ h=>U,fun _ h=>U,fun _ h=>U⟩,⟨fun _ h=>U,fun _ h=>U,fun _ h=>U⟩,U,fin4 _ (by simp only[go_sem,u3]) (by simp only[go_sem,u4])⟩
   ·subst hv;simp only[go_sem,u2,u10,s0,sid,c2,hA2,lid,rv21,rv2c,e1];exact⟨⟨fun _ h=>U,fun _ h=>U,fun _ h=>U⟩,⟨fun _ h=>U,fun _ h=>U,fun _ h=>U⟩,U,fin4 _ (by simp only[go_sem,u3]) (by simp only[go_sem,u4])⟩
  refine W.sq ?_;simp only[go_sem,u101,h4];refine W.cond (t:=false) rfl ?_
    -- one row of the node
  have row:R=-1/\x.O=[]\/∃(Rn:Nat) (q:List Int) (idt gt:Nat) (cells:List Ty) (idr:Nat),R=(Rn:Int)/\TU (H.C+3) Hs rv ids x.O Rn q idt gt cells idr/\Rn=(r % (x.O.length:Int)).toNat:=by
   rcases hR with ⟨hR2,hR⟩|⟨_,hR0,hR1,hR3⟩
   ·exact .inl ⟨hR,hR2⟩
   ·obtain⟨Rn,rfl⟩:=Qb hR0;obtain⟨q,hq⟩:=az (l:=x.O) (i:=Rn) U;obtain⟨idt,gt,cells,idr,hra⟩:=TN.rowAt hN.O hq;exact .inr ⟨Rn,q,idt,gt,cells,idr,rfl,hra,U⟩
  have pkeep:∀H3:Tz,Hs.C<=H3.C->(∀i g,H.C+3<=i->i<Hs.C->Hs.get i=some (.L g 3 (ints x.F))->(∀j,j∈ids->i≠j)->H3.get i=Hs.get i)->Fz (fun i=>H.C<=i) H3 H.C pv (ag x.F):=fun H3 h1 h2=>by
   have:=hN.par.na (H':=H3) Tx h1 fun i g h3 h4 h5 h6=>h2 i g h3 h4 h5 fun j hj he=>by
    subst he;exact hN.dj _ _ _ h6 hj
   exact this.dW fun i h=>U
  have rsz:∀(Rn:Nat) (q q':List Int),x.O[Rn]?=some q->q'≠[]->q'.length<=q.length+1->(x.F.length<=m+1/\(x.O.set Rn q').length<=m+1/\∀r∈x.O.set Rn q',r≠[]/\r.length<=m+1):=fun Rn q q' hq h1 h2=>⟨xsz.1,by rw[P2];exact xsz.2.1,fun r hr=>by
   rcases Qr hr with h|rfl
   ·exact xsz.2.2 r h
   ·have:=(x3 q (an hq)).2;exact⟨h1,U⟩⟩
  by_cases h5:c=5
  ·refine W.sq ?_;simp only[go_sem,u101,h5];refine W.cond (t:=true) rfl ?_;rcases row with ⟨hR1,hRN⟩|⟨Rn,q,idt,gt,cells,idr,hR1,hra,hRn⟩
   ·refine W.vs ?_;simp only[go_sem,u11,hR1];exact noch _ h0 U U (pP U hRN) (by simp only[go_sem,u3]) (by simp only[go_sem,u4])
   ·refine W.vs ?_;have hRl:=aG hra.q;have hrv:=hra.rv;have lt:=ae hra.top;have ltl:=hra.len;have e1:setAt cs0 (A*3+2) [.V idt gt 0 Rn 1]=aJ ns A (aa x.J) pv (.V idt gt 0 Rn 1):=(by rw[dm U,hcs0,pN]);simp only[go_sem,u10,u11,hR1,sid,c2,hrv,lt,e1];refine⟨U,U,?_⟩;refine hset1 _ _ { x with O:=x.O.take Rn } pv (.V idt gt 0 Rn 1) (av (x.O.take Rn)) (by simp only[go_sem,u3]) (by simp only[go_sem,u4]) (by rw[aq];exact Nat.le_refl _) (fun i h=>by rw[ab,PX U]) (by rw[ab,PZ rfl];rfl) (fun H3 h7 h8=>?_) (.inl rfl) (fun hE=>?_) ⟨xsz.1,by simp;omega,fun r hr=>xsz.2.2 r (Qk hr)⟩ U U (by rw[h5];exact KY hra.q hRn)
    ·have hk3:∀i g2 e2 c2,H.C+3<=i->Hs.get i=some (.L g2 e2 c2)->e2≠83->H3.get i=Hs.get i:=fun i g2 e2 c2 h1 h3 h4=>by rw[h8 i U,ab,PX (nid h3 h4)]
     have hM3:=hN.O.wo (H':=H3) (by rw[h7,aq];exact Nat.le_refl _) fun i g2 e2 c2 h1 _ h3 h4=>hk3 i g2 e2 c2 h1 h3 (by
      rcases h4 with h4|h4
      ·rw[h4];decide
      ·obtain⟨_,this⟩:=hN.O.elem h4;rw[h3]at this;cases this;decide)
     exact⟨pkeep H3 (by rw[h7,aq];exact Nat.le_refl _) fun i g h1 _ h3 _=>hk3 i g _ _ h1 h3 Tv,TU.KW hra hM3 (fun i h=>by show H.C<=i;omega) ((hk3 idt _ _ _ hra.tlo.1 hra.top Tv).trans hra.top)⟩
    ·rw[he]at hE;have hx0:x.O≠[]:=fun h=>by rw[h]at hRl;simp at hRl
     have h9:=hE U rfl x hx hx0;have hne:¬x.O.take Rn=[]:=fun h=>by
      have:=congrArg List.length h;rw[P9,List.length_nil]at this;omega
     unfold aS;rw[PX hne]
  refine W.sq ?_;simp only[go_sem,u101,h5];refine W.cond (t:=false) rfl ?_
    -- a row's block turned,or its handle
  have fin6:∀(E':Env) (H2:Tz) (Rn:Nat) (q q':List Int) (idt gt:Nat) (cells:List Ty) (idr:Nat) (wv:Ty),TU (H.C+3) Hs rv ids x.O Rn q idt gt cells idr->E' 3=.Y (H.C+1) 0 0->E' 4=.Y (H.C+2) 0 0->q'≠[]->q'.length<=q.length+1->5<c->c≠10->c≠11->Rn=(r % (x.O.length:Int)).toNat->q'=gL c n g q->Hs.C<=H2.C->(∀i,i<Hs.C->i≠idt->i≠idr->H2.get i=Hs.get i) ->
    H2.get idt=some (.L gt 59 (cells.set Rn wv))->(∀H3:Tz,H3.C=H2.C->(∀i,i≠H.C+2->H3.get i=H2.get i)->Fz (fun i=>H.C<=i) H3 H.C wv (ag q'))->Φ ⟨E',H2⟩:=by
   intro E' H2 Rn q q' idt gt cells idr wv hra h3 h4 hq1 hq2 hc5 hc10 hc11 hRn hqB hn hk ht hfz;have hRl:=aG hra.q;have d1:=hra.tlo;have d2:=hra.rlo;have hrne:x.O.set Rn q'≠[]:=fun h=>by
    have:=congrArg List.length h;rw[P2]at this;simp at this;rw[this]at hRl;simp at hRl
   have hrw:aS { x with O:=x.O.set Rn q' }=av (x.O.set Rn q'):=nQ hrne;refine hset1 E' H2 { x with O:=x.O.set Rn q' } pv rv (av (x.O.set Rn q')) h3 h4 hn (fun i h=>hk i U U U) ?_ (fun H3 h7 h8=>?_) (.inl rfl) (fun _=>hrw.symm) (rsz Rn q q' hra.q hq1 hq2) hc10 hc11 (by rw[KZ hc5 hra.q hRn,hqB])
   ·rw[hk id z2 (fun h=>nid hra.top Tv h.symm) (fun h=>nid hra.row Tv h.symm),z5,hcs0]
   ·have hpk:=pkeep H3 (by rw[h7];exact hn) fun i g h1 h2 h3 h4=>by
     rw[h8 i U];refine hk i h2 (fun h=>?_) (h4 idr (an hra.id));rw[h,hra.top]at h3;cases h3
    refine⟨hpk,TU.KX hra hN.O (fun i h=>by show H.C<=i;omega) (by rw[h8 idt U];exact ht) (fun i hi hne=>?_) (hfz H3 h7 h8)⟩;have:=hN.O.no i hi;rw[h8 i U];exact hk i this.2 (fun h=>hra.nm (by rw[<- h];exact hi)) hne
  have cset:∀ {Rn:Nat} {q:List Int} {idt gt:Nat} {cells:List Ty} {idr:Nat},TU (H.C+3) Hs rv ids x.O Rn q idt gt cells idr->cells.set Rn (.V idr 0 0 q.length 1)=cells:=fun hra=>gU hra.at';have fzrow:∀ {Rn:Nat} {q:List Int} {idt gt:Nat} {cells:List Ty} {idr:Nat},TU (H.C+3) Hs rv ids x.O Rn q idt gt cells idr->∀(H3:Tz) (l:List Int),l.length=q.length->H3.get idr=some (.L 0 3 (ints l))->Fz (fun i=>H.C<=i) H3 H.C (.V idr 0 0 q.length 1) (ag l):=fun {Rn q idt gt cells idr} hra H3 l hl hg=>by
   have:=hra.rlo;unfold ag;rw[hl];refine .np (show H.C<=idr by omega) hg (by rw[aR,hl,Nat.mul_one]) fun j hj h2 h'=>?_;simp only[Nat.zero_add,ints,P4];exact .lit _
  by_cases h6:c=6
  ·refine W.sq ?_;simp only[go_sem,u101,h6];refine W.cond (t:=true) rfl ?_;rcases row with ⟨hR1,hRN⟩|⟨Rn,q,idt,gt,cells,idr,hR1,hra,hRn⟩
   ·refine W.sq ?_;simp only[go_sem,u11,hR1];refine W.cond (t:=false) rfl ?_;refine W.vs ?_;simp only[go_sem];exact noch _ h0 U U (pP U hRN) (by simp only[go_sem,u3]) (by simp only[go_sem,u4])
   ·have hRl:=aG hra.q;have hrv:=hra.rv;have lt:=ae hra.top;have lr:=ae hra.row;have ltl:=hra.len;have hat:=hra.at';have tne:=bb hat;have qe:=(x3 q (an hra.q)).1;have ql:0<q.length:=QT.2 qe;have qli:(0:Int)<q.length:=U;have qne:¬ints q=[]:=fun h=>by have:=congrArg List.length h;rw[aR,List.length_nil]at this;omega
    refine W.sq ?_;simp only[go_sem,u10,u11,hR1,sid,c2,hrv,lt,lr,hat,qli];refine⟨U,W.cond (t:=true) rfl ?_⟩;have e1:setAt (ints q) 0 [.lit (.int .i64 n)]=ints (q.set 0 n):=ij ql;refine W.dr 9 [0,1,3,7,0,31,63,0,128] mixed ?_;simp only[go_sem,u2,u10,u11,hR1,s0,sid,c2,hrv,lt,lr,hat,qli];refine⟨U,U,fin6 _ _ Rn q (q.set 0 n) idt gt cells idr (.V idr 0 0 q.length 1) hra (by simp only[go_sem,u3]) (by simp only[go_sem,u4]) (fun h=>by have:=congrArg List.length h;rw[P2,List.length_nil]at this;omega) (by rw[P2];omega) U U U hRn (by rw[h6];rfl) (by rw[aq];exact Nat.le_refl _) (fun i _ _ h2=>by rw[ab,PX h2]) (by rw[cset hra,ab,PX hra.ne];exact hra.top) fun H3 h7 h8=>fzrow hra H3 _ (P2 ..) ?_⟩;rw[h8 idr (by have:=hra.rlo;omega),ab,PZ rfl];cases q with
    |nil=>exact absurd rfl qe
    |cons a t=>rfl
  refine W.sq ?_;simp only[go_sem,u101,h6];refine W.cond (t:=false) rfl ?_;by_cases h7:c=7
  ·refine W.sq ?_;simp only[go_sem,u101,h7];refine W.cond (t:=true) rfl ?_;rcases row with ⟨hR1,hRN⟩|⟨Rn,q,idt,gt,cells,idr,hR1,hra,hRn⟩
   ·refine W.sq ?_;simp only[go_sem,u11,hR1];refine W.cond (t:=false) rfl ?_;refine W.vs ?_;simp only[go_sem];exact noch _ h0 U U (pP U hRN) (by simp only[go_sem,u3]) (by simp only[go_sem,u4])
   ·have hRl:=aG hra.q;have hrv:=hra.rv;have lt:=ae hra.top;have lr:=ae hra.row;have ltl:=hra.len;have hat:=hra.at';have tne:=bb hat;refine W.sq ?_;simp only[go_sem,u11,hR1];refine W.cond (t:=true) rfl ?_;have hG:ay (H.C+3) Hs 3 (.V idr 0 0 q.length 1) (ints q):=.inr ⟨idr,0,hra.rlo.1,hra.rlo.2,by rw[aR],hra.row⟩;have hq2:=(x3 q (an hra.q)).2;obtain⟨w2,H2,hA2,oW,n2,hp2⟩:=gG (P:=prog) (H:=Hs) (t:=59) (x:=aa 0) (n:=Hs.C+1) Try.underlying59 Try.dC Try.eb rfl (by rw[Try.eR,aR];omega) hG U rfl;simp only[aa]at hA2;have k2:∀i,i<Hs.C->i≠idr->H2.get i=Hs.get i:=fun i h1 h2=>hp2 i h1 fun g n hv=>h2 (Ty.V.inj hv).1.symm;have lt2:=ae ((k2 idt hra.tlo.2 hra.ne).trans hra.top);have w21:=oW.one;have w2c:=oW.cells;have e1:setAt cells Rn [w2]=cells.set Rn w2:=dm U;refine W.dr 14 [0,1,3,7,0,0,32,96,224,0,992,2016,0,8160] mixed ?_;simp only[go_sem,u10,u11,hR1,sid,c2,hrv,lt,ltl,hat,hA2,lt2,w21,w2c,e1];have dd1:=hra.tlo;have dd2:=hra.rlo;have dd3:idr≠id:=nid hra.row Tv;refine⟨U,by repeat' (first|refine And.intro ?_ ?_|(intro x hx;omega)),by repeat' (first|refine And.intro ?_ ?_|(intro x hx;omega)),U,U,fin6 _ _ Rn q (q++[0]) idt gt cells idr w2 hra (by simp only[go_sem,u3]) (by simp only[go_sem,u4]) Tu Tu U U U hRn (by rw[h7];rfl) (by rw[aq];omega) (fun i h1 h2 h3=>by rw[ab,PX h2];exact k2 i h1 h3) (by rw[ab,PZ rfl]) fun H3 h7 h8=>?_⟩;have oW3:ay (H.C+3) H3 3 w2 (ints (q++[0])):=by
     have:=oW.na (H':=H3) Tx (by rw[h7,aq];exact Nat.le_refl _) fun i g h1 _ h3 _=>by
      rw[h8 i U,ab,PX];rintro rfl;rw[(k2 _ hra.tlo.2 hra.ne).trans hra.top]at h3;cases h3
     simpa[ints] using this
    exact oW3.dW fun i h=>U
  refine W.sq ?_;simp only[go_sem,u101,h7];refine W.cond (t:=false) rfl ?_;by_cases h8:c=8
  ·refine W.sq ?_;simp only[go_sem,u101,h8];refine W.cond (t:=true) rfl ?_;rcases row with ⟨hR1,hRN⟩|⟨Rn,q,idt,gt,cells,idr,hR1,hra,hRn⟩
   ·refine W.sq ?_;simp only[go_sem,u11,hR1];refine W.cond (t:=false) rfl ?_;refine W.vs ?_;simp only[go_sem];exact noch _ h0 U U (pP U hRN) (by simp only[go_sem,u3]) (by simp only[go_sem,u4])
   ·have hRl:=aG hra.q;have hrv:=hra.rv;have lt:=ae hra.top;have lr:=ae hra.row;have ltl:=hra.len;have hat:=hra.at';have tne:=bb hat;have qe:=(x3 q (an hra.q)).1;have ql:0<q.length:=QT.2 qe;have qli:(0:Int)<q.length:=U;refine W.sq ?_;simp only[go_sem,u10,u11,hR1,sid,c2,hrv,lt,lr,hat,qli];refine⟨U,W.cond (t:=true) rfl ?_⟩;refine W.seq ?_;refine W.dr 14 [0,1,3,7,0,0,32,96,224,0,992,2016,4064,8160] mixed ?_;have dd1:=hra.tlo;have dd2:=hra.rlo;have dd3:idr≠id:=nid hra.row Tv;have dd4:idt≠id:=nid hra.top Tv;have hq2:=(x3 q (an hra.q)).2;have lte:∀L,(ext Hs L).Z idt gt=_:=fun L=>(dB U).trans lt;have side:∀L,(ext Hs L).Z id gg=_:=fun L=>(dB U).trans sid;have e1:setAt cells Rn [.V Hs.C 0 0 q.length 1]=cells.set Rn (.V Hs.C 0 0 q.length 1):=dm U;simp only[go_sem,u10,u11,hR1,sid,c2,hrv,lt,lr,ltl,hat,lte,e1];obtain⟨H2,hH2⟩:∃H2,H2=(ext Hs [.L 0 3 (List.replicate q.length (.lit (.int .i64 0)))]).upd idt (.L gt 59 (cells.set Rn (.V Hs.C 0 0 q.length 1))):=⟨_,rfl⟩
    rw[<- hH2];have n2:H2.C=Hs.C+1:=(by rw[hH2];rfl);have k2:∀i,i<Hs.C->i≠idt->H2.get i=Hs.get i:=fun i h1 h2=>by rw[hH2,ab,PX h2];exact eC _ _ _ h1
    have t2:H2.get idt=some (.L gt 59 (cells.set Rn (.V Hs.C 0 0 q.length 1))):=(by rw[hH2,ab,PZ rfl]);have r2:H2.get Hs.C=some (.L 0 3 (List.replicate q.length (.lit (.int .i64 0)))):=(by rw[hH2,ab,PX U];exact cW ..);clear hH2;have lt2:=ae t2;have lr2:=ae r2;have lid2:=ae ((k2 id z2 (fun h=>dd4 h.symm)).trans z5);have l12:=ae ((k2 (H.C+1) U U).trans g1);have at2:(cells.set Rn (.V Hs.C 0 0 q.length 1))[Rn]?=some (.V Hs.C 0 0 q.length 1):=Qa U;have tne2:=bb at2;have len2:(cells.set Rn (.V Hs.C 0 0 q.length 1)).length=x.O.length:=(by rw[P2];exact ltl);have rne:¬List.replicate q.length (Ty.lit (.int .i64 0))=[]:=fun h=>by have:=congrArg List.length h;rw[Qi,List.length_nil]at this;omega
    refine⟨U,U,by repeat' (first|refine And.intro ?_ ?_|(intro x hx;omega)),U,U,?_⟩;refine W.dr 9 [0,1,3,7,0,31,63,0,128] mixed ?_;simp only[go_sem,u3,u10,u11,hR1,lid2,l12,c2,hrv,lt2,lr2,at2,qli];refine⟨U,by rw[Qi];omega,fin6 _ _ Rn q (g :: List.replicate (q.length-1) 0) idt gt cells idr (.V Hs.C 0 0 q.length 1) hra (by simp only[go_sem,u3]) (by simp only[go_sem,u4]) Tu (by rw[List.length_cons,Qi];omega) U U U hRn (by rw[h8];rfl) (by rw[aq];omega) (fun i h1 h2 _=>by rw[ab,PX U];exact k2 i h1 h2) (by rw[ab,PX U];exact t2) fun H3 h7 h8=>?_⟩;obtain⟨ml,hml⟩:∃ml,q.length=ml+1:=⟨q.length-1,U⟩
    have hgr:H3.get Hs.C=some (.L 0 3 (ints (g :: List.replicate ml 0))):=by
     rw[h8 Hs.C U,ab,PZ rfl,hml];simp[QM,ints,aa]
    unfold ag;rw[hml,Nat.add_sub_cancel,show (g :: List.replicate ml (0:Int)).length=ml+1 by simp];refine .np (show H.C<=Hs.C by omega) hgr (by rw[aR];simp) fun j hj h2 h'=>?_;simp only[Nat.zero_add,ints,P4];exact .lit _
  refine W.sq ?_;simp only[go_sem,u101,h8];refine W.cond (t:=false) rfl ?_;by_cases h9:c=9
  ·refine W.sq ?_;simp only[go_sem,u101,h9];refine W.cond (t:=true) rfl ?_;rcases row with ⟨hR1,hRN⟩|⟨Rn,q,idt,gt,cells,idr,hR1,hra,hRn⟩
   ·refine W.sq ?_;simp only[go_sem,u11,hR1];refine W.cond (t:=false) rfl ?_;refine W.vs ?_;simp only[go_sem];exact noch _ h0 U U (pP U hRN) (by simp only[go_sem,u3]) (by simp only[go_sem,u4])
   ·have hRl:=aG hra.q;have hrv:=hra.rv;have lt:=ae hra.top;have lr:=ae hra.row;have ltl:=hra.len;have hat:=hra.at';have tne:=bb hat;have hq2:=(x3 q (an hra.q)).2;have w1:=PW ((q.length:Int)-1) U;refine W.sq ?_;simp only[go_sem,u11,hR1];refine W.cond (t:=true) rfl ?_;refine W.seq ?_;refine W.dr 10 [0,1,3,7,0,31,63,127,255,0] mixed ?_;simp only[go_sem,u10,u11,hR1,sid,c2,hrv,lt,lr,hat,w1];have qe:=(x3 q (an hra.q)).1;have ql:0<q.length:=QT.2 qe;refine⟨U,W.block ?_⟩;refine W.env fun E1 hE1=>?_;have y3:E1 3=.Y (H.C+1) 0 0:=(by rw[hE1];simp only[go_sem,u3]);have y4:E1 4=.Y (H.C+2) 0 0:=(by rw[hE1];simp only[go_sem,u4]);have y10:E1 10=.Y id gg (A*3):=(by rw[hE1];simp only[go_sem,u10]);have y11:E1 11=aa (Rn:Int):=(by rw[hE1];simp only[go_sem,u11,hR1]);have y12:E1 12=aa 0:=(by rw[hE1];simp only[go_sem]);have y13:E1 13=aa ((q.length:Int)-1):=(by rw[hE1];simp only[go_sem]);clear hE1;refine W.aM 2085924839766484109564043631985174802744541411009508283535333416154492349816150761370611118080 Tw (fun ρ Hy=>∃(i k:Int) (l:List Int) (fu:Nat),ρ 12=aa i/\ρ 13=aa k/\0<=i/\k<q.length/\i<=q.length/\-1<=k/\l.length=q.length/\Hy.C=Hs.C/\(∀j,j≠idr->Hy.get j=Hs.get j)/\Hy.get idr=some (.L 0 3 (ints l))/\hZ fu i k l=hZ (q.length+1) 0 ((q.length:Int)-1) q/\k-i<fu) (fun ρ H=>(iv (ρ 13)-iv (ρ 12)+1).toNat) ?_ ?_
    ·simp only[go_sem,y12,y13];exact⟨0,_,q,q.length+1,rfl,rfl,U,U,U,U,rfl,hra.row,rfl,U⟩
    rintro ρ5 Hy ⟨i,k,l,fu,h12,h13,i0,k0,i1,k1,hl,ny,yo,yr,hrev,hfu⟩;refine W.env fun E2 hE2=>?_;have a3:E2 3=.Y (H.C+1) 0 0:=(by rw[hE2];simp only[go_sem,y3]);have a4:E2 4=.Y (H.C+2) 0 0:=(by rw[hE2];simp only[go_sem,y4]);have a10:E2 10=.Y id gg (A*3):=(by rw[hE2];simp only[go_sem,y10]);have a11:E2 11=aa (Rn:Int):=(by rw[hE2];simp only[go_sem,y11]);have a12:E2 12=aa i:=(by rw[hE2];simp only[go_sem,h12]);have a13:E2 13=aa k:=(by rw[hE2];simp only[go_sem,h13]);clear hE2;have dd1:=hra.tlo;have dd2:=hra.rlo;have dd3:id≠idr:=fun h=>nid hra.row Tv h.symm;have lidy:=ae ((yo id dd3).trans z5);have lty:=ae ((yo idt hra.ne).trans hra.top);have lry:=ae yr;by_cases hik:i<k;rotate_left
    ·refine W.vs ?_;simp only[go_sem,a12,a13,hik];refine fin6 _ _ Rn q l idt gt cells idr (.V idr 0 0 q.length 1) hra (by simp only[go_sem,a3]) (by simp only[go_sem,a4]) (fun h=>by rw[h]at hl;simp at hl;omega) U U U U hRn (by rw[h9,show gL 9 n g q=hZ (q.length+1) 0 ((q.length:Int)-1) q from rfl,<- hrev,K2 hik]) U (fun j _ _ h2=>yo j h2) (by rw[cset hra,yo idt hra.ne];exact hra.top) fun H3 h7 h8=>fzrow hra H3 l hl (by rw[h8 idr U];exact yr)
    obtain⟨iN,rfl⟩:=Qb i0;obtain⟨kN,rfl⟩:=Qb (show 0<=k by omega);obtain⟨qa,hqa⟩:=az (l:=l) (i:=iN) U;obtain⟨qb,hqb⟩:=az (l:=l) (i:=kN) U;have ia:(ints l)[iN]?=some (aa qa):=(by rw[gF,hqa];rfl);have ib:(ints l)[kN]?=some (aa qb):=(by rw[gF,hqb];rfl);have lne:=bb ia;have ill:(ints l).length=q.length:=(by rw[aR];exact hl);have b1':(iN:Int)<q.length:=U;have b2':(kN:Int)<q.length:=U;refine W.sq ?_;simp only[go_sem,a12,a13,hik];refine W.seq (W.block ?_);refine W.sq ?_;simp only[go_sem,a10,a11,a12,lidy,c2,hrv,lty,hat,lry,ia,b1'];refine⟨U,?_⟩;refine W.seq ?_;refine W.dr 18 [0,1,3,7,0,31,63,0,0,256,768,1792,0,7936,16128,0,65280,130816] mixed ?_;have eA:setAt (ints l) iN [.lit (.int .i64 qb)]=ints (l.set iN qb):=ij U;simp only[go_sem,a10,a11,a12,a13,lidy,c2,hrv,lty,hat,lry,ib,ill,b1',b2',eA];refine⟨U,U,U,?_⟩;obtain⟨Hz,hHz⟩:∃Hz,Hz=Hy.upd idr (.L 0 3 (ints (l.set iN qb))):=⟨_,rfl⟩
    rw[<- hHz];have nz:Hz.C=Hs.C:=(by rw[hHz,aq];exact ny);have zo:∀j,j≠idr->Hz.get j=Hs.get j:=fun j h=>by rw[hHz,ab,PX h];exact yo j h
    have zr:Hz.get idr=some (.L 0 3 (ints (l.set iN qb))):=(by rw[hHz,ab,PZ rfl]);clear hHz;have lidz:=ae ((zo id dd3).trans z5);have ltz:=ae ((zo idt hra.ne).trans hra.top);have lrz:=ae zr;have zll:(ints (l.set iN qb)).length=q.length:=(by rw[aR,P2];exact hl);have zne:¬ints (l.set iN qb)=[]:=fun h=>by have:=congrArg List.length h;rw[zll,List.length_nil]at this;omega
    have eB:setAt (ints (l.set iN qb)) kN [.lit (.int .i64 qa)]=ints ((l.set iN qb).set kN qa):=ij (by rw[P2];omega);have wk:=PW ((kN:Int)-1) U;have wi:=PW ((iN:Int)+1) U;refine W.vs ?_;simp only[go_sem,a10,a11,a13,lidz,c2,hrv,ltz,hat,lrz,zll,b2',eB,wk];refine⟨U,U,?_⟩;refine W.vs ?_;simp only[go_sem,a12,a13,wi];obtain⟨fv,rfl⟩:∃fv,fu=fv+1:=⟨fu-1,U⟩
    refine⟨by rw[aq];omega,⟨(iN:Int)+1,(kN:Int)-1,(l.set iN qb).set kN qa,fv,rfl,rfl,U,U,U,U,by rw[P2,P2];exact hl,by rw[aq];exact nz,fun j h=>by rw[ab,PX h];exact zo j h,by rw[ab,PZ rfl],by rw[<- hrev,K3 hik hqa hqb],U⟩,by rw[h12,h13];simp only[aa,aK];omega⟩
  refine W.sq ?_;simp only[go_sem,u101,h9];refine W.cond (t:=false) rfl ?_;by_cases h10:c=10
  ·refine W.sq ?_;simp only[go_sem,u101,h10];refine W.cond (t:=true) rfl ?_;obtain⟨He,hHe⟩:∃He,He=ext Hs [.L 0 3 [.lit (.int .i64 g)],.L 0 59 [.V Hs.C 0 0 1 1]]:=⟨_,rfl⟩
   have ne':He.C=Hs.C+2:=(by rw[hHe];rfl);have oe:TC Hs He:=(by rw[hHe];exact .ext _ _);have zO:bE (H.C+3) He 83 3 (.V id gg 0 ns.length 3) ns.length cs0:=.inr ⟨id,gg,z1,U,rfl,z4,(oe.nb id z2).trans z5⟩;obtain⟨nh2,H2,hA2,oZ,n2,hp2⟩:=jv (P:=prog) (H:=He) (t:=35) (xs:=[.lit (.int .i64 1),.lit (.slice none 0 0),.V (Hs.C+1) 0 0 1 1]) (m:=Hs.C+3) Try.underlying35 Try.nJ Try.nL rfl rfl (by rw[Try.nK];omega) zO U U;have l12:=ae ((hp2 (H.C+1) U fun g' n hv=>by have:=(Ty.V.inj hv).1;omega).trans ((oe.nb _ U).trans g1));have kk:∀i,i<He.C->i≠id->H2.get i=He.get i:=fun i h1 h2=>hp2 i h1 fun g' n hv=>h2 (Ty.V.inj hv).1.symm;have r1:He.get Hs.C=some (.L 0 3 [.lit (.int .i64 g)]):=(by rw[hHe];exact dV Hs _ 0 Tu);have r2:He.get (Hs.C+1)=some (.L 0 59 [.V Hs.C 0 0 1 1]):=(by rw[hHe];exact dV Hs _ 1 Tu);have nh1':=oZ.one;have nhc':=oZ.cells;rw[ne',hHe,jL]at hA2;simp only[List.cons_append,List.nil_append]at hA2;refine W.vs ?_;simp only[go_sem,u3,s1,hA2,l12,nh1',nhc'];refine(hΦ _).2 ⟨by simp only[go_sem,u3],by simp only[go_sem,u4],g,nh2,ns++[⟨1,[],[[g]]⟩],aJ ns A (aa x.J) (ag x.F) (aS x)++[aa 1,ag [],aS ⟨1,[],[[g]]⟩],by rw[aq];omega,fun i h=>by rw[ab,PX U,kk i U U,oe.nb i U];exact sold i h,by rw[ab,PZ rfl],nh1',nhc',?_,fun H3 h5 h6=>?_,⟨by have:=hs.len;simp;omega,fun y hy=>?_⟩,nq0.snoc (x:=⟨1,[],[[g]]⟩) (.inr rfl) fun _=>rfl,fun h=>absurd (hc.trans h) h0,Tu,by rw[<- hc,h10];unfold df;rw[hx];rfl⟩
   ·obtain⟨q,hq,ql⟩:=g2';exact⟨q,by rw[ab,PX U,kk _ U U,oe.nb _ U];exact hq,ql⟩
   ·have hk3:∀i,H.C+3<=i->H3.get i=H2.get i:=fun i h=>by rw[h6 i U,ab,PX U]
    have n3:H3.C=H2.C:=(by rw[h5,aq]);have oZ3:=oZ.na (H':=H3) U fun i g h1 _ _=>hk3 i h1;have hN3:TV (H.C+3) H3 pv rv ids x:=hN.keepE U fun i g2 e2 c2 h1 h2 h3 h4=>by rw[hk3 i h1,kk i U (nid h3 h4),oe.nb i h2]
    have hl1:(ns++[(⟨1,[],[[g]]⟩:TA)]).length=ns.length+1:=Tu;rw[hl1];refine sP oZ3 (fun i h=>by show H.C<=i;omega) (by rw[hcs0];simp[de]) fun i hi hi'=>?_;have e1:=PV hi;have e2:=PV hi';generalize (cs0++[Ty.lit (.int .i64 1),.lit (.slice none 0 0),.V (Hs.C+1) 0 0 1 1])[i]=u at e1 ⊢;generalize (aJ ns A (aa x.J) (ag x.F) (aS x)++[aa 1,ag [],aS ⟨1,[],[[g]]⟩])[i]=u' at e2 ⊢;rw[hcs0]at e1;by_cases hi3:i<ns.length*3
    ·rw[P3 (by rw[de];exact hi3)]at e1 e2;have:=lO (S:=fun i=>H.C<=i) (H:=H3) (nx:=H.C) (ns:=ns) (A:=A) (c:=x.J) (hN3.pM (hgone _)) (hN3.lL (hgone _)) i (by rw[de];exact hi3) (by rw[de];exact hi3);rw[PV (by rw[de];exact hi3)]at e1 e2;rw[Option.some.inj e1,Option.some.inj e2]at this;exact this
    ·rw[Qc (by rw[de];omega),de]at e1 e2;have hil:i<ns.length*3+3:=(by rw[List.length_append,hcs0,de]at hi;simpa using hi);have h3:i-ns.length*3=0\/i-ns.length*3=1\/i-ns.length*3=2:=U;rcases h3 with h|h|h<;>rw[h]at e1 e2<;>cases e1<;>cases e2
     ·exact .lit _
     ·exact .nil
     ·have hr1:H3.get (Hs.C+1)=_:=(hk3 _ U).trans ((kk _ U U).trans r2);have hr0:H3.get Hs.C=_:=(hk3 _ U).trans ((kk _ U U).trans r1);show Fz _ _ _ _ (av [[g]]);refine .np (show H.C<=Hs.C+1 by omega) hr1 rfl fun j hj h2 h'=>?_;obtain rfl:j=0:=U;refine .np (show H.C<=Hs.C by omega) hr0 rfl fun j hj h2 h'=>?_;obtain rfl:j=0:=U;exact .lit _
   ·rcases Qe.1 hy with hy|hy
    ·exact hsm0.node y hy
    ·obtain rfl:=List.mem_singleton.1 hy;exact⟨Tu,Tu,fun r hr=>by simp at hr;subst hr;exact⟨Tu,Tu⟩⟩
  refine W.sq ?_;simp only[go_sem,u101,h10];refine W.cond (t:=false) rfl ?_;refine W.vs ?_;have wn:=PW ((ns.length:Int)-1) U;simp only[go_sem,u3,s1,sid,wn];refine⟨U,(hΦ _).2 ⟨by simp only[go_sem,u3],by simp only[go_sem,u4],g,_,ns.take (ns.length-1),(aJ ns A (aa x.J) (ag x.F) (aS x)).take ((ns.length-1)*3),by rw[aq];exact Nat.le_refl _,fun i h=>by rw[ab,PX U];exact sold i h,by rw[ab,PZ rfl],rfl,rfl,?_,fun H3 h5 h6=>?_,hsm0.take _,nq0.take _,fun h=>absurd (hc.trans h) h0,by rw[P9];omega,by rw[<- hc,show c=11 by omega];unfold df;rw[hx];rfl⟩⟩
  ·obtain⟨q,hq,ql⟩:=g2';exact⟨q,by rw[ab,PX U];exact hq,ql⟩
  ·have hk3:∀i,H.C+3<=i->H3.get i=Hs.get i:=fun i h=>by rw[h6 i U,ab,PX U]
   have hN3:TV (H.C+3) H3 pv rv ids x:=hN.na (by rw[h5,aq];exact Nat.le_refl _) fun i h1 _=>hk3 i h1;have e1:((ns.length:Int)-1).toNat=ns.length-1:=U;have e2:(ns.take (ns.length-1)).length=ns.length-1:=(by rw[P9];omega);rw[e1,e2];refine .np (show H.C<=id by omega) ((hk3 id z1).trans z5) (by rw[P9,de];omega) fun j hj h2 h'=>?_;have e0:0+j=j:=Nat.zero_add j;simp only[e0,hcs0,RE];exact lO (hN3.pM (hgone _)) (hN3.lL (hgone _)) j _ _
 refine W.sq ?_;simp only[go_sem];refine W.block ?_;refine W.en (fun E1=>E1 2=.Y H.C 0 0 /\ E1 3=.Y (H.C+1) 0 0 /\ E1 4=.Y (H.C+2) 0 0 /\ E1 5=.lit (.slice none 0 0) /\ E1 6=aa 0) (by simp only[go_sem,e2,e3,e4]) fun E1 ⟨a2,a3,a4,a5,a6⟩=>?_
 refine W.aM 1180591620717411271648 (by rfl) (fun ρ Hx=>∃(k:Nat),ρ 6=aa k/\k<=ns.length/\Hb.C<=Hx.C/\(∀id,id<H.C+3->Hx.get id=Hb.get id)/\Az ns A (H.C+3) k Hx (ρ 5)) (fun ρ H=>ns.length-(iv (ρ 6)).toNat) ?_ ?_
 ·simp only[go_sem,a5,a6];refine⟨0,rfl,U,.lit (.slice none 0 0),.lit (.slice none 0 0),?_,rfl,rfl,fun h=>absurd h (Qf _)⟩;have:dc ns A 0 (.lit (.slice none 0 0)) (.lit (.slice none 0 0))=[]:=rfl;rw[this];exact .nil
 rintro ρ Hx ⟨k,h6,hk,nx,hold,hC⟩;obtain⟨nh,h5⟩:∃nh,ρ 5=nh:=⟨_,rfl⟩
 rw[h5]at hC;refine W.en (fun E2=>E2 2=.Y H.C 0 0 /\ E2 3=.Y (H.C+1) 0 0 /\ E2 4=.Y (H.C+2) 0 0 /\ E2 5=nh /\ E2 6=aa k) (by simp only[go_sem,a2,a3,a4,h5,h6]) fun E2 ⟨c2,c3,c4,c5,c6⟩=>?_
 have l1:=ae ((hold _ U).trans b1);by_cases hb:(k:Int)<ns.length;rotate_left
 ·have hke:k=ns.length:=U
  rw[hke]at hC;refine W.vs ?_;simp only[go_sem,c2,c3,c4,c5,c6,l1,hb];exact⟨nx,hold,hC⟩
 obtain⟨x,hx⟩:=az (l:=ns) (i:=k) U;have q0:=gO hx;have q1:=jT hx;have q2:=nM hx;have qn:=dN hx;obtain⟨x1,x2,x3⟩:=hs.node x (an hx);refine W.sq ?_;simp only[go_sem,c3,c6,l1,hb];obtain⟨pv,rv,hO,pv1,rv1,hNA⟩:=hC;refine W.seq ?_;refine W.kj (Q':=fun e s2=>e=.normal/\s2.ρ 6=aa k/\Hx.C<=s2.H.C/\(∀id,id<H.C+3->s2.H.get id=Hb.get id)/\(∀i g e c,i<Hx.C->Hx.get i=some (.L g e c)->e≠83->s2.H.get i=Hx.get i)/\∃pk rk ids,bE (H.C+3) s2.H 83 3 (s2.ρ 5) (k+1) (dc ns A k pv rv++[aa x.J,pk,rk])/\TV (Hx.C+1) s2.H pk rk ids x) ?_ ?_;rotate_left
 ·rintro e s2 ⟨rfl,a6',nx2,old2,kp2,pk,rk,ids,oZ,nodK⟩;have w1:=PW ((k:Int)+1) U;by_cases hkA:k=A
  ·refine⟨s2,.same,Tx,trivial,?_⟩;simp only[go_sem];refine W.vs ?_;simp only[go_sem,a6',w1];refine⟨U,⟨k+1,rfl,U,U,old2,pk,rk,?_,nodK.par.one,(sN nodK.O).1,fun _=>⟨x,by rw[<- hkA];exact hx,ids,nodK.low U⟩⟩,by rw[h6];simp only[aa,aK];omega⟩;rw[<- hkA]at oZ ⊢;rw[KP hx]at oZ;exact oZ
  ·rcases oZ with ⟨_,h0,_⟩|⟨id,gg,z1,z2,z3,z4,z5⟩
   ·omega
   have ec:=KR hx hkA pv rv;have hgone:pL (fun i=>Hx.C<=i/\i≠id) (Hx.C+1) s2.H:=fun i g e c h1 h2 h3 h4=>⟨U,fun he=>by
    subst he;rw[z5]at h3;cases h3;exact h4 rfl⟩
   refine⟨⟨s2.ρ,s2.H.eM Hx.C id (.L gg 83 (dc ns A (k+1) pv rv))⟩,cq.eM aT z5 (by rw[ec];simp) (fun hbel i hi hi'=>?_),Tx,trivial,?_⟩
   ·have e1:=PV hi;have e2:=PV hi';have hm:=hbel _ (Qn hi);generalize (dc ns A k pv rv++[aa x.J,pk,rk])[i]=u at e1 hm ⊢;generalize (dc ns A (k+1) pv rv)[i]=u' at e2 ⊢;rw[ec]at e2;by_cases hip:i<(dc ns A k pv rv).length
    ·rw[P3 hip]at e1 e2;rw[e1]at e2;cases e2;exact .dead hm
    ·rw[Qc U]at e1 e2;have h3:i-(dc ns A k pv rv).length=0\/i-(dc ns A k pv rv).length=1\/i-(dc ns A k pv rv).length=2:=by
      rw[List.length_append]at hi;simp at hi;omega
     rcases h3 with h|h|h<;>rw[h]at e1 e2<;>cases e1<;>cases e2
     ·exact .lit _
     ·exact nodK.pM hgone
     ·exact nodK.lL hgone
   ·simp only[go_sem];refine W.vs ?_;simp only[go_sem,a6',w1];have hmn:(s2.H.eM Hx.C id (.L gg 83 (dc ns A (k+1) pv rv))).C=s2.H.C:=rfl;refine⟨by rw[hmn];omega,⟨k+1,rfl,U,by rw[hmn];omega,fun i hi=>?_,pv,rv,.inr ⟨id,gg,z1,by rw[hmn];exact z2,z3,by rw[ec];simpa using z4,sL⟩,pv1,rv1,fun hlt=>?_⟩,by rw[h6];simp only[aa,aK];omega⟩
    ·rw[sM U U];exact old2 i hi
    ·obtain⟨y,hy,ids',hNy⟩:=hNA U;refine⟨y,hy,ids',hNy.keepE (by rw[hmn];omega) fun i g e c h1 h2 h3 h4=>?_⟩;rw[sM h2 (fun he=>by
      subst he;rw[kp2 i g e c h2 h3 h4,h3]at z5;cases z5;exact h4 rfl)]
     exact kp2 i g e c h2 h3 h4
 refine W.block ?_;refine W.sq ?_;simp only[go_sem,c3,c6,l1,hb,q0,qn];obtain⟨Hp,hHp⟩:∃Hp,Hp=ext Hx [.L 0 83 [.lit (.int .i64 x.J),.lit (.slice none 0 0),.lit (.slice none 0 0)]]:=⟨_,rfl⟩
 have np:Hp.C=Hx.C+1:=hHp▸rfl
 have op:TC Hx Hp:=hHp▸.ext _ _
 have gP:=dA hHp
 rw[<- hHp];clear hHp;refine W.en (fun E3=>E3 2=.Y H.C 0 0 /\ E3 3=.Y (H.C+1) 0 0 /\ E3 5=nh /\ E3 6=aa k /\ E3 7=.Y Hx.C 0 0) (by simp only[go_sem,c2,c3,c5,c6]) fun E3 ⟨d2,d3,d5,d6,d7⟩=>?_
 have lP:=ae gP;have l1p:Hp.Z (H.C+1) 0=_:=(op.Z U).trans l1;refine W.seq ?_;refine W.dr 8 [0,1,0,4,0,28,60,124] mixed ?_;simp only[go_sem,d3,d6,d7,lP,l1p,hb,q1,qn];obtain⟨pk,H2,hA2,oP,n2,hp2⟩:=rz (P:=prog) (H:=Hp) (t:=59) (n:=Hp.C) (lo:=Hp.C) (src:=ints x.F) Try.underlying59 Try.dC Try.eb (jJ _) (by rw[Try.eR,aR,List.length_nil];omega) .nil Tx rfl;rw[List.nil_append]at oP;rw[aR]at hA2;have o2:TC Hp H2:=⟨n2,fun id h=>hp2 id h fun g m=>Tu⟩
 have lP2:H2.Z Hx.C 0=_:=(o2.Z U).trans lP;have pk1:=oP.one;have pkc:=oP.cells;simp only[go_sem,d7,hA2,lP2,pk1,pkc];obtain⟨H3,hH3⟩:∃H3,H3=H2.upd Hx.C (.L 0 83 [.lit (.int .i64 x.J),pk,.lit (.slice none 0 0)]):=⟨_,rfl⟩
 have n3:H3.C=H2.C:=by rw[hH3];rfl
 have h3o:∀id,id<Hx.C->H3.get id=Hx.get id:=fun id h=>by rw[hH3,ab,PX U,o2.nb id U,op.nb id h]
 have h3P:H3.get Hx.C=some (.L 0 83 [.lit (.int .i64 x.J),pk,.lit (.slice none 0 0)]):=by rw[hH3,ab,PZ rfl]
 have h3N:TV (Hx.C+1) H3 pk (.lit (.slice none 0 0)) [] ⟨x.J,x.F,x.O.take 0⟩:=⟨oP.na U U fun id g h1 _ _ _=>by rw[hH3,ab,PX U],.nil,fun _ _ _ _=>Tu,fun _=>rfl⟩
 rw[<- hH3];clear hH3 hA2 lP2 o2 hp2 oP;refine W.en (fun E4=>E4 2=.Y H.C 0 0 /\ E4 3=.Y (H.C+1) 0 0 /\ E4 5=nh /\ E4 6=aa k /\ E4 7=.Y Hx.C 0 0) (by simp only[go_sem,d2,d3,d5,d6,d7]) fun E4 ⟨f2,f3,f5,f6,f7⟩=>?_
 refine W.eO (fun s'=>s'.ρ 5=nh/\s'.ρ 6=aa k/\s'.ρ 7=.Y Hx.C 0 0/\Hx.C<s'.H.C/\(∀id,id<Hx.C->s'.H.get id=Hx.get id)/\∃rk ids,s'.H.get Hx.C=some (.L 0 83 [.lit (.int .i64 x.J),pk,rk])/\TV (Hx.C+1) s'.H pk rk ids x) ?_ ?_
 ·refine W.sq ?_;simp only[go_sem];refine W.block ?_;refine W.en (fun E5=>E5 3=.Y (H.C+1) 0 0 /\ E5 5=nh /\ E5 6=aa k /\ E5 7=.Y Hx.C 0 0 /\ E5 8=aa 0) (by simp only[go_sem,f3,f5,f6,f7]) fun E5 ⟨g3,g5,g6,g7,g8⟩=>?_
  refine W.aM 73786975745082393344 (by rfl) (fun ρ2 Hy=>∃(i:Nat) (rk:Ty) (ids:List Nat),ρ2 8=aa i/\i<=x.O.length/\H3.C<=Hy.C/\(∀id,id<Hx.C->Hy.get id=Hx.get id)/\Hy.get Hx.C=some (.L 0 83 [.lit (.int .i64 x.J),pk,rk])/\TV (Hx.C+1) Hy pk rk ids ⟨x.J,x.F,x.O.take i⟩) (fun ρ H=>x.O.length-(iv (ρ 8)).toNat) ?_ ?_
  ·simp only[go_sem,g8];exact⟨0,_,[],rfl,U,h3o,h3P,h3N⟩
  rintro ρ2 Hy ⟨i,rk,ids,h8,hi,ny,yo,yP,yN⟩;have l1y:=ae ((yo _ U).trans ((hold _ U).trans b1));have lPy:=ae yP;refine W.en (fun E6=>E6 3=.Y (H.C+1) 0 0 /\ E6 5=nh /\ E6 6=aa k /\ E6 7=.Y Hx.C 0 0 /\ E6 8=aa i) (by simp only[go_sem,g3,g5,g6,g7,h8]) fun E6 ⟨k3,k5,k6,k7,k8⟩=>?_
  by_cases hbi:(i:Int)<x.O.length;rotate_left
  ·refine W.vs ?_;simp only[go_sem,k3,k5,k6,k7,k8,l1y,hb,q2,qn,av,hbi];rw[PY U]at yN;exact⟨U,yo,rk,ids,yP,yN⟩
  obtain⟨q,hq⟩:=az (l:=x.O) (i:=i) U;obtain⟨qe,ql⟩:=x3 q (an hq);have ql0:0<q.length:=QT.2 qe;have hqi:(x.O.map ag)[i]?=some (ag q):=by rw[List.getElem?_map,hq];rfl
  have hqn:=bb hq;refine W.sq ?_;simp only[go_sem,k3,k6,k8,l1y,hb,q2,qn,av,hbi];refine W.seq (W.block ?_);refine W.sq ?_;simp only[go_sem];have yN1:x.O.take (i+1)=x.O.take i++[q]:=aO hq;have hA1:=KM (P:=prog) (H:=Hy) (t:=59) (n:=Hy.C) (src:=ints q) Try.underlying59 Try.dC Try.eb (by rw[aR];exact ql0) (by rw[Try.eR,aR];omega) rfl;obtain⟨rk',Hz,hA3,oM,nz,pz⟩:=yN.O.Ay (P:=prog) (n:=Hy.C+1+1) (t:=48) (r:=ints q) Try.underlying48 Try.jQ Try.jS Try.jR Tv (by rw[P8,P9];omega) U rfl;rw[aR]at hA1 hA3;have lPe:∀L,(ext Hy L).Z Hx.C 0=_:=fun L=>(dB U).trans lPy;have l1e:∀L,(ext Hy L).Z (H.C+1) 0=_:=fun L=>(dB U).trans l1y;obtain⟨rv1,rvc⟩:=sN oM;have lPz:Hz.Z Hx.C 0=_:=ae ((pz Hx.C U (yN.O.ne yP Tv)).trans yP);refine W.dr 14 [0,1,0,0,8,0,56,120,248,0,1016,2040,4092,8188] mixed ?_;simp only[go_sem,k3,k6,k7,k8,l1y,lPy,hb,q2,qn,av,hbi,hqi,hqn,hA1,hA3,lPz,rv1,rvc];refine⟨⟨fun _ h=>U,fun _ h=>U⟩,⟨fun _ h=>U,fun _ h=>U⟩,?_⟩;have w1:=PW ((i:Int)+1) U;have zo:∀id g e c,id<Hy.C->Hy.get id=some (.L g e c)->e≠59->Hz.get id=Hy.get id:=fun id g e c h h2 h3=>pz id h (yN.O.ne h2 h3);refine W.vs ?_;simp only[go_sem,k8,w1];refine⟨by rw[aq];omega,⟨i+1,rk',ids++[Hy.C],rfl,U,by rw[aq];omega,fun id h=>?_,by rw[ab,PZ rfl],?_⟩,by rw[h8];simp only[aa,aK];omega⟩
  ·rw[ab,PX U,pz id U (yN.O.top.ne U)];exact yo id h
  ·rw[yN1];have oM':TN (Hx.C+1) (Hz.upd Hx.C (.L 0 83 [.lit (.int .i64 x.J),pk,rk'])) 59 3 rk' (ids++[Hy.C]) ((x.O.take i++[q]).map ints):=by
    rw[Q2];exact oM.na (by rw[aq];exact Nat.le_refl _) fun id h1 _=>by rw[ab,PX U]
   refine⟨yN.par.na Tx (by rw[aq];omega) fun id g h1 h2 h3 _=>by rw[ab,PX U];exact zo id _ _ _ h2 h3 Tv,oM',fun id g m hp hm=>?_,fun e=>absurd e Tu⟩;rcases Qe.1 hm with hm|hm
   ·exact yN.dj id g m hp hm
   ·obtain rfl:=List.mem_singleton.1 hm;rcases yN.par with ⟨h1,_⟩|⟨i2,g2,_,h2,h1,_⟩
    ·rw[h1]at hp;cases hp
    ·rw[h1]at hp;have:=(Ty.V.inj hp).1;omega
 rintro⟨ρn,Hn⟩ ⟨m5,m6,m7,nN,oN,rk,ids,gN,nodN⟩;simp only at m5 m6 m7 nN oN gN nodN;have lN:=ae gN;have rk1:=(sN nodN.O).1;have rkc:=(sN nodN.O).2;have hOn:=hO.na (H':=Hn) U fun id g _ h _=>oN id h;obtain⟨nh',H5,hA5,oZ,n5,p5⟩:=jv (P:=prog) (H:=Hn) (t:=35) (xs:=[.lit (.int .i64 x.J),pk,rk]) (m:=Hn.C+1) Try.underlying35 Try.nJ Try.nL (by simp only[List.all_cons,List.all_nil,pk1,rk1];rfl) rfl (by rw[Try.nK];omega) hOn U rfl;have nhe:∀id g e c,Hn.get id=some (.L g e c)->e≠83->∀g m,nh≠.V id g 0 m 3:=fun id g e c h1 h2 g' m hv=>by
  rcases hOn with ⟨h,_⟩|⟨i2,g2,_,_,h,_,h4⟩
  ·rw[h]at hv;cases hv
  ·rw[h]at hv;obtain rfl:=(Ty.V.inj hv).1;rw[h4]at h1;cases h1;exact h2 rfl
 have nh1:=oZ.one;have nhc:=oZ.cells;refine W.vs ?_;simp only[go_sem,m5,m6,m7,lN,hA5];have keepE:∀id g e c,id<Hn.C->Hn.get id=some (.L g e c)->e≠83->H5.get id=Hn.get id:=fun id g e c h1 h2 h3=>p5 id h1 (nhe id g e c h2 h3);refine⟨U,fun id h=>?_,fun i g e c h1 h2 h3=>by rw[keepE i g e c U ((oN i h1).trans h2) h3,oN i h1],pk,rk,ids,oZ,nodN.keepE n5 fun id g e c _ h1 h2 h3=>keepE id g e c h1 h2 h3⟩
 ·rw[p5 id U (hOn.ne h),oN id U];exact hold id h
end Go.Proofs
namespace Go.Hx
variable {P:Program} {G:Nat->Option (List Ty)}
variable {n ob:Nat}{b:TE}{e:TypeId}
def Tz.fg (H:Tz)(n ob:Nat)(b:TE):Tz:=⟨fun id=>if n<=id then none else if id=ob then some b else H.get id,H.C⟩
variable {H:Tz}
def Bo (h:ob<n):(H.fg n ob b).get ob=some b:=by simp[Tz.fg,SM.2 h]
def Bp {id:Nat}(h:id<n)(h2:id≠ob):(H.fg n ob b).get id=H.get id:=by simp[Tz.fg,SM.2 h,h2]
def Nr (hc:Ue H){g:Nat}{cells cells':List Ty}(hob:H.get ob=some (.L g e cells))(hlt:ob<n)(hl:cells'.length=cells.length)
  (hcell:∀i (h:i<cells.length) (h':i<cells'.length),Fz (fun id=>n<=id) H H.C cells[i] cells'[i]):T8 (fun id=>n<=id) H (H.fg n ob (.L g e cells')) where
 gone id hs:=by simp[Tz.fg,hs]
 kept id b hs hb:=by
  have hbb:=hc.below id b hb;refine⟨hc.lt id b hb,?_⟩;by_cases h:id=ob
  ·subst h;rw[hob]at hb;cases hb;exact⟨.L g e cells',by simp[Tz.fg,hs],rfl,rfl,hl,hcell⟩
  ·refine⟨b,by simp[Tz.fg,hs,h,hb],?_⟩;cases b with
   |ni=>trivial
   |mp=>rfl
   |L g e cells=>exact⟨rfl,rfl,rfl,fun i h _=>.dead (hbb i h)⟩
   |loop st pend n env ps asg body=>exact⟨rfl,rfl,rfl,rfl,rfl,rfl,rfl,fun t ht=>.dead (hbb t ht)⟩
 none id hs hb:=by
  by_cases h:id=ob
  ·subst h;rw[hob]at hb;cases hb
  ·simp[Tz.fg,hs,h,hb]
theorem cq.fg (hG:dJ G){s:St}{g:Nat}{cells cells':List Ty}(hob:s.H.get ob=some (.L g e cells))(hlt:ob<n)(hl:cells'.length=cells.length)
  (hcell:∀i (h:i<cells.length) (h':i<cells'.length),Fz (fun id=>n<=id) s.H s.H.C cells[i] cells'[i]):cq P G s ⟨s.ρ,s.H.fg n ob (.L g e cells')⟩:=by
 intro n' wb Γ a w hs;exact cq.freeze (s:=s) (s':=⟨s.ρ,s.H.fg n ob (.L g e cells')⟩) hG (Nr hs.heap.nl hob hlt hl hcell) (fun t=>.dead (hs.env t).mU) n' wb Γ a w hs
theorem dL.upd {lo:Nat}{e1 e0:TypeId}{v:Ty}{O:List (List Ty)}(h:dL lo H e1 e0 v O){k:Nat}(hk:k<lo):dL lo (H.upd k b) e1 e0 v O:=by
 obtain⟨cs,c1,c2,c3⟩:=h;refine⟨cs,c1.na Tx (by rw[aq];exact Nat.le_refl _) fun id _ h1 _ _ _=>by rw[ab,PX U],c2,fun j r c hr hc=>(c3 j r c hr hc).na Tx (by rw[aq];exact Nat.le_refl _) fun id _ h1 _ _ _=>by rw[ab,PX U]⟩
end Go.Hx
namespace Go.Proofs
open Go.Hx Try
variable {p:Int × Int}{l:List (Int × Int)}{ns:List TA}{i v:Nat}{x:TA}{d:TD}
def jm (ns:List TA)(acc q:Int):Int:=if 0<=q/\q<ns.length/\acc<=1024 then acc*max 1 (min ((aA ns).getD q.toNat 0) 4) else acc
def dE (ns:List TA)(ps:List Int):Int:=ps.foldl (jm ns) 1
def fh (d:TD)(v:Nat)(x:TA):TA:=if d.nn.testBit v=true/\x.O=[]/\1<=x.J/\x.J<=4 then { x with O:=List.replicate (dE d.I x.F).toNat (aQ d.X x.J 0) } else x
def bq (d:TD):List TA:=d.I.zipIdx.map fun p=>fh d p.2 p.1
def fE (d:TD):(bq d).length=d.I.length:=by simp[bq]
def l8 (h:d.I[v]?=some x):(bq d)[v]?=some (fh d v x):=by
 unfold bq;rw[List.getElem?_map,RB,h];simp
def NL {a q:Int}(h:1<=a/\a<=4096):1<=jm ns a q/\jm ns a q<=4096:=by
 unfold jm;split
 ·rename_i hc;generalize hm:max 1 (min ((aA ns).getD q.toNat 0) 4)=m;have h1:1<=m/\m<=4:=U
  have h2:a*1<=a*m:=Qx h1.1 U;have h3:a*m<=1024*4:=QI hc.2.2 h1.2 U U;omega
 ·exact h
def pZ (ns:List TA)(ps:List Int):1<=dE ns ps/\dE ns ps<=4096:=by
 have:∀(l:List Int) (a:Int),1<=a/\a<=4096->1<=l.foldl (jm ns) a/\l.foldl (jm ns) a<=4096:=by
  intro l
  induction l with
  |nil=>exact fun a h=>h
  |cons q l ih=>exact fun a h=>ih _ (NL h)
 exact this ps 1 (U)
def wW (ns:List TA)(l:List Int)(q:Int):dE ns (l++[q])=jm ns (dE ns l) q:=by unfold dE;rw[Rf];rfl
def By (hin:jq x.F ns.length)(hc:∀y∈ns,1<=y.J/\y.J<=4)(hp:au (aY ns x)<=1024):dE ns x.F=au (aY ns x):=by
 have key:∀k,k<=x.F.length->dE ns (x.F.take k)=au ((aY ns x).take k):=by
  intro k
  induction k with
  |zero=>intro _;rfl
  |succ k ih =>
   intro hk;obtain⟨q,hq⟩:=az (l:=x.F) (i:=k) U;have hqr:=hin q (an hq);have hcq:(aY ns x)[k]?=some ((aA ns).getD q.toNat 0):=(by unfold aY bc;rw[List.getElem?_map,hq];rfl);rw[aO hq,aO hcq,wW,fO,ih U];have hm:=me hin hc _ (an hcq);have hle:au ((aY ns x).take k)<=1024:=by
    have h1:au ((aY ns x).take k)*au ((aY ns x).drop k)=au (aY ns x):=(by rw[<- kV,Qq]);have h2:=fB (l:=(aY ns x).take k) fun c h=>(me hin hc c (Qk h)).1;have h3:=fB (l:=(aY ns x).drop k) fun c h=>(me hin hc c (QV h)).1;have h4:au ((aY ns x).take k)*1<=au ((aY ns x).take k)*au ((aY ns x).drop k):=Qx h3 U;omega
   unfold jm;rw[PZ ⟨hqr.1,hqr.2,hle⟩];congr 1;omega
 have:=key x.F.length Tx;rw[PY Tx,PY (by rw[show (aY ns x).length=_ from kg _ _];exact Nat.le_refl _)]at this;exact this
def NM (d:TD)(cs:List Ty)(hnq:TH (fun v=>d.nn.testBit v=true) d.I cs)(hf:TO d)(H:Tz)(K:TF->Tz->Prop)(hK:Ue H->∀(nh:Ty) (ks:List Ty) (H':Tz),TC H H'->bE H.C H' 83 3 nh d.I.length ks->TH (fun _=>False) (bq d) ks->aw prog G0 H K (.agg [.lit (.int .i64 d.X),nh]) H'):af prog G0 54 [bO d cs] H K:=by
 refine af.nl ⟨_,func54,rfl,rfl⟩ fun hcl=>?_;have hl:=hf.I.1;refine af.st (n:=106) (rs:=[.cell 2 64]) func54 ?_;simp only[go_sem,fQ,fF];obtain⟨Hb,hHb⟩:∃Hb,Hb=ext H [.L 0 39 [.lit (.int .i64 d.X),.M d.I.length cs,.lit (.int .u64 (d.nn:Int)),.M d.Q.length (aL d.Q)],.L 0 64 [.lit (.int .i64 0),.lit (.slice none 0 0)],.L 0 64 [.lit (.int .i64 d.X),.lit (.slice none 0 0)]]:=⟨_,rfl⟩
 rw[<- hHb];have g0:=dA hHb
 have g1:=gE hHb 1 rfl
 have g2:=gE hHb 2 rfl
 have nb:Hb.C=H.C+3:=hHb▸rfl
 have ob:TC H Hb:=hHb▸.ext _ _
 clear hHb;refine W.aM 40564819207303340847894502557680 (by rfl) (fun ρ Hx=>∃(k:Nat) (nh:Ty) (ks:List Ty),ρ 4=aa k/\k<=d.I.length/\Hb.C<=Hx.C/\(∀id,id<H.C+2->Hx.get id=Hb.get id)/\Hx.get (H.C+2)=some (.L 0 64 [.lit (.int .i64 d.X),nh])/\bE (H.C+3) Hx 83 3 nh k ks/\TH (fun _=>False) ((bq d).take k) ks) (fun ρ H=>d.I.length-(iv (ρ 4)).toNat) ?_ ?_
 ·simp only[go_sem];exact⟨0,_,[],rfl,U,g2,.nil,.nil⟩
 rintro ρ Hx ⟨k,nh,ks,h4,hk,hnx,hold,hbn,hO,hQ⟩;refine W.en (fun E=>E 1=.Y H.C 0 0 /\ E 2=.Y (H.C+1) 0 0 /\ E 3=.Y (H.C+2) 0 0 /\ E 4=aa k) (by simp only[go_sem,h4]) fun E ⟨e1,e2,e3,e4⟩=>?_
 refine W.vs ?_;have l0:=ae ((hold H.C U).trans g0);by_cases hb:(k:Int)<d.I.length
 ·obtain⟨x,hx⟩:=az (l:=d.I) (i:=k) U;obtain⟨f1,f2,f3⟩:=hf.I.2 x (an hx);have hne:=hnq.ne hx;obtain⟨rv,c0,_,hdis,hdE⟩:=hnq.part hx;have c1:k*3+3<=cs.length:=by rw[hnq.len];omega
  have w1:=PW ((k:Int)+1) U;have rvo:rv.one=true:=by rcases hdis with h|h<;>rw[h]<;>first|rfl|(unfold aS;split<;>rfl)
  have rvc:rv.cells=[rv]:=by rcases hdis with h|h<;>rw[h]<;>first|rfl|(unfold aS;split<;>rfl)
  have rvl:∀H,dK H rv=some (.lit (.int .i64 x.O.length)):=fun H=>by
   rcases hdis with h|h<;>rw[h]
   ·rfl
   ·unfold aS;split
    ·rename_i h;rw[h];rfl
    ·rfl
  have step:∀(Hq:Tz) (rq:Ty) (y:TA),fh d k x=y->y.J=x.J->y.F=x.F->(rq=av y.O\/rq=aS y)->Hx.C<Hq.C->(∀id,id<Hx.C->Hq.get id=Hx.get id) ->
    ∃nh2 H3,bd prog (ext Hq [.L 0 83 [.lit (.int .i64 x.J),.M x.F.length (ints x.F),rq]]) (Hq.C+1) 35 35 nh (.V Hq.C 0 0 1 3)=some (nh2,H3)/\nh2.cells=[nh2]/\nh2.one=true/\H3.Z (H.C+2) 0=some (64,[.lit (.int .i64 d.X),nh]) /\
     ∀b,b=.L 0 64 [.lit (.int .i64 d.X),nh2]->Hb.C<=(H3.upd (H.C+2) b).C/\(∀id,id<H.C+2->(H3.upd (H.C+2) b).get id=Hb.get id)/\(H3.upd (H.C+2) b).get (H.C+2)=some (.L 0 64 [.lit (.int .i64 d.X),nh2])/\bE (H.C+3) (H3.upd (H.C+2) b) 83 3 nh2 (k+1) (ks++[.lit (.int .i64 x.J),.M x.F.length (ints x.F),rq])/\TH (fun _=>False) ((bq d).take (k+1)) (ks++[.lit (.int .i64 x.J),.M x.F.length (ints x.F),rq]):=by
   intro Hq rq y hy y1 y2 hrq hqn hqo;have hOq:bE (H.C+3) Hq 83 3 nh k ks:=hO.na U fun id g _ h _=>hqo id h;have rqo:rq.one=true:=by rcases hrq with h|h<;>rw[h]<;>first|rfl|(unfold aS;split<;>rfl)
   obtain⟨nh2,H3,hA,hO3,hn3,hp3⟩:=jv (P:=prog) (xs:=[.lit (.int .i64 x.J),.M x.F.length (ints x.F),rq]) Try.underlying35 Try.nJ Try.nL (by simp only[List.all_cons,List.all_nil,rqo];rfl) rfl (by rw[Try.nK];omega) hOq U rfl;have na:∀id,id<H.C+3->H3.get id=Hx.get id:=fun id h=>(hp3 id U (hOq.ne h)).trans (hqo id U);refine⟨nh2,H3,hA,hO3.cells,hO3.one,ae ((na _ U).trans hbn),fun b hb=>⟨by rw[aq];omega,fun id h=>by rw[ab,PX U,na id U];exact hold id h,by rw[ab,PZ rfl,hb],?_⟩⟩;have e:TH (fun _=>False) ((bq d).take (k+1)) (ks++[.lit (.int .i64 x.J),.M x.F.length (ints x.F),rq]):=by
    rw[aO (l8 hx),hy];have:=hQ.snoc (x:=y) (rv:=rq) hrq fun h=>h.elim;rw[y1,y2]at this;exact this
   refine⟨?_,e⟩;exact hO3.na (by rw[aq];omega) fun id g h1 _ _=>by rw[ab,PX U]
  obtain⟨Hp,hHp⟩:∃Hp,Hp=ext Hx [.L 0 83 [.lit (.int .i64 x.J),.M x.F.length (ints x.F),rv]]:=⟨_,rfl⟩
  have np:Hp.C=Hx.C+1:=hHp▸rfl
  have gP:=dA hHp
  have pold:∀id,id<Hx.C->Hp.get id=Hx.get id:=fun id h=>by rw[hHp];exact bK h
  have m0:=ae ((pold H.C U).trans ((hold H.C U).trans g0));have m2:=ae ((pold (H.C+2) U).trans hbn);have mP:=ae gP;simp only [go_sem,e1,e4,l0,hb,hne,c0,c1,rvo];rw [← hHp];simp only [go_sem,m0,e4];refine aE.nl (nV d.nn k hf.nn _ _ ⟨trivial,?_⟩);have no : ¬ (d.nn.testBit k=true∧x.O=[]∧1≤x.J∧x.J≤4)→∃ nh2 H3,bd prog (ext Hp [.L 0 83 [.lit (.int .i64 x.J),.M x.F.length (ints x.F),rv]]) (Hp.C+1) 35 35 nh (.V Hp.C 0 0 1 3)=some (nh2,H3)∧nh2.cells=[nh2]∧nh2.one=true∧H3.Z (H.C+2) 0=some (64,[.lit (.int .i64 d.X),nh]) ∧
     ∀b,b=.L 0 64 [.lit (.int .i64 d.X),nh2]->Hb.C<=(H3.upd (H.C+2) b).C/\(∀id,id<H.C+2->(H3.upd (H.C+2) b).get id=Hb.get id)/\(H3.upd (H.C+2) b).get (H.C+2)=some (.L 0 64 [.lit (.int .i64 d.X),nh2])/\bE (H.C+3) (H3.upd (H.C+2) b) 83 3 nh2 (k+1) (ks++[.lit (.int .i64 x.J),.M x.F.length (ints x.F),rv])/\TH (fun _=>False) ((bq d).take (k+1)) (ks++[.lit (.int .i64 x.J),.M x.F.length (ints x.F),rv]):=fun h =>
   step Hp rv x (PX h) rfl rfl hdis U pold
  cases hbit:d.nn.testBit k
  ·obtain⟨nh2,H3,hA,nc,no1,ln,st⟩:=no fun h=>by rw[hbit]at h;cases h.1
   simp only[go_sem,e3,e4,m2,mP,hA,nc,no1,ln,w1];exact⟨(st _ rfl).1,⟨k+1,nh2,_,rfl,U,(st _ rfl).1,(st _ rfl).2.1,(st _ rfl).2.2.1,(st _ rfl).2.2.2.1,(st _ rfl).2.2.2.2⟩,by rw[h4];simp only[aa,aK];omega⟩
  by_cases hr0:x.O=[]
  rotate_left
  ·obtain⟨nh2,H3,hA,nc,no1,ln,st⟩:=no fun h=>hr0 h.2.1;have hr0':¬(x.O.length:Int)=0:=fun h=>hr0 (P1 U);simp only[go_sem,e3,e4,m2,mP,rvl,hr0',hA,nc,no1,ln,w1];exact⟨(st _ rfl).1,⟨k+1,nh2,_,rfl,U,(st _ rfl).1,(st _ rfl).2.1,(st _ rfl).2.2.1,(st _ rfl).2.2.2.1,(st _ rfl).2.2.2.2⟩,by rw[h4];simp only[aa,aK];omega⟩
  have hrn:rv=.lit (.slice none 0 0):=(hdE hbit).trans (PZ hr0);by_cases hc1:x.J >= 1;rotate_left
  ·obtain⟨nh2,H3,hA,nc,no1,ln,st⟩:=no fun h=>hc1 h.2.2.1;rw[hrn]at mP hA;simp only[go_sem,e3,e4,m2,mP,hc1,hA,nc,no1,ln,w1];exact⟨(st _ rfl).1,⟨k+1,nh2,_,rfl,U,(st _ rfl).1,(st _ rfl).2.1,(st _ rfl).2.2.1,(st _ rfl).2.2.2.1,(st _ rfl).2.2.2.2⟩,by rw[h4];simp only[aa,aK];omega⟩
  by_cases hc4:x.J<=4;rotate_left
  ·obtain⟨nh2,H3,hA,nc,no1,ln,st⟩:=no fun h=>hc4 h.2.2.2;rw[hrn]at mP hA;simp only[go_sem,e3,e4,m2,mP,hc1,hc4,hA,nc,no1,ln,w1];exact⟨(st _ rfl).1,⟨k+1,nh2,_,rfl,U,(st _ rfl).1,(st _ rfl).2.1,(st _ rfl).2.2.1,(st _ rfl).2.2.2.1,(st _ rfl).2.2.2.2⟩,by rw[h4];simp only[aa,aK];omega⟩
  clear no;rw[hrn]at mP gP;simp only[go_sem,mP,hc1,hc4];refine W.aM 2417851639158889605235136 (by rfl) (fun ρ2 Hq=>Hq=Hp/\∃j:Nat,ρ2 7=aa j/\j<=x.F.length/\ρ2 6=aa (dE d.I (x.F.take j))) (fun ρ2 H=>x.F.length-(iv (ρ2 7)).toNat) ?_ ?_
  ·simp only[go_sem];exact⟨0,rfl,U,rfl⟩
  rintro ρ2 Hq ⟨hHq,j,h7,hj,h6⟩;subst hHq;refine W.en (fun E2=>E2 1=.Y H.C 0 0 /\ E2 2=.Y (H.C+1) 0 0 /\ E2 3=.Y (H.C+2) 0 0 /\ E2 4=aa k /\ E2 5=.Y Hx.C 0 0 /\ E2 6=aa (dE d.I (x.F.take j)) /\ E2 7=aa j) (by simp only[go_sem,e1,e2,e3,e4,h6,h7]) fun E2 ⟨f1,f2,f3,f4,f5,f6,f7⟩=>?_
  refine W.vs ?_;by_cases hb2:(j:Int)<x.F.length
  ·obtain⟨q,hq⟩:=az (l:=x.F) (i:=j) U;have hqne:=bb hq;have hs:=wW d.I (x.F.take j) q;rw[<- aO hq]at hs;have hrr:=pZ d.I (x.F.take j);have w2:=PW ((j:Int)+1) U;unfold jm at hs;by_cases q0:q >= 0;rotate_left
   ·rw[PX (fun h=>q0 h.1)]at hs;simp only[go_sem,f5,f6,f7,mP,hb2,hq,hqne,q0,w2];exact⟨⟨j+1,rfl,U,by rw[hs]⟩,by rw[h7];simp only[aa,aK];omega⟩
   by_cases q1:q<d.I.length;rotate_left
   ·rw[PX (fun h=>q1 h.2.1)]at hs;simp only[go_sem,f1,f5,f6,f7,mP,m0,hb2,hq,hqne,q0,q1,w2];exact⟨⟨j+1,rfl,U,by rw[hs]⟩,by rw[h7];simp only[aa,aK];omega⟩
   by_cases q2:dE d.I (x.F.take j)<=1024;rotate_left
   ·rw[PX (fun h=>q2 h.2.2)]at hs;simp only[go_sem,f1,f5,f6,f7,mP,m0,hb2,hq,hqne,q0,q1,q2,w2];exact⟨⟨j+1,rfl,U,by rw[hs]⟩,by rw[h7];simp only[aa,aK];omega⟩
   rw[PZ ⟨q0,q1,q2⟩]at hs;obtain⟨u,rfl⟩:=Qb q0;obtain⟨z,hz⟩:=az (l:=d.I) (i:=u) U;have z0:=hnq.c0 hz;have zne:=hnq.ne hz;rw[Int.toNat_natCast,cB (dk hz)]at hs;have hm4:1<=max 1 (min z.J 4)/\max 1 (min z.J 4)<=4:=U;have hmm:(if (if 4<z.J then 4 else z.J) > 1 then if 4<z.J then 4 else z.J else 1)=max 1 (min z.J 4):=(by split<;>split<;>omega);generalize max 1 (min z.J 4)=m at hs hm4 hmm;have hp1:dE d.I (x.F.take j)*m<=1024*4:=QI q2 hm4.2 U U;have hp0:0<=dE d.I (x.F.take j)*m:=Ry U U;have w3:=PW (dE d.I (x.F.take j)*m) U;simp only[go_sem,f1,f5,f6,f7,mP,m0,hb2,hq,hqne,q0,q1,q2,w2,zne,z0,hmm,w3];exact⟨⟨j+1,rfl,U,by rw[hs]⟩,by rw[h7];simp only[aa,aK];omega⟩
  ·have hje:j=x.F.length:=U;rw[hje,PY Tx]at f6;have hRr:=pZ d.I x.F;obtain⟨R,hR⟩:=Qb (show 0<=dE d.I x.F by omega);rw[hR]at f6;obtain⟨cn,hcn⟩:=Qb (show 0<=x.J by omega);have hcn0:(0:Int)<cn:=U;have hcn1:1<=cn:=U;have hcn2:(cn:Int) >= 0:=U;have ury:fh d k x={ x with O:=List.replicate R (aQ d.X x.J 0) }:=by
    unfold fh;rw[PZ ⟨hbit,hr0,hc1,hc4⟩,hR,Int.toNat_natCast]
   simp only[go_sem,f4,f5,f7,mP,hb2];refine W.kj (Q':=fun e s2=>e=.exit 4/\∃rq,s2.ρ 1=.Y H.C 0 0/\s2.ρ 2=.Y (H.C+1) 0 0/\s2.ρ 3=.Y (H.C+2) 0 0/\s2.ρ 4=aa k/\s2.ρ 5=.Y Hx.C 0 0/\Hq.C<=s2.H.C/\(∀id,id<Hx.C->s2.H.get id=Hx.get id)/\s2.H.get Hx.C=some (.L 0 83 [.lit (.int .i64 x.J),.M x.F.length (ints x.F),rq])/\dL Hq.C s2.H 59 3 rq (List.replicate R (ints (aQ d.X x.J 0)))) ?_ ?_;rotate_left
   ·rintro e s2 ⟨rfl,rq,a1,a2,a3,a4,a5,hn2,ho2,hP2,hO2⟩;have hv:=hO2.fz (S:=fun id=>Hq.C<=id) (nx:=s2.H.C) (rows':=List.replicate R (ints (aQ d.X x.J 0))) (fun _ h=>h) rfl fun j r r' h1 h2=>by
     rw[h1]at h2;cases h2;refine⟨rfl,fun i hi _=>?_⟩;have hr:=Qv (an h1);subst hr;have e0:(ints (aQ d.X x.J 0))[i]?=some (ints (aQ d.X x.J 0))[i]:=PV hi;generalize (ints (aQ d.X x.J 0))[i]=a at e0 ⊢;rw[gF]at e0;obtain⟨b,_,rfl⟩:=PU.1 e0;exact .lit _
    rw[Qi,RK]at hv;have hvv:(Ty.M R (List.replicate R (.M (ints (aQ d.X x.J 0)).length (ints (aQ d.X x.J 0)))))=av (List.replicate R (aQ d.X x.J 0)):=by
     unfold av ag;rw[Qi,RK,aR]
    rw[hvv]at hv;refine⟨⟨s2.ρ,s2.H.fg Hq.C Hx.C (.L 0 83 [.lit (.int .i64 x.J),.M x.F.length (ints x.F),av (List.replicate R (aQ d.X x.J 0))])⟩,cq.fg aT hP2 U rfl (fun i hi _=>?_),Tx,trivial,?_⟩
    ·match i,hi with
     |0,_=>exact .lit _
     |1,_=>exact .cK _
     |2,_=>exact hv
    obtain⟨He,hHe⟩:∃He,He=s2.H.fg Hq.C Hx.C (.L 0 83 [.lit (.int .i64 x.J),.M x.F.length (ints x.F),av (List.replicate R (aQ d.X x.J 0))]):=⟨_,rfl⟩
    rw[<- hHe];have gPe:He.get Hx.C=some (.L 0 83 [.lit (.int .i64 x.J),.M x.F.length (ints x.F),av (List.replicate R (aQ d.X x.J 0))]):=(by rw[hHe];exact Bo U);have hoe:∀id,id<Hx.C->He.get id=Hx.get id:=fun id h=>by rw[hHe,Bp U U];exact ho2 id h
    have hne':He.C=s2.H.C:=(by rw[hHe];rfl);clear hHe hv hP2 hO2;have lPe:=ae gPe;have l2e:=ae ((hoe (H.C+2) U).trans hbn);obtain⟨nh2,H3,hA,nc,no1,ln,st⟩:=step He (av (List.replicate R (aQ d.X x.J 0))) _ ury rfl rfl (.inl rfl) U hoe;simp only[go_sem,a2,a3,a4,a5,lPe,l2e,hA,nc,no1,ln,w1];exact⟨(st _ rfl).1,⟨k+1,nh2,_,rfl,U,(st _ rfl).1,(st _ rfl).2.1,(st _ rfl).2.2.1,(st _ rfl).2.2.2.1,(st _ rfl).2.2.2.2⟩,by rw[h4];simp only[aa,aK];omega⟩
   refine W.aM 633822882262475471490002191872 (by rfl) (fun ρ3 Hy=>∃(i:Nat) (rq:Ty),ρ3 9=aa i/\i<=R/\Hq.C<=Hy.C/\(∀id,id<Hx.C->Hy.get id=Hx.get id)/\Hy.get Hx.C=some (.L 0 83 [.lit (.int .i64 x.J),.M x.F.length (ints x.F),rq])/\dL Hq.C Hy 59 3 rq (List.replicate i (ints (aQ d.X x.J 0)))) (fun ρ3 H=>R-(iv (ρ3 9)).toNat) ?_ ?_
   ·simp only[go_sem];exact⟨0,_,rfl,U,pold,gP,.nil⟩
   rintro ρ3 Hy ⟨i,rq,h9,hi,hny,hyo,hyP,hOy⟩;refine W.env fun E3 hE3=>?_;have a1:E3 1=.Y H.C 0 0:=(by rw[hE3];simp only[go_sem,f1]);have a2:E3 2=.Y (H.C+1) 0 0:=(by rw[hE3];simp only[go_sem,f2]);have a3:E3 3=.Y (H.C+2) 0 0:=(by rw[hE3];simp only[go_sem,f3]);have a4:E3 4=aa k:=(by rw[hE3];simp only[go_sem,f4]);have a5:E3 5=.Y Hx.C 0 0:=(by rw[hE3];simp only[go_sem,f5]);have a6:E3 6=aa R:=(by rw[hE3];simp only[go_sem,f6]);have a9:E3 9=aa i:=(by rw[hE3];simp only[go_sem,h9]);clear hE3;refine W.vs ?_;by_cases hb3:(i:Int)<R
   ·have w3:=PW ((i:Int)+1) U;have yP:=ae hyP;have y0:=ae ((hyo H.C U).trans ((hold H.C U).trans g0));rw[hcn]at yP;have y0e:∀L,(ext Hy L).Z H.C 0=_:=fun L=>(dB U).trans y0;have yPe:∀L,(ext Hy L).Z Hx.C 0=_:=fun L=>(dB U).trans yP;have hun:(Ty.lit (.int .i64 d.X) :: List.drop 1 (List.replicate cn (.lit (.int .i64 0))))=ints (aQ d.X x.J 0):=by
     unfold aQ;rw[hcn,Int.toNat_natCast];obtain⟨m,rfl⟩:∃m,cn=m+1:=⟨cn-1,U⟩
     simp[QM,ints,aa]
    have hul:(aQ d.X x.J 0).length=cn:=(by rw[qo,hcn];rfl);obtain⟨Hw,hHw⟩:∃Hw,Hw=ext Hy [.L 0 3 (ints (aQ d.X x.J 0))]:=⟨_,rfl⟩
    have hwn:Hw.C=Hy.C+1:=(by rw[hHw];rfl);have hwo:TC Hy Hw:=(by rw[hHw];exact .ext _ _);have hwg:Hw.get Hy.C=some (.L 0 3 (ints (aQ d.X x.J 0))):=(by rw[hHw];exact bX);have wP:Hw.Z Hx.C 0=_:=(hwo.Z U).trans yP;obtain⟨rq',Hj,hA,hO',hnj,hpj⟩:=dL.app (P:=prog) (H:=Hw) (n:=Hw.C+1) (t:=48) (x:=.V Hy.C 0 0 cn 1) (r:=ints (aQ d.X x.J 0)) Try.underlying48 Try.jQ Try.jS Try.jR Tv (by rw[Qi];omega) (hOy.over hwo) U (.inr ⟨Hy.C,0,U,U,by rw[aR,hul],hwg⟩) rfl;have na:∀id,id<Hq.C->Hj.get id=Hy.get id:=fun id h=>(hpj id U h).trans (hwo.nb id U);have jP:Hj.Z Hx.C 0=_:=ae ((na _ U).trans hyP);obtain⟨cs',hcs'⟩:=id hO';have rc:=hcs'.1.cells;have ro:=hcs'.1.one;rw[hwn,hHw,jL]at hA;simp only[List.cons_append,List.nil_append,Rv,Nat.reduceAdd]at hA;simp only[go_sem,a1,a5,a6,a9,hb3,yP,y0e,yPe,hcn0,hcn2,hun,hA,jP,rc,ro,w3];refine⟨U,by simp;omega,by rw[aq];omega,⟨i+1,rq',rfl,U,by rw[aq];omega,fun id h=>by rw[ab,PX U,na id U];exact hyo id h,by rw[ab,PZ rfl],?_⟩,by rw[h9];simp only[aa,aK];omega⟩;rw[RX];exact hO'.upd (U)
   ·simp only[go_sem,a1,a2,a3,a4,a5,a6,a9,hb3];have:i=R:=U;subst this;exact⟨rq,hny,hyo,hyP,hOy⟩
 ·have hke:k=d.I.length:=U
  have l2:=ae hbn;have l1:=ae ((hold (H.C+1) U).trans g1);have nc:=hO.cells;have no:=hO.one;simp only[go_sem,e1,e2,e3,e4,l0,l1,l2,hb,no];rw[hke]at hO hQ;rw[PY (by rw[fE];exact Nat.le_refl _)]at hQ;refine hK hcl nh ks _ ⟨by rw[aq];have:=ob.C;omega,fun id h=>by rw[ab,PX U,hold id U];exact ob.nb id h⟩ ?_ hQ;rcases hO with ⟨h,hz,hc⟩|⟨id,gg,k1,k2,h,k4,k5⟩
  ·exact .inl ⟨h,hz,hc⟩
  ·exact .inr ⟨id,gg,U,by rw[aq];exact k2,h,k4,by rw[ab,PX U];exact k5⟩
def Bz (d:TD)(cs:List Ty)(hq:TH (fun v=>d.nn.testBit v=true) d.I cs)(hf:TO d)(H:Tz)(K:TF->Tz->Prop)(hK:K (.ret (bR d.X (bq d))) H):af prog G0 54 [bO d cs] H K:=by
 refine NM d cs hq hf H K fun hcl nh ks H' ho hO hQ=>?_;refine aw.bJ (v':=bR d.X (bq d)) aT hcl ho (.agg rfl fun i hi _=>?_) hK
 match i,hi with
 |0,_=>exact .lit _
 |1,_ =>
  show Fz _ _ _ nh (cz (bq d));unfold cz;rw[fE];rcases hO with ⟨h,hz,hc⟩|⟨id,gg,k1,k2,h,k4,k5⟩
  ·have:bq d=[]:=P1 (by rw[fE];exact hz);rw[h,hz,this];exact .nil
  ·rw[h];refine .np k1 k5 (by rw[gM,fE]) fun j hj h2 h'=>?_;have e0:(0:Nat)+j=j:=Nat.zero_add j;have h3:j<ks.length:=U;have:=fun Hq=>hQ.tj (S:=fun id=>H.C<=id) (H:=Hq) (nx:=H.C) j h3 h';simpa only[e0] using this _
def NN {cs:List Int}(hc:∀c∈cs,1<=c):∀(k:Nat) (ps:List Int),k<=cs.length->ps.Pairwise (·<·)->(∀p∈ps,0<=p/\p<k)->au (bc cs ps)<=au (cs.take k):=by
 intro k
 induction k with
 |zero =>
  intro ps _ _ h;cases ps with
  |nil=>exact Int.le_refl _
  |cons p ps=>have:=h p Tu;omega
 |succ k ih =>
  intro ps hk hw h;obtain⟨c,hck⟩:=az (l:=cs) (i:=k) U;have c1:=hc c (an hck);rw[aO hck,fO];have hp:=fB (l:=cs.take k) fun c h=>hc c (Qk h);rcases Tj ps with rfl|⟨qs,q,rfl⟩
  ·show 1<=_;have:=QI hp c1 U U;omega
  ·rw[Tk]at hw h ⊢;have hq:=h q Tu;obtain⟨w1,_,w3⟩:=Rz.1 hw;have hqs:∀p∈qs,0<=p/\p<q:=fun p hp=>⟨(h p (by simp[hp])).1,w3 p hp q Tu⟩
   by_cases hqk:q=k
   ·have h1:=ih qs U w1 fun p hp=>by have:=hqs p hp;omega
    unfold bc at h1 ⊢;rw[Q2,kV];have e:au (List.map (fun p=>cs.getD p.toNat 0) [q])=c:=by
     rw[hqk];simp only[List.map_cons,List.map_nil,Int.toNat_natCast,cB hck,lW,jV,Su]
    rw[e];exact SX h1 (U)
   ·have h1:=ih (qs++[q]) U hw fun p hp=>by
     rcases Qe.1 hp with h'|h'
     ·have:=hqs p h';omega
     ·obtain rfl:=List.mem_singleton.1 h';omega
    have h2:au (cs.take k)*1<=au (cs.take k)*c:=Qx c1 U;omega
def qc (hp:bI x.F ns.length)(hc:∀y∈ns,1<=y.J/\y.J<=4):au (aY ns x)<=au (aA ns):=by
 have h:=NN (cs:=aA ns) (fun c h=>by
  obtain⟨y,hy,rfl⟩:=Qm.1 h;exact(hc y hy).1) ns.length x.F (by rw[fS];exact Nat.le_refl _) hp.1 hp.2
 rw[PY (by rw[fS];exact Nat.le_refl _)]at h;exact h
def wX (h:TR d):bq d=cP d fun _ _=>0:=by
 apply QC;intro v;rcases Ql v d.I.length with hv|hv
 ·obtain⟨x,hx⟩:=az hv;rw[l8 hx,kf hx];unfold fh;by_cases hb:d.nn.testBit v=true
  ·obtain⟨x1,x2⟩:=h.n.dec v x hx hb;have hc:=h.n.J x (an hx);rw[PZ ⟨hb,x1,hc.1,hc.2⟩,qk hx hb];have hsz:=h.net.size;rw[qj]at hsz;have hle:=qc x2 h.n.J;rw[By (fun q hq=>by have:=x2.2 q hq;omega) h.n.J U,x1,List.nil_append];congr 2;unfold ef bB;rw[List.map_const',RD]
  ·rw[PX fun h=>hb h.1,qm hb]
 ·rw[P7 (by rw[fE];exact hv),P7 (by rw[ke];exact hv)]
def dy (d:TD)(v:Nat):Int × Int:=match d.I[v]? with
 |some x=>(bB d.I x,x.J)
 |none=>(0,0)
def bt (d:TD):List (Int × Int):=(aV d).map (dy d)
def dh (l:List (Int × Int)):List Ty:=(l.map fun p=>[aa p.1,aa p.2]).flatten
def wY (h:l[i]?=some p):(dh l)[i*2]?=some (aa p.1):=fN (f:=fun p:Int × Int=>[aa p.1,aa p.2]) (z:=2) (fun _=>rfl) l i 0 p h (U)
def BA (h:l[i]?=some p):(dh l)[i*2+1]?=some (aa p.2):=fN (f:=fun p:Int × Int=>[aa p.1,aa p.2]) (z:=2) (fun _=>rfl) l i 1 p h (U)
def BB (h:l[i]?=some p):¬dh l=[]:=fun e=>by
 have:=wY h;rw[e]at this;simp at this
def BC (l:List (Int × Int))(p:Int × Int):dh (l++[p])=dh l++[aa p.1,aa p.2]:=by unfold dh;simp
def NO {S:Nat->Prop}{H:Tz}{nx:Nat}(l:List (Int × Int)):∀c∈dh l,Fz S H nx c c:=by
 intro c hc;unfold dh at hc;obtain⟨r,hr,hc⟩:=Rj.1 hc;obtain⟨x,_,rfl⟩:=Qm.1 hr;simp only[List.mem_cons,List.not_mem_nil,or_false]at hc;rcases hc with rfl|rfl<;>exact .lit _
def NP (h:TR d)(hv:v<d.I.length)(hb:d.nn.testBit v=true):1<=(dy d v).1/\(dy d v).1<=1024/\1<=(dy d v).2/\(dy d v).2<=4:=by
 obtain⟨x,hx⟩:=az hv;obtain⟨x1,x2⟩:=h.n.dec v x hx hb;have hc:=h.n.J x (an hx);have hsz:=h.net.size;rw[qj]at hsz;have hle:=qc x2 h.n.J;have hps:=fB (l:=aY d.I x) fun c hc=>(me (fun q hq=>by have:=x2.2 q hq;omega) h.n.J c hc).1;unfold dy;rw[hx];show 1<=((bB d.I x:Nat):Int)/\((bB d.I x:Nat):Int)<=1024/\1<=x.J/\x.J<=4;unfold bB;omega
def NQ (d:TD)(cs:List Ty)(hq:TH (fun v=>d.nn.testBit v=true) d.I cs)(hf:TO d)(hok:TR d)(H:Tz)(K:TF->Tz->Prop)(hK:K (.ret (.M (bt d).length (dh (bt d)))) H):af prog G0 57 [bO d cs] H K:=by
 refine af.nl ⟨_,func57,rfl,rfl⟩ fun hcl=>?_;have hl:=hf.I.1;have hn8:=hok.n.n1.2;refine af.st (n:=41) (rs:=[.tmp 2]) func57 ?_;simp only[go_sem,fQ,fF];obtain⟨H1,hH1⟩:∃H1,H1=ext H [.L 0 39 [.lit (.int .i64 d.X),.M d.I.length cs,.lit (.int .u64 (d.nn:Int)),.M d.Q.length (aL d.Q)]]:=⟨_,rfl⟩
 have g0:=dA hH1
 have n1:H1.C=H.C+1:=hH1▸rfl
 have o1:TC H H1:=hH1▸.ext _ _
 rw[<- hH1];clear hH1;have m0:=ae g0;refine aE.nl (Bz d cs hq hf _ _ ⟨trivial,?_⟩);rw[wX hok];simp only[go_sem,bR,cz];obtain⟨H2,hH2⟩:∃H2,H2=ext H1 [.L 0 64 [.lit (.int .i64 d.X),.M (cP d fun _ _=>0).length (aI (cP d fun _ _=>0))]]:=⟨_,rfl⟩
 have g1:=dA hH2
 have o2:TC H1 H2:=hH2▸.ext _ _
 have n2:H2.C=H1.C+1:=hH2▸rfl
 have k0:=(o2.Z (g:=0) (by omega:H.C<H1.C)).trans m0;have k1:=ae g1;rw[<- hH2];clear hH2;simp only[go_sem,k0];refine aE.nl (BQ d cs hf.nn U _ _ ⟨trivial,?_⟩);simp only[go_sem];have dl:(bf (aV d)).length=(aV d).length:=by simp[bf]
 have dl8:(aV d).length<=d.I.length:=kY;refine W.aM 1099511625800 (by rfl) (fun ρ Hx=>∃(k:Nat) (ov:Ty),ρ 6=aa k/\k<=(aV d).length/\TC H2 Hx/\ρ 3=ov/\bE H2.C Hx 118 2 ov k (dh ((bt d).take k))) (fun ρ H=>(aV d).length-(iv (ρ 6)).toNat) ?_ ?_
 ·simp only[go_sem];exact⟨0,_,rfl,U,.refl _,rfl,.nil⟩
 rintro ρ Hx ⟨k,ov,h6,hk,hov,h3,hO⟩;refine W.en (fun E=>E 3=ov /\ E 4=.Y H1.C 0 0 /\ E 5=ag (bf (aV d)) /\ E 6=aa k) (by simp only[go_sem,h3,h6]) fun E ⟨e3,e4,e5,e6⟩=>?_
 refine W.vs ?_;have x1:=(hov.Z (g:=0) (by omega:H1.C<H2.C)).trans k1;have onx:=hov.C;by_cases hb:(k:Int)<(aV d).length
 ·obtain⟨v,hv⟩:=az (l:=aV d) (i:=k) U;obtain⟨v1,v2,_⟩:=jk hv;obtain⟨x,hx⟩:=az v1;have hvi:(bf (aV d))[k]?=some (v:Int):=by unfold bf;rw[List.getElem?_map,hv];rfl
  have hvne:=bb hvi;have hfx:=kf (c:=fun _ _=>0) hx;have f0:=gO hfx;have f2:=nM hfx;have fne:=dN hfx;have hvl:(v:Int)<(cP d fun _ _=>0).length:=by rw[ke];omega
  have w1:=PW ((k:Int)+1) U;have hrc:dy d v=(((dP d (fun _ _=>0) (aV d).length v x).O.length:Int),(dP d (fun _ _=>0) (aV d).length v x).J):=by
   rw[qk hx v2];unfold dy;rw[hx];have:=(hok.n.dec v x hx v2).1;simp[this,ef]
  generalize dP d (fun _ _=>0) (aV d).length v x=y at f0 f2 hrc;obtain⟨ov',Hj,hA,hO',hnj,hpj⟩:=jv (P:=prog) (t:=116) (xs:=[aa y.O.length,aa y.J]) Try.underlying116 Try.wG Try.wI rfl rfl (by rw[Try.wH];omega) hO onx rfl;simp only[aa]at hA;simp only[go_sem,e5,e6,dl,hb];refine W.dr 22 [0,0,2,0,0,24,56,126,254,510,1022,0,2048,0,0,24576,57344,129024,260096,522240,1048574,2097150] mixed ?_;simp only[go_sem,e3,e4,e5,e6,dl,hb,hvi,hvne,x1,f0,f2,fne,hvl,w1,hA,av];have hrg:(bt d)[k]?=some (dy d v):=by unfold bt;rw[List.getElem?_map,hv];rfl
  refine⟨U,⟨k+1,ov',rfl,U,⟨U,fun id h=>(hpj id U (hO.ne h)).trans (hov.nb id h)⟩,rfl,?_⟩,by rw[h6];simp only[aa,aK];omega⟩;rw[aO hrg,BC,hrc];exact hO'
 ·have hke:k=(aV d).length:=U
  simp only[go_sem,e3,e5,e6,dl,hb];have hrl:(bt d).length=(aV d).length:=by simp[bt]
  rw[hke,PY U]at hO;refine aw.bJ aT hcl ((o1.trans o2).trans hov) ?_ hK;rw[hrl];have oh2:=(o1.trans o2).C;rcases hO with ⟨h,hz,hc⟩|⟨id,gg,k1,k2,h,k4,k5⟩
  ·rw[h,hz,hc];exact .nil
  ·rw[h];refine .np U k5 k4 fun j hj h2 h'=>?_;have e0:(0:Nat)+j=j:=Nat.zero_add j;have h3:j<(dh (bt d)).length:=U;have:=fun Hq=>NO (S:=fun id=>H.C<=id) (H:=Hq) (nx:=H.C) (bt d) _ (Qn h3);simpa only[e0] using this _
end Go.Proofs
namespace Go.Hx
open Go.Proofs.R01 (pureRun_bind)
variable {P:Program} {t e:TypeId} {x y:Operand} {k k':IntKind} {a b c d:Int}
end Go.Hx
namespace Go.Proofs
open Go.Hx Try
end Go.Proofs
namespace Go.Hx
variable {P:Program} {G:Nat->Option (List Ty)}
variable {H:Tz}
def PQ (hc:Ue H):T8 (fun _=>False) H H where
 gone id hs:=hs.elim
 kept id b _ hb:=by
  have hbb:=hc.below id b hb;refine⟨hc.lt id b hb,b,hb,?_⟩;cases b with
  |ni=>trivial
  |mp=>rfl
  |L g e cells=>exact⟨rfl,rfl,rfl,fun i h _=>.dead (hbb i h)⟩
  |loop st pend n env ps asg body=>exact⟨rfl,rfl,rfl,rfl,rfl,rfl,rfl,fun t ht=>.dead (hbb t ht)⟩
 none id _ hb:=hb
def af.qy {f:FuncId}{args args':List Ty}{K:TF->Tz->Prop}(hG:dJ G)(hl:args'.length=args.length)(hv:∀i (h:i<args.length) (h':i<args'.length),Fz (fun _=>False) H H.C args[i] args'[i])
  (h:af P G f args' H K):af P G f args H K:=by
 refine⟨h.1,fun Γ w cargs R hr=>?_⟩;have F:=PQ R.nl;have R0:=F.rel hG R;have E0:TJ Γ H w (c7 (fun _=>False) Γ) H w:=F.aU;refine(h.2 _ w cargs R0 ⟨by have:=hr.1;omega,fun i h1 h2=>(hv i U h1).sound R F (hr.2 i U h2)⟩).mono ?_;rintro e w' ⟨r,H',Γ',h1,h2,h3,h4,h5⟩;exact⟨r,H',Γ',h1,h2,h3,E0.trans Tx h4,h5⟩
end Go.Hx
namespace Go.Proofs
open Go.Hx Try
end Go.Proofs
