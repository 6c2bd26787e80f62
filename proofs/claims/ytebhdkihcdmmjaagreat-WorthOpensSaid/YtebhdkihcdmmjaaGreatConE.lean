/- Own work: contracts. -/
import Derived.Test.YtebhdkihcdmmjaaGreatConD
import Derived.Test.YtebhdkihcdmmjaaGreatLibC
import Derived.Test.YtebhdkihcdmmjaaGreatConB
import Derived.Test.YtebhdkihcdmmjaaGreatConA
set_option linter.all false
set_option maxHeartbeats 8000000
set_option maxRecDepth 100000
namespace Go.Proofs
open Go.Hx Tryz
variable {ns:List nna}{k:Nat}{x:nna}
def gV (w a r n:Int):List nnn:=[.lit (.int .u8 w),.lit (.int .u8 a),.lit (.int .u8 r),.lit (.int .i64 n)]
def dU (ns:List nna)(a k:Nat)(pv rv:nnn):List nnn:=((aP (ns.take k)).set (a*3+1) pv).set (a*3+2) rv
def PV (ns:List nna)(a k:Nat)(pv rv:nnn):(dU ns a k pv rv).length=(ns.take k).length*3:=by unfold dU;rw[Xb,Xb,fa]
def PW (h:ns[k]?=some x)(pv rv pk rk:nnn):dU ns k k pv rv++[aa x.Q,pk,rk]=dU ns k (k+1) pk rk:=by
 have hk:=get_lt h;have hl:=fa (ns.take k);have hkl:(ns.take k).length=k:=by rw[Xm];omega
 unfold dU;rw[YE (l:=aP (ns.take k)) U,YE U,aQ h,Az,Yi _ _ U,Yi _ _ U,hl,hkl,show k*3+1-k*3=1 by omega,show k*3+2-k*3=2 by omega];rfl
def PX {a:Nat}(h:ns[k]?=some x)(hne:k≠a)(pv rv:nnn):dU ns a (k+1) pv rv=dU ns a k pv rv++[aa x.Q,ah x.J,aR x]:=by
 have hk:=get_lt h;have hl:=fa (ns.take k);have hkl:(ns.take k).length=k:=by rw[Xm];omega
 unfold dU;rw[aQ h,Az];by_cases ha:a<k
 ·rw[Zs _ _ U,Zs _ _ (by rw[Xb];omega)]
 ·rw[YE (by simp[hl];omega),YE (by simp[hl];omega),YE (l:=aP (ns.take k)) U,YE U]
def DC (ns:List nna)(a lo:Nat)(k:Nat)(H:nnl)(nh:nnn):Prop :=
 ∃pv rv,bI lo H 76 3 nh k (dU ns a k pv rv)/\pv.one=true/\rv.one=true/\(a<k->∃x,ns[a]?=some x/\∃ids,nnv lo H pv rv ids x)
def DD {A id g:Nat}(c pv:nnn):∀i (h:i<(aT ns A c pv (.Z id g 0 0 1)).length) (h':i<(aT ns A c pv (.Z id (g+1) 0 0 1)).length),nnO id g (aT ns A c pv (.Z id g 0 0 1))[i] (aT ns A c pv (.Z id (g+1) 0 0 1))[i]:=by
 intro i h h';have e:aT ns A c pv (.Z id (g+1) 0 0 1)=(aT ns A c pv (.Z id g 0 0 1)).set (A*3+2) (.Z id (g+1) 0 0 1):=(sN c pv _ _).symm;simp only[e,YH];split
 ·rename_i hi;subst hi;have h2:=W5 h;have hA:A<ns.length:=by rw[dV]at h;omega
  rw[lU hA]at h2;rw[<- Option.some.inj h2];exact .hole
 ·exact .same _
structure HoleAt (w r:Int)(ns:List nna)(A:Nat)(x:nna):Prop where
 w5:w % 12=5
 at':ns[A]?=some x
 ne:x.X≠[]
 r0:r % (x.X.length:Int)=0
def PY (w a r n:Int)(hw:0<=w/\w<=255)(ha:0<=a/\a<=255)(hr:0<=r/\r<=255)(g:Int)(ns:List nna)(m:Nat)(hm:m<2 ^ 30)(hs:nnp m ns)(H:nnl)(K:nnf->nnl->Prop)
  (hol:Prop) (xh:nna) (hhol:hol->HoleAt w r ns (a % (ns.length:Int)).toNat xh)
  (hKn:¬hol->∀g' ns' cs,(g',ns',cs)=dW (w % 12) (a % (ns.length:Int)).toNat r n g ns->nnp (m+1) ns'->nnh (fun v=>w % 12=5->v=(a % (ns.length:Int)).toNat->∀x,ns[v]?=some x->x.X≠[]->¬r % (x.X.length:Int)=0) ns' cs->(w % 12=0->ns'=ns)/\ns'.length<=ns.length+1->K (.ret (.agg [aa g',.L ns'.length cs])) H)
  (hKh:hol->∀id gg H',H.C<=id->id<H'.C->(∀j,j<H.C->H'.get j=H.get j)->H'.get id=some (.O gg 72 [])->K (.ret (.agg [aa g,.L ns.length (aT ns (a % (ns.length:Int)).toNat (aa xh.Q) (ah xh.J) (.Z id gg 0 0 1))])) H'):
  af prog G0 39 [.agg (gV w a r n),bS g ns] H K:=by
 refine af.nb ⟨_,func39,rfl,rfl⟩ fun hcl=>?_;refine af.sw (n:=323) (rs:=[.cell 4 90]) func39 ?_;refine W.sq ?_;simp only[go_sem,gV,bS,di];obtain⟨Hb,hHb⟩:∃Hb,Hb=ext H [.O 0 30 [.lit (.int .u8 w),.lit (.int .u8 a),.lit (.int .u8 r),.lit (.int .i64 n)],.O 0 90 [.lit (.int .i64 g),.L ns.length (aG ns)],.O 0 90 [.lit (.int .i64 0),.lit (.slice none 0 0)]]:=⟨_,rfl⟩
 have b0:=de hHb
 have b1:=gE hHb 1 rfl
 have b2:=gE hHb 2 rfl
 have nb:Hb.C=H.C+3:=hHb▸rfl
 have ob:nnd H Hb:=hHb▸.ext _ _
 rw[<- hHb];clear hHb;obtain⟨A,hA⟩:∃A:Nat,A=(a % (ns.length:Int)).toNat:=⟨_,rfl⟩
 have hsl:=hs.len;refine W.en (fun E=>E 2=.Y H.C 0 0 /\ E 3=.Y (H.C+1) 0 0 /\ E 4=.Y (H.C+2) 0 0) (by simp only[go_sem]) fun E ⟨e2,e3,e4⟩=>?_
 refine W.sq ?_;simp only[go_sem];refine W.dI (fun s'=>s'.ρ 2=.Y H.C 0 0/\s'.ρ 3=.Y (H.C+1) 0 0/\s'.ρ 4=.Y (H.C+2) 0 0/\Hb.C<=s'.H.C/\(∀id,id<H.C+3->s'.H.get id=Hb.get id)/\DC ns A (H.C+3) ns.length s'.H (s'.ρ 5)) ?_ ?_;rotate_left
 ·rintro⟨ρ3,Hx⟩ ⟨m2,m3,m4,nx,hold,pv,rv,hO,pv1,rv1,hNA⟩;simp only at m2 m3 m4 nx hold hO hNA;obtain⟨nh,h5⟩:∃nh,ρ3 5=nh:=⟨_,rfl⟩
  rw[h5]at hO;have l1:=ag ((hold _ U).trans b1);have nh1:=hO.one;have nhc:=hO.cells;refine W.sq ?_;simp only[go_sem,m3,h5,l1,nh1,nhc];obtain⟨Hs,hHs⟩:∃Hs,Hs=Hx.upd (H.C+1) (.O 0 90 [.lit (.int .i64 g),nh]):=⟨_,rfl⟩
  rw[<- hHs];have sn:Hs.C=Hx.C:=by rw[hHs];rfl
  have so:∀id,id≠H.C+1->Hs.get id=Hx.get id:=fun id h=>by rw[hHs,ae,W7 h]
  have g1:Hs.get (H.C+1)=some (.O 0 90 [.lit (.int .i64 g),nh]):=by rw[hHs,ae,W8 rfl]
  have g2:Hs.get (H.C+2)=_:=(so _ U).trans ((hold _ U).trans b2);have s1:=ag g1;have s0:Hs.na H.C 0=_:=ag ((so _ U).trans ((hold _ U).trans b0));have s2:=ag g2;have sO:bI (H.C+3) Hs 76 3 nh ns.length (dU ns A ns.length pv rv):=hO.nf U fun id _ h _ _=>so id U;have sold:∀id,id<H.C->Hs.get id=H.get id:=fun id h=>by rw[so id U,hold id U];exact ob.ng id h
  refine W.en (fun E=>E 2=.Y H.C 0 0 /\ E 3=.Y (H.C+1) 0 0 /\ E 4=.Y (H.C+2) 0 0 /\ E 5=nh) (by simp only[go_sem,m2,m3,m4,h5]) fun E ⟨t2,t3,t4,t5⟩=>?_
  clear hHs l1 hO;by_cases hn0:ns.length=0
  ·have hns:ns=[]:=Xc hn0;have hlen:ef Hs nh=some (.lit (.int .i64 0)):=by
    rcases sO with ⟨z1,z2,z3⟩|⟨id,gg,z1,z2,z3,z4,z5⟩
    ·rw[z1];rfl
    ·rw[z3,hn0];unfold ef;simp[ag z5]
   refine W.vs ?_;simp only[go_sem,t3,t4,t5,s1,s2,hlen,nh1];refine ar.bw (v':=.agg [aa g,.L 0 []]) aO hcl (H2:=Hs.upd (H.C+2) _) ⟨by rw[aw];omega,fun id h=>by rw[ae,W7 U];exact sold id h⟩ (.agg rfl fun i hi _=>?_) ?_
   ·match i,hi with
    |0,_=>exact .lit _
    |1,_ =>
     have hO2:bI (H.C+3) (Hs.upd (H.C+2) (.O 0 90 [.lit (.int .i64 g),nh])) 76 3 nh ns.length (dU ns A ns.length pv rv):=sO.nf (by rw[aw];omega) fun id _ h _ _=>by rw[ae,W7 U]
     have hl0:(dU ns A ns.length pv rv).length=0:=(by rw[PV,hn0];rfl);have:=qK (S:=fun id=>H.C<=id) (nx:=H.C) (cs':=[]) hO2 (fun i hi=>U) (by rw[hl0];rfl) fun i hi=>absurd hi U;rw[hn0]at this;exact this
   ·have:=hKn (fun h=>by have:=(hhol h).at';rw[hns]at this;simp at this) g [] [] (by rw[hns];rfl) ⟨aaw,fun x hx=>by simp at hx⟩ ⟨rfl,fun v x hx=>by simp at hx⟩ ⟨fun _=>hns.symm,aaw⟩;exact this
  have hn1:0<ns.length:=U
  rcases sO with ⟨_,z2,_⟩|⟨id,gg,z1,z2,z3,z4,z5⟩
  ·omega
  subst z3;have sid:=ag z5;have hn0':¬(ns.length:Int)=0:=U
  refine W.sq ?_;simp only[go_sem,t5,sid,hn0'];have hAlt:A<ns.length:=by
   have:=YF a (show (0:Int)<ns.length by omega);have:=YN a (show (ns.length:Int)≠0 by omega);omega
  have hAe:Int.tmod a ns.length=A:=by rw[XF ha.1];have:=YN a (show (ns.length:Int)≠0 by omega);omega
  obtain⟨x,hx,ids,hN0⟩:=hNA hAlt;have hN:nnv (H.C+3) Hs pv rv ids x:=hN0.nf U fun id h _=>so id U;clear hN0 hNA;obtain⟨x1,x2,x3⟩:=hs.node x (an hx);have ecs:dU ns A ns.length pv rv=aT ns A (aa x.Q) pv rv:=by unfold dU;rw[W9 aaz];exact P0 hx _ _
  obtain⟨cs0,hcs0⟩:∃c,c=aT ns A (aa x.Q) pv rv:=⟨_,rfl⟩
  rw[ecs,<- hcs0]at z4 z5 sid;have c0:=oz (ns:=ns) hAlt (aa x.Q) pv rv;have c1:=qJ (ns:=ns) hAlt (aa x.Q) pv rv;have c2:=lU (ns:=ns) hAlt (aa x.Q) pv rv;have cl:=dV ns A (aa x.Q) pv rv;have cne:=z9 (ns:=ns) hAlt (aa x.Q) pv rv;rw[<- hcs0]at c0 c1 c2 cl cne;have hA0:(A:Int)<ns.length:=U
  have wa:=W6 a U;have wA:=W6 (A:Int) U;refine W.sq ?_;simp only[go_sem,t2,t5,s0,sid,hAe,hn0',hA0,wa];refine W.sq ?_;simp only[go_sem];have rvl:ef Hs rv=some (aa x.X.length):=by
   have hl:=hN.X.len;rw[Xl]at hl;rcases hN.X.top with ⟨h1,h2⟩|⟨i,g',_,_,h1,h2⟩
   ·have h3:(List.zipWith (fun i n=>nnn.Z i 0 0 n 1) ids ((x.X.map ints).map List.length)).length=0:=(by rw[h2];rfl);simp[hl]at h3;rw[h1,h3];rfl
   ·rw[h1];unfold ef;simp[ag h2,hl,aa]
  refine W.en (fun E=>E 2=.Y H.C 0 0 /\ E 3=.Y (H.C+1) 0 0 /\ E 4=.Y (H.C+2) 0 0 /\ E 5=.Z id gg 0 ns.length 3 /\ E 10=.Y id gg (A*3) /\ E 11=aa (-1)) (by simp only[go_sem,t2,t3,t4,t5]) fun E ⟨u2,u3,u4,u5,u10,u11⟩=>?_
  refine W.dI (fun s'=>s'.H=Hs/\s'.ρ 2=.Y H.C 0 0/\s'.ρ 3=.Y (H.C+1) 0 0/\s'.ρ 4=.Y (H.C+2) 0 0/\s'.ρ 10=.Y id gg (A*3)/\∃R:Int,s'.ρ 11=aa R/\(x.X=[]/\R=-1\/x.X≠[]/\0<=R/\R<x.X.length/\R=r % (x.X.length:Int))) ?_ ?_
  ·refine W.sq ?_;by_cases hr0:x.X=[]
   ·simp only[go_sem,u10,sid,c2,rvl,hr0];refine W.cond (t:=false) rfl ?_;refine W.vs ?_;simp only[go_sem];refine⟨u2,u3,u4,u10,-1,u11,?_⟩;simp[hr0]
   ·have hr1:0<x.X.length:=Yd.2 hr0;have hr2:(0:Int)<x.X.length:=U;have hr3:¬(x.X.length:Int)=0:=U;have wr:=W6 r U;have hRe:Int.tmod r x.X.length=r % x.X.length:=XF hr.1;have hR0:=YN r hr3;have hR1:=YF r hr2;have wR:=W6 (r % (x.X.length:Int)) U;simp only[go_sem,u10,sid,c2,rvl,hr2];refine W.cond (t:=true) rfl ?_;refine W.dr 8 [0,1,3,0,8,24,56,120] mixed ?_;simp only[go_sem,u2,u10,s0,sid,c2,rvl,hr3,wr,hRe];exact⟨u3,u4,_,rfl,.inr ⟨hr0,hR0,hR1,rfl⟩⟩
  rintro⟨ρ4,H4⟩ ⟨hH,v2,v3,v4,v10,R,v11,hR⟩;simp only at hH v2 v3 v4 v10 v11;rw[hH];clear hH;have w8:Int.tmod w 12=w % 12:=XF hw.1;rcases aap hol with hl|hnl
  ·obtain⟨k1,k2,k3,k4⟩:=hhol hl;rw[<- hA]at k2;rw[hx]at k2;obtain rfl:x=xh:=Option.some.inj k2;rcases hR with ⟨hR2,_⟩|⟨_,hR0,hR1,hR3⟩
   ·exact absurd hR2 k3
   rw[k4]at hR3;subst hR3;obtain⟨q,hq⟩:=get_of_lt (l:=x.X) (i:=0) U;obtain⟨idt,gt,cells,idr,hra⟩:=nnt.rowAt hN.X hq;have hrv:=hra.rv;have lt:=ag hra.top;have ltl:=hra.len;have e1:setAt cs0 (A*3+2) [.Z idt gt 0 0 1]=aT ns A (aa x.Q) pv (.Z idt gt 0 0 1):=(by rw[dQ U,hcs0,sN]);have w9:Int.tmod w 12=5:=(by rw[w8];exact k1);have nid:idt≠id:=fun h=>by
    have h1:=hra.top;rw[h,z5]at h1;cases h1
   refine W.dI (fun s'=>s'.ρ 3=.Y (H.C+1) 0 0/\s'.ρ 4=.Y (H.C+2) 0 0/\s'.H=Hs.upd id (.O gg 76 (aT ns A (aa x.Q) pv (.Z idt gt 0 0 1)))) ?_ ?_
   ·refine W.sq ?_;simp only[go_sem,v2,s0,w9];refine W.env fun E hE=>?_;have u3:E 3=.Y (H.C+1) 0 0:=(by rw[hE];simp only[go_sem,v3]);have u4:E 4=.Y (H.C+2) 0 0:=(by rw[hE];simp only[go_sem,v4]);have u10:E 10=.Y id gg (A*3):=(by rw[hE];simp only[go_sem,v10]);have u11:E 11=aa 0:=(by rw[hE];simp only[go_sem,v11]);have u101:E 101=.lit (.int .u8 5):=(by rw[hE];simp only[go_sem]);clear hE v2 v3 v4 v10 v11 t2 t3 t4 t5;refine W.block ?_
    iterate 5
     refine W.sq ?_;simp only[go_sem,u101];refine W.cond (t:=false) rfl ?_
    refine W.sq ?_;simp only[go_sem,u101];refine W.cond (t:=true) rfl ?_;refine W.vs ?_;simp only[go_sem,u10,u11,sid,c2,hrv,lt,e1];exact⟨U,by simp only[go_sem,u3],by simp only[go_sem,u4]⟩
   rintro⟨ρ5,H5⟩ ⟨f3,f4,hH5⟩;simp only at f3 f4 hH5;have g5:∀j,j≠id->H5.get j=Hs.get j:=fun j h=>by rw[hH5,ae,W7 h]
   have d5:H5.get id=some (.O gg 76 (aT ns A (aa x.Q) pv (.Z idt gt 0 0 1))):=(by rw[hH5,ae,W8 rfl]);have n5:H5.C=Hs.C:=(by rw[hH5,aw]);have l5:=ag ((g5 (H.C+1) U).trans g1);have l6:=ag ((g5 (H.C+2) U).trans g2);clear hH5;refine W.vs ?_;simp only[go_sem,f3,f4,l5,l6];obtain⟨H7,hH7⟩:∃H7,H7=H5.upd (H.C+2) (.O 0 90 [.lit (.int .i64 g),.Z id gg 0 ns.length 3]):=⟨_,rfl⟩
   rw[<- hH7];have g7:∀j,j≠H.C+2->H7.get j=H5.get j:=fun j h=>by rw[hH7,ae,W7 h]
   have n7:H7.C=Hs.C:=(by rw[hH7,aw,n5]);clear hH7;have hti:=hra.tlo;refine ar.hole (v':=.agg [aa g,.L ns.length (aT ns A (aa x.Q) (ah x.J) (.Z idt gt 0 0 1))]) (v2:=.agg [aa g,.L ns.length (aT ns A (aa x.Q) (ah x.J) (.Z idt (gt+1) 0 0 1))]) aO ⟨U,fun j h=>by rw[g7 j U,g5 j U];exact sold j h⟩ (id:=idt) U ((g7 idt U).trans ((g5 idt nid).trans hra.top)) (.agg rfl fun i hi _=>?_) (.agg rfl fun i hi _=>?_) (fun H' hn' ho' hg'=>by
    have:=hKh hl idt (gt+1) H' U U ho' hg';rw[<- hA]at this;exact this)
   ·match i,hi with
    |0,_=>exact .lit _
    |1,_ =>
     refine .nq ⟨U,fun h=>nid h.symm⟩ ((g7 id U).trans d5) (dV ..) fun j hj h2' h'=>?_;simp only[Nat.zero_add]at h2' ⊢;refine oA ?_ (.Z U fun h=>h.2 rfl) j h2' h';rcases hN.par with ⟨h3,h4⟩|⟨i3,g3,h1,h2,h3,h4⟩
     ·have:x.J=[]:=(by simpa[ints] using h4);rw[h3,this];exact .nil
     ·rw[h3];have hi3:i3≠id:=fun h=>by rw[h,z5]at h4;cases h4
      have hi4:i3≠idt:=fun h=>by
       have h5:=hra.top;rw[<- h,h4]at h5;cases h5
      have:=Fz.ints (S:=fun j=>H.C<=j/\j≠idt) (nx:=H7.C) (o:=0) (x:=x.J) (n:=(ints x.J).length) ⟨U,hi4⟩ ((g7 i3 U).trans ((g5 i3 hi3).trans h4)) (aZ _) fun j hj=>by rw[Nat.zero_add,gR,W5 hj];rfl
      exact this
   ·match i,hi with
    |0,_=>exact .same _
    |1,_=>exact .L (by rw[dV,dV]) fun j h1 h2=>DD _ _ j h1 h2
  have hK:=hKn hnl;obtain⟨e,he⟩:∃e:Nat->Prop,e=fun v=>w % 12=5->v=A->∀x,ns[v]?=some x->x.X≠[]->¬r % (x.X.length:Int)=0:=⟨_,rfl⟩
  rw[<- hA,<- he]at hK;obtain⟨Φ,hΦ⟩:∃ Φ:St->Prop,∀s',Φ s'↔(s'.ρ 3=.Y (H.C+1) 0 0/\s'.ρ 4=.Y (H.C+2) 0 0/\∃(g':Int) (nv:nnn) (ns':List nna) (cs':List nnn),Hs.C<=s'.H.C/\(∀i,i<H.C->s'.H.get i=H.get i)/\s'.H.get (H.C+1)=some (.O 0 90 [.lit (.int .i64 g'),nv])/\nv.one=true/\nv.cells=[nv]/\(∃q,s'.H.get (H.C+2)=some (.O 0 90 q)/\q.length=2)/\(∀H3,H3.C=s'.H.C->(∀i,i≠H.C+2->H3.get i=s'.H.get i)->Fz (fun i=>H.C<=i) H3 H.C nv (.L ns'.length cs'))/\nnp (m+1) ns'/\nnh e ns' cs'/\(w % 12=0->ns'=ns)/\ns'.length<=ns.length+1/\(g',ns',cs')=dW (w % 12) A r n g ns):=⟨_,fun _=>Iff.rfl⟩
  refine W.dI Φ ?_ ?_;rotate_left
  ·rintro⟨ρ5,H5⟩ hq5;obtain⟨f3,f4,g',nv,ns',cs',n5,o5,p5,nv1,nvc,⟨q,q5,ql⟩,hfz,hsm,hnq,hw0,hw1,hbn⟩:=(hΦ _).1 hq5;simp only at f3 f4 n5 o5 p5 q5 hfz;have l5:=ag p5;obtain⟨q0,q1,rfl⟩:∃q0 q1,q=[q0,q1]:=by
    match q,ql with
    | [q0,q1],_=>exact⟨q0,q1,rfl⟩
   have l6:=ag q5;refine W.vs ?_;simp only[go_sem,f3,f4,l5,l6,nv1];refine ar.bw (v':=.agg [aa g',.L ns'.length cs']) aO hcl ⟨by rw[aw];omega,fun i h=>by rw[ae,W7 U];exact o5 i h⟩ (.agg rfl fun i hi _=>?_) (hK g' ns' cs' hbn hsm hnq ⟨hw0,hw1⟩)
   match i,hi with
   |0,_=>exact .lit _
   |1,_=>exact hfz _ rfl fun i h=>by rw[ae,W7 h]
  refine W.sq ?_;simp only[go_sem,v2,s0,w8];obtain⟨c,hc⟩:∃c,c=w % 12:=⟨_,rfl⟩
  have hc0:0<=c/\c<12:=U
  rw[<- hc];refine W.en (fun E=>E 2=.Y H.C 0 0 /\ E 3=.Y (H.C+1) 0 0 /\ E 4=.Y (H.C+2) 0 0 /\ E 10=.Y id gg (A*3) /\ E 11=aa R /\ E 101=.lit (.int .u8 c)) (by simp only[go_sem,v2,v3,v4,v10,v11]) fun E ⟨u2,u3,u4,u10,u11,u101⟩=>?_
  clear v2 v3 v4 v10 v11 t2 t3 t4 t5;refine W.block ?_;clear hK;have g2':∃q,Hs.get (H.C+2)=some (.O 0 90 q)/\q.length=2:=⟨_,g2,rfl⟩
  have hfin:∀(H3:nnl) (cc:Int) (pv' rv' pw rw:nnn),H3.get id=some (.O gg 76 (aT ns A (aa cc) pv' rv'))->Fz (fun i=>H.C<=i) H3 H.C pv' pw->Fz (fun i=>H.C<=i) H3 H.C rv' rw->Fz (fun i=>H.C<=i) H3 H.C (.Z id gg 0 ns.length 3) (.L ns.length (aT ns A (aa cc) pw rw)):=fun H3 cc pv' rv' pw rw h1 h2 h3=>by
   refine .nq (show H.C<=id by omega) h1 (dV ..) fun j hj h2' h'=>?_;simp only[Nat.zero_add]at h2' ⊢;exact oA h2 h3 j h2' h'
  have hgone:∀H3:nnl,sL (fun i=>H.C<=i) (H.C+3) H3:=fun H3 i g e c h1 _ _ _=>by show H.C<=i;omega
  have hset:ns.set A x=ns:=iV hx;have hsm0:nnp (m+1) ns:=hs.mono (Yb m);have bN:c≠0->c≠10->c≠11->dW c A r n g ns=(g,ns.set A (dB c r n g x).1,aT ns A (aa (dB c r n g x).1.Q) (ah (dB c r n g x).1.J) (dB c r n g x).2):=fun y0 y1 y2=>by
   unfold dW;rw[hx];simp only;rw[W7 y0,W7 y1,W7 y2]
    -- the F as they are
  have same:∀H3:nnl,Hs.C<=H3.C->(∀i,H.C+3<=i->i<Hs.C->H3.get i=Hs.get i)->Fz (fun i=>H.C<=i) H3 H.C (.Z id gg 0 ns.length 3) (.L ns.length (aT ns A (aa x.Q) (ah x.J) (aR x))):=fun H3 h1 h2=>by
   have hN3:=hN.nf (H':=H3) h1 h2;refine hfin H3 _ _ _ _ _ ?_ (hN3.sM (hgone _)) (hN3.oy (hgone _));rw[h2 id z1 z2,z5,hcs0]
  have nq0:nnh e ns (aT ns A (aa x.Q) (ah x.J) (aR x)):=by
   have:=sP (e:=e) (x':=x) (rv:=aR x) hAlt (.inr rfl) fun _=>rfl;rw[hset]at this;exact this
  have noch:∀E':Env,c≠0->c≠10->c≠11->dB c r n g x=(x,aR x)->E' 3=.Y (H.C+1) 0 0->E' 4=.Y (H.C+2) 0 0->Φ ⟨E',Hs⟩:=fun E' y0 y1 y2 y3 h3 h4=>(hΦ _).2 ⟨h3,h4,g,.Z id gg 0 ns.length 3,ns,_,aaz,sold,g1,rfl,rfl,g2',fun H3 h5 h6=>same H3 (by rw[h5];exact Nat.le_refl _) fun i h7 _=>h6 i U,hsm0,nq0,fun _=>rfl,U,by rw[<- hc,bN y0 y1 y2,y3,hset]⟩;by_cases h0:c=0
  ·refine W.sq ?_;simp only[go_sem,u101,h0];refine W.cond (t:=true) rfl ?_;refine W.vs ?_;simp only[go_sem,u2,u3,s0,s1];refine(hΦ _).2 ⟨by simp only[go_sem,u3],by simp only[go_sem,u4],n,.Z id gg 0 ns.length 3,ns,_,by rw[aw];exact Nat.le_refl _,fun i h=>by rw[ae,W7 U];exact sold i h,by rw[ae,W8 rfl],rfl,rfl,?_,fun H3 h5 h6=>same H3 (by rw[h5,aw];exact Nat.le_refl _) fun i h7 _=>by rw[h6 i U,ae,W7 U],hsm0,nq0,fun _=>rfl,U,by rw[<- hc,h0];unfold dW;rw[hx];rfl⟩;obtain⟨q,hq,ql⟩:=g2';exact⟨q,by rw[ae,W7 U];exact hq,ql⟩
    -- one node set anew
  have hset1:∀(E':Env) (H2:nnl) (x':nna) (pv' rv' rw:nnn),E' 3=.Y (H.C+1) 0 0->E' 4=.Y (H.C+2) 0 0->Hs.C<=H2.C->(∀i,i<H.C+3->H2.get i=Hs.get i)->H2.get id=some (.O gg 76 (aT ns A (aa x'.Q) pv' rv')) ->
    (∀H3:nnl,H3.C=H2.C->(∀i,i≠H.C+2->H3.get i=H2.get i)->Fz (fun i=>H.C<=i) H3 H.C pv' (ah x'.J)/\Fz (fun i=>H.C<=i) H3 H.C rv' rw)->(rw=aD x'.X\/rw=aR x')->(e A->rw=aR x')->(x'.J.length<=m+1/\x'.X.length<=m+1/\∀r∈x'.X,r≠[]/\r.length<=m+1)->c≠10->c≠11->dB c r n g x=(x',rw)->Φ ⟨E',H2⟩:=by
   intro E' H2 x' pv' rv' rw h3 h4 hn ho hid hfz hr he2 hsz y1 y2 y3;refine(hΦ _).2 ⟨h3,h4,g,.Z id gg 0 ns.length 3,ns.set A x',aT ns A (aa x'.Q) (ah x'.J) rw,hn,fun i h=>by rw[ho i U];exact sold i h,(ho _ U).trans g1,rfl,rfl,?_,fun H3 h5 h6=>?_,hsm0.set hsz,sP hAlt hr he2,fun h=>absurd (hc.trans h) h0,by rw[Xb];omega,by rw[<- hc,bN h0 y1 y2,y3]⟩
   ·obtain⟨q,hq,ql⟩:=g2';exact⟨q,(ho _ U).trans hq,ql⟩
   ·obtain⟨f1,f2⟩:=hfz H3 h5 h6;have:=hfin H3 x'.Q pv' rv' _ _ ((h6 id U).trans hid) f1 f2;rw[Xb];exact this
  have par3:∀H3:nnl,Hs.C<=H3.C->(∀i g2 e2 c2,H.C+3<=i->i<Hs.C->Hs.get i=some (.O g2 e2 c2)->e2≠76->H3.get i=Hs.get i)->Fz (fun i=>H.C<=i) H3 H.C pv (ah x.J)/\Fz (fun i=>H.C<=i) H3 H.C rv (aR x):=fun H3 h1 h2=>by
   have hN3:=hN.keepE (H':=H3) h1 h2;exact⟨hN3.sM (hgone _),hN3.oy (hgone _)⟩
  have xsz:x.J.length<=m+1/\x.X.length<=m+1/\∀r∈x.X,r≠[]/\r.length<=m+1:=⟨U,U,fun r hr=>⟨(x3 r hr).1,by have:=(x3 r hr).2;omega⟩⟩
  have nid:∀ {i g2 e2 c2},Hs.get i=some (.O g2 e2 c2)->e2≠76->i≠id:=fun h1 h2 h3=>by
   rw[h3,z5]at h1;cases h1;exact h2 rfl
  have pne:∀i g2 e2 c2,Hs.get i=some (.O g2 e2 c2)->e2≠3->∀g n,pv≠.Z i g 0 n 1:=fun i g2 e2 c2 h1 h2 g n hv=>by
   rcases hN.par with ⟨h3,_⟩|⟨i3,g3,_,_,h3,h4⟩
   ·rw[h3]at hv;cases hv
   ·rw[h3]at hv;obtain rfl:=(nnn.Z.inj hv).1;rw[h4]at h1;cases h1;exact h2 rfl
  have plo:∀i,i<H.C+3->∀g n,pv≠.Z i g 0 n 1:=fun i h g n hv=>by
   rcases hN.par with ⟨h3,_⟩|⟨i3,g3,h1,_,h3,h4⟩
   ·rw[h3]at hv;cases hv
   ·rw[h3]at hv;have:=(nnn.Z.inj hv).1;omega
  refine W.sq ?_;simp only[go_sem,u101,h0];refine W.cond (t:=false) rfl ?_;by_cases h1:c=1
  ·refine W.sq ?_;simp only[go_sem,u101,h1];refine W.cond (t:=true) rfl ?_;refine W.vs ?_;have c1l:A*3+1<=cs0.length:=U;have e1:setAt cs0 (A*3) [.lit (.int .i64 n)]=aT ns A (aa n) pv rv:=(by rw[dQ U,hcs0,PZ];rfl);simp only[go_sem,u2,u10,s0,sid,c1l,e1];refine hset1 _ _ { x with Q:=n } pv rv (aR x) (by simp only[go_sem,u3]) (by simp only[go_sem,u4]) (by rw[aw];exact Nat.le_refl _) (fun i h=>by rw[ae,W7 U]) (by rw[ae,W8 rfl];rfl) (fun H3 h5 h6=>?_) (.inr rfl) (fun _=>rfl) xsz U U (by rw[h1];rfl);exact par3 H3 (by rw[h5,aw];exact Nat.le_refl _) fun i g2 e2 c2 h1 _ h3 h4=>by rw[h6 i U,ae,W7 (nid h3 h4)]
  refine W.sq ?_;simp only[go_sem,u101,h1];refine W.cond (t:=false) rfl ?_;by_cases h2:c=2
  ·refine W.sq ?_;simp only[go_sem,u101,h2];refine W.cond (t:=true) rfl ?_;obtain⟨pv2,H2,hA2,oP,n2,hp2⟩:=gf (P:=prog) (H:=Hs) (t:=72) (x:=aa n) (n:=Hs.C+1) Tryz.underlying72 Tryz.dY Tryz.eh rfl (by rw[Tryz.eV,aZ];omega) hN.par U rfl;simp only[aa]at hA2;have kid:H2.get id=_:=(hp2 _ U (pne _ _ _ _ z5 aax)).trans z5;have lid:=ag kid;have c1l:A*3+2<=cs0.length:=U;have e1:setAt cs0 (A*3+1) [pv2]=aT ns A (aa x.Q) pv2 rv:=(by rw[dQ U,hcs0,DE]);have pv21:=oP.one;have pv2c:=oP.cells;have fin2:∀E':Env,E' 3=.Y (H.C+1) 0 0->E' 4=.Y (H.C+2) 0 0->Φ ⟨E',H2.upd id (.O gg 76 (aT ns A (aa x.Q) pv2 rv))⟩:=fun E' h3 h4=>by
    refine hset1 _ _ { x with J:=x.J++[n] } pv2 rv (aR x) h3 h4 (by rw[aw];omega) (fun i h=>by rw[ae,W7 U];exact hp2 i U (plo i h)) (by rw[ae,W8 rfl]) (fun H3 h5 h6=>?_) (.inr rfl) (fun _=>rfl) ⟨by simp;omega,xsz.2.1,xsz.2.2⟩ U U (by rw[h2];rfl);have k3:∀i g2 e2 c2,H.C+3<=i->H2.get i=some (.O g2 e2 c2)->e2≠76->H3.get i=H2.get i:=fun i g2 e2 c2 h1 h3 h4=>by
     rw[h6 i U,ae,W7];rintro rfl;rw[kid]at h3;cases h3;exact h4 rfl
    have oP3:aB (H.C+3) H3 3 pv2 (ints (x.J++[n])):=by
     have:=oP.nf (H':=H3) aaz (by rw[h5,aw];exact Nat.le_refl _) fun i g h1 _ h3 _=>k3 i g _ _ h1 h3 aax;simpa[ints] using this
    have rM:=hN.X.z8 (H':=H3) (by rw[h5,aw];omega) fun i g2 e2 c2 h1 h2 h3 h4=>by
     have h7:H2.get i=Hs.get i:=hp2 i h2 fun g n hv=>by
      rcases h4 with h4|h4
      ·exact pne _ _ _ _ h3 (by rw[h4];decide) _ _ hv
      ·exact hN.dj _ _ _ hv h4
     refine(k3 i g2 e2 c2 h1 (h7.trans h3) ?_).trans h7;rcases h4 with h4|h4
     ·rw[h4];decide
     ·have:=hN.X.elem h4;rw[h3]at this;obtain⟨_,this⟩:=this;cases this;decide
    have hN3:nnv (H.C+3) H3 (.lit (.slice none 0 0)) rv ids { x with J:=[] }:=⟨.nil,rM,fun _ _ _ h=>(by cases h),hN.nil⟩
    exact⟨oP3.ep fun i h=>U,hN3.oy (hgone _)⟩
   refine W.dr 9 [0,0,2,6,14,0,32,96,254] mixed ?_;rcases hN.par with ⟨hv,_⟩|⟨i3,g3,_,_,hv,h4⟩
   ·subst hv;simp only[go_sem,u2,u10,s0,sid,c1,c1l,e1,hA2,lid,pv21,pv2c];exact⟨⟨fun _ h=>U,fun _ h=>U,fun _ h=>U⟩,fin2 _ (by simp only[go_sem,u3]) (by simp only[go_sem,u4])⟩
   ·rw[aZ]at hv;subst hv;simp only[go_sem,u2,u10,s0,sid,c1,c1l,e1,hA2,lid,pv21,pv2c];exact⟨⟨fun _ h=>U,fun _ h=>U,fun _ h=>U⟩,fin2 _ (by simp only[go_sem,u3]) (by simp only[go_sem,u4])⟩
  refine W.sq ?_;simp only[go_sem,u101,h2];refine W.cond (t:=false) rfl ?_;by_cases h3:c=3
  ·refine W.sq ?_;simp only[go_sem,u101,h3];refine W.cond (t:=true) rfl ?_;refine W.vs ?_;have c1l:A*3+2<=cs0.length:=U;have e1:setAt cs0 (A*3+1) [.lit (.slice none 0 0)]=aT ns A (aa x.Q) (.lit (.slice none 0 0)) rv:=(by rw[dQ U,hcs0,DE]);simp only[go_sem,u10,sid,c1l,e1];refine hset1 _ _ { x with J:=[] } (.lit (.slice none 0 0)) rv (aR x) (by simp only[go_sem,u3]) (by simp only[go_sem,u4]) (by rw[aw];exact Nat.le_refl _) (fun i h=>by rw[ae,W7 U]) (by rw[ae,W8 rfl];rfl) (fun H3 h5 h6=>?_) (.inr rfl) (fun _=>rfl) ⟨aaw,xsz.2.1,xsz.2.2⟩ U U (by rw[h3];rfl);exact⟨.nil,(par3 H3 (by rw[h5,aw];exact Nat.le_refl _) fun i g2 e2 c2 h1 _ h3 h4=>by rw[h6 i U,ae,W7 (nid h3 h4)]).2⟩
  refine W.sq ?_;simp only[go_sem,u101,h3];refine W.cond (t:=false) rfl ?_;by_cases h4:c=4
  ·refine W.sq ?_;simp only[go_sem,u101,h4];refine W.cond (t:=true) rfl ?_;obtain⟨rv2,H2,hA2,oM,n2,hp2⟩:=hN.X.DB (P:=prog) (n:=Hs.C+1+1) (t:=74) (r:=ints [n]) Tryz.underlying74 Tryz.mU Tryz.mW Tryz.mV aax (by rw[Xl];omega) U rfl;rw[aZ]at hA2;simp only[ints,aa,List.map_cons,List.map_nil,List.length_cons,List.length_nil,Nat.zero_add]at hA2;have kid:H2.get id=_:=(hp2 _ U (hN.X.ne z5 aax)).trans z5;have lid:=ag kid;have e1:setAt cs0 (A*3+2) [rv2]=aT ns A (aa x.Q) pv rv2:=(by rw[dQ U,hcs0,sN]);have rv21:=oM.top.one;have rv2c:=oM.top.cells;have fin4:∀E':Env,E' 3=.Y (H.C+1) 0 0->E' 4=.Y (H.C+2) 0 0->Φ ⟨E',H2.upd id (.O gg 76 (aT ns A (aa x.Q) pv rv2))⟩:=fun E' h3' h4'=>by
    have hne:({ x with X:=x.X++[[n]] }:nna).X≠[]:=aaw;refine hset1 _ _ { x with X:=x.X++[[n]] } pv rv2 (aR { x with X:=x.X++[[n]] }) h3' h4' (by rw[aw];omega) (fun i h=>by rw[ae,W7 U];exact hp2 i U (hN.X.top.ne U)) (by rw[ae,W8 rfl]) (fun H3 h5 h6=>?_) (.inr rfl) (fun _=>rfl) ⟨xsz.1,by simp;omega,fun r hr=>?_⟩ U U (by rw[h4];rfl)
    ·have k3:∀i g2 e2 c2,H.C+3<=i->H2.get i=some (.O g2 e2 c2)->e2≠76->H3.get i=H2.get i:=fun i g2 e2 c2 h1 h3 h4=>by
      rw[h6 i U,ae,W7];rintro rfl;rw[kid]at h3;cases h3;exact h4 rfl
     have oP3:=hN.par.nf (H':=H3) aaz (by rw[h5,aw];omega) fun i g h1 h2 h3 _=>by
      have h7:H2.get i=Hs.get i:=hp2 i h2 (hN.X.ne h3 aax);exact(k3 i g _ _ h1 (h7.trans h3) aax).trans h7
     have rM:nnt (H.C+3) H3 72 3 rv2 (ids++[Hs.C]) ((x.X++[[n]]).map ints):=by
      have:=oM.z8 (H':=H3) (by rw[h5,aw];exact Nat.le_refl _) fun i g2 e2 c2 h1 _ h3 h4=>k3 i g2 e2 c2 h1 h3 (by
       rcases h4 with h4|h4
       ·rw[h4];decide
       ·have:=oM.elem h4;rw[h3]at this;obtain⟨_,this⟩:=this;cases this;decide)
      rw[X2];exact this
     have hN3:nnv (H.C+3) H3 (.lit (.slice none 0 0)) rv2 (ids++[Hs.C]) { x with J:=[],X:=x.X++[[n]] }:=⟨.nil,rM,fun _ _ _ h=>(by cases h),fun h=>by simp at h⟩
     exact⟨oP3.ep fun i h=>U,hN3.oy (hgone _)⟩
    ·rcases Xt.1 hr with h|h
     ·exact xsz.2.2 r h
     ·obtain rfl:=List.mem_singleton.1 h;exact⟨aaw,aaw⟩
   refine W.dr 10 [0,0,2,6,14,0,32,96,224,510] mixed ?_;have hl:ids.length=x.X.length:=(by have:=hN.X.len;rwa [Xl]at this);rcases hN.X.top with ⟨hv,_⟩|⟨i3,g3,_,_,hv,h4⟩
   ·subst hv;simp only[go_sem,u2,u10,s0,sid,c2,hA2,lid,rv21,rv2c,e1];exact⟨⟨fun _ h=>U,fun _ h=>U,fun _ h=>U⟩,⟨fun _ h=>U,fun _ h=>U,fun _ h=>U⟩,U,fin4 _ (by simp only[go_sem,u3]) (by simp only[go_sem,u4])⟩
   ·subst hv;simp only[go_sem,u2,u10,s0,sid,c2,hA2,lid,rv21,rv2c,e1];exact⟨⟨fun _ h=>U,fun _ h=>U,fun _ h=>U⟩,⟨fun _ h=>U,fun _ h=>U,fun _ h=>U⟩,U,fin4 _ (by simp only[go_sem,u3]) (by simp only[go_sem,u4])⟩
  refine W.sq ?_;simp only[go_sem,u101,h4];refine W.cond (t:=false) rfl ?_
    -- one row of the node
  have row:R=-1/\x.X=[]\/∃(Rn:Nat) (q:List Int) (idt gt:Nat) (cells:List nnn) (idr:Nat),R=(Rn:Int)/\nnu (H.C+3) Hs rv ids x.X Rn q idt gt cells idr/\Rn=(r % (x.X.length:Int)).toNat:=by
   rcases hR with ⟨hR2,hR⟩|⟨_,hR0,hR1,hR3⟩
   ·exact .inl ⟨hR,hR2⟩
   ·obtain⟨Rn,rfl⟩:=Xn hR0;obtain⟨q,hq⟩:=get_of_lt (l:=x.X) (i:=Rn) U;obtain⟨idt,gt,cells,idr,hra⟩:=nnt.rowAt hN.X hq;exact .inr ⟨Rn,q,idt,gt,cells,idr,rfl,hra,U⟩
  have pkeep:∀H3:nnl,Hs.C<=H3.C->(∀i g,H.C+3<=i->i<Hs.C->Hs.get i=some (.O g 3 (ints x.J))->(∀j,j∈ids->i≠j)->H3.get i=Hs.get i)->Fz (fun i=>H.C<=i) H3 H.C pv (ah x.J):=fun H3 h1 h2=>by
   have:=hN.par.nf (H':=H3) aaz h1 fun i g h3 h4 h5 h6=>h2 i g h3 h4 h5 fun j hj he=>by
    subst he;exact hN.dj _ _ _ h6 hj
   exact this.ep fun i h=>U
  have rsz:∀(Rn:Nat) (q q':List Int),x.X[Rn]?=some q->q'≠[]->q'.length<=q.length+1->(x.J.length<=m+1/\(x.X.set Rn q').length<=m+1/\∀r∈x.X.set Rn q',r≠[]/\r.length<=m+1):=fun Rn q q' hq h1 h2=>⟨xsz.1,by rw[Xb];exact xsz.2.1,fun r hr=>by
   rcases XI hr with h|rfl
   ·exact xsz.2.2 r h
   ·have:=(x3 q (an hq)).2;exact⟨h1,U⟩⟩
  by_cases h5:c=5
  ·refine W.sq ?_;simp only[go_sem,u101,h5];refine W.cond (t:=true) rfl ?_;rcases row with ⟨hR1,hRN⟩|⟨Rn,q,idt,gt,cells,idr,hR1,hra,hRn⟩
   ·refine W.vs ?_;simp only[go_sem,u11,hR1];exact noch _ h0 U U (sQ U hRN) (by simp only[go_sem,u3]) (by simp only[go_sem,u4])
   ·refine W.vs ?_;have hRl:=get_lt hra.q;have hrv:=hra.rv;have lt:=ag hra.top;have ltl:=hra.len;have e1:setAt cs0 (A*3+2) [.Z idt gt 0 Rn 1]=aT ns A (aa x.Q) pv (.Z idt gt 0 Rn 1):=(by rw[dQ U,hcs0,sN]);simp only[go_sem,u10,u11,hR1,sid,c2,hrv,lt,e1];refine⟨U,U,?_⟩;refine hset1 _ _ { x with X:=x.X.take Rn } pv (.Z idt gt 0 Rn 1) (aD (x.X.take Rn)) (by simp only[go_sem,u3]) (by simp only[go_sem,u4]) (by rw[aw];exact Nat.le_refl _) (fun i h=>by rw[ae,W7 U]) (by rw[ae,W8 rfl];rfl) (fun H3 h7 h8=>?_) (.inl rfl) (fun hE=>?_) ⟨xsz.1,by simp;omega,fun r hr=>xsz.2.2 r (Xz hr)⟩ U U (by rw[h5];exact P4 hra.q hRn)
    ·have hk3:∀i g2 e2 c2,H.C+3<=i->Hs.get i=some (.O g2 e2 c2)->e2≠76->H3.get i=Hs.get i:=fun i g2 e2 c2 h1 h3 h4=>by rw[h8 i U,ae,W7 (nid h3 h4)]
     have hM3:=hN.X.z8 (H':=H3) (by rw[h7,aw];exact Nat.le_refl _) fun i g2 e2 c2 h1 _ h3 h4=>hk3 i g2 e2 c2 h1 h3 (by
      rcases h4 with h4|h4
      ·rw[h4];decide
      ·obtain⟨_,this⟩:=hN.X.elem h4;rw[h3]at this;cases this;decide)
     exact⟨pkeep H3 (by rw[h7,aw];exact Nat.le_refl _) fun i g h1 _ h3 _=>hk3 i g _ _ h1 h3 aax,nnu.P2 hra hM3 (fun i h=>by show H.C<=i;omega) ((hk3 idt _ _ _ hra.tlo.1 hra.top aax).trans hra.top)⟩
    ·rw[he]at hE;have hx0:x.X≠[]:=fun h=>by rw[h]at hRl;simp at hRl
     have h9:=hE U rfl x hx hx0;have hne:¬x.X.take Rn=[]:=fun h=>by
      have:=congrArg List.length h;rw[Xm,List.length_nil]at this;omega
     unfold aR;rw[W7 hne]
  refine W.sq ?_;simp only[go_sem,u101,h5];refine W.cond (t:=false) rfl ?_
    -- a row's block turned,or its handle
  have fin6:∀(E':Env) (H2:nnl) (Rn:Nat) (q q':List Int) (idt gt:Nat) (cells:List nnn) (idr:Nat) (wv:nnn),nnu (H.C+3) Hs rv ids x.X Rn q idt gt cells idr->E' 3=.Y (H.C+1) 0 0->E' 4=.Y (H.C+2) 0 0->q'≠[]->q'.length<=q.length+1->5<c->c≠10->c≠11->Rn=(r % (x.X.length:Int)).toNat->q'=iM c n g q->Hs.C<=H2.C->(∀i,i<Hs.C->i≠idt->i≠idr->H2.get i=Hs.get i) ->
    H2.get idt=some (.O gt 72 (cells.set Rn wv))->(∀H3:nnl,H3.C=H2.C->(∀i,i≠H.C+2->H3.get i=H2.get i)->Fz (fun i=>H.C<=i) H3 H.C wv (ah q'))->Φ ⟨E',H2⟩:=by
   intro E' H2 Rn q q' idt gt cells idr wv hra h3 h4 hq1 hq2 hc5 hc10 hc11 hRn hqB hn hk ht hfz;have hRl:=get_lt hra.q;have d1:=hra.tlo;have d2:=hra.rlo;have hrne:x.X.set Rn q'≠[]:=fun h=>by
    have:=congrArg List.length h;rw[Xb]at this;simp at this;rw[this]at hRl;simp at hRl
   have hrw:aR { x with X:=x.X.set Rn q' }=aD (x.X.set Rn q'):=qV hrne;refine hset1 E' H2 { x with X:=x.X.set Rn q' } pv rv (aD (x.X.set Rn q')) h3 h4 hn (fun i h=>hk i U U U) ?_ (fun H3 h7 h8=>?_) (.inl rfl) (fun _=>hrw.symm) (rsz Rn q q' hra.q hq1 hq2) hc10 hc11 (by rw[P5 hc5 hra.q hRn,hqB])
   ·rw[hk id z2 (fun h=>nid hra.top aax h.symm) (fun h=>nid hra.row aax h.symm),z5,hcs0]
   ·have hpk:=pkeep H3 (by rw[h7];exact hn) fun i g h1 h2 h3 h4=>by
     rw[h8 i U];refine hk i h2 (fun h=>?_) (h4 idr (an hra.id));rw[h,hra.top]at h3;cases h3
    refine⟨hpk,nnu.P3 hra hN.X (fun i h=>by show H.C<=i;omega) (by rw[h8 idt U];exact ht) (fun i hi hne=>?_) (hfz H3 h7 h8)⟩;have:=hN.X.np i hi;rw[h8 i U];exact hk i this.2 (fun h=>hra.nm (by rw[<- h];exact hi)) hne
  have cset:∀ {Rn:Nat} {q:List Int} {idt gt:Nat} {cells:List nnn} {idr:Nat},nnu (H.C+3) Hs rv ids x.X Rn q idt gt cells idr->cells.set Rn (.Z idr 0 0 q.length 1)=cells:=fun hra=>iV hra.at';have fzrow:∀ {Rn:Nat} {q:List Int} {idt gt:Nat} {cells:List nnn} {idr:Nat},nnu (H.C+3) Hs rv ids x.X Rn q idt gt cells idr->∀(H3:nnl) (l:List Int),l.length=q.length->H3.get idr=some (.O 0 3 (ints l))->Fz (fun i=>H.C<=i) H3 H.C (.Z idr 0 0 q.length 1) (ah l):=fun {Rn q idt gt cells idr} hra H3 l hl hg=>by
   have:=hra.rlo;unfold ah;rw[hl];refine .nq (show H.C<=idr by omega) hg (by rw[aZ,hl,Nat.mul_one]) fun j hj h2 h'=>?_;simp only[Nat.zero_add,ints,Xi];exact .lit _
  by_cases h6:c=6
  ·refine W.sq ?_;simp only[go_sem,u101,h6];refine W.cond (t:=true) rfl ?_;rcases row with ⟨hR1,hRN⟩|⟨Rn,q,idt,gt,cells,idr,hR1,hra,hRn⟩
   ·refine W.sq ?_;simp only[go_sem,u11,hR1];refine W.cond (t:=false) rfl ?_;refine W.vs ?_;simp only[go_sem];exact noch _ h0 U U (sQ U hRN) (by simp only[go_sem,u3]) (by simp only[go_sem,u4])
   ·have hRl:=get_lt hra.q;have hrv:=hra.rv;have lt:=ag hra.top;have lr:=ag hra.row;have ltl:=hra.len;have hat:=hra.at';have tne:=aS hat;have qe:=(x3 q (an hra.q)).1;have ql:0<q.length:=Yd.2 qe;have qli:(0:Int)<q.length:=U;have qne:¬ints q=[]:=fun h=>by have:=congrArg List.length h;rw[aZ,List.length_nil]at this;omega
    refine W.sq ?_;simp only[go_sem,u10,u11,hR1,sid,c2,hrv,lt,lr,hat,qli];refine⟨U,W.cond (t:=true) rfl ?_⟩;have e1:setAt (ints q) 0 [.lit (.int .i64 n)]=ints (q.set 0 n):=ki ql;refine W.dr 9 [0,1,3,7,0,31,63,0,128] mixed ?_;simp only[go_sem,u2,u10,u11,hR1,s0,sid,c2,hrv,lt,lr,hat,qli];refine⟨U,U,fin6 _ _ Rn q (q.set 0 n) idt gt cells idr (.Z idr 0 0 q.length 1) hra (by simp only[go_sem,u3]) (by simp only[go_sem,u4]) (fun h=>by have:=congrArg List.length h;rw[Xb,List.length_nil]at this;omega) (by rw[Xb];omega) U U U hRn (by rw[h6];rfl) (by rw[aw];exact Nat.le_refl _) (fun i _ _ h2=>by rw[ae,W7 h2]) (by rw[cset hra,ae,W7 hra.ne];exact hra.top) fun H3 h7 h8=>fzrow hra H3 _ (Xb ..) ?_⟩;rw[h8 idr (by have:=hra.rlo;omega),ae,W8 rfl];cases q with
    |nil=>exact absurd rfl qe
    |cons a t=>rfl
  refine W.sq ?_;simp only[go_sem,u101,h6];refine W.cond (t:=false) rfl ?_;by_cases h7:c=7
  ·refine W.sq ?_;simp only[go_sem,u101,h7];refine W.cond (t:=true) rfl ?_;rcases row with ⟨hR1,hRN⟩|⟨Rn,q,idt,gt,cells,idr,hR1,hra,hRn⟩
   ·refine W.sq ?_;simp only[go_sem,u11,hR1];refine W.cond (t:=false) rfl ?_;refine W.vs ?_;simp only[go_sem];exact noch _ h0 U U (sQ U hRN) (by simp only[go_sem,u3]) (by simp only[go_sem,u4])
   ·have hRl:=get_lt hra.q;have hrv:=hra.rv;have lt:=ag hra.top;have lr:=ag hra.row;have ltl:=hra.len;have hat:=hra.at';have tne:=aS hat;refine W.sq ?_;simp only[go_sem,u11,hR1];refine W.cond (t:=true) rfl ?_;have hG:aB (H.C+3) Hs 3 (.Z idr 0 0 q.length 1) (ints q):=.inr ⟨idr,0,hra.rlo.1,hra.rlo.2,by rw[aZ],hra.row⟩;have hq2:=(x3 q (an hra.q)).2;obtain⟨w2,H2,hA2,oW,n2,hp2⟩:=gf (P:=prog) (H:=Hs) (t:=72) (x:=aa 0) (n:=Hs.C+1) Tryz.underlying72 Tryz.dY Tryz.eh rfl (by rw[Tryz.eV,aZ];omega) hG U rfl;simp only[aa]at hA2;have k2:∀i,i<Hs.C->i≠idr->H2.get i=Hs.get i:=fun i h1 h2=>hp2 i h1 fun g n hv=>h2 (nnn.Z.inj hv).1.symm;have lt2:=ag ((k2 idt hra.tlo.2 hra.ne).trans hra.top);have w21:=oW.one;have w2c:=oW.cells;have e1:setAt cells Rn [w2]=cells.set Rn w2:=dQ U;refine W.dr 14 [0,1,3,7,0,0,32,96,224,0,992,2016,0,8160] mixed ?_;simp only[go_sem,u10,u11,hR1,sid,c2,hrv,lt,ltl,hat,hA2,lt2,w21,w2c,e1];have dd1:=hra.tlo;have dd2:=hra.rlo;have dd3:idr≠id:=nid hra.row aax;refine⟨U,by repeat' (first|refine And.intro ?_ ?_|(intro x hx;omega)),by repeat' (first|refine And.intro ?_ ?_|(intro x hx;omega)),U,U,fin6 _ _ Rn q (q++[0]) idt gt cells idr w2 hra (by simp only[go_sem,u3]) (by simp only[go_sem,u4]) aaw aaw U U U hRn (by rw[h7];rfl) (by rw[aw];omega) (fun i h1 h2 h3=>by rw[ae,W7 h2];exact k2 i h1 h3) (by rw[ae,W8 rfl]) fun H3 h7 h8=>?_⟩;have oW3:aB (H.C+3) H3 3 w2 (ints (q++[0])):=by
     have:=oW.nf (H':=H3) aaz (by rw[h7,aw];exact Nat.le_refl _) fun i g h1 _ h3 _=>by
      rw[h8 i U,ae,W7];rintro rfl;rw[(k2 _ hra.tlo.2 hra.ne).trans hra.top]at h3;cases h3
     simpa[ints] using this
    exact oW3.ep fun i h=>U
  refine W.sq ?_;simp only[go_sem,u101,h7];refine W.cond (t:=false) rfl ?_;by_cases h8:c=8
  ·refine W.sq ?_;simp only[go_sem,u101,h8];refine W.cond (t:=true) rfl ?_;rcases row with ⟨hR1,hRN⟩|⟨Rn,q,idt,gt,cells,idr,hR1,hra,hRn⟩
   ·refine W.sq ?_;simp only[go_sem,u11,hR1];refine W.cond (t:=false) rfl ?_;refine W.vs ?_;simp only[go_sem];exact noch _ h0 U U (sQ U hRN) (by simp only[go_sem,u3]) (by simp only[go_sem,u4])
   ·have hRl:=get_lt hra.q;have hrv:=hra.rv;have lt:=ag hra.top;have lr:=ag hra.row;have ltl:=hra.len;have hat:=hra.at';have tne:=aS hat;have qe:=(x3 q (an hra.q)).1;have ql:0<q.length:=Yd.2 qe;have qli:(0:Int)<q.length:=U;refine W.sq ?_;simp only[go_sem,u10,u11,hR1,sid,c2,hrv,lt,lr,hat,qli];refine⟨U,W.cond (t:=true) rfl ?_⟩;refine W.seq ?_;refine W.dr 14 [0,1,3,7,0,0,32,96,224,0,992,2016,4064,8160] mixed ?_;have dd1:=hra.tlo;have dd2:=hra.rlo;have dd3:idr≠id:=nid hra.row aax;have dd4:idt≠id:=nid hra.top aax;have hq2:=(x3 q (an hra.q)).2;have lte:∀L,(ext Hs L).na idt gt=_:=fun L=>(cB U).trans lt;have side:∀L,(ext Hs L).na id gg=_:=fun L=>(cB U).trans sid;have e1:setAt cells Rn [.Z Hs.C 0 0 q.length 1]=cells.set Rn (.Z Hs.C 0 0 q.length 1):=dQ U;simp only[go_sem,u10,u11,hR1,sid,c2,hrv,lt,lr,ltl,hat,lte,e1];obtain⟨H2,hH2⟩:∃H2,H2=(ext Hs [.O 0 3 (List.replicate q.length (.lit (.int .i64 0)))]).upd idt (.O gt 72 (cells.set Rn (.Z Hs.C 0 0 q.length 1))):=⟨_,rfl⟩
    rw[<- hH2];have n2:H2.C=Hs.C+1:=(by rw[hH2];rfl);have k2:∀i,i<Hs.C->i≠idt->H2.get i=Hs.get i:=fun i h1 h2=>by rw[hH2,ae,W7 h2];exact cV _ _ _ h1
    have t2:H2.get idt=some (.O gt 72 (cells.set Rn (.Z Hs.C 0 0 q.length 1))):=(by rw[hH2,ae,W8 rfl]);have r2:H2.get Hs.C=some (.O 0 3 (List.replicate q.length (.lit (.int .i64 0)))):=(by rw[hH2,ae,W7 U];exact bY ..);clear hH2;have lt2:=ag t2;have lr2:=ag r2;have lid2:=ag ((k2 id z2 (fun h=>dd4 h.symm)).trans z5);have l12:=ag ((k2 (H.C+1) U U).trans g1);have at2:(cells.set Rn (.Z Hs.C 0 0 q.length 1))[Rn]?=some (.Z Hs.C 0 0 q.length 1):=Xj U;have tne2:=aS at2;have len2:(cells.set Rn (.Z Hs.C 0 0 q.length 1)).length=x.X.length:=(by rw[Xb];exact ltl);have rne:¬List.replicate q.length (nnn.lit (.int .i64 0))=[]:=fun h=>by have:=congrArg List.length h;rw[XH,List.length_nil]at this;omega
    refine⟨U,U,by repeat' (first|refine And.intro ?_ ?_|(intro x hx;omega)),U,U,?_⟩;refine W.dr 9 [0,1,3,7,0,31,63,0,128] mixed ?_;simp only[go_sem,u3,u10,u11,hR1,lid2,l12,c2,hrv,lt2,lr2,at2,qli];refine⟨U,by rw[XH];omega,fin6 _ _ Rn q (g :: List.replicate (q.length-1) 0) idt gt cells idr (.Z Hs.C 0 0 q.length 1) hra (by simp only[go_sem,u3]) (by simp only[go_sem,u4]) aaw (by rw[List.length_cons,XH];omega) U U U hRn (by rw[h8];rfl) (by rw[aw];omega) (fun i h1 h2 _=>by rw[ae,W7 U];exact k2 i h1 h2) (by rw[ae,W7 U];exact t2) fun H3 h7 h8=>?_⟩;obtain⟨ml,hml⟩:∃ml,q.length=ml+1:=⟨q.length-1,U⟩
    have hgr:H3.get Hs.C=some (.O 0 3 (ints (g :: List.replicate ml 0))):=by
     rw[h8 Hs.C U,ae,W8 rfl,hml];simp[YB,ints,aa]
    unfold ah;rw[hml,Zl,show (g :: List.replicate ml (0:Int)).length=ml+1 by simp];refine .nq (show H.C<=Hs.C by omega) hgr (by rw[aZ];simp) fun j hj h2 h'=>?_;simp only[Nat.zero_add,ints,Xi];exact .lit _
  refine W.sq ?_;simp only[go_sem,u101,h8];refine W.cond (t:=false) rfl ?_;by_cases h9:c=9
  ·refine W.sq ?_;simp only[go_sem,u101,h9];refine W.cond (t:=true) rfl ?_;rcases row with ⟨hR1,hRN⟩|⟨Rn,q,idt,gt,cells,idr,hR1,hra,hRn⟩
   ·refine W.sq ?_;simp only[go_sem,u11,hR1];refine W.cond (t:=false) rfl ?_;refine W.vs ?_;simp only[go_sem];exact noch _ h0 U U (sQ U hRN) (by simp only[go_sem,u3]) (by simp only[go_sem,u4])
   ·have hRl:=get_lt hra.q;have hrv:=hra.rv;have lt:=ag hra.top;have lr:=ag hra.row;have ltl:=hra.len;have hat:=hra.at';have tne:=aS hat;have hq2:=(x3 q (an hra.q)).2;have w1:=W6 ((q.length:Int)-1) U;refine W.sq ?_;simp only[go_sem,u11,hR1];refine W.cond (t:=true) rfl ?_;refine W.seq ?_;refine W.dr 10 [0,1,3,7,0,31,63,127,255,0] mixed ?_;simp only[go_sem,u10,u11,hR1,sid,c2,hrv,lt,lr,hat,w1];have qe:=(x3 q (an hra.q)).1;have ql:0<q.length:=Yd.2 qe;refine⟨U,W.block ?_⟩;refine W.env fun E1 hE1=>?_;have y3:E1 3=.Y (H.C+1) 0 0:=(by rw[hE1];simp only[go_sem,u3]);have y4:E1 4=.Y (H.C+2) 0 0:=(by rw[hE1];simp only[go_sem,u4]);have y10:E1 10=.Y id gg (A*3):=(by rw[hE1];simp only[go_sem,u10]);have y11:E1 11=aa (Rn:Int):=(by rw[hE1];simp only[go_sem,u11,hR1]);have y12:E1 12=aa 0:=(by rw[hE1];simp only[go_sem]);have y13:E1 13=aa ((q.length:Int)-1):=(by rw[hE1];simp only[go_sem]);clear hE1;refine W.aM 2085924839766484109564043631985174802744541411009508283535333416154492349816150761370611118080 aay (fun ρ Hy=>∃(i k:Int) (l:List Int) (fu:Nat),ρ 12=aa i/\ρ 13=aa k/\0<=i/\k<q.length/\i<=q.length/\-1<=k/\l.length=q.length/\Hy.C=Hs.C/\(∀j,j≠idr->Hy.get j=Hs.get j)/\Hy.get idr=some (.O 0 3 (ints l))/\jk fu i k l=jk (q.length+1) 0 ((q.length:Int)-1) q/\k-i<fu) (fun ρ H=>(iv (ρ 13)-iv (ρ 12)+1).toNat) ?_ ?_
    ·simp only[go_sem,y12,y13];exact⟨0,_,q,q.length+1,rfl,rfl,U,U,U,U,rfl,hra.row,rfl,U⟩
    rintro ρ5 Hy ⟨i,k,l,fu,h12,h13,i0,k0,i1,k1,hl,ny,yo,yr,hrev,hfu⟩;refine W.env fun E2 hE2=>?_;have a3:E2 3=.Y (H.C+1) 0 0:=(by rw[hE2];simp only[go_sem,y3]);have a4:E2 4=.Y (H.C+2) 0 0:=(by rw[hE2];simp only[go_sem,y4]);have a10:E2 10=.Y id gg (A*3):=(by rw[hE2];simp only[go_sem,y10]);have a11:E2 11=aa (Rn:Int):=(by rw[hE2];simp only[go_sem,y11]);have a12:E2 12=aa i:=(by rw[hE2];simp only[go_sem,h12]);have a13:E2 13=aa k:=(by rw[hE2];simp only[go_sem,h13]);clear hE2;have dd1:=hra.tlo;have dd2:=hra.rlo;have dd3:id≠idr:=fun h=>nid hra.row aax h.symm;have lidy:=ag ((yo id dd3).trans z5);have lty:=ag ((yo idt hra.ne).trans hra.top);have lry:=ag yr;by_cases hik:i<k;rotate_left
    ·refine W.vs ?_;simp only[go_sem,a12,a13,hik];refine fin6 _ _ Rn q l idt gt cells idr (.Z idr 0 0 q.length 1) hra (by simp only[go_sem,a3]) (by simp only[go_sem,a4]) (fun h=>by rw[h]at hl;simp at hl;omega) U U U U hRn (by rw[h9,show iM 9 n g q=jk (q.length+1) 0 ((q.length:Int)-1) q from rfl,<- hrev,P7 hik]) U (fun j _ _ h2=>yo j h2) (by rw[cset hra,yo idt hra.ne];exact hra.top) fun H3 h7 h8=>fzrow hra H3 l hl (by rw[h8 idr U];exact yr)
    obtain⟨iN,rfl⟩:=Xn i0;obtain⟨kN,rfl⟩:=Xn (show 0<=k by omega);obtain⟨qa,hqa⟩:=get_of_lt (l:=l) (i:=iN) U;obtain⟨qb,hqb⟩:=get_of_lt (l:=l) (i:=kN) U;have ia:(ints l)[iN]?=some (aa qa):=(by rw[gR,hqa];rfl);have ib:(ints l)[kN]?=some (aa qb):=(by rw[gR,hqb];rfl);have lne:=aS ia;have ill:(ints l).length=q.length:=(by rw[aZ];exact hl);have b1':(iN:Int)<q.length:=U;have b2':(kN:Int)<q.length:=U;refine W.sq ?_;simp only[go_sem,a12,a13,hik];refine W.seq (W.block ?_);refine W.sq ?_;simp only[go_sem,a10,a11,a12,lidy,c2,hrv,lty,hat,lry,ia,b1'];refine⟨U,?_⟩;refine W.seq ?_;refine W.dr 18 [0,1,3,7,0,31,63,0,0,256,768,1792,0,7936,16128,0,65280,130816] mixed ?_;have eA:setAt (ints l) iN [.lit (.int .i64 qb)]=ints (l.set iN qb):=ki U;simp only[go_sem,a10,a11,a12,a13,lidy,c2,hrv,lty,hat,lry,ib,ill,b1',b2',eA];refine⟨U,U,U,?_⟩;obtain⟨Hz,hHz⟩:∃Hz,Hz=Hy.upd idr (.O 0 3 (ints (l.set iN qb))):=⟨_,rfl⟩
    rw[<- hHz];have nz:Hz.C=Hs.C:=(by rw[hHz,aw];exact ny);have zo:∀j,j≠idr->Hz.get j=Hs.get j:=fun j h=>by rw[hHz,ae,W7 h];exact yo j h
    have zr:Hz.get idr=some (.O 0 3 (ints (l.set iN qb))):=(by rw[hHz,ae,W8 rfl]);clear hHz;have lidz:=ag ((zo id dd3).trans z5);have ltz:=ag ((zo idt hra.ne).trans hra.top);have lrz:=ag zr;have zll:(ints (l.set iN qb)).length=q.length:=(by rw[aZ,Xb];exact hl);have zne:¬ints (l.set iN qb)=[]:=fun h=>by have:=congrArg List.length h;rw[zll,List.length_nil]at this;omega
    have eB:setAt (ints (l.set iN qb)) kN [.lit (.int .i64 qa)]=ints ((l.set iN qb).set kN qa):=ki (by rw[Xb];omega);have wk:=W6 ((kN:Int)-1) U;have wi:=W6 ((iN:Int)+1) U;refine W.vs ?_;simp only[go_sem,a10,a11,a13,lidz,c2,hrv,ltz,hat,lrz,zll,b2',eB,wk];refine⟨U,U,?_⟩;refine W.vs ?_;simp only[go_sem,a12,a13,wi];obtain⟨fv,rfl⟩:∃fv,fu=fv+1:=⟨fu-1,U⟩
    refine⟨by rw[aw];omega,⟨(iN:Int)+1,(kN:Int)-1,(l.set iN qb).set kN qa,fv,rfl,rfl,U,U,U,U,by rw[Xb,Xb];exact hl,by rw[aw];exact nz,fun j h=>by rw[ae,W7 h];exact zo j h,by rw[ae,W8 rfl],by rw[<- hrev,P8 hik hqa hqb],U⟩,by rw[h12,h13];simp only[aa,aI];omega⟩
  refine W.sq ?_;simp only[go_sem,u101,h9];refine W.cond (t:=false) rfl ?_;by_cases h10:c=10
  ·refine W.sq ?_;simp only[go_sem,u101,h10];refine W.cond (t:=true) rfl ?_;obtain⟨He,hHe⟩:∃He,He=ext Hs [.O 0 3 [.lit (.int .i64 g)],.O 0 72 [.Z Hs.C 0 0 1 1]]:=⟨_,rfl⟩
   have ne':He.C=Hs.C+2:=(by rw[hHe];rfl);have oe:nnd Hs He:=(by rw[hHe];exact .ext _ _);have zO:bI (H.C+3) He 76 3 (.Z id gg 0 ns.length 3) ns.length cs0:=.inr ⟨id,gg,z1,U,rfl,z4,(oe.ng id z2).trans z5⟩;obtain⟨nh2,H2,hA2,oZ,n2,hp2⟩:=mj (P:=prog) (H:=He) (t:=35) (xs:=[.lit (.int .i64 1),.lit (.slice none 0 0),.Z (Hs.C+1) 0 0 1 1]) (m:=Hs.C+3) Tryz.underlying35 Tryz.oD Tryz.oF rfl rfl (by rw[Tryz.oE];omega) zO U U;have l12:=ag ((hp2 (H.C+1) U fun g' n hv=>by have:=(nnn.Z.inj hv).1;omega).trans ((oe.ng _ U).trans g1));have kk:∀i,i<He.C->i≠id->H2.get i=He.get i:=fun i h1 h2=>hp2 i h1 fun g' n hv=>h2 (nnn.Z.inj hv).1.symm;have r1:He.get Hs.C=some (.O 0 3 [.lit (.int .i64 g)]):=(by rw[hHe];exact cO Hs _ 0 aaw);have r2:He.get (Hs.C+1)=some (.O 0 72 [.Z Hs.C 0 0 1 1]):=(by rw[hHe];exact cO Hs _ 1 aaw);have nh1':=oZ.one;have nhc':=oZ.cells;rw[ne',hHe,eT]at hA2;simp only[List.cons_append,List.nil_append]at hA2;refine W.vs ?_;simp only[go_sem,u3,s1,hA2,l12,nh1',nhc'];refine(hΦ _).2 ⟨by simp only[go_sem,u3],by simp only[go_sem,u4],g,nh2,ns++[⟨1,[],[[g]]⟩],aT ns A (aa x.Q) (ah x.J) (aR x)++[aa 1,ah [],aR ⟨1,[],[[g]]⟩],by rw[aw];omega,fun i h=>by rw[ae,W7 U,kk i U U,oe.ng i U];exact sold i h,by rw[ae,W8 rfl],nh1',nhc',?_,fun H3 h5 h6=>?_,⟨by have:=hs.len;simp;omega,fun y hy=>?_⟩,nq0.snoc (x:=⟨1,[],[[g]]⟩) (.inr rfl) fun _=>rfl,fun h=>absurd (hc.trans h) h0,aaw,by rw[<- hc,h10];unfold dW;rw[hx];rfl⟩
   ·obtain⟨q,hq,ql⟩:=g2';exact⟨q,by rw[ae,W7 U,kk _ U U,oe.ng _ U];exact hq,ql⟩
   ·have hk3:∀i,H.C+3<=i->H3.get i=H2.get i:=fun i h=>by rw[h6 i U,ae,W7 U]
    have n3:H3.C=H2.C:=(by rw[h5,aw]);have oZ3:=oZ.nf (H':=H3) U fun i g h1 _ _=>hk3 i h1;have hN3:nnv (H.C+3) H3 pv rv ids x:=hN.keepE U fun i g2 e2 c2 h1 h2 h3 h4=>by rw[hk3 i h1,kk i U (nid h3 h4),oe.ng i h2]
    have hl1:(ns++[(⟨1,[],[[g]]⟩:nna)]).length=ns.length+1:=aaw;rw[hl1];refine qK oZ3 (fun i h=>by show H.C<=i;omega) (by rw[hcs0];simp[dV]) fun i hi hi'=>?_;have e1:=W5 hi;have e2:=W5 hi';generalize (cs0++[nnn.lit (.int .i64 1),.lit (.slice none 0 0),.Z (Hs.C+1) 0 0 1 1])[i]=u at e1 ⊢;generalize (aT ns A (aa x.Q) (ah x.J) (aR x)++[aa 1,ah [],aR ⟨1,[],[[g]]⟩])[i]=u' at e2 ⊢;rw[hcs0]at e1;by_cases hi3:i<ns.length*3
    ·rw[Xe (by rw[dV];exact hi3)]at e1 e2;have:=oA (S:=fun i=>H.C<=i) (H:=H3) (nx:=H.C) (ns:=ns) (A:=A) (c:=x.Q) (hN3.sM (hgone _)) (hN3.oy (hgone _)) i (by rw[dV];exact hi3) (by rw[dV];exact hi3);rw[W5 (by rw[dV];exact hi3)]at e1 e2;rw[Option.some.inj e1,Option.some.inj e2]at this;exact this
    ·rw[Xp (by rw[dV];omega),dV]at e1 e2;have hil:i<ns.length*3+3:=(by rw[List.length_append,hcs0,dV]at hi;simpa using hi);have h3:i-ns.length*3=0\/i-ns.length*3=1\/i-ns.length*3=2:=U;rcases h3 with h|h|h<;>rw[h]at e1 e2<;>cases e1<;>cases e2
     ·exact .lit _
     ·exact .nil
     ·have hr1:H3.get (Hs.C+1)=_:=(hk3 _ U).trans ((kk _ U U).trans r2);have hr0:H3.get Hs.C=_:=(hk3 _ U).trans ((kk _ U U).trans r1);show Fz _ _ _ _ (aD [[g]]);refine .nq (show H.C<=Hs.C+1 by omega) hr1 rfl fun j hj h2 h'=>?_;obtain rfl:j=0:=U;refine .nq (show H.C<=Hs.C by omega) hr0 rfl fun j hj h2 h'=>?_;obtain rfl:j=0:=U;exact .lit _
   ·rcases Xt.1 hy with hy|hy
    ·exact hsm0.node y hy
    ·obtain rfl:=List.mem_singleton.1 hy;exact⟨aaw,aaw,fun r hr=>by simp at hr;subst hr;exact⟨aaw,aaw⟩⟩
  refine W.sq ?_;simp only[go_sem,u101,h10];refine W.cond (t:=false) rfl ?_;refine W.vs ?_;have wn:=W6 ((ns.length:Int)-1) U;simp only[go_sem,u3,s1,sid,wn];refine⟨U,(hΦ _).2 ⟨by simp only[go_sem,u3],by simp only[go_sem,u4],g,_,ns.take (ns.length-1),(aT ns A (aa x.Q) (ah x.J) (aR x)).take ((ns.length-1)*3),by rw[aw];exact Nat.le_refl _,fun i h=>by rw[ae,W7 U];exact sold i h,by rw[ae,W8 rfl],rfl,rfl,?_,fun H3 h5 h6=>?_,hsm0.take _,nq0.take _,fun h=>absurd (hc.trans h) h0,by rw[Xm];omega,by rw[<- hc,show c=11 by omega];unfold dW;rw[hx];rfl⟩⟩
  ·obtain⟨q,hq,ql⟩:=g2';exact⟨q,by rw[ae,W7 U];exact hq,ql⟩
  ·have hk3:∀i,H.C+3<=i->H3.get i=Hs.get i:=fun i h=>by rw[h6 i U,ae,W7 U]
   have hN3:nnv (H.C+3) H3 pv rv ids x:=hN.nf (by rw[h5,aw];exact Nat.le_refl _) fun i h1 _=>hk3 i h1;have e1:((ns.length:Int)-1).toNat=ns.length-1:=U;have e2:(ns.take (ns.length-1)).length=ns.length-1:=(by rw[Xm];omega);rw[e1,e2];refine .nq (show H.C<=id by omega) ((hk3 id z1).trans z5) (by rw[Xm,dV];omega) fun j hj h2 h'=>?_;have e0:0+j=j:=Nat.zero_add j;simp only[e0,hcs0,YY];exact oA (hN3.sM (hgone _)) (hN3.oy (hgone _)) j _ _
 refine W.sq ?_;simp only[go_sem];refine W.block ?_;refine W.en (fun E1=>E1 2=.Y H.C 0 0 /\ E1 3=.Y (H.C+1) 0 0 /\ E1 4=.Y (H.C+2) 0 0 /\ E1 5=.lit (.slice none 0 0) /\ E1 6=aa 0) (by simp only[go_sem,e2,e3,e4]) fun E1 ⟨a2,a3,a4,a5,a6⟩=>?_
 refine W.aM 1180591620717411271648 (by rfl) (fun ρ Hx=>∃(k:Nat),ρ 6=aa k/\k<=ns.length/\Hb.C<=Hx.C/\(∀id,id<H.C+3->Hx.get id=Hb.get id)/\DC ns A (H.C+3) k Hx (ρ 5)) (fun ρ H=>ns.length-(iv (ρ 6)).toNat) ?_ ?_
 ·simp only[go_sem,a5,a6];refine⟨0,rfl,U,.lit (.slice none 0 0),.lit (.slice none 0 0),?_,rfl,rfl,fun h=>absurd h (Xo _)⟩;have:dU ns A 0 (.lit (.slice none 0 0)) (.lit (.slice none 0 0))=[]:=rfl;rw[this];exact .nil
 rintro ρ Hx ⟨k,h6,hk,nx,hold,hC⟩;obtain⟨nh,h5⟩:∃nh,ρ 5=nh:=⟨_,rfl⟩
 rw[h5]at hC;refine W.en (fun E2=>E2 2=.Y H.C 0 0 /\ E2 3=.Y (H.C+1) 0 0 /\ E2 4=.Y (H.C+2) 0 0 /\ E2 5=nh /\ E2 6=aa k) (by simp only[go_sem,a2,a3,a4,h5,h6]) fun E2 ⟨c2,c3,c4,c5,c6⟩=>?_
 have l1:=ag ((hold _ U).trans b1);by_cases hb:(k:Int)<ns.length;rotate_left
 ·have hke:k=ns.length:=U
  rw[hke]at hC;refine W.vs ?_;simp only[go_sem,c2,c3,c4,c5,c6,l1,hb];exact⟨nx,hold,hC⟩
 obtain⟨x,hx⟩:=get_of_lt (l:=ns) (i:=k) U;have q0:=lY hx;have q1:=jW hx;have q2:=vU hx;have qn:=eC hx;obtain⟨x1,x2,x3⟩:=hs.node x (an hx);refine W.sq ?_;simp only[go_sem,c3,c6,l1,hb];obtain⟨pv,rv,hO,pv1,rv1,hNA⟩:=hC;refine W.seq ?_;refine W.mi (Q':=fun e s2=>e=.normal/\s2.ρ 6=aa k/\Hx.C<=s2.H.C/\(∀id,id<H.C+3->s2.H.get id=Hb.get id)/\(∀i g e c,i<Hx.C->Hx.get i=some (.O g e c)->e≠76->s2.H.get i=Hx.get i)/\∃pk rk ids,bI (H.C+3) s2.H 76 3 (s2.ρ 5) (k+1) (dU ns A k pv rv++[aa x.Q,pk,rk])/\nnv (Hx.C+1) s2.H pk rk ids x) ?_ ?_;rotate_left
 ·rintro e s2 ⟨rfl,a6',nx2,old2,kp2,pk,rk,ids,oZ,nodK⟩;have w1:=W6 ((k:Int)+1) U;by_cases hkA:k=A
  ·refine⟨s2,.same,aaz,trivial,?_⟩;simp only[go_sem];refine W.vs ?_;simp only[go_sem,a6',w1];refine⟨U,⟨k+1,rfl,U,U,old2,pk,rk,?_,nodK.par.one,(vB nodK.X).1,fun _=>⟨x,by rw[<- hkA];exact hx,ids,nodK.low U⟩⟩,by rw[h6];simp only[aa,aI];omega⟩;rw[<- hkA]at oZ ⊢;rw[PW hx]at oZ;exact oZ
  ·rcases oZ with ⟨_,h0,_⟩|⟨id,gg,z1,z2,z3,z4,z5⟩
   ·omega
   have ec:=PX hx hkA pv rv;have hgone:sL (fun i=>Hx.C<=i/\i≠id) (Hx.C+1) s2.H:=fun i g e c h1 h2 h3 h4=>⟨U,fun he=>by
    subst he;rw[z5]at h3;cases h3;exact h4 rfl⟩
   refine⟨⟨s2.ρ,s2.H.eL Hx.C id (.O gg 76 (dU ns A (k+1) pv rv))⟩,cF.eL aO z5 (by rw[ec];simp) (fun hbel i hi hi'=>?_),aaz,trivial,?_⟩
   ·have e1:=W5 hi;have e2:=W5 hi';have hm:=hbel _ (XA hi);generalize (dU ns A k pv rv++[aa x.Q,pk,rk])[i]=u at e1 hm ⊢;generalize (dU ns A (k+1) pv rv)[i]=u' at e2 ⊢;rw[ec]at e2;by_cases hip:i<(dU ns A k pv rv).length
    ·rw[Xe hip]at e1 e2;rw[e1]at e2;cases e2;exact .dead hm
    ·rw[Xp U]at e1 e2;have h3:i-(dU ns A k pv rv).length=0\/i-(dU ns A k pv rv).length=1\/i-(dU ns A k pv rv).length=2:=by
      rw[List.length_append]at hi;simp at hi;omega
     rcases h3 with h|h|h<;>rw[h]at e1 e2<;>cases e1<;>cases e2
     ·exact .lit _
     ·exact nodK.sM hgone
     ·exact nodK.oy hgone
   ·simp only[go_sem];refine W.vs ?_;simp only[go_sem,a6',w1];have hmn:(s2.H.eL Hx.C id (.O gg 76 (dU ns A (k+1) pv rv))).C=s2.H.C:=rfl;refine⟨by rw[hmn];omega,⟨k+1,rfl,U,by rw[hmn];omega,fun i hi=>?_,pv,rv,.inr ⟨id,gg,z1,by rw[hmn];exact z2,z3,by rw[ec];simpa using z4,sK⟩,pv1,rv1,fun hlt=>?_⟩,by rw[h6];simp only[aa,aI];omega⟩
    ·rw[qI U U];exact old2 i hi
    ·obtain⟨y,hy,ids',hNy⟩:=hNA U;refine⟨y,hy,ids',hNy.keepE (by rw[hmn];omega) fun i g e c h1 h2 h3 h4=>?_⟩;rw[qI h2 (fun he=>by
      subst he;rw[kp2 i g e c h2 h3 h4,h3]at z5;cases z5;exact h4 rfl)]
     exact kp2 i g e c h2 h3 h4
 refine W.block ?_;refine W.sq ?_;simp only[go_sem,c3,c6,l1,hb,q0,qn];obtain⟨Hp,hHp⟩:∃Hp,Hp=ext Hx [.O 0 76 [.lit (.int .i64 x.Q),.lit (.slice none 0 0),.lit (.slice none 0 0)]]:=⟨_,rfl⟩
 have np:Hp.C=Hx.C+1:=hHp▸rfl
 have op:nnd Hx Hp:=hHp▸.ext _ _
 have gP:=de hHp
 rw[<- hHp];clear hHp;refine W.en (fun E3=>E3 2=.Y H.C 0 0 /\ E3 3=.Y (H.C+1) 0 0 /\ E3 5=nh /\ E3 6=aa k /\ E3 7=.Y Hx.C 0 0) (by simp only[go_sem,c2,c3,c5,c6]) fun E3 ⟨d2,d3,d5,d6,d7⟩=>?_
 have lP:=ag gP;have l1p:Hp.na (H.C+1) 0=_:=(op.na U).trans l1;refine W.seq ?_;refine W.dr 8 [0,1,0,4,0,28,60,124] mixed ?_;simp only[go_sem,d3,d6,d7,lP,l1p,hb,q1,qn];obtain⟨pk,H2,hA2,oP,n2,hp2⟩:=ux (P:=prog) (H:=Hp) (t:=72) (n:=Hp.C) (lo:=Hp.C) (src:=ints x.J) Tryz.underlying72 Tryz.dY Tryz.eh (kI _) (by rw[Tryz.eV,aZ,List.length_nil];omega) .nil aaz rfl;rw[List.nil_append]at oP;rw[aZ]at hA2;have o2:nnd Hp H2:=⟨n2,fun id h=>hp2 id h fun g m=>aaw⟩
 have lP2:H2.na Hx.C 0=_:=(o2.na U).trans lP;have pk1:=oP.one;have pkc:=oP.cells;simp only[go_sem,d7,hA2,lP2,pk1,pkc];obtain⟨H3,hH3⟩:∃H3,H3=H2.upd Hx.C (.O 0 76 [.lit (.int .i64 x.Q),pk,.lit (.slice none 0 0)]):=⟨_,rfl⟩
 have n3:H3.C=H2.C:=by rw[hH3];rfl
 have h3o:∀id,id<Hx.C->H3.get id=Hx.get id:=fun id h=>by rw[hH3,ae,W7 U,o2.ng id U,op.ng id h]
 have h3P:H3.get Hx.C=some (.O 0 76 [.lit (.int .i64 x.Q),pk,.lit (.slice none 0 0)]):=by rw[hH3,ae,W8 rfl]
 have h3N:nnv (Hx.C+1) H3 pk (.lit (.slice none 0 0)) [] ⟨x.Q,x.J,x.X.take 0⟩:=⟨oP.nf U U fun id g h1 _ _ _=>by rw[hH3,ae,W7 U],.nil,fun _ _ _ _=>aaw,fun _=>rfl⟩
 rw[<- hH3];clear hH3 hA2 lP2 o2 hp2 oP;refine W.en (fun E4=>E4 2=.Y H.C 0 0 /\ E4 3=.Y (H.C+1) 0 0 /\ E4 5=nh /\ E4 6=aa k /\ E4 7=.Y Hx.C 0 0) (by simp only[go_sem,d2,d3,d5,d6,d7]) fun E4 ⟨f2,f3,f5,f6,f7⟩=>?_
 refine W.dI (fun s'=>s'.ρ 5=nh/\s'.ρ 6=aa k/\s'.ρ 7=.Y Hx.C 0 0/\Hx.C<s'.H.C/\(∀id,id<Hx.C->s'.H.get id=Hx.get id)/\∃rk ids,s'.H.get Hx.C=some (.O 0 76 [.lit (.int .i64 x.Q),pk,rk])/\nnv (Hx.C+1) s'.H pk rk ids x) ?_ ?_
 ·refine W.sq ?_;simp only[go_sem];refine W.block ?_;refine W.en (fun E5=>E5 3=.Y (H.C+1) 0 0 /\ E5 5=nh /\ E5 6=aa k /\ E5 7=.Y Hx.C 0 0 /\ E5 8=aa 0) (by simp only[go_sem,f3,f5,f6,f7]) fun E5 ⟨g3,g5,g6,g7,g8⟩=>?_
  refine W.aM 73786975745082393344 (by rfl) (fun ρ2 Hy=>∃(i:Nat) (rk:nnn) (ids:List Nat),ρ2 8=aa i/\i<=x.X.length/\H3.C<=Hy.C/\(∀id,id<Hx.C->Hy.get id=Hx.get id)/\Hy.get Hx.C=some (.O 0 76 [.lit (.int .i64 x.Q),pk,rk])/\nnv (Hx.C+1) Hy pk rk ids ⟨x.Q,x.J,x.X.take i⟩) (fun ρ H=>x.X.length-(iv (ρ 8)).toNat) ?_ ?_
  ·simp only[go_sem,g8];exact⟨0,_,[],rfl,U,h3o,h3P,h3N⟩
  rintro ρ2 Hy ⟨i,rk,ids,h8,hi,ny,yo,yP,yN⟩;have l1y:=ag ((yo _ U).trans ((hold _ U).trans b1));have lPy:=ag yP;refine W.en (fun E6=>E6 3=.Y (H.C+1) 0 0 /\ E6 5=nh /\ E6 6=aa k /\ E6 7=.Y Hx.C 0 0 /\ E6 8=aa i) (by simp only[go_sem,g3,g5,g6,g7,h8]) fun E6 ⟨k3,k5,k6,k7,k8⟩=>?_
  by_cases hbi:(i:Int)<x.X.length;rotate_left
  ·refine W.vs ?_;simp only[go_sem,k3,k5,k6,k7,k8,l1y,hb,q2,qn,aD,hbi];rw[W9 U]at yN;exact⟨U,yo,rk,ids,yP,yN⟩
  obtain⟨q,hq⟩:=get_of_lt (l:=x.X) (i:=i) U;obtain⟨qe,ql⟩:=x3 q (an hq);have ql0:0<q.length:=Yd.2 qe;have hqi:(x.X.map ah)[i]?=some (ah q):=by rw[List.getElem?_map,hq];rfl
  have hqn:=aS hq;refine W.sq ?_;simp only[go_sem,k3,k6,k8,l1y,hb,q2,qn,aD,hbi];refine W.seq (W.block ?_);refine W.sq ?_;simp only[go_sem];have yN1:x.X.take (i+1)=x.X.take i++[q]:=aQ hq;have hA1:=PT (P:=prog) (H:=Hy) (t:=72) (n:=Hy.C) (src:=ints q) Tryz.underlying72 Tryz.dY Tryz.eh (by rw[aZ];exact ql0) (by rw[Tryz.eV,aZ];omega) rfl;obtain⟨rk',Hz,hA3,oM,nz,pz⟩:=yN.X.DB (P:=prog) (n:=Hy.C+1+1) (t:=74) (r:=ints q) Tryz.underlying74 Tryz.mU Tryz.mW Tryz.mV aax (by rw[Xl,Xm];omega) U rfl;rw[aZ]at hA1 hA3;have lPe:∀L,(ext Hy L).na Hx.C 0=_:=fun L=>(cB U).trans lPy;have l1e:∀L,(ext Hy L).na (H.C+1) 0=_:=fun L=>(cB U).trans l1y;obtain⟨rv1,rvc⟩:=vB oM;have lPz:Hz.na Hx.C 0=_:=ag ((pz Hx.C U (yN.X.ne yP aax)).trans yP);refine W.dr 14 [0,1,0,0,8,0,56,120,248,0,1016,2040,4092,8188] mixed ?_;simp only[go_sem,k3,k6,k7,k8,l1y,lPy,hb,q2,qn,aD,hbi,hqi,hqn,hA1,hA3,lPz,rv1,rvc];refine⟨⟨fun _ h=>U,fun _ h=>U⟩,⟨fun _ h=>U,fun _ h=>U⟩,?_⟩;have w1:=W6 ((i:Int)+1) U;have zo:∀id g e c,id<Hy.C->Hy.get id=some (.O g e c)->e≠72->Hz.get id=Hy.get id:=fun id g e c h h2 h3=>pz id h (yN.X.ne h2 h3);refine W.vs ?_;simp only[go_sem,k8,w1];refine⟨by rw[aw];omega,⟨i+1,rk',ids++[Hy.C],rfl,U,by rw[aw];omega,fun id h=>?_,by rw[ae,W8 rfl],?_⟩,by rw[h8];simp only[aa,aI];omega⟩
  ·rw[ae,W7 U,pz id U (yN.X.top.ne U)];exact yo id h
  ·rw[yN1];have oM':nnt (Hx.C+1) (Hz.upd Hx.C (.O 0 76 [.lit (.int .i64 x.Q),pk,rk'])) 72 3 rk' (ids++[Hy.C]) ((x.X.take i++[q]).map ints):=by
    rw[X2];exact oM.nf (by rw[aw];exact Nat.le_refl _) fun id h1 _=>by rw[ae,W7 U]
   refine⟨yN.par.nf aaz (by rw[aw];omega) fun id g h1 h2 h3 _=>by rw[ae,W7 U];exact zo id _ _ _ h2 h3 aax,oM',fun id g m hp hm=>?_,fun e=>absurd e aaw⟩;rcases Xt.1 hm with hm|hm
   ·exact yN.dj id g m hp hm
   ·obtain rfl:=List.mem_singleton.1 hm;rcases yN.par with ⟨h1,_⟩|⟨i2,g2,_,h2,h1,_⟩
    ·rw[h1]at hp;cases hp
    ·rw[h1]at hp;have:=(nnn.Z.inj hp).1;omega
 rintro⟨ρn,Hn⟩ ⟨m5,m6,m7,nN,oN,rk,ids,gN,nodN⟩;simp only at m5 m6 m7 nN oN gN nodN;have lN:=ag gN;have rk1:=(vB nodN.X).1;have rkc:=(vB nodN.X).2;have hOn:=hO.nf (H':=Hn) U fun id g _ h _=>oN id h;obtain⟨nh',H5,hA5,oZ,n5,p5⟩:=mj (P:=prog) (H:=Hn) (t:=35) (xs:=[.lit (.int .i64 x.Q),pk,rk]) (m:=Hn.C+1) Tryz.underlying35 Tryz.oD Tryz.oF (by simp only[List.all_cons,List.all_nil,pk1,rk1];rfl) rfl (by rw[Tryz.oE];omega) hOn U rfl;have nhe:∀id g e c,Hn.get id=some (.O g e c)->e≠76->∀g m,nh≠.Z id g 0 m 3:=fun id g e c h1 h2 g' m hv=>by
  rcases hOn with ⟨h,_⟩|⟨i2,g2,_,_,h,_,h4⟩
  ·rw[h]at hv;cases hv
  ·rw[h]at hv;obtain rfl:=(nnn.Z.inj hv).1;rw[h4]at h1;cases h1;exact h2 rfl
 have nh1:=oZ.one;have nhc:=oZ.cells;refine W.vs ?_;simp only[go_sem,m5,m6,m7,lN,hA5];have keepE:∀id g e c,id<Hn.C->Hn.get id=some (.O g e c)->e≠76->H5.get id=Hn.get id:=fun id g e c h1 h2 h3=>p5 id h1 (nhe id g e c h2 h3);refine⟨U,fun id h=>?_,fun i g e c h1 h2 h3=>by rw[keepE i g e c U ((oN i h1).trans h2) h3,oN i h1],pk,rk,ids,oZ,nodN.keepE n5 fun id g e c _ h1 h2 h3=>keepE id g e c h1 h2 h3⟩
 ·rw[p5 id U (hOn.ne h),oN id U];exact hold id h
end Go.Proofs
namespace Go.Hx
variable {P:Program} {G:Nat->Option (List nnn)}
variable {b:Blk}{n ob:Nat}{e:TypeId}
def nnl.fV (H:nnl)(n ob:Nat)(b:Blk):nnl:=⟨fun id=>if n<=id then none else if id=ob then some b else H.get id,H.C⟩
variable {H:nnl}
def Fg (h:ob<n):(H.fV n ob b).get ob=some b:=by simp[nnl.fV,ZX.2 h]
def Fh {id:Nat}(h:id<n)(h2:id≠ob):(H.fV n ob b).get id=H.get id:=by simp[nnl.fV,ZX.2 h,h2]
def Tn (hc:Clo H){g:Nat}{cells cells':List nnn}(hob:H.get ob=some (.O g e cells))(hlt:ob<n)(hl:cells'.length=cells.length)
  (hcell:∀i (h:i<cells.length) (h':i<cells'.length),Fz (fun id=>n<=id) H H.C cells[i] cells'[i]):FzH (fun id=>n<=id) H (H.fV n ob (.O g e cells')) where
 gone id hs:=by simp[nnl.fV,hs]
 kept id b hs hb:=by
  have hbb:=hc.below id b hb;refine⟨hc.lt id b hb,?_⟩;by_cases h:id=ob
  ·subst h;rw[hob]at hb;cases hb;exact⟨.O g e cells',by simp[nnl.fV,hs],rfl,rfl,hl,hcell⟩
  ·refine⟨b,by simp[nnl.fV,hs,h,hb],?_⟩;cases b with
   |nj=>trivial
   |mp=>rfl
   |O g e cells=>exact⟨rfl,rfl,rfl,fun i h _=>.dead (hbb i h)⟩
   |loop st pend n env ps asg body=>exact⟨rfl,rfl,rfl,rfl,rfl,rfl,rfl,fun t ht=>.dead (hbb t ht)⟩
 none id hs hb:=by
  by_cases h:id=ob
  ·subst h;rw[hob]at hb;cases hb
  ·simp[nnl.fV,hs,h,hb]
theorem cF.fV (hG:dS G){s:St}{g:Nat}{cells cells':List nnn}(hob:s.H.get ob=some (.O g e cells))(hlt:ob<n)(hl:cells'.length=cells.length)
  (hcell:∀i (h:i<cells.length) (h':i<cells'.length),Fz (fun id=>n<=id) s.H s.H.C cells[i] cells'[i]):cF P G s ⟨s.ρ,s.H.fV n ob (.O g e cells')⟩:=by
 intro n' wb Γ a w hs;exact cF.freeze (s:=s) (s':=⟨s.ρ,s.H.fV n ob (.O g e cells')⟩) hG (Tn hs.heap.nb hob hlt hl hcell) (fun t=>.dead (hs.env t).qj) n' wb Γ a w hs
theorem eJ.upd {lo:Nat}{e1 e0:TypeId}{v:nnn}{X:List (List nnn)}(h:eJ lo H e1 e0 v X){k:Nat}(hk:k<lo):eJ lo (H.upd k b) e1 e0 v X:=by
 obtain⟨cs,c1,c2,c3⟩:=h;refine⟨cs,c1.nf aaz (by rw[aw];exact Nat.le_refl _) fun id _ h1 _ _ _=>by rw[ae,W7 U],c2,fun j r c hr hc=>(c3 j r c hr hc).nf aaz (by rw[aw];exact Nat.le_refl _) fun id _ h1 _ _ _=>by rw[ae,W7 U]⟩
end Go.Hx
namespace Go.Proofs
open Go.Hx Tryz
variable {ns:List nna}{x:nna}{d:nnb}
def kY (ns:List nna)(acc q:Int):Int:=if 0<=q/\q<ns.length/\acc<=1024 then acc*max 1 (min ((aE ns).getD q.toNat 0) 4) else acc
def eE (ns:List nna)(ps:List Int):Int:=ps.foldl (kY ns) 1
def fW (d:nnb)(v:Nat)(x:nna):nna:=if d.nl.testBit v=true/\x.X=[]/\1<=x.Q/\x.Q<=4 then { x with X:=List.replicate (eE d.F x.J).toNat (aY d.nn x.Q 0) } else x
def bE (d:nnb):List nna:=d.F.zipIdx.map fun p=>fW d p.2 p.1
def gK (d:nnb):(bE d).length=d.F.length:=by simp[bE]
def oT {v:Nat}(h:d.F[v]?=some x):(bE d)[v]?=some (fW d v x):=by
 unfold bE;rw[List.getElem?_map,YK,h];simp
def TG {a q:Int}(h:1<=a/\a<=4096):1<=kY ns a q/\kY ns a q<=4096:=by
 unfold kY;split
 ·rename_i hc;generalize hm:max 1 (min ((aE ns).getD q.toNat 0) 4)=m;have h1:1<=m/\m<=4:=U
  have h2:a*1<=a*m:=YI h1.1 U;have h3:a*m<=1024*4:=Yx hc.2.2 h1.2 U U;omega
 ·exact h
def ta (ns:List nna)(ps:List Int):1<=eE ns ps/\eE ns ps<=4096:=by
 have:∀(l:List Int) (a:Int),1<=a/\a<=4096->1<=l.foldl (kY ns) a/\l.foldl (kY ns) a<=4096:=by
  intro l
  induction l with
  |nil=>exact fun a h=>h
  |cons q l ih=>exact fun a h=>ih _ (TG h)
 exact this ps 1 (U)
def AG (ns:List nna)(l:List Int)(q:Int):eE ns (l++[q])=kY ns (eE ns l) q:=by unfold eE;rw[Yn];rfl
def Fs (hin:jt x.J ns.length)(hc:∀y∈ns,1<=y.Q/\y.Q<=4)(hp:aL (aW ns x)<=1024):eE ns x.J=aL (aW ns x):=by
 have key:∀k,k<=x.J.length->eE ns (x.J.take k)=aL ((aW ns x).take k):=by
  intro k
  induction k with
  |zero=>intro _;rfl
  |succ k ih =>
   intro hk;obtain⟨q,hq⟩:=get_of_lt (l:=x.J) (i:=k) U;have hqr:=hin q (an hq);have hcq:(aW ns x)[k]?=some ((aE ns).getD q.toNat 0):=(by unfold aW bb;rw[List.getElem?_map,hq];rfl);rw[aQ hq,aQ hcq,AG,gX,ih U];have hm:=pf hin hc _ (an hcq);have hle:aL ((aW ns x).take k)<=1024:=by
    have h1:aL ((aW ns x).take k)*aL ((aW ns x).drop k)=aL (aW ns x):=(by rw[<- As,XO]);have h2:=jX (l:=(aW ns x).take k) fun c h=>(pf hin hc c (Xz h)).1;have h3:=jX (l:=(aW ns x).drop k) fun c h=>(pf hin hc c (YJ h)).1;have h4:aL ((aW ns x).take k)*1<=aL ((aW ns x).take k)*aL ((aW ns x).drop k):=YI h3 U;omega
   unfold kY;rw[W8 ⟨hqr.1,hqr.2,hle⟩];congr 1;omega
 have:=key x.J.length aaz;rw[W9 aaz,W9 (by rw[show (aW ns x).length=_ from jv _ _];exact Nat.le_refl _)]at this;exact this
def TH (d:nnb)(cs:List nnn)(hnq:nnh (fun v=>d.nl.testBit v=true) d.F cs)(hf:nnm d)(H:nnl)(K:nnf->nnl->Prop)(hK:Clo H->∀(nh:nnn) (ks:List nnn) (H':nnl),nnd H H'->bI H.C H' 76 3 nh d.F.length ks->nnh (fun _=>False) (bE d) ks->ar prog G0 H K (.agg [.lit (.int .i64 d.nn),nh]) H'):af prog G0 81 [bH d cs] H K:=by
 refine af.nb ⟨_,func81,rfl,rfl⟩ fun hcl=>?_;have hl:=hf.F.1;refine af.st (n:=106) (rs:=[.cell 2 90]) func81 ?_;simp only[go_sem,fg,eN];obtain⟨Hb,hHb⟩:∃Hb,Hb=ext H [.O 0 38 [.lit (.int .i64 d.nn),.L d.F.length cs,.lit (.int .u64 (d.nl:Int)),.L d.V.length (aH d.V)],.O 0 90 [.lit (.int .i64 0),.lit (.slice none 0 0)],.O 0 90 [.lit (.int .i64 d.nn),.lit (.slice none 0 0)]]:=⟨_,rfl⟩
 rw[<- hHb];have g0:=de hHb
 have g1:=gE hHb 1 rfl
 have g2:=gE hHb 2 rfl
 have nb:Hb.C=H.C+3:=hHb▸rfl
 have ob:nnd H Hb:=hHb▸.ext _ _
 clear hHb;refine W.aM 40564819207303340847894502557680 (by rfl) (fun ρ Hx=>∃(k:Nat) (nh:nnn) (ks:List nnn),ρ 4=aa k/\k<=d.F.length/\Hb.C<=Hx.C/\(∀id,id<H.C+2->Hx.get id=Hb.get id)/\Hx.get (H.C+2)=some (.O 0 90 [.lit (.int .i64 d.nn),nh])/\bI (H.C+3) Hx 76 3 nh k ks/\nnh (fun _=>False) ((bE d).take k) ks) (fun ρ H=>d.F.length-(iv (ρ 4)).toNat) ?_ ?_
 ·simp only[go_sem];exact⟨0,_,[],rfl,U,g2,.nil,.nil⟩
 rintro ρ Hx ⟨k,nh,ks,h4,hk,hnx,hold,hbn,hO,hQ⟩;refine W.en (fun E=>E 1=.Y H.C 0 0 /\ E 2=.Y (H.C+1) 0 0 /\ E 3=.Y (H.C+2) 0 0 /\ E 4=aa k) (by simp only[go_sem,h4]) fun E ⟨e1,e2,e3,e4⟩=>?_
 refine W.vs ?_;have l0:=ag ((hold H.C U).trans g0);by_cases hb:(k:Int)<d.F.length
 ·obtain⟨x,hx⟩:=get_of_lt (l:=d.F) (i:=k) U;obtain⟨f1,f2,f3⟩:=hf.F.2 x (an hx);have hne:=hnq.ne hx;obtain⟨rv,c0,_,hdis,hdE⟩:=hnq.part hx;have c1:k*3+3<=cs.length:=by rw[hnq.len];omega
  have w1:=W6 ((k:Int)+1) U;have rvo:rv.one=true:=by rcases hdis with h|h<;>rw[h]<;>first|rfl|(unfold aR;split<;>rfl)
  have rvc:rv.cells=[rv]:=by rcases hdis with h|h<;>rw[h]<;>first|rfl|(unfold aR;split<;>rfl)
  have rvl:∀H,ef H rv=some (.lit (.int .i64 x.X.length)):=fun H=>by
   rcases hdis with h|h<;>rw[h]
   ·rfl
   ·unfold aR;split
    ·rename_i h;rw[h];rfl
    ·rfl
  have step:∀(Hq:nnl) (rq:nnn) (y:nna),fW d k x=y->y.Q=x.Q->y.J=x.J->(rq=aD y.X\/rq=aR y)->Hx.C<Hq.C->(∀id,id<Hx.C->Hq.get id=Hx.get id) ->
    ∃nh2 H3,bh prog (ext Hq [.O 0 76 [.lit (.int .i64 x.Q),.L x.J.length (ints x.J),rq]]) (Hq.C+1) 35 35 nh (.Z Hq.C 0 0 1 3)=some (nh2,H3)/\nh2.cells=[nh2]/\nh2.one=true/\H3.na (H.C+2) 0=some (90,[.lit (.int .i64 d.nn),nh]) /\
     ∀b,b=.O 0 90 [.lit (.int .i64 d.nn),nh2]->Hb.C<=(H3.upd (H.C+2) b).C/\(∀id,id<H.C+2->(H3.upd (H.C+2) b).get id=Hb.get id)/\(H3.upd (H.C+2) b).get (H.C+2)=some (.O 0 90 [.lit (.int .i64 d.nn),nh2])/\bI (H.C+3) (H3.upd (H.C+2) b) 76 3 nh2 (k+1) (ks++[.lit (.int .i64 x.Q),.L x.J.length (ints x.J),rq])/\nnh (fun _=>False) ((bE d).take (k+1)) (ks++[.lit (.int .i64 x.Q),.L x.J.length (ints x.J),rq]):=by
   intro Hq rq y hy y1 y2 hrq hqn hqo;have hOq:bI (H.C+3) Hq 76 3 nh k ks:=hO.nf U fun id g _ h _=>hqo id h;have rqo:rq.one=true:=by rcases hrq with h|h<;>rw[h]<;>first|rfl|(unfold aR;split<;>rfl)
   obtain⟨nh2,H3,hA,hO3,hn3,hp3⟩:=mj (P:=prog) (xs:=[.lit (.int .i64 x.Q),.L x.J.length (ints x.J),rq]) Tryz.underlying35 Tryz.oD Tryz.oF (by simp only[List.all_cons,List.all_nil,rqo];rfl) rfl (by rw[Tryz.oE];omega) hOq U rfl;have nf:∀id,id<H.C+3->H3.get id=Hx.get id:=fun id h=>(hp3 id U (hOq.ne h)).trans (hqo id U);refine⟨nh2,H3,hA,hO3.cells,hO3.one,ag ((nf _ U).trans hbn),fun b hb=>⟨by rw[aw];omega,fun id h=>by rw[ae,W7 U,nf id U];exact hold id h,by rw[ae,W8 rfl,hb],?_⟩⟩;have e:nnh (fun _=>False) ((bE d).take (k+1)) (ks++[.lit (.int .i64 x.Q),.L x.J.length (ints x.J),rq]):=by
    rw[aQ (oT hx),hy];have:=hQ.snoc (x:=y) (rv:=rq) hrq fun h=>h.elim;rw[y1,y2]at this;exact this
   refine⟨?_,e⟩;exact hO3.nf (by rw[aw];omega) fun id g h1 _ _=>by rw[ae,W7 U]
  obtain⟨Hp,hHp⟩:∃Hp,Hp=ext Hx [.O 0 76 [.lit (.int .i64 x.Q),.L x.J.length (ints x.J),rv]]:=⟨_,rfl⟩
  have np:Hp.C=Hx.C+1:=hHp▸rfl
  have gP:=de hHp
  have pold:∀id,id<Hx.C->Hp.get id=Hx.get id:=fun id h=>by rw[hHp];exact cH h
  have m0:=ag ((pold H.C U).trans ((hold H.C U).trans g0));have m2:=ag ((pold (H.C+2) U).trans hbn);have mP:=ag gP;simp only [go_sem,e1,e4,l0,hb,hne,c0,c1,rvo];rw [← hHp];simp only [go_sem,m0,e4];refine aC.nb (kh d.nl k hf.nl _ _ ⟨trivial,?_⟩);have no : ¬ (d.nl.testBit k=true∧x.X=[]∧1≤x.Q∧x.Q≤4)→∃ nh2 H3,bh prog (ext Hp [.O 0 76 [.lit (.int .i64 x.Q),.L x.J.length (ints x.J),rv]]) (Hp.C+1) 35 35 nh (.Z Hp.C 0 0 1 3)=some (nh2,H3)∧nh2.cells=[nh2]∧nh2.one=true∧H3.na (H.C+2) 0=some (90,[.lit (.int .i64 d.nn),nh]) ∧
     ∀b,b=.O 0 90 [.lit (.int .i64 d.nn),nh2]->Hb.C<=(H3.upd (H.C+2) b).C/\(∀id,id<H.C+2->(H3.upd (H.C+2) b).get id=Hb.get id)/\(H3.upd (H.C+2) b).get (H.C+2)=some (.O 0 90 [.lit (.int .i64 d.nn),nh2])/\bI (H.C+3) (H3.upd (H.C+2) b) 76 3 nh2 (k+1) (ks++[.lit (.int .i64 x.Q),.L x.J.length (ints x.J),rv])/\nnh (fun _=>False) ((bE d).take (k+1)) (ks++[.lit (.int .i64 x.Q),.L x.J.length (ints x.J),rv]):=fun h =>
   step Hp rv x (W7 h) rfl rfl hdis U pold
  cases hbit:d.nl.testBit k
  ·obtain⟨nh2,H3,hA,nc,no1,ln,st⟩:=no fun h=>by rw[hbit]at h;cases h.1
   simp only[go_sem,e3,e4,m2,mP,hA,nc,no1,ln,w1];exact⟨(st _ rfl).1,⟨k+1,nh2,_,rfl,U,(st _ rfl).1,(st _ rfl).2.1,(st _ rfl).2.2.1,(st _ rfl).2.2.2.1,(st _ rfl).2.2.2.2⟩,by rw[h4];simp only[aa,aI];omega⟩
  by_cases hr0:x.X=[]
  rotate_left
  ·obtain⟨nh2,H3,hA,nc,no1,ln,st⟩:=no fun h=>hr0 h.2.1;have hr0':¬(x.X.length:Int)=0:=fun h=>hr0 (Xc U);simp only[go_sem,e3,e4,m2,mP,rvl,hr0',hA,nc,no1,ln,w1];exact⟨(st _ rfl).1,⟨k+1,nh2,_,rfl,U,(st _ rfl).1,(st _ rfl).2.1,(st _ rfl).2.2.1,(st _ rfl).2.2.2.1,(st _ rfl).2.2.2.2⟩,by rw[h4];simp only[aa,aI];omega⟩
  have hrn:rv=.lit (.slice none 0 0):=(hdE hbit).trans (W8 hr0);by_cases hc1:x.Q >= 1;rotate_left
  ·obtain⟨nh2,H3,hA,nc,no1,ln,st⟩:=no fun h=>hc1 h.2.2.1;rw[hrn]at mP hA;simp only[go_sem,e3,e4,m2,mP,hc1,hA,nc,no1,ln,w1];exact⟨(st _ rfl).1,⟨k+1,nh2,_,rfl,U,(st _ rfl).1,(st _ rfl).2.1,(st _ rfl).2.2.1,(st _ rfl).2.2.2.1,(st _ rfl).2.2.2.2⟩,by rw[h4];simp only[aa,aI];omega⟩
  by_cases hc4:x.Q<=4;rotate_left
  ·obtain⟨nh2,H3,hA,nc,no1,ln,st⟩:=no fun h=>hc4 h.2.2.2;rw[hrn]at mP hA;simp only[go_sem,e3,e4,m2,mP,hc1,hc4,hA,nc,no1,ln,w1];exact⟨(st _ rfl).1,⟨k+1,nh2,_,rfl,U,(st _ rfl).1,(st _ rfl).2.1,(st _ rfl).2.2.1,(st _ rfl).2.2.2.1,(st _ rfl).2.2.2.2⟩,by rw[h4];simp only[aa,aI];omega⟩
  clear no;rw[hrn]at mP gP;simp only[go_sem,mP,hc1,hc4];refine W.aM 2417851639158889605235136 (by rfl) (fun ρ2 Hq=>Hq=Hp/\∃j:Nat,ρ2 7=aa j/\j<=x.J.length/\ρ2 6=aa (eE d.F (x.J.take j))) (fun ρ2 H=>x.J.length-(iv (ρ2 7)).toNat) ?_ ?_
  ·simp only[go_sem];exact⟨0,rfl,U,rfl⟩
  rintro ρ2 Hq ⟨hHq,j,h7,hj,h6⟩;subst hHq;refine W.en (fun E2=>E2 1=.Y H.C 0 0 /\ E2 2=.Y (H.C+1) 0 0 /\ E2 3=.Y (H.C+2) 0 0 /\ E2 4=aa k /\ E2 5=.Y Hx.C 0 0 /\ E2 6=aa (eE d.F (x.J.take j)) /\ E2 7=aa j) (by simp only[go_sem,e1,e2,e3,e4,h6,h7]) fun E2 ⟨f1,f2,f3,f4,f5,f6,f7⟩=>?_
  refine W.vs ?_;by_cases hb2:(j:Int)<x.J.length
  ·obtain⟨q,hq⟩:=get_of_lt (l:=x.J) (i:=j) U;have hqne:=aS hq;have hs:=AG d.F (x.J.take j) q;rw[<- aQ hq]at hs;have hrr:=ta d.F (x.J.take j);have w2:=W6 ((j:Int)+1) U;unfold kY at hs;by_cases q0:q >= 0;rotate_left
   ·rw[W7 (fun h=>q0 h.1)]at hs;simp only[go_sem,f5,f6,f7,mP,hb2,hq,hqne,q0,w2];exact⟨⟨j+1,rfl,U,by rw[hs]⟩,by rw[h7];simp only[aa,aI];omega⟩
   by_cases q1:q<d.F.length;rotate_left
   ·rw[W7 (fun h=>q1 h.2.1)]at hs;simp only[go_sem,f1,f5,f6,f7,mP,m0,hb2,hq,hqne,q0,q1,w2];exact⟨⟨j+1,rfl,U,by rw[hs]⟩,by rw[h7];simp only[aa,aI];omega⟩
   by_cases q2:eE d.F (x.J.take j)<=1024;rotate_left
   ·rw[W7 (fun h=>q2 h.2.2)]at hs;simp only[go_sem,f1,f5,f6,f7,mP,m0,hb2,hq,hqne,q0,q1,q2,w2];exact⟨⟨j+1,rfl,U,by rw[hs]⟩,by rw[h7];simp only[aa,aI];omega⟩
   rw[W8 ⟨q0,q1,q2⟩]at hs;obtain⟨u,rfl⟩:=Xn q0;obtain⟨z,hz⟩:=get_of_lt (l:=d.F) (i:=u) U;have z0:=hnq.c0 hz;have zne:=hnq.ne hz;rw[Int.toNat_natCast,cP (dK hz)]at hs;have hm4:1<=max 1 (min z.Q 4)/\max 1 (min z.Q 4)<=4:=U;have hmm:(if (if 4<z.Q then 4 else z.Q) > 1 then if 4<z.Q then 4 else z.Q else 1)=max 1 (min z.Q 4):=(by split<;>split<;>omega);generalize max 1 (min z.Q 4)=m at hs hm4 hmm;have hp1:eE d.F (x.J.take j)*m<=1024*4:=Yx q2 hm4.2 U U;have hp0:0<=eE d.F (x.J.take j)*m:=Ze U U;have w3:=W6 (eE d.F (x.J.take j)*m) U;simp only[go_sem,f1,f5,f6,f7,mP,m0,hb2,hq,hqne,q0,q1,q2,w2,zne,z0,hmm,w3];exact⟨⟨j+1,rfl,U,by rw[hs]⟩,by rw[h7];simp only[aa,aI];omega⟩
  ·have hje:j=x.J.length:=U;rw[hje,W9 aaz]at f6;have hRr:=ta d.F x.J;obtain⟨R,hR⟩:=Xn (show 0<=eE d.F x.J by omega);rw[hR]at f6;obtain⟨cn,hcn⟩:=Xn (show 0<=x.Q by omega);have hcn0:(0:Int)<cn:=U;have hcn1:1<=cn:=U;have hcn2:(cn:Int) >= 0:=U;have ury:fW d k x={ x with X:=List.replicate R (aY d.nn x.Q 0) }:=by
    unfold fW;rw[W8 ⟨hbit,hr0,hc1,hc4⟩,hR,Int.toNat_natCast]
   simp only[go_sem,f4,f5,f7,mP,hb2];refine W.mi (Q':=fun e s2=>e=.exit 4/\∃rq,s2.ρ 1=.Y H.C 0 0/\s2.ρ 2=.Y (H.C+1) 0 0/\s2.ρ 3=.Y (H.C+2) 0 0/\s2.ρ 4=aa k/\s2.ρ 5=.Y Hx.C 0 0/\Hq.C<=s2.H.C/\(∀id,id<Hx.C->s2.H.get id=Hx.get id)/\s2.H.get Hx.C=some (.O 0 76 [.lit (.int .i64 x.Q),.L x.J.length (ints x.J),rq])/\eJ Hq.C s2.H 72 3 rq (List.replicate R (ints (aY d.nn x.Q 0)))) ?_ ?_;rotate_left
   ·rintro e s2 ⟨rfl,rq,a1,a2,a3,a4,a5,hn2,ho2,hP2,hO2⟩;have hv:=hO2.fz (S:=fun id=>Hq.C<=id) (nx:=s2.H.C) (rows':=List.replicate R (ints (aY d.nn x.Q 0))) (fun _ h=>h) rfl fun j r r' h1 h2=>by
     rw[h1]at h2;cases h2;refine⟨rfl,fun i hi _=>?_⟩;have hr:=XW (an h1);subst hr;have e0:(ints (aY d.nn x.Q 0))[i]?=some (ints (aY d.nn x.Q 0))[i]:=W5 hi;generalize (ints (aY d.nn x.Q 0))[i]=a at e0 ⊢;rw[gR]at e0;obtain⟨b,_,rfl⟩:=W4.1 e0;exact .lit _
    rw[XH,YR]at hv;have hvv:(nnn.L R (List.replicate R (.L (ints (aY d.nn x.Q 0)).length (ints (aY d.nn x.Q 0)))))=aD (List.replicate R (aY d.nn x.Q 0)):=by
     unfold aD ah;rw[XH,YR,aZ]
    rw[hvv]at hv;refine⟨⟨s2.ρ,s2.H.fV Hq.C Hx.C (.O 0 76 [.lit (.int .i64 x.Q),.L x.J.length (ints x.J),aD (List.replicate R (aY d.nn x.Q 0))])⟩,cF.fV aO hP2 U rfl (fun i hi _=>?_),aaz,trivial,?_⟩
    ·match i,hi with
     |0,_=>exact .lit _
     |1,_=>exact .df _
     |2,_=>exact hv
    obtain⟨He,hHe⟩:∃He,He=s2.H.fV Hq.C Hx.C (.O 0 76 [.lit (.int .i64 x.Q),.L x.J.length (ints x.J),aD (List.replicate R (aY d.nn x.Q 0))]):=⟨_,rfl⟩
    rw[<- hHe];have gPe:He.get Hx.C=some (.O 0 76 [.lit (.int .i64 x.Q),.L x.J.length (ints x.J),aD (List.replicate R (aY d.nn x.Q 0))]):=(by rw[hHe];exact Fg U);have hoe:∀id,id<Hx.C->He.get id=Hx.get id:=fun id h=>by rw[hHe,Fh U U];exact ho2 id h
    have hne':He.C=s2.H.C:=(by rw[hHe];rfl);clear hHe hv hP2 hO2;have lPe:=ag gPe;have l2e:=ag ((hoe (H.C+2) U).trans hbn);obtain⟨nh2,H3,hA,nc,no1,ln,st⟩:=step He (aD (List.replicate R (aY d.nn x.Q 0))) _ ury rfl rfl (.inl rfl) U hoe;simp only[go_sem,a2,a3,a4,a5,lPe,l2e,hA,nc,no1,ln,w1];exact⟨(st _ rfl).1,⟨k+1,nh2,_,rfl,U,(st _ rfl).1,(st _ rfl).2.1,(st _ rfl).2.2.1,(st _ rfl).2.2.2.1,(st _ rfl).2.2.2.2⟩,by rw[h4];simp only[aa,aI];omega⟩
   refine W.aM 633822882262475471490002191872 (by rfl) (fun ρ3 Hy=>∃(i:Nat) (rq:nnn),ρ3 9=aa i/\i<=R/\Hq.C<=Hy.C/\(∀id,id<Hx.C->Hy.get id=Hx.get id)/\Hy.get Hx.C=some (.O 0 76 [.lit (.int .i64 x.Q),.L x.J.length (ints x.J),rq])/\eJ Hq.C Hy 72 3 rq (List.replicate i (ints (aY d.nn x.Q 0)))) (fun ρ3 H=>R-(iv (ρ3 9)).toNat) ?_ ?_
   ·simp only[go_sem];exact⟨0,_,rfl,U,pold,gP,.nil⟩
   rintro ρ3 Hy ⟨i,rq,h9,hi,hny,hyo,hyP,hOy⟩;refine W.env fun E3 hE3=>?_;have a1:E3 1=.Y H.C 0 0:=(by rw[hE3];simp only[go_sem,f1]);have a2:E3 2=.Y (H.C+1) 0 0:=(by rw[hE3];simp only[go_sem,f2]);have a3:E3 3=.Y (H.C+2) 0 0:=(by rw[hE3];simp only[go_sem,f3]);have a4:E3 4=aa k:=(by rw[hE3];simp only[go_sem,f4]);have a5:E3 5=.Y Hx.C 0 0:=(by rw[hE3];simp only[go_sem,f5]);have a6:E3 6=aa R:=(by rw[hE3];simp only[go_sem,f6]);have a9:E3 9=aa i:=(by rw[hE3];simp only[go_sem,h9]);clear hE3;refine W.vs ?_;by_cases hb3:(i:Int)<R
   ·have w3:=W6 ((i:Int)+1) U;have yP:=ag hyP;have y0:=ag ((hyo H.C U).trans ((hold H.C U).trans g0));rw[hcn]at yP;have y0e:∀L,(ext Hy L).na H.C 0=_:=fun L=>(cB U).trans y0;have yPe:∀L,(ext Hy L).na Hx.C 0=_:=fun L=>(cB U).trans yP;have hun:(nnn.lit (.int .i64 d.nn) :: List.drop 1 (List.replicate cn (.lit (.int .i64 0))))=ints (aY d.nn x.Q 0):=by
     unfold aY;rw[hcn,Int.toNat_natCast];obtain⟨m,rfl⟩:∃m,cn=m+1:=⟨cn-1,U⟩
     simp[YB,ints,aa]
    have hul:(aY d.nn x.Q 0).length=cn:=(by rw[tj,hcn];rfl);obtain⟨Hw,hHw⟩:∃Hw,Hw=ext Hy [.O 0 3 (ints (aY d.nn x.Q 0))]:=⟨_,rfl⟩
    have hwn:Hw.C=Hy.C+1:=(by rw[hHw];rfl);have hwo:nnd Hy Hw:=(by rw[hHw];exact .ext _ _);have hwg:Hw.get Hy.C=some (.O 0 3 (ints (aY d.nn x.Q 0))):=(by rw[hHw];exact bV);have wP:Hw.na Hx.C 0=_:=(hwo.na U).trans yP;obtain⟨rq',Hj,hA,hO',hnj,hpj⟩:=eJ.app (P:=prog) (H:=Hw) (n:=Hw.C+1) (t:=74) (x:=.Z Hy.C 0 0 cn 1) (r:=ints (aY d.nn x.Q 0)) Tryz.underlying74 Tryz.mU Tryz.mW Tryz.mV aax (by rw[XH];omega) (hOy.over hwo) U (.inr ⟨Hy.C,0,U,U,by rw[aZ,hul],hwg⟩) rfl;have nf:∀id,id<Hq.C->Hj.get id=Hy.get id:=fun id h=>(hpj id U h).trans (hwo.ng id U);have jP:Hj.na Hx.C 0=_:=ag ((nf _ U).trans hyP);obtain⟨cs',hcs'⟩:=id hO';have rc:=hcs'.1.cells;have ro:=hcs'.1.one;rw[hwn,hHw,eT]at hA;simp only[List.cons_append,List.nil_append,YQ,Nat.reduceAdd]at hA;simp only[go_sem,a1,a5,a6,a9,hb3,yP,y0e,yPe,hcn0,hcn2,hun,hA,jP,rc,ro,w3];refine⟨U,by simp;omega,by rw[aw];omega,⟨i+1,rq',rfl,U,by rw[aw];omega,fun id h=>by rw[ae,W7 U,nf id U];exact hyo id h,by rw[ae,W8 rfl],?_⟩,by rw[h9];simp only[aa,aI];omega⟩;rw[ZL];exact hO'.upd (U)
   ·simp only[go_sem,a1,a2,a3,a4,a5,a6,a9,hb3];have:i=R:=U;subst this;exact⟨rq,hny,hyo,hyP,hOy⟩
 ·have hke:k=d.F.length:=U
  have l2:=ag hbn;have l1:=ag ((hold (H.C+1) U).trans g1);have nc:=hO.cells;have no:=hO.one;simp only[go_sem,e1,e2,e3,e4,l0,l1,l2,hb,no];rw[hke]at hO hQ;rw[W9 (by rw[gK];exact Nat.le_refl _)]at hQ;refine hK hcl nh ks _ ⟨by rw[aw];have:=ob.C;omega,fun id h=>by rw[ae,W7 U,hold id U];exact ob.ng id h⟩ ?_ hQ;rcases hO with ⟨h,hz,hc⟩|⟨id,gg,k1,k2,h,k4,k5⟩
  ·exact .inl ⟨h,hz,hc⟩
  ·exact .inr ⟨id,gg,U,by rw[aw];exact k2,h,k4,by rw[ae,W7 U];exact k5⟩
def TI (d:nnb)(cs:List nnn)(hq:nnh (fun v=>d.nl.testBit v=true) d.F cs)(hf:nnm d)(H:nnl)(K:nnf->nnl->Prop)(hK:K (.ret (bS d.nn (bE d))) H):af prog G0 81 [bH d cs] H K:=by
 refine TH d cs hq hf H K fun hcl nh ks H' ho hO hQ=>?_;refine ar.bw (v':=bS d.nn (bE d)) aO hcl ho (.agg rfl fun i hi _=>?_) hK
 match i,hi with
 |0,_=>exact .lit _
 |1,_ =>
  show Fz _ _ _ nh (di (bE d));unfold di;rw[gK];rcases hO with ⟨h,hz,hc⟩|⟨id,gg,k1,k2,h,k4,k5⟩
  ·have:bE d=[]:=Xc (by rw[gK];exact hz);rw[h,hz,this];exact .nil
  ·rw[h];refine .nq k1 k5 (by rw[fJ,gK]) fun j hj h2 h'=>?_;have e0:(0:Nat)+j=j:=Nat.zero_add j;have h3:j<ks.length:=U;have:=fun Hq=>hQ.qX (S:=fun id=>H.C<=id) (H:=Hq) (nx:=H.C) j h3 h';simpa only[e0] using this _
def TJ {cs:List Int}(hc:∀c∈cs,1<=c):∀(k:Nat) (ps:List Int),k<=cs.length->ps.Pairwise (·<·)->(∀p∈ps,0<=p/\p<k)->aL (bb cs ps)<=aL (cs.take k):=by
 intro k
 induction k with
 |zero =>
  intro ps _ _ h;cases ps with
  |nil=>exact Int.le_refl _
  |cons p ps=>have:=h p aaw;omega
 |succ k ih =>
  intro ps hk hw h;obtain⟨c,hck⟩:=get_of_lt (l:=cs) (i:=k) U;have c1:=hc c (an hck);rw[aQ hck,gX];have hp:=jX (l:=cs.take k) fun c h=>hc c (Xz h);rcases aam ps with rfl|⟨qs,q,rfl⟩
  ·show 1<=_;have:=Yx hp c1 U U;omega
  ·rw[aan]at hw h ⊢;have hq:=h q aaw;obtain⟨w1,_,w3⟩:=YT.1 hw;have hqs:∀p∈qs,0<=p/\p<q:=fun p hp=>⟨(h p (by simp[hp])).1,w3 p hp q aaw⟩
   by_cases hqk:q=k
   ·have h1:=ih qs U w1 fun p hp=>by have:=hqs p hp;omega
    unfold bb at h1 ⊢;rw[X2,As];have e:aL (List.map (fun p=>cs.getD p.toNat 0) [q])=c:=by
     rw[hqk];simp only[List.map_cons,List.map_nil,Int.toNat_natCast,cP hck,qS,l9,aav]
    rw[e];exact Z5 h1 (U)
   ·have h1:=ih (qs++[q]) U hw fun p hp=>by
     rcases Xt.1 hp with h'|h'
     ·have:=hqs p h';omega
     ·obtain rfl:=List.mem_singleton.1 h';omega
    have h2:aL (cs.take k)*1<=aL (cs.take k)*c:=YI c1 U;omega
def wg (hp:bB x.J ns.length)(hc:∀y∈ns,1<=y.Q/\y.Q<=4):aL (aW ns x)<=aL (aE ns):=by
 have h:=TJ (cs:=aE ns) (fun c h=>by
  obtain⟨y,hy,rfl⟩:=Xx.1 h;exact(hc y hy).1) ns.length x.J (by rw[gL];exact Nat.le_refl _) hp.1 hp.2
 rw[W9 (by rw[gL];exact Nat.le_refl _)]at h;exact h
def TK (h:nnj d):bE d=eZ d fun _ _=>0:=by
 apply XQ;intro v;rcases Xu v d.F.length with hv|hv
 ·obtain⟨x,hx⟩:=get_of_lt hv;rw[oT hx,kq hx];unfold fW;by_cases hb:d.nl.testBit v=true
  ·obtain⟨x1,x2⟩:=h.n.dec v x hx hb;have hc:=h.n.Q x (an hx);rw[W8 ⟨hb,x1,hc.1,hc.2⟩,wM hx hb];have hsz:=h.nC.size;rw[ti]at hsz;have hle:=wg x2 h.n.Q;rw[Fs (fun q hq=>by have:=x2.2 q hq;omega) h.n.Q U,x1,List.nil_append];congr 2;unfold ei dk;rw[List.map_const',Ym]
  ·rw[W7 fun h=>hb h.1,o9 hb]
 ·rw[Xf (by rw[gK];exact hv),Xf (by rw[js];exact hv)]
def Ft (d:nnb)(v:Nat):Int × Int:=match d.F[v]? with
 |some x=>(dk d.F x,x.Q)
 |none=>(0,0)
end Go.Proofs
namespace Go.Hx
open Go.Proofs.R01 (pureRun_bind)
variable {P:Program} {t e:TypeId} {x y:Operand} {k k':IntKind} {a b c d:Int}
end Go.Hx
namespace Go.Proofs
open Go.Hx Tryz
end Go.Proofs
namespace Go.Hx
variable {P:Program} {G:Nat->Option (List nnn)}
variable {H:nnl}
def VF (hc:Clo H):FzH (fun _=>False) H H where
 gone id hs:=hs.elim
 kept id b _ hb:=by
  have hbb:=hc.below id b hb;refine⟨hc.lt id b hb,b,hb,?_⟩;cases b with
  |nj=>trivial
  |mp=>rfl
  |O g e cells=>exact⟨rfl,rfl,rfl,fun i h _=>.dead (hbb i h)⟩
  |loop st pend n env ps asg body=>exact⟨rfl,rfl,rfl,rfl,rfl,rfl,rfl,fun t ht=>.dead (hbb t ht)⟩
 none id _ hb:=hb
def af.pt {f:FuncId}{args args':List nnn}{K:nnf->nnl->Prop}(hG:dS G)(hl:args'.length=args.length)(hv:∀i (h:i<args.length) (h':i<args'.length),Fz (fun _=>False) H H.C args[i] args'[i])
  (h:af P G f args' H K):af P G f args H K:=by
 refine⟨h.1,fun Γ w cargs R hr=>?_⟩;have F:=VF R.nb;have R0:=F.rel hG R;have E0:Evo Γ H w (dP (fun _=>False) Γ) H w:=F.aU;refine(h.2 _ w cargs R0 ⟨by have:=hr.1;omega,fun i h1 h2=>(hv i U h1).sound R F (hr.2 i U h2)⟩).mono ?_;rintro e w' ⟨r,H',Γ',h1,h2,h3,h4,h5⟩;exact⟨r,H',Γ',h1,h2,h3,E0.trans aaz h4,h5⟩
end Go.Hx
namespace Go.Proofs
open Go.Hx Tryz
end Go.Proofs
