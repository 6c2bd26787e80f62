/- Own work: contracts. -/
import Derived.Test.YtjhbjbninamhnaaGreatConE
import Derived.Test.YtjhbjbninamhnaaGreatConB
import Derived.Test.YtjhbjbninamhnaaGreatConA
import Derived.Test.YtjhbjbninamhnaaGreatConC
set_option linter.all false
set_option maxRecDepth 100000
namespace Go.Proofs
open Go.Hx
def jK (w a r n:Int):List AVal:=[.lit (.int .u8 w),.lit (.int .u8 a),.lit (.int .u8 r),.lit (.int .i64 n)]
def dI (ns:List NodeP)(a k:Nat)(pv rv:AVal):List AVal:=((aT (ns.take k)).set (a*3+1) pv).set (a*3+2) rv
theorem M5 (ns:List NodeP)(a k:Nat)(pv rv:AVal):(dI ns a k pv rv).length=(ns.take k).length*3:=by unfold dI;rw[SU,SU,gq]
theorem M6 {ns:List NodeP}{k:Nat}{x:NodeP}(h:ns[k]?=some x)(pv rv pk rk:AVal):dI ns k k pv rv++[aa x.card,pk,rk]=dI ns k (k+1) pk rk:=by
 have hk:=get_lt h;have hl:=gq (ns.take k);have hkl:(ns.take k).length=k:=by rw[SX];omega
 unfold dI;rw[TD (l:=aT (ns.take k)) (by omega),TD (by omega),aO h,yH,Tv _ _ (by omega),Tv _ _ (by omega),hl,hkl,show k*3+1 - k*3=1 by omega,show k*3+2 - k*3=2 by omega];rfl
theorem M7 {ns:List NodeP}{a k:Nat}{x:NodeP}(h:ns[k]?=some x)(hne:k≠a)(pv rv:AVal):dI ns a (k+1) pv rv=dI ns a k pv rv++[aa x.card,af x.parents,ba x]:=by
 have hk:=get_lt h;have hl:=gq (ns.take k);have hkl:(ns.take k).length=k:=by rw[SX];omega
 unfold dI;rw[aO h,yH];by_cases ha:a<k
 ·rw[UQ _ _ (by omega),UQ _ _ (by rw[SU];omega)]
 ·rw[TD (by simp [hl];omega),TD (by simp [hl];omega),TD (l:=aT (ns.take k)) (by omega),TD (by omega)]
def Cp (ns:List NodeP)(a lo:Nat)(k:Nat)(H:AHeap)(nh:AVal):Prop :=
 ∃ pv rv,bY lo H 73 3 nh k (dI ns a k pv rv)/\pv.one=true/\rv.one=true/\(a<k->∃ x,ns[a]?=some x/\∃ ids,NodO lo H pv rv ids x)
set_option maxHeartbeats 4000000 in
theorem M8 (w a r n:Int)(hw:0<=w/\w<=255)(ha:0<=a/\a<=255)(hr:0<=r/\r<=255)(g:Int)(ns:List NodeP)(m:Nat)(hm:m<2 ^ 30)(hs:SmallN m ns)(H:AHeap)(K:ARes->AHeap->Prop)
  (hK:∀ g' ns' cs,(g',ns',cs)=dV (w % 12) (a % (ns.length:Int)).toNat r n g ns->SmallN (m+1) ns'->NodesQ (fun v=>¬ w % 12=5\/∀ x,ns[v]?=some x->x.rows=[]) ns' cs->(w % 12=0->ns'=ns)/\ns'.length<=ns.length+1->K (.ret (.agg [aa g',.vec ns'.length cs])) H):
  ae Tryz.prog G0 50 [.agg (jK w a r n),bJ g ns] H K:=by
 refine ae.clo ⟨_,Tryz.func50,rfl,rfl⟩ fun hcl=>?_;refine ae.jD (n:=323) (rs:=[.cell 4 103]) Tryz.func50 rfl rfl rfl (by decide) (by simp) ?_;refine W.sq ?_;simp only[go_sem,jK,bJ,cj];obtain⟨Hb,hHb⟩:∃ Hb,Hb=ext H [.arr 0 30 [.lit (.int .u8 w),.lit (.int .u8 a),.lit (.int .u8 r),.lit (.int .i64 n)],.arr 0 103 [.lit (.int .i64 g),.vec ns.length (aG ns)],.arr 0 103 [.lit (.int .i64 0),.lit (.slice none 0 0)]]:=⟨_,rfl⟩
 have b0:Hb.get H.next=some (.arr 0 30 [.lit (.int .u8 w),.lit (.int .u8 a),.lit (.int .u8 r),.lit (.int .i64 n)]):=by rw[hHb];exact bQ ..
 have b1:Hb.get (H.next+1)=some (.arr 0 103 [.lit (.int .i64 g),.vec ns.length (aG ns)]):=by rw[hHb];exact bB H _ 1 (by simp)
 have b2:Hb.get (H.next+2)=some (.arr 0 103 [.lit (.int .i64 0),.lit (.slice none 0 0)]):=by rw[hHb];exact bB H _ 2 (by simp)
 have nb:Hb.next=H.next+3:=by rw[hHb];rfl
 have ob:Over H Hb:=by rw[hHb];exact .ext _ _
 rw[<- hHb];clear hHb;obtain⟨A,hA⟩:∃ A:Nat,A=(a % (ns.length:Int)).toNat:=⟨_,rfl⟩
 have hsl:=hs.len;refine W.en (fun E=>E 2=.ptr H.next 0 0 /\ E 3=.ptr (H.next+1) 0 0 /\ E 4=.ptr (H.next+2) 0 0) (by simp only[go_sem]) fun E ⟨e2,e3,e4⟩=>?_
 refine W.sq ?_;simp only[go_sem];refine W.gh (fun s'=>s'.ρ 2=.ptr H.next 0 0/\s'.ρ 3=.ptr (H.next+1) 0 0/\s'.ρ 4=.ptr (H.next+2) 0 0/\Hb.next<=s'.H.next/\(∀ id,id<H.next+3->s'.H.get id=Hb.get id)/\Cp ns A (H.next+3) ns.length s'.H (s'.ρ 5)) ?_ ?_;rotate_left
 ·rintro⟨ρ3,Hx⟩ ⟨m2,m3,m4,nx,hold,pv,rv,hO,pv1,rv1,hNA⟩;simp only at m2 m3 m4 nx hold hO hNA;obtain⟨nh,h5⟩:∃ nh,ρ3 5=nh:=⟨_,rfl⟩
  rw[h5]at hO;have l1:=ag ((hold _ (by omega)).trans b1);have nh1:=hO.one;have nhc:=hO.cells;refine W.sq ?_;simp only[go_sem,m3,h5,l1,nh1,nhc];obtain⟨Hs,hHs⟩:∃ Hs,Hs=Hx.upd (H.next+1) (.arr 0 103 [.lit (.int .i64 g),nh]):=⟨_,rfl⟩
  rw[<- hHs];have sn:Hs.next=Hx.next:=by rw[hHs];rfl
  have so:∀ id,id≠H.next+1->Hs.get id=Hx.get id:=fun id h=>by rw[hHs,ab,SO h]
  have g1:Hs.get (H.next+1)=some (.arr 0 103 [.lit (.int .i64 g),nh]):=by rw[hHs,ab,SQ rfl]
  have g2:Hs.get (H.next+2)=_:=(so _ (by omega)).trans ((hold _ (by omega)).trans b2);have s1:=ag g1;have s0:Hs.live H.next 0=_:=ag ((so _ (by omega)).trans ((hold _ (by omega)).trans b0));have s2:=ag g2;have sO:bY (H.next+3) Hs 73 3 nh ns.length (dI ns A ns.length pv rv):=hO.keep (by omega) fun id _ h _ _=>so id (by omega);have sold:∀ id,id<H.next->Hs.get id=H.get id:=fun id h=>by rw[so id (by omega),hold id (by omega)];exact ob.old id h
  refine W.en (fun E=>E 2=.ptr H.next 0 0 /\ E 3=.ptr (H.next+1) 0 0 /\ E 4=.ptr (H.next+2) 0 0 /\ E 5=nh) (by simp only[go_sem,m2,m3,m4,h5]) fun E ⟨t2,t3,t4,t5⟩=>?_
  clear hHs l1 hO;by_cases hn0:ns.length=0
  ·have hns:ns=[]:=SY hn0;have hlen:fH Hs nh=some (.lit (.int .i64 0)):=by
    rcases sO with ⟨z1,z2,z3⟩|⟨id,gg,z1,z2,z3,z4,z5⟩
    ·rw[z1];rfl
    ·rw[z3,hn0];unfold fH;simp [ag z5]
   refine W.vs ?_;simp only[go_sem,t3,t4,t5,s1,s2,hlen,nh1];refine ay.bx (v':=.agg [aa g,.vec 0 []]) aS hcl (H2:=Hs.upd (H.next+2) _) ⟨by rw[aw];omega,fun id h=>by rw[ab,SO (by omega)];exact sold id h⟩ (.agg rfl fun i hi _=>?_) ?_
   ·match i,hi with
    | 0,_=>exact .lit _
    | 1,_ =>
     have hO2:bY (H.next+3) (Hs.upd (H.next+2) (.arr 0 103 [.lit (.int .i64 g),nh])) 73 3 nh ns.length (dI ns A ns.length pv rv):=sO.keep (by rw[aw];omega) fun id _ h _ _=>by rw[ab,SO (by omega)]
     have hl0:(dI ns A ns.length pv rv).length=0:=(by rw[M5,hn0];rfl);have:=uB (S:=fun id=>H.next<=id) (nx:=H.next) (cs':=[]) hO2 (fun i hi=>by omega) (by rw[hl0];rfl) fun i hi=>absurd hi (by omega);rw[hn0]at this;exact this
   ·have:=hK g [] [] (by rw[hns];rfl) ⟨by simp,fun x hx=>by simp at hx⟩ ⟨rfl,fun v x hx=>by simp at hx⟩ ⟨fun _=>hns.symm,by simp⟩;exact this
  have hn1:0<ns.length:=by omega
  rcases sO with ⟨_,z2,_⟩|⟨id,gg,z1,z2,z3,z4,z5⟩
  ·omega
  subst z3;have sid:=ag z5;have hn0':¬ (ns.length:Int)=0:=by omega
  refine W.sq ?_;simp only[go_sem,t5,sid,hn0'];have hAlt:A<ns.length:=by
   have:=T7 a (show (0:Int)<ns.length by omega);have:=Ue a (show (ns.length:Int)≠0 by omega);omega
  have hAe:Int.tmod a ns.length=A:=by rw[Tj ha.1];have:=Ue a (show (ns.length:Int)≠0 by omega);omega
  obtain⟨x,hx,ids,hN0⟩:=hNA hAlt;have hN:NodO (H.next+3) Hs pv rv ids x:=hN0.keep (by omega) fun id h _=>so id (by omega);clear hN0 hNA;obtain⟨x1,x2,x3⟩:=hs.node x (SK hx);have ecs:dI ns A ns.length pv rv=bz ns A (aa x.card) pv rv:=by unfold dI;rw[SP (Nat.le_refl _)];exact Nb hx _ _
  obtain⟨cs0,hcs0⟩:∃ c,c=bz ns A (aa x.card) pv rv:=⟨_,rfl⟩
  rw[ecs,<- hcs0]at z4 z5 sid;have c0:=yu (ns:=ns) hAlt (aa x.card) pv rv;have c1:=Cq (ns:=ns) hAlt (aa x.card) pv rv;have c2:=Cr (ns:=ns) hAlt (aa x.card) pv rv;have cl:=jb ns A (aa x.card) pv rv;have cne:=Na (ns:=ns) hAlt (aa x.card) pv rv;rw[<- hcs0]at c0 c1 c2 cl cne;have hA0:(A:Int)<ns.length:=by omega
  have wa:=SM a (by omega);have wA:=SM (A:Int) (by omega);refine W.sq ?_;simp only[go_sem,t2,t5,s0,sid,hAe,hn0',hA0,wa];refine W.sq ?_;simp only[go_sem];have rvl:fH Hs rv=some (aa x.rows.length):=by
   have hl:=hN.rows.len;rw[SZ]at hl;rcases hN.rows.top with ⟨h1,h2⟩|⟨i,g',_,_,h1,h2⟩
   ·have h3:(List.zipWith (fun i n=>AVal.own i 0 0 n 1) ids ((x.rows.map ints).map List.length)).length=0:=(by rw[h2];rfl);simp [hl]at h3;rw[h1,h3];rfl
   ·rw[h1];unfold fH;simp [ag h2,hl,aa]
  refine W.en (fun E=>E 2=.ptr H.next 0 0 /\ E 3=.ptr (H.next+1) 0 0 /\ E 4=.ptr (H.next+2) 0 0 /\ E 5=.own id gg 0 ns.length 3 /\ E 10=.ptr id gg (A*3) /\ E 11=aa (-1)) (by simp only[go_sem,t2,t3,t4,t5]) fun E ⟨u2,u3,u4,u5,u10,u11⟩=>?_
  refine W.gh (fun s'=>s'.H=Hs/\s'.ρ 2=.ptr H.next 0 0/\s'.ρ 3=.ptr (H.next+1) 0 0/\s'.ρ 4=.ptr (H.next+2) 0 0/\s'.ρ 10=.ptr id gg (A*3)/\∃ R:Int,s'.ρ 11=aa R/\(x.rows=[]/\R=-1\/x.rows≠[]/\0<=R/\R<x.rows.length/\R=r % (x.rows.length:Int))) ?_ ?_
  ·refine W.sq ?_;by_cases hr0:x.rows=[]
   ·simp only[go_sem,u10,sid,c2,rvl,hr0];refine W.cond (t:=false) rfl ?_;refine W.vs ?_;simp only[go_sem];refine⟨u2,u3,u4,u10,-1,u11,?_⟩;simp [hr0]
   ·have hr1:0<x.rows.length:=T0.2 hr0;have hr2:(0:Int)<x.rows.length:=(by omega);have hr3:¬ (x.rows.length:Int)=0:=(by omega);have wr:=SM r (by omega);have hRe:Int.tmod r x.rows.length=r % x.rows.length:=Tj hr.1;have hR0:=Ue r hr3;have hR1:=T7 r hr2;have wR:=SM (r % (x.rows.length:Int)) (by omega);simp only[go_sem,u10,sid,c2,rvl,hr2];refine W.cond (t:=true) rfl ?_;refine W.draw 8 [0,1,3,0,8,24,56,120] Tryz.mixed (by kernel_rfl) (by kernel_rfl) ?_;simp only[go_sem,u2,u10,s0,sid,c2,rvl,hr3,wr,hRe];exact⟨u3,u4,_,rfl,.inr ⟨hr0,hR0,hR1,rfl⟩⟩
  rintro⟨ρ4,H4⟩ ⟨hH,v2,v3,v4,v10,R,v11,hR⟩;simp only at hH v2 v3 v4 v10 v11;rw[hH];clear hH;have w8:Int.tmod w 12=w % 12:=Tj hw.1;obtain⟨e,he⟩:∃ e:Nat->Prop,e=fun v=>¬ w % 12=5\/∀ x,ns[v]?=some x->x.rows=[]:=⟨_,rfl⟩
  rw[<- he]at hK;obtain⟨Φ,hΦ⟩:∃ Φ:St->Prop,∀ s',Φ s'↔(s'.ρ 3=.ptr (H.next+1) 0 0/\s'.ρ 4=.ptr (H.next+2) 0 0/\∃ (g':Int) (nv:AVal) (ns':List NodeP) (cs':List AVal),Hs.next<=s'.H.next/\(∀ i,i<H.next->s'.H.get i=H.get i)/\s'.H.get (H.next+1)=some (.arr 0 103 [.lit (.int .i64 g'),nv])/\nv.one=true/\nv.cells=[nv]/\(∃ q,s'.H.get (H.next+2)=some (.arr 0 103 q)/\q.length=2)/\(∀ H3,H3.next=s'.H.next->(∀ i,i≠H.next+2->H3.get i=s'.H.get i)->Fz (fun i=>H.next<=i) H3 H.next nv (.vec ns'.length cs'))/\SmallN (m+1) ns'/\NodesQ e ns' cs'/\(w % 12=0->ns'=ns)/\ns'.length<=ns.length+1/\(g',ns',cs')=dV (w % 12) A r n g ns):=⟨_,fun _=>Iff.rfl⟩
  refine W.gh Φ ?_ ?_;rotate_left
  ·rintro⟨ρ5,H5⟩ hq5;obtain⟨f3,f4,g',nv,ns',cs',n5,o5,p5,nv1,nvc,⟨q,q5,ql⟩,hfz,hsm,hnq,hw0,hw1,hbn⟩:=(hΦ _).1 hq5;simp only at f3 f4 n5 o5 p5 q5 hfz;have l5:=ag p5;obtain⟨q0,q1,rfl⟩:∃ q0 q1,q=[q0,q1]:=by
    match q,ql with
    | [q0,q1],_=>exact⟨q0,q1,rfl⟩
   have l6:=ag q5;refine W.vs ?_;simp only[go_sem,f3,f4,l5,l6,nv1];refine ay.bx (v':=.agg [aa g',.vec ns'.length cs']) aS hcl ⟨by rw[aw];omega,fun i h=>by rw[ab,SO (by omega)];exact o5 i h⟩ (.agg rfl fun i hi _=>?_) (hK g' ns' cs' (by rw[<- hA];exact hbn) hsm hnq ⟨hw0,hw1⟩)
   match i,hi with
   | 0,_=>exact .lit _
   | 1,_=>exact hfz _ rfl fun i h=>by rw[ab,SO h]
  refine W.sq ?_;simp only[go_sem,v2,s0,w8];obtain⟨c,hc⟩:∃ c,c=w % 12:=⟨_,rfl⟩
  have hc0:0<=c/\c<12:=by omega
  rw[<- hc];refine W.en (fun E=>E 2=.ptr H.next 0 0 /\ E 3=.ptr (H.next+1) 0 0 /\ E 4=.ptr (H.next+2) 0 0 /\ E 10=.ptr id gg (A*3) /\ E 11=aa R /\ E 101=.lit (.int .u8 c)) (by simp only[go_sem,v2,v3,v4,v10,v11]) fun E ⟨u2,u3,u4,u10,u11,u101⟩=>?_
  clear v2 v3 v4 v10 v11 t2 t3 t4 t5;refine W.block ?_;clear hK;have g2':∃ q,Hs.get (H.next+2)=some (.arr 0 103 q)/\q.length=2:=⟨_,g2,rfl⟩
  have hfin:∀ (H3:AHeap) (cc:Int) (pv' rv' pw rw:AVal),H3.get id=some (.arr gg 73 (bz ns A (aa cc) pv' rv'))->Fz (fun i=>H.next<=i) H3 H.next pv' pw->Fz (fun i=>H.next<=i) H3 H.next rv' rw->Fz (fun i=>H.next<=i) H3 H.next (.own id gg 0 ns.length 3) (.vec ns.length (bz ns A (aa cc) pw rw)):=fun H3 cc pv' rv' pw rw h1 h2 h3=>by
   refine .frz (show H.next<=id by omega) h1 (jb ..) fun j hj h2' h'=>?_;simp only[Nat.zero_add]at h2' ⊢;exact yw h2 h3 j h2' h'
  have hgone:∀ H3:AHeap,rA (fun i=>H.next<=i) (H.next+3) H3:=fun H3 i g e c h1 _ _ _=>by show H.next<=i;omega
  have hset:ns.set A x=ns:=jX hx;have hsm0:SmallN (m+1) ns:=hs.mono (Uj m);have bN:c≠0->c≠10->c≠11->dV c A r n g ns=(g,ns.set A (dw c r n g x).1,bz ns A (aa (dw c r n g x).1.card) (af (dw c r n g x).1.parents) (dw c r n g x).2):=fun y0 y1 y2=>by
   unfold dV;rw[hx];simp only;rw[SO y0,SO y1,SO y2]
    -- the nodes as they are
  have same:∀ H3:AHeap,Hs.next<=H3.next->(∀ i,H.next+3<=i->i<Hs.next->H3.get i=Hs.get i)->Fz (fun i=>H.next<=i) H3 H.next (.own id gg 0 ns.length 3) (.vec ns.length (bz ns A (aa x.card) (af x.parents) (ba x))):=fun H3 h1 h2=>by
   have hN3:=hN.keep (H':=H3) h1 h2;refine hfin H3 _ _ _ _ _ ?_ (hN3.rB (hgone _)) (hN3.nH (hgone _));rw[h2 id z1 z2,z5,hcs0]
  have nq0:NodesQ e ns (bz ns A (aa x.card) (af x.parents) (ba x)):=by
   have:=uA (e:=e) (x':=x) (rv:=ba x) hAlt (.inr rfl) fun _=>rfl;rw[hset]at this;exact this
  have noch:∀ E':Env,c≠0->c≠10->c≠11->dw c r n g x=(x,ba x)->E' 3=.ptr (H.next+1) 0 0->E' 4=.ptr (H.next+2) 0 0->Φ ⟨E',Hs⟩:=fun E' y0 y1 y2 y3 h3 h4=>(hΦ _).2 ⟨h3,h4,g,.own id gg 0 ns.length 3,ns,_,Nat.le_refl _,sold,g1,rfl,rfl,g2',fun H3 h5 h6=>same H3 (by rw[h5];exact Nat.le_refl _) fun i h7 _=>h6 i (by omega),hsm0,nq0,fun _=>rfl,by omega,by rw[<- hc,bN y0 y1 y2,y3,hset]⟩;by_cases h0:c=0
  ·refine W.sq ?_;simp only[go_sem,u101,h0];refine W.cond (t:=true) rfl ?_;refine W.vs ?_;simp only[go_sem,u2,u3,s0,s1];refine(hΦ _).2 ⟨by simp only[go_sem,u3],by simp only[go_sem,u4],n,.own id gg 0 ns.length 3,ns,_,by rw[aw];exact Nat.le_refl _,fun i h=>by rw[ab,SO (by omega)];exact sold i h,by rw[ab,SQ rfl],rfl,rfl,?_,fun H3 h5 h6=>same H3 (by rw[h5,aw];exact Nat.le_refl _) fun i h7 _=>by rw[h6 i (by omega),ab,SO (by omega)],hsm0,nq0,fun _=>rfl,by omega,by rw[<- hc,h0];unfold dV;rw[hx];rfl⟩;obtain⟨q,hq,ql⟩:=g2';exact⟨q,by rw[ab,SO (by omega)];exact hq,ql⟩
    -- one node set anew
  have hset1:∀ (E':Env) (H2:AHeap) (x':NodeP) (pv' rv' rw:AVal),E' 3=.ptr (H.next+1) 0 0->E' 4=.ptr (H.next+2) 0 0->Hs.next<=H2.next->(∀ i,i<H.next+3->H2.get i=Hs.get i)->H2.get id=some (.arr gg 73 (bz ns A (aa x'.card) pv' rv')) ->
    (∀ H3:AHeap,H3.next=H2.next->(∀ i,i≠H.next+2->H3.get i=H2.get i)->Fz (fun i=>H.next<=i) H3 H.next pv' (af x'.parents)/\Fz (fun i=>H.next<=i) H3 H.next rv' rw)->(rw=ah x'.rows\/rw=ba x')->(e A->rw=ba x')->(x'.parents.length<=m+1/\x'.rows.length<=m+1/\∀ r∈x'.rows,r≠[]/\r.length<=m+1)->c≠10->c≠11->dw c r n g x=(x',rw)->Φ ⟨E',H2⟩:=by
   intro E' H2 x' pv' rv' rw h3 h4 hn ho hid hfz hr he2 hsz y1 y2 y3;refine(hΦ _).2 ⟨h3,h4,g,.own id gg 0 ns.length 3,ns.set A x',bz ns A (aa x'.card) (af x'.parents) rw,hn,fun i h=>by rw[ho i (by omega)];exact sold i h,(ho _ (by omega)).trans g1,rfl,rfl,?_,fun H3 h5 h6=>?_,hsm0.set hsz,uA hAlt hr he2,fun h=>absurd (hc.trans h) h0,by rw[SU];omega,by rw[<- hc,bN h0 y1 y2,y3]⟩
   ·obtain⟨q,hq,ql⟩:=g2';exact⟨q,(ho _ (by omega)).trans hq,ql⟩
   ·obtain⟨f1,f2⟩:=hfz H3 h5 h6;have:=hfin H3 x'.card pv' rv' _ _ ((h6 id (by omega)).trans hid) f1 f2;rw[SU];exact this
  have par3:∀ H3:AHeap,Hs.next<=H3.next->(∀ i g2 e2 c2,H.next+3<=i->i<Hs.next->Hs.get i=some (.arr g2 e2 c2)->e2≠73->H3.get i=Hs.get i)->Fz (fun i=>H.next<=i) H3 H.next pv (af x.parents)/\Fz (fun i=>H.next<=i) H3 H.next rv (ba x):=fun H3 h1 h2=>by
   have hN3:=hN.keepE (H':=H3) h1 h2;exact⟨hN3.rB (hgone _),hN3.nH (hgone _)⟩
  have xsz:x.parents.length<=m+1/\x.rows.length<=m+1/\∀ r∈x.rows,r≠[]/\r.length<=m+1:=⟨by omega,by omega,fun r hr=>⟨(x3 r hr).1,by have:=(x3 r hr).2;omega⟩⟩
  have nid:∀ {i g2 e2 c2},Hs.get i=some (.arr g2 e2 c2)->e2≠73->i≠id:=fun h1 h2 h3=>by
   rw[h3,z5]at h1;cases h1;exact h2 rfl
  have pne:∀ i g2 e2 c2,Hs.get i=some (.arr g2 e2 c2)->e2≠3->∀ g n,pv≠.own i g 0 n 1:=fun i g2 e2 c2 h1 h2 g n hv=>by
   rcases hN.par with ⟨h3,_⟩|⟨i3,g3,_,_,h3,h4⟩
   ·rw[h3]at hv;cases hv
   ·rw[h3]at hv;obtain rfl:=(AVal.own.inj hv).1;rw[h4]at h1;cases h1;exact h2 rfl
  have plo:∀ i,i<H.next+3->∀ g n,pv≠.own i g 0 n 1:=fun i h g n hv=>by
   rcases hN.par with ⟨h3,_⟩|⟨i3,g3,h1,_,h3,h4⟩
   ·rw[h3]at hv;cases hv
   ·rw[h3]at hv;have:=(AVal.own.inj hv).1;omega
  refine W.sq ?_;simp only[go_sem,u101,h0];refine W.cond (t:=false) rfl ?_;by_cases h1:c=1
  ·refine W.sq ?_;simp only[go_sem,u101,h1];refine W.cond (t:=true) rfl ?_;refine W.vs ?_;have c1l:A*3+1<=cs0.length:=(by omega);have e1:setAt cs0 (A*3) [.lit (.int .i64 n)]=bz ns A (aa n) pv rv:=(by rw[dS (by omega),hcs0,M9];rfl);simp only[go_sem,u2,u10,s0,sid,c1l,e1];refine hset1 _ _ { x with card:=n } pv rv (ba x) (by simp only[go_sem,u3]) (by simp only[go_sem,u4]) (by rw[aw];exact Nat.le_refl _) (fun i h=>by rw[ab,SO (by omega)]) (by rw[ab,SQ rfl];rfl) (fun H3 h5 h6=>?_) (.inr rfl) (fun _=>rfl) xsz (by omega) (by omega) (by rw[h1];rfl);exact par3 H3 (by rw[h5,aw];exact Nat.le_refl _) fun i g2 e2 c2 h1 _ h3 h4=>by rw[h6 i (by omega),ab,SO (nid h3 h4)]
  refine W.sq ?_;simp only[go_sem,u101,h1];refine W.cond (t:=false) rfl ?_;by_cases h2:c=2
  ·refine W.sq ?_;simp only[go_sem,u101,h2];refine W.cond (t:=true) rfl ?_;obtain⟨pv2,H2,hA2,oP,n2,hp2⟩:=gL (P:=Tryz.prog) (H:=Hs) (t:=46) (x:=aa n) (n:=Hs.next+1) Tryz.underlying46 Tryz.dx Tryz.dQ rfl (by rw[Tryz.eC,aP];omega) hN.par (by omega) rfl;simp only[aa]at hA2;have kid:H2.get id=_:=(hp2 _ (by omega) (pne _ _ _ _ z5 (by decide))).trans z5;have lid:=ag kid;have c1l:A*3+2<=cs0.length:=(by omega);have e1:setAt cs0 (A*3+1) [pv2]=bz ns A (aa x.card) pv2 rv:=(by rw[dS (by omega),hcs0,Cs]);have pv21:=oP.one;have pv2c:=oP.cells;have fin2:∀ E':Env,E' 3=.ptr (H.next+1) 0 0->E' 4=.ptr (H.next+2) 0 0->Φ ⟨E',H2.upd id (.arr gg 73 (bz ns A (aa x.card) pv2 rv))⟩:=fun E' h3 h4=>by
    refine hset1 _ _ { x with parents:=x.parents++[n] } pv2 rv (ba x) h3 h4 (by rw[aw];omega) (fun i h=>by rw[ab,SO (by omega)];exact hp2 i (by omega) (plo i h)) (by rw[ab,SQ rfl]) (fun H3 h5 h6=>?_) (.inr rfl) (fun _=>rfl) ⟨by simp;omega,xsz.2.1,xsz.2.2⟩ (by omega) (by omega) (by rw[h2];rfl);have k3:∀ i g2 e2 c2,H.next+3<=i->H2.get i=some (.arr g2 e2 c2)->e2≠73->H3.get i=H2.get i:=fun i g2 e2 c2 h1 h3 h4=>by
     rw[h6 i (by omega),ab,SO];rintro rfl;rw[kid]at h3;cases h3;exact h4 rfl
    have oP3:aA (H.next+3) H3 3 pv2 (ints (x.parents++[n])):=by
     have:=oP.keep (H':=H3) (Nat.le_refl _) (by rw[h5,aw];exact Nat.le_refl _) fun i g h1 _ h3 _=>k3 i g _ _ h1 h3 (by decide);simpa [ints] using this
    have rM:=hN.rows.yt (H':=H3) (by rw[h5,aw];omega) fun i g2 e2 c2 h1 h2 h3 h4=>by
     have h7:H2.get i=Hs.get i:=hp2 i h2 fun g n hv=>by
      rcases h4 with h4|h4
      ·exact pne _ _ _ _ h3 (by rw[h4];decide) _ _ hv
      ·exact hN.dj _ _ _ hv h4
     refine(k3 i g2 e2 c2 h1 (h7.trans h3) ?_).trans h7;rcases h4 with h4|h4
     ·rw[h4];decide
     ·have:=hN.rows.elem h4;rw[h3]at this;obtain⟨_,this⟩:=this;cases this;decide
    have hN3:NodO (H.next+3) H3 (.lit (.slice none 0 0)) rv ids { x with parents:=[] }:=⟨.nil,rM,fun _ _ _ h=>(by cases h),hN.nil⟩
    exact⟨oP3.eX fun i h=>by omega,hN3.nH (hgone _)⟩
   refine W.draw 9 [0,0,2,6,14,0,32,96,254] Tryz.mixed (by kernel_rfl) (by kernel_rfl) ?_;rcases hN.par with ⟨hv,_⟩|⟨i3,g3,_,_,hv,h4⟩
   ·subst hv;simp only[go_sem,u2,u10,s0,sid,c1,c1l,e1,hA2,lid,pv21,pv2c];exact⟨⟨fun _ h=>by omega,fun _ h=>by omega,fun _ h=>by omega⟩,fin2 _ (by simp only[go_sem,u3]) (by simp only[go_sem,u4])⟩
   ·rw[aP]at hv;subst hv;simp only[go_sem,u2,u10,s0,sid,c1,c1l,e1,hA2,lid,pv21,pv2c];exact⟨⟨fun _ h=>by omega,fun _ h=>by omega,fun _ h=>by omega⟩,fin2 _ (by simp only[go_sem,u3]) (by simp only[go_sem,u4])⟩
  refine W.sq ?_;simp only[go_sem,u101,h2];refine W.cond (t:=false) rfl ?_;by_cases h3:c=3
  ·refine W.sq ?_;simp only[go_sem,u101,h3];refine W.cond (t:=true) rfl ?_;refine W.vs ?_;have c1l:A*3+2<=cs0.length:=(by omega);have e1:setAt cs0 (A*3+1) [.lit (.slice none 0 0)]=bz ns A (aa x.card) (.lit (.slice none 0 0)) rv:=(by rw[dS (by omega),hcs0,Cs]);simp only[go_sem,u10,sid,c1l,e1];refine hset1 _ _ { x with parents:=[] } (.lit (.slice none 0 0)) rv (ba x) (by simp only[go_sem,u3]) (by simp only[go_sem,u4]) (by rw[aw];exact Nat.le_refl _) (fun i h=>by rw[ab,SO (by omega)]) (by rw[ab,SQ rfl];rfl) (fun H3 h5 h6=>?_) (.inr rfl) (fun _=>rfl) ⟨by simp,xsz.2.1,xsz.2.2⟩ (by omega) (by omega) (by rw[h3];rfl);exact⟨.nil,(par3 H3 (by rw[h5,aw];exact Nat.le_refl _) fun i g2 e2 c2 h1 _ h3 h4=>by rw[h6 i (by omega),ab,SO (nid h3 h4)]).2⟩
  refine W.sq ?_;simp only[go_sem,u101,h3];refine W.cond (t:=false) rfl ?_;by_cases h4:c=4
  ·refine W.sq ?_;simp only[go_sem,u101,h4];refine W.cond (t:=true) rfl ?_;obtain⟨rv2,H2,hA2,oM,n2,hp2⟩:=hN.rows.Co (P:=Tryz.prog) (n:=Hs.next+1+1) (t:=33) (r:=ints [n]) Tryz.underlying33 Tryz.jL Tryz.kB Tryz.kA (by decide) (by rw[SZ];omega) (by omega) rfl;rw[aP]at hA2;simp only[ints,aa,List.map_cons,List.map_nil,List.length_cons,List.length_nil,Nat.zero_add]at hA2;have kid:H2.get id=_:=(hp2 _ (by omega) (hN.rows.ne z5 (by decide))).trans z5;have lid:=ag kid;have e1:setAt cs0 (A*3+2) [rv2]=bz ns A (aa x.card) pv rv2:=(by rw[dS (by omega),hcs0,Ct]);have rv21:=oM.top.one;have rv2c:=oM.top.cells;have fin4:∀ E':Env,E' 3=.ptr (H.next+1) 0 0->E' 4=.ptr (H.next+2) 0 0->Φ ⟨E',H2.upd id (.arr gg 73 (bz ns A (aa x.card) pv rv2))⟩:=fun E' h3' h4'=>by
    have hne:({ x with rows:=x.rows++[[n]] }:NodeP).rows≠[]:=(by simp);refine hset1 _ _ { x with rows:=x.rows++[[n]] } pv rv2 (ba { x with rows:=x.rows++[[n]] }) h3' h4' (by rw[aw];omega) (fun i h=>by rw[ab,SO (by omega)];exact hp2 i (by omega) (hN.rows.top.ne (by omega))) (by rw[ab,SQ rfl]) (fun H3 h5 h6=>?_) (.inr rfl) (fun _=>rfl) ⟨xsz.1,by simp;omega,fun r hr=>?_⟩ (by omega) (by omega) (by rw[h4];rfl)
    ·have k3:∀ i g2 e2 c2,H.next+3<=i->H2.get i=some (.arr g2 e2 c2)->e2≠73->H3.get i=H2.get i:=fun i g2 e2 c2 h1 h3 h4=>by
      rw[h6 i (by omega),ab,SO];rintro rfl;rw[kid]at h3;cases h3;exact h4 rfl
     have oP3:=hN.par.keep (H':=H3) (Nat.le_refl _) (by rw[h5,aw];omega) fun i g h1 h2 h3 _=>by
      have h7:H2.get i=Hs.get i:=hp2 i h2 (hN.rows.ne h3 (by decide));exact(k3 i g _ _ h1 (h7.trans h3) (by decide)).trans h7
     have rM:OwnM (H.next+3) H3 46 3 rv2 (ids++[Hs.next]) ((x.rows++[[n]]).map ints):=by
      have:=oM.yt (H':=H3) (by rw[h5,aw];exact Nat.le_refl _) fun i g2 e2 c2 h1 _ h3 h4=>k3 i g2 e2 c2 h1 h3 (by
       rcases h4 with h4|h4
       ·rw[h4];decide
       ·have:=oM.elem h4;rw[h3]at this;obtain⟨_,this⟩:=this;cases this;decide)
      rw[TI];exact this
     have hN3:NodO (H.next+3) H3 (.lit (.slice none 0 0)) rv2 (ids++[Hs.next]) { x with parents:=[],rows:=x.rows++[[n]] }:=⟨.nil,rM,fun _ _ _ h=>(by cases h),fun h=>by simp at h⟩
     exact⟨oP3.eX fun i h=>by omega,hN3.nH (hgone _)⟩
    ·rcases Ta.1 hr with h|h
     ·exact xsz.2.2 r h
     ·obtain rfl:=List.mem_singleton.1 h;exact⟨by simp,by simp⟩
   refine W.draw 10 [0,0,2,6,14,0,32,96,224,510] Tryz.mixed (by kernel_rfl) (by kernel_rfl) ?_;have hl:ids.length=x.rows.length:=(by have:=hN.rows.len;rwa [SZ]at this);rcases hN.rows.top with ⟨hv,_⟩|⟨i3,g3,_,_,hv,h4⟩
   ·subst hv;simp only[go_sem,u2,u10,s0,sid,c2,hA2,lid,rv21,rv2c,e1];exact⟨⟨fun _ h=>by omega,fun _ h=>by omega,fun _ h=>by omega⟩,⟨fun _ h=>by omega,fun _ h=>by omega,fun _ h=>by omega⟩,by omega,fin4 _ (by simp only[go_sem,u3]) (by simp only[go_sem,u4])⟩
   ·subst hv;simp only[go_sem,u2,u10,s0,sid,c2,hA2,lid,rv21,rv2c,e1];exact⟨⟨fun _ h=>by omega,fun _ h=>by omega,fun _ h=>by omega⟩,⟨fun _ h=>by omega,fun _ h=>by omega,fun _ h=>by omega⟩,by omega,fin4 _ (by simp only[go_sem,u3]) (by simp only[go_sem,u4])⟩
  refine W.sq ?_;simp only[go_sem,u101,h4];refine W.cond (t:=false) rfl ?_
    -- one row of the node
  have row:R=-1/\x.rows=[]\/∃ (Rn:Nat) (q:List Int) (idt gt:Nat) (cells:List AVal) (idr:Nat),R=(Rn:Int)/\RowAt (H.next+3) Hs rv ids x.rows Rn q idt gt cells idr/\Rn=(r % (x.rows.length:Int)).toNat:=by
   rcases hR with ⟨hR2,hR⟩|⟨_,hR0,hR1,hR3⟩
   ·exact .inl ⟨hR,hR2⟩
   ·obtain⟨Rn,rfl⟩:=S2 hR0;obtain⟨q,hq⟩:=get_of_lt (l:=x.rows) (i:=Rn) (by omega);obtain⟨idt,gt,cells,idr,hra⟩:=OwnM.rowAt hN.rows hq;exact .inr ⟨Rn,q,idt,gt,cells,idr,rfl,hra,by omega⟩
  have pkeep:∀ H3:AHeap,Hs.next<=H3.next->(∀ i g,H.next+3<=i->i<Hs.next->Hs.get i=some (.arr g 3 (ints x.parents))->(∀ j,j∈ids->i≠j)->H3.get i=Hs.get i)->Fz (fun i=>H.next<=i) H3 H.next pv (af x.parents):=fun H3 h1 h2=>by
   have:=hN.par.keep (H':=H3) (Nat.le_refl _) h1 fun i g h3 h4 h5 h6=>h2 i g h3 h4 h5 fun j hj he=>by
    subst he;exact hN.dj _ _ _ h6 hj
   exact this.eX fun i h=>by omega
  have rsz:∀ (Rn:Nat) (q q':List Int),x.rows[Rn]?=some q->q'≠[]->q'.length<=q.length+1->(x.parents.length<=m+1/\(x.rows.set Rn q').length<=m+1/\∀ r∈x.rows.set Rn q',r≠[]/\r.length<=m+1):=fun Rn q q' hq h1 h2=>⟨xsz.1,by rw[SU];exact xsz.2.1,fun r hr=>by
   rcases Tq hr with h|rfl
   ·exact xsz.2.2 r h
   ·have:=(x3 q (SK hq)).2;exact⟨h1,by omega⟩⟩
  by_cases h5:c=5
  ·refine W.sq ?_;simp only[go_sem,u101,h5];refine W.cond (t:=true) rfl ?_;rcases row with ⟨hR1,hRN⟩|⟨Rn,q,idt,gt,cells,idr,hR1,hra,hRn⟩
   ·refine W.vs ?_;simp only[go_sem,u11,hR1];exact noch _ h0 (by omega) (by omega) (rC (by omega) hRN) (by simp only[go_sem,u3]) (by simp only[go_sem,u4])
   ·refine W.vs ?_;have hRl:=get_lt hra.q;have hrv:=hra.rv;have lt:=ag hra.top;have ltl:=hra.len;have e1:setAt cs0 (A*3+2) [.own idt gt 0 Rn 1]=bz ns A (aa x.card) pv (.own idt gt 0 Rn 1):=(by rw[dS (by omega),hcs0,Ct]);simp only[go_sem,u10,u11,hR1,sid,c2,hrv,lt,e1];refine⟨by omega,by omega,?_⟩;refine hset1 _ _ { x with rows:=x.rows.take Rn } pv (.own idt gt 0 Rn 1) (ah (x.rows.take Rn)) (by simp only[go_sem,u3]) (by simp only[go_sem,u4]) (by rw[aw];exact Nat.le_refl _) (fun i h=>by rw[ab,SO (by omega)]) (by rw[ab,SQ rfl];rfl) (fun H3 h7 h8=>?_) (.inl rfl) (fun hE=>?_) ⟨xsz.1,by simp;omega,fun r hr=>xsz.2.2 r (Tg hr)⟩ (by omega) (by omega) (by rw[h5];exact Ng hra.q hRn)
    ·have hk3:∀ i g2 e2 c2,H.next+3<=i->Hs.get i=some (.arr g2 e2 c2)->e2≠73->H3.get i=Hs.get i:=fun i g2 e2 c2 h1 h3 h4=>by rw[h8 i (by omega),ab,SO (nid h3 h4)]
     have hM3:=hN.rows.yt (H':=H3) (by rw[h7,aw];exact Nat.le_refl _) fun i g2 e2 c2 h1 _ h3 h4=>hk3 i g2 e2 c2 h1 h3 (by
      rcases h4 with h4|h4
      ·rw[h4];decide
      ·obtain⟨_,this⟩:=hN.rows.elem h4;rw[h3]at this;cases this;decide)
     exact⟨pkeep H3 (by rw[h7,aw];exact Nat.le_refl _) fun i g h1 _ h3 _=>hk3 i g _ _ h1 h3 (by decide),RowAt.Nd hra hM3 (fun i h=>by show H.next<=i;omega) ((hk3 idt _ _ _ hra.tlo.1 hra.top (by decide)).trans hra.top)⟩
    ·rw[he]at hE;rcases hE with hE|hE
     ·omega
     ·have:=hE x hx;rw[this]at hRl;simp at hRl
  refine W.sq ?_;simp only[go_sem,u101,h5];refine W.cond (t:=false) rfl ?_
    -- a row's block turned, or its handle
  have fin6:∀ (E':Env) (H2:AHeap) (Rn:Nat) (q q':List Int) (idt gt:Nat) (cells:List AVal) (idr:Nat) (wv:AVal),RowAt (H.next+3) Hs rv ids x.rows Rn q idt gt cells idr->E' 3=.ptr (H.next+1) 0 0->E' 4=.ptr (H.next+2) 0 0->q'≠[]->q'.length<=q.length+1->5<c->c≠10->c≠11->Rn=(r % (x.rows.length:Int)).toNat->q'=iI c n g q->Hs.next<=H2.next->(∀ i,i<Hs.next->i≠idt->i≠idr->H2.get i=Hs.get i) ->
    H2.get idt=some (.arr gt 46 (cells.set Rn wv))->(∀ H3:AHeap,H3.next=H2.next->(∀ i,i≠H.next+2->H3.get i=H2.get i)->Fz (fun i=>H.next<=i) H3 H.next wv (af q'))->Φ ⟨E',H2⟩:=by
   intro E' H2 Rn q q' idt gt cells idr wv hra h3 h4 hq1 hq2 hc5 hc10 hc11 hRn hqB hn hk ht hfz;have hRl:=get_lt hra.q;have d1:=hra.tlo;have d2:=hra.rlo;have hrne:x.rows.set Rn q'≠[]:=fun h=>by
    have:=congrArg List.length h;rw[SU]at this;simp at this;rw[this]at hRl;simp at hRl
   have hrw:ba { x with rows:=x.rows.set Rn q' }=ah (x.rows.set Rn q'):=rR hrne;refine hset1 E' H2 { x with rows:=x.rows.set Rn q' } pv rv (ah (x.rows.set Rn q')) h3 h4 hn (fun i h=>hk i (by omega) (by omega) (by omega)) ?_ (fun H3 h7 h8=>?_) (.inl rfl) (fun _=>hrw.symm) (rsz Rn q q' hra.q hq1 hq2) hc10 hc11 (by rw[Nh hc5 hra.q hRn,hqB])
   ·rw[hk id z2 (fun h=>nid hra.top (by decide) h.symm) (fun h=>nid hra.row (by decide) h.symm),z5,hcs0]
   ·have hpk:=pkeep H3 (by rw[h7];exact hn) fun i g h1 h2 h3 h4=>by
     rw[h8 i (by omega)];refine hk i h2 (fun h=>?_) (h4 idr (SK hra.id));rw[h,hra.top]at h3;cases h3
    refine⟨hpk,RowAt.Nf hra hN.rows (fun i h=>by show H.next<=i;omega) (by rw[h8 idt (by omega)];exact ht) (fun i hi hne=>?_) (hfz H3 h7 h8)⟩;have:=hN.rows.rng i hi;rw[h8 i (by omega)];exact hk i this.2 (fun h=>hra.nm (by rw[<- h];exact hi)) hne
  have cset:∀ {Rn:Nat} {q:List Int} {idt gt:Nat} {cells:List AVal} {idr:Nat},RowAt (H.next+3) Hs rv ids x.rows Rn q idt gt cells idr->cells.set Rn (.own idr 0 0 q.length 1)=cells:=fun hra=>jX hra.at';have fzrow:∀ {Rn:Nat} {q:List Int} {idt gt:Nat} {cells:List AVal} {idr:Nat},RowAt (H.next+3) Hs rv ids x.rows Rn q idt gt cells idr->∀ (H3:AHeap) (l:List Int),l.length=q.length->H3.get idr=some (.arr 0 3 (ints l))->Fz (fun i=>H.next<=i) H3 H.next (.own idr 0 0 q.length 1) (af l):=fun {Rn q idt gt cells idr} hra H3 l hl hg=>by
   have:=hra.rlo;unfold af;rw[hl];refine .frz (show H.next<=idr by omega) hg (by rw[aP,hl,Nat.mul_one]) fun j hj h2 h'=>?_;simp only[Nat.zero_add,ints,S4];exact .lit _
  by_cases h6:c=6
  ·refine W.sq ?_;simp only[go_sem,u101,h6];refine W.cond (t:=true) rfl ?_;rcases row with ⟨hR1,hRN⟩|⟨Rn,q,idt,gt,cells,idr,hR1,hra,hRn⟩
   ·refine W.sq ?_;simp only[go_sem,u11,hR1];refine W.cond (t:=false) rfl ?_;refine W.vs ?_;simp only[go_sem];exact noch _ h0 (by omega) (by omega) (rC (by omega) hRN) (by simp only[go_sem,u3]) (by simp only[go_sem,u4])
   ·have hRl:=get_lt hra.q;have hrv:=hra.rv;have lt:=ag hra.top;have lr:=ag hra.row;have ltl:=hra.len;have hat:=hra.at';have tne:=aK hat;have qe:=(x3 q (SK hra.q)).1;have ql:0<q.length:=T0.2 qe;have qli:(0:Int)<q.length:=(by omega);have qne:¬ ints q=[]:=fun h=>by have:=congrArg List.length h;rw[aP,List.length_nil]at this;omega
    refine W.sq ?_;simp only[go_sem,u10,u11,hR1,sid,c2,hrv,lt,lr,hat,qli];refine⟨by omega,W.cond (t:=true) rfl ?_⟩;have e1:setAt (ints q) 0 [.lit (.int .i64 n)]=ints (q.set 0 n):=gD ql;refine W.draw 9 [0,1,3,7,0,31,63,0,128] Tryz.mixed (by kernel_rfl) (by kernel_rfl) ?_;simp only[go_sem,u2,u10,u11,hR1,s0,sid,c2,hrv,lt,lr,hat,qli];refine⟨by omega,by omega,fin6 _ _ Rn q (q.set 0 n) idt gt cells idr (.own idr 0 0 q.length 1) hra (by simp only[go_sem,u3]) (by simp only[go_sem,u4]) (fun h=>by have:=congrArg List.length h;rw[SU,List.length_nil]at this;omega) (by rw[SU];omega) (by omega) (by omega) (by omega) hRn (by rw[h6];rfl) (by rw[aw];exact Nat.le_refl _) (fun i _ _ h2=>by rw[ab,SO h2]) (by rw[cset hra,ab,SO hra.ne];exact hra.top) fun H3 h7 h8=>fzrow hra H3 _ (SU ..) ?_⟩;rw[h8 idr (by have:=hra.rlo;omega),ab,SQ rfl];cases q with
    | nil=>exact absurd rfl qe
    | cons a t=>rfl
  refine W.sq ?_;simp only[go_sem,u101,h6];refine W.cond (t:=false) rfl ?_;by_cases h7:c=7
  ·refine W.sq ?_;simp only[go_sem,u101,h7];refine W.cond (t:=true) rfl ?_;rcases row with ⟨hR1,hRN⟩|⟨Rn,q,idt,gt,cells,idr,hR1,hra,hRn⟩
   ·refine W.sq ?_;simp only[go_sem,u11,hR1];refine W.cond (t:=false) rfl ?_;refine W.vs ?_;simp only[go_sem];exact noch _ h0 (by omega) (by omega) (rC (by omega) hRN) (by simp only[go_sem,u3]) (by simp only[go_sem,u4])
   ·have hRl:=get_lt hra.q;have hrv:=hra.rv;have lt:=ag hra.top;have lr:=ag hra.row;have ltl:=hra.len;have hat:=hra.at';have tne:=aK hat;refine W.sq ?_;simp only[go_sem,u11,hR1];refine W.cond (t:=true) rfl ?_;have hG:aA (H.next+3) Hs 3 (.own idr 0 0 q.length 1) (ints q):=.inr ⟨idr,0,hra.rlo.1,hra.rlo.2,by rw[aP],hra.row⟩;have hq2:=(x3 q (SK hra.q)).2;obtain⟨w2,H2,hA2,oW,n2,hp2⟩:=gL (P:=Tryz.prog) (H:=Hs) (t:=46) (x:=aa 0) (n:=Hs.next+1) Tryz.underlying46 Tryz.dx Tryz.dQ rfl (by rw[Tryz.eC,aP];omega) hG (by omega) rfl;simp only[aa]at hA2;have k2:∀ i,i<Hs.next->i≠idr->H2.get i=Hs.get i:=fun i h1 h2=>hp2 i h1 fun g n hv=>h2 (AVal.own.inj hv).1.symm;have lt2:=ag ((k2 idt hra.tlo.2 hra.ne).trans hra.top);have w21:=oW.one;have w2c:=oW.cells;have e1:setAt cells Rn [w2]=cells.set Rn w2:=dS (by omega);refine W.draw 14 [0,1,3,7,0,0,32,96,224,0,992,2016,0,8160] Tryz.mixed (by kernel_rfl) (by kernel_rfl) ?_;simp only[go_sem,u10,u11,hR1,sid,c2,hrv,lt,ltl,hat,hA2,lt2,w21,w2c,e1];have dd1:=hra.tlo;have dd2:=hra.rlo;have dd3:idr≠id:=nid hra.row (by decide);refine⟨by omega,by repeat' (first|refine And.intro ?_ ?_|(intro x hx;omega)),by repeat' (first|refine And.intro ?_ ?_|(intro x hx;omega)),by omega,by omega,fin6 _ _ Rn q (q++[0]) idt gt cells idr w2 hra (by simp only[go_sem,u3]) (by simp only[go_sem,u4]) (by simp) (by simp) (by omega) (by omega) (by omega) hRn (by rw[h7];rfl) (by rw[aw];omega) (fun i h1 h2 h3=>by rw[ab,SO h2];exact k2 i h1 h3) (by rw[ab,SQ rfl]) fun H3 h7 h8=>?_⟩;have oW3:aA (H.next+3) H3 3 w2 (ints (q++[0])):=by
     have:=oW.keep (H':=H3) (Nat.le_refl _) (by rw[h7,aw];exact Nat.le_refl _) fun i g h1 _ h3 _=>by
      rw[h8 i (by omega),ab,SO];rintro rfl;rw[(k2 _ hra.tlo.2 hra.ne).trans hra.top]at h3;cases h3
     simpa [ints] using this
    exact oW3.eX fun i h=>by omega
  refine W.sq ?_;simp only[go_sem,u101,h7];refine W.cond (t:=false) rfl ?_;by_cases h8:c=8
  ·refine W.sq ?_;simp only[go_sem,u101,h8];refine W.cond (t:=true) rfl ?_;rcases row with ⟨hR1,hRN⟩|⟨Rn,q,idt,gt,cells,idr,hR1,hra,hRn⟩
   ·refine W.sq ?_;simp only[go_sem,u11,hR1];refine W.cond (t:=false) rfl ?_;refine W.vs ?_;simp only[go_sem];exact noch _ h0 (by omega) (by omega) (rC (by omega) hRN) (by simp only[go_sem,u3]) (by simp only[go_sem,u4])
   ·have hRl:=get_lt hra.q;have hrv:=hra.rv;have lt:=ag hra.top;have lr:=ag hra.row;have ltl:=hra.len;have hat:=hra.at';have tne:=aK hat;have qe:=(x3 q (SK hra.q)).1;have ql:0<q.length:=T0.2 qe;have qli:(0:Int)<q.length:=(by omega);refine W.sq ?_;simp only[go_sem,u10,u11,hR1,sid,c2,hrv,lt,lr,hat,qli];refine⟨by omega,W.cond (t:=true) rfl ?_⟩;refine W.seq ?_;refine W.draw 14 [0,1,3,7,0,0,32,96,224,0,992,2016,4064,8160] Tryz.mixed (by kernel_rfl) (by kernel_rfl) ?_;have dd1:=hra.tlo;have dd2:=hra.rlo;have dd3:idr≠id:=nid hra.row (by decide);have dd4:idt≠id:=nid hra.top (by decide);have hq2:=(x3 q (SK hra.q)).2;have lte:∀ L,(ext Hs L).live idt gt=_:=fun L=>(dv (by omega)).trans lt;have side:∀ L,(ext Hs L).live id gg=_:=fun L=>(dv (by omega)).trans sid;have e1:setAt cells Rn [.own Hs.next 0 0 q.length 1]=cells.set Rn (.own Hs.next 0 0 q.length 1):=dS (by omega);simp only[go_sem,u10,u11,hR1,sid,c2,hrv,lt,lr,ltl,hat,lte,e1];obtain⟨H2,hH2⟩:∃ H2,H2=(ext Hs [.arr 0 3 (List.replicate q.length (.lit (.int .i64 0)))]).upd idt (.arr gt 46 (cells.set Rn (.own Hs.next 0 0 q.length 1))):=⟨_,rfl⟩
    rw[<- hH2];have n2:H2.next=Hs.next+1:=(by rw[hH2];rfl);have k2:∀ i,i<Hs.next->i≠idt->H2.get i=Hs.get i:=fun i h1 h2=>by rw[hH2,ab,SO h2];exact dH _ _ _ h1
    have t2:H2.get idt=some (.arr gt 46 (cells.set Rn (.own Hs.next 0 0 q.length 1))):=(by rw[hH2,ab,SQ rfl]);have r2:H2.get Hs.next=some (.arr 0 3 (List.replicate q.length (.lit (.int .i64 0)))):=(by rw[hH2,ab,SO (by omega)];exact bQ ..);clear hH2;have lt2:=ag t2;have lr2:=ag r2;have lid2:=ag ((k2 id z2 (fun h=>dd4 h.symm)).trans z5);have l12:=ag ((k2 (H.next+1) (by omega) (by omega)).trans g1);have at2:(cells.set Rn (.own Hs.next 0 0 q.length 1))[Rn]?=some (.own Hs.next 0 0 q.length 1):=S1 (by omega);have tne2:=aK at2;have len2:(cells.set Rn (.own Hs.next 0 0 q.length 1)).length=x.rows.length:=(by rw[SU];exact ltl);have rne:¬ List.replicate q.length (AVal.lit (.int .i64 0))=[]:=fun h=>by have:=congrArg List.length h;rw[Tl,List.length_nil]at this;omega
    refine⟨by omega,by omega,by repeat' (first|refine And.intro ?_ ?_|(intro x hx;omega)),by omega,by omega,?_⟩;refine W.draw 9 [0,1,3,7,0,31,63,0,128] Tryz.mixed (by kernel_rfl) (by kernel_rfl) ?_;simp only[go_sem,u3,u10,u11,hR1,lid2,l12,c2,hrv,lt2,lr2,at2,qli];refine⟨by omega,by rw[Tl];omega,fin6 _ _ Rn q (g :: List.replicate (q.length - 1) 0) idt gt cells idr (.own Hs.next 0 0 q.length 1) hra (by simp only[go_sem,u3]) (by simp only[go_sem,u4]) (by simp) (by rw[List.length_cons,Tl];omega) (by omega) (by omega) (by omega) hRn (by rw[h8];rfl) (by rw[aw];omega) (fun i h1 h2 _=>by rw[ab,SO (by omega)];exact k2 i h1 h2) (by rw[ab,SO (by omega)];exact t2) fun H3 h7 h8=>?_⟩;obtain⟨ml,hml⟩:∃ ml,q.length=ml+1:=⟨q.length - 1,by omega⟩
    have hgr:H3.get Hs.next=some (.arr 0 3 (ints (g :: List.replicate ml 0))):=by
     rw[h8 Hs.next (by omega),ab,SQ rfl,hml];simp [TZ,ints,aa]
    unfold af;rw[hml,Nat.add_sub_cancel,show (g :: List.replicate ml (0:Int)).length=ml+1 by simp];refine .frz (show H.next<=Hs.next by omega) hgr (by rw[aP];simp) fun j hj h2 h'=>?_;simp only[Nat.zero_add,ints,S4];exact .lit _
  refine W.sq ?_;simp only[go_sem,u101,h8];refine W.cond (t:=false) rfl ?_;by_cases h9:c=9
  ·refine W.sq ?_;simp only[go_sem,u101,h9];refine W.cond (t:=true) rfl ?_;rcases row with ⟨hR1,hRN⟩|⟨Rn,q,idt,gt,cells,idr,hR1,hra,hRn⟩
   ·refine W.sq ?_;simp only[go_sem,u11,hR1];refine W.cond (t:=false) rfl ?_;refine W.vs ?_;simp only[go_sem];exact noch _ h0 (by omega) (by omega) (rC (by omega) hRN) (by simp only[go_sem,u3]) (by simp only[go_sem,u4])
   ·have hRl:=get_lt hra.q;have hrv:=hra.rv;have lt:=ag hra.top;have lr:=ag hra.row;have ltl:=hra.len;have hat:=hra.at';have tne:=aK hat;have hq2:=(x3 q (SK hra.q)).2;have w1:=SM ((q.length:Int) - 1) (by omega);refine W.sq ?_;simp only[go_sem,u11,hR1];refine W.cond (t:=true) rfl ?_;refine W.seq ?_;refine W.draw 10 [0,1,3,7,0,31,63,127,255,0] Tryz.mixed (by kernel_rfl) (by kernel_rfl) ?_;simp only[go_sem,u10,u11,hR1,sid,c2,hrv,lt,lr,hat,w1];have qe:=(x3 q (SK hra.q)).1;have ql:0<q.length:=T0.2 qe;refine⟨by omega,W.block ?_⟩;refine W.env fun E1 hE1=>?_;have y3:E1 3=.ptr (H.next+1) 0 0:=(by rw[hE1];simp only[go_sem,u3]);have y4:E1 4=.ptr (H.next+2) 0 0:=(by rw[hE1];simp only[go_sem,u4]);have y10:E1 10=.ptr id gg (A*3):=(by rw[hE1];simp only[go_sem,u10]);have y11:E1 11=aa (Rn:Int):=(by rw[hE1];simp only[go_sem,u11,hR1]);have y12:E1 12=aa 0:=(by rw[hE1];simp only[go_sem]);have y13:E1 13=aa ((q.length:Int) - 1):=(by rw[hE1];simp only[go_sem]);clear hE1;refine W.aL 2085924839766484109564043631985174802744541411009508283535333416154492349816150761370611118080 (by kernel_rfl) (fun ρ Hy=>∃ (i k:Int) (l:List Int) (fu:Nat),ρ 12=aa i/\ρ 13=aa k/\0<=i/\k<q.length/\i<=q.length/\-1<=k/\l.length=q.length/\Hy.next=Hs.next/\(∀ j,j≠idr->Hy.get j=Hs.get j)/\Hy.get idr=some (.arr 0 3 (ints l))/\jc fu i k l=jc (q.length+1) 0 ((q.length:Int) - 1) q/\k - i<fu) (fun ρ H=>(iv (ρ 13) - iv (ρ 12)+1).toNat) ?_ ?_
    ·simp only[go_sem,y12,y13];exact⟨0,_,q,q.length+1,rfl,rfl,by omega,by omega,by omega,by omega,rfl,hra.row,rfl,by omega⟩
    rintro ρ5 Hy ⟨i,k,l,fu,h12,h13,i0,k0,i1,k1,hl,ny,yo,yr,hrev,hfu⟩;refine W.env fun E2 hE2=>?_;have a3:E2 3=.ptr (H.next+1) 0 0:=(by rw[hE2];simp only[go_sem,y3]);have a4:E2 4=.ptr (H.next+2) 0 0:=(by rw[hE2];simp only[go_sem,y4]);have a10:E2 10=.ptr id gg (A*3):=(by rw[hE2];simp only[go_sem,y10]);have a11:E2 11=aa (Rn:Int):=(by rw[hE2];simp only[go_sem,y11]);have a12:E2 12=aa i:=(by rw[hE2];simp only[go_sem,h12]);have a13:E2 13=aa k:=(by rw[hE2];simp only[go_sem,h13]);clear hE2;have dd1:=hra.tlo;have dd2:=hra.rlo;have dd3:id≠idr:=fun h=>nid hra.row (by decide) h.symm;have lidy:=ag ((yo id dd3).trans z5);have lty:=ag ((yo idt hra.ne).trans hra.top);have lry:=ag yr;by_cases hik:i<k;rotate_left
    ·refine W.vs ?_;simp only[go_sem,a12,a13,hik];refine fin6 _ _ Rn q l idt gt cells idr (.own idr 0 0 q.length 1) hra (by simp only[go_sem,a3]) (by simp only[go_sem,a4]) (fun h=>by rw[h]at hl;simp at hl;omega) (by omega) (by omega) (by omega) (by omega) hRn (by rw[h9,show iI 9 n g q=jc (q.length+1) 0 ((q.length:Int) - 1) q from rfl,<- hrev,Nj hik]) (by omega) (fun j _ _ h2=>yo j h2) (by rw[cset hra,yo idt hra.ne];exact hra.top) fun H3 h7 h8=>fzrow hra H3 l hl (by rw[h8 idr (by omega)];exact yr)
    obtain⟨iN,rfl⟩:=S2 i0;obtain⟨kN,rfl⟩:=S2 (show 0<=k by omega);obtain⟨qa,hqa⟩:=get_of_lt (l:=l) (i:=iN) (by omega);obtain⟨qb,hqb⟩:=get_of_lt (l:=l) (i:=kN) (by omega);have ia:(ints l)[iN]?=some (aa qa):=(by rw[gJ,hqa];rfl);have ib:(ints l)[kN]?=some (aa qb):=(by rw[gJ,hqb];rfl);have lne:=aK ia;have ill:(ints l).length=q.length:=(by rw[aP];exact hl);have b1':(iN:Int)<q.length:=(by omega);have b2':(kN:Int)<q.length:=(by omega);refine W.sq ?_;simp only[go_sem,a12,a13,hik];refine W.seq (W.block ?_);refine W.sq ?_;simp only[go_sem,a10,a11,a12,lidy,c2,hrv,lty,hat,lry,ia,b1'];refine⟨by omega,?_⟩;refine W.seq ?_;refine W.draw 18 [0,1,3,7,0,31,63,0,0,256,768,1792,0,7936,16128,0,65280,130816] Tryz.mixed (by kernel_rfl) (by kernel_rfl) ?_;have eA:setAt (ints l) iN [.lit (.int .i64 qb)]=ints (l.set iN qb):=gD (by omega);simp only[go_sem,a10,a11,a12,a13,lidy,c2,hrv,lty,hat,lry,ib,ill,b1',b2',eA];refine⟨by omega,by omega,by omega,?_⟩;obtain⟨Hz,hHz⟩:∃ Hz,Hz=Hy.upd idr (.arr 0 3 (ints (l.set iN qb))):=⟨_,rfl⟩
    rw[<- hHz];have nz:Hz.next=Hs.next:=(by rw[hHz,aw];exact ny);have zo:∀ j,j≠idr->Hz.get j=Hs.get j:=fun j h=>by rw[hHz,ab,SO h];exact yo j h
    have zr:Hz.get idr=some (.arr 0 3 (ints (l.set iN qb))):=(by rw[hHz,ab,SQ rfl]);clear hHz;have lidz:=ag ((zo id dd3).trans z5);have ltz:=ag ((zo idt hra.ne).trans hra.top);have lrz:=ag zr;have zll:(ints (l.set iN qb)).length=q.length:=(by rw[aP,SU];exact hl);have zne:¬ ints (l.set iN qb)=[]:=fun h=>by have:=congrArg List.length h;rw[zll,List.length_nil]at this;omega
    have eB:setAt (ints (l.set iN qb)) kN [.lit (.int .i64 qa)]=ints ((l.set iN qb).set kN qa):=gD (by rw[SU];omega);have wk:=SM ((kN:Int) - 1) (by omega);have wi:=SM ((iN:Int)+1) (by omega);refine W.vs ?_;simp only[go_sem,a10,a11,a13,lidz,c2,hrv,ltz,hat,lrz,zll,b2',eB,wk];refine⟨by omega,by omega,?_⟩;refine W.vs ?_;simp only[go_sem,a12,a13,wi];obtain⟨fv,rfl⟩:∃ fv,fu=fv+1:=⟨fu - 1,by omega⟩
    refine⟨by rw[aw];omega,⟨(iN:Int)+1,(kN:Int) - 1,(l.set iN qb).set kN qa,fv,rfl,rfl,by omega,by omega,by omega,by omega,by rw[SU,SU];exact hl,by rw[aw];exact nz,fun j h=>by rw[ab,SO h];exact zo j h,by rw[ab,SQ rfl],by rw[<- hrev,Nk hik hqa hqb],by omega⟩,by rw[h12,h13];simp only[aa,aQ];omega⟩
  refine W.sq ?_;simp only[go_sem,u101,h9];refine W.cond (t:=false) rfl ?_;by_cases h10:c=10
  ·refine W.sq ?_;simp only[go_sem,u101,h10];refine W.cond (t:=true) rfl ?_;obtain⟨He,hHe⟩:∃ He,He=ext Hs [.arr 0 3 [.lit (.int .i64 g)],.arr 0 46 [.own Hs.next 0 0 1 1]]:=⟨_,rfl⟩
   have ne':He.next=Hs.next+2:=(by rw[hHe];rfl);have oe:Over Hs He:=(by rw[hHe];exact .ext _ _);have zO:bY (H.next+3) He 73 3 (.own id gg 0 ns.length 3) ns.length cs0:=.inr ⟨id,gg,z1,by omega,rfl,z4,(oe.old id z2).trans z5⟩;obtain⟨nh2,H2,hA2,oZ,n2,hp2⟩:=mS (P:=Tryz.prog) (H:=He) (t:=34) (xs:=[.lit (.int .i64 1),.lit (.slice none 0 0),.own (Hs.next+1) 0 0 1 1]) (m:=Hs.next+3) Tryz.underlying34 Tryz.rH Tryz.rK rfl rfl (by rw[Tryz.rJ];omega) zO (by omega) (by omega);have l12:=ag ((hp2 (H.next+1) (by omega) fun g' n hv=>by have:=(AVal.own.inj hv).1;omega).trans ((oe.old _ (by omega)).trans g1));have kk:∀ i,i<He.next->i≠id->H2.get i=He.get i:=fun i h1 h2=>hp2 i h1 fun g' n hv=>h2 (AVal.own.inj hv).1.symm;have r1:He.get Hs.next=some (.arr 0 3 [.lit (.int .i64 g)]):=(by rw[hHe];exact bB Hs _ 0 (by simp));have r2:He.get (Hs.next+1)=some (.arr 0 46 [.own Hs.next 0 0 1 1]):=(by rw[hHe];exact bB Hs _ 1 (by simp));have nh1':=oZ.one;have nhc':=oZ.cells;rw[ne',hHe,gK]at hA2;simp only[List.cons_append,List.nil_append]at hA2;refine W.vs ?_;simp only[go_sem,u3,s1,hA2,l12,nh1',nhc'];refine(hΦ _).2 ⟨by simp only[go_sem,u3],by simp only[go_sem,u4],g,nh2,ns++[⟨1,[],[[g]]⟩],bz ns A (aa x.card) (af x.parents) (ba x)++[aa 1,af [],ba ⟨1,[],[[g]]⟩],by rw[aw];omega,fun i h=>by rw[ab,SO (by omega),kk i (by omega) (by omega),oe.old i (by omega)];exact sold i h,by rw[ab,SQ rfl],nh1',nhc',?_,fun H3 h5 h6=>?_,⟨by have:=hs.len;simp;omega,fun y hy=>?_⟩,nq0.snoc (x:=⟨1,[],[[g]]⟩) (.inr rfl) fun _=>rfl,fun h=>absurd (hc.trans h) h0,by simp,by rw[<- hc,h10];unfold dV;rw[hx];rfl⟩
   ·obtain⟨q,hq,ql⟩:=g2';exact⟨q,by rw[ab,SO (by omega),kk _ (by omega) (by omega),oe.old _ (by omega)];exact hq,ql⟩
   ·have hk3:∀ i,H.next+3<=i->H3.get i=H2.get i:=fun i h=>by rw[h6 i (by omega),ab,SO (by omega)]
    have n3:H3.next=H2.next:=(by rw[h5,aw]);have oZ3:=oZ.keep (H':=H3) (by omega) fun i g h1 _ _=>hk3 i h1;have hN3:NodO (H.next+3) H3 pv rv ids x:=hN.keepE (by omega) fun i g2 e2 c2 h1 h2 h3 h4=>by rw[hk3 i h1,kk i (by omega) (nid h3 h4),oe.old i h2]
    have hl1:(ns++[(⟨1,[],[[g]]⟩:NodeP)]).length=ns.length+1:=(by simp);rw[hl1];refine uB oZ3 (fun i h=>by show H.next<=i;omega) (by rw[hcs0];simp [jb]) fun i hi hi'=>?_;have e1:=SN hi;have e2:=SN hi';generalize (cs0++[AVal.lit (.int .i64 1),.lit (.slice none 0 0),.own (Hs.next+1) 0 0 1 1])[i]=u at e1 ⊢;generalize (bz ns A (aa x.card) (af x.parents) (ba x)++[aa 1,af [],ba ⟨1,[],[[g]]⟩])[i]=u' at e2 ⊢;rw[hcs0]at e1;by_cases hi3:i<ns.length*3
    ·rw[SW (by rw[jb];exact hi3)]at e1 e2;have:=yw (S:=fun i=>H.next<=i) (H:=H3) (nx:=H.next) (ns:=ns) (A:=A) (c:=x.card) (hN3.rB (hgone _)) (hN3.nH (hgone _)) i (by rw[jb];exact hi3) (by rw[jb];exact hi3);rw[SN (by rw[jb];exact hi3)]at e1 e2;rw[Option.some.inj e1,Option.some.inj e2]at this;exact this
    ·rw[S5 (by rw[jb];omega),jb]at e1 e2;have hil:i<ns.length*3+3:=(by rw[List.length_append,hcs0,jb]at hi;simpa using hi);have h3:i - ns.length*3=0\/i - ns.length*3=1\/i - ns.length*3=2:=(by omega);rcases h3 with h|h|h<;>rw[h]at e1 e2<;>cases e1<;>cases e2
     ·exact .lit _
     ·exact .nil
     ·have hr1:H3.get (Hs.next+1)=_:=(hk3 _ (by omega)).trans ((kk _ (by omega) (by omega)).trans r2);have hr0:H3.get Hs.next=_:=(hk3 _ (by omega)).trans ((kk _ (by omega) (by omega)).trans r1);show Fz _ _ _ _ (ah [[g]]);refine .frz (show H.next<=Hs.next+1 by omega) hr1 rfl fun j hj h2 h'=>?_;obtain rfl:j=0:=(by omega);refine .frz (show H.next<=Hs.next by omega) hr0 rfl fun j hj h2 h'=>?_;obtain rfl:j=0:=(by omega);exact .lit _
   ·rcases Ta.1 hy with hy|hy
    ·exact hsm0.node y hy
    ·obtain rfl:=List.mem_singleton.1 hy;exact⟨by simp,by simp,fun r hr=>by simp at hr;subst hr;exact⟨by simp,by simp⟩⟩
  refine W.sq ?_;simp only[go_sem,u101,h10];refine W.cond (t:=false) rfl ?_;refine W.vs ?_;have wn:=SM ((ns.length:Int) - 1) (by omega);simp only[go_sem,u3,s1,sid,wn];refine⟨by omega,(hΦ _).2 ⟨by simp only[go_sem,u3],by simp only[go_sem,u4],g,_,ns.take (ns.length - 1),(bz ns A (aa x.card) (af x.parents) (ba x)).take ((ns.length - 1)*3),by rw[aw];exact Nat.le_refl _,fun i h=>by rw[ab,SO (by omega)];exact sold i h,by rw[ab,SQ rfl],rfl,rfl,?_,fun H3 h5 h6=>?_,hsm0.take _,nq0.take _,fun h=>absurd (hc.trans h) h0,by rw[SX];omega,by rw[<- hc,show c=11 by omega];unfold dV;rw[hx];rfl⟩⟩
  ·obtain⟨q,hq,ql⟩:=g2';exact⟨q,by rw[ab,SO (by omega)];exact hq,ql⟩
  ·have hk3:∀ i,H.next+3<=i->H3.get i=Hs.get i:=fun i h=>by rw[h6 i (by omega),ab,SO (by omega)]
   have hN3:NodO (H.next+3) H3 pv rv ids x:=hN.keep (by rw[h5,aw];exact Nat.le_refl _) fun i h1 _=>hk3 i h1;have e1:((ns.length:Int) - 1).toNat=ns.length - 1:=(by omega);have e2:(ns.take (ns.length - 1)).length=ns.length - 1:=(by rw[SX];omega);rw[e1,e2];refine .frz (show H.next<=id by omega) ((hk3 id z1).trans z5) (by rw[SX,jb];omega) fun j hj h2 h'=>?_;have e0:0+j=j:=Nat.zero_add j;simp only[e0,hcs0,Ux];exact yw (hN3.rB (hgone _)) (hN3.nH (hgone _)) j _ _
 refine W.sq ?_;simp only[go_sem];refine W.block ?_;refine W.en (fun E1=>E1 2=.ptr H.next 0 0 /\ E1 3=.ptr (H.next+1) 0 0 /\ E1 4=.ptr (H.next+2) 0 0 /\ E1 5=.lit (.slice none 0 0) /\ E1 6=aa 0) (by simp only[go_sem,e2,e3,e4]) fun E1 ⟨a2,a3,a4,a5,a6⟩=>?_
 refine W.aL 1180591620717411271648 (by rfl) (fun ρ Hx=>∃ (k:Nat),ρ 6=aa k/\k<=ns.length/\Hb.next<=Hx.next/\(∀ id,id<H.next+3->Hx.get id=Hb.get id)/\Cp ns A (H.next+3) k Hx (ρ 5)) (fun ρ H=>ns.length - (iv (ρ 6)).toNat) ?_ ?_
 ·simp only[go_sem,a5,a6];refine⟨0,rfl,by omega,.lit (.slice none 0 0),.lit (.slice none 0 0),?_,rfl,rfl,fun h=>absurd h (S7 _)⟩;have:dI ns A 0 (.lit (.slice none 0 0)) (.lit (.slice none 0 0))=[]:=rfl;rw[this];exact .nil
 rintro ρ Hx ⟨k,h6,hk,nx,hold,hC⟩;obtain⟨nh,h5⟩:∃ nh,ρ 5=nh:=⟨_,rfl⟩
 rw[h5]at hC;refine W.en (fun E2=>E2 2=.ptr H.next 0 0 /\ E2 3=.ptr (H.next+1) 0 0 /\ E2 4=.ptr (H.next+2) 0 0 /\ E2 5=nh /\ E2 6=aa k) (by simp only[go_sem,a2,a3,a4,h5,h6]) fun E2 ⟨c2,c3,c4,c5,c6⟩=>?_
 have l1:=ag ((hold _ (by omega)).trans b1);by_cases hb:(k:Int)<ns.length;rotate_left
 ·have hke:k=ns.length:=by omega
  rw[hke]at hC;refine W.vs ?_;simp only[go_sem,c2,c3,c4,c5,c6,l1,hb];exact⟨nx,hold,hC⟩
 obtain⟨x,hx⟩:=get_of_lt (l:=ns) (i:=k) (by omega);have q0:=iJ hx;have q1:=je hx;have q2:=pG hx;have qn:=dC hx;obtain⟨x1,x2,x3⟩:=hs.node x (SK hx);refine W.sq ?_;simp only[go_sem,c3,c6,l1,hb];obtain⟨pv,rv,hO,pv1,rv1,hNA⟩:=hC;refine W.seq ?_;refine W.lT (Q':=fun e s2=>e=.normal/\s2.ρ 6=aa k/\Hx.next<=s2.H.next/\(∀ id,id<H.next+3->s2.H.get id=Hb.get id)/\(∀ i g e c,i<Hx.next->Hx.get i=some (.arr g e c)->e≠73->s2.H.get i=Hx.get i)/\∃ pk rk ids,bY (H.next+3) s2.H 73 3 (s2.ρ 5) (k+1) (dI ns A k pv rv++[aa x.card,pk,rk])/\NodO (Hx.next+1) s2.H pk rk ids x) ?_ ?_;rotate_left
 ·rintro e s2 ⟨rfl,a6',nx2,old2,kp2,pk,rk,ids,oZ,nodK⟩;have w1:=SM ((k:Int)+1) (by omega);by_cases hkA:k=A
  ·refine⟨s2,.same,Nat.le_refl _,trivial,?_⟩;simp only[go_sem];refine W.vs ?_;simp only[go_sem,a6',w1];refine⟨by omega,⟨k+1,rfl,by omega,by omega,old2,pk,rk,?_,nodK.par.one,(uy nodK.rows).1,fun _=>⟨x,by rw[<- hkA];exact hx,ids,nodK.low (by omega)⟩⟩,by rw[h6];simp only[aa,aQ];omega⟩;rw[<- hkA]at oZ ⊢;rw[M6 hx]at oZ;exact oZ
  ·rcases oZ with ⟨_,h0,_⟩|⟨id,gg,z1,z2,z3,z4,z5⟩
   ·omega
   have ec:=M7 hx hkA pv rv;have hgone:rA (fun i=>Hx.next<=i/\i≠id) (Hx.next+1) s2.H:=fun i g e c h1 h2 h3 h4=>⟨by omega,fun he=>by
    subst he;rw[z5]at h3;cases h3;exact h4 rfl⟩
   refine⟨⟨s2.ρ,s2.H.gf Hx.next id (.arr gg 73 (dI ns A (k+1) pv rv))⟩,cV.gf aS z5 (by rw[ec];simp) (fun hbel i hi hi'=>?_),Nat.le_refl _,trivial,?_⟩
   ·have e1:=SN hi;have e2:=SN hi';have hm:=hbel _ (Tt hi);generalize (dI ns A k pv rv++[aa x.card,pk,rk])[i]=u at e1 hm ⊢;generalize (dI ns A (k+1) pv rv)[i]=u' at e2 ⊢;rw[ec]at e2;by_cases hip:i<(dI ns A k pv rv).length
    ·rw[SW hip]at e1 e2;rw[e1]at e2;cases e2;exact .dead hm
    ·rw[S5 (by omega)]at e1 e2;have h3:i - (dI ns A k pv rv).length=0\/i - (dI ns A k pv rv).length=1\/i - (dI ns A k pv rv).length=2:=by
      rw[List.length_append]at hi;simp at hi;omega
     rcases h3 with h|h|h<;>rw[h]at e1 e2<;>cases e1<;>cases e2
     ·exact .lit _
     ·exact nodK.rB hgone
     ·exact nodK.nH hgone
   ·simp only[go_sem];refine W.vs ?_;simp only[go_sem,a6',w1];have hmn:(s2.H.gf Hx.next id (.arr gg 73 (dI ns A (k+1) pv rv))).next=s2.H.next:=rfl;refine⟨by rw[hmn];omega,⟨k+1,rfl,by omega,by rw[hmn];omega,fun i hi=>?_,pv,rv,.inr ⟨id,gg,z1,by rw[hmn];exact z2,z3,by rw[ec];simpa using z4,ym⟩,pv1,rv1,fun hlt=>?_⟩,by rw[h6];simp only[aa,aQ];omega⟩
    ·rw[yp (by omega) (by omega)];exact old2 i hi
    ·obtain⟨y,hy,ids',hNy⟩:=hNA (by omega);refine⟨y,hy,ids',hNy.keepE (by rw[hmn];omega) fun i g e c h1 h2 h3 h4=>?_⟩;rw[yp h2 (fun he=>by
      subst he;rw[kp2 i g e c h2 h3 h4,h3]at z5;cases z5;exact h4 rfl)]
     exact kp2 i g e c h2 h3 h4
 refine W.block ?_;refine W.sq ?_;simp only[go_sem,c3,c6,l1,hb,q0,qn];obtain⟨Hp,hHp⟩:∃ Hp,Hp=ext Hx [.arr 0 73 [.lit (.int .i64 x.card),.lit (.slice none 0 0),.lit (.slice none 0 0)]]:=⟨_,rfl⟩
 have np:Hp.next=Hx.next+1:=by rw[hHp];rfl
 have op:Over Hx Hp:=by rw[hHp];exact .ext _ _
 have gP:Hp.get Hx.next=some (.arr 0 73 [.lit (.int .i64 x.card),.lit (.slice none 0 0),.lit (.slice none 0 0)]):=by rw[hHp];exact bT
 rw[<- hHp];clear hHp;refine W.en (fun E3=>E3 2=.ptr H.next 0 0 /\ E3 3=.ptr (H.next+1) 0 0 /\ E3 5=nh /\ E3 6=aa k /\ E3 7=.ptr Hx.next 0 0) (by simp only[go_sem,c2,c3,c5,c6]) fun E3 ⟨d2,d3,d5,d6,d7⟩=>?_
 have lP:=ag gP;have l1p:Hp.live (H.next+1) 0=_:=(op.live (by omega)).trans l1;refine W.seq ?_;refine W.draw 8 [0,1,0,4,0,28,60,124] Tryz.mixed (by kernel_rfl) (by kernel_rfl) ?_;simp only[go_sem,d3,d6,d7,lP,l1p,hb,q1,qn];obtain⟨pk,H2,hA2,oP,n2,hp2⟩:=qR (P:=Tryz.prog) (H:=Hp) (t:=46) (n:=Hp.next) (lo:=Hp.next) (src:=ints x.parents) Tryz.underlying46 Tryz.dx Tryz.dQ (iY _) (by rw[Tryz.eC,aP,List.length_nil];omega) .nil (Nat.le_refl _) rfl;rw[List.nil_append]at oP;rw[aP]at hA2;have o2:Over Hp H2:=⟨n2,fun id h=>hp2 id h fun g m=>by simp⟩
 have lP2:H2.live Hx.next 0=_:=(o2.live (by omega)).trans lP;have pk1:=oP.one;have pkc:=oP.cells;simp only[go_sem,d7,hA2,lP2,pk1,pkc];obtain⟨H3,hH3⟩:∃ H3,H3=H2.upd Hx.next (.arr 0 73 [.lit (.int .i64 x.card),pk,.lit (.slice none 0 0)]):=⟨_,rfl⟩
 have n3:H3.next=H2.next:=by rw[hH3];rfl
 have h3o:∀ id,id<Hx.next->H3.get id=Hx.get id:=fun id h=>by rw[hH3,ab,SO (by omega),o2.old id (by omega),op.old id h]
 have h3P:H3.get Hx.next=some (.arr 0 73 [.lit (.int .i64 x.card),pk,.lit (.slice none 0 0)]):=by rw[hH3,ab,SQ rfl]
 have h3N:NodO (Hx.next+1) H3 pk (.lit (.slice none 0 0)) [] ⟨x.card,x.parents,x.rows.take 0⟩:=⟨oP.keep (by omega) (by omega) fun id g h1 _ _ _=>by rw[hH3,ab,SO (by omega)],.nil,fun _ _ _ _=>by simp,fun _=>rfl⟩
 rw[<- hH3];clear hH3 hA2 lP2 o2 hp2 oP;refine W.en (fun E4=>E4 2=.ptr H.next 0 0 /\ E4 3=.ptr (H.next+1) 0 0 /\ E4 5=nh /\ E4 6=aa k /\ E4 7=.ptr Hx.next 0 0) (by simp only[go_sem,d2,d3,d5,d6,d7]) fun E4 ⟨f2,f3,f5,f6,f7⟩=>?_
 refine W.gh (fun s'=>s'.ρ 5=nh/\s'.ρ 6=aa k/\s'.ρ 7=.ptr Hx.next 0 0/\Hx.next<s'.H.next/\(∀ id,id<Hx.next->s'.H.get id=Hx.get id)/\∃ rk ids,s'.H.get Hx.next=some (.arr 0 73 [.lit (.int .i64 x.card),pk,rk])/\NodO (Hx.next+1) s'.H pk rk ids x) ?_ ?_
 ·refine W.sq ?_;simp only[go_sem];refine W.block ?_;refine W.en (fun E5=>E5 3=.ptr (H.next+1) 0 0 /\ E5 5=nh /\ E5 6=aa k /\ E5 7=.ptr Hx.next 0 0 /\ E5 8=aa 0) (by simp only[go_sem,f3,f5,f6,f7]) fun E5 ⟨g3,g5,g6,g7,g8⟩=>?_
  refine W.aL 73786975745082393344 (by rfl) (fun ρ2 Hy=>∃ (i:Nat) (rk:AVal) (ids:List Nat),ρ2 8=aa i/\i<=x.rows.length/\H3.next<=Hy.next/\(∀ id,id<Hx.next->Hy.get id=Hx.get id)/\Hy.get Hx.next=some (.arr 0 73 [.lit (.int .i64 x.card),pk,rk])/\NodO (Hx.next+1) Hy pk rk ids ⟨x.card,x.parents,x.rows.take i⟩) (fun ρ H=>x.rows.length - (iv (ρ 8)).toNat) ?_ ?_
  ·simp only[go_sem,g8];exact⟨0,_,[],rfl,by omega,h3o,h3P,h3N⟩
  rintro ρ2 Hy ⟨i,rk,ids,h8,hi,ny,yo,yP,yN⟩;have l1y:=ag ((yo _ (by omega)).trans ((hold _ (by omega)).trans b1));have lPy:=ag yP;refine W.en (fun E6=>E6 3=.ptr (H.next+1) 0 0 /\ E6 5=nh /\ E6 6=aa k /\ E6 7=.ptr Hx.next 0 0 /\ E6 8=aa i) (by simp only[go_sem,g3,g5,g6,g7,h8]) fun E6 ⟨k3,k5,k6,k7,k8⟩=>?_
  by_cases hbi:(i:Int)<x.rows.length;rotate_left
  ·refine W.vs ?_;simp only[go_sem,k3,k5,k6,k7,k8,l1y,hb,q2,qn,ah,hbi];rw[SP (by omega)]at yN;exact⟨by omega,yo,rk,ids,yP,yN⟩
  obtain⟨q,hq⟩:=get_of_lt (l:=x.rows) (i:=i) (by omega);obtain⟨qe,ql⟩:=x3 q (SK hq);have ql0:0<q.length:=T0.2 qe;have hqi:(x.rows.map af)[i]?=some (af q):=by rw[List.getElem?_map,hq];rfl
  have hqn:=aK hq;refine W.sq ?_;simp only[go_sem,k3,k6,k8,l1y,hb,q2,qn,ah,hbi];refine W.seq (W.block ?_);refine W.sq ?_;simp only[go_sem];have yN1:x.rows.take (i+1)=x.rows.take i++[q]:=aO hq;have hA1:=M3 (P:=Tryz.prog) (H:=Hy) (t:=46) (n:=Hy.next) (src:=ints q) Tryz.underlying46 Tryz.dx Tryz.dQ (by rw[aP];exact ql0) (by rw[Tryz.eC,aP];omega) rfl;obtain⟨rk',Hz,hA3,oM,nz,pz⟩:=yN.rows.Co (P:=Tryz.prog) (n:=Hy.next+1+1) (t:=33) (r:=ints q) Tryz.underlying33 Tryz.jL Tryz.kB Tryz.kA (by decide) (by rw[SZ,SX];omega) (by omega) rfl;rw[aP]at hA1 hA3;have lPe:∀ L,(ext Hy L).live Hx.next 0=_:=fun L=>(dv (by omega)).trans lPy;have l1e:∀ L,(ext Hy L).live (H.next+1) 0=_:=fun L=>(dv (by omega)).trans l1y;obtain⟨rv1,rvc⟩:=uy oM;have lPz:Hz.live Hx.next 0=_:=ag ((pz Hx.next (by omega) (yN.rows.ne yP (by decide))).trans yP);refine W.draw 14 [0,1,0,0,8,0,56,120,248,0,1016,2040,4092,8188] Tryz.mixed (by kernel_rfl) (by kernel_rfl) ?_;simp only[go_sem,k3,k6,k7,k8,l1y,lPy,hb,q2,qn,ah,hbi,hqi,hqn,hA1,hA3,lPz,rv1,rvc];refine⟨⟨fun _ h=>by omega,fun _ h=>by omega⟩,⟨fun _ h=>by omega,fun _ h=>by omega⟩,?_⟩;have w1:=SM ((i:Int)+1) (by omega);have zo:∀ id g e c,id<Hy.next->Hy.get id=some (.arr g e c)->e≠46->Hz.get id=Hy.get id:=fun id g e c h h2 h3=>pz id h (yN.rows.ne h2 h3);refine W.vs ?_;simp only[go_sem,k8,w1];refine⟨by rw[aw];omega,⟨i+1,rk',ids++[Hy.next],rfl,by omega,by rw[aw];omega,fun id h=>?_,by rw[ab,SQ rfl],?_⟩,by rw[h8];simp only[aa,aQ];omega⟩
  ·rw[ab,SO (by omega),pz id (by omega) (yN.rows.top.ne (by omega))];exact yo id h
  ·rw[yN1];have oM':OwnM (Hx.next+1) (Hz.upd Hx.next (.arr 0 73 [.lit (.int .i64 x.card),pk,rk'])) 46 3 rk' (ids++[Hy.next]) ((x.rows.take i++[q]).map ints):=by
    rw[TI];exact oM.keep (by rw[aw];exact Nat.le_refl _) fun id h1 _=>by rw[ab,SO (by omega)]
   refine⟨yN.par.keep (Nat.le_refl _) (by rw[aw];omega) fun id g h1 h2 h3 _=>by rw[ab,SO (by omega)];exact zo id _ _ _ h2 h3 (by decide),oM',fun id g m hp hm=>?_,fun e=>absurd e (by simp)⟩;rcases Ta.1 hm with hm|hm
   ·exact yN.dj id g m hp hm
   ·obtain rfl:=List.mem_singleton.1 hm;rcases yN.par with ⟨h1,_⟩|⟨i2,g2,_,h2,h1,_⟩
    ·rw[h1]at hp;cases hp
    ·rw[h1]at hp;have:=(AVal.own.inj hp).1;omega
 rintro⟨ρn,Hn⟩ ⟨m5,m6,m7,nN,oN,rk,ids,gN,nodN⟩;simp only at m5 m6 m7 nN oN gN nodN;have lN:=ag gN;have rk1:=(uy nodN.rows).1;have rkc:=(uy nodN.rows).2;have hOn:=hO.keep (H':=Hn) (by omega) fun id g _ h _=>oN id h;obtain⟨nh',H5,hA5,oZ,n5,p5⟩:=mS (P:=Tryz.prog) (H:=Hn) (t:=34) (xs:=[.lit (.int .i64 x.card),pk,rk]) (m:=Hn.next+1) Tryz.underlying34 Tryz.rH Tryz.rK (by simp only[List.all_cons,List.all_nil,pk1,rk1];rfl) rfl (by rw[Tryz.rJ];omega) hOn (by omega) rfl;have nhe:∀ id g e c,Hn.get id=some (.arr g e c)->e≠73->∀ g m,nh≠.own id g 0 m 3:=fun id g e c h1 h2 g' m hv=>by
  rcases hOn with ⟨h,_⟩|⟨i2,g2,_,_,h,_,h4⟩
  ·rw[h]at hv;cases hv
  ·rw[h]at hv;obtain rfl:=(AVal.own.inj hv).1;rw[h4]at h1;cases h1;exact h2 rfl
 have nh1:=oZ.one;have nhc:=oZ.cells;refine W.vs ?_;simp only[go_sem,m5,m6,m7,lN,hA5];have keepE:∀ id g e c,id<Hn.next->Hn.get id=some (.arr g e c)->e≠73->H5.get id=Hn.get id:=fun id g e c h1 h2 h3=>p5 id h1 (nhe id g e c h2 h3);refine⟨by omega,fun id h=>?_,fun i g e c h1 h2 h3=>by rw[keepE i g e c (by omega) ((oN i h1).trans h2) h3,oN i h1],pk,rk,ids,oZ,nodN.keepE n5 fun id g e c _ h1 h2 h3=>keepE id g e c h1 h2 h3⟩
 ·rw[p5 id (by omega) (hOn.ne h),oN id (by omega)];exact hold id h
end Go.Proofs
namespace Go.Hx
variable {P:Program} {G:Nat->Option (List AVal)}
def AHeap.fy (H:AHeap)(n ob:Nat)(b:Blk):AHeap:=⟨fun id=>if n<=id then none else if id=ob then some b else H.get id,H.next⟩
theorem Df {H:AHeap}{n ob:Nat}{b:Blk}(h:ob<n):(H.fy n ob b).get ob=some b:=by simp [AHeap.fy,Nat.not_le.2 h]
theorem Dg {H:AHeap}{n ob id:Nat}{b:Blk}(h:id<n)(h2:id≠ob):(H.fy n ob b).get id=H.get id:=by simp [AHeap.fy,Nat.not_le.2 h,h2]
theorem PD {H:AHeap}(hc:Clo H){n ob g:Nat}{e:TypeId}{cells cells':List AVal}(hob:H.get ob=some (.arr g e cells))(hlt:ob<n)(hl:cells'.length=cells.length)
  (hcell:∀ i (h:i<cells.length) (h':i<cells'.length),Fz (fun id=>n<=id) H H.next cells[i] cells'[i]):FzH (fun id=>n<=id) H (H.fy n ob (.arr g e cells')) where
 gone id hs:=by simp [AHeap.fy,hs]
 kept id b hs hb:=by
  have hbb:=hc.below id b hb;refine⟨hc.lt id b hb,?_⟩;by_cases h:id=ob
  ·subst h;rw[hob]at hb;cases hb;exact⟨.arr g e cells',by simp [AHeap.fy,hs],rfl,rfl,hl,hcell⟩
  ·refine⟨b,by simp [AHeap.fy,hs,h,hb],?_⟩;cases b with
   | rsv=>trivial
   | mp=>rfl
   | arr g e cells=>exact⟨rfl,rfl,rfl,fun i h _=>.dead (hbb i h)⟩
   | loop st pend n env ps asg body=>exact⟨rfl,rfl,rfl,rfl,rfl,rfl,rfl,fun t ht=>.dead (hbb t ht)⟩
 none id hs hb:=by
  by_cases h:id=ob
  ·subst h;rw[hob]at hb;cases hb
  ·simp [AHeap.fy,hs,h,hb]
theorem cV.fy (hG:eL G){s:St}{n ob g:Nat}{e:TypeId}{cells cells':List AVal}(hob:s.H.get ob=some (.arr g e cells))(hlt:ob<n)(hl:cells'.length=cells.length)
  (hcell:∀ i (h:i<cells.length) (h':i<cells'.length),Fz (fun id=>n<=id) s.H s.H.next cells[i] cells'[i]):cV P G s ⟨s.ρ,s.H.fy n ob (.arr g e cells')⟩:=by
 intro n' wb Γ a w hs;exact cV.freeze (s:=s) (s':=⟨s.ρ,s.H.fy n ob (.arr g e cells')⟩) hG (PD hs.heap.clo hob hlt hl hcell) (fun t=>.dead (hs.env t).qH) n' wb Γ a w hs
theorem dP.upd {lo:Nat}{H:AHeap}{e1 e0:TypeId}{v:AVal}{rows:List (List AVal)}(h:dP lo H e1 e0 v rows){k:Nat}{b:Blk}(hk:k<lo):dP lo (H.upd k b) e1 e0 v rows:=by
 obtain⟨cs,c1,c2,c3⟩:=h;refine⟨cs,c1.keep (Nat.le_refl _) (by rw[aw];exact Nat.le_refl _) fun id _ h1 _ _ _=>by rw[ab,SO (by omega)],c2,fun j r c hr hc=>(c3 j r c hr hc).keep (Nat.le_refl _) (by rw[aw];exact Nat.le_refl _) fun id _ h1 _ _ _=>by rw[ab,SO (by omega)]⟩
end Go.Hx
namespace Go.Proofs
open Go.Hx
def lI (ns:List NodeP)(acc q:Int):Int:=if 0<=q/\q<ns.length/\acc<=1024 then acc*max 1 (min ((ao ns).getD q.toNat 0) 4) else acc
def gU (ns:List NodeP)(ps:List Int):Int:=ps.foldl (lI ns) 1
def iq (d:InfP)(v:Nat)(x:NodeP):NodeP:=if d.decs.testBit v=true/\x.rows=[]/\1<=x.card/\x.card<=4 then { x with rows:=List.replicate (gU d.nodes x.parents).toNat (bj d.grain x.card 0) } else x
def cR (d:InfP):List NodeP:=d.nodes.zipIdx.map fun p=>iq d p.2 p.1
theorem jh (d:InfP):(cR d).length=d.nodes.length:=by simp [cR]
theorem pK {d:InfP}{v:Nat}{x:NodeP}(h:d.nodes[v]?=some x):(cR d)[v]?=some (iq d v x):=by
 unfold cR;rw[List.getElem?_map,Uv,h];simp
theorem PV {ns:List NodeP}{a q:Int}(h:1<=a/\a<=4096):1<=lI ns a q/\lI ns a q<=4096:=by
 unfold lI;split
 ·rename_i hc;generalize hm:max 1 (min ((ao ns).getD q.toNat 0) 4)=m;have h1:1<=m/\m<=4:=by omega
  have h2:a*1<=a*m:=Tr h1.1 (by omega);have h3:a*m<=1024*4:=Uc hc.2.2 h1.2 (by omega) (by omega);omega
 ·exact h
theorem yT (ns:List NodeP)(ps:List Int):1<=gU ns ps/\gU ns ps<=4096:=by
 have:∀ (l:List Int) (a:Int),1<=a/\a<=4096->1<=l.foldl (lI ns) a/\l.foldl (lI ns) a<=4096:=by
  intro l
  induction l with
  | nil=>exact fun a h=>h
  | cons q l ih=>exact fun a h=>ih _ (PV h)
 exact this ps 1 (by omega)
theorem Dp (ns:List NodeP)(l:List Int)(q:Int):gU ns (l++[q])=lI ns (gU ns l) q:=by unfold gU;rw[Ua];rfl
theorem Dq {ns:List NodeP}{x:NodeP}(hin:eR x.parents ns.length)(hc:∀ y∈ns,1<=y.card/\y.card<=4)(hp:au (aH ns x)<=1024):gU ns x.parents=au (aH ns x):=by
 have key:∀ k,k<=x.parents.length->gU ns (x.parents.take k)=au ((aH ns x).take k):=by
  intro k
  induction k with
  | zero=>intro _;rfl
  | succ k ih =>
   intro hk;obtain⟨q,hq⟩:=get_of_lt (l:=x.parents) (i:=k) (by omega);have hqr:=hin q (SK hq);have hcq:(aH ns x)[k]?=some ((ao ns).getD q.toNat 0):=(by unfold aH aF;rw[List.getElem?_map,hq];rfl);rw[aO hq,aO hcq,Dp,eO,ih (by omega)];have hm:=mM hin hc _ (SK hcq);have hle:au ((aH ns x).take k)<=1024:=by
    have h1:au ((aH ns x).take k)*au ((aH ns x).drop k)=au (aH ns x):=(by rw[<- yy,Tu]);have h2:=fw (l:=(aH ns x).take k) fun c h=>(mM hin hc c (Tg h)).1;have h3:=fw (l:=(aH ns x).drop k) fun c h=>(mM hin hc c (T8 h)).1;have h4:au ((aH ns x).take k)*1<=au ((aH ns x).take k)*au ((aH ns x).drop k):=Tr h3 (by omega);omega
   unfold lI;rw[SQ ⟨hqr.1,hqr.2,hle⟩];congr 1;omega
 have:=key x.parents.length (Nat.le_refl _);rw[SP (Nat.le_refl _),SP (by rw[show (aH ns x).length=_ from fM _ _];exact Nat.le_refl _)]at this;exact this
set_option maxHeartbeats 4000000 in
theorem Dr (d:InfP)(cs:List AVal)(hnq:NodesQ (fun v=>d.decs.testBit v=true) d.nodes cs)(hf:InfFit d)(H:AHeap)(K:ARes->AHeap->Prop)(hK:Clo H->∀ (nh:AVal) (ks:List AVal) (H':AHeap),Over H H'->bY H.next H' 73 3 nh d.nodes.length ks->NodesQ (fun _=>False) (cR d) ks->ay Tryz.prog G0 H K (.agg [.lit (.int .i64 d.grain),nh]) H'):ae Tryz.prog G0 53 [dL d cs] H K:=by
 refine ae.clo ⟨_,Tryz.func53,rfl,rfl⟩ fun hcl=>?_;have hl:=hf.nodes.1;refine ae.aZ (n:=106) (rs:=[.cell 2 103]) Tryz.func53 rfl rfl rfl (by decide) (by kernel_rfl) (by simp) ?_;simp only[go_sem,iP,gV];obtain⟨Hb,hHb⟩:∃ Hb,Hb=ext H [.arr 0 38 [.lit (.int .i64 d.grain),.vec d.nodes.length cs,.lit (.int .u64 (d.decs:Int)),.vec d.utils.length (aR d.utils)],.arr 0 103 [.lit (.int .i64 0),.lit (.slice none 0 0)],.arr 0 103 [.lit (.int .i64 d.grain),.lit (.slice none 0 0)]]:=⟨_,rfl⟩
 rw[<- hHb];have g0:Hb.get H.next=some (.arr 0 38 [.lit (.int .i64 d.grain),.vec d.nodes.length cs,.lit (.int .u64 (d.decs:Int)),.vec d.utils.length (aR d.utils)]):=by rw[hHb];exact bQ ..
 have g1:Hb.get (H.next+1)=some (.arr 0 103 [.lit (.int .i64 0),.lit (.slice none 0 0)]):=by rw[hHb];exact bB H _ 1 (by simp)
 have g2:Hb.get (H.next+2)=some (.arr 0 103 [.lit (.int .i64 d.grain),.lit (.slice none 0 0)]):=by rw[hHb];exact bB H _ 2 (by simp)
 have nb:Hb.next=H.next+3:=by rw[hHb];rfl
 have ob:Over H Hb:=by rw[hHb];exact .ext _ _
 clear hHb;refine W.aL 40564819207303340847894502557680 (by rfl) (fun ρ Hx=>∃ (k:Nat) (nh:AVal) (ks:List AVal),ρ 4=aa k/\k<=d.nodes.length/\Hb.next<=Hx.next/\(∀ id,id<H.next+2->Hx.get id=Hb.get id)/\Hx.get (H.next+2)=some (.arr 0 103 [.lit (.int .i64 d.grain),nh])/\bY (H.next+3) Hx 73 3 nh k ks/\NodesQ (fun _=>False) ((cR d).take k) ks) (fun ρ H=>d.nodes.length - (iv (ρ 4)).toNat) ?_ ?_
 ·simp only[go_sem];exact⟨0,_,[],rfl,by omega,g2,.nil,.nil⟩
 rintro ρ Hx ⟨k,nh,ks,h4,hk,hnx,hold,hbn,hO,hQ⟩;refine W.en (fun E=>E 1=.ptr H.next 0 0 /\ E 2=.ptr (H.next+1) 0 0 /\ E 3=.ptr (H.next+2) 0 0 /\ E 4=aa k) (by simp only[go_sem,h4]) fun E ⟨e1,e2,e3,e4⟩=>?_
 refine W.vs ?_;have l0:=ag ((hold H.next (by omega)).trans g0);by_cases hb:(k:Int)<d.nodes.length
 ·obtain⟨x,hx⟩:=get_of_lt (l:=d.nodes) (i:=k) (by omega);obtain⟨f1,f2,f3⟩:=hf.nodes.2 x (SK hx);have hne:=hnq.ne hx;obtain⟨rv,c0,_,hdis,hdE⟩:=hnq.part hx;have c1:k*3+3<=cs.length:=by rw[hnq.len];omega
  have w1:=SM ((k:Int)+1) (by omega);have rvo:rv.one=true:=by rcases hdis with h|h<;>rw[h]<;>first|rfl|(unfold ba;split<;>rfl)
  have rvc:rv.cells=[rv]:=by rcases hdis with h|h<;>rw[h]<;>first|rfl|(unfold ba;split<;>rfl)
  have rvl:∀ H,fH H rv=some (.lit (.int .i64 x.rows.length)):=fun H=>by
   rcases hdis with h|h<;>rw[h]
   ·rfl
   ·unfold ba;split
    ·rename_i h;rw[h];rfl
    ·rfl
  have step:∀ (Hq:AHeap) (rq:AVal) (y:NodeP),iq d k x=y->y.card=x.card->y.parents=x.parents->(rq=ah y.rows\/rq=ba y)->Hx.next<Hq.next->(∀ id,id<Hx.next->Hq.get id=Hx.get id) ->
    ∃ nh2 H3,bf Tryz.prog (ext Hq [.arr 0 73 [.lit (.int .i64 x.card),.vec x.parents.length (ints x.parents),rq]]) (Hq.next+1) 34 34 nh (.own Hq.next 0 0 1 3)=some (nh2,H3)/\nh2.cells=[nh2]/\nh2.one=true/\H3.live (H.next+2) 0=some (103,[.lit (.int .i64 d.grain),nh]) /\
     ∀ b,b=.arr 0 103 [.lit (.int .i64 d.grain),nh2]->Hb.next<=(H3.upd (H.next+2) b).next/\(∀ id,id<H.next+2->(H3.upd (H.next+2) b).get id=Hb.get id)/\(H3.upd (H.next+2) b).get (H.next+2)=some (.arr 0 103 [.lit (.int .i64 d.grain),nh2])/\bY (H.next+3) (H3.upd (H.next+2) b) 73 3 nh2 (k+1) (ks++[.lit (.int .i64 x.card),.vec x.parents.length (ints x.parents),rq])/\NodesQ (fun _=>False) ((cR d).take (k+1)) (ks++[.lit (.int .i64 x.card),.vec x.parents.length (ints x.parents),rq]):=by
   intro Hq rq y hy y1 y2 hrq hqn hqo;have hOq:bY (H.next+3) Hq 73 3 nh k ks:=hO.keep (by omega) fun id g _ h _=>hqo id h;have rqo:rq.one=true:=by rcases hrq with h|h<;>rw[h]<;>first|rfl|(unfold ba;split<;>rfl)
   obtain⟨nh2,H3,hA,hO3,hn3,hp3⟩:=mS (P:=Tryz.prog) (xs:=[.lit (.int .i64 x.card),.vec x.parents.length (ints x.parents),rq]) Tryz.underlying34 Tryz.rH Tryz.rK (by simp only[List.all_cons,List.all_nil,rqo];rfl) rfl (by rw[Tryz.rJ];omega) hOq (by omega) rfl;have keep:∀ id,id<H.next+3->H3.get id=Hx.get id:=fun id h=>(hp3 id (by omega) (hOq.ne h)).trans (hqo id (by omega));refine⟨nh2,H3,hA,hO3.cells,hO3.one,ag ((keep _ (by omega)).trans hbn),fun b hb=>⟨by rw[aw];omega,fun id h=>by rw[ab,SO (by omega),keep id (by omega)];exact hold id h,by rw[ab,SQ rfl,hb],?_⟩⟩;have e:NodesQ (fun _=>False) ((cR d).take (k+1)) (ks++[.lit (.int .i64 x.card),.vec x.parents.length (ints x.parents),rq]):=by
    rw[aO (pK hx),hy];have:=hQ.snoc (x:=y) (rv:=rq) hrq fun h=>h.elim;rw[y1,y2]at this;exact this
   refine⟨?_,e⟩;exact hO3.keep (by rw[aw];omega) fun id g h1 _ _=>by rw[ab,SO (by omega)]
  obtain⟨Hp,hHp⟩:∃ Hp,Hp=ext Hx [.arr 0 73 [.lit (.int .i64 x.card),.vec x.parents.length (ints x.parents),rv]]:=⟨_,rfl⟩
  have np:Hp.next=Hx.next+1:=by rw[hHp];rfl
  have gP:Hp.get Hx.next=some (.arr 0 73 [.lit (.int .i64 x.card),.vec x.parents.length (ints x.parents),rv]):=by rw[hHp];exact bT
  have pold:∀ id,id<Hx.next->Hp.get id=Hx.get id:=fun id h=>by rw[hHp];exact cz h
  have m0:=ag ((pold H.next (by omega)).trans ((hold H.next (by omega)).trans g0));have m2:=ag ((pold (H.next+2) (by omega)).trans hbn);have mP:=ag gP;simp only [go_sem,e1,e4,l0,hb,hne,c0,c1,rvo];rw [← hHp];simp only [go_sem,m0,e4];refine aB.clo (ve d.decs k hf.decs _ _ ⟨trivial,?_⟩);have no : ¬ (d.decs.testBit k=true∧x.rows=[]∧1≤x.card∧x.card≤4)→∃ nh2 H3,bf Tryz.prog (ext Hp [.arr 0 73 [.lit (.int .i64 x.card),.vec x.parents.length (ints x.parents),rv]]) (Hp.next+1) 34 34 nh (.own Hp.next 0 0 1 3)=some (nh2,H3)∧nh2.cells=[nh2]∧nh2.one=true∧H3.live (H.next+2) 0=some (103,[.lit (.int .i64 d.grain),nh]) ∧
     ∀ b,b=.arr 0 103 [.lit (.int .i64 d.grain),nh2]->Hb.next<=(H3.upd (H.next+2) b).next/\(∀ id,id<H.next+2->(H3.upd (H.next+2) b).get id=Hb.get id)/\(H3.upd (H.next+2) b).get (H.next+2)=some (.arr 0 103 [.lit (.int .i64 d.grain),nh2])/\bY (H.next+3) (H3.upd (H.next+2) b) 73 3 nh2 (k+1) (ks++[.lit (.int .i64 x.card),.vec x.parents.length (ints x.parents),rv])/\NodesQ (fun _=>False) ((cR d).take (k+1)) (ks++[.lit (.int .i64 x.card),.vec x.parents.length (ints x.parents),rv]):=fun h =>
   step Hp rv x (SO h) rfl rfl hdis (by omega) pold
  cases hbit:d.decs.testBit k
  ·obtain⟨nh2,H3,hA,nc,no1,ln,st⟩:=no fun h=>by rw[hbit]at h;cases h.1
   simp only[go_sem,e3,e4,m2,mP,hA,nc,no1,ln,w1];exact⟨(st _ rfl).1,⟨k+1,nh2,_,rfl,by omega,(st _ rfl).1,(st _ rfl).2.1,(st _ rfl).2.2.1,(st _ rfl).2.2.2.1,(st _ rfl).2.2.2.2⟩,by rw[h4];simp only[aa,aQ];omega⟩
  by_cases hr0:x.rows=[]
  rotate_left
  ·obtain⟨nh2,H3,hA,nc,no1,ln,st⟩:=no fun h=>hr0 h.2.1;have hr0':¬ (x.rows.length:Int)=0:=fun h=>hr0 (SY (by omega));simp only[go_sem,e3,e4,m2,mP,rvl,hr0',hA,nc,no1,ln,w1];exact⟨(st _ rfl).1,⟨k+1,nh2,_,rfl,by omega,(st _ rfl).1,(st _ rfl).2.1,(st _ rfl).2.2.1,(st _ rfl).2.2.2.1,(st _ rfl).2.2.2.2⟩,by rw[h4];simp only[aa,aQ];omega⟩
  have hrn:rv=.lit (.slice none 0 0):=(hdE hbit).trans (SQ hr0);by_cases hc1:x.card >= 1;rotate_left
  ·obtain⟨nh2,H3,hA,nc,no1,ln,st⟩:=no fun h=>hc1 h.2.2.1;rw[hrn]at mP hA;simp only[go_sem,e3,e4,m2,mP,hc1,hA,nc,no1,ln,w1];exact⟨(st _ rfl).1,⟨k+1,nh2,_,rfl,by omega,(st _ rfl).1,(st _ rfl).2.1,(st _ rfl).2.2.1,(st _ rfl).2.2.2.1,(st _ rfl).2.2.2.2⟩,by rw[h4];simp only[aa,aQ];omega⟩
  by_cases hc4:x.card<=4;rotate_left
  ·obtain⟨nh2,H3,hA,nc,no1,ln,st⟩:=no fun h=>hc4 h.2.2.2;rw[hrn]at mP hA;simp only[go_sem,e3,e4,m2,mP,hc1,hc4,hA,nc,no1,ln,w1];exact⟨(st _ rfl).1,⟨k+1,nh2,_,rfl,by omega,(st _ rfl).1,(st _ rfl).2.1,(st _ rfl).2.2.1,(st _ rfl).2.2.2.1,(st _ rfl).2.2.2.2⟩,by rw[h4];simp only[aa,aQ];omega⟩
  clear no;rw[hrn]at mP gP;simp only[go_sem,mP,hc1,hc4];refine W.aL 2417851639158889605235136 (by rfl) (fun ρ2 Hq=>Hq=Hp/\∃ j:Nat,ρ2 7=aa j/\j<=x.parents.length/\ρ2 6=aa (gU d.nodes (x.parents.take j))) (fun ρ2 H=>x.parents.length - (iv (ρ2 7)).toNat) ?_ ?_
  ·simp only[go_sem];exact⟨0,rfl,by omega,rfl⟩
  rintro ρ2 Hq ⟨hHq,j,h7,hj,h6⟩;subst hHq;refine W.en (fun E2=>E2 1=.ptr H.next 0 0 /\ E2 2=.ptr (H.next+1) 0 0 /\ E2 3=.ptr (H.next+2) 0 0 /\ E2 4=aa k /\ E2 5=.ptr Hx.next 0 0 /\ E2 6=aa (gU d.nodes (x.parents.take j)) /\ E2 7=aa j) (by simp only[go_sem,e1,e2,e3,e4,h6,h7]) fun E2 ⟨f1,f2,f3,f4,f5,f6,f7⟩=>?_
  refine W.vs ?_;by_cases hb2:(j:Int)<x.parents.length
  ·obtain⟨q,hq⟩:=get_of_lt (l:=x.parents) (i:=j) (by omega);have hqne:=aK hq;have hs:=Dp d.nodes (x.parents.take j) q;rw[<- aO hq]at hs;have hrr:=yT d.nodes (x.parents.take j);have w2:=SM ((j:Int)+1) (by omega);unfold lI at hs;by_cases q0:q >= 0;rotate_left
   ·rw[SO (fun h=>q0 h.1)]at hs;simp only[go_sem,f5,f6,f7,mP,hb2,hq,hqne,q0,w2];exact⟨⟨j+1,rfl,by omega,by rw[hs]⟩,by rw[h7];simp only[aa,aQ];omega⟩
   by_cases q1:q<d.nodes.length;rotate_left
   ·rw[SO (fun h=>q1 h.2.1)]at hs;simp only[go_sem,f1,f5,f6,f7,mP,m0,hb2,hq,hqne,q0,q1,w2];exact⟨⟨j+1,rfl,by omega,by rw[hs]⟩,by rw[h7];simp only[aa,aQ];omega⟩
   by_cases q2:gU d.nodes (x.parents.take j)<=1024;rotate_left
   ·rw[SO (fun h=>q2 h.2.2)]at hs;simp only[go_sem,f1,f5,f6,f7,mP,m0,hb2,hq,hqne,q0,q1,q2,w2];exact⟨⟨j+1,rfl,by omega,by rw[hs]⟩,by rw[h7];simp only[aa,aQ];omega⟩
   rw[SQ ⟨q0,q1,q2⟩]at hs;obtain⟨u,rfl⟩:=S2 q0;obtain⟨z,hz⟩:=get_of_lt (l:=d.nodes) (i:=u) (by omega);have z0:=hnq.c0 hz;have zne:=hnq.ne hz;rw[Int.toNat_natCast,bq (cL hz)]at hs;have hm4:1<=max 1 (min z.card 4)/\max 1 (min z.card 4)<=4:=(by omega);have hmm:(if (if 4<z.card then 4 else z.card) > 1 then if 4<z.card then 4 else z.card else 1)=max 1 (min z.card 4):=(by split<;>split<;>omega);generalize max 1 (min z.card 4)=m at hs hm4 hmm;have hp1:gU d.nodes (x.parents.take j)*m<=1024*4:=Uc q2 hm4.2 (by omega) (by omega);have hp0:0<=gU d.nodes (x.parents.take j)*m:=Us (by omega) (by omega);have w3:=SM (gU d.nodes (x.parents.take j)*m) (by omega);simp only[go_sem,f1,f5,f6,f7,mP,m0,hb2,hq,hqne,q0,q1,q2,w2,zne,z0,hmm,w3];exact⟨⟨j+1,rfl,by omega,by rw[hs]⟩,by rw[h7];simp only[aa,aQ];omega⟩
  ·have hje:j=x.parents.length:=(by omega);rw[hje,SP (Nat.le_refl _)]at f6;have hRr:=yT d.nodes x.parents;obtain⟨R,hR⟩:=S2 (show 0<=gU d.nodes x.parents by omega);rw[hR]at f6;obtain⟨cn,hcn⟩:=S2 (show 0<=x.card by omega);have hcn0:(0:Int)<cn:=(by omega);have hcn1:1<=cn:=(by omega);have hcn2:(cn:Int) >= 0:=(by omega);have ury:iq d k x={ x with rows:=List.replicate R (bj d.grain x.card 0) }:=by
    unfold iq;rw[SQ ⟨hbit,hr0,hc1,hc4⟩,hR,Int.toNat_natCast]
   simp only[go_sem,f4,f5,f7,mP,hb2];refine W.lT (Q':=fun e s2=>e=.exit 4/\∃ rq,s2.ρ 1=.ptr H.next 0 0/\s2.ρ 2=.ptr (H.next+1) 0 0/\s2.ρ 3=.ptr (H.next+2) 0 0/\s2.ρ 4=aa k/\s2.ρ 5=.ptr Hx.next 0 0/\Hq.next<=s2.H.next/\(∀ id,id<Hx.next->s2.H.get id=Hx.get id)/\s2.H.get Hx.next=some (.arr 0 73 [.lit (.int .i64 x.card),.vec x.parents.length (ints x.parents),rq])/\dP Hq.next s2.H 46 3 rq (List.replicate R (ints (bj d.grain x.card 0)))) ?_ ?_;rotate_left
   ·rintro e s2 ⟨rfl,rq,a1,a2,a3,a4,a5,hn2,ho2,hP2,hO2⟩;have hv:=hO2.fz (S:=fun id=>Hq.next<=id) (nx:=s2.H.next) (rows':=List.replicate R (ints (bj d.grain x.card 0))) (fun _ h=>h) rfl fun j r r' h1 h2=>by
     rw[h1]at h2;cases h2;refine⟨rfl,fun i hi _=>?_⟩;have hr:=Tz (SK h1);subst hr;have e0:(ints (bj d.grain x.card 0))[i]?=some (ints (bj d.grain x.card 0))[i]:=SN hi;generalize (ints (bj d.grain x.card 0))[i]=a at e0 ⊢;rw[gJ]at e0;obtain⟨b,_,rfl⟩:=SL.1 e0;exact .lit _
    rw[Tl,U5]at hv;have hvv:(AVal.vec R (List.replicate R (.vec (ints (bj d.grain x.card 0)).length (ints (bj d.grain x.card 0)))))=ah (List.replicate R (bj d.grain x.card 0)):=by
     unfold ah af;rw[Tl,U5,aP]
    rw[hvv]at hv;refine⟨⟨s2.ρ,s2.H.fy Hq.next Hx.next (.arr 0 73 [.lit (.int .i64 x.card),.vec x.parents.length (ints x.parents),ah (List.replicate R (bj d.grain x.card 0))])⟩,cV.fy aS hP2 (by omega) rfl (fun i hi _=>?_),Nat.le_refl _,trivial,?_⟩
    ·match i,hi with
     | 0,_=>exact .lit _
     | 1,_=>exact .dq _
     | 2,_=>exact hv
    obtain⟨He,hHe⟩:∃ He,He=s2.H.fy Hq.next Hx.next (.arr 0 73 [.lit (.int .i64 x.card),.vec x.parents.length (ints x.parents),ah (List.replicate R (bj d.grain x.card 0))]):=⟨_,rfl⟩
    rw[<- hHe];have gPe:He.get Hx.next=some (.arr 0 73 [.lit (.int .i64 x.card),.vec x.parents.length (ints x.parents),ah (List.replicate R (bj d.grain x.card 0))]):=(by rw[hHe];exact Df (by omega));have hoe:∀ id,id<Hx.next->He.get id=Hx.get id:=fun id h=>by rw[hHe,Dg (by omega) (by omega)];exact ho2 id h
    have hne':He.next=s2.H.next:=(by rw[hHe];rfl);clear hHe hv hP2 hO2;have lPe:=ag gPe;have l2e:=ag ((hoe (H.next+2) (by omega)).trans hbn);obtain⟨nh2,H3,hA,nc,no1,ln,st⟩:=step He (ah (List.replicate R (bj d.grain x.card 0))) _ ury rfl rfl (.inl rfl) (by omega) hoe;simp only[go_sem,a2,a3,a4,a5,lPe,l2e,hA,nc,no1,ln,w1];exact⟨(st _ rfl).1,⟨k+1,nh2,_,rfl,by omega,(st _ rfl).1,(st _ rfl).2.1,(st _ rfl).2.2.1,(st _ rfl).2.2.2.1,(st _ rfl).2.2.2.2⟩,by rw[h4];simp only[aa,aQ];omega⟩
   refine W.aL 633822882262475471490002191872 (by rfl) (fun ρ3 Hy=>∃ (i:Nat) (rq:AVal),ρ3 9=aa i/\i<=R/\Hq.next<=Hy.next/\(∀ id,id<Hx.next->Hy.get id=Hx.get id)/\Hy.get Hx.next=some (.arr 0 73 [.lit (.int .i64 x.card),.vec x.parents.length (ints x.parents),rq])/\dP Hq.next Hy 46 3 rq (List.replicate i (ints (bj d.grain x.card 0)))) (fun ρ3 H=>R - (iv (ρ3 9)).toNat) ?_ ?_
   ·simp only[go_sem];exact⟨0,_,rfl,by omega,pold,gP,.nil⟩
   rintro ρ3 Hy ⟨i,rq,h9,hi,hny,hyo,hyP,hOy⟩;refine W.env fun E3 hE3=>?_;have a1:E3 1=.ptr H.next 0 0:=(by rw[hE3];simp only[go_sem,f1]);have a2:E3 2=.ptr (H.next+1) 0 0:=(by rw[hE3];simp only[go_sem,f2]);have a3:E3 3=.ptr (H.next+2) 0 0:=(by rw[hE3];simp only[go_sem,f3]);have a4:E3 4=aa k:=(by rw[hE3];simp only[go_sem,f4]);have a5:E3 5=.ptr Hx.next 0 0:=(by rw[hE3];simp only[go_sem,f5]);have a6:E3 6=aa R:=(by rw[hE3];simp only[go_sem,f6]);have a9:E3 9=aa i:=(by rw[hE3];simp only[go_sem,h9]);clear hE3;refine W.vs ?_;by_cases hb3:(i:Int)<R
   ·have w3:=SM ((i:Int)+1) (by omega);have yP:=ag hyP;have y0:=ag ((hyo H.next (by omega)).trans ((hold H.next (by omega)).trans g0));rw[hcn]at yP;have y0e:∀ L,(ext Hy L).live H.next 0=_:=fun L=>(dv (by omega)).trans y0;have yPe:∀ L,(ext Hy L).live Hx.next 0=_:=fun L=>(dv (by omega)).trans yP;have hun:(AVal.lit (.int .i64 d.grain) :: List.drop 1 (List.replicate cn (.lit (.int .i64 0))))=ints (bj d.grain x.card 0):=by
     unfold bj;rw[hcn,Int.toNat_natCast];obtain⟨m,rfl⟩:∃ m,cn=m+1:=⟨cn - 1,by omega⟩
     simp [TZ,ints,aa]
    have hul:(bj d.grain x.card 0).length=cn:=(by rw[rV,hcn];rfl);obtain⟨Hw,hHw⟩:∃ Hw,Hw=ext Hy [.arr 0 3 (ints (bj d.grain x.card 0))]:=⟨_,rfl⟩
    have hwn:Hw.next=Hy.next+1:=(by rw[hHw];rfl);have hwo:Over Hy Hw:=(by rw[hHw];exact .ext _ _);have hwg:Hw.get Hy.next=some (.arr 0 3 (ints (bj d.grain x.card 0))):=(by rw[hHw];exact bT);have wP:Hw.live Hx.next 0=_:=(hwo.live (by omega)).trans yP;obtain⟨rq',Hj,hA,hO',hnj,hpj⟩:=dP.app (P:=Tryz.prog) (H:=Hw) (n:=Hw.next+1) (t:=33) (x:=.own Hy.next 0 0 cn 1) (r:=ints (bj d.grain x.card 0)) Tryz.underlying33 Tryz.jL Tryz.kB Tryz.kA (by decide) (by rw[Tl];omega) (hOy.over hwo) (by omega) (.inr ⟨Hy.next,0,by omega,by omega,by rw[aP,hul],hwg⟩) rfl;have keep:∀ id,id<Hq.next->Hj.get id=Hy.get id:=fun id h=>(hpj id (by omega) h).trans (hwo.old id (by omega));have jP:Hj.live Hx.next 0=_:=ag ((keep _ (by omega)).trans hyP);obtain⟨cs',hcs'⟩:=id hO';have rc:=hcs'.1.cells;have ro:=hcs'.1.one;rw[hwn,hHw,gK]at hA;simp only[List.cons_append,List.nil_append,UC,Nat.reduceAdd]at hA;simp only[go_sem,a1,a5,a6,a9,hb3,yP,y0e,yPe,hcn0,hcn2,hun,hA,jP,rc,ro,w3];refine⟨by omega,by simp;omega,by rw[aw];omega,⟨i+1,rq',rfl,by omega,by rw[aw];omega,fun id h=>by rw[ab,SO (by omega),keep id (by omega)];exact hyo id h,by rw[ab,SQ rfl],?_⟩,by rw[h9];simp only[aa,aQ];omega⟩;rw[UZ];exact hO'.upd (by omega)
   ·simp only[go_sem,a1,a2,a3,a4,a5,a6,a9,hb3];have:i=R:=(by omega);subst this;exact⟨rq,hny,hyo,hyP,hOy⟩
 ·have hke:k=d.nodes.length:=by omega
  have l2:=ag hbn;have l1:=ag ((hold (H.next+1) (by omega)).trans g1);have nc:=hO.cells;have no:=hO.one;simp only[go_sem,e1,e2,e3,e4,l0,l1,l2,hb,no];rw[hke]at hO hQ;rw[SP (by rw[jh];exact Nat.le_refl _)]at hQ;refine hK hcl nh ks _ ⟨by rw[aw];have:=ob.next;omega,fun id h=>by rw[ab,SO (by omega),hold id (by omega)];exact ob.old id h⟩ ?_ hQ;rcases hO with ⟨h,hz,hc⟩|⟨id,gg,k1,k2,h,k4,k5⟩
  ·exact .inl ⟨h,hz,hc⟩
  ·exact .inr ⟨id,gg,by omega,by rw[aw];exact k2,h,k4,by rw[ab,SO (by omega)];exact k5⟩
theorem Ds (d:InfP)(cs:List AVal)(hq:NodesQ (fun v=>d.decs.testBit v=true) d.nodes cs)(hf:InfFit d)(H:AHeap)(K:ARes->AHeap->Prop)(hK:K (.ret (bJ d.grain (cR d))) H):ae Tryz.prog G0 53 [dL d cs] H K:=by
 refine Dr d cs hq hf H K fun hcl nh ks H' ho hO hQ=>?_;refine ay.bx (v':=bJ d.grain (cR d)) aS hcl ho (.agg rfl fun i hi _=>?_) hK
 match i,hi with
 | 0,_=>exact .lit _
 | 1,_ =>
  show Fz _ _ _ nh (cj (cR d));unfold cj;rw[jh];rcases hO with ⟨h,hz,hc⟩|⟨id,gg,k1,k2,h,k4,k5⟩
  ·have:cR d=[]:=SY (by rw[jh];exact hz);rw[h,hz,this];exact .nil
  ·rw[h];refine .frz k1 k5 (by rw[gT,jh]) fun j hj h2 h'=>?_;have e0:(0:Nat)+j=j:=Nat.zero_add j;have h3:j<ks.length:=(by omega);have:=fun Hq=>hQ.uQ (S:=fun id=>H.next<=id) (H:=Hq) (nx:=H.next) j h3 h';simpa only[e0] using this _
theorem PW (d:InfP)(cs:List AVal)(hq:NodesQ (fun v=>d.decs.testBit v=true) d.nodes cs)(hf:InfFit d)(H:AHeap)(K:ARes->AHeap->Prop)(hK:∀ (nh:AVal) (ks:List AVal) (H':AHeap),Over H H'->bY H.next H' 73 3 nh d.nodes.length ks->NodesQ (fun _=>False) (cR d) ks->K (.ret (.agg [.lit (.int .i64 d.grain),nh])) H'):ae Tryz.prog G0 53 [dL d cs] H K :=
 Dr d cs hq hf H K fun _ nh ks H' ho hO hQ=>ay.mk ho.next (hK nh ks H' ho hO hQ)
theorem PX {cs:List Int}(hc:∀ c∈cs,1<=c):∀ (k:Nat) (ps:List Int),k<=cs.length->ps.Pairwise (·<·)->(∀ p∈ps,0<=p/\p<k)->au (aF cs ps)<=au (cs.take k):=by
 intro k
 induction k with
 | zero =>
  intro ps _ _ h;cases ps with
  | nil=>exact Int.le_refl _
  | cons p ps=>have:=h p (by simp);omega
 | succ k ih =>
  intro ps hk hw h;obtain⟨c,hck⟩:=get_of_lt (l:=cs) (i:=k) (by omega);have c1:=hc c (SK hck);rw[aO hck,eO];have hp:=fw (l:=cs.take k) fun c h=>hc c (Tg h);rcases VX ps with rfl|⟨qs,q,rfl⟩
  ·show 1<=_;have:=Uc hp c1 (by omega) (by omega);omega
  ·rw[VY]at hw h ⊢;have hq:=h q (by simp);obtain⟨w1,_,w3⟩:=Ut.1 hw;have hqs:∀ p∈qs,0<=p/\p<q:=fun p hp=>⟨(h p (by simp [hp])).1,w3 p hp q (by simp)⟩
   by_cases hqk:q=k
   ·have h1:=ih qs (by omega) w1 fun p hp=>by have:=hqs p hp;omega
    unfold aF at h1 ⊢;rw[TI,yy];have e:au (List.map (fun p=>cs.getD p.toNat 0) [q])=c:=by
     rw[hqk];simp only[List.map_cons,List.map_nil,Int.toNat_natCast,bq hck,il,gi,V7]
    rw[e];exact Uz h1 (by omega)
   ·have h1:=ih (qs++[q]) (by omega) hw fun p hp=>by
     rcases Ta.1 hp with h'|h'
     ·have:=hqs p h';omega
     ·obtain rfl:=List.mem_singleton.1 h';omega
    have h2:au (cs.take k)*1<=au (cs.take k)*c:=Tr c1 (by omega);omega
theorem rU {ns:List NodeP}{x:NodeP}(hp:bK x.parents ns.length)(hc:∀ y∈ns,1<=y.card/\y.card<=4):au (aH ns x)<=au (ao ns):=by
 have h:=PX (cs:=ao ns) (fun c h=>by
  obtain⟨y,hy,rfl⟩:=S9.1 h;exact(hc y hy).1) ns.length x.parents (by rw[cM];exact Nat.le_refl _) hp.1 hp.2
 rw[SP (by rw[cM];exact Nat.le_refl _)]at h;exact h
theorem yU {d:InfP}(h:InfOk d):cR d=bP d fun _ _=>0:=by
 apply Tk;intro v;rcases Te v d.nodes.length with hv|hv
 ·obtain⟨x,hx⟩:=get_of_lt hv;rw[pK hx,eF hx];unfold iq;by_cases hb:d.decs.testBit v=true
  ·obtain⟨x1,x2⟩:=h.n.dec v x hx hb;have hc:=h.n.card x (SK hx);rw[SQ ⟨hb,x1,hc.1,hc.2⟩,jW hx hb];have hsz:=h.net.size;rw[jV]at hsz;have hle:=rU x2 h.n.card;rw[Dq (fun q hq=>by have:=x2.2 q hq;omega) h.n.card (by omega),x1,List.nil_append];congr 2;unfold cG bH;rw[UK,TJ]
  ·rw[SO fun h=>hb h.1,jj hb]
 ·rw[SV (by rw[jh];exact hv),SV (by rw[dE];exact hv)]
def ir (d:InfP)(v:Nat):Int × Int:=match d.nodes[v]? with
 | some x=>(bH d.nodes x,x.card)
 | none=>(0,0)
def dJ (d:InfP):List (Int × Int):=(az d).map (ir d)
def fL (l:List (Int × Int)):List AVal:=(l.map fun p=>[aa p.1,aa p.2]).flatten
theorem yV {l:List (Int × Int)}{i:Nat}{p:Int × Int}(h:l[i]?=some p):(fL l)[i*2]?=some (aa p.1):=gS (f:=fun p:Int × Int=>[aa p.1,aa p.2]) (z:=2) (fun _=>rfl) l i 0 p h (by omega)
theorem Du {l:List (Int × Int)}{i:Nat}{p:Int × Int}(h:l[i]?=some p):(fL l)[i*2+1]?=some (aa p.2):=gS (f:=fun p:Int × Int=>[aa p.1,aa p.2]) (z:=2) (fun _=>rfl) l i 1 p h (by omega)
theorem Dv {l:List (Int × Int)}{i:Nat}{p:Int × Int}(h:l[i]?=some p):¬ fL l=[]:=fun e=>by
 have:=yV h;rw[e]at this;simp at this
theorem PY (l:List (Int × Int))(p:Int × Int):fL (l++[p])=fL l++[aa p.1,aa p.2]:=by unfold fL;simp
theorem PZ {S:Nat->Prop}{H:AHeap}{nx:Nat}(l:List (Int × Int)):∀ c∈fL l,Fz S H nx c c:=by
 intro c hc;unfold fL at hc;obtain⟨r,hr,hc⟩:=UT.1 hc;obtain⟨x,_,rfl⟩:=S9.1 hr;simp only[List.mem_cons,List.not_mem_nil,or_false]at hc;rcases hc with rfl|rfl<;>exact .lit _
theorem nO {d:InfP}(h:InfOk d){v:Nat}(hv:v<d.nodes.length)(hb:d.decs.testBit v=true):1<=(ir d v).1/\(ir d v).1<=1024/\1<=(ir d v).2/\(ir d v).2<=4:=by
 obtain⟨x,hx⟩:=get_of_lt hv;obtain⟨x1,x2⟩:=h.n.dec v x hx hb;have hc:=h.n.card x (SK hx);have hsz:=h.net.size;rw[jV]at hsz;have hle:=rU x2 h.n.card;have hps:=fw (l:=aH d.nodes x) fun c hc=>(mM (fun q hq=>by have:=x2.2 q hq;omega) h.n.card c hc).1;unfold ir;rw[hx];show 1<=((bH d.nodes x:Nat):Int)/\((bH d.nodes x:Nat):Int)<=1024/\1<=x.card/\x.card<=4;unfold bH;omega
set_option maxHeartbeats 4000000 in
theorem Dw (d:InfP)(cs:List AVal)(hq:NodesQ (fun v=>d.decs.testBit v=true) d.nodes cs)(hf:InfFit d)(hok:InfOk d)(H:AHeap)(K:ARes->AHeap->Prop)(hK:K (.ret (.vec (dJ d).length (fL (dJ d)))) H):ae Tryz.prog G0 51 [dL d cs] H K:=by
 refine ae.clo ⟨_,Tryz.func51,rfl,rfl⟩ fun hcl=>?_;have hl:=hf.nodes.1;have hn8:=hok.n.n1.2;refine ae.aZ (n:=41) (rs:=[.tmp 2]) Tryz.func51 rfl rfl rfl (by decide) (by kernel_rfl) (by simp) ?_;simp only[go_sem,iP,gV];obtain⟨H1,hH1⟩:∃ H1,H1=ext H [.arr 0 38 [.lit (.int .i64 d.grain),.vec d.nodes.length cs,.lit (.int .u64 (d.decs:Int)),.vec d.utils.length (aR d.utils)]]:=⟨_,rfl⟩
 have g0:H1.get H.next=some (.arr 0 38 [.lit (.int .i64 d.grain),.vec d.nodes.length cs,.lit (.int .u64 (d.decs:Int)),.vec d.utils.length (aR d.utils)]):=by rw[hH1];exact bQ ..
 have n1:H1.next=H.next+1:=by rw[hH1];rfl
 have o1:Over H H1:=by rw[hH1];exact .ext _ _
 rw[<- hH1];clear hH1;have m0:=ag g0;refine aB.clo (Ds d cs hq hf _ _ ⟨trivial,?_⟩);rw[yU hok];simp only[go_sem,bJ,cj];obtain⟨H2,hH2⟩:∃ H2,H2=ext H1 [.arr 0 103 [.lit (.int .i64 d.grain),.vec (bP d fun _ _=>0).length (aG (bP d fun _ _=>0))]]:=⟨_,rfl⟩
 have g1:H2.get H1.next=some (.arr 0 103 [.lit (.int .i64 d.grain),.vec (bP d fun _ _=>0).length (aG (bP d fun _ _=>0))]):=by rw[hH2];exact bT
 have o2:Over H1 H2:=by rw[hH2];exact .ext _ _
 have n2:H2.next=H1.next+1:=by rw[hH2];rfl
 have k0:=(o2.live (g:=0) (by omega:H.next<H1.next)).trans m0;have k1:=ag g1;rw[<- hH2];clear hH2;simp only[go_sem,k0];refine aB.clo (vg d cs hf.decs (by omega) _ _ ⟨trivial,?_⟩);simp only[go_sem];have dl:(aM (az d)).length=(az d).length:=by simp [aM]
 have dl8:(az d).length<=d.nodes.length:=jf;refine W.aL 1099511625800 (by rfl) (fun ρ Hx=>∃ (k:Nat) (ov:AVal),ρ 6=aa k/\k<=(az d).length/\Over H2 Hx/\ρ 3=ov/\bY H2.next Hx 63 2 ov k (fL ((dJ d).take k))) (fun ρ H=>(az d).length - (iv (ρ 6)).toNat) ?_ ?_
 ·simp only[go_sem];exact⟨0,_,rfl,by omega,.refl _,rfl,.nil⟩
 rintro ρ Hx ⟨k,ov,h6,hk,hov,h3,hO⟩;refine W.en (fun E=>E 3=ov /\ E 4=.ptr H1.next 0 0 /\ E 5=af (aM (az d)) /\ E 6=aa k) (by simp only[go_sem,h3,h6]) fun E ⟨e3,e4,e5,e6⟩=>?_
 refine W.vs ?_;have x1:=(hov.live (g:=0) (by omega:H1.next<H2.next)).trans k1;have onx:=hov.next;by_cases hb:(k:Int)<(az d).length
 ·obtain⟨v,hv⟩:=get_of_lt (l:=az d) (i:=k) (by omega);obtain⟨v1,v2,_⟩:=kG hv;obtain⟨x,hx⟩:=get_of_lt v1;have hvi:(aM (az d))[k]?=some (v:Int):=by unfold aM;rw[List.getElem?_map,hv];rfl
  have hvne:=aK hvi;have hfx:=eF (c:=fun _ _=>0) hx;have f0:=iJ hfx;have f2:=pG hfx;have fne:=dC hfx;have hvl:(v:Int)<(bP d fun _ _=>0).length:=by rw[dE];omega
  have w1:=SM ((k:Int)+1) (by omega);have hrc:ir d v=(((dR d (fun _ _=>0) (az d).length v x).rows.length:Int),(dR d (fun _ _=>0) (az d).length v x).card):=by
   rw[jW hx v2];unfold ir;rw[hx];have:=(hok.n.dec v x hx v2).1;simp [this,cG]
  generalize dR d (fun _ _=>0) (az d).length v x=y at f0 f2 hrc;obtain⟨ov',Hj,hA,hO',hnj,hpj⟩:=mS (P:=Tryz.prog) (t:=117) (xs:=[aa y.rows.length,aa y.card]) Tryz.underlying117 Tryz.CJ Tryz.CL rfl rfl (by rw[Tryz.CK];omega) hO onx rfl;simp only[aa]at hA;simp only[go_sem,e5,e6,dl,hb];refine W.draw 22 [0,0,2,0,0,24,56,126,254,510,1022,0,2048,0,0,24576,57344,129024,260096,522240,1048574,2097150] Tryz.mixed (by kernel_rfl) (by kernel_rfl) ?_;simp only[go_sem,e3,e4,e5,e6,dl,hb,hvi,hvne,x1,f0,f2,fne,hvl,w1,hA,ah];have hrg:(dJ d)[k]?=some (ir d v):=by unfold dJ;rw[List.getElem?_map,hv];rfl
  refine⟨by omega,⟨k+1,ov',rfl,by omega,⟨by omega,fun id h=>(hpj id (by omega) (hO.ne h)).trans (hov.old id h)⟩,rfl,?_⟩,by rw[h6];simp only[aa,aQ];omega⟩;rw[aO hrg,PY,hrc];exact hO'
 ·have hke:k=(az d).length:=by omega
  simp only[go_sem,e3,e5,e6,dl,hb];have hrl:(dJ d).length=(az d).length:=by simp [dJ]
  rw[hke,SP (by omega)]at hO;refine ay.bx aS hcl ((o1.trans o2).trans hov) ?_ hK;rw[hrl];have oh2:=(o1.trans o2).next;rcases hO with ⟨h,hz,hc⟩|⟨id,gg,k1,k2,h,k4,k5⟩
  ·rw[h,hz,hc];exact .nil
  ·rw[h];refine .frz (by omega) k5 k4 fun j hj h2 h'=>?_;have e0:(0:Nat)+j=j:=Nat.zero_add j;have h3:j<(fL (dJ d)).length:=(by omega);have:=fun Hq=>PZ (S:=fun id=>H.next<=id) (H:=Hq) (nx:=H.next) (dJ d) _ (Tt h3);simpa only[e0] using this _
def uZ (l:List (Int × Int))(ps:List (List Int)):Prop:=ps.length=l.length/\∀ (k:Nat) (p:Int × Int) (r:List Int),l[k]?=some p->ps[k]?=some r->(r.length:Int)=p.1/\∀ a∈r,0<=a/\a<p.2
theorem Dx {d:InfP}{p:List (List Int)}:PolOk d p↔uZ (dJ d) p:=by
 have hg:∀ (k v:Nat) (x:NodeP),(az d)[k]?=some v->d.nodes[v]?=some x->(dJ d)[k]?=some ((bH d.nodes x:Int),x.card):=fun k v x hv hx=>by
  unfold dJ;rw[List.getElem?_map,hv,Option.map_some];unfold ir;rw[hx]
 constructor
 ·intro h;refine⟨by rw[h.len];simp [dJ],fun k q r hq hr=>?_⟩;obtain⟨v,hv⟩:=get_of_lt (l:=az d) (i:=k) (by have:=get_lt hr;rw[h.len]at this;exact this);obtain⟨v1,_⟩:=kG hv;obtain⟨x,hx⟩:=get_of_lt v1;rw[hg k v x hv hx]at hq;cases hq;obtain⟨a,b⟩:=h.row k v x r hv hx hr;exact⟨by rw[a],b⟩
 ·intro h;refine⟨by rw[h.1];simp [dJ],fun k v x l hv hx hl=>?_⟩;obtain⟨a,b⟩:=h.2 k _ l (hg k v x hv hx) hl;exact⟨by simp only at a;omega,b⟩
set_option maxHeartbeats 4000000 in
theorem P0 (d:InfP)(cs:List AVal)(hq0:NodesQ (fun v=>d.decs.testBit v=true) d.nodes cs)(hf:InfFit d)(hok:InfOk d)(bs:List Int)(hbl:(bs.length:Int)<2 ^ 63)(hb8:∀ x∈bs,U8 x)(H:AHeap)(K:ARes->AHeap->Prop)(hK:∀ p,PolOk d p->K (.ret (ah p)) H):ae Tryz.prog G0 14 [dL d cs,.vec bs.length (bn bs)] H K:=by
 refine ae.clo ⟨_,Tryz.func14,rfl,rfl⟩ fun hcl=>?_;have hn8:=hok.n.n1.2;refine ae.aZ (n:=57) (rs:=[.tmp 4]) Tryz.func14 rfl rfl rfl (by decide) (by kernel_rfl) (by simp) ?_;simp only[go_sem,iP,gV];obtain⟨H1,hH1⟩:∃ H1,H1=ext H [.arr 0 38 [.lit (.int .i64 d.grain),.vec d.nodes.length cs,.lit (.int .u64 (d.decs:Int)),.vec d.utils.length (aR d.utils)]]:=⟨_,rfl⟩
 have n1:H1.next=H.next+1:=by rw[hH1];rfl
 have o1:Over H H1:=by rw[hH1];exact .ext _ _
 rw[<- hH1];clear hH1;refine aB.clo (Dw d cs hq0 hf hok _ _ ⟨trivial,?_⟩);have rl:(dJ d).length=(az d).length:=by simp [dJ]
 have dl8:(az d).length<=d.nodes.length:=jf;have rr:∀ p∈dJ d,1<=p.1/\p.1<=1024/\1<=p.2/\p.2<=4:=fun p hp=>by
  unfold dJ at hp;obtain⟨v,hv,rfl⟩:=S9.1 hp;obtain⟨v1,v2⟩:=dD.1 hv;exact nO hok v1 v2
 generalize hL:dJ d=L at rl rr;simp only[go_sem];refine W.aL 72057594037915552 (by rfl) (fun ρ Hx=>∃ (k at':Nat) (ps:List (List Int)),ρ 8=aa k/\k<=L.length/\ρ 7=aa at'/\at'<=k*1024/\H1.next<=Hx.next/\(∀ id,id<H1.next->Hx.get id=H1.get id)/\dP H1.next Hx 46 3 (ρ 5) (ps.map ints)/\uZ (L.take k) ps) (fun ρ H=>L.length - (iv (ρ 8)).toNat) ?_ ?_
 ·simp only[go_sem];exact⟨0,0,[],rfl,by omega,rfl,by omega,.nil,rfl,fun k p r _ h=>by simp at h⟩
 rintro ρ Hx ⟨k,at',ps,h8,hk,h7,hat,hnx,hold,h5,hfit⟩;obtain⟨ov,hov⟩:∃ ov,ov=ρ 5:=⟨_,rfl⟩
 rw[<- hov]at h5;refine W.en (fun E=>E 1=.vec bs.length (bn bs) /\ E 5=ov /\ E 6=.vec L.length (fL L) /\ E 7=aa at' /\ E 8=aa k) (by simp only[go_sem,hov,h7,h8]) fun E ⟨e1,e5,e6,e7,e8⟩=>?_
 refine W.vs ?_;by_cases hb:(k:Int)<L.length
 ·obtain⟨⟨c1,c2⟩,hp⟩:=get_of_lt (l:=L) (i:=k) (by omega);obtain⟨r1,r2,r3,r4⟩:=rr _ (SK hp);dsimp only at r1 r2 r3 r4;have p0:=yV hp;have p1:=Du hp;have pne:=Dv hp;have w1:=SM ((k:Int)+1) (by omega);simp only[go_sem,e6,e8,hb];refine W.aL 4503599626325632 (by rfl) (fun ρ2 Hy=>∃ (j:Nat) (q:List Int),ρ2 10=aa j/\(j:Int)<=c1/\q.length=j/\ρ2 7=aa ((at'+j:Nat):Int)/\(∀ a∈q,0<=a/\a<c2)/\Over Hx Hy/\aA Hx.next Hy 3 (ρ2 9) (ints q)) (fun ρ2 H=>c1.toNat - (iv (ρ2 10)).toNat) ?_ ?_
  ·simp only[go_sem,e7];exact⟨0,[],rfl,by omega,rfl,rfl,by simp,.refl _,.nil⟩
  rintro ρ2 Hy ⟨j,q,h10,hj,hql,h7',hq,hxy,h9⟩;obtain⟨qv,hqv⟩:∃ qv,qv=ρ2 9:=⟨_,rfl⟩
  rw[<- hqv]at h9;refine W.en (fun E2=>E2 1=.vec bs.length (bn bs) /\ E2 5=ov /\ E2 6=.vec L.length (fL L) /\ E2 7=aa ((at'+j:Nat):Int) /\ E2 8=aa k /\ E2 9=qv /\ E2 10=aa j) (by simp only[go_sem,e1,e5,e6,h7',e8,hqv,h10]) fun E2 ⟨f1,f5,f6,f7,f8,f9,f10⟩=>?_
  refine W.vs ?_;by_cases hb2:(j:Int)<c1
  ·obtain⟨m,hm⟩:∃ m:Nat,m=at'+j:=⟨_,rfl⟩
   rw[<- hm]at f7;have w2:=SM ((j:Int)+1) (by omega);have w3:=SM ((m:Int)+1) (by omega);have app:∀ a:Int,0<=a/\a<c2->∃ v' H2,bf Tryz.prog (ext Hy [.arr 0 3 [.lit (.int .i64 a)]]) (Hy.next+1) 46 46 qv (.own Hy.next 0 0 1 1)=some (v',H2)/\Hx.next<=H2.next/\∀ a' ,a'=a->(∀ b∈q++[a'],0<=b/\b<c2)/\Over Hx H2/\aA Hx.next H2 3 v' (ints (q++[a'])):=fun a ha=>by
    obtain⟨v',H2,hA,ho2,hO2,hn2,_⟩:=iQ a hxy h9 (by omega);refine⟨v',H2,hA,by have:=hxy.next;omega,fun a' ha'=>?_⟩;subst ha';exact⟨fun b hb=>by rcases Ta.1 hb with h|h;exact hq b h;obtain rfl:=List.mem_singleton.1 h;exact ha,ho2,hO2⟩
   by_cases hz:(bs.length:Int) > 0
   ·have hzn:¬ (bs.length:Int)=0:=(by omega);have m1:(m:Int).tmod bs.length=((m % bs.length:Nat):Int):=(by rw[Tj (by omega)];rfl);have m2:=Vn m (show bs.length > 0 by omega);obtain⟨z,hzz⟩:∃ z,z=m % bs.length:=⟨_,rfl⟩
    rw[<- hzz]at m1 m2;have hz0:(z:Int) >= 0:=(by omega);have hzl:(z:Int)<bs.length:=(by omega);obtain⟨b,hbg⟩:=get_of_lt (l:=bs) (i:=z) m2;have b8:=hb8 b (SK hbg);have hbg':=rF hbg;have hbne:=aK hbg';unfold U8 at b8;have w4:IntKind.i64.wrap b=b:=SM _ (by omega);have c2n:¬ c2=0:=(by omega);have tb:b.tmod c2=b % c2:=Tj b8.1;have tb0:=Ue b c2n;have tb1:=T7 b (show 0<c2 by omega);have w5:IntKind.i64.wrap (b % c2)=b % c2:=SM _ (by omega);obtain⟨v',Hj,hA,hjn,fin⟩:=app (b % c2) ⟨tb0,tb1⟩;obtain⟨fi1,fi2,fi3⟩:=fin _ rfl;simp only[go_sem,f1,f6,f8,f10,p0,pne,hb,hb2,hz];refine W.draw 13 [0,0,0,4,14,31,63,127,0,0,768,1792,3840] Tryz.mixed (by kernel_rfl) (by kernel_rfl) ?_;simp only[go_sem,f1,f6,f7,f8,f9,f10,p1,pne,hb,hzn,m1,hz0,hzl,hbg',hbne,w4,c2n,tb,w2,w3,hA];exact⟨by omega,⟨j+1,q++[_],rfl,by omega,by simp;omega,by rw[show ((at'+(j+1):Nat):Int)=(m:Int)+1 by omega],fi1,fi2,fi3⟩,by rw[h10];simp only[aa,aQ];omega⟩
   ·obtain⟨v',Hj,hA,hjn,fin⟩:=app 0 ⟨by omega,by omega⟩;obtain⟨fi1,fi2,fi3⟩:=fin _ rfl;simp only[go_sem,f1,f6,f7,f8,f9,f10,p0,pne,hb,hb2,hz,w2,w3,hA];exact⟨by omega,⟨j+1,q++[_],rfl,by omega,by simp;omega,by rw[show ((at'+(j+1):Nat):Int)=(m:Int)+1 by omega],fi1,fi2,fi3⟩,by rw[h10];simp only[aa,aQ];omega⟩
  ·have hjc:(j:Int)=c1:=(by omega);have h9':aA H1.next Hy 3 qv (ints q):=h9.keep hnx (Nat.le_refl _) fun _ _ _ _ _ _=>rfl;have xyn:=hxy.next;obtain⟨ov',Hj,hA,hO',hnj,hpj⟩:=dP.app (P:=Tryz.prog) (n:=Hy.next+1) (t:=33) Tryz.underlying33 Tryz.jL Tryz.kB Tryz.kA (by decide) (by rw[SZ,hfit.1,SX];omega) (h5.over hxy) (by omega) h9' rfl;have qvc:=h9.cells;simp only[go_sem,f5,f6,f7,f8,f9,f10,p0,pne,hb,hb2,w1,qvc,UL,List.drop_one,List.tail_cons,List.append_nil,hA];have pl:=hfit.1;rw[SX]at pl;refine⟨by omega,⟨k+1,at'+j,ps++[q],rfl,by omega,rfl,by omega,by omega,fun id h=>by rw[hpj id (by omega) h,hxy.old id (by omega)];exact hold id h,by rw[TI];exact hO',by rw[aO hp];simp;omega,fun i p r hp' hr=>?_⟩,by rw[h8];simp only[aa,aQ];omega⟩;rw[aO hp]at hp';rcases Te i ps.length with h|h
   ·rw[SW h]at hr;rw[SW (by rw[SX];omega)]at hp';exact hfit.2 i p r hp' hr
   ·have hi:=get_lt hr;simp at hi;obtain rfl:i=ps.length:=(by omega);rw[S5 (by omega)]at hr;rw[S5 (by rw[SX];omega),SX]at hp';rw[Uo]at hr;rw[show ps.length - min k L.length=0 by omega]at hp';cases hr;cases hp';exact⟨by omega,hq⟩
 ·simp only[go_sem,e5,e6,e8,hb];have hke:k=L.length:=by omega
  rw[hke,SP (Nat.le_refl _)]at hfit;refine ay.bx (v':=ah ps) aS hcl ⟨by omega,fun id h=>by rw[hold id (by omega)];exact o1.old id h⟩ ?_ (hK ps (Dx.2 (by rw[hL];exact hfit)));have:=h5.fz (S:=fun id=>H.next<=id) (nx:=H.next) (rows':=ps.map ints) (fun i h=>by omega) rfl fun j r r' h1 h2=>by
   rw[h1]at h2;cases h2;refine⟨rfl,fun i hi _=>?_⟩;rw[List.getElem?_map]at h1;obtain⟨z,_,rfl⟩:=SL.1 h1;have e0:(ints z)[i]?=some (ints z)[i]:=SN hi;generalize (ints z)[i]=a at e0 ⊢;rw[gJ]at e0;obtain⟨b,_,rfl⟩:=SL.1 e0;exact .lit _
  rw[SZ,U6]at this;have e:(ps.map ((fun r:List AVal=>AVal.vec r.length r) ∘ ints))=ps.map af:=Ti fun z _=>by simp [Function.comp,af,aP]
  rw[e]at this;exact this
theorem P1 (d:InfP)(hf:InfFit d)(hok:InfOk d)(bs:List Int)(hbl:(bs.length:Int)<2 ^ 63)(hb8:∀ x∈bs,U8 x)(H:AHeap)(K:ARes->AHeap->Prop)(hK:∀ p,PolOk d p->K (.ret (ah p)) H):ae Tryz.prog G0 14 [vf d,.vec bs.length (bn bs)] H K :=
 P0 d _ (yI _ _) hf hok bs hbl hb8 H K hK
end Go.Proofs
namespace Go.Hx
open Go.Proofs.R01 (pureRun_bind)
variable {P:Program} {t e:TypeId} {x y:Operand} {k k':IntKind} {a b c d:Int}
end Go.Hx
namespace Go.Proofs
open Go.Hx
end Go.Proofs
namespace Go.Hx
variable {P:Program} {G:Nat->Option (List AVal)}
theorem RU {H:AHeap}(hc:Clo H):FzH (fun _=>False) H H where
 gone id hs:=hs.elim
 kept id b _ hb:=by
  have hbb:=hc.below id b hb;refine⟨hc.lt id b hb,b,hb,?_⟩;cases b with
  | rsv=>trivial
  | mp=>rfl
  | arr g e cells=>exact⟨rfl,rfl,rfl,fun i h _=>.dead (hbb i h)⟩
  | loop st pend n env ps asg body=>exact⟨rfl,rfl,rfl,rfl,rfl,rfl,rfl,fun t ht=>.dead (hbb t ht)⟩
 none id _ hb:=hb
theorem ae.zJ {H:AHeap}{f:FuncId}{args args':List AVal}{K:ARes->AHeap->Prop}(hG:eL G)(hl:args'.length=args.length)(hv:∀ i (h:i<args.length) (h':i<args'.length),Fz (fun _=>False) H H.next args[i] args'[i])
  (h:ae P G f args' H K):ae P G f args H K:=by
 refine⟨h.1,fun Γ w cargs R hr=>?_⟩;have F:=RU R.clo;have R0:=F.rel hG R;have E0:Evo Γ H w (eV (fun _=>False) Γ) H w:=F.bc;refine(h.2 _ w cargs R0 ⟨by have:=hr.1;omega,fun i h1 h2=>(hv i (by omega) h1).sound R F (hr.2 i (by omega) h2)⟩).mono ?_;rintro e w' ⟨r,H',Γ',h1,h2,h3,h4,h5⟩;exact⟨r,H',Γ',h1,h2,h3,E0.trans (Nat.le_refl _) h4,h5⟩
end Go.Hx
namespace Go.Proofs
open Go.Hx
end Go.Proofs
