/- Own work: contracts. -/
import Derived.Test.YtakancljiekbhaaConD
import Derived.Test.YtakancljiekbhaaConB
set_option linter.all false
set_option maxRecDepth 100000
namespace Go.Proofs
open Go.Hx
def ti (w a r n:Int):List AVal:=[.lit (.int .u8 w),.lit (.int .u8 a),.lit (.int .u8 r),.lit (.int .i64 n)]
def dv (ns:List NodeP)(a k:Nat)(pv rv:AVal):List AVal:=((fJ (ns.take k)).set (a*3+1) pv).set (a*3+2) rv
theorem Ll (ns:List NodeP)(a k:Nat)(pv rv:AVal):(dv ns a k pv rv).length=(ns.take k).length*3:=by unfold dv;rw[Py,Py,mq]
theorem Lm {ns:List NodeP}{k:Nat}{x:NodeP}(h:ns[k]?=some x)(pv rv pk rk:AVal):dv ns k k pv rv++[aa x.card,pk,rk]=dv ns k (k+1) pk rk:=by
 have hk:=get_lt h;have hl:=mq (ns.take k);have hkl:(ns.take k).length=k:=by rw[PC];omega
 unfold dv;rw[QG (l:=fJ (ns.take k)) (by omega),QG (by omega),aO h,BP,Qg _ _ (by omega),Qg _ _ (by omega),hl,hkl,show k*3+1 - k*3=1 by omega,show k*3+2 - k*3=2 by omega];rfl
theorem Ln {ns:List NodeP}{a k:Nat}{x:NodeP}(h:ns[k]?=some x)(hne:k≠a)(pv rv:AVal):dv ns a (k+1) pv rv=dv ns a k pv rv++[aa x.card,ae x.parents,bp x]:=by
 have hk:=get_lt h;have hl:=mq (ns.take k);have hkl:(ns.take k).length=k:=by rw[PC];omega
 unfold dv;rw[aO h,BP];by_cases ha:a<k
 ·rw[SS _ _ (by omega),SS _ _ (by rw[Py];omega)]
 ·rw[QG (by simp [hl];omega),QG (by simp [hl];omega),QG (l:=fJ (ns.take k)) (by omega),QG (by omega)]
def AW (ns:List NodeP)(a lo:Nat)(k:Nat)(H:AHeap)(nh:AVal):Prop :=
 ∃ pv rv,dK lo H 69 3 nh k (dv ns a k pv rv)/\pv.one=true/\rv.one=true/\(a<k->∃ x,ns[a]?=some x/\∃ ids,NodO lo H pv rv ids x)
set_option maxHeartbeats 4000000 in
theorem Lo (w a r n:Int)(hw:0<=w/\w<=255)(ha:0<=a/\a<=255)(hr:0<=r/\r<=255)(g:Int)(ns:List NodeP)(m:Nat)(hm:m<2 ^ 30)(hs:SmallN m ns)(H:AHeap)(K:ARes->AHeap->Prop)
  (hK:∀ g' ns' cs,(g',ns',cs)=gK (w % 12) (a % (ns.length:Int)).toNat r n g ns->SmallN (m+1) ns'->NodesQ (fun v=>¬ w % 12=5\/∀ x,ns[v]?=some x->x.rows=[]) ns' cs->(w % 12=0->ns'=ns)/\ns'.length<=ns.length+1->K (.ret (.agg [aa g',.vec ns'.length cs])) H):
  ab Try.prog G0 10 [.agg (ti w a r n),aG g ns] H K:=by
 refine ab.clo ⟨_,Try.func10,rfl,rfl⟩ fun hcl=>?_;refine ab.fS (n:=323) (rs:=[.cell 4 35]) Try.func10 rfl rfl rfl (by decide) (by simp) ?_;refine W.sq ?_;simp only[go_sem,ti,aG,cf];obtain⟨Hb,hHb⟩:∃ Hb,Hb=ext H [.arr 0 27 [.lit (.int .u8 w),.lit (.int .u8 a),.lit (.int .u8 r),.lit (.int .i64 n)],.arr 0 35 [.lit (.int .i64 g),.vec ns.length (aq ns)],.arr 0 35 [.lit (.int .i64 0),.lit (.slice none 0 0)]]:=⟨_,rfl⟩
 have b0:Hb.get H.next=some (.arr 0 27 [.lit (.int .u8 w),.lit (.int .u8 a),.lit (.int .u8 r),.lit (.int .i64 n)]):=by rw[hHb];exact cD ..
 have b1:Hb.get (H.next+1)=some (.arr 0 35 [.lit (.int .i64 g),.vec ns.length (aq ns)]):=by rw[hHb];exact aY H _ 1 (by simp)
 have b2:Hb.get (H.next+2)=some (.arr 0 35 [.lit (.int .i64 0),.lit (.slice none 0 0)]):=by rw[hHb];exact aY H _ 2 (by simp)
 have nb:Hb.next=H.next+3:=by rw[hHb];rfl
 have ob:Over H Hb:=by rw[hHb];exact .ext _ _
 rw[<- hHb];clear hHb;obtain⟨A,hA⟩:∃ A:Nat,A=(a % (ns.length:Int)).toNat:=⟨_,rfl⟩
 have hsl:=hs.len;refine W.en (fun E=>E 2=.ptr H.next 0 0 /\ E 3=.ptr (H.next+1) 0 0 /\ E 4=.ptr (H.next+2) 0 0) (by simp only[go_sem]) fun E ⟨e2,e3,e4⟩=>?_
 refine W.sq ?_;simp only[go_sem];refine W.tf (fun s'=>s'.ρ 2=.ptr H.next 0 0/\s'.ρ 3=.ptr (H.next+1) 0 0/\s'.ρ 4=.ptr (H.next+2) 0 0/\Hb.next<=s'.H.next/\(∀ id,id<H.next+3->s'.H.get id=Hb.get id)/\AW ns A (H.next+3) ns.length s'.H (s'.ρ 5)) ?_ ?_;rotate_left
 ·rintro⟨ρ3,Hx⟩ ⟨m2,m3,m4,nx,hold,pv,rv,hO,pv1,rv1,hNA⟩;simp only at m2 m3 m4 nx hold hO hNA;obtain⟨nh,h5⟩:∃ nh,ρ3 5=nh:=⟨_,rfl⟩
  rw[h5]at hO;have l1:=aj ((hold _ (by omega)).trans b1);have nh1:=hO.one;have nhc:=hO.cells;refine W.sq ?_;simp only[go_sem,m3,h5,l1,nh1,nhc];obtain⟨Hs,hHs⟩:∃ Hs,Hs=Hx.upd (H.next+1) (.arr 0 35 [.lit (.int .i64 g),nh]):=⟨_,rfl⟩
  rw[<- hHs];have sn:Hs.next=Hx.next:=by rw[hHs];rfl
  have so:∀ id,id≠H.next+1->Hs.get id=Hx.get id:=fun id h=>by rw[hHs,ag,Pt h]
  have g1:Hs.get (H.next+1)=some (.arr 0 35 [.lit (.int .i64 g),nh]):=by rw[hHs,ag,Pv rfl]
  have g2:Hs.get (H.next+2)=_:=(so _ (by omega)).trans ((hold _ (by omega)).trans b2);have s1:=aj g1;have s0:Hs.live H.next 0=_:=aj ((so _ (by omega)).trans ((hold _ (by omega)).trans b0));have s2:=aj g2;have sO:dK (H.next+3) Hs 69 3 nh ns.length (dv ns A ns.length pv rv):=hO.keep (by omega) fun id _ h _ _=>so id (by omega);have sold:∀ id,id<H.next->Hs.get id=H.get id:=fun id h=>by rw[so id (by omega),hold id (by omega)];exact ob.old id h
  refine W.en (fun E=>E 2=.ptr H.next 0 0 /\ E 3=.ptr (H.next+1) 0 0 /\ E 4=.ptr (H.next+2) 0 0 /\ E 5=nh) (by simp only[go_sem,m2,m3,m4,h5]) fun E ⟨t2,t3,t4,t5⟩=>?_
  clear hHs l1 hO;by_cases hn0:ns.length=0
  ·have hns:ns=[]:=PG hn0;have hlen:jL Hs nh=some (.lit (.int .i64 0)):=by
    rcases sO with ⟨z1,z2,z3⟩|⟨id,gg,z1,z2,z3,z4,z5⟩
    ·rw[z1];rfl
    ·rw[z3,hn0];unfold jL;simp [aj z5]
   refine W.vs ?_;simp only[go_sem,t3,t4,t5,s1,s2,hlen,nh1];refine av.bq (v':=.agg [aa g,.vec 0 []]) aK hcl (H2:=Hs.upd (H.next+2) _) ⟨by rw[aC];omega,fun id h=>by rw[ag,Pt (by omega)];exact sold id h⟩ (.agg rfl fun i hi _=>?_) ?_
   ·match i,hi with
    | 0,_=>exact .lit _
    | 1,_ =>
     have hO2:dK (H.next+3) (Hs.upd (H.next+2) (.arr 0 35 [.lit (.int .i64 g),nh])) 69 3 nh ns.length (dv ns A ns.length pv rv):=sO.keep (by rw[aC];omega) fun id _ h _ _=>by rw[ag,Pt (by omega)]
     have hl0:(dv ns A ns.length pv rv).length=0:=(by rw[Ll,hn0];rfl);have:=A2 (S:=fun id=>H.next<=id) (nx:=H.next) (cs':=[]) hO2 (fun i hi=>by omega) (by rw[hl0];rfl) fun i hi=>absurd hi (by omega);rw[hn0]at this;exact this
   ·have:=hK g [] [] (by rw[hns];rfl) ⟨by simp,fun x hx=>by simp at hx⟩ ⟨rfl,fun v x hx=>by simp at hx⟩ ⟨fun _=>hns.symm,by simp⟩;exact this
  have hn1:0<ns.length:=by omega
  rcases sO with ⟨_,z2,_⟩|⟨id,gg,z1,z2,z3,z4,z5⟩
  ·omega
  subst z3;have sid:=aj z5;have hn0':¬ (ns.length:Int)=0:=by omega
  refine W.sq ?_;simp only[go_sem,t5,sid,hn0'];have hAlt:A<ns.length:=by
   have:=Qq a (show (0:Int)<ns.length by omega);have:=QA a (show (ns.length:Int)≠0 by omega);omega
  have hAe:Int.tmod a ns.length=A:=by rw[PP ha.1];have:=QA a (show (ns.length:Int)≠0 by omega);omega
  obtain⟨x,hx,ids,hN0⟩:=hNA hAlt;have hN:NodO (H.next+3) Hs pv rv ids x:=hN0.keep (by omega) fun id h _=>so id (by omega);clear hN0 hNA;obtain⟨x1,x2,x3⟩:=hs.node x (Pq hx);have ecs:dv ns A ns.length pv rv=bg ns A (aa x.card) pv rv:=by unfold dv;rw[Pw (Nat.le_refl _)];exact Lr hx _ _
  obtain⟨cs0,hcs0⟩:∃ c,c=bg ns A (aa x.card) pv rv:=⟨_,rfl⟩
  rw[ecs,<- hcs0]at z4 z5 sid;have c0:=wD (ns:=ns) hAlt (aa x.card) pv rv;have c1:=AY (ns:=ns) hAlt (aa x.card) pv rv;have c2:=AZ (ns:=ns) hAlt (aa x.card) pv rv;have cl:=hJ ns A (aa x.card) pv rv;have cne:=Lq (ns:=ns) hAlt (aa x.card) pv rv;rw[<- hcs0]at c0 c1 c2 cl cne;have hA0:(A:Int)<ns.length:=by omega
  have wa:=Ps a (by omega);have wA:=Ps (A:Int) (by omega);refine W.sq ?_;simp only[go_sem,t2,t5,s0,sid,hAe,hn0',hA0,wa];refine W.sq ?_;simp only[go_sem];have rvl:jL Hs rv=some (aa x.rows.length):=by
   have hl:=hN.rows.len;rw[Px]at hl;rcases hN.rows.top with ⟨h1,h2⟩|⟨i,g',_,_,h1,h2⟩
   ·have h3:(List.zipWith (fun i n=>AVal.own i 0 0 n 1) ids ((x.rows.map ints).map List.length)).length=0:=(by rw[h2];rfl);simp [hl]at h3;rw[h1,h3];rfl
   ·rw[h1];unfold jL;simp [aj h2,hl,aa]
  refine W.en (fun E=>E 2=.ptr H.next 0 0 /\ E 3=.ptr (H.next+1) 0 0 /\ E 4=.ptr (H.next+2) 0 0 /\ E 5=.own id gg 0 ns.length 3 /\ E 10=.ptr id gg (A*3) /\ E 11=aa (-1)) (by simp only[go_sem,t2,t3,t4,t5]) fun E ⟨u2,u3,u4,u5,u10,u11⟩=>?_
  refine W.tf (fun s'=>s'.H=Hs/\s'.ρ 2=.ptr H.next 0 0/\s'.ρ 3=.ptr (H.next+1) 0 0/\s'.ρ 4=.ptr (H.next+2) 0 0/\s'.ρ 10=.ptr id gg (A*3)/\∃ R:Int,s'.ρ 11=aa R/\(x.rows=[]/\R=-1\/x.rows≠[]/\0<=R/\R<x.rows.length/\R=r % (x.rows.length:Int))) ?_ ?_
  ·refine W.sq ?_;by_cases hr0:x.rows=[]
   ·simp only[go_sem,u10,sid,c2,rvl,hr0];refine W.cond (t:=false) rfl ?_;refine W.vs ?_;simp only[go_sem];refine⟨u2,u3,u4,u10,-1,u11,?_⟩;simp [hr0]
   ·have hr1:0<x.rows.length:=QS.2 hr0;have hr2:(0:Int)<x.rows.length:=(by omega);have hr3:¬ (x.rows.length:Int)=0:=(by omega);have wr:=Ps r (by omega);have hRe:Int.tmod r x.rows.length=r % x.rows.length:=PP hr.1;have hR0:=QA r hr3;have hR1:=Qq r hr2;have wR:=Ps (r % (x.rows.length:Int)) (by omega);simp only[go_sem,u10,sid,c2,rvl,hr2];refine W.cond (t:=true) rfl ?_;refine W.draw 8 [0,1,3,0,8,24,56,120] Try.mixed (by kernel_rfl) (by kernel_rfl) ?_;simp only[go_sem,u2,u10,s0,sid,c2,rvl,hr3,wr,hRe];exact⟨u3,u4,_,rfl,.inr ⟨hr0,hR0,hR1,rfl⟩⟩
  rintro⟨ρ4,H4⟩ ⟨hH,v2,v3,v4,v10,R,v11,hR⟩;simp only at hH v2 v3 v4 v10 v11;rw[hH];clear hH;have w8:Int.tmod w 12=w % 12:=PP hw.1;obtain⟨e,he⟩:∃ e:Nat->Prop,e=fun v=>¬ w % 12=5\/∀ x,ns[v]?=some x->x.rows=[]:=⟨_,rfl⟩
  rw[<- he]at hK;obtain⟨Φ,hΦ⟩:∃ Φ:St->Prop,∀ s',Φ s'↔(s'.ρ 3=.ptr (H.next+1) 0 0/\s'.ρ 4=.ptr (H.next+2) 0 0/\∃ (g':Int) (nv:AVal) (ns':List NodeP) (cs':List AVal),Hs.next<=s'.H.next/\(∀ i,i<H.next->s'.H.get i=H.get i)/\s'.H.get (H.next+1)=some (.arr 0 35 [.lit (.int .i64 g'),nv])/\nv.one=true/\nv.cells=[nv]/\(∃ q,s'.H.get (H.next+2)=some (.arr 0 35 q)/\q.length=2)/\(∀ H3,H3.next=s'.H.next->(∀ i,i≠H.next+2->H3.get i=s'.H.get i)->Fz (fun i=>H.next<=i) H3 H.next nv (.vec ns'.length cs'))/\SmallN (m+1) ns'/\NodesQ e ns' cs'/\(w % 12=0->ns'=ns)/\ns'.length<=ns.length+1/\(g',ns',cs')=gK (w % 12) A r n g ns):=⟨_,fun _=>Iff.rfl⟩
  refine W.tf Φ ?_ ?_;rotate_left
  ·rintro⟨ρ5,H5⟩ hq5;obtain⟨f3,f4,g',nv,ns',cs',n5,o5,p5,nv1,nvc,⟨q,q5,ql⟩,hfz,hsm,hnq,hw0,hw1,hbn⟩:=(hΦ _).1 hq5;simp only at f3 f4 n5 o5 p5 q5 hfz;have l5:=aj p5;obtain⟨q0,q1,rfl⟩:∃ q0 q1,q=[q0,q1]:=by
    match q,ql with
    | [q0,q1],_=>exact⟨q0,q1,rfl⟩
   have l6:=aj q5;refine W.vs ?_;simp only[go_sem,f3,f4,l5,l6,nv1];refine av.bq (v':=.agg [aa g',.vec ns'.length cs']) aK hcl ⟨by rw[aC];omega,fun i h=>by rw[ag,Pt (by omega)];exact o5 i h⟩ (.agg rfl fun i hi _=>?_) (hK g' ns' cs' (by rw[<- hA];exact hbn) hsm hnq ⟨hw0,hw1⟩)
   match i,hi with
   | 0,_=>exact .lit _
   | 1,_=>exact hfz _ rfl fun i h=>by rw[ag,Pt h]
  refine W.sq ?_;simp only[go_sem,v2,s0,w8];obtain⟨c,hc⟩:∃ c,c=w % 12:=⟨_,rfl⟩
  have hc0:0<=c/\c<12:=by omega
  rw[<- hc];refine W.en (fun E=>E 2=.ptr H.next 0 0 /\ E 3=.ptr (H.next+1) 0 0 /\ E 4=.ptr (H.next+2) 0 0 /\ E 10=.ptr id gg (A*3) /\ E 11=aa R /\ E 101=.lit (.int .u8 c)) (by simp only[go_sem,v2,v3,v4,v10,v11]) fun E ⟨u2,u3,u4,u10,u11,u101⟩=>?_
  clear v2 v3 v4 v10 v11 t2 t3 t4 t5;refine W.block ?_;clear hK;have g2':∃ q,Hs.get (H.next+2)=some (.arr 0 35 q)/\q.length=2:=⟨_,g2,rfl⟩
  have hfin:∀ (H3:AHeap) (cc:Int) (pv' rv' pw rw:AVal),H3.get id=some (.arr gg 69 (bg ns A (aa cc) pv' rv'))->Fz (fun i=>H.next<=i) H3 H.next pv' pw->Fz (fun i=>H.next<=i) H3 H.next rv' rw->Fz (fun i=>H.next<=i) H3 H.next (.own id gg 0 ns.length 3) (.vec ns.length (bg ns A (aa cc) pw rw)):=fun H3 cc pv' rv' pw rw h1 h2 h3=>by
   refine .frz (show H.next<=id by omega) h1 (hJ ..) fun j hj h2' h'=>?_;simp only[Nat.zero_add]at h2' ⊢;exact wG h2 h3 j h2' h'
  have hgone:∀ H3:AHeap,pY (fun i=>H.next<=i) (H.next+3) H3:=fun H3 i g e c h1 _ _ _=>by show H.next<=i;omega
  have hset:ns.set A x=ns:=kX hx;have hsm0:SmallN (m+1) ns:=hs.mono (Rw m);have bN:c≠0->c≠10->c≠11->gK c A r n g ns=(g,ns.set A (de c r n g x).1,bg ns A (aa (de c r n g x).1.card) (ae (de c r n g x).1.parents) (de c r n g x).2):=fun y0 y1 y2=>by
   unfold gK;rw[hx];simp only;rw[Pt y0,Pt y1,Pt y2]
    -- the nodes as they are
  have same:∀ H3:AHeap,Hs.next<=H3.next->(∀ i,H.next+3<=i->i<Hs.next->H3.get i=Hs.get i)->Fz (fun i=>H.next<=i) H3 H.next (.own id gg 0 ns.length 3) (.vec ns.length (bg ns A (aa x.card) (ae x.parents) (bp x))):=fun H3 h1 h2=>by
   have hN3:=hN.keep (H':=H3) h1 h2;refine hfin H3 _ _ _ _ _ ?_ (hN3.pZ (hgone _)) (hN3.lW (hgone _));rw[h2 id z1 z2,z5,hcs0]
  have nq0:NodesQ e ns (bg ns A (aa x.card) (ae x.parents) (bp x)):=by
   have:=tj (e:=e) (x':=x) (rv:=bp x) hAlt (.inr rfl) fun _=>rfl;rw[hset]at this;exact this
  have noch:∀ E':Env,c≠0->c≠10->c≠11->de c r n g x=(x,bp x)->E' 3=.ptr (H.next+1) 0 0->E' 4=.ptr (H.next+2) 0 0->Φ ⟨E',Hs⟩:=fun E' y0 y1 y2 y3 h3 h4=>(hΦ _).2 ⟨h3,h4,g,.own id gg 0 ns.length 3,ns,_,Nat.le_refl _,sold,g1,rfl,rfl,g2',fun H3 h5 h6=>same H3 (by rw[h5];exact Nat.le_refl _) fun i h7 _=>h6 i (by omega),hsm0,nq0,fun _=>rfl,by omega,by rw[<- hc,bN y0 y1 y2,y3,hset]⟩;by_cases h0:c=0
  ·refine W.sq ?_;simp only[go_sem,u101,h0];refine W.cond (t:=true) rfl ?_;refine W.vs ?_;simp only[go_sem,u2,u3,s0,s1];refine(hΦ _).2 ⟨by simp only[go_sem,u3],by simp only[go_sem,u4],n,.own id gg 0 ns.length 3,ns,_,by rw[aC];exact Nat.le_refl _,fun i h=>by rw[ag,Pt (by omega)];exact sold i h,by rw[ag,Pv rfl],rfl,rfl,?_,fun H3 h5 h6=>same H3 (by rw[h5,aC];exact Nat.le_refl _) fun i h7 _=>by rw[h6 i (by omega),ag,Pt (by omega)],hsm0,nq0,fun _=>rfl,by omega,by rw[<- hc,h0];unfold gK;rw[hx];rfl⟩;obtain⟨q,hq,ql⟩:=g2';exact⟨q,by rw[ag,Pt (by omega)];exact hq,ql⟩
    -- one node set anew
  have hset1:∀ (E':Env) (H2:AHeap) (x':NodeP) (pv' rv' rw:AVal),E' 3=.ptr (H.next+1) 0 0->E' 4=.ptr (H.next+2) 0 0->Hs.next<=H2.next->(∀ i,i<H.next+3->H2.get i=Hs.get i)->H2.get id=some (.arr gg 69 (bg ns A (aa x'.card) pv' rv')) ->
    (∀ H3:AHeap,H3.next=H2.next->(∀ i,i≠H.next+2->H3.get i=H2.get i)->Fz (fun i=>H.next<=i) H3 H.next pv' (ae x'.parents)/\Fz (fun i=>H.next<=i) H3 H.next rv' rw)->(rw=ay x'.rows\/rw=bp x')->(e A->rw=bp x')->(x'.parents.length<=m+1/\x'.rows.length<=m+1/\∀ r∈x'.rows,r≠[]/\r.length<=m+1)->c≠10->c≠11->de c r n g x=(x',rw)->Φ ⟨E',H2⟩:=by
   intro E' H2 x' pv' rv' rw h3 h4 hn ho hid hfz hr he2 hsz y1 y2 y3;refine(hΦ _).2 ⟨h3,h4,g,.own id gg 0 ns.length 3,ns.set A x',bg ns A (aa x'.card) (ae x'.parents) rw,hn,fun i h=>by rw[ho i (by omega)];exact sold i h,(ho _ (by omega)).trans g1,rfl,rfl,?_,fun H3 h5 h6=>?_,hsm0.set hsz,tj hAlt hr he2,fun h=>absurd (hc.trans h) h0,by rw[Py];omega,by rw[<- hc,bN h0 y1 y2,y3]⟩
   ·obtain⟨q,hq,ql⟩:=g2';exact⟨q,(ho _ (by omega)).trans hq,ql⟩
   ·obtain⟨f1,f2⟩:=hfz H3 h5 h6;have:=hfin H3 x'.card pv' rv' _ _ ((h6 id (by omega)).trans hid) f1 f2;rw[Py];exact this
  have par3:∀ H3:AHeap,Hs.next<=H3.next->(∀ i g2 e2 c2,H.next+3<=i->i<Hs.next->Hs.get i=some (.arr g2 e2 c2)->e2≠69->H3.get i=Hs.get i)->Fz (fun i=>H.next<=i) H3 H.next pv (ae x.parents)/\Fz (fun i=>H.next<=i) H3 H.next rv (bp x):=fun H3 h1 h2=>by
   have hN3:=hN.keepE (H':=H3) h1 h2;exact⟨hN3.pZ (hgone _),hN3.lW (hgone _)⟩
  have xsz:x.parents.length<=m+1/\x.rows.length<=m+1/\∀ r∈x.rows,r≠[]/\r.length<=m+1:=⟨by omega,by omega,fun r hr=>⟨(x3 r hr).1,by have:=(x3 r hr).2;omega⟩⟩
  have nid:∀ {i g2 e2 c2},Hs.get i=some (.arr g2 e2 c2)->e2≠69->i≠id:=fun h1 h2 h3=>by
   rw[h3,z5]at h1;cases h1;exact h2 rfl
  have pne:∀ i g2 e2 c2,Hs.get i=some (.arr g2 e2 c2)->e2≠3->∀ g n,pv≠.own i g 0 n 1:=fun i g2 e2 c2 h1 h2 g n hv=>by
   rcases hN.par with ⟨h3,_⟩|⟨i3,g3,_,_,h3,h4⟩
   ·rw[h3]at hv;cases hv
   ·rw[h3]at hv;obtain rfl:=(AVal.own.inj hv).1;rw[h4]at h1;cases h1;exact h2 rfl
  have plo:∀ i,i<H.next+3->∀ g n,pv≠.own i g 0 n 1:=fun i h g n hv=>by
   rcases hN.par with ⟨h3,_⟩|⟨i3,g3,h1,_,h3,h4⟩
   ·rw[h3]at hv;cases hv
   ·rw[h3]at hv;have:=(AVal.own.inj hv).1;omega
  refine W.sq ?_;simp only[go_sem,u101,h0];refine W.cond (t:=false) rfl ?_;by_cases h1:c=1
  ·refine W.sq ?_;simp only[go_sem,u101,h1];refine W.cond (t:=true) rfl ?_;refine W.vs ?_;have c1l:A*3+1<=cs0.length:=(by omega);have e1:setAt cs0 (A*3) [.lit (.int .i64 n)]=bg ns A (aa n) pv rv:=(by rw[gO (by omega),hcs0,Lp];rfl);simp only[go_sem,u2,u10,s0,sid,c1l,e1];refine hset1 _ _ { x with card:=n } pv rv (bp x) (by simp only[go_sem,u3]) (by simp only[go_sem,u4]) (by rw[aC];exact Nat.le_refl _) (fun i h=>by rw[ag,Pt (by omega)]) (by rw[ag,Pv rfl];rfl) (fun H3 h5 h6=>?_) (.inr rfl) (fun _=>rfl) xsz (by omega) (by omega) (by rw[h1];rfl);exact par3 H3 (by rw[h5,aC];exact Nat.le_refl _) fun i g2 e2 c2 h1 _ h3 h4=>by rw[h6 i (by omega),ag,Pt (nid h3 h4)]
  refine W.sq ?_;simp only[go_sem,u101,h1];refine W.cond (t:=false) rfl ?_;by_cases h2:c=2
  ·refine W.sq ?_;simp only[go_sem,u101,h2];refine W.cond (t:=true) rfl ?_;obtain⟨pv2,H2,hA2,oP,n2,hp2⟩:=jc (P:=Try.prog) (H:=Hs) (t:=39) (x:=aa n) (n:=Hs.next+1) Try.underlying39 Try.eg Try.eX rfl (by rw[Try.fG,aS];omega) hN.par (by omega) rfl;simp only[aa]at hA2;have kid:H2.get id=_:=(hp2 _ (by omega) (pne _ _ _ _ z5 (by decide))).trans z5;have lid:=aj kid;have c1l:A*3+2<=cs0.length:=(by omega);have e1:setAt cs0 (A*3+1) [pv2]=bg ns A (aa x.card) pv2 rv:=(by rw[gO (by omega),hcs0,A0]);have pv21:=oP.one;have pv2c:=oP.cells;have fin2:∀ E':Env,E' 3=.ptr (H.next+1) 0 0->E' 4=.ptr (H.next+2) 0 0->Φ ⟨E',H2.upd id (.arr gg 69 (bg ns A (aa x.card) pv2 rv))⟩:=fun E' h3 h4=>by
    refine hset1 _ _ { x with parents:=x.parents++[n] } pv2 rv (bp x) h3 h4 (by rw[aC];omega) (fun i h=>by rw[ag,Pt (by omega)];exact hp2 i (by omega) (plo i h)) (by rw[ag,Pv rfl]) (fun H3 h5 h6=>?_) (.inr rfl) (fun _=>rfl) ⟨by simp;omega,xsz.2.1,xsz.2.2⟩ (by omega) (by omega) (by rw[h2];rfl);have k3:∀ i g2 e2 c2,H.next+3<=i->H2.get i=some (.arr g2 e2 c2)->e2≠69->H3.get i=H2.get i:=fun i g2 e2 c2 h1 h3 h4=>by
     rw[h6 i (by omega),ag,Pt];rintro rfl;rw[kid]at h3;cases h3;exact h4 rfl
    have oP3:aA (H.next+3) H3 3 pv2 (ints (x.parents++[n])):=by
     have:=oP.keep (H':=H3) (Nat.le_refl _) (by rw[h5,aC];exact Nat.le_refl _) fun i g h1 _ h3 _=>k3 i g _ _ h1 h3 (by decide);simpa [ints] using this
    have rM:=hN.rows.wC (H':=H3) (by rw[h5,aC];omega) fun i g2 e2 c2 h1 h2 h3 h4=>by
     have h7:H2.get i=Hs.get i:=hp2 i h2 fun g n hv=>by
      rcases h4 with h4|h4
      ·exact pne _ _ _ _ h3 (by rw[h4];decide) _ _ hv
      ·exact hN.dj _ _ _ hv h4
     refine(k3 i g2 e2 c2 h1 (h7.trans h3) ?_).trans h7;rcases h4 with h4|h4
     ·rw[h4];decide
     ·have:=hN.rows.elem h4;rw[h3]at this;obtain⟨_,this⟩:=this;cases this;decide
    have hN3:NodO (H.next+3) H3 (.lit (.slice none 0 0)) rv ids { x with parents:=[] }:=⟨.nil,rM,fun _ _ _ h=>(by cases h),hN.nil⟩
    exact⟨oP3.ja fun i h=>by omega,hN3.lW (hgone _)⟩
   refine W.draw 9 [0,0,2,6,14,0,32,96,254] Try.mixed (by kernel_rfl) (by kernel_rfl) ?_;rcases hN.par with ⟨hv,_⟩|⟨i3,g3,_,_,hv,h4⟩
   ·subst hv;simp only[go_sem,u2,u10,s0,sid,c1,c1l,e1,hA2,lid,pv21,pv2c];exact⟨⟨fun _ h=>by omega,fun _ h=>by omega,fun _ h=>by omega⟩,fin2 _ (by simp only[go_sem,u3]) (by simp only[go_sem,u4])⟩
   ·rw[aS]at hv;subst hv;simp only[go_sem,u2,u10,s0,sid,c1,c1l,e1,hA2,lid,pv21,pv2c];exact⟨⟨fun _ h=>by omega,fun _ h=>by omega,fun _ h=>by omega⟩,fin2 _ (by simp only[go_sem,u3]) (by simp only[go_sem,u4])⟩
  refine W.sq ?_;simp only[go_sem,u101,h2];refine W.cond (t:=false) rfl ?_;by_cases h3:c=3
  ·refine W.sq ?_;simp only[go_sem,u101,h3];refine W.cond (t:=true) rfl ?_;refine W.vs ?_;have c1l:A*3+2<=cs0.length:=(by omega);have e1:setAt cs0 (A*3+1) [.lit (.slice none 0 0)]=bg ns A (aa x.card) (.lit (.slice none 0 0)) rv:=(by rw[gO (by omega),hcs0,A0]);simp only[go_sem,u10,sid,c1l,e1];refine hset1 _ _ { x with parents:=[] } (.lit (.slice none 0 0)) rv (bp x) (by simp only[go_sem,u3]) (by simp only[go_sem,u4]) (by rw[aC];exact Nat.le_refl _) (fun i h=>by rw[ag,Pt (by omega)]) (by rw[ag,Pv rfl];rfl) (fun H3 h5 h6=>?_) (.inr rfl) (fun _=>rfl) ⟨by simp,xsz.2.1,xsz.2.2⟩ (by omega) (by omega) (by rw[h3];rfl);exact⟨.nil,(par3 H3 (by rw[h5,aC];exact Nat.le_refl _) fun i g2 e2 c2 h1 _ h3 h4=>by rw[h6 i (by omega),ag,Pt (nid h3 h4)]).2⟩
  refine W.sq ?_;simp only[go_sem,u101,h3];refine W.cond (t:=false) rfl ?_;by_cases h4:c=4
  ·refine W.sq ?_;simp only[go_sem,u101,h4];refine W.cond (t:=true) rfl ?_;obtain⟨rv2,H2,hA2,oM,n2,hp2⟩:=hN.rows.AU (P:=Try.prog) (n:=Hs.next+1+1) (t:=40) (r:=ints [n]) Try.underlying40 Try.ma Try.me Try.md (by decide) (by rw[Px];omega) (by omega) rfl;rw[aS]at hA2;simp only[ints,aa,List.map_cons,List.map_nil,List.length_cons,List.length_nil,Nat.zero_add]at hA2;have kid:H2.get id=_:=(hp2 _ (by omega) (hN.rows.ne z5 (by decide))).trans z5;have lid:=aj kid;have e1:setAt cs0 (A*3+2) [rv2]=bg ns A (aa x.card) pv rv2:=(by rw[gO (by omega),hcs0,A1]);have rv21:=oM.top.one;have rv2c:=oM.top.cells;have fin4:∀ E':Env,E' 3=.ptr (H.next+1) 0 0->E' 4=.ptr (H.next+2) 0 0->Φ ⟨E',H2.upd id (.arr gg 69 (bg ns A (aa x.card) pv rv2))⟩:=fun E' h3' h4'=>by
    have hne:({ x with rows:=x.rows++[[n]] }:NodeP).rows≠[]:=(by simp);refine hset1 _ _ { x with rows:=x.rows++[[n]] } pv rv2 (bp { x with rows:=x.rows++[[n]] }) h3' h4' (by rw[aC];omega) (fun i h=>by rw[ag,Pt (by omega)];exact hp2 i (by omega) (hN.rows.top.ne (by omega))) (by rw[ag,Pv rfl]) (fun H3 h5 h6=>?_) (.inr rfl) (fun _=>rfl) ⟨xsz.1,by simp;omega,fun r hr=>?_⟩ (by omega) (by omega) (by rw[h4];rfl)
    ·have k3:∀ i g2 e2 c2,H.next+3<=i->H2.get i=some (.arr g2 e2 c2)->e2≠69->H3.get i=H2.get i:=fun i g2 e2 c2 h1 h3 h4=>by
      rw[h6 i (by omega),ag,Pt];rintro rfl;rw[kid]at h3;cases h3;exact h4 rfl
     have oP3:=hN.par.keep (H':=H3) (Nat.le_refl _) (by rw[h5,aC];omega) fun i g h1 h2 h3 _=>by
      have h7:H2.get i=Hs.get i:=hp2 i h2 (hN.rows.ne h3 (by decide));exact(k3 i g _ _ h1 (h7.trans h3) (by decide)).trans h7
     have rM:OwnM (H.next+3) H3 39 3 rv2 (ids++[Hs.next]) ((x.rows++[[n]]).map ints):=by
      have:=oM.wC (H':=H3) (by rw[h5,aC];exact Nat.le_refl _) fun i g2 e2 c2 h1 _ h3 h4=>k3 i g2 e2 c2 h1 h3 (by
       rcases h4 with h4|h4
       ·rw[h4];decide
       ·have:=oM.elem h4;rw[h3]at this;obtain⟨_,this⟩:=this;cases this;decide)
      rw[Qj];exact this
     have hN3:NodO (H.next+3) H3 (.lit (.slice none 0 0)) rv2 (ids++[Hs.next]) { x with parents:=[],rows:=x.rows++[[n]] }:=⟨.nil,rM,fun _ _ _ h=>(by cases h),fun h=>by simp at h⟩
     exact⟨oP3.ja fun i h=>by omega,hN3.lW (hgone _)⟩
    ·rcases PK.1 hr with h|h
     ·exact xsz.2.2 r h
     ·obtain rfl:=List.mem_singleton.1 h;exact⟨by simp,by simp⟩
   refine W.draw 10 [0,0,2,6,14,0,32,96,224,510] Try.mixed (by kernel_rfl) (by kernel_rfl) ?_;have hl:ids.length=x.rows.length:=(by have:=hN.rows.len;rwa [Px]at this);rcases hN.rows.top with ⟨hv,_⟩|⟨i3,g3,_,_,hv,h4⟩
   ·subst hv;simp only[go_sem,u2,u10,s0,sid,c2,hA2,lid,rv21,rv2c,e1];exact⟨⟨fun _ h=>by omega,fun _ h=>by omega,fun _ h=>by omega⟩,⟨fun _ h=>by omega,fun _ h=>by omega,fun _ h=>by omega⟩,by omega,fin4 _ (by simp only[go_sem,u3]) (by simp only[go_sem,u4])⟩
   ·subst hv;simp only[go_sem,u2,u10,s0,sid,c2,hA2,lid,rv21,rv2c,e1];exact⟨⟨fun _ h=>by omega,fun _ h=>by omega,fun _ h=>by omega⟩,⟨fun _ h=>by omega,fun _ h=>by omega,fun _ h=>by omega⟩,by omega,fin4 _ (by simp only[go_sem,u3]) (by simp only[go_sem,u4])⟩
  refine W.sq ?_;simp only[go_sem,u101,h4];refine W.cond (t:=false) rfl ?_
    -- one row of the node
  have row:R=-1/\x.rows=[]\/∃ (Rn:Nat) (q:List Int) (idt gt:Nat) (cells:List AVal) (idr:Nat),R=(Rn:Int)/\RowAt (H.next+3) Hs rv ids x.rows Rn q idt gt cells idr/\Rn=(r % (x.rows.length:Int)).toNat:=by
   rcases hR with ⟨hR2,hR⟩|⟨_,hR0,hR1,hR3⟩
   ·exact .inl ⟨hR,hR2⟩
   ·obtain⟨Rn,rfl⟩:=PM hR0;obtain⟨q,hq⟩:=get_of_lt (l:=x.rows) (i:=Rn) (by omega);obtain⟨idt,gt,cells,idr,hra⟩:=OwnM.rowAt hN.rows hq;exact .inr ⟨Rn,q,idt,gt,cells,idr,rfl,hra,by omega⟩
  have pkeep:∀ H3:AHeap,Hs.next<=H3.next->(∀ i g,H.next+3<=i->i<Hs.next->Hs.get i=some (.arr g 3 (ints x.parents))->(∀ j,j∈ids->i≠j)->H3.get i=Hs.get i)->Fz (fun i=>H.next<=i) H3 H.next pv (ae x.parents):=fun H3 h1 h2=>by
   have:=hN.par.keep (H':=H3) (Nat.le_refl _) h1 fun i g h3 h4 h5 h6=>h2 i g h3 h4 h5 fun j hj he=>by
    subst he;exact hN.dj _ _ _ h6 hj
   exact this.ja fun i h=>by omega
  have rsz:∀ (Rn:Nat) (q q':List Int),x.rows[Rn]?=some q->q'≠[]->q'.length<=q.length+1->(x.parents.length<=m+1/\(x.rows.set Rn q').length<=m+1/\∀ r∈x.rows.set Rn q',r≠[]/\r.length<=m+1):=fun Rn q q' hq h1 h2=>⟨xsz.1,by rw[Py];exact xsz.2.1,fun r hr=>by
   rcases P3 hr with h|rfl
   ·exact xsz.2.2 r h
   ·have:=(x3 q (Pq hq)).2;exact⟨h1,by omega⟩⟩
  by_cases h5:c=5
  ·refine W.sq ?_;simp only[go_sem,u101,h5];refine W.cond (t:=true) rfl ?_;rcases row with ⟨hR1,hRN⟩|⟨Rn,q,idt,gt,cells,idr,hR1,hra,hRn⟩
   ·refine W.vs ?_;simp only[go_sem,u11,hR1];exact noch _ h0 (by omega) (by omega) (qc (by omega) hRN) (by simp only[go_sem,u3]) (by simp only[go_sem,u4])
   ·refine W.vs ?_;have hRl:=get_lt hra.q;have hrv:=hra.rv;have lt:=aj hra.top;have ltl:=hra.len;have e1:setAt cs0 (A*3+2) [.own idt gt 0 Rn 1]=bg ns A (aa x.card) pv (.own idt gt 0 Rn 1):=(by rw[gO (by omega),hcs0,A1]);simp only[go_sem,u10,u11,hR1,sid,c2,hrv,lt,e1];refine⟨by omega,by omega,?_⟩;refine hset1 _ _ { x with rows:=x.rows.take Rn } pv (.own idt gt 0 Rn 1) (ay (x.rows.take Rn)) (by simp only[go_sem,u3]) (by simp only[go_sem,u4]) (by rw[aC];exact Nat.le_refl _) (fun i h=>by rw[ag,Pt (by omega)]) (by rw[ag,Pv rfl];rfl) (fun H3 h7 h8=>?_) (.inl rfl) (fun hE=>?_) ⟨xsz.1,by simp;omega,fun r hr=>xsz.2.2 r (PW hr)⟩ (by omega) (by omega) (by rw[h5];exact Lv hra.q hRn)
    ·have hk3:∀ i g2 e2 c2,H.next+3<=i->Hs.get i=some (.arr g2 e2 c2)->e2≠69->H3.get i=Hs.get i:=fun i g2 e2 c2 h1 h3 h4=>by rw[h8 i (by omega),ag,Pt (nid h3 h4)]
     have hM3:=hN.rows.wC (H':=H3) (by rw[h7,aC];exact Nat.le_refl _) fun i g2 e2 c2 h1 _ h3 h4=>hk3 i g2 e2 c2 h1 h3 (by
      rcases h4 with h4|h4
      ·rw[h4];decide
      ·obtain⟨_,this⟩:=hN.rows.elem h4;rw[h3]at this;cases this;decide)
     exact⟨pkeep H3 (by rw[h7,aC];exact Nat.le_refl _) fun i g h1 _ h3 _=>hk3 i g _ _ h1 h3 (by decide),RowAt.Lt hra hM3 (fun i h=>by show H.next<=i;omega) ((hk3 idt _ _ _ hra.tlo.1 hra.top (by decide)).trans hra.top)⟩
    ·rw[he]at hE;rcases hE with hE|hE
     ·omega
     ·have:=hE x hx;rw[this]at hRl;simp at hRl
  refine W.sq ?_;simp only[go_sem,u101,h5];refine W.cond (t:=false) rfl ?_
    -- a row's block turned, or its handle
  have fin6:∀ (E':Env) (H2:AHeap) (Rn:Nat) (q q':List Int) (idt gt:Nat) (cells:List AVal) (idr:Nat) (wv:AVal),RowAt (H.next+3) Hs rv ids x.rows Rn q idt gt cells idr->E' 3=.ptr (H.next+1) 0 0->E' 4=.ptr (H.next+2) 0 0->q'≠[]->q'.length<=q.length+1->5<c->c≠10->c≠11->Rn=(r % (x.rows.length:Int)).toNat->q'=gJ c n g q->Hs.next<=H2.next->(∀ i,i<Hs.next->i≠idt->i≠idr->H2.get i=Hs.get i) ->
    H2.get idt=some (.arr gt 39 (cells.set Rn wv))->(∀ H3:AHeap,H3.next=H2.next->(∀ i,i≠H.next+2->H3.get i=H2.get i)->Fz (fun i=>H.next<=i) H3 H.next wv (ae q'))->Φ ⟨E',H2⟩:=by
   intro E' H2 Rn q q' idt gt cells idr wv hra h3 h4 hq1 hq2 hc5 hc10 hc11 hRn hqB hn hk ht hfz;have hRl:=get_lt hra.q;have d1:=hra.tlo;have d2:=hra.rlo;have hrne:x.rows.set Rn q'≠[]:=fun h=>by
    have:=congrArg List.length h;rw[Py]at this;simp at this;rw[this]at hRl;simp at hRl
   have hrw:bp { x with rows:=x.rows.set Rn q' }=ay (x.rows.set Rn q'):=BQ hrne;refine hset1 E' H2 { x with rows:=x.rows.set Rn q' } pv rv (ay (x.rows.set Rn q')) h3 h4 hn (fun i h=>hk i (by omega) (by omega) (by omega)) ?_ (fun H3 h7 h8=>?_) (.inl rfl) (fun _=>hrw.symm) (rsz Rn q q' hra.q hq1 hq2) hc10 hc11 (by rw[Lw hc5 hra.q hRn,hqB])
   ·rw[hk id z2 (fun h=>nid hra.top (by decide) h.symm) (fun h=>nid hra.row (by decide) h.symm),z5,hcs0]
   ·have hpk:=pkeep H3 (by rw[h7];exact hn) fun i g h1 h2 h3 h4=>by
     rw[h8 i (by omega)];refine hk i h2 (fun h=>?_) (h4 idr (Pq hra.id));rw[h,hra.top]at h3;cases h3
    refine⟨hpk,RowAt.Lu hra hN.rows (fun i h=>by show H.next<=i;omega) (by rw[h8 idt (by omega)];exact ht) (fun i hi hne=>?_) (hfz H3 h7 h8)⟩;have:=hN.rows.rng i hi;rw[h8 i (by omega)];exact hk i this.2 (fun h=>hra.nm (by rw[<- h];exact hi)) hne
  have cset:∀ {Rn:Nat} {q:List Int} {idt gt:Nat} {cells:List AVal} {idr:Nat},RowAt (H.next+3) Hs rv ids x.rows Rn q idt gt cells idr->cells.set Rn (.own idr 0 0 q.length 1)=cells:=fun hra=>kX hra.at';have fzrow:∀ {Rn:Nat} {q:List Int} {idt gt:Nat} {cells:List AVal} {idr:Nat},RowAt (H.next+3) Hs rv ids x.rows Rn q idt gt cells idr->∀ (H3:AHeap) (l:List Int),l.length=q.length->H3.get idr=some (.arr 0 3 (ints l))->Fz (fun i=>H.next<=i) H3 H.next (.own idr 0 0 q.length 1) (ae l):=fun {Rn q idt gt cells idr} hra H3 l hl hg=>by
   have:=hra.rlo;unfold ae;rw[hl];refine .frz (show H.next<=idr by omega) hg (by rw[aS,hl,Nat.mul_one]) fun j hj h2 h'=>?_;simp only[Nat.zero_add,ints,PB];exact .lit _
  by_cases h6:c=6
  ·refine W.sq ?_;simp only[go_sem,u101,h6];refine W.cond (t:=true) rfl ?_;rcases row with ⟨hR1,hRN⟩|⟨Rn,q,idt,gt,cells,idr,hR1,hra,hRn⟩
   ·refine W.sq ?_;simp only[go_sem,u11,hR1];refine W.cond (t:=false) rfl ?_;refine W.vs ?_;simp only[go_sem];exact noch _ h0 (by omega) (by omega) (qc (by omega) hRN) (by simp only[go_sem,u3]) (by simp only[go_sem,u4])
   ·have hRl:=get_lt hra.q;have hrv:=hra.rv;have lt:=aj hra.top;have lr:=aj hra.row;have ltl:=hra.len;have hat:=hra.at';have tne:=aL hat;have qe:=(x3 q (Pq hra.q)).1;have ql:0<q.length:=QS.2 qe;have qli:(0:Int)<q.length:=(by omega);have qne:¬ ints q=[]:=fun h=>by have:=congrArg List.length h;rw[aS,List.length_nil]at this;omega
    refine W.sq ?_;simp only[go_sem,u10,u11,hR1,sid,c2,hrv,lt,lr,hat,qli];refine⟨by omega,W.cond (t:=true) rfl ?_⟩;have e1:setAt (ints q) 0 [.lit (.int .i64 n)]=ints (q.set 0 n):=fL ql;refine W.draw 9 [0,1,3,7,0,31,63,0,128] Try.mixed (by kernel_rfl) (by kernel_rfl) ?_;simp only[go_sem,u2,u10,u11,hR1,s0,sid,c2,hrv,lt,lr,hat,qli];refine⟨by omega,by omega,fin6 _ _ Rn q (q.set 0 n) idt gt cells idr (.own idr 0 0 q.length 1) hra (by simp only[go_sem,u3]) (by simp only[go_sem,u4]) (fun h=>by have:=congrArg List.length h;rw[Py,List.length_nil]at this;omega) (by rw[Py];omega) (by omega) (by omega) (by omega) hRn (by rw[h6];rfl) (by rw[aC];exact Nat.le_refl _) (fun i _ _ h2=>by rw[ag,Pt h2]) (by rw[cset hra,ag,Pt hra.ne];exact hra.top) fun H3 h7 h8=>fzrow hra H3 _ (Py ..) ?_⟩;rw[h8 idr (by have:=hra.rlo;omega),ag,Pv rfl];cases q with
    | nil=>exact absurd rfl qe
    | cons a t=>rfl
  refine W.sq ?_;simp only[go_sem,u101,h6];refine W.cond (t:=false) rfl ?_;by_cases h7:c=7
  ·refine W.sq ?_;simp only[go_sem,u101,h7];refine W.cond (t:=true) rfl ?_;rcases row with ⟨hR1,hRN⟩|⟨Rn,q,idt,gt,cells,idr,hR1,hra,hRn⟩
   ·refine W.sq ?_;simp only[go_sem,u11,hR1];refine W.cond (t:=false) rfl ?_;refine W.vs ?_;simp only[go_sem];exact noch _ h0 (by omega) (by omega) (qc (by omega) hRN) (by simp only[go_sem,u3]) (by simp only[go_sem,u4])
   ·have hRl:=get_lt hra.q;have hrv:=hra.rv;have lt:=aj hra.top;have lr:=aj hra.row;have ltl:=hra.len;have hat:=hra.at';have tne:=aL hat;refine W.sq ?_;simp only[go_sem,u11,hR1];refine W.cond (t:=true) rfl ?_;have hG:aA (H.next+3) Hs 3 (.own idr 0 0 q.length 1) (ints q):=.inr ⟨idr,0,hra.rlo.1,hra.rlo.2,by rw[aS],hra.row⟩;have hq2:=(x3 q (Pq hra.q)).2;obtain⟨w2,H2,hA2,oW,n2,hp2⟩:=jc (P:=Try.prog) (H:=Hs) (t:=39) (x:=aa 0) (n:=Hs.next+1) Try.underlying39 Try.eg Try.eX rfl (by rw[Try.fG,aS];omega) hG (by omega) rfl;simp only[aa]at hA2;have k2:∀ i,i<Hs.next->i≠idr->H2.get i=Hs.get i:=fun i h1 h2=>hp2 i h1 fun g n hv=>h2 (AVal.own.inj hv).1.symm;have lt2:=aj ((k2 idt hra.tlo.2 hra.ne).trans hra.top);have w21:=oW.one;have w2c:=oW.cells;have e1:setAt cells Rn [w2]=cells.set Rn w2:=gO (by omega);refine W.draw 14 [0,1,3,7,0,0,32,96,224,0,992,2016,0,8160] Try.mixed (by kernel_rfl) (by kernel_rfl) ?_;simp only[go_sem,u10,u11,hR1,sid,c2,hrv,lt,ltl,hat,hA2,lt2,w21,w2c,e1];have dd1:=hra.tlo;have dd2:=hra.rlo;have dd3:idr≠id:=nid hra.row (by decide);refine⟨by omega,by repeat' (first|refine And.intro ?_ ?_|(intro x hx;omega)),by repeat' (first|refine And.intro ?_ ?_|(intro x hx;omega)),by omega,by omega,fin6 _ _ Rn q (q++[0]) idt gt cells idr w2 hra (by simp only[go_sem,u3]) (by simp only[go_sem,u4]) (by simp) (by simp) (by omega) (by omega) (by omega) hRn (by rw[h7];rfl) (by rw[aC];omega) (fun i h1 h2 h3=>by rw[ag,Pt h2];exact k2 i h1 h3) (by rw[ag,Pv rfl]) fun H3 h7 h8=>?_⟩;have oW3:aA (H.next+3) H3 3 w2 (ints (q++[0])):=by
     have:=oW.keep (H':=H3) (Nat.le_refl _) (by rw[h7,aC];exact Nat.le_refl _) fun i g h1 _ h3 _=>by
      rw[h8 i (by omega),ag,Pt];rintro rfl;rw[(k2 _ hra.tlo.2 hra.ne).trans hra.top]at h3;cases h3
     simpa [ints] using this
    exact oW3.ja fun i h=>by omega
  refine W.sq ?_;simp only[go_sem,u101,h7];refine W.cond (t:=false) rfl ?_;by_cases h8:c=8
  ·refine W.sq ?_;simp only[go_sem,u101,h8];refine W.cond (t:=true) rfl ?_;rcases row with ⟨hR1,hRN⟩|⟨Rn,q,idt,gt,cells,idr,hR1,hra,hRn⟩
   ·refine W.sq ?_;simp only[go_sem,u11,hR1];refine W.cond (t:=false) rfl ?_;refine W.vs ?_;simp only[go_sem];exact noch _ h0 (by omega) (by omega) (qc (by omega) hRN) (by simp only[go_sem,u3]) (by simp only[go_sem,u4])
   ·have hRl:=get_lt hra.q;have hrv:=hra.rv;have lt:=aj hra.top;have lr:=aj hra.row;have ltl:=hra.len;have hat:=hra.at';have tne:=aL hat;have qe:=(x3 q (Pq hra.q)).1;have ql:0<q.length:=QS.2 qe;have qli:(0:Int)<q.length:=(by omega);refine W.sq ?_;simp only[go_sem,u10,u11,hR1,sid,c2,hrv,lt,lr,hat,qli];refine⟨by omega,W.cond (t:=true) rfl ?_⟩;refine W.seq ?_;refine W.draw 14 [0,1,3,7,0,0,32,96,224,0,992,2016,4064,8160] Try.mixed (by kernel_rfl) (by kernel_rfl) ?_;have dd1:=hra.tlo;have dd2:=hra.rlo;have dd3:idr≠id:=nid hra.row (by decide);have dd4:idt≠id:=nid hra.top (by decide);have hq2:=(x3 q (Pq hra.q)).2;have lte:∀ L,(ext Hs L).live idt gt=_:=fun L=>(dF (by omega)).trans lt;have side:∀ L,(ext Hs L).live id gg=_:=fun L=>(dF (by omega)).trans sid;have e1:setAt cells Rn [.own Hs.next 0 0 q.length 1]=cells.set Rn (.own Hs.next 0 0 q.length 1):=gO (by omega);simp only[go_sem,u10,u11,hR1,sid,c2,hrv,lt,lr,ltl,hat,lte,e1];obtain⟨H2,hH2⟩:∃ H2,H2=(ext Hs [.arr 0 3 (List.replicate q.length (.lit (.int .i64 0)))]).upd idt (.arr gt 39 (cells.set Rn (.own Hs.next 0 0 q.length 1))):=⟨_,rfl⟩
    rw[<- hH2];have n2:H2.next=Hs.next+1:=(by rw[hH2];rfl);have k2:∀ i,i<Hs.next->i≠idt->H2.get i=Hs.get i:=fun i h1 h2=>by rw[hH2,ag,Pt h2];exact bY _ _ _ h1
    have t2:H2.get idt=some (.arr gt 39 (cells.set Rn (.own Hs.next 0 0 q.length 1))):=(by rw[hH2,ag,Pv rfl]);have r2:H2.get Hs.next=some (.arr 0 3 (List.replicate q.length (.lit (.int .i64 0)))):=(by rw[hH2,ag,Pt (by omega)];exact cD ..);clear hH2;have lt2:=aj t2;have lr2:=aj r2;have lid2:=aj ((k2 id z2 (fun h=>dd4 h.symm)).trans z5);have l12:=aj ((k2 (H.next+1) (by omega) (by omega)).trans g1);have at2:(cells.set Rn (.own Hs.next 0 0 q.length 1))[Rn]?=some (.own Hs.next 0 0 q.length 1):=PF (by omega);have tne2:=aL at2;have len2:(cells.set Rn (.own Hs.next 0 0 q.length 1)).length=x.rows.length:=(by rw[Py];exact ltl);have rne:¬ List.replicate q.length (AVal.lit (.int .i64 0))=[]:=fun h=>by have:=congrArg List.length h;rw[PZ,List.length_nil]at this;omega
    refine⟨by omega,by omega,by repeat' (first|refine And.intro ?_ ?_|(intro x hx;omega)),by omega,by omega,?_⟩;refine W.draw 9 [0,1,3,7,0,31,63,0,128] Try.mixed (by kernel_rfl) (by kernel_rfl) ?_;simp only[go_sem,u3,u10,u11,hR1,lid2,l12,c2,hrv,lt2,lr2,at2,qli];refine⟨by omega,by rw[PZ];omega,fin6 _ _ Rn q (g :: List.replicate (q.length - 1) 0) idt gt cells idr (.own Hs.next 0 0 q.length 1) hra (by simp only[go_sem,u3]) (by simp only[go_sem,u4]) (by simp) (by rw[List.length_cons,PZ];omega) (by omega) (by omega) (by omega) hRn (by rw[h8];rfl) (by rw[aC];omega) (fun i h1 h2 _=>by rw[ag,Pt (by omega)];exact k2 i h1 h2) (by rw[ag,Pt (by omega)];exact t2) fun H3 h7 h8=>?_⟩;obtain⟨ml,hml⟩:∃ ml,q.length=ml+1:=⟨q.length - 1,by omega⟩
    have hgr:H3.get Hs.next=some (.arr 0 3 (ints (g :: List.replicate ml 0))):=by
     rw[h8 Hs.next (by omega),ag,Pv rfl,hml];simp [Ry,ints,aa]
    unfold ae;rw[hml,Nat.add_sub_cancel,show (g :: List.replicate ml (0:Int)).length=ml+1 by simp];refine .frz (show H.next<=Hs.next by omega) hgr (by rw[aS];simp) fun j hj h2 h'=>?_;simp only[Nat.zero_add,ints,PB];exact .lit _
  refine W.sq ?_;simp only[go_sem,u101,h8];refine W.cond (t:=false) rfl ?_;by_cases h9:c=9
  ·refine W.sq ?_;simp only[go_sem,u101,h9];refine W.cond (t:=true) rfl ?_;rcases row with ⟨hR1,hRN⟩|⟨Rn,q,idt,gt,cells,idr,hR1,hra,hRn⟩
   ·refine W.sq ?_;simp only[go_sem,u11,hR1];refine W.cond (t:=false) rfl ?_;refine W.vs ?_;simp only[go_sem];exact noch _ h0 (by omega) (by omega) (qc (by omega) hRN) (by simp only[go_sem,u3]) (by simp only[go_sem,u4])
   ·have hRl:=get_lt hra.q;have hrv:=hra.rv;have lt:=aj hra.top;have lr:=aj hra.row;have ltl:=hra.len;have hat:=hra.at';have tne:=aL hat;have hq2:=(x3 q (Pq hra.q)).2;have w1:=Ps ((q.length:Int) - 1) (by omega);refine W.sq ?_;simp only[go_sem,u11,hR1];refine W.cond (t:=true) rfl ?_;refine W.seq ?_;refine W.draw 10 [0,1,3,7,0,31,63,127,255,0] Try.mixed (by kernel_rfl) (by kernel_rfl) ?_;simp only[go_sem,u10,u11,hR1,sid,c2,hrv,lt,lr,hat,w1];have qe:=(x3 q (Pq hra.q)).1;have ql:0<q.length:=QS.2 qe;refine⟨by omega,W.block ?_⟩;refine W.env fun E1 hE1=>?_;have y3:E1 3=.ptr (H.next+1) 0 0:=(by rw[hE1];simp only[go_sem,u3]);have y4:E1 4=.ptr (H.next+2) 0 0:=(by rw[hE1];simp only[go_sem,u4]);have y10:E1 10=.ptr id gg (A*3):=(by rw[hE1];simp only[go_sem,u10]);have y11:E1 11=aa (Rn:Int):=(by rw[hE1];simp only[go_sem,u11,hR1]);have y12:E1 12=aa 0:=(by rw[hE1];simp only[go_sem]);have y13:E1 13=aa ((q.length:Int) - 1):=(by rw[hE1];simp only[go_sem]);clear hE1;refine W.aN 2085924839766484109564043631985174802744541411009508283535333416154492349816150761370611118080 (by kernel_rfl) (fun ρ Hy=>∃ (i k:Int) (l:List Int) (fu:Nat),ρ 12=aa i/\ρ 13=aa k/\0<=i/\k<q.length/\i<=q.length/\-1<=k/\l.length=q.length/\Hy.next=Hs.next/\(∀ j,j≠idr->Hy.get j=Hs.get j)/\Hy.get idr=some (.arr 0 3 (ints l))/\hT fu i k l=hT (q.length+1) 0 ((q.length:Int) - 1) q/\k - i<fu) (fun ρ H=>(iv (ρ 13) - iv (ρ 12)+1).toNat) ?_ ?_
    ·simp only[go_sem,y12,y13];exact⟨0,_,q,q.length+1,rfl,rfl,by omega,by omega,by omega,by omega,rfl,hra.row,rfl,by omega⟩
    rintro ρ5 Hy ⟨i,k,l,fu,h12,h13,i0,k0,i1,k1,hl,ny,yo,yr,hrev,hfu⟩;refine W.env fun E2 hE2=>?_;have a3:E2 3=.ptr (H.next+1) 0 0:=(by rw[hE2];simp only[go_sem,y3]);have a4:E2 4=.ptr (H.next+2) 0 0:=(by rw[hE2];simp only[go_sem,y4]);have a10:E2 10=.ptr id gg (A*3):=(by rw[hE2];simp only[go_sem,y10]);have a11:E2 11=aa (Rn:Int):=(by rw[hE2];simp only[go_sem,y11]);have a12:E2 12=aa i:=(by rw[hE2];simp only[go_sem,h12]);have a13:E2 13=aa k:=(by rw[hE2];simp only[go_sem,h13]);clear hE2;have dd1:=hra.tlo;have dd2:=hra.rlo;have dd3:id≠idr:=fun h=>nid hra.row (by decide) h.symm;have lidy:=aj ((yo id dd3).trans z5);have lty:=aj ((yo idt hra.ne).trans hra.top);have lry:=aj yr;by_cases hik:i<k;rotate_left
    ·refine W.vs ?_;simp only[go_sem,a12,a13,hik];refine fin6 _ _ Rn q l idt gt cells idr (.own idr 0 0 q.length 1) hra (by simp only[go_sem,a3]) (by simp only[go_sem,a4]) (fun h=>by rw[h]at hl;simp at hl;omega) (by omega) (by omega) (by omega) (by omega) hRn (by rw[h9,show gJ 9 n g q=hT (q.length+1) 0 ((q.length:Int) - 1) q from rfl,<- hrev,Ly hik]) (by omega) (fun j _ _ h2=>yo j h2) (by rw[cset hra,yo idt hra.ne];exact hra.top) fun H3 h7 h8=>fzrow hra H3 l hl (by rw[h8 idr (by omega)];exact yr)
    obtain⟨iN,rfl⟩:=PM i0;obtain⟨kN,rfl⟩:=PM (show 0<=k by omega);obtain⟨qa,hqa⟩:=get_of_lt (l:=l) (i:=iN) (by omega);obtain⟨qb,hqb⟩:=get_of_lt (l:=l) (i:=kN) (by omega);have ia:(ints l)[iN]?=some (aa qa):=(by rw[fU,hqa];rfl);have ib:(ints l)[kN]?=some (aa qb):=(by rw[fU,hqb];rfl);have lne:=aL ia;have ill:(ints l).length=q.length:=(by rw[aS];exact hl);have b1':(iN:Int)<q.length:=(by omega);have b2':(kN:Int)<q.length:=(by omega);refine W.sq ?_;simp only[go_sem,a12,a13,hik];refine W.seq (W.block ?_);refine W.sq ?_;simp only[go_sem,a10,a11,a12,lidy,c2,hrv,lty,hat,lry,ia,b1'];refine⟨by omega,?_⟩;refine W.seq ?_;refine W.draw 18 [0,1,3,7,0,31,63,0,0,256,768,1792,0,7936,16128,0,65280,130816] Try.mixed (by kernel_rfl) (by kernel_rfl) ?_;have eA:setAt (ints l) iN [.lit (.int .i64 qb)]=ints (l.set iN qb):=fL (by omega);simp only[go_sem,a10,a11,a12,a13,lidy,c2,hrv,lty,hat,lry,ib,ill,b1',b2',eA];refine⟨by omega,by omega,by omega,?_⟩;obtain⟨Hz,hHz⟩:∃ Hz,Hz=Hy.upd idr (.arr 0 3 (ints (l.set iN qb))):=⟨_,rfl⟩
    rw[<- hHz];have nz:Hz.next=Hs.next:=(by rw[hHz,aC];exact ny);have zo:∀ j,j≠idr->Hz.get j=Hs.get j:=fun j h=>by rw[hHz,ag,Pt h];exact yo j h
    have zr:Hz.get idr=some (.arr 0 3 (ints (l.set iN qb))):=(by rw[hHz,ag,Pv rfl]);clear hHz;have lidz:=aj ((zo id dd3).trans z5);have ltz:=aj ((zo idt hra.ne).trans hra.top);have lrz:=aj zr;have zll:(ints (l.set iN qb)).length=q.length:=(by rw[aS,Py];exact hl);have zne:¬ ints (l.set iN qb)=[]:=fun h=>by have:=congrArg List.length h;rw[zll,List.length_nil]at this;omega
    have eB:setAt (ints (l.set iN qb)) kN [.lit (.int .i64 qa)]=ints ((l.set iN qb).set kN qa):=fL (by rw[Py];omega);have wk:=Ps ((kN:Int) - 1) (by omega);have wi:=Ps ((iN:Int)+1) (by omega);refine W.vs ?_;simp only[go_sem,a10,a11,a13,lidz,c2,hrv,ltz,hat,lrz,zll,b2',eB,wk];refine⟨by omega,by omega,?_⟩;refine W.vs ?_;simp only[go_sem,a12,a13,wi];obtain⟨fv,rfl⟩:∃ fv,fu=fv+1:=⟨fu - 1,by omega⟩
    refine⟨by rw[aC];omega,⟨(iN:Int)+1,(kN:Int) - 1,(l.set iN qb).set kN qa,fv,rfl,rfl,by omega,by omega,by omega,by omega,by rw[Py,Py];exact hl,by rw[aC];exact nz,fun j h=>by rw[ag,Pt h];exact zo j h,by rw[ag,Pv rfl],by rw[<- hrev,Lz hik hqa hqb],by omega⟩,by rw[h12,h13];simp only[aa,aW];omega⟩
  refine W.sq ?_;simp only[go_sem,u101,h9];refine W.cond (t:=false) rfl ?_;by_cases h10:c=10
  ·refine W.sq ?_;simp only[go_sem,u101,h10];refine W.cond (t:=true) rfl ?_;obtain⟨He,hHe⟩:∃ He,He=ext Hs [.arr 0 3 [.lit (.int .i64 g)],.arr 0 39 [.own Hs.next 0 0 1 1]]:=⟨_,rfl⟩
   have ne':He.next=Hs.next+2:=(by rw[hHe];rfl);have oe:Over Hs He:=(by rw[hHe];exact .ext _ _);have zO:dK (H.next+3) He 69 3 (.own id gg 0 ns.length 3) ns.length cs0:=.inr ⟨id,gg,z1,by omega,rfl,z4,(oe.old id z2).trans z5⟩;obtain⟨nh2,H2,hA2,oZ,n2,hp2⟩:=Cz (P:=Try.prog) (H:=He) (t:=33) (xs:=[.lit (.int .i64 1),.lit (.slice none 0 0),.own (Hs.next+1) 0 0 1 1]) (m:=Hs.next+3) Try.underlying33 Try.wN Try.wQ rfl rfl (by rw[Try.wO];omega) zO (by omega) (by omega);have l12:=aj ((hp2 (H.next+1) (by omega) fun g' n hv=>by have:=(AVal.own.inj hv).1;omega).trans ((oe.old _ (by omega)).trans g1));have kk:∀ i,i<He.next->i≠id->H2.get i=He.get i:=fun i h1 h2=>hp2 i h1 fun g' n hv=>h2 (AVal.own.inj hv).1.symm;have r1:He.get Hs.next=some (.arr 0 3 [.lit (.int .i64 g)]):=(by rw[hHe];exact aY Hs _ 0 (by simp));have r2:He.get (Hs.next+1)=some (.arr 0 39 [.own Hs.next 0 0 1 1]):=(by rw[hHe];exact aY Hs _ 1 (by simp));have nh1':=oZ.one;have nhc':=oZ.cells;rw[ne',hHe,i9]at hA2;simp only[List.cons_append,List.nil_append]at hA2;refine W.vs ?_;simp only[go_sem,u3,s1,hA2,l12,nh1',nhc'];refine(hΦ _).2 ⟨by simp only[go_sem,u3],by simp only[go_sem,u4],g,nh2,ns++[⟨1,[],[[g]]⟩],bg ns A (aa x.card) (ae x.parents) (bp x)++[aa 1,ae [],bp ⟨1,[],[[g]]⟩],by rw[aC];omega,fun i h=>by rw[ag,Pt (by omega),kk i (by omega) (by omega),oe.old i (by omega)];exact sold i h,by rw[ag,Pv rfl],nh1',nhc',?_,fun H3 h5 h6=>?_,⟨by have:=hs.len;simp;omega,fun y hy=>?_⟩,nq0.snoc (x:=⟨1,[],[[g]]⟩) (.inr rfl) fun _=>rfl,fun h=>absurd (hc.trans h) h0,by simp,by rw[<- hc,h10];unfold gK;rw[hx];rfl⟩
   ·obtain⟨q,hq,ql⟩:=g2';exact⟨q,by rw[ag,Pt (by omega),kk _ (by omega) (by omega),oe.old _ (by omega)];exact hq,ql⟩
   ·have hk3:∀ i,H.next+3<=i->H3.get i=H2.get i:=fun i h=>by rw[h6 i (by omega),ag,Pt (by omega)]
    have n3:H3.next=H2.next:=(by rw[h5,aC]);have oZ3:=oZ.keep (H':=H3) (by omega) fun i g h1 _ _=>hk3 i h1;have hN3:NodO (H.next+3) H3 pv rv ids x:=hN.keepE (by omega) fun i g2 e2 c2 h1 h2 h3 h4=>by rw[hk3 i h1,kk i (by omega) (nid h3 h4),oe.old i h2]
    have hl1:(ns++[(⟨1,[],[[g]]⟩:NodeP)]).length=ns.length+1:=(by simp);rw[hl1];refine A2 oZ3 (fun i h=>by show H.next<=i;omega) (by rw[hcs0];simp [hJ]) fun i hi hi'=>?_;have e1:=Pr hi;have e2:=Pr hi';generalize (cs0++[AVal.lit (.int .i64 1),.lit (.slice none 0 0),.own (Hs.next+1) 0 0 1 1])[i]=u at e1 ⊢;generalize (bg ns A (aa x.card) (ae x.parents) (bp x)++[aa 1,ae [],bp ⟨1,[],[[g]]⟩])[i]=u' at e2 ⊢;rw[hcs0]at e1;by_cases hi3:i<ns.length*3
    ·rw[PN (by rw[hJ];exact hi3)]at e1 e2;have:=wG (S:=fun i=>H.next<=i) (H:=H3) (nx:=H.next) (ns:=ns) (A:=A) (c:=x.card) (hN3.pZ (hgone _)) (hN3.lW (hgone _)) i (by rw[hJ];exact hi3) (by rw[hJ];exact hi3);rw[Pr (by rw[hJ];exact hi3)]at e1 e2;rw[Option.some.inj e1,Option.some.inj e2]at this;exact this
    ·rw[PI (by rw[hJ];omega),hJ]at e1 e2;have hil:i<ns.length*3+3:=(by rw[List.length_append,hcs0,hJ]at hi;simpa using hi);have h3:i - ns.length*3=0\/i - ns.length*3=1\/i - ns.length*3=2:=(by omega);rcases h3 with h|h|h<;>rw[h]at e1 e2<;>cases e1<;>cases e2
     ·exact .lit _
     ·exact .nil
     ·have hr1:H3.get (Hs.next+1)=_:=(hk3 _ (by omega)).trans ((kk _ (by omega) (by omega)).trans r2);have hr0:H3.get Hs.next=_:=(hk3 _ (by omega)).trans ((kk _ (by omega) (by omega)).trans r1);show Fz _ _ _ _ (ay [[g]]);refine .frz (show H.next<=Hs.next+1 by omega) hr1 rfl fun j hj h2 h'=>?_;obtain rfl:j=0:=(by omega);refine .frz (show H.next<=Hs.next by omega) hr0 rfl fun j hj h2 h'=>?_;obtain rfl:j=0:=(by omega);exact .lit _
   ·rcases PK.1 hy with hy|hy
    ·exact hsm0.node y hy
    ·obtain rfl:=List.mem_singleton.1 hy;exact⟨by simp,by simp,fun r hr=>by simp at hr;subst hr;exact⟨by simp,by simp⟩⟩
  refine W.sq ?_;simp only[go_sem,u101,h10];refine W.cond (t:=false) rfl ?_;refine W.vs ?_;have wn:=Ps ((ns.length:Int) - 1) (by omega);simp only[go_sem,u3,s1,sid,wn];refine⟨by omega,(hΦ _).2 ⟨by simp only[go_sem,u3],by simp only[go_sem,u4],g,_,ns.take (ns.length - 1),(bg ns A (aa x.card) (ae x.parents) (bp x)).take ((ns.length - 1)*3),by rw[aC];exact Nat.le_refl _,fun i h=>by rw[ag,Pt (by omega)];exact sold i h,by rw[ag,Pv rfl],rfl,rfl,?_,fun H3 h5 h6=>?_,hsm0.take _,nq0.take _,fun h=>absurd (hc.trans h) h0,by rw[PC];omega,by rw[<- hc,show c=11 by omega];unfold gK;rw[hx];rfl⟩⟩
  ·obtain⟨q,hq,ql⟩:=g2';exact⟨q,by rw[ag,Pt (by omega)];exact hq,ql⟩
  ·have hk3:∀ i,H.next+3<=i->H3.get i=Hs.get i:=fun i h=>by rw[h6 i (by omega),ag,Pt (by omega)]
   have hN3:NodO (H.next+3) H3 pv rv ids x:=hN.keep (by rw[h5,aC];exact Nat.le_refl _) fun i h1 _=>hk3 i h1;have e1:((ns.length:Int) - 1).toNat=ns.length - 1:=(by omega);have e2:(ns.take (ns.length - 1)).length=ns.length - 1:=(by rw[PC];omega);rw[e1,e2];refine .frz (show H.next<=id by omega) ((hk3 id z1).trans z5) (by rw[PC,hJ];omega) fun j hj h2 h'=>?_;have e0:0+j=j:=Nat.zero_add j;simp only[e0,hcs0,Q3];exact wG (hN3.pZ (hgone _)) (hN3.lW (hgone _)) j _ _
 refine W.sq ?_;simp only[go_sem];refine W.block ?_;refine W.en (fun E1=>E1 2=.ptr H.next 0 0 /\ E1 3=.ptr (H.next+1) 0 0 /\ E1 4=.ptr (H.next+2) 0 0 /\ E1 5=.lit (.slice none 0 0) /\ E1 6=aa 0) (by simp only[go_sem,e2,e3,e4]) fun E1 ⟨a2,a3,a4,a5,a6⟩=>?_
 refine W.aN 1180591620717411271648 (by rfl) (fun ρ Hx=>∃ (k:Nat),ρ 6=aa k/\k<=ns.length/\Hb.next<=Hx.next/\(∀ id,id<H.next+3->Hx.get id=Hb.get id)/\AW ns A (H.next+3) k Hx (ρ 5)) (fun ρ H=>ns.length - (iv (ρ 6)).toNat) ?_ ?_
 ·simp only[go_sem,a5,a6];refine⟨0,rfl,by omega,.lit (.slice none 0 0),.lit (.slice none 0 0),?_,rfl,rfl,fun h=>absurd h (PL _)⟩;have:dv ns A 0 (.lit (.slice none 0 0)) (.lit (.slice none 0 0))=[]:=rfl;rw[this];exact .nil
 rintro ρ Hx ⟨k,h6,hk,nx,hold,hC⟩;obtain⟨nh,h5⟩:∃ nh,ρ 5=nh:=⟨_,rfl⟩
 rw[h5]at hC;refine W.en (fun E2=>E2 2=.ptr H.next 0 0 /\ E2 3=.ptr (H.next+1) 0 0 /\ E2 4=.ptr (H.next+2) 0 0 /\ E2 5=nh /\ E2 6=aa k) (by simp only[go_sem,a2,a3,a4,h5,h6]) fun E2 ⟨c2,c3,c4,c5,c6⟩=>?_
 have l1:=aj ((hold _ (by omega)).trans b1);by_cases hb:(k:Int)<ns.length;rotate_left
 ·have hke:k=ns.length:=by omega
  rw[hke]at hC;refine W.vs ?_;simp only[go_sem,c2,c3,c4,c5,c6,l1,hb];exact⟨nx,hold,hC⟩
 obtain⟨x,hx⟩:=get_of_lt (l:=ns) (i:=k) (by omega);have q0:=jS hx;have q1:=kM hx;have q2:=qj hx;have qn:=fI hx;obtain⟨x1,x2,x3⟩:=hs.node x (Pq hx);refine W.sq ?_;simp only[go_sem,c3,c6,l1,hb];obtain⟨pv,rv,hO,pv1,rv1,hNA⟩:=hC;refine W.seq ?_;refine W.xC (Q':=fun e s2=>e=.normal/\s2.ρ 6=aa k/\Hx.next<=s2.H.next/\(∀ id,id<H.next+3->s2.H.get id=Hb.get id)/\(∀ i g e c,i<Hx.next->Hx.get i=some (.arr g e c)->e≠69->s2.H.get i=Hx.get i)/\∃ pk rk ids,dK (H.next+3) s2.H 69 3 (s2.ρ 5) (k+1) (dv ns A k pv rv++[aa x.card,pk,rk])/\NodO (Hx.next+1) s2.H pk rk ids x) ?_ ?_;rotate_left
 ·rintro e s2 ⟨rfl,a6',nx2,old2,kp2,pk,rk,ids,oZ,nodK⟩;have w1:=Ps ((k:Int)+1) (by omega);by_cases hkA:k=A
  ·refine⟨s2,.same,Nat.le_refl _,trivial,?_⟩;simp only[go_sem];refine W.vs ?_;simp only[go_sem,a6',w1];refine⟨by omega,⟨k+1,rfl,by omega,by omega,old2,pk,rk,?_,nodK.par.one,(tg nodK.rows).1,fun _=>⟨x,by rw[<- hkA];exact hx,ids,nodK.low (by omega)⟩⟩,by rw[h6];simp only[aa,aW];omega⟩;rw[<- hkA]at oZ ⊢;rw[Lm hx]at oZ;exact oZ
  ·rcases oZ with ⟨_,h0,_⟩|⟨id,gg,z1,z2,z3,z4,z5⟩
   ·omega
   have ec:=Ln hx hkA pv rv;have hgone:pY (fun i=>Hx.next<=i/\i≠id) (Hx.next+1) s2.H:=fun i g e c h1 h2 h3 h4=>⟨by omega,fun he=>by
    subst he;rw[z5]at h3;cases h3;exact h4 rfl⟩
   refine⟨⟨s2.ρ,s2.H.fZ Hx.next id (.arr gg 69 (dv ns A (k+1) pv rv))⟩,dh.fZ aK z5 (by rw[ec];simp) (fun hbel i hi hi'=>?_),Nat.le_refl _,trivial,?_⟩
   ·have e1:=Pr hi;have e2:=Pr hi';have hm:=hbel _ (Qe hi);generalize (dv ns A k pv rv++[aa x.card,pk,rk])[i]=u at e1 hm ⊢;generalize (dv ns A (k+1) pv rv)[i]=u' at e2 ⊢;rw[ec]at e2;by_cases hip:i<(dv ns A k pv rv).length
    ·rw[PN hip]at e1 e2;rw[e1]at e2;cases e2;exact .dead hm
    ·rw[PI (by omega)]at e1 e2;have h3:i - (dv ns A k pv rv).length=0\/i - (dv ns A k pv rv).length=1\/i - (dv ns A k pv rv).length=2:=by
      rw[List.length_append]at hi;simp at hi;omega
     rcases h3 with h|h|h<;>rw[h]at e1 e2<;>cases e1<;>cases e2
     ·exact .lit _
     ·exact nodK.pZ hgone
     ·exact nodK.lW hgone
   ·simp only[go_sem];refine W.vs ?_;simp only[go_sem,a6',w1];have hmn:(s2.H.fZ Hx.next id (.arr gg 69 (dv ns A (k+1) pv rv))).next=s2.H.next:=rfl;refine⟨by rw[hmn];omega,⟨k+1,rfl,by omega,by rw[hmn];omega,fun i hi=>?_,pv,rv,.inr ⟨id,gg,z1,by rw[hmn];exact z2,z3,by rw[ec];simpa using z4,AS⟩,pv1,rv1,fun hlt=>?_⟩,by rw[h6];simp only[aa,aW];omega⟩
    ·rw[AT (by omega) (by omega)];exact old2 i hi
    ·obtain⟨y,hy,ids',hNy⟩:=hNA (by omega);refine⟨y,hy,ids',hNy.keepE (by rw[hmn];omega) fun i g e c h1 h2 h3 h4=>?_⟩;rw[AT h2 (fun he=>by
      subst he;rw[kp2 i g e c h2 h3 h4,h3]at z5;cases z5;exact h4 rfl)]
     exact kp2 i g e c h2 h3 h4
 refine W.block ?_;refine W.sq ?_;simp only[go_sem,c3,c6,l1,hb,q0,qn];obtain⟨Hp,hHp⟩:∃ Hp,Hp=ext Hx [.arr 0 69 [.lit (.int .i64 x.card),.lit (.slice none 0 0),.lit (.slice none 0 0)]]:=⟨_,rfl⟩
 have np:Hp.next=Hx.next+1:=by rw[hHp];rfl
 have op:Over Hx Hp:=by rw[hHp];exact .ext _ _
 have gP:Hp.get Hx.next=some (.arr 0 69 [.lit (.int .i64 x.card),.lit (.slice none 0 0),.lit (.slice none 0 0)]):=by rw[hHp];exact cJ
 rw[<- hHp];clear hHp;refine W.en (fun E3=>E3 2=.ptr H.next 0 0 /\ E3 3=.ptr (H.next+1) 0 0 /\ E3 5=nh /\ E3 6=aa k /\ E3 7=.ptr Hx.next 0 0) (by simp only[go_sem,c2,c3,c5,c6]) fun E3 ⟨d2,d3,d5,d6,d7⟩=>?_
 have lP:=aj gP;have l1p:Hp.live (H.next+1) 0=_:=(op.live (by omega)).trans l1;refine W.seq ?_;refine W.draw 8 [0,1,0,4,0,28,60,124] Try.mixed (by kernel_rfl) (by kernel_rfl) ?_;simp only[go_sem,d3,d6,d7,lP,l1p,hb,q1,qn];obtain⟨pk,H2,hA2,oP,n2,hp2⟩:=pE (P:=Try.prog) (H:=Hp) (t:=39) (n:=Hp.next) (lo:=Hp.next) (src:=ints x.parents) Try.underlying39 Try.eg Try.eX (nt _) (by rw[Try.fG,aS,List.length_nil];omega) .nil (Nat.le_refl _) rfl;rw[List.nil_append]at oP;rw[aS]at hA2;have o2:Over Hp H2:=⟨n2,fun id h=>hp2 id h fun g m=>by simp⟩
 have lP2:H2.live Hx.next 0=_:=(o2.live (by omega)).trans lP;have pk1:=oP.one;have pkc:=oP.cells;simp only[go_sem,d7,hA2,lP2,pk1,pkc];obtain⟨H3,hH3⟩:∃ H3,H3=H2.upd Hx.next (.arr 0 69 [.lit (.int .i64 x.card),pk,.lit (.slice none 0 0)]):=⟨_,rfl⟩
 have n3:H3.next=H2.next:=by rw[hH3];rfl
 have h3o:∀ id,id<Hx.next->H3.get id=Hx.get id:=fun id h=>by rw[hH3,ag,Pt (by omega),o2.old id (by omega),op.old id h]
 have h3P:H3.get Hx.next=some (.arr 0 69 [.lit (.int .i64 x.card),pk,.lit (.slice none 0 0)]):=by rw[hH3,ag,Pv rfl]
 have h3N:NodO (Hx.next+1) H3 pk (.lit (.slice none 0 0)) [] ⟨x.card,x.parents,x.rows.take 0⟩:=⟨oP.keep (by omega) (by omega) fun id g h1 _ _ _=>by rw[hH3,ag,Pt (by omega)],.nil,fun _ _ _ _=>by simp,fun _=>rfl⟩
 rw[<- hH3];clear hH3 hA2 lP2 o2 hp2 oP;refine W.en (fun E4=>E4 2=.ptr H.next 0 0 /\ E4 3=.ptr (H.next+1) 0 0 /\ E4 5=nh /\ E4 6=aa k /\ E4 7=.ptr Hx.next 0 0) (by simp only[go_sem,d2,d3,d5,d6,d7]) fun E4 ⟨f2,f3,f5,f6,f7⟩=>?_
 refine W.tf (fun s'=>s'.ρ 5=nh/\s'.ρ 6=aa k/\s'.ρ 7=.ptr Hx.next 0 0/\Hx.next<s'.H.next/\(∀ id,id<Hx.next->s'.H.get id=Hx.get id)/\∃ rk ids,s'.H.get Hx.next=some (.arr 0 69 [.lit (.int .i64 x.card),pk,rk])/\NodO (Hx.next+1) s'.H pk rk ids x) ?_ ?_
 ·refine W.sq ?_;simp only[go_sem];refine W.block ?_;refine W.en (fun E5=>E5 3=.ptr (H.next+1) 0 0 /\ E5 5=nh /\ E5 6=aa k /\ E5 7=.ptr Hx.next 0 0 /\ E5 8=aa 0) (by simp only[go_sem,f3,f5,f6,f7]) fun E5 ⟨g3,g5,g6,g7,g8⟩=>?_
  refine W.aN 73786975745082393344 (by rfl) (fun ρ2 Hy=>∃ (i:Nat) (rk:AVal) (ids:List Nat),ρ2 8=aa i/\i<=x.rows.length/\H3.next<=Hy.next/\(∀ id,id<Hx.next->Hy.get id=Hx.get id)/\Hy.get Hx.next=some (.arr 0 69 [.lit (.int .i64 x.card),pk,rk])/\NodO (Hx.next+1) Hy pk rk ids ⟨x.card,x.parents,x.rows.take i⟩) (fun ρ H=>x.rows.length - (iv (ρ 8)).toNat) ?_ ?_
  ·simp only[go_sem,g8];exact⟨0,_,[],rfl,by omega,h3o,h3P,h3N⟩
  rintro ρ2 Hy ⟨i,rk,ids,h8,hi,ny,yo,yP,yN⟩;have l1y:=aj ((yo _ (by omega)).trans ((hold _ (by omega)).trans b1));have lPy:=aj yP;refine W.en (fun E6=>E6 3=.ptr (H.next+1) 0 0 /\ E6 5=nh /\ E6 6=aa k /\ E6 7=.ptr Hx.next 0 0 /\ E6 8=aa i) (by simp only[go_sem,g3,g5,g6,g7,h8]) fun E6 ⟨k3,k5,k6,k7,k8⟩=>?_
  by_cases hbi:(i:Int)<x.rows.length;rotate_left
  ·refine W.vs ?_;simp only[go_sem,k3,k5,k6,k7,k8,l1y,hb,q2,qn,ay,hbi];rw[Pw (by omega)]at yN;exact⟨by omega,yo,rk,ids,yP,yN⟩
  obtain⟨q,hq⟩:=get_of_lt (l:=x.rows) (i:=i) (by omega);obtain⟨qe,ql⟩:=x3 q (Pq hq);have ql0:0<q.length:=QS.2 qe;have hqi:(x.rows.map ae)[i]?=some (ae q):=by rw[List.getElem?_map,hq];rfl
  have hqn:=aL hq;refine W.sq ?_;simp only[go_sem,k3,k6,k8,l1y,hb,q2,qn,ay,hbi];refine W.seq (W.block ?_);refine W.sq ?_;simp only[go_sem];have yN1:x.rows.take (i+1)=x.rows.take i++[q]:=aO hq;have hA1:=Lj (P:=Try.prog) (H:=Hy) (t:=39) (n:=Hy.next) (src:=ints q) Try.underlying39 Try.eg Try.eX (by rw[aS];exact ql0) (by rw[Try.fG,aS];omega) rfl;obtain⟨rk',Hz,hA3,oM,nz,pz⟩:=yN.rows.AU (P:=Try.prog) (n:=Hy.next+1+1) (t:=40) (r:=ints q) Try.underlying40 Try.ma Try.me Try.md (by decide) (by rw[Px,PC];omega) (by omega) rfl;rw[aS]at hA1 hA3;have lPe:∀ L,(ext Hy L).live Hx.next 0=_:=fun L=>(dF (by omega)).trans lPy;have l1e:∀ L,(ext Hy L).live (H.next+1) 0=_:=fun L=>(dF (by omega)).trans l1y;obtain⟨rv1,rvc⟩:=tg oM;have lPz:Hz.live Hx.next 0=_:=aj ((pz Hx.next (by omega) (yN.rows.ne yP (by decide))).trans yP);refine W.draw 14 [0,1,0,0,8,0,56,120,248,0,1016,2040,4092,8188] Try.mixed (by kernel_rfl) (by kernel_rfl) ?_;simp only[go_sem,k3,k6,k7,k8,l1y,lPy,hb,q2,qn,ay,hbi,hqi,hqn,hA1,hA3,lPz,rv1,rvc];refine⟨⟨fun _ h=>by omega,fun _ h=>by omega⟩,⟨fun _ h=>by omega,fun _ h=>by omega⟩,?_⟩;have w1:=Ps ((i:Int)+1) (by omega);have zo:∀ id g e c,id<Hy.next->Hy.get id=some (.arr g e c)->e≠39->Hz.get id=Hy.get id:=fun id g e c h h2 h3=>pz id h (yN.rows.ne h2 h3);refine W.vs ?_;simp only[go_sem,k8,w1];refine⟨by rw[aC];omega,⟨i+1,rk',ids++[Hy.next],rfl,by omega,by rw[aC];omega,fun id h=>?_,by rw[ag,Pv rfl],?_⟩,by rw[h8];simp only[aa,aW];omega⟩
  ·rw[ag,Pt (by omega),pz id (by omega) (yN.rows.top.ne (by omega))];exact yo id h
  ·rw[yN1];have oM':OwnM (Hx.next+1) (Hz.upd Hx.next (.arr 0 69 [.lit (.int .i64 x.card),pk,rk'])) 39 3 rk' (ids++[Hy.next]) ((x.rows.take i++[q]).map ints):=by
    rw[Qj];exact oM.keep (by rw[aC];exact Nat.le_refl _) fun id h1 _=>by rw[ag,Pt (by omega)]
   refine⟨yN.par.keep (Nat.le_refl _) (by rw[aC];omega) fun id g h1 h2 h3 _=>by rw[ag,Pt (by omega)];exact zo id _ _ _ h2 h3 (by decide),oM',fun id g m hp hm=>?_,fun e=>absurd e (by simp)⟩;rcases PK.1 hm with hm|hm
   ·exact yN.dj id g m hp hm
   ·obtain rfl:=List.mem_singleton.1 hm;rcases yN.par with ⟨h1,_⟩|⟨i2,g2,_,h2,h1,_⟩
    ·rw[h1]at hp;cases hp
    ·rw[h1]at hp;have:=(AVal.own.inj hp).1;omega
 rintro⟨ρn,Hn⟩ ⟨m5,m6,m7,nN,oN,rk,ids,gN,nodN⟩;simp only at m5 m6 m7 nN oN gN nodN;have lN:=aj gN;have rk1:=(tg nodN.rows).1;have rkc:=(tg nodN.rows).2;have hOn:=hO.keep (H':=Hn) (by omega) fun id g _ h _=>oN id h;obtain⟨nh',H5,hA5,oZ,n5,p5⟩:=Cz (P:=Try.prog) (H:=Hn) (t:=33) (xs:=[.lit (.int .i64 x.card),pk,rk]) (m:=Hn.next+1) Try.underlying33 Try.wN Try.wQ (by simp only[List.all_cons,List.all_nil,pk1,rk1];rfl) rfl (by rw[Try.wO];omega) hOn (by omega) rfl;have nhe:∀ id g e c,Hn.get id=some (.arr g e c)->e≠69->∀ g m,nh≠.own id g 0 m 3:=fun id g e c h1 h2 g' m hv=>by
  rcases hOn with ⟨h,_⟩|⟨i2,g2,_,_,h,_,h4⟩
  ·rw[h]at hv;cases hv
  ·rw[h]at hv;obtain rfl:=(AVal.own.inj hv).1;rw[h4]at h1;cases h1;exact h2 rfl
 have nh1:=oZ.one;have nhc:=oZ.cells;refine W.vs ?_;simp only[go_sem,m5,m6,m7,lN,hA5];have keepE:∀ id g e c,id<Hn.next->Hn.get id=some (.arr g e c)->e≠69->H5.get id=Hn.get id:=fun id g e c h1 h2 h3=>p5 id h1 (nhe id g e c h2 h3);refine⟨by omega,fun id h=>?_,fun i g e c h1 h2 h3=>by rw[keepE i g e c (by omega) ((oN i h1).trans h2) h3,oN i h1],pk,rk,ids,oZ,nodN.keepE n5 fun id g e c _ h1 h2 h3=>keepE id g e c h1 h2 h3⟩
 ·rw[p5 id (by omega) (hOn.ne h),oN id (by omega)];exact hold id h
theorem Bi {S:Nat->Prop}{H:AHeap}{nx:Nat}{e:Nat->Prop}{ns:List NodeP}{cs:List AVal}(h:NodesQ e ns cs)(g:Int):Fz S H nx (.agg [aa g,.vec ns.length cs]) (aG g ns):=by
 refine .agg rfl fun i hi _=>?_
 match i,hi with
 | 0,_=>exact .lit _
 | 1,_=>exact .vec (by rw[h.len,hU]) fun i h1 h2=>h.N2 i h1 h2
theorem SmallN.fit {m:Nat}{ns:List NodeP}(h:SmallN m ns)(hm:m<2 ^ 37):fM ns:=⟨by have:=h.len;omega,fun x hx=>by have:=h.node x hx;exact⟨by omega,by omega,fun r hr=>by have:=(h.node x hx).2.2 r hr;omega⟩⟩
theorem kK {cs:List Int}{xs:List (List Int)}(hc:cs.length<=64)(hx:xs.length<=41)(hr:∀ r∈xs,r.length<=64):js cs xs:=⟨by omega,by omega,fun r h=>by have:=hr r h;omega⟩
theorem Mo {w a n:Int}{cs:List Int}{xs:List (List Int)}(hc:1<=cs.length/\cs.length<=64)(hx:xs.length<=41)(hr:l8 cs.length xs):js (dX w a n cs xs).1 (dX w a n cs xs).2:=by
 have r64:∀ r∈xs,r.length<=64:=fun r h=>by rw[hr r h];exact hc.2
 have g64:∀ k,(xs.getD k []).length<=64:=fun k=>by
  rw[Pz];cases h:xs[k]? with
  | none=>simp
  | some r=>exact r64 r (Pq h)
 unfold dX;split
 ·exact kK (by simp;omega) hx r64
 ·split
  ·refine kK hc.2 (by simp;omega) fun r h=>?_;rcases P3 h with h|rfl
   ·exact r64 r h
   ·rw[Py];exact g64 _
  ·split
   ·refine kK hc.2 (by simp;omega) fun r h=>?_;rcases P3 h with h|rfl
    ·exact r64 r h
    ·rw[P0];have:=g64 (a % (xs.length:Int)).toNat;omega
   ·split
    ·refine kK hc.2 (by simp;omega) fun r h=>?_;rcases PK.1 h with h|h
     ·exact r64 r h
     ·rw[Q6 h,PZ];exact hc.2
    ·split
     ·exact kK (by simp) (by simp) fun r h=>by simp at h
     ·exact kK (by simp) hx r64
def wy (ns:List NodeP)(ws ms:List Int)(w a n:Int):List (List Int × List (List Int)):=[(ar ns,gH ns ws ms),dX w a n (ar ns) (gH ns ws ms),([2,2],[[0,-1]])]
def sZ (l:List (List Int × List (List Int))):List AVal:=(l.map fun p=>[ae p.1,ay p.2]).flatten
set_option maxHeartbeats 4000000 in
theorem Lb (cN cC:List AVal)(hN:cN.length=3)(hC:cC.length=4)(hone:∀ c∈cN++cC,c.one=true)(g:Int)(ns:List NodeP)(h8:1<=ns.length/\ns.length<=8)(hc:∀ y∈ns,1<=y.card/\y.card<=4)(hsz:au (ar ns)<=1024)(ws ms:List Int)(hws:∀ x∈ws,0<=x/\x<65536)(hms:∀ x∈ms,0<=x/\x<256)
  (hwl:(ws.length:Int)<2 ^ 63) (hml:(ms.length:Int)<2 ^ 63) (w a n:Int) (hw:U8 w) (ha:U8 a) (H:AHeap) (K:ARes->AHeap->Prop) (hK:K (.ret (.agg (sZ (wy ns ws ms w a n)))) H):
  ab Try.prog G0 11 [.agg (cN++(cC++([.vec ws.length (fo ws),.vec ms.length (aU ms)]++oc w a n))),aG g ns] H K:=by
 refine ab.clo ⟨_,Try.func11,rfl,rfl⟩ fun hcl=>?_;obtain⟨x1,x2,x3,rfl⟩:∃ a b c,cN=[a,b,c]:=by
  match cN,hN with
  | [a,b,c],_=>exact⟨a,b,c,rfl⟩
 obtain⟨y1,y2,y3,y4,rfl⟩:∃ a b c d,cC=[a,b,c,d]:=by
  match cC,hC with
  | [a,b,c,d],_=>exact⟨a,b,c,d,rfl⟩
 simp only[oc,List.cons_append,List.nil_append];refine ab.aZ (n:=22) (rs:=[.cell 4 43]) Try.func11 rfl rfl rfl (by decide) (by kernel_rfl) (by simp) ?_;simp only[go_sem,aG,cf];refine az.clo (La g ns h8 hc hsz ws ms hws hms hwl hml _ _ ⟨trivial,?_⟩);obtain⟨cs,hcs⟩:∃ cs,cs=ar ns:=⟨_,rfl⟩
 obtain⟨xs,hxs⟩:∃ xs,xs=gH ns ws ms:=⟨_,rfl⟩
 have hcl2:cs.length=ns.length:=by rw[hcs,bR]
 have hxl:xs.length<=12:=by rw[hxs];unfold gH;rw[Px,QO];omega
 have hrw:l8 cs.length xs:=fun r hr=>by
  rw[hxs]at hr;unfold gH at hr;obtain⟨j,_,rfl⟩:=PQ.1 hr;unfold nU;rw[lV,kP,hcs]
 unfold wy at hK;rw[<- hcs,<- hxs]at hK ⊢;obtain⟨bc,hbc⟩:∃ bc,bc=(dX w a n cs xs).1:=⟨_,rfl⟩
 obtain⟨bx,hbx⟩:∃ bx,bx=(dX w a n cs xs).2:=⟨_,rfl⟩
 simp only[go_sem,bt,ay];obtain⟨H1,hH1⟩:∃ H1,H1=ext H [.arr 0 32 [x1,x2,x3,y1,y2,y3,y4,.vec ws.length (fo ws),.vec ms.length (aU ms),.lit (.int .u8 w),.lit (.int .u8 a),.lit (.int .i64 n)],.arr 0 35 [aa g,.vec ns.length (aq ns)],.arr 0 43 (List.replicate 6 (.lit (.slice none 0 0))),.arr 0 42 [ae cs,ay xs]]:=⟨_,rfl⟩
 have n1:H1.next=H.next+4:=by rw[hH1];rfl
 have o1:Over H H1:=by rw[hH1];exact .ext _ _
 have g0:H1.get H.next=some (.arr 0 32 [x1,x2,x3,y1,y2,y3,y4,.vec ws.length (fo ws),.vec ms.length (aU ms),.lit (.int .u8 w),.lit (.int .u8 a),.lit (.int .i64 n)]):=by rw[hH1];exact cD ..
 have g2:H1.get (H.next+2)=some (.arr 0 43 (List.replicate 6 (.lit (.slice none 0 0)))):=by rw[hH1];exact aY H _ 2 (by simp)
 have g3:H1.get (H.next+3)=some (.arr 0 42 [ae cs,ay xs]):=by rw[hH1];exact aY H _ 3 (by simp)
 refine W.en (fun E=>E 2=.ptr H.next 0 0 /\ E 4=.ptr (H.next+2) 0 0 /\ E 5=.ptr (H.next+3) 0 0) (by simp only[go_sem]) fun E ⟨e2,e4,e5⟩=>?_
 show W _ _ _ _ _ _ ⟨E,ext H [.arr 0 32 [x1,x2,x3,y1,y2,y3,y4,.vec ws.length (fo ws),.vec ms.length (aU ms),.lit (.int .u8 w),.lit (.int .u8 a),.lit (.int .i64 n)],.arr 0 35 [aa g,.vec ns.length (aq ns)],.arr 0 43 (List.replicate 6 (.lit (.slice none 0 0))),.arr 0 42 [ae cs,ay xs]]⟩;rw[<- hH1];have l0:=aj g0;have l2:=aj g2;have l3:=aj g3;refine W.draw 9 [0,0,2,0,14,0,0,64,224] Try.mixed (by kernel_rfl) (by kernel_rfl) ?_;simp only[go_sem,e2,e4,e5,l0,l3];refine⟨bt bc bx,[],cI.pure (fun H2=>Mn w a n hw ha cs xs (by omega) (by omega) hrw H2 _ ⟨by rw[hbc,hbx],rfl⟩),?_⟩;have l2E:∀ A B C,(ext (ext (ext H1 A) B) C).live (H.next+2) 0=some (43,List.replicate 6 (.lit (.slice none 0 0))):=fun A B C=>aj ((bY _ _ _ (by rw[bb,bb];omega)).trans ((bY _ _ _ (by rw[bb];omega)).trans ((bY _ _ _ (by omega)).trans g2)));have hr2:List.replicate 2 (AVal.lit (.int .i64 0))=[.lit (.int .i64 0),.lit (.int .i64 0)]:=rfl;have hs2:∀ a b c d e f:AVal,setAt [a,b,c,d] 2 [e,f]=[a,b,e,f]:=fun _ _ _ _ _ _=>rfl;have hv1:∀ l:List (List Int),(ay l).one=true:=fun _=>rfl;simp only[go_sem,e4,bt,hr2,List.drop_succ_cons,List.drop_zero,l2E,hs2,hv1]
 repeat (refine And.intro (by first|omega|(simp;done)|(simp;omega)|(intros;omega)|exact⟨rfl,by omega,by omega,nt _⟩) ?_)
 obtain⟨Ha,hHa⟩:∃ Ha,Ha=ext (ext (ext H1 [.arr 0 3 [aa 2,aa 2]]) [.arr 0 3 [aa 0,aa (-1)]]) [.arr 0 39 [.own (H1.next+1) 0 0 2 1]]:=⟨_,rfl⟩
 have na:Ha.next=H1.next+3:=by rw[hHa];rfl
 have q0:Ha.get H1.next=some (.arr 0 3 (ints [2,2])):=by rw[hHa,bY _ _ _ (by rw[bb,bb];simp;omega),bY _ _ _ (by rw[bb];simp)];exact cJ
 have q1:Ha.get (H1.next+1)=some (.arr 0 3 (ints [0,-1])):=by rw[hHa,bY _ _ _ (by rw[bb,bb];simp)];exact cJ
 have q2:Ha.get (H1.next+1+1)=some (.arr 0 39 [.own (H1.next+1) 0 0 2 1]):=by rw[hHa];exact cJ
 have qo:∀ id,id<H1.next->Ha.get id=H1.get id:=fun id h=>by rw[hHa,bY _ _ _ (by rw[bb,bb];simp;omega),bY _ _ _ (by rw[bb];simp;omega),bY _ _ _ h]
 obtain⟨bk,hbk⟩:∃ bk,bk=Blk.arr 0 43 (AVal.vec cs.length (ints cs) :: ay xs :: AVal.vec bc.length (ints bc) :: ay bx :: AVal.own H1.next 0 0 2 1 :: AVal.own (H1.next+1+1) 0 0 1 1 :: List.drop 6 (List.replicate 6 (AVal.lit (Value.slice none 0 0)))):=⟨_,rfl⟩
 show av _ _ _ _ _ ((ext (ext (ext H1 [.arr 0 3 [aa 2,aa 2]]) [.arr 0 3 [aa 0,aa (-1)]]) [.arr 0 39 [.own (H1.next+1) 0 0 2 1]]).upd (H.next+2) (Blk.arr 0 43 (AVal.vec cs.length (ints cs) :: ay xs :: AVal.vec bc.length (ints bc) :: ay bx :: AVal.own H1.next 0 0 2 1 :: AVal.own (H1.next+1+1) 0 0 1 1 :: List.drop 6 (List.replicate 6 (AVal.lit (Value.slice none 0 0))))));rw[<- hHa,<- hbk];have u:∀ id,id≠H.next+2->(Ha.upd (H.next+2) bk).get id=Ha.get id:=fun id h=>by rw[ag,Pt h]
 have in1:∀ nx,Fz (fun id=>H.next<=id) (Ha.upd (H.next+2) bk) nx (.own (H1.next+1) 0 0 2 1) (ae [0,-1]):=fun nx=>Fz.ints (by omega) ((u _ (by omega)).trans q1) rfl fun j hj=>by rw[Nat.zero_add,fU];simp only[Pr hj,Option.map_some]
 refine av.bq (v':=.agg (sZ [(cs,xs),dX w a n cs xs,([2,2],[[0,-1]])])) aK hcl ⟨by rw[aC];omega,fun id h=>by rw[u id (by omega),qo id (by omega)];exact o1.old id h⟩ ?_ hK;have ec:sZ [(cs,xs),dX w a n cs xs,([2,2],[[0,-1]])]=[ae cs,ay xs,ae bc,ay bx,ae [2,2],ay [[0,-1]]]:=by rw[hbc,hbx];rfl
 rw[ec];refine .agg rfl fun i hi _=>?_
 match i,hi with
 | 0,_=>exact .dm _
 | 1,_=>exact .ay _
 | 2,_=>exact .dm _
 | 3,_=>exact .ay _
 | 4,_=>exact Fz.ints (by omega) ((u _ (by omega)).trans q0) rfl fun j hj=>by rw[Nat.zero_add,fU];simp only[Pr hj,Option.map_some]
 | 5,_ =>
  refine .frz (cells:=[.own (H1.next+1) 0 0 2 1]) (by omega) ((u _ (by omega)).trans q2) rfl fun j hj h2 h'=>?_
  match j,hj with
  | 0,_=>exact in1 _
theorem LA {c n g:Int}{q:List Int}(hq:q≠[]):gJ c n g q≠[]/\(gJ c n g q).length<=q.length+1:=by
 have hl:0<q.length:=QS.2 hq;have:0<(gJ c n g q).length/\(gJ c n g q).length<=q.length+1:=by
  unfold gJ;split
  ·rw[Py];omega
  ·split
   ·simp
   ·split
    ·rw[List.length_cons,PZ];omega
    ·rw[Lx];omega
 exact⟨QS.1 this.1,this.2⟩
theorem LB {m:Nat}{c r n g:Int}{x:NodeP}(hx:x.parents.length<=m/\x.rows.length<=m/\∀ r∈x.rows,r≠[]/\r.length<=m):
  ((de c r n g x).1.parents.length<=m+1/\(de c r n g x).1.rows.length<=m+1/\∀ r'∈(de c r n g x).1.rows,r'≠[]/\r'.length<=m+1)/\((de c r n g x).2=ay (de c r n g x).1.rows\/(de c r n g x).2=bp (de c r n g x).1)/\((¬ c=5\/x.rows=[])->(de c r n g x).2=bp (de c r n g x).1):=by
 obtain⟨h1,h2,h3⟩:=hx;have h3':∀ r∈x.rows,r≠[]/\r.length<=m+1:=fun r hr=>⟨(h3 r hr).1,by have:=(h3 r hr).2;omega⟩
 unfold de;split
 ·exact⟨⟨by show x.parents.length<=_;omega,by show x.rows.length<=_;omega,h3'⟩,.inr rfl,fun _=>rfl⟩
 ·split
  ·exact⟨⟨by simp;omega,by show x.rows.length<=_;omega,h3'⟩,.inr rfl,fun _=>rfl⟩
  ·split
   ·exact⟨⟨by simp,by show x.rows.length<=_;omega,h3'⟩,.inr rfl,fun _=>rfl⟩
   ·split
    ·refine⟨⟨by show x.parents.length<=_;omega,by simp;omega,fun r hr=>?_⟩,.inr rfl,fun _=>rfl⟩;rcases PK.1 hr with h|h
     ·exact h3' r h
     ·obtain rfl:=List.mem_singleton.1 h;exact⟨by simp,by simp⟩
    ·split
     ·exact⟨⟨by show x.parents.length<=_;omega,by show x.rows.length<=_;omega,h3'⟩,.inr rfl,fun _=>rfl⟩
     ·rename_i q hq;have hql:=get_lt hq;split
      ·rename_i c5;refine⟨⟨by show x.parents.length<=_;omega,by simp;omega,fun r hr=>h3' r (PW hr)⟩,.inl rfl,fun h=>?_⟩;rcases h with h|h
       ·exact absurd c5 h
       ·rw[h]at hql;simp at hql
      ·have hq2:=h3 q (Pq hq);have hrb:=LA (c:=c) (n:=n) (g:=g) hq2.1;have hne:x.rows.set (r % (x.rows.length:Int)).toNat (gJ c n g q)≠[]:=fun h=>by
        have:=congrArg List.length h;rw[Py]at this;simp at this;rw[this]at hql;simp at hql
       refine⟨⟨by show x.parents.length<=_;omega,by show (x.rows.set _ _).length<=_;rw[Py];omega,fun r' hr=>?_⟩,.inl rfl,fun _=>(BQ (x:={ x with rows:=x.rows.set (r % (x.rows.length:Int)).toNat (gJ c n g q) }) hne).symm⟩;rcases P3 hr with h|rfl
       ·exact h3' r' h
       ·exact⟨hrb.1,by omega⟩
theorem LC {ns:List NodeP}{A:Nat}{x:NodeP}(hx:ns[A]?=some x)(e:Nat->Prop):NodesQ e ns (bg ns A (aa x.card) (ae x.parents) (bp x)):=by
 have:=tj (e:=e) (x':=x) (rv:=bp x) (get_lt hx) (.inr rfl) fun _=>rfl;rw[kX hx]at this;exact this
theorem LD {m A:Nat}{c r n g:Int}{ns:List NodeP}(hs:SmallN m ns):SmallN (m+1) (gK c A r n g ns).2.1/\NodesQ (fun v=>¬ c=5\/∀ x,ns[v]?=some x->x.rows=[]) (gK c A r n g ns).2.1 (gK c A r n g ns).2.2/\(gK c A r n g ns).2.1.length<=ns.length+1:=by
 have hs1:=hs.mono (Rw m);unfold gK;split
 ·exact⟨⟨by simp,fun x hx=>by simp at hx⟩,⟨rfl,fun v x hx=>by simp at hx⟩,by simp⟩
 ·rename_i x hx;have hA:=get_lt hx;have hxm:=hs.node x (Pq hx);have nq:=LC hx (fun v=>¬ c=5\/∀ x,ns[v]?=some x->x.rows=[]);split
  ·exact⟨hs1,nq,Rw _⟩
  ·split
   ·refine⟨⟨by have:=hs.len;simp;omega,fun y hy=>?_⟩,nq.snoc (x:=⟨1,[],[[g]]⟩) (.inr rfl) fun _=>rfl,by simp⟩;rcases PK.1 hy with hy|hy
    ·exact hs1.node y hy
    ·obtain rfl:=List.mem_singleton.1 hy;exact⟨by simp,by simp,fun r hr=>by simp at hr;subst hr;exact⟨by simp,by simp⟩⟩
   ·split
    ·exact⟨hs1.take _,nq.take _,by simp;omega⟩
    ·obtain⟨b1,b2,b3⟩:=LB (c:=c) (r:=r) (n:=n) (g:=g) hxm;refine⟨hs1.set b1,tj hA b2 fun he=>b3 ?_,by rw[Py];exact Rw _⟩;rcases he with he|he
     ·exact .inl he
     ·exact .inr (he x hx)
end Go.Proofs
