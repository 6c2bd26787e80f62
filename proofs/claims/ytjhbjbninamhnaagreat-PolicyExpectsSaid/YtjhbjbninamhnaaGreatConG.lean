/- Own work: contracts. -/
import Derived.Test.YtjhbjbninamhnaaGreatConF
import Derived.Test.YtjhbjbninamhnaaGreatConE
import Derived.Test.YtjhbjbninamhnaaGreatConB
set_option linter.all false
set_option maxRecDepth 100000
namespace Go.Proofs
open Go.Hx
variable {P:Program}
theorem Cu (w a r n:Int)(hw:0<=w/\w<=255)(ha:0<=a/\a<=255)(hr:0<=r/\r<=255)(g:Int)(ns:List NodeP)(cs:List AVal){e:Nat->Prop}(hq:NodesQ e ns cs)(m:Nat)(hm:m<2 ^ 30)(hs:SmallN m ns)(H:AHeap)(K:ARes->AHeap->Prop)
  (hK:∀ g' ns' cs,(g',ns',cs)=dV (w % 12) (a % (ns.length:Int)).toNat r n g ns->SmallN (m+1) ns'->NodesQ (fun v=>¬ w % 12=5\/∀ x,ns[v]?=some x->x.rows=[]) ns' cs->(w % 12=0->ns'=ns)/\ns'.length<=ns.length+1->K (.ret (.agg [aa g',.vec ns'.length cs])) H):
  ae Tryz.prog G0 50 [.agg (jK w a r n),.agg [aa g,.vec ns.length cs]] H K:=by
 refine ae.zJ aS (args':=[.agg (jK w a r n),bJ g ns]) rfl (fun i h h'=>?_) (M8 w a r n hw ha hr g ns m hm hs H K hK)
 match i,h with
 | 0,_ =>
  refine .agg rfl fun j hj _=>?_
  match j,hj with
  | 0,_=>exact .lit _
  | 1,_=>exact .lit _
  | 2,_=>exact .lit _
  | 3,_=>exact .lit _
 | 1,_ =>
  refine .agg rfl fun j hj _=>?_
  match j,hj with
  | 0,_=>exact .lit _
  | 1,_=>exact .vec (by rw[hq.len,gT]) fun i h h'=>hq.uQ i h h'
theorem NodesQ.Cv {e:Nat->Prop}{ns:List NodeP}{cs:List AVal}(h:NodesQ e ns cs){S:Nat->Prop}{H:AHeap}{nx:Nat}(i:Nat)(h1:i<cs.length):Fz S H nx cs[i] cs[i]:=by
 have hb:i / 3<ns.length:=by rw[h.len]at h1;omega
 obtain⟨x,hx⟩:=get_of_lt hb;obtain⟨rv,a,b,c,d,_⟩:=h.node _ x hx;have hp:i=(i / 3)*3+i % 3:=by omega
 have g1:cs[i]?=some cs[i]:=SN h1;generalize cs[i]=u at g1 ⊢;have c3:i % 3=0\/i % 3=1\/i % 3=2:=by omega
 rcases c3 with c0|c0|c0
 ·rw[hp,c0,Nat.add_zero,a]at g1;cases g1;exact .lit _
 ·rw[hp,c0,b]at g1;cases g1;exact .dq _
 ·rw[hp,c0,c]at g1;cases g1;rcases d with d|d<;>rw[d]
  ·exact .ah _
  ·exact C3 x
structure UtilsS (m:Nat)(us:List UtilP):Prop where
 len:us.length<=m
 util:∀ u∈us,u.vars.length<=m/\u.w.length<=m
def rD (w:Int)(b:List AVal)(n:Int):List AVal:=.lit (.int .u8 w) :: b++[.lit (.int .i64 n)]
def cf (us:List UtilP)(k:Nat)(pv wv:AVal):List AVal:=((aR (us.take k)).set 0 pv).set 1 wv
theorem uC (us:List UtilP)(k:Nat)(pv wv:AVal):(cf us k pv wv).length=(us.take k).length*2:=by unfold cf;rw[SU,SU,kD]
theorem Nl (l:List UtilP)(u:UtilP):aR (l++[u])=aR l++[af u.vars,af u.w]:=by unfold aR;simp [UtilP.cells]
theorem Nm {us:List UtilP}{k:Nat}{u:UtilP}(h:us[k]?=some u)(h0:0<k)(pv wv:AVal):cf us (k+1) pv wv=cf us k pv wv++[af u.vars,af u.w]:=by
 have hl:=kD (us.take k);have hkl:(us.take k).length=k:=by rw[SX];have:=get_lt h;omega
 unfold cf;rw[aO h,Nl,UQ _ _ (by omega),UQ _ _ (by rw[SU];omega)]
theorem Nn {us:List UtilP}{u:UtilP}(h:us[0]?=some u)(pv wv:AVal):cf us 1 pv wv=[pv,wv]:=by
 unfold cf;rw[aO h];rfl
theorem Cw (us:List UtilP)(pv wv:AVal):cf us 0 pv wv=[]:=rfl
def uD (us:List UtilP)(lo k:Nat)(H:AHeap)(uh:AVal):Prop :=
 ∃ pv wv,bY lo H 82 2 uh k (cf us k pv wv)/\(0<k->∃ u,us[0]?=some u/\aA lo H 3 pv (ints u.vars)/\aA lo H 3 wv (ints u.w)/\∀ i g n g' n',pv=.own i g 0 n 1->wv≠.own i g' 0 n' 1)
def rE (H:AHeap)(i:Nat):Nat:=match H.get i with
 | some (.arr _ _ [_,_,_,.own _ _ _ l _])=>l
 | _=>0
theorem Cx {us:List UtilP}{k lo:Nat}{u:UtilP}(hu0:us[k]?=some u){Hx:AHeap}(hlo:lo<=Hx.next){pv wv:AVal}(hPW:0<k->∃ u,us[0]?=some u/\aA lo Hx 3 pv (ints u.vars)/\aA lo Hx 3 wv (ints u.w)/\∀ i g n g' n',pv=.own i g 0 n 1->wv≠.own i g' 0 n' 1)
  {s2:St} (nx2:Hx.next<=s2.H.next) (kp2:∀ i g e c,lo<=i->i<Hx.next->Hx.get i=some (.arr g e c)->e≠82->s2.H.get i=Hx.get i) {uh2 pk wk:AVal} (oZ:bY lo s2.H 82 2 uh2 (k+1) (cf us k pv wv++[pk,wk])) (oP:aA Hx.next s2.H 3 pk (ints u.vars)) (oW:aA Hx.next s2.H 3 wk (ints u.w))
  (hpw:∀ i g n g' n',pk=.own i g 0 n 1->wk≠.own i g' 0 n' 1):∃ H3,cV P G0 s2 ⟨s2.ρ,H3⟩/\H3.next=s2.H.next/\(∀ i,i<lo->H3.get i=s2.H.get i)/\uD us lo (k+1) H3 uh2:=by
 rcases T2 k with hk0|hk0
 ·refine⟨s2.H,.same,rfl,fun _ _=>rfl,pk,wk,?_,fun _=>⟨u,by rw[<- hk0];exact hu0,oP.keep hlo (Nat.le_refl _) fun _ _ _ _ _ _=>rfl,oW.keep hlo (Nat.le_refl _) fun _ _ _ _ _ _=>rfl,hpw⟩⟩;subst hk0;rw[Cw,List.nil_append]at oZ;rw[Nn hu0];exact oZ
 ·have ec:=Nm hu0 hk0 pv wv;rcases oZ with ⟨_,h0,_⟩|⟨id,gg,z1,z2,z3,z4,z5⟩
  ·omega
  have hgone:∀ {v:AVal} {l:List Int},aA Hx.next s2.H 3 v (ints l)->Fz (fun i=>Hx.next<=i/\i≠id) s2.H s2.H.next v (af l):=fun {v l} hv=>by
   have:=uz (S:=fun i=>Hx.next<=i/\i≠id) (nx:=s2.H.next) (cs':=ints l) hv (fun i g h1 _ h3=>⟨h1,fun he=>by
    subst he;rw[z5]at h3;cases h3⟩) rfl fun i hi _=>by simp only[ints,S4];exact .lit _
   rw[aP]at this;exact this
  obtain⟨pn,hpn⟩:∃ Hm,Hm=s2.H.gf Hx.next id (.arr gg 82 (cf us (k+1) pv wv)):=⟨_,rfl⟩
  have hmn:pn.next=s2.H.next:=by rw[hpn];rfl
  have hlow:∀ i,i<Hx.next->i≠id->pn.get i=s2.H.get i:=fun i h1 h2=>by rw[hpn];exact yp h1 h2
  refine⟨pn,?_,hmn,fun i h=>hlow i (by omega) (by omega),pv,wv,.inr ⟨id,gg,z1,by omega,z3,by rw[ec];simpa using z4,by rw[hpn];exact ym⟩,fun _=>?_⟩
  ·rw[hpn];refine cV.gf aS z5 (by rw[ec];simp) (fun hbel i hi hi'=>?_);have e1:=SN hi;have e2:=SN hi';have hm:=hbel _ (Tt hi);generalize (cf us k pv wv++[pk,wk])[i]=u1 at e1 hm ⊢;generalize (cf us (k+1) pv wv)[i]=u2 at e2 ⊢;rw[ec]at e2;by_cases hip:i<(cf us k pv wv).length
   ·rw[SW hip]at e1 e2;rw[e1]at e2;cases e2;exact .dead hm
   ·rw[S5 (by omega)]at e1 e2;have h3:i - (cf us k pv wv).length=0\/i - (cf us k pv wv).length=1:=by
     rw[List.length_append]at hi;simp at hi;omega
    rcases h3 with h|h<;>rw[h]at e1 e2<;>cases e1<;>cases e2
    ·exact hgone oP
    ·exact hgone oW
  ·obtain⟨u0,h0,hP,hW,hn⟩:=hPW hk0;have hkp:∀ i g c,lo<=i->i<Hx.next->Hx.get i=some (.arr g 3 c)->pn.get i=Hx.get i:=fun i g c h1 h2 h3=>by
    have h4:=kp2 i g _ _ h1 h2 h3 (by decide);rw[hlow i h2 (fun he=>by
     subst he;rw[h4,h3]at z5;cases z5)]
    exact h4
   exact⟨u0,h0,hP.keep (Nat.le_refl _) (by omega) fun i g h1 h2 h3 _=>hkp i g _ h1 h2 h3,hW.keep (Nat.le_refl _) (by omega) fun i g h1 h2 h3 _=>hkp i g _ h1 h2 h3,hn⟩
theorem No {us:List UtilP}(h:0<us.length)(u':UtilP):aR (us.set 0 u')=((aR us).set 0 (af u'.vars)).set 1 (af u'.w):=by
 cases us with
 | nil=>exact absurd h (UN _)
 | cons u us=>rfl
theorem uE {us:List UtilP}{lo nx:Nat}{H:AHeap}{S:Nat->Prop}{uh pv wv:AVal}{us':List UtilP}(hO:bY lo H 82 2 uh us.length (cf us us.length pv wv))(hS:∀ i,lo<=i->S i)(h0:us=[]->us'=[])
  (hP:0<us.length->∃ u',us'=us.set 0 u'/\Fz S H nx pv (af u'.vars)/\Fz S H nx wv (af u'.w)):Fz S H nx uh (.vec us'.length (aR us')):=by
 rcases T2 us.length with hl|hl
 ·have e0:us=[]:=SY hl;subst e0;rw[h0 rfl];exact uB hO hS rfl fun i h=>absurd h (by rw[uC];simp)
 ·obtain⟨u',rfl,hp,hw⟩:=hP hl;rw[SU,No hl];refine uB hO hS (by rw[uC];simp [kD]) fun i h h'=>?_;unfold cf at h ⊢;simp only[TP,UD];by_cases h1:1=i
  ·rw[SQ h1,SQ h1];exact hw
  ·rw[SO h1,SO h1];by_cases h2:0=i
   ·rw[SQ h2,SQ h2];exact hp
   ·rw[SO h2,SO h2];have hil:i<(aR us).length:=(by simpa using h');have:∀ c∈aR us,Fz S H nx c c:=fun c hc=>by
     unfold aR at hc;obtain⟨r,hr,hc⟩:=UT.1 hc;obtain⟨x,_,rfl⟩:=S9.1 hr;unfold UtilP.cells at hc;simp only[List.mem_cons,List.not_mem_nil,or_false]at hc;rcases hc with rfl|rfl<;>exact .dq _
    exact this _ (Tt _)
def pF (c a n:Int)(us:List UtilP):List UtilP:=match us[0]? with
 | none=>List.replicate 5 ⟨[],[1]⟩
 | some u=>if c=5 then us.set 0 ⟨u.vars++[n],u.w⟩ else if c=6/\0<u.w.length then us.set 0 ⟨u.vars,u.w.set (a % (u.w.length:Int)).toNat n⟩ else (us++List.replicate 5 (⟨[],[1]⟩:UtilP)).take (max us.length 5)
def gR (w w5 a r n5 n:Int)(d:InfP):InfP × List AVal :=
 if w % 8<4 then (⟨(dV (w5 % 12) (a % (d.nodes.length:Int)).toNat r n5 d.grain d.nodes).1,(dV (w5 % 12) (a % (d.nodes.length:Int)).toNat r n5 d.grain d.nodes).2.1,d.decs,d.utils⟩,(dV (w5 % 12) (a % (d.nodes.length:Int)).toNat r n5 d.grain d.nodes).2.2)
 else (⟨d.grain,d.nodes,if w % 8=4 then d.decs ^^^ (n % 18446744073709551616).toNat else d.decs,if w % 8=4 then d.utils else pF (w % 8) a n d.utils⟩,(dV 0 0 0 d.grain d.grain d.nodes).2.2)
theorem Np (g:Int)(ns:List NodeP):(dV 0 0 0 g g ns).1=g:=by
 unfold dV;split
 ·rfl
 ·rfl
set_option maxHeartbeats 4000000 in
theorem Nq (w w5 a r n5 n:Int)(hw:0<=w/\w<=255)(hw5:0<=w5/\w5<=255)(ha:0<=a/\a<=255)(hr:0<=r/\r<=255)(d:InfP)(cs0:List AVal){e0:Nat->Prop}(hq:NodesQ e0 d.nodes cs0)(m:Nat)(hm:m<2 ^ 29)(hs:SmallN m d.nodes)(hu:UtilsS m d.utils)(hd:d.decs<2 ^ 64)
  (hdec:∀ v x,d.nodes[v]?=some x->d.decs.testBit v=true->x.rows=[]) (H:AHeap) (K:ARes->AHeap->Prop)
  (hK:∀ y cs,(y,cs)=gR w w5 a r n5 n d->InfFit y->NodesQ (fun v=>y.decs.testBit v=true) y.nodes cs->y.nodes.length<=d.nodes.length+1->K (.ret (dL y cs)) H):
  ae Tryz.prog G0 13 [.agg (rD w (jK w5 a r n5) n),dL d cs0] H K:=by
 refine ae.clo ⟨_,Tryz.func13,rfl,rfl⟩ fun hcl=>?_;refine ae.jD (n:=153) (rs:=[.cell 4 38]) Tryz.func13 rfl rfl rfl (by decide) (by simp) ?_;refine W.sq ?_;simp only[go_sem,rD,jK,iP,gV];obtain⟨Hb,hHb⟩:∃ Hb,Hb=ext H [.arr 0 32 [.lit (.int .u8 w),.lit (.int .u8 w5),.lit (.int .u8 a),.lit (.int .u8 r),.lit (.int .i64 n5),.lit (.int .i64 n)],.arr 0 38 [.lit (.int .i64 d.grain),.vec d.nodes.length cs0,.lit (.int .u64 (d.decs:Int)),.vec d.utils.length (aR d.utils)],.arr 0 38 [.lit (.int .i64 0),.lit (.slice none 0 0),.lit (.int .u64 0),.lit (.slice none 0 0)]]:=⟨_,rfl⟩
 have b0:Hb.get H.next=some (.arr 0 32 [.lit (.int .u8 w),.lit (.int .u8 w5),.lit (.int .u8 a),.lit (.int .u8 r),.lit (.int .i64 n5),.lit (.int .i64 n)]):=by rw[hHb];exact bQ ..
 have b1:Hb.get (H.next+1)=some (.arr 0 38 [.lit (.int .i64 d.grain),.vec d.nodes.length cs0,.lit (.int .u64 (d.decs:Int)),.vec d.utils.length (aR d.utils)]):=by rw[hHb];exact bB H _ 1 (by simp)
 have b2:Hb.get (H.next+2)=some (.arr 0 38 [.lit (.int .i64 0),.lit (.slice none 0 0),.lit (.int .u64 0),.lit (.slice none 0 0)]):=by rw[hHb];exact bB H _ 2 (by simp)
 have nb:Hb.next=H.next+3:=by rw[hHb];rfl
 have ob:Over H Hb:=by rw[hHb];exact .ext _ _
 rw[<- hHb];clear hHb;have l0:=ag b0;have l1:=ag b1;refine W.en (fun E=>E 2=.ptr H.next 0 0 /\ E 3=.ptr (H.next+1) 0 0 /\ E 4=.ptr (H.next+2) 0 0) (by simp only[go_sem]) fun E ⟨e2,e3,e4⟩=>?_
 refine W.sq ?_;simp only[go_sem,e3,l1];obtain⟨Hc,hHc⟩:∃ Hc,Hc=ext Hb [.arr 0 38 [.lit (.int .i64 d.grain),.lit (.slice none 0 0),.lit (.int .u64 (d.decs:Int)),.lit (.slice none 0 0)]]:=⟨_,rfl⟩
 have oc:Over Hb Hc:=by rw[hHc];exact .ext _ _
 have nc:Hc.next=H.next+4:=by rw[hHc,bI];simp;omega
 have c3:Hc.get (H.next+3)=some (.arr 0 38 [.lit (.int .i64 d.grain),.lit (.slice none 0 0),.lit (.int .u64 (d.decs:Int)),.lit (.slice none 0 0)]):=by rw[hHc,<- nb];exact bT
 rw[<- hHc];clear hHc;have m1:Hc.live (H.next+1) 0=_:=(oc.live (by omega)).trans l1;refine W.sq ?_;simp only[go_sem,e3,m1];refine aB.clo (Cu 0 0 0 d.grain ⟨by omega,by omega⟩ ⟨by omega,by omega⟩ ⟨by omega,by omega⟩ d.grain d.nodes cs0 hq m (by omega) hs _ _ fun g1 ns1 cs1 hB1 hs1 hq1 h01=>⟨trivial,?_⟩);obtain rfl:ns1=d.nodes:=h01.1 rfl;have hqT:NodesQ (fun _=>True) d.nodes cs1:=hq1.mono fun _ _=>.inl (by decide);rw[show ((0:Int) % (d.nodes.length:Int)).toNat=0 by simp,show (0:Int) % 12=0 from rfl]at hB1;obtain rfl:g1=d.grain:=by have:=congrArg (·.1) hB1;simp only at this;rw[this];exact Np _ _
 have hcs1:cs1=(dV 0 0 0 d.grain d.grain d.nodes).2.2:=by rw[<- hB1]
 clear hq1 h01 hs1 hq hB1;simp only[go_sem];obtain⟨Hd,hHd⟩:∃ Hd,Hd=ext Hc [.arr 0 103 [.lit (.int .i64 d.grain),.vec d.nodes.length cs1]]:=⟨_,rfl⟩
 have od:Over Hc Hd:=by rw[hHd];exact .ext _ _
 have nd:Hd.next=H.next+5:=by rw[hHd,bI];simp;omega
 have d4:Hd.get (H.next+4)=some (.arr 0 103 [.lit (.int .i64 d.grain),.vec d.nodes.length cs1]):=by rw[hHd,<- nc];exact bT
 rw[<- hHd];clear hHd;have d0:Hd.get H.next=_:=(od.old _ (by omega)).trans ((oc.old _ (by omega)).trans b0);have d1:Hd.get (H.next+1)=_:=(od.old _ (by omega)).trans ((oc.old _ (by omega)).trans b1);have d2:Hd.get (H.next+2)=_:=(od.old _ (by omega)).trans ((oc.old _ (by omega)).trans b2);have d3:Hd.get (H.next+3)=_:=(od.old _ (by omega)).trans c3;have dold:∀ i,i<H.next->Hd.get i=H.get i:=fun i h=>(od.old i (by omega)).trans ((oc.old i (by omega)).trans (ob.old i h));clear l0 l1 m1 c3 b0 b1 b2;refine W.en (fun E1=>E1 2=.ptr H.next 0 0 /\ E1 3=.ptr (H.next+1) 0 0 /\ E1 4=.ptr (H.next+2) 0 0 /\ E1 5=.ptr (H.next+3) 0 0 /\ E1 6=.ptr (H.next+4) 0 0) (by simp only[go_sem,e2,e3,e4,nb,nc]) fun E1 ⟨f2,f3,f4,f5,f6⟩=>?_
 clear e2 e3 e4 ob oc od;have hul:=hu.len;refine W.gh (fun s'=>s'.ρ 2=.ptr H.next 0 0/\s'.ρ 3=.ptr (H.next+1) 0 0/\s'.ρ 4=.ptr (H.next+2) 0 0/\s'.ρ 5=.ptr (H.next+3) 0 0/\s'.ρ 6=.ptr (H.next+4) 0 0/\Hd.next<=s'.H.next/\(∀ id,id<H.next+5->id≠H.next+3->s'.H.get id=Hd.get id)/\∃ uh,s'.H.get (H.next+3)=some (.arr 0 38 [.lit (.int .i64 d.grain),.lit (.slice none 0 0),.lit (.int .u64 (d.decs:Int)),uh])/\uD d.utils (H.next+5) d.utils.length s'.H uh) ?_ ?_
 ·refine W.sq ?_;simp only[go_sem];refine W.block ?_;refine W.en (fun E2=>E2 2=.ptr H.next 0 0 /\ E2 3=.ptr (H.next+1) 0 0 /\ E2 4=.ptr (H.next+2) 0 0 /\ E2 5=.ptr (H.next+3) 0 0 /\ E2 6=.ptr (H.next+4) 0 0 /\ E2 7=aa 0) (by simp only[go_sem,f2,f3,f4,f5,f6]) fun E2 ⟨g2,g3,g4,g5,g6,g7⟩=>?_
  refine W.aL 2251799809491072 (by rfl) (fun ρ Hx=>∃ (k:Nat) (uh:AVal),ρ 7=aa k/\k<=d.utils.length/\Hd.next<=Hx.next/\(∀ id,id<H.next+5->id≠H.next+3->Hx.get id=Hd.get id)/\Hx.get (H.next+3)=some (.arr 0 38 [.lit (.int .i64 d.grain),.lit (.slice none 0 0),.lit (.int .u64 (d.decs:Int)),uh])/\uD d.utils (H.next+5) k Hx uh) (fun ρ H=>d.utils.length - (iv (ρ 7)).toNat) ?_ ?_
  ·simp only[go_sem,g7];exact⟨0,_,rfl,by omega,d3,.lit (.slice none 0 0),.lit (.slice none 0 0),by rw[Cw];exact .nil,fun h=>absurd h (S7 _)⟩
  rintro ρ Hx ⟨k,uh,h7,hk,nx,hold,hx3,pv,wv,hO,hPW⟩;refine W.en (fun E3=>E3 2=.ptr H.next 0 0 /\ E3 3=.ptr (H.next+1) 0 0 /\ E3 4=.ptr (H.next+2) 0 0 /\ E3 5=.ptr (H.next+3) 0 0 /\ E3 6=.ptr (H.next+4) 0 0 /\ E3 7=aa k) (by simp only[go_sem,g2,g3,g4,g5,g6,h7]) fun E3 ⟨a2,a3,a4,a5,a6,a7⟩=>?_
  have x1:=ag ((hold _ (by omega) (by omega)).trans d1);have x3:=ag hx3;by_cases hb:(k:Int)<d.utils.length;rotate_left
  ·refine W.vs ?_;simp only[go_sem,a2,a3,a4,a5,a6,a7,x1,hb];obtain rfl:k=d.utils.length:=(by omega);exact⟨nx,hold,uh,hx3,pv,wv,hO,hPW⟩
  obtain⟨u,hu0⟩:=get_of_lt (l:=d.utils) (i:=k) (by omega);obtain⟨u1,u2⟩:=hu.util u (SK hu0);have q0:=CQ hu0;have q1:=O3 hu0;have qn:=rL hu0;refine W.sq ?_;simp only[go_sem,a3,a7,x1,hb];refine W.seq ?_;refine W.lT (Q':=fun e s2=>e=.normal/\s2.ρ 7=aa k/\Hx.next<=s2.H.next/\(∀ id,id<H.next+5->id≠H.next+3->s2.H.get id=Hd.get id)/\(∀ i g e c,i<Hx.next->i≠H.next+3->Hx.get i=some (.arr g e c)->e≠82->s2.H.get i=Hx.get i)/\∃ uh2 pk wk,s2.H.get (H.next+3)=some (.arr 0 38 [.lit (.int .i64 d.grain),.lit (.slice none 0 0),.lit (.int .u64 (d.decs:Int)),uh2])/\bY (H.next+5) s2.H 82 2 uh2 (k+1) (cf d.utils k pv wv++[pk,wk])/\aA Hx.next s2.H 3 pk (ints u.vars)/\aA Hx.next s2.H 3 wk (ints u.w)/\∀ i g n g' n',pk=.own i g 0 n 1->wk≠.own i g' 0 n' 1) ?_ ?_;rotate_left
  ·rintro e s2 ⟨rfl,a7',nx2,old2,kp2,uh2,pk,wk,gx3,oZ,oP,oW,hpw⟩;have w1:=SM ((k:Int)+1) (by omega);obtain⟨H3,hw3,n3,k3,hI⟩:=Cx (P:=Tryz.prog) hu0 (Hx:=Hx) (by omega) hPW (s2:=s2) nx2 (fun i g e c h1 h2 h3 h4=>kp2 i g e c h2 (by omega) h3 h4) oZ oP oW hpw;refine⟨⟨s2.ρ,H3⟩,hw3,by rw[n3];exact Nat.le_refl _,trivial,?_⟩;simp only[go_sem];refine W.vs ?_;simp only[go_sem,a7',w1];exact⟨by omega,⟨k+1,uh2,rfl,by omega,by omega,fun i h1 h2=>(k3 i h1).trans (old2 i h1 h2),(k3 _ (by omega)).trans gx3,hI⟩,by rw[h7];simp only[aa,aQ];omega⟩
  refine W.block ?_;have x1e:∀ L,(ext Hx L).live (H.next+1) 0=_:=fun L=>(dv (by omega)).trans x1;obtain⟨Hp,hHp⟩:∃ Hp,Hp=ext Hx [.arr 0 3 (List.replicate 0 (.lit (.int .i64 0)))]:=⟨_,rfl⟩
  have np:Hp.next=Hx.next+1:=by rw[hHp];rfl
  have op:Over Hx Hp:=by rw[hHp];exact .ext _ _
  have p0:aA Hx.next Hp 3 (.own Hx.next 0 0 0 1) []:=by rw[hHp];exact .new
  obtain⟨pk,H2,hA1,oP,n2,hp2⟩:=qR (P:=Tryz.prog) (H:=Hp) (t:=46) (n:=Hx.next+1) (lo:=Hx.next) (src:=ints u.vars) Tryz.underlying46 Tryz.dx Tryz.dQ (iY _) (by rw[Tryz.eC,aP,List.length_nil];omega) p0 (by omega) (by omega);rw[List.nil_append]at oP;rw[aP]at hA1;have o2:∀ i,i<Hx.next->H2.get i=Hx.get i:=fun i h=>(hp2 i (by omega) fun g n hv=>by have:=(AVal.own.inj hv).1;omega).trans (op.old i h);have y1:H2.live (H.next+1) 0=_:=ag ((o2 _ (by omega)).trans ((hold _ (by omega) (by omega)).trans d1));have y1e:∀ L,(ext H2 L).live (H.next+1) 0=_:=fun L=>(dv (by omega)).trans y1;obtain⟨Hq,hHq⟩:∃ Hq,Hq=ext H2 [.arr 0 3 (List.replicate 0 (.lit (.int .i64 0)))]:=⟨_,rfl⟩
  have nq:Hq.next=H2.next+1:=by rw[hHq];rfl
  have oq:Over H2 Hq:=by rw[hHq];exact .ext _ _
  have q0':aA H2.next Hq 3 (.own H2.next 0 0 0 1) []:=by rw[hHq];exact .new
  obtain⟨wk,H3,hA2,oW,n3,hp3⟩:=qR (P:=Tryz.prog) (H:=Hq) (t:=46) (n:=H2.next+1) (lo:=H2.next) (src:=ints u.w) Tryz.underlying46 Tryz.dx Tryz.dQ (iY _) (by rw[Tryz.eC,aP,List.length_nil];omega) q0' (by omega) (by omega);rw[List.nil_append]at oW;rw[aP]at hA2;have o3:∀ i,i<H2.next->H3.get i=H2.get i:=fun i h=>(hp3 i (by omega) fun g n hv=>by have:=(AVal.own.inj hv).1;omega).trans (oq.old i h);rw[hHp]at hA1;rw[hHq]at hA2;have pk1:=oP.one;have pkc:=oP.cells;have wk1:=oW.one;have wkc:=oW.cells;have hO3:bY (H.next+5) H3 82 2 uh k (cf d.utils k pv wv):=hO.keep (by omega) fun i g h1 h2 h3=>by rw[o3 i (by omega),o2 i h2]
  obtain⟨uh2,H4,hA3,oZ,n4,hp4⟩:=mS (P:=Tryz.prog) (H:=H3) (t:=36) (xs:=[pk,wk]) (m:=H3.next+1) Tryz.underlying36 Tryz.uF Tryz.uH (by simp only[List.all_cons,List.all_nil,pk1,wk1];rfl) rfl (by rw[Tryz.uG];omega) hO3 (by omega) rfl;have hk4:∀ i,i<H.next+5->H4.get i=Hx.get i:=fun i h=>(hp4 i (by omega) (hO3.ne (by omega))).trans ((o3 i (by omega)).trans (o2 i (by omega)));have une:∀ {i g e c},H3.get i=some (.arr g e c)->e≠82->∀ g n,uh≠.own i g 0 n 2:=fun {i g e c} h1 h2 g' n hv=>by
   rcases hO3 with ⟨h,_⟩|⟨i2,g2,_,_,h,_,h4⟩
   ·rw[h]at hv;cases hv
   ·rw[h]at hv;obtain rfl:=(AVal.own.inj hv).1;rw[h4]at h1;cases h1;exact h2 rfl
  have l4:=ag ((hk4 _ (by omega)).trans hx3);have uh21:=oZ.one;have uh2c:=oZ.cells;obtain⟨H5,hH5⟩:∃ H5,H5=H4.upd (H.next+3) (.arr 0 38 [.lit (.int .i64 d.grain),.lit (.slice none 0 0),.lit (.int .u64 (d.decs:Int)),uh2]):=⟨_,rfl⟩
  have n5':H5.next=H4.next:=by rw[hH5,aw]
  have o5:∀ i,i≠H.next+3->H5.get i=H4.get i:=fun i h=>by rw[hH5,ab,SO h]
  have fin:Hx.next<=H5.next/\(∀ id,id<H.next+5->¬ id=H.next+3->H5.get id=Hd.get id)/\(∀ i g e c,i<Hx.next->¬ i=H.next+3->Hx.get i=some (.arr g e c)->¬ e=82->H5.get i=Hx.get i)/\∃ uh2 pk wk,H5.get (H.next+3)=some (.arr 0 38 [.lit (.int .i64 d.grain),.lit (.slice none 0 0),.lit (.int .u64 (d.decs:Int)),uh2])/\bY (H.next+5) H5 82 2 uh2 (k+1) (cf d.utils k pv wv++[pk,wk])/\aA Hx.next H5 3 pk (ints u.vars)/\aA Hx.next H5 3 wk (ints u.w)/\∀ i g n g' n',pk=.own i g 0 n 1->¬ wk=.own i g' 0 n' 1:=by
   refine⟨by omega,fun i h1 h2=>by rw[o5 i h2,hk4 i h1];exact hold i h1 h2,fun i g e c h1 h2 h3 h4=>?_,uh2,pk,wk,by rw[hH5,ab,SQ rfl],oZ.keep (by omega) fun i g h1 _ _=>o5 i (by omega),?_,?_,fun i g n g' n' h1 h2=>?_⟩
   ·have h5:H3.get i=Hx.get i:=(o3 i (by omega)).trans (o2 i h1);rw[o5 i h2,hp4 i (by omega) (une (h5.trans h3) h4),h5]
   ·refine oP.keep (Nat.le_refl _) (by omega) fun i g h1 h2 h3 _=>?_;have h5:H3.get i=H2.get i:=o3 i h2;rw[o5 i (by omega),hp4 i (by omega) (une (h5.trans h3) (by decide)),h5]
   ·refine oW.keep (by omega) (by omega) fun i g h1 h2 h3 _=>?_;rw[o5 i (by omega),hp4 i h2 (une h3 (by decide))]
   ·rcases oP with ⟨hp,_⟩|⟨i2,g2,_,a2,hp,_⟩
    ·rw[hp]at h1;cases h1
    ·rcases oW with ⟨hw,_⟩|⟨i3,g3,b1,_,hw,_⟩
     ·rw[hw]at h2;cases h2
     ·rw[hp]at h1;rw[hw]at h2;have e1:=(AVal.own.inj h1).1;have e2:=(AVal.own.inj h2).1;omega
  refine W.draw 20 [0,1,0,0,8,0,56,120,248,508,0,0,2048,0,14336,30720,63488,131068,262140,524284] Tryz.mixed (by kernel_rfl) (by kernel_rfl) ?_;rcases hO with ⟨hv,_⟩|⟨iu,gu,z1,z2,hv,z4,z5⟩
  ·subst hv;simp only[go_sem,a3,a5,a7,x3,hb,q0,q1,qn,x1e,y1e,hA1,hA2,hA3,pkc,wkc,l4,uh21,uh2c];rw[<- hH5]
   repeat' (first|exact fin|refine And.intro ?_ ?_|(intro x hx;omega))
  ·subst hv;simp only[go_sem,a3,a5,a7,x3,hb,q0,q1,qn,x1e,y1e,hA1,hA2,hA3,pkc,wkc,l4,uh21,uh2c];rw[<- hH5]
   repeat' (first|exact fin|refine And.intro ?_ ?_|(intro x hx;omega))
 rintro⟨ρ3,Hx⟩ ⟨m2,m3,m4,m5,m6,nx,hold,uh,hx3,pv,wv,hO,hPW⟩;simp only at m2 m3 m4 m5 m6 nx hold hx3 hO hPW;have x0:=(hold H.next (by omega) (by omega)).trans d0;have x2:=(hold (H.next+2) (by omega) (by omega)).trans d2;have x4:=(hold (H.next+4) (by omega) (by omega)).trans d4;have xold:∀ i,i<H.next->Hx.get i=H.get i:=fun i h=>(hold i (by omega) (by omega)).trans (dold i h);clear hold d0 d1 d2 d3 d4 dold
  -- what the switch leaves
 obtain⟨Φ,hΦ⟩:∃ Φ:St->Prop,∀ s',Φ s'↔(s'.ρ 4=.ptr (H.next+2) 0 0/\s'.ρ 5=.ptr (H.next+3) 0 0/\s'.ρ 6=.ptr (H.next+4) 0 0/\∃ (g':Int) (ns':List NodeP) (cs':List AVal) (D:Nat) (us':List UtilP) (uv:AVal),Hx.next<=s'.H.next/\(∀ i,i<H.next->s'.H.get i=H.get i)/\s'.H.get (H.next+2)=Hx.get (H.next+2)/\s'.H.get (H.next+3)=some (.arr 0 38 [.lit (.int .i64 d.grain),.lit (.slice none 0 0),.lit (.int .u64 (D:Int)),uv])/\s'.H.get (H.next+4)=some (.arr 0 103 [.lit (.int .i64 g'),.vec ns'.length cs'])/\uv.one=true/\uv.cells=[uv]/\SmallN (m+2) ns'/\UtilsS (m+5) us'/\D<2 ^ 64/\NodesQ (fun v=>D.testBit v=true) ns' cs'/\ns'.length<=d.nodes.length+1/\((⟨g',ns',D,us'⟩:InfP),cs')=gR w w5 a r n5 n d /\
   (∀ H3,H3.next=s'.H.next->(∀ i,i≠H.next+2->i≠H.next+3->H3.get i=s'.H.get i)->Fz (fun i=>H.next<=i) H3 H.next uv (.vec us'.length (aR us')))):=⟨_,fun _=>Iff.rfl⟩
 refine W.gh Φ ?_ ?_;rotate_left
 ·rintro⟨ρ5,H5⟩ hq5;obtain⟨f4,f5,f6,g',ns',cs',D,us',uv,n5,o5,p2,p3,p4,uv1,uvc,hsn,hsu,hD,hnq,hnl,hBI,hfz⟩:=(hΦ _).1 hq5;simp only at f4 f5 f6 n5 o5 p2 p3 p4 hfz;rw[x2]at p2;have k2:=ag p2;have k3:=ag p3;have k4:=ag p4;refine W.seq ?_;refine W.draw 6 [0,1,0,4,3,19] Tryz.mixed (by kernel_rfl) (by kernel_rfl) ?_;simp only[go_sem,f5,f6,k3,k4];refine⟨⟨fun _ h=>by omega,fun _ h=>by omega⟩,?_⟩;obtain⟨H6,hH6⟩:∃ H6,H6=(H5.upd (H.next+3) (.arr 0 38 [.lit (.int .i64 g'),.lit (.slice none 0 0),.lit (.int .u64 (D:Int)),uv])).upd (H.next+3) (.arr 0 38 [.lit (.int .i64 g'),.vec ns'.length cs',.lit (.int .u64 (D:Int)),uv]):=⟨_,rfl⟩
  rw[<- hH6];have n6:H6.next=H5.next:=by rw[hH6,aw,aw]
  have o6:∀ i,i≠H.next+3->H6.get i=H5.get i:=fun i h=>by rw[hH6,ab,SO h,ab,SO h]
  have j3:H6.live (H.next+3) 0=some (38,[.lit (.int .i64 g'),.vec ns'.length cs',.lit (.int .u64 (D:Int)),uv]):=by rw[hH6];exact zD
  have j2:=ag ((o6 (H.next+2) (by omega)).trans p2);clear hH6;refine W.vs ?_;simp only[go_sem,f4,f5,j2,j3,uv1];refine ay.bx (v':=dL ⟨g',ns',D,us'⟩ cs') aS hcl ⟨by rw[aw];omega,fun i h=>by rw[ab,SO (by omega),o6 i (by omega)];exact o5 i h⟩ (.agg rfl fun i hi _=>?_) (hK ⟨g',ns',D,us'⟩ cs' hBI ⟨⟨by have:=hsn.len;show (ns'.length:Int)<_;omega,fun x hx=>?_⟩,hD,by have:=hsu.len;show (us'.length:Int)<_;omega,fun u hu=>?_⟩ hnq hnl)
  ·match i,hi with
   | 0,_=>exact .lit _
   | 1,_=>exact .vec rfl fun j h _=>hnq.Cv j h
   | 2,_=>exact .lit _
   | 3,_=>exact hfz _ (by rw[aw,n6]) fun i h1 h2=>by rw[ab,SO h1,o6 i h2]
  ·obtain⟨h1,h2,h3⟩:=hsn.node x hx;exact⟨by omega,by omega,fun r hr=>by have:=(h3 r hr).2;omega⟩
  ·obtain⟨h1,h2⟩:=hsu.util u hu;exact⟨by omega,by omega⟩
 have w8:Int.tmod w 8=w % 8:=Tj hw.1;refine W.block ?_;refine W.en (fun E=>E 2=.ptr H.next 0 0 /\ E 4=.ptr (H.next+2) 0 0 /\ E 5=.ptr (H.next+3) 0 0 /\ E 6=.ptr (H.next+4) 0 0) (by simp only[go_sem,m2,m4,m5,m6]) fun E ⟨t2,t4,t5,t6⟩=>?_
 clear m2 m3 m4 m5 m6;have k0:=ag x0;have k3:=ag hx3;have k4:=ag x4
  -- the utilities as they are
 have hP0:0<d.utils.length->∃ u,d.utils[0]?=some u/\aA (H.next+5) Hx 3 pv (ints u.vars)/\aA (H.next+5) Hx 3 wv (ints u.w)/\∀ i g n g' n',pv=.own i g 0 n 1->wv≠.own i g' 0 n' 1:=hPW;have usame:∀ H3:AHeap,Hx.next<=H3.next->(∀ i,H.next+5<=i->i<Hx.next->H3.get i=Hx.get i)->Fz (fun i=>H.next<=i) H3 H.next uh (.vec d.utils.length (aR d.utils)):=fun H3 h1 h2=>by
  refine uE (hO.keep h1 fun i g h3 h4 _=>h2 i h3 h4) (fun i h=>by show H.next<=i;omega) id fun hl=>?_;obtain⟨u,h3,hP,hW,_⟩:=hP0 hl;exact⟨u,(jX h3).symm,(hP.keep (Nat.le_refl _) h1 fun i g h3 h4 _ _=>h2 i h3 h4).eX fun i h=>by show H.next<=i;omega,(hW.keep (Nat.le_refl _) h1 fun i g h3 h4 _ _=>h2 i h3 h4).eX fun i h=>by show H.next<=i;omega⟩
 have uh1:=hO.one;have uhc:=hO.cells;have hsm2:SmallN (m+2) d.nodes:=hs.mono (by omega);have hu5:UtilsS (m+5) d.utils:=⟨by omega,fun u h=>by have:=hu.util u h;omega⟩
 have hqD:∀ D:Nat,NodesQ (fun v=>D.testBit v=true) d.nodes cs1:=fun D=>hqT.mono fun _ _=>trivial;by_cases h4:w % 8<4
 ·refine W.sq ?_;simp only[go_sem,t2,k0,w8,h4];refine W.cond (t:=true) rfl ?_;refine W.vs ?_;simp only[go_sem,t2,t6,k0,k4];refine aB.clo (Cu w5 a r n5 hw5 ha hr d.grain d.nodes cs1 hqT m (by omega) hs _ _ fun g2 ns2 cs2 hB2 hs2 hq2 h02=>⟨trivial,?_⟩);simp only[go_sem,t6,k4];refine(hΦ _).2 ⟨by simp only[go_sem,t4],by simp only[go_sem,t5],by simp only[go_sem,t6],g2,ns2,cs2,d.decs,d.utils,uh,by rw[aw];exact Nat.le_refl _,fun i h=>by rw[ab,SO (by omega)];exact xold i h,by rw[ab,SO (by omega)],by rw[ab,SO (by omega)];exact hx3,by rw[ab,SQ rfl],uh1,uhc,hs2.mono (by omega),hu5,hd,hq2.mono fun v hv=>.inr fun x hx=>hdec v x hx hv,h02.2,by unfold gR;rw[SQ h4,<- hB2],fun H3 h7 h8=>usame H3 (by rw[h7,aw];exact Nat.le_refl _) fun i h9 _=>by rw[h8 i (by omega) (by omega),ab,SO (by omega)]⟩
 refine W.sq ?_;simp only[go_sem,t2,k0,w8,h4];refine W.cond (t:=false) rfl ?_;by_cases h5:w % 8=4
 ·refine W.sq ?_;simp only[go_sem,t2,k0,w8,h5];refine W.cond (t:=true) rfl ?_;refine W.vs ?_;obtain⟨nN,hn1,hn2,hn3⟩:∃ nN:Nat,IntKind.u64.wrap n=(nN:Int)/\nN<2 ^ 64/\nN=(n % 18446744073709551616).toNat:=by
   have h1:IntKind.u64.wrap n=n % 18446744073709551616:=rfl;refine⟨(n % 18446744073709551616).toNat,?_,?_,rfl⟩<;>omega
  have hxr:=fun t x y=>Rr (P:=Tryz.prog) (t:=t) (x:=x) (y:=y) hd hn2;simp only[go_sem,t2,t5,k0,k3,hn1,hxr];refine(hΦ _).2 ⟨by simp only[go_sem,t4],by simp only[go_sem,t5],by simp only[go_sem,t6],d.grain,d.nodes,cs1,d.decs ^^^ nN,d.utils,uh,by rw[aw];exact Nat.le_refl _,fun i h=>by rw[ab,SO (by omega)];exact xold i h,by rw[ab,SO (by omega)],by rw[ab,SQ rfl],by rw[ab,SO (by omega)];exact x4,uh1,uhc,hsm2,hu5,Vr hd hn2,hqD _,Uj _,by unfold gR;rw[SO h4,SQ h5,SQ h5,<- hn3,<- hcs1],fun H3 h7 h8=>usame H3 (by rw[h7,aw];exact Nat.le_refl _) fun i h9 _=>by rw[h8 i (by omega) (by omega),ab,SO (by omega)]⟩
 refine W.sq ?_;simp only[go_sem,t2,k0,w8,h5];refine W.cond (t:=false) rfl ?_;have ulen:fH Hx uh=some (aa d.utils.length):=by
  rcases hO with ⟨z1,z2,z3⟩|⟨id,gg,z1,z2,z3,z4,z5⟩
  ·rw[z1,z2];rfl
  ·rw[z3];unfold fH;simp [ag z5,aa]
 have hzero:¬ 0<d.utils.length->d.utils.length=0:=fun h=>by omega
 refine W.gh (fun s'=>s'.H=Hx/\s'.ρ 2=.ptr H.next 0 0/\s'.ρ 4=.ptr (H.next+2) 0 0/\s'.ρ 5=.ptr (H.next+3) 0 0/\s'.ρ 6=.ptr (H.next+4) 0 0/\s'.ρ 83=.lit (.bool (decide (w % 8=5/\0<d.utils.length)))) ?_ ?_
 ·refine W.vs ?_;by_cases h6:w % 8=5
  ·by_cases h7:0<d.utils.length
   ·have h7i:(0:Int)<d.utils.length:=(by omega);simp only[go_sem,t2,t5,k0,k3,ulen,w8,h6,h7,h7i];exact⟨t4,t6⟩
   ·have h7i:=hzero h7;simp only[go_sem,t2,t5,k0,k3,ulen,w8,h6,h7i];exact⟨t4,t6⟩
  ·simp only[go_sem,t2,t5,k0,w8,h6];exact⟨t4,t6⟩
 rintro⟨ρ6,H6⟩ ⟨hH,v2,v4,v5,v6,v83⟩;simp only at hH v2 v4 v5 v6 v83;rw[hH];clear hH H6;by_cases h6:w % 8=5/\0<d.utils.length
 ·have h7:=h6.2;rw[T1 h6]at v83;refine W.cond (t:=true) v83 ?_;rcases hO with ⟨_,z2,_⟩|⟨iu,gu,z1,z2,z3,z4,z5⟩
  ·omega
  subst z3;obtain⟨u,hu0,hP,hW,hpw⟩:=hP0 h7;obtain⟨cu,hcu⟩:∃ cu,cu=cf d.utils d.utils.length pv wv:=⟨_,rfl⟩
  rw[<- hcu]at z4 z5;have ku:=ag z5;have hcl2:(aR d.utils).length=d.utils.length*2:=kD _;have hcu':cu=((aR d.utils).set 0 pv).set 1 wv:=by rw[hcu];unfold cf;rw[TP]
  have cu0:cu[0]?=some pv:=by rw[hcu',Tb (by omega),S1 (by omega)]
  have cune:=aK cu0;have h7i:(0:Int)<d.utils.length:=by omega
  have u1:=(hu.util u (SK hu0)).1;obtain⟨pv2,H2,hA2,oP,n2,hp2⟩:=gL (P:=Tryz.prog) (H:=Hx) (t:=46) (x:=aa n) (n:=Hx.next+1) Tryz.underlying46 Tryz.dx Tryz.dQ rfl (by rw[Tryz.eC,aP];omega) hP (by omega) rfl;simp only[aa]at hA2;have pne:∀ i g2 e2 c2,Hx.get i=some (.arr g2 e2 c2)->e2≠3->∀ g n,pv≠.own i g 0 n 1:=fun i g2 e2 c2 h1 h2 g n hv=>by
   rcases hP with ⟨h3,_⟩|⟨i3,g3,_,_,h3,h4⟩
   ·rw[h3]at hv;cases hv
   ·rw[h3]at hv;obtain rfl:=(AVal.own.inj hv).1;rw[h4]at h1;cases h1;exact h2 rfl
  have j1:H2.get iu=_:=(hp2 iu z2 (pne _ _ _ _ z5 (by decide))).trans z5;have ju:=ag j1;have jo:∀ i,i<H.next+5->H2.get i=Hx.get i:=fun i h=>hp2 i (by omega) (hP.ne h);have e1:setAt cu 0 [pv2]=cf d.utils d.utils.length pv2 wv:=by
   rw[dS (by omega),hcu'];unfold cf;rw[TP,Vu _ _ (by omega),UJ]
  have e1':(pv2 :: cu.drop 1)=cf d.utils d.utils.length pv2 wv:=by rw[<- e1];rfl
  have pv21:=oP.one;have pv2c:=oP.cells;have c1l:1<=cu.length:=by omega
  have fin5:∀ E':Env,E' 4=.ptr (H.next+2) 0 0->E' 5=.ptr (H.next+3) 0 0->E' 6=.ptr (H.next+4) 0 0->Φ ⟨E',H2.upd iu (.arr gu 82 (cf d.utils d.utils.length pv2 wv))⟩:=fun E' f4 f5 f6=>by
   refine(hΦ _).2 ⟨f4,f5,f6,d.grain,d.nodes,cs1,d.decs,d.utils.set 0 ⟨u.vars++[n],u.w⟩,_,by rw[aw];exact n2,fun i h=>by rw[ab,SO (by omega),jo i (by omega)];exact xold i h,by rw[ab,SO (by omega),jo _ (by omega)],by rw[ab,SO (by omega),jo _ (by omega)];exact hx3,by rw[ab,SO (by omega),jo _ (by omega)];exact x4,uh1,uhc,hsm2,⟨by rw[SU];omega,fun u' hu'=>?_⟩,hd,hqD _,Uj _,by unfold gR;rw[SO h4,SO h5,SO h5,<- hcs1];unfold pF;rw[hu0];simp only;rw[SQ h6.1],fun H3 h7 h8=>?_⟩
   ·rcases Tq hu' with h|rfl
    ·exact hu5.util u' h
    ·have:=hu.util u (SK hu0);exact⟨by simp;omega,by show u.w.length<=_;omega⟩
   ·have k3':∀ i g2 e2 c2,H.next+5<=i->H2.get i=some (.arr g2 e2 c2)->e2≠82->H3.get i=H2.get i:=fun i g2 e2 c2 h1 h3 h4=>by
     rw[h8 i (by omega) (by omega),ab,SO];rintro rfl;rw[j1]at h3;cases h3;exact h4 rfl
    have oP3:aA (H.next+5) H3 3 pv2 (ints (u.vars++[n])):=by
     have:=oP.keep (H':=H3) (Nat.le_refl _) (by rw[h7,aw];exact Nat.le_refl _) fun i g h1 _ h3 _=>k3' i g _ _ h1 h3 (by decide);simpa [ints] using this
    have oW3:aA (H.next+5) H3 3 wv (ints u.w):=hW.keep (Nat.le_refl _) (by rw[h7,aw];omega) fun i g h1 h2 h3 h4=>by
     have h5:H2.get i=Hx.get i:=hp2 i h2 fun g' n' hv=>hpw _ _ _ _ _ hv h4;exact(k3' i g _ _ h1 (h5.trans h3) (by decide)).trans h5
    refine uE (us:=d.utils) (pv:=pv2) (wv:=wv) (H:=H3) (.inr ⟨iu,gu,z1,by rw[h7,aw];omega,rfl,by rw[uC,TP],by rw[h8 iu (by omega) (by omega),ab,SQ rfl]⟩) (fun i h=>by show H.next<=i;omega) (fun h=>by rw[h];rfl) fun _=>⟨⟨u.vars++[n],u.w⟩,rfl,oP3.eX fun i h=>by show H.next<=i;omega,oW3.eX fun i h=>by show H.next<=i;omega⟩
  refine W.draw 11 [0,1,0,4,12,28,60,0,128,384,1020] Tryz.mixed (by kernel_rfl) (by kernel_rfl) ?_;rcases hP with ⟨hv,_⟩|⟨i3,g3,_,_,hv,h4⟩
  ·subst hv;simp only[go_sem,v2,v5,k0,k3,ku,cu0,h7i,hA2,ju,pv21,pv2c,c1l]
   repeat' (first|refine And.intro ?_ ?_|(intro x hx;omega)|omega)
   rw[e1'];exact fin5 _ (by simp only[go_sem,v4]) (by simp only[go_sem,v5]) (by simp only[go_sem,v6])
  ·rw[aP]at hv;subst hv;simp only[go_sem,v2,v5,k0,k3,ku,cu0,h7i,hA2,ju,pv21,pv2c,c1l]
   repeat' (first|refine And.intro ?_ ?_|(intro x hx;omega)|omega)
   rw[e1'];exact fin5 _ (by simp only[go_sem,v4]) (by simp only[go_sem,v5]) (by simp only[go_sem,v6])
 rw[UH h6]at v83;refine W.cond (t:=false) v83 ?_;have hP6:∃ b:Bool,(b=true↔w % 8=6/\∃ u,d.utils[0]?=some u/\0<u.w.length):=by
  classical exact⟨decide _,Un⟩
 obtain⟨b6,hb6⟩:=hP6;refine W.gh (fun s'=>s'.H=Hx/\s'.ρ 2=.ptr H.next 0 0/\s'.ρ 4=.ptr (H.next+2) 0 0/\s'.ρ 5=.ptr (H.next+3) 0 0/\s'.ρ 6=.ptr (H.next+4) 0 0/\s'.ρ 107=.lit (.bool b6)) ?_ ?_
 ·refine W.vs ?_;by_cases h7:w % 8=6
  ·by_cases h8:0<d.utils.length
   ·have h8i:(0:Int)<d.utils.length:=(by omega);rcases hO with ⟨_,z2,_⟩|⟨iu,gu,z1,z2,z3,z4,z5⟩
    ·omega
    subst z3;obtain⟨u,hu0,hP,hW,hpw⟩:=hP0 h8;obtain⟨cu,hcu⟩:∃ cu,cu=cf d.utils d.utils.length pv wv:=⟨_,rfl⟩
    rw[<- hcu]at z4 z5;have ku:=ag z5;have hcl2:(aR d.utils).length=d.utils.length*2:=kD _;have hcu':cu=((aR d.utils).set 0 pv).set 1 wv:=(by rw[hcu];unfold cf;rw[TP]);have cu1:cu[1]?=some wv:=(by rw[hcu',S1 (by rw[SU];omega)]);have cune:=aK cu1;have wlen:fH Hx wv=some (aa u.w.length):=by
     rcases hW with ⟨h1,h2⟩|⟨i,g',_,_,h1,h2⟩
     ·have:u.w.length=0:=(by have:=congrArg List.length h2;rwa [aP]at this);rw[h1,this];rfl
     ·rw[h1];unfold fH;simp [ag h2,aa,aP]
    by_cases h9:0<u.w.length
    ·have h9i:(0:Int)<u.w.length:=(by omega);have:b6=true:=hb6.2 ⟨h7,u,hu0,h9⟩;simp only[go_sem,v2,v5,k0,k3,ku,w8,h7,h8i,ulen,cu1,wlen,h9i];exact⟨v4,v6,by rw[this]⟩
    ·have h9i:¬ (0:Int)<u.w.length:=(by omega);have:b6=false:=by
      rw[<- Ve,hb6];rintro⟨_,u',hu',h⟩;rw[hu0]at hu';cases hu';exact h9 h
     simp only[go_sem,v2,v5,k0,k3,ku,w8,h7,h8i,ulen,cu1,wlen,h9i];exact⟨v4,v6,by rw[this]⟩
   ·have h8i:=hzero h8;have:b6=false:=by
     rw[<- Ve,hb6];rintro⟨_,u',hu',h⟩;have:=get_lt hu';omega
    simp only[go_sem,v2,v5,k0,k3,ulen,w8,h7,h8i];exact⟨v4,v6,by rw[this]⟩
  ·have:b6=false:=by
    rw[<- Ve,hb6];exact fun h=>h7 h.1
   simp only[go_sem,v2,v5,k0,w8,h7];exact⟨v4,v6,by rw[this]⟩
 rintro⟨ρ7,H7⟩ ⟨hH,y2,y4,y5,y6,y107⟩;simp only at hH y2 y4 y5 y6 y107;rw[hH];clear hH H7 v2 v4 v5 v6 v83;refine W.cond (t:=b6) y107 ?_;cases hbb:b6;rotate_left
 ·obtain⟨h7,u0,hu0',h9⟩:=hb6.1 hbb;have h8:=get_lt hu0';have h8i:(0:Int)<d.utils.length:=by omega
  have h9i:(0:Int)<u0.w.length:=by omega
  have h9n:¬ (u0.w.length:Int)=0:=by omega
  rcases hO with ⟨_,z2,_⟩|⟨iu,gu,z1,z2,z3,z4,z5⟩
  ·omega
  subst z3;obtain⟨u,hu0,hP,hW,hpw⟩:=hP0 h8;obtain rfl:u=u0:=Option.some.inj (hu0.symm.trans hu0');rcases hW with ⟨_,hWn⟩|⟨iw,gw,r1,r2,r3,r4⟩
  ·have:=congrArg List.length hWn;rw[aP,List.length_nil]at this;omega
  rw[aP]at r3;obtain⟨cu,hcu⟩:∃ cu,cu=cf d.utils d.utils.length pv wv:=⟨_,rfl⟩
  rw[<- hcu]at z4 z5;have ku:=ag z5;have kw:=ag r4;have hcl2:(aR d.utils).length=d.utils.length*2:=kD _;have hcu':cu=((aR d.utils).set 0 pv).set 1 wv:=by rw[hcu];unfold cf;rw[TP]
  have cu1:cu[1]?=some (.own iw gw 0 u.w.length 1):=by rw[hcu',S1 (by rw[SU];omega),r3]
  have cune:=aK cu1;have wq:=SM a (by omega);have hRe:Int.tmod a u.w.length=a % u.w.length:=Tj ha.1;have hR0:=Ue a h9n;have hR1:=T7 a h9i;obtain⟨Rn,hRn⟩:=S2 hR0;have wle:=(hu.util u (SK hu0)).2;have wR:=SM (Rn:Int) (by omega);have hRl:Rn<u.w.length:=by omega
  have hRli:(Rn:Int)<u.w.length:=by omega
  have e1:setAt (ints u.w) Rn [.lit (.int .i64 n)]=ints (u.w.set Rn n):=gD hRl;have wne:¬ ints u.w=[]:=fun h=>by have:=congrArg List.length h;rw[aP,List.length_nil]at this;omega
  show W _ _ _ _ (Code.region ..) _ _;refine W.draw 18 [0,1,3,7,15,0,32,96,224,0,512,1536,3584,7680,15872,32736,0,65536] Tryz.mixed (by kernel_rfl) (by kernel_rfl) ?_;simp only[go_sem,y2,y5,k0,k3,ku,kw,cu1,h8i,h9n,wq,hRe,hRn,hRli,e1];refine⟨by omega,?_⟩;have wi:iw≠iu:=fun h=>by
   rw[h,z5]at r4;cases r4
  refine(hΦ _).2 ⟨by simp only[go_sem,y4],by simp only[go_sem,y5],by simp only[go_sem,y6],d.grain,d.nodes,cs1,d.decs,d.utils.set 0 ⟨u.vars,u.w.set Rn n⟩,_,by rw[aw];exact Nat.le_refl _,fun i h=>by rw[ab,SO (by omega)];exact xold i h,by rw[ab,SO (by omega)],by rw[ab,SO (by omega)];exact hx3,by rw[ab,SO (by omega)];exact x4,uh1,uhc,hsm2,⟨by rw[SU];omega,fun u' hu'=>?_⟩,hd,hqD _,Uj _,by unfold gR;rw[SO h4,SO h5,SO h5,<- hcs1];unfold pF;rw[hu0];simp only;rw[SO (by omega),SQ ⟨h7,h9⟩,show (a % (u.w.length:Int)).toNat=Rn by omega],fun H3 h7 h8=>?_⟩
  ·rcases Tq hu' with h|rfl
   ·exact hu5.util u' h
   ·have:=hu.util u (SK hu0);exact⟨by show u.vars.length<=_;omega,by show (u.w.set Rn n).length<=_;rw[SU];omega⟩
  ·have k3':∀ i,H.next+5<=i->i≠iw->H3.get i=Hx.get i:=fun i h1 h3=>by rw[h8 i (by omega) (by omega),ab,SO h3]
   have oP3:aA (H.next+5) H3 3 pv (ints u.vars):=hP.keep (Nat.le_refl _) (by rw[h7,aw];exact Nat.le_refl _) fun i g h1 _ _ h4=>k3' i h1 fun h=>hpw _ _ _ gw u.w.length h4 (by rw[r3,h]);have oW3:aA (H.next+5) H3 3 wv (ints (u.w.set Rn n)):=.inr ⟨iw,gw,r1,by rw[h7,aw];exact r2,by rw[r3,aP,SU],by rw[h8 iw (by omega) (by omega),ab,SQ rfl]⟩;refine uE (us:=d.utils) (pv:=pv) (wv:=wv) (H:=H3) (.inr ⟨iu,gu,z1,by rw[h7,aw];exact z2,rfl,by rw[uC,TP],by rw[k3' iu z1 fun h=>wi h.symm,z5,hcu]⟩) (fun i h=>by show H.next<=i;omega) (fun h=>by rw[h];rfl) fun _=>⟨⟨u.vars,u.w.set Rn n⟩,rfl,oP3.eX fun i h=>by show H.next<=i;omega,oW3.eX fun i h=>by show H.next<=i;omega⟩
 ·show W _ _ _ _ (Code.block ..) _ _;refine W.block ?_;obtain⟨us2,hus2⟩:∃ us2,us2=d.utils++List.replicate 5 (⟨[],[1]⟩:UtilP):=⟨_,rfl⟩
  have hBd:∀ k:Nat,k=max d.utils.length 5->((⟨d.grain,d.nodes,d.decs,us2.take k⟩:InfP),cs1)=gR w w5 a r n5 n d:=fun k hk=>by
   unfold gR;rw[SO h4,SO h5,SO h5,<- hcs1];unfold pF;cases hu0:d.utils[0]? with
   | none =>
    have hl0:d.utils=[]:=SY (by have:=Ub.1 hu0;omega);rw[hus2,hl0,hk,hl0];rfl
   | some u =>
    have h8:=get_lt hu0;simp only;rw[SO (fun h=>h6 ⟨h,h8⟩),SO (fun h=>by
     have:=hb6.2 ⟨h.1,u,hu0,h.2⟩;rw[hbb]at this;cases this),hus2,hk]
  have tk:∀ k,k<=d.utils.length->us2.take k=d.utils.take k:=fun k h=>by rw[hus2,List.take_append_of_le_length h]
  have get2:∀ k,d.utils.length<=k->k<5->us2[k]?=some ⟨[],[1]⟩:=fun k h1 h2=>by rw[hus2,S5 h1,TR,SQ (by omega)]
  refine W.aL 4609434218613702656 (by rfl) (fun ρ Hy=>∃ (k:Nat) (uh:AVal),d.utils.length<=k/\(k<=5\/k=d.utils.length)/\Hx.next<=Hy.next/\(∀ i,i<H.next+5->i≠H.next+3->Hy.get i=Hx.get i)/\Hy.get (H.next+3)=some (.arr 0 38 [.lit (.int .i64 d.grain),.lit (.slice none 0 0),.lit (.int .u64 (d.decs:Int)),uh])/\uD us2 (H.next+5) k Hy uh) (fun ρ Hy=>5 - rE Hy (H.next+3)) ?_ ?_
  ·refine⟨d.utils.length,uh,Nat.le_refl _,.inr rfl,Nat.le_refl _,fun _ _ _=>rfl,hx3,pv,wv,?_,fun h=>?_⟩
   ·have:cf us2 d.utils.length pv wv=cf d.utils d.utils.length pv wv:=(by unfold cf;rw[tk _ (Nat.le_refl _)]);rw[this];exact hO
   ·obtain⟨u,h1,h2⟩:=hP0 h;exact⟨u,by rw[hus2,SW h];exact h1,h2⟩
  rintro ρ8 Hy ⟨k,uhy,hk0,hk1,ny,yo,y3,pvy,wvy,yO,yPW⟩;refine W.en (fun E3=>E3 4=.ptr (H.next+2) 0 0 /\ E3 5=.ptr (H.next+3) 0 0 /\ E3 6=.ptr (H.next+4) 0 0) (by simp only[go_sem,y4,y5,y6]) fun E3 ⟨a4,a5,a6⟩=>?_
  have ky:=ag y3;have yl:fH Hy uhy=some (aa k)/\rE Hy (H.next+3)=k:=by
   unfold rE;rw[y3];rcases yO with ⟨z1,z2,z3⟩|⟨id,gg,z1,z2,z3,z4,z5⟩
   ·rw[z1,z2];exact⟨rfl,rfl⟩
   ·rw[z3];unfold fH;simp [ag z5,aa]
  obtain⟨yl1,yl2⟩:=yl;by_cases hk5:(k:Int)<5;rotate_left
  ·refine W.vs ?_;simp only[go_sem,a5,ky,yl1,hk5];have hl2:us2.length=d.utils.length+5:=(by rw[hus2];simp);have hlk:(us2.take k).length=k:=(by rw[SX];omega);have hO3:cf (us2.take k) (us2.take k).length pvy wvy=cf us2 k pvy wvy:=(by unfold cf;rw[TP]);refine(hΦ _).2 ⟨by simp only[go_sem,a4],by simp only[go_sem,a5],by simp only[go_sem,a6],d.grain,d.nodes,cs1,d.decs,us2.take k,uhy,ny,fun i h=>by rw[yo i (by omega) (by omega)];exact xold i h,yo _ (by omega) (by omega),y3,(yo _ (by omega) (by omega)).trans x4,yO.one,yO.cells,hsm2,⟨by rw[hlk];omega,fun u hu'=>?_⟩,hd,hqD _,Uj _,hBd k (by omega),fun H3 h7 h8=>?_⟩
   ·have:=Tg hu';rw[hus2]at this;rcases Ta.1 this with h|h
    ·exact hu5.util u h
    ·rw[Tz h];exact⟨by simp,by simp⟩
   ·have h7':H3.next=Hy.next:=h7;have kk:∀ i,H.next+5<=i->H3.get i=Hy.get i:=fun i h=>h8 i (by omega) (by omega);refine uE (us:=us2.take k) (pv:=pvy) (wv:=wvy) (H:=H3) (by rw[hO3,hlk];exact yO.keep (by omega) fun i g h1 _ _=>kk i h1) (fun i h=>by show H.next<=i;omega) id fun hl=>?_;obtain⟨u,q1,qP,qW,_⟩:=yPW (by omega);exact⟨u,(jX (by rw[Ts (by omega)];exact q1)).symm,(qP.keep (Nat.le_refl _) (by omega) fun i g h1 _ _ _=>kk i h1).eX fun i h=>by show H.next<=i;omega,(qW.keep (Nat.le_refl _) (by omega) fun i g h1 _ _ _=>kk i h1).eX fun i h=>by show H.next<=i;omega⟩
  obtain⟨He,hHe⟩:∃ He,He=ext Hy [.arr 0 3 [.lit (.int .i64 1)]]:=⟨_,rfl⟩
  have ne':He.next=Hy.next+1:=by rw[hHe];rfl
  have oe:Over Hy He:=by rw[hHe];exact .ext _ _
  have hOe:bY (H.next+5) He 82 2 uhy k (cf us2 k pvy wvy):=yO.over oe;obtain⟨uh2,H4,hA3,oZ,n4,hp4⟩:=mS (P:=Tryz.prog) (H:=He) (t:=36) (xs:=[.lit (.slice none 0 0),.own Hy.next 0 0 1 1]) (m:=Hy.next+2) Tryz.underlying36 Tryz.uF Tryz.uH rfl rfl (by rw[Tryz.uG];omega) hOe (by omega) (by omega);have k4':∀ i,i<H.next+5->H4.get i=Hy.get i:=fun i h=>(hp4 i (by omega) (hOe.ne h)).trans (oe.old i (by omega));have l4:=ag ((k4' _ (by omega)).trans y3);have uh21:=oZ.one;have uh2c:=oZ.cells;rw[ne',hHe,gK]at hA3;simp only[List.cons_append,List.nil_append]at hA3;refine W.lT (Q':=fun e s2=>e=.normal/\Hy.next<=s2.H.next/\(∀ i,i<H.next+5->i≠H.next+3->s2.H.get i=Hx.get i)/\(∀ i g e c,H.next+5<=i->i<Hy.next->Hy.get i=some (.arr g e c)->e≠82->s2.H.get i=Hy.get i)/\s2.H.get (H.next+3)=some (.arr 0 38 [.lit (.int .i64 d.grain),.lit (.slice none 0 0),.lit (.int .u64 (d.decs:Int)),uh2])/\bY (H.next+5) s2.H 82 2 uh2 (k+1) (cf us2 k pvy wvy++[.lit (.slice none 0 0),.own Hy.next 0 0 1 1])/\aA Hy.next s2.H 3 (.own Hy.next 0 0 1 1) (ints [1])) ?_ ?_
  ·refine W.vs ?_;simp only[go_sem,a5,ky,yl1,hk5,hA3,l4,uh21,uh2c];have hne4:∀ i g e c,He.get i=some (.arr g e c)->e≠82->∀ g n,uhy≠.own i g 0 n 2:=fun i g e c h1 h2 g' n hv=>by
    rcases hOe with ⟨h,_⟩|⟨i2,g2,_,_,h,_,h4⟩
    ·rw[h]at hv;cases hv
    ·rw[h]at hv;obtain rfl:=(AVal.own.inj hv).1;rw[h4]at h1;cases h1;exact h2 rfl
   have e3:He.get Hy.next=some (.arr 0 3 [.lit (.int .i64 1)]):=(by rw[hHe];exact bQ ..);refine⟨by rw[aw];omega,fun i h1 h2=>by rw[ab,SO h2,k4' i h1];exact yo i h1 h2,fun i g e c h1 h2 h3 h4=>?_,by rw[ab,SQ rfl],oZ.keep (by rw[aw];exact Nat.le_refl _) fun i g h1 _ _=>by rw[ab,SO (by omega)],.inr ⟨Hy.next,0,Nat.le_refl _,by rw[aw];omega,rfl,?_⟩⟩
   ·have h5:=oe.old i h2;rw[ab,SO (by omega),hp4 i (by omega) (hne4 _ _ _ _ (h5.trans h3) h4),h5]
   ·rw[ab,SO (by omega),hp4 _ (by omega) (hne4 _ _ _ _ e3 (by decide)),e3];rfl
  ·rintro e s2 ⟨rfl,n2,o2,kp2,g3,oZ2,oW2⟩;obtain⟨H3,hw3,n3,k3'',hI⟩:=Cx (P:=Tryz.prog) (get2 k hk0 (by omega)) (Hx:=Hy) (by omega) yPW (s2:=s2) n2 kp2 oZ2 .nil oW2 fun i g n g' n' h=>by cases h
   refine⟨⟨s2.ρ,H3⟩,hw3,by rw[n3];exact Nat.le_refl _,trivial,?_⟩;simp only[go_sem];have hg3:=(k3'' (H.next+3) (by omega)).trans g3;have ul2:rE H3 (H.next+3)=k+1:=by
    obtain⟨pv3,wv3,hO3,_⟩:=hI;unfold rE;rw[hg3];rcases hO3 with ⟨_,z2,_⟩|⟨id,gg,_,_,z3,_⟩
    ·omega
    ·rw[z3]
   rw[ul2,yl2];exact⟨by omega,⟨k+1,uh2,by omega,by omega,by omega,fun i h1 h2=>(k3'' i h1).trans (o2 i h1 h2),hg3,hI⟩,by omega⟩
end Go.Proofs
namespace Go.Proofs
open Go.Hx
structure B20 where
 w:Int
 w5:Int
 a:Int
 r:Int
 n5:Int
 n:Int
def B20.cells (b:B20):List AVal:=rD b.w (jK b.w5 b.a b.r b.n5) b.n
structure B20.Ok (b:B20):Prop where
 w:0<=b.w/\b.w<=255
 w5:0<=b.w5/\b.w5<=255
 a:0<=b.a/\b.a<=255
 r:0<=b.r/\b.r<=255
end Go.Proofs
namespace Go.Proofs.YtjhbjbninamhnaaGreat
open Go.ChangeShapes Go.WideShapes Go.ChangeAt Go.RowKit Go.Hx
section
variable {W:World} {H:Type} {enc:TypeId × Value->H} {spare:Nat->Bool} {held:Bool}
theorem rG {n:Int}(h:(Lit.int .u8 n).wf=true):0<=n/\n<=255:=by
 have:=lq h;unfold U8 at this;omega
theorem NF:ei enc Tryz.prog W spare held 30 fun _ zs=>∃ w a r n:Int,zs=jK w a r n/\(0<=w/\w<=255)/\(0<=a/\a<=255)/\(0<=r/\r<=255):=by
 have hu:=Tryz.underlying30;have c1:=Tryz.mw;have c2:=Tryz.dx;refine(oJ (φ:=fun i _ xs=>if i=3 then ∃ n,xs=[.lit (.int .i64 n)] else ∃ n,xs=[.lit (.int .u8 n)]/\(Lit.int .u8 n).wf=true) hu
  (fun cs hcs=>by
   have hc:Tryz.prog.cellsOf 30=4:=(by kernel_rfl);rw[hc]at hcs
   match cs,hcs with
   | [a,b,c,d],_=>simp [c1,c2])
  (fun i hi=>match i,hi with
   | 0,_=>(iC Tryz.underlying5).mono fun _ _ ⟨n,_,h,w⟩=>⟨n,h,w⟩
   | 1,_=>(iC Tryz.underlying5).mono fun _ _ ⟨n,_,h,w⟩=>⟨n,h,w⟩
   | 2,_=>(iC Tryz.underlying5).mono fun _ _ ⟨n,_,h,w⟩=>⟨n,h,w⟩
   | 3,_=>(iC Tryz.underlying3).mono fun _ _ ⟨n,_,h,_⟩=>⟨n,h⟩)).mono fun d zs ⟨ds,rows,_,e,hl1,hl2,hall⟩=>?_
 match rows,ds,hl2,hl1,hall with
 | [x,y,z,u],[d0,d1,d2,d3],_,_,hall =>
  obtain⟨n0,e0,w0⟩:=hall 0 (by simp) (by simp);obtain⟨n1,e1,w1⟩:=hall 1 (by simp) (by simp);obtain⟨n2,e2,w2⟩:=hall 2 (by simp) (by simp);obtain⟨n3,e3⟩:=hall 3 (by simp) (by simp);simp only[Tp,TV]at e0 e1 e2 e3;subst e0;subst e1;subst e2;subst e3;exact⟨n0,n1,n2,n3,by rw[e];rfl,rG w0,rG w1,rG w2⟩
theorem NG:ei enc Tryz.prog W spare held 32 fun _ zs=>∃ b:B20,zs=b.cells/\b.Ok:=by
 have hu:=Tryz.underlying32;have c1:=Tryz.mw;have c2:=Tryz.dx;have c3:=Tryz.CE;refine(oJ (φ:=fun i _ xs=>if i=0 then ∃ n,xs=[.lit (.int .u8 n)]/\(Lit.int .u8 n).wf=true else if i=1 then ∃ w a r n:Int,xs=jK w a r n/\(0<=w/\w<=255)/\(0<=a/\a<=255)/\(0<=r/\r<=255) else ∃ n,xs=[.lit (.int .i64 n)]) hu
  (fun cs hcs=>by
   have hc:Tryz.prog.cellsOf 32=6:=(by kernel_rfl);rw[hc]at hcs
   match cs,hcs with
   | [a,b,c,d,e,f],_=>simp [c1,c2,c3])
  (fun i hi=>match i,hi with
   | 0,_=>(iC Tryz.underlying5).mono fun _ _ ⟨n,_,h,w⟩=>⟨n,h,w⟩
   | 1,_=>NF.mono fun _ _ h=>h
   | 2,_=>(iC Tryz.underlying3).mono fun _ _ ⟨n,_,h,_⟩=>⟨n,h⟩)).mono fun d zs ⟨ds,rows,_,e,hl1,hl2,hall⟩=>?_
 match rows,ds,hl2,hl1,hall with
 | [x,y,z],[d0,d1,d2],_,_,hall =>
  obtain⟨n0,e0,w0⟩:=hall 0 (by simp) (by simp);obtain⟨w5,a,r,n5,e1,k0,k1,k2⟩:=hall 1 (by simp) (by simp);obtain⟨n,e2⟩:=hall 2 (by simp) (by simp);simp only[Tp,TV]at e0 e1 e2;subst e0;subst e1;subst e2;exact⟨⟨n0,w5,a,r,n5,n⟩,by rw[e];rfl,⟨rG w0,k0,k1,k2⟩⟩
theorem NH {r:Reach}{b:Nat}{v:Value}{d:DataW H}{ps:List MemPlace}(hval:Value.okWide Tryz.prog W r b 32 v)(hd:DataW.Trod enc Tryz.prog W 0 spare held 32 v d ps):
  ∃ x:B20,RelV Tryz.prog fQ bZ W (.agg x.cells) v/\x.Ok:=by
 obtain⟨xs,h1,x,rfl,h2⟩:=AQ NG (.inl ⟨_,Tryz.underlying32⟩) hval hd;exact⟨x,h1,h2⟩
end
end Go.Proofs.YtjhbjbninamhnaaGreat
namespace Go.Proofs
open Go.Hx
theorem P2 {d:InfP}(h:RightN d):d.decs<2 ^ d.nodes.length:=by
 have h1:=h.decs;rw[U7]at h1;exact(Nat.div_eq_zero_iff_lt (VI _)).1 h1
theorem u6 {ns:List NodeP}{vars:List Int}(h8:ns.length<=8)(hp:bK vars ns.length)(hc:∀ y∈ns,1<=y.card/\y.card<=4):vars.length<=12:=by
 have:=(pO h8 hp hc).1
 rwa [fM]at this
theorem P3 {d:InfP}(h:InfOk d):InfFit d:=by
 have n8:=h.n.n1;refine⟨⟨by omega,fun x hx=>?_⟩,?_,by have:=h.utils.1;omega,fun u hu=>?_⟩
 ·obtain⟨v,hv⟩:=S8.1 hx;have hn:=h.net.node _ (SK (eF (c:=fun _ _=>0) hv));have hr:=h.net.rows _ (SK (eF (c:=fun _ _=>0) hv));rw[(gp ..).1,(gp ..).2,dE]at hn;unfold fA at hr;rw[nQ]at hr;have hpl:=u6 n8.2 hn.2 h.n.card;refine⟨by omega,?_⟩;by_cases hb:d.decs.testBit v=true
  ·rw[(h.n.dec v x hv hb).1];exact⟨by simp,fun r hr=>by cases hr⟩
  ·rw[jj hb]at hr;have:=(jY n8.2 hn.2 h.n.card).prod;refine⟨by omega,fun r hr'=>?_⟩;have:=(hr.2 r hr').1;omega
 ·exact S6 (P2 h.n) (Tm (by decide) (by omega))
 ·have hu':=h.utils.2 u hu;have:=u6 n8.2 hu'.vars h.n.card;have:=(pO n8.2 hu'.vars h.n.card).prod;have:=hu'.size;omega
theorem yW {d:InfP}(h:InfOk d){p:List (List Int)}(hp:PolOk d p):mK p:=by
 have n8:=h.n.n1;have:=jf (D:=d.decs) (n:=d.nodes.length);have hl:=hp.len;refine⟨by unfold az at hl;omega,fun r hr=>?_⟩;obtain⟨k,hk⟩:=S8.1 hr;obtain⟨v,hv⟩:=get_of_lt (l:=az d) (i:=k) (by have:=get_lt hk;omega);obtain⟨v1,v2,_⟩:=kG hv;obtain⟨x,hx⟩:=get_of_lt v1;have h1:=(hp.row k v x r hv hx hk).1;have h2:=nO h v1 v2;unfold ir at h2;rw[hx]at h2;dsimp only at h2;omega
theorem P4 {d:InfP}(h:InfOk d){p:List (List Int)}(hp:PolOk d p):dF d p=0:=by
 unfold dF;rw[ea h,ea hp];rfl
theorem Dy (k:Nat)(h:k<=6):(60:Int) ^ k<=46656000000:=by
 have h1:(60:Nat) ^ k<=60 ^ 6:=Tm (by decide) h;have h2:(60:Nat) ^ 6=46656000000:=by decide
 rw[h2]at h1;have h3:=Int.ofNat_le.2 h1;rw[Int.natCast_pow]at h3;exact h3
theorem P5 {g:Int}{ns:List NodeP}(h:NetOk g ns)(h6:ns.length<=6){vals:List Int}(hf:bL (ao ns) vals):0<=weight ns vals/\weight ns vals<=46656000000:=by
 have hb:∀ w∈gv ns vals,0<=w/\w<=60:=fun w hw=>by
  obtain⟨v,hv,rfl⟩:=S9.1 hw;obtain⟨x,hx⟩:=get_of_lt (To.1 hv);obtain⟨i,r,a,w,hR⟩:=rX h hx hf;rw[hR.eq];have:=hR.wb;have:=h.g1;omega
 have h1:=nI (b:=60) (by omega) hb;have h2:=Dy (gv ns vals).length (by rw[yJ];omega);exact⟨h1.1,VZ h1.2 h2⟩
theorem Dz {g:Int}{ns:List NodeP}(h:NetOk g ns):cK ns<=1024/\(cK ns:Int)=au (ao ns):=by
 have h1:=h.size;have h2:=fw (l:=ao ns) fun c hc=>by
  obtain⟨x,hx,rfl⟩:=S9.1 hc;exact(h.node x hx).1.1
 unfold cK;omega
theorem P6 {g:Int}{ns:List NodeP}{us:List UtilP}(h:NetOk g ns)(h6:ns.length<=6)(hu:∀ u∈us,UtilOk ns u)(h4:us.length<=4){vals:List Int}(hf:bL (ao ns) vals)(j:Nat):
  -18662400000000<=weight ns vals*bU ns (us.take j) vals/\weight ns vals*bU ns (us.take j) vals<=18662400000000:=by
 obtain⟨a,b⟩:=P5 h h6 hf;obtain⟨c,d⟩:=rY hu h4 vals j;generalize weight ns vals=w at *
 generalize bU ns (us.take j) vals=u at *
 constructor
 ·have h1:w*(-400)<=w*u:=Tr c a;omega
 ·have h1:w*u<=w*400:=Tr d a;omega
def SS (n:Nat)(f:Nat->Int):Int:=((List.range n).map f).sum
theorem uS (f:Nat->Int):SS 0 f=0:=rfl
theorem gz (n:Nat)(f:Nat->Int):SS (n+1) f=SS n f+f n:=by unfold SS;rw[T4];simp
theorem rS {n:Nat}{f g:Nat->Int}(h:∀ i,i<n->f i=g i):SS n f=SS n g:=by
 unfold SS;congr 1;exact Ti fun i hi=>h i (To.1 hi)
theorem Pn (n:Nat)(f g:Nat->Int):SS n (fun i=>f i+g i)=SS n f+SS n g:=by
 induction n with
 | zero=>rfl
 | succ n ih=>rw[gz,gz,gz,ih];omega
theorem C6 (n:Nat):SS n (fun _=>0)=0:=by
 induction n with
 | zero=>rfl
 | succ n ih=>rw[gz,ih];rfl
theorem Po (n m:Nat)(f:Nat->Nat->Int):SS n (fun i=>SS m (f i))=SS m (fun j=>SS n fun i=>f i j):=by
 induction n with
 | zero=>simp only[uS];rw[C6]
 | succ n ih=>simp only[gz];rw[ih,Pn]
theorem Pp {m a:Nat}(h:a<m)(t:Int):SS m (fun j=>if j=a then t else 0)=t:=by
 induction m with
 | zero=>omega
 | succ m ih =>
  rw[gz];by_cases e:a=m
  ·subst e;rw[SQ rfl,rS (g:=fun _=>0) fun i hi=>SO (by omega),C6];omega
  ·rw[ih (by omega),SO (fun h=>e h.symm)];omega
theorem Pq {n:Nat}{f g:Nat->Int}(h:∀ i,i<n->f i<=g i):SS n f<=SS n g:=by
 induction n with
 | zero=>exact Int.le_refl _
 | succ n ih =>
  rw[gz,gz];have:=ih fun i hi=>h i (by omega);have:=h n (by omega);omega
theorem Pr {n:Nat}{f g:Nat->Int}(h:∀ i,i<n->f i<=g i){a:Nat}(ha:a<n)(hl:f a<g a):SS n f<SS n g:=by
 induction n with
 | zero=>omega
 | succ n ih =>
  rw[gz,gz];by_cases e:a=n
  ·subst e;have:=Pq (n:=a) fun i hi=>h i (by omega);omega
  ·have:=ih (fun i hi=>h i (by omega)) (by omega);have:=h n (by omega);omega
def jg (d:InfP)(vals:List Int)(v:Nat):Int:=if d.decs.testBit v=true then d.grain else lE d.nodes vals v
def dX (d:InfP)(vals:List Int):Int:=au ((List.range d.nodes.length).map (jg d vals))
def eZ (d:InfP)(vals:List Int):Int:=dX d vals*bU d.nodes d.utils vals
def cX (ns:List NodeP)(v:Nat)(vals:List Int):Nat:=match ns[v]? with
 | some x=>(bp (aH ns x) (aF vals x.parents)).toNat
 | none=>0
def iL (d:InfP)(c:Nat->Nat->Int)(vals:List Int)(v:Nat):Bool:=decide (c (aX d.decs v) (cX d.nodes v vals)=vals.getD v 0)
def jQ (d:InfP)(c:Nat->Nat->Int)(vals:List Int):Bool:=(az d).all (iL d c vals)
def eE (d:InfP)(c:Nat->Nat->Int)(v0:Nat)(vals:List Int):Bool:=(az d).all fun v=>decide (v=v0) || iL d c vals v
theorem Ps {l:List Int}(h:(0:Int)∈l):au l=0:=by
 induction l with
 | nil=>cases h
 | cons x l ih =>
  rw[il];rcases List.mem_cons.1 h with rfl|h
  ·rw[Int.zero_mul]
  ·rw[ih h,Int.mul_zero]
theorem Pt {g card a b:Int}(ha:0<=a/\a<card)(hb:0<=b/\b<card):(bj g card a).getD b.toNat 0=if a=b then g else 0:=by
 unfold bj;rw[Td,TL];by_cases h:a=b
 ·subst h;rw[SQ rfl,SQ (by rw[Tl];omega),SQ rfl];rfl
 ·rw[SO (by omega),SO h,TR,SQ (by omega)];rfl
theorem Pu (d:InfP)(c:Nat->Nat->Int)(us:List UtilP)(vals:List Int):bU (bP d c) us vals=bU d.nodes us vals:=by
 unfold bU mF;rw[jV]
theorem pI {d:InfP}(hok:InfOk d){v:Nat}{x:NodeP}(hx:d.nodes[v]?=some x){vals:List Int}(hf:bL (ao d.nodes) vals):(cX d.nodes v vals:Int)=bp (aH d.nodes x) (aF vals x.parents)/\cX d.nodes v vals<bH d.nodes x:=by
 have hpl:bK x.parents d.nodes.length:=by
  have:=(hok.net.node _ (SK (eF (c:=fun _ _=>0) hx))).2;rw[(gp ..).2,dE]at this;exact this
 have hin:eR x.parents d.nodes.length:=fun q hq=>by have:=hpl.2 q hq;omega
 have hr:=kE (pR hin hf);unfold cX bH;rw[hx];simp only;omega
theorem C7 {d:InfP}(hok:InfOk d){c:Nat->Nat->Int}(hc:vn d c){vals:List Int}(hf:bL (ao d.nodes) vals){v:Nat}(hv:v<d.nodes.length):
  lE (bP d c) vals v=if d.decs.testBit v=true/\iL d c vals v=false then 0 else jg d vals v:=by
 obtain⟨x,hx⟩:=get_of_lt hv;unfold lE;rw[eF hx];simp only;unfold mE;rw[nQ,(gp ..).2];show ((dR d c (az d).length v x).rows.getD (bp (aH d.nodes (dR d c (az d).length v x)) (aF vals x.parents)).toNat []).getD (vals.getD v 0).toNat 0=_;have hpc:aH d.nodes (dR d c (az d).length v x)=aH d.nodes x:=by unfold aH;rw[(gp ..).2]
 rw[hpc];obtain⟨r1,r2⟩:=pI hok hx hf;have hri:cX d.nodes v vals=(bp (aH d.nodes x) (aF vals x.parents)).toNat:=by unfold cX;rw[hx]
 rw[<- hri];obtain⟨a,ha⟩:=get_of_lt (l:=vals) (i:=v) (by rw[hf.1,cM];exact hv);have hab:=hf.2 v x.card a (cL hx) ha;by_cases hb:d.decs.testBit v=true
 ·have hcc:=hc _ v (cX d.nodes v vals) x (nS hx hb) hx r2;have hrows:(dR d c (az d).length v x).rows=cG d.grain d.nodes c (aX d.decs v) x:=by
   rw[jW hx hb];show x.rows++_=_;rw[(hok.n.dec v x hx hb).1,List.nil_append]
  have hrow:(cG d.grain d.nodes c (aX d.decs v) x).getD (cX d.nodes v vals) []=bj d.grain x.card (c (aX d.decs v) (cX d.nodes v vals)):=by
   unfold cG;rw[Td,List.getElem?_map,Tn r2];rfl
  rw[hrows,hrow,bq ha,Pt hcc hab];unfold iL jg;rw[bq ha,SQ hb];by_cases he:c (aX d.decs v) (cX d.nodes v vals)=a
  ·rw[SQ he,SO (by simp [he])]
  ·rw[SO he,SQ ⟨hb,by simp [he]⟩]
 ·rw[jj hb,SO fun h=>hb h.1];unfold jg lE;rw[SO hb,hx];simp only;unfold mE;rw[<- hri]
theorem Pv {d:InfP}(hok:InfOk d){c:Nat->Nat->Int}(hc:vn d c){vals:List Int}(hf:bL (ao d.nodes) vals):
  weight (bP d c) vals=if jQ d c vals=true then dX d vals else 0:=by
 unfold weight gv;rw[dE];by_cases h:jQ d c vals=true
 ·rw[SQ h];unfold dX;congr 1;refine Ti fun v hv=>?_;have hv':=To.1 hv;rw[C7 hok hc hf hv',SO];rintro⟨hb,ha⟩;unfold jQ at h;have:=Tf.1 h v (dD.2 ⟨hv',hb⟩);rw[ha]at this;cases this
 ·rw[SO h];refine Ps ?_;unfold jQ at h;rw[Tf]at h;obtain⟨v,hv⟩:=V3.1 h;obtain⟨hvm,hva⟩:=Classical.not_imp.1 hv;obtain⟨v1,v2⟩:=dD.1 hvm;refine S9.2 ⟨v,To.2 v1,?_⟩;rw[C7 hok hc hf v1,SQ ⟨v2,by simpa using hva⟩]
def wv (d:InfP)(w:Nat):List Int:=bC (ao d.nodes) w
theorem uT {d:InfP}(hok:InfOk d)(w:Nat):bL (ao d.nodes) (wv d w):=rO (fun c hc=>by
 obtain⟨x,hx,rfl⟩:=S9.1 hc;exact(hok.n.card x hx).1) _
def kH (d:InfP)(c:Nat->Nat->Int):Int:=SS (cK d.nodes) fun w=>if jQ d c (wv d w)=true then eZ d (wv d w) else 0
def gC (d:InfP)(c:Nat->Nat->Int)(v0 r:Nat)(x:Int):Int :=
 SS (cK d.nodes) fun w=>if eE d c v0 (wv d w)=true/\cX d.nodes v0 (wv d w)=r/\(wv d w).getD v0 0=x then eZ d (wv d w) else 0
theorem yK {d:InfP}{c:Nat->Nat->Int}{v0:Nat}(hv:v0∈az d)(vals:List Int):jQ d c vals=true↔eE d c v0 vals=true/\c (aX d.decs v0) (cX d.nodes v0 vals)=vals.getD v0 0:=by
 unfold jQ eE;rw[Tf,Tf];constructor
 ·intro h;exact⟨fun v hv=>by rw[h v hv];simp,of_decide_eq_true (h v0 hv)⟩
 ·rintro⟨h1,h2⟩ v hvm;have:=h1 v hvm;rw[TY,decide_eq_true_eq]at this;rcases this with rfl|h
  ·exact T1 h2
  ·exact h
theorem C8 {d:InfP}(hok:InfOk d){c:Nat->Nat->Int}{v0:Nat}{x0:NodeP}(hx:d.nodes[v0]?=some x0)(hb:d.decs.testBit v0=true):
  kH d c=SS (bH d.nodes x0) fun r=>gC d c v0 r (c (aX d.decs v0) r):=by
 unfold kH gC;rw[Po];refine rS fun w _=>?_;obtain⟨_,r2⟩:=pI hok hx (uT hok w);have hv:v0∈az d:=dD.2 ⟨get_lt hx,hb⟩;have e:∀ r,r<bH d.nodes x0->(if eE d c v0 (wv d w)=true/\cX d.nodes v0 (wv d w)=r/\(wv d w).getD v0 0=c (aX d.decs v0) r then eZ d (wv d w) else 0)=if r=cX d.nodes v0 (wv d w) then (if jQ d c (wv d w)=true then eZ d (wv d w) else 0) else 0:=fun r _=>by
  by_cases h:r=cX d.nodes v0 (wv d w)
  ·subst h;rw[SQ rfl];by_cases ha:jQ d c (wv d w)=true
   ·obtain⟨a1,a2⟩:=(yK hv _).1 ha;rw[SQ ha,SQ ⟨a1,rfl,a2.symm⟩]
   ·rw[SO ha,SO fun h=>ha ((yK hv _).2 ⟨h.1,h.2.2.symm⟩)]
  ·rw[SO h,SO fun h'=>h h'.2.1.symm]
 rw[rS e,Pp r2]
theorem Pw {d:InfP}{c c':Nat->Nat->Int}{v0:Nat}(h:∀ v∈az d,v≠v0->∀ r,c (aX d.decs v) r=c' (aX d.decs v) r)(r:Nat)(x:Int):gC d c v0 r x=gC d c' v0 r x:=by
 have e:∀ vals,eE d c v0 vals=eE d c' v0 vals:=fun vals=>by
  unfold eE;rw[Uk,Tf,Tf];have hk:∀ v∈az d,(decide (v=v0) || iL d c vals v)=(decide (v=v0) || iL d c' vals v):=fun v hv=>by
   by_cases hvv:v=v0
   ·simp [hvv]
   ·unfold iL;rw[h v hv hvv]
  exact⟨fun h1 v hv=>by rw[<- hk v hv];exact h1 v hv,fun h1 v hv=>by rw[hk v hv];exact h1 v hv⟩
 unfold gC;exact rS fun w _=>by rw[e]
def uU:List Int->Int
 | []=>0
 | a :: l=>l.foldl max a
theorem foldl_max (l:List Int):∀ a,a<=l.foldl max a/\(∀ x∈l,x<=l.foldl max a)/\(l.foldl max a=a\/l.foldl max a∈l):=by
 induction l with
 | nil=>exact fun a=>⟨Int.le_refl _,fun x h=>(by cases h),.inl rfl⟩
 | cons b l ih =>
  intro a;obtain⟨h1,h2,h3⟩:=ih (max a b);simp only[TX];refine⟨by omega,fun x hx=>?_,?_⟩
  ·rcases List.mem_cons.1 hx with rfl|hx
   ·omega
   ·exact h2 x hx
  ·rcases h3 with h3|h3
   ·rw[h3];rcases Int.le_total a b with h|h
    ·rw[Int.max_eq_right h];exact .inr (by simp)
    ·rw[Int.max_eq_left h];exact .inl rfl
   ·exact .inr (by simp [h3])
theorem Px {l:List Int}{x:Int}(h:x∈l):x<=uU l:=by
 cases l with
 | nil=>cases h
 | cons a l =>
  obtain⟨h1,h2,_⟩:=foldl_max l a;rcases List.mem_cons.1 h with rfl|h
  ·exact h1
  ·exact h2 x h
theorem Py {l:List Int}(h:l≠[]):uU l∈l:=by
 cases l with
 | nil=>exact absurd rfl h
 | cons a l =>
  rcases(foldl_max l a).2.2 with h|h
  ·show l.foldl max a∈_;rw[h];simp
  ·exact TE _ h
def jR (d:InfP)(c:Nat->Nat->Int)(v0 r:Nat)(n:Nat):List Int:=(List.range n).map fun (x:Nat)=>gC d c v0 r (x:Int)
theorem C9 {d:InfP}{c:Nat->Nat->Int}{v0 r n x:Nat}(h:x<n):(jR d c v0 r n)[x]?=some (gC d c v0 r (x:Int)):=by unfold jR;rw[List.getElem?_map,Tn h];rfl
theorem yL (d:InfP)(c:Nat->Nat->Int)(v0 r n:Nat):(jR d c v0 r n).length=n:=by simp [jR]
def cH (d:InfP)(v:Nat):Nat:=(ir d v).1.toNat
def bV (d:InfP)(v:Nat):Nat:=(ir d v).2.toNat
def uV (d:InfP)(c:Nat->Nat->Int)(v r:Nat):Int:=uU (jR d c v r (bV d v))
def lF (d:InfP)(c:Nat->Nat->Int)(v:Nat):List Int:=(List.range (cH d v)).map fun r=>(((jR d c v r (bV d v)).idxOf (uV d c v r):Nat):Int)
def mG (d:InfP)(p:List (List Int))(v:Nat):Prop:=∀ r,r<cH d v->gC d (fixC p) v r (fixC p (aX d.decs v) r)=uV d (fixC p) v r
instance (d:InfP)(p:List (List Int))(v:Nat):Decidable (mG d p v):=by unfold mG;infer_instance
theorem lG {d:InfP}{v:Nat}{x:NodeP}(hx:d.nodes[v]?=some x)(hc:0<=x.card):cH d v=bH d.nodes x/\(bV d v:Int)=x.card:=by
 unfold cH bV ir;rw[hx];simp only[Int.toNat_natCast];exact⟨trivial,by omega⟩
theorem yM {d:InfP}(hok:InfOk d)(c:Nat->Nat->Int){v:Nat}(hv:v∈az d){r:Nat}(hr:r<cH d v):
  ∃ b:Nat,(lF d c v)[r]?=some (b:Int)/\b<bV d v/\gC d c v r (b:Int)=uV d c v r:=by
 obtain⟨v1,v2⟩:=dD.1 hv;have hrc:=nO hok v1 v2;have hn:1<=bV d v:=by unfold bV;omega
 have hne:jR d c v r (bV d v)≠[]:=fun h=>by
  have:=yL d c v r (bV d v);rw[h]at this;simp at this;omega
 have hm:=Py hne;have hlt:=List.idxOf_lt_length_of_mem hm;have hget:=List.getElem_idxOf hlt;have hlt2:(jR d c v r (bV d v)).idxOf (uU (jR d c v r (bV d v)))<bV d v:=by have:=yL d c v r (bV d v);omega
 refine⟨_,by unfold lF;rw[List.getElem?_map,Tn hr];rfl,hlt2,?_⟩;have h2:=C9 (d:=d) (c:=c) (v0:=v) (r:=r) hlt2;rw[SN hlt,hget]at h2;exact(Option.some.inj h2).symm
theorem Da (d:InfP)(c:Nat->Nat->Int)(v:Nat):(lF d c v).length=cH d v:=by simp [lF]
theorem uW {p:List (List Int)}{k:Nat}(hk:k<p.length)(l:List Int)(k' r:Nat):fixC (p.set k l) k' r=if k'=k then l.getD r 0 else fixC p k' r:=by
 unfold fixC;rw[Td (l:=p.set k l),TL];by_cases h:k=k'
 ·subst h;rw[SQ rfl,SQ hk,SQ rfl];rfl
 ·rw[SO h,SO fun e=>h e.symm,Td (l:=p)]
theorem Db {d:InfP}{v w:Nat}(hv:v∈az d)(hw:w∈az d)(h:aX d.decs v=aX d.decs w):v=w:=by
 obtain⟨v1,v2⟩:=dD.1 hv;obtain⟨w1,w2⟩:=dD.1 hw;have a:=kF v1 v2;have b:=kF w1 w2;rw[h,b]at a;exact(Option.some.inj a).symm
theorem rT {d:InfP}{p:List (List Int)}(hp:PolOk d p){v:Nat}(hv:v∈az d):aX d.decs v<p.length:=by
 obtain⟨v1,v2⟩:=dD.1 hv;rw[hp.len];exact get_lt (kF v1 v2)
theorem Dc {d:InfP}{p:List (List Int)}(hp:PolOk d p){v:Nat}{x:NodeP}(hx:d.nodes[v]?=some x)(hb:d.decs.testBit v=true){l:List Int}(hl:l.length=bH d.nodes x)(ha:∀ a∈l,0<=a/\a<x.card):PolOk d (p.set (aX d.decs v) l):=by
 have hd:=nS hx hb;refine⟨by rw[SU];exact hp.len,fun k w y l' hw hy hl'=>?_⟩;by_cases h:aX d.decs v=k
 ·subst h;rw[hd]at hw;cases hw;rw[hx]at hy;cases hy;rw[S1 (by rw[hp.len];exact get_lt hd)]at hl';cases hl';exact⟨hl,ha⟩
 ·rw[Tb h]at hl';exact hp.row k w y l' hw hy hl'
theorem Pz {d:InfP}(hok:InfOk d){p:List (List Int)}(hp:PolOk d p){v:Nat}(hv:v∈az d):PolOk d (p.set (aX d.decs v) (lF d (fixC p) v)):=by
 obtain⟨v1,v2⟩:=dD.1 hv;obtain⟨x,hx⟩:=get_of_lt v1;have hc:=hok.n.card x (SK hx);obtain⟨n1,n2⟩:=lG hx (by omega);refine Dc hp hx v2 (by rw[Da,n1]) fun a ha=>?_;obtain⟨r,hr⟩:=S8.1 ha;obtain⟨b,h1,h2,_⟩:=yM hok (fixC p) hv (r:=r) (by have:=get_lt hr;rwa [Da]at this);rw[h1]at hr;cases hr;omega
theorem PA {d:InfP}(hok:InfOk d){p:List (List Int)}(hp:PolOk d p){v:Nat}(hv:v∈az d)(l:List Int):kH d (fixC (p.set (aX d.decs v) l))=SS (cH d v) fun r=>gC d (fixC p) v r (l.getD r 0):=by
 obtain⟨v1,v2⟩:=dD.1 hv;obtain⟨x,hx⟩:=get_of_lt v1;have hc:=hok.n.card x (SK hx);obtain⟨n1,_⟩:=lG hx (by omega);rw[C8 hok hx v2,n1];refine rS fun r _=>?_;rw[uW (rT hp hv),SQ rfl];exact Pw (fun w hw hne r=>by
  rw[uW (rT hp hv),SO fun e=>hne (Db hw hv e)]) _ _
theorem PB {d:InfP}(hok:InfOk d)(p:List (List Int)){v:Nat}(hv:v∈az d):kH d (fixC p)=SS (cH d v) fun r=>gC d (fixC p) v r (fixC p (aX d.decs v) r):=by
 obtain⟨v1,v2⟩:=dD.1 hv;obtain⟨x,hx⟩:=get_of_lt v1;have hc:=hok.n.card x (SK hx);obtain⟨n1,_⟩:=lG hx (by omega);rw[C8 hok hx v2,n1]
theorem Dd {d:InfP}(c:Nat->Nat->Int)(v r:Nat){a:Int}(ha:0<=a/\a<bV d v):gC d c v r a<=uV d c v r:=by
 obtain⟨b,rfl⟩:=S2 ha.1;exact Px (SK (C9 (d:=d) (c:=c) (v0:=v) (r:=r) (n:=bV d v) (by omega)))
theorem De {d:InfP}(hok:InfOk d){p:List (List Int)}(hp:PolOk d p){v r:Nat}(hv:v∈az d)(hr:r<cH d v):0<=fixC p (aX d.decs v) r/\fixC p (aX d.decs v) r<bV d v:=by
 obtain⟨v1,v2⟩:=dD.1 hv;obtain⟨x,hx⟩:=get_of_lt v1;have hc:=hok.n.card x (SK hx);obtain⟨n1,n2⟩:=lG hx (by omega);rw[n2];exact zb hp _ v r x (nS hx v2) hx (by omega)
theorem PC {d:InfP}(hok:InfOk d){p:List (List Int)}(hp:PolOk d p){v:Nat}(hv:v∈az d)(h:¬ mG d p v):kH d (fixC p)<kH d (fixC (p.set (aX d.decs v) (lF d (fixC p) v))):=by
 rw[PA hok hp hv,PB hok p hv];have hle:∀ r,r<cH d v->gC d (fixC p) v r (fixC p (aX d.decs v) r)<=gC d (fixC p) v r ((lF d (fixC p) v).getD r 0):=fun r hr=>by
  obtain⟨b,h1,_,h3⟩:=yM hok (fixC p) hv hr;rw[bq h1,h3];exact Dd _ _ _ (De hok hp hv hr)
 obtain⟨r,hr⟩:=V3.1 h;obtain⟨hr1,hr2⟩:=Classical.not_imp.1 hr;refine Pr hle hr1 ?_;obtain⟨b,h1,_,h3⟩:=yM hok (fixC p) hv hr1;have:=Dd (d:=d) (fixC p) v r (De hok hp hv hr1);rw[bq h1,h3];omega
def isLocal (d:InfP)(p:List (List Int)):Prop:=∀ v∈az d,mG d p v
instance (d:InfP)(p:List (List Int)):Decidable (isLocal d p):=by unfold isLocal;infer_instance
def nL (d:InfP)(p:List (List Int))(v:Nat):List (List Int):=if mG d p v then p else p.set (aX d.decs v) (lF d (fixC p) v)
end Go.Proofs
namespace Go.Hx
variable {P:Program}
structure Own2 (lo:Nat)(H:AHeap)(e:TypeId)(v:AVal)(l:List AVal)(u:AVal)(m:List AVal):Prop where
 a:aA lo H e v l
 b:aA lo H e u m
 ne:∀ i g n g' n',v=.own i g 0 n 1->u≠.own i g' 0 n' 1
theorem Own2.symm {lo:Nat}{H:AHeap}{e:TypeId}{v u:AVal}{l m:List AVal}(h:Own2 lo H e v l u m):Own2 lo H e u m v l:=⟨h.b,h.a,fun i g n g' n' h1 h2=>h.ne i g' n' g n h2 h1⟩
theorem Own2.nil {lo:Nat}{H:AHeap}{e:TypeId}:Own2 lo H e (.lit (.slice none 0 0)) [] (.lit (.slice none 0 0)) []:=⟨.nil,.nil,fun _ _ _ _ _ h=>(by cases h)⟩
theorem Own2.keep {lo:Nat}{H H':AHeap}{e:TypeId}{v u:AVal}{l m:List AVal}(h:Own2 lo H e v l u m)(hn:H.next<=H'.next)(hk:∀ id,lo<=id->id<H.next->H'.get id=H.get id):Own2 lo H' e v l u m :=
 ⟨h.a.keep (Nat.le_refl _) hn fun id _ h1 h2 _ _=>hk id h1 h2,h.b.keep (Nat.le_refl _) hn fun id _ h1 h2 _ _=>hk id h1 h2,h.ne⟩
theorem Own2.app {lo n:Nat}{H:AHeap}{e t:TypeId}{v u x:AVal}{l m z:List AVal}(ht:P.underlying t=some (.slice e))(hz:P.cellsOf e=1)(hzero:bE P e=some z)(hx:x.one=true)
  (hb:(l.length+1)*P.bytesOf e<=2 ^ 46/\l.length+1<=2 ^ 46) (h:Own2 lo H e v l u m) (hlo:lo<=H.next) (hn:n=H.next+1):
  ∃ v' H',bf P (ext H [.arr 0 e [x]]) n t t v (.own H.next 0 0 1 1)=some (v',H')/\Own2 lo H' e v' (l++[x]) u m/\H.next<=H'.next/\(∀ k,k<lo->H'.get k=H.get k):=by
 have hsrc:cw (ext H [.arr 0 e [x]]) 1 (.own H.next 0 0 1 1)=some (1,[x]):=by
  unfold cw;have:=ag (H:=ext H [.arr 0 e [x]]) (g:=0) (bT (b:=.arr 0 e [x]));simp [this]
 have hne:(ext H [Blk.arr 0 e [x]]).next=H.next+1:=rfl;obtain⟨ha,hbb,hnn⟩:=h;rcases ha with ⟨rfl,rfl⟩|⟨i,g,h1,h2,rfl,h4⟩
 ·have n2:(ext (ext H [.arr 0 e [x]]) [.arr 0 e [x]]).next=H.next+2:=rfl;have old:∀ k,k<H.next->(ext (ext H [.arr 0 e [x]]) [.arr 0 e [x]]).get k=H.get k:=fun k hk=>by rw[cz (by rw[hne];omega),cz hk]
  refine⟨.own (H.next+1) 0 0 1 1,ext (ext H [.arr 0 e [x]]) [.arr 0 e [x]],?_,⟨.inr ⟨H.next+1,0,by omega,by rw[n2];omega,by simp,?_⟩,hbb.keep (Nat.le_refl _) (by rw[n2];omega) fun id _ _ hid _ _=>old id hid,fun i g n g' n' he hu=>?_⟩,by rw[n2];omega,fun k hk=>old k (by omega)⟩
  ·unfold bf;rw[ht];simp only[hzero,hz,Option.bind_some,hsrc];rw[SO (by decide),SQ (by simpa using hb),qQ (by rw[hn,hne]),hn];rfl
  ·rw[<- hne];exact bT
  ·have:=(AVal.own.inj he).1;rcases hbb with ⟨rfl,_⟩|⟨j,g2,_,a2,rfl,_⟩
   ·cases hu
   ·have:=(AVal.own.inj hu).1;omega
 ·have h4':(ext H [.arr 0 e [x]]).get i=some (.arr g e l):=by rw[cz h2];exact h4
  refine⟨.own i (g+1) 0 (l.length+1) 1,(ext H [.arr 0 e [x]]).upd i (.arr (g+1) e (l++[x])),?_,⟨.inr ⟨i,g+1,h1,by rw[aw,hne];omega,by simp,by rw[ab,SQ rfl]⟩,hbb.keep (Nat.le_refl _) (by rw[aw,hne];omega) fun id g3 _ hid _ hu=>?_,fun i' g' n' g'' n'' he hu=>hnn i g l.length g'' n'' rfl (by rw[hu,(AVal.own.inj he).1])⟩,by rw[aw,hne];omega,fun k hk=>?_⟩
  ·unfold bf;rw[ht];have hl:=ag h4';simp only[hzero,hz,Option.bind_some,hsrc,hl];rw[SQ ⟨trivial,trivial,by omega,hb.1,hb.2,by simp [hx]⟩];simp
  ·rw[ab,SO,cz hid];rintro rfl;exact hnn id g l.length g3 _ rfl hu
  ·rw[ab,SO (by omega),cz (by omega)]
end Go.Hx

namespace Go.Proofs
open Go.Hx
def gE (d:InfP)(vals:List Int):List Int:=(List.range d.nodes.length).map (jg d vals)
theorem vz (d:InfP)(vals:List Int):(gE d vals).length=d.nodes.length:=by simp [gE]
theorem zu {d:InfP}{vals:List Int}{v:Nat}(h:v<d.nodes.length):(gE d vals)[v]?=some (jg d vals v):=by
 unfold gE;rw[List.getElem?_map,Tn h];rfl
structure RowNo (d:InfP)(x:NodeP)(vals:List Int)(v i:Nat)(r:List Int)(a w:Int):Prop where
 idx:bp (aH d.nodes x) (aF vals x.parents)=i
 row:x.rows[i]?=some r
 val:vals[v]?=some a
 a0:0<=a
 hw:r[a.toNat]?=some w
 wb:0<=w/\w<=60
 eq:jg d vals v=w
 al:a<r.length
theorem Ef {d:InfP}(hok:InfOk d){v:Nat}{x:NodeP}(hx:d.nodes[v]?=some x)(hb:¬ d.decs.testBit v=true){vals:List Int}(hf:bL (ao d.nodes) vals):∃ i r a w,RowNo d x vals v i r a w:=by
 have hx2:=eF (c:=fun _ _=>0) hx;rw[jj hb]at hx2;obtain⟨i,r,a,w,hR⟩:=rX hok.net hx2 (vals:=vals) (by rw[jV];exact hf);have hi:=hR.idx;rw[nQ]at hi;have hg:=hok.net.g1;have h60:=hR.wb;refine⟨i,r,a,w,hi,hR.row,hR.val,hR.a0,hR.hw,by omega,?_,hR.al⟩;unfold jg;rw[SO hb];unfold lE;rw[hx];simp only;unfold mE;rw[hi,Int.toNat_natCast,bq hR.row,bq hR.val,bq hR.hw]
theorem Eg {d:InfP}(hok:InfOk d){vals:List Int}(hf:bL (ao d.nodes) vals){v:Nat}(hv:v<d.nodes.length):0<=jg d vals v/\jg d vals v<=60:=by
 obtain⟨x,hx⟩:=get_of_lt hv;by_cases hb:d.decs.testBit v=true
 ·unfold jg;rw[SQ hb];have:=hok.net.g1;omega
 ·obtain⟨i,r,a,w,hR⟩:=Ef hok hx hb hf;rw[hR.eq];exact hR.wb
theorem Eh {d:InfP}(hok:InfOk d){vals:List Int}(hf:bL (ao d.nodes) vals)(k:Nat):0<=au ((gE d vals).take k)/\au ((gE d vals).take k)<=167961600000000:=by
 have hb:∀ w∈gE d vals,0<=w/\w<=60:=fun w hw=>by
  obtain⟨v,hv,rfl⟩:=S9.1 hw;exact Eg hok hf (To.1 hv)
 have h1:=nI (b:=60) (by omega) (l:=(gE d vals).take k) fun x hx=>hb x (Tg hx);have h2:=DW ((gE d vals).take k).length (by have:=hok.n.n1;rw[SX,vz];omega);omega
def fb (d:InfP):List Int:=(List.range (cK d.nodes)).map fun (i:Nat)=>dX d (wv d i)
def fg (d:InfP):List Int:=(List.range (cK d.nodes)).map fun (i:Nat)=>eZ d (wv d i)
theorem Rb {d:InfP}{k:Nat}(h:k<cK d.nodes):(fb d)[k]?=some (dX d (wv d k)):=by unfold fb;rw[List.getElem?_map,Tn h];rfl
theorem Ei {d:InfP}{k:Nat}(h:k<cK d.nodes):(fg d)[k]?=some (eZ d (wv d k)):=by unfold fg;rw[List.getElem?_map,Tn h];rfl
theorem Ej (d:InfP):(fb d).length=cK d.nodes:=by simp [fb]
theorem zw (d:InfP):(fg d).length=cK d.nodes:=by simp [fg]
theorem Ek {ns:List NodeP}{us:List UtilP}(hu:∀ u∈us,UtilOk ns u)(h4:us.length<=4)(vals:List Int):-400<=bU ns us vals/\bU ns us vals<=400:=by
 have b:=rY hu h4 vals us.length;rw[SP (Nat.le_refl _)]at b;exact b
set_option maxHeartbeats 4000000 in
theorem Rc (d:InfP)(hok:InfOk d)(hD:d.decs<2 ^ 64)(H:AHeap)(K:ARes->AHeap->Prop)(hK:K (.ret (.tup [af (fb d),af (fg d)])) H):ae Tryz.prog G0 65 [jd d] H K:=by
 refine ae.clo ⟨_,Tryz.func65,rfl,rfl⟩ fun hcl=>?_;obtain⟨ns,hns⟩:∃ ns,ns=d.nodes:=⟨_,rfl⟩
 have n8:=hok.n.n1;have hcd:=hok.n.card;have hcards:∀ c∈ao d.nodes,1<=c/\c<=4:=fun c hc=>by
  obtain⟨x,hx,rfl⟩:=S9.1 hc;exact hcd x hx
 have sm:cU (ao d.nodes):=lS (by rw[cM];omega) hcards;have hp:=fw fun c hc=>(hcards c hc).1;have hsz:=sm.prod;have hw:((cK d.nodes:Nat):Int)=au (ao d.nodes):=by unfold cK;omega
 have hu4:=hok.utils.1;have hus:=hok.utils.2;refine ae.aZ (n:=105) (rs:=[.cell 2 46,.cell 3 46]) Tryz.func65 rfl rfl rfl (by decide) (by kernel_rfl) (by simp) ?_;simp only[go_sem,kJ,cT];refine aB.clo (D1 d.nodes (by omega) _ _ ⟨trivial,?_⟩);simp only[go_sem];refine aB.clo (DV (ao d.nodes) _ _ ⟨trivial,?_⟩);simp only[go_sem];obtain⟨H2,hH2⟩:∃ H2,H2=ext (ext H [.arr 0 38 (cT d),.arr 0 46 [.lit (.slice none 0 0)],.arr 0 46 [.lit (.slice none 0 0)],.arr 0 46 [af (ao d.nodes)]]) [.arr 0 46 [af (ao d.nodes)]]:=⟨_,rfl⟩
 have n2:H2.next=H.next+5:=by rw[hH2];rfl
 have o2:Over H H2:=by rw[hH2];exact(Over.ext _ _).trans (.ext _ _)
 have g0:H2.get H.next=some (.arr 0 38 (cT d)):=by rw[hH2,gK];exact bB H _ 0 (by simp)
 have g1:H2.get (H.next+1)=some (.arr 0 46 [.lit (.slice none 0 0)]):=by rw[hH2,gK];exact bB H _ 1 (by simp)
 have g2:H2.get (H.next+2)=some (.arr 0 46 [.lit (.slice none 0 0)]):=by rw[hH2,gK];exact bB H _ 2 (by simp)
 have g3:H2.get (H.next+3)=some (.arr 0 46 [af (ao d.nodes)]):=by rw[hH2,gK];exact bB H _ 3 (by simp)
 have g4:H2.get (H.next+4)=some (.arr 0 46 [af (ao d.nodes)]):=by rw[hH2,gK];exact bB H _ 4 (by simp)
 refine W.env fun E hE=>?_;have e1:E 1=.ptr H.next 0 0:=by rw[hE];simp only[go_sem]
 have e2:E 2=.ptr (H.next+1) 0 0:=by rw[hE];simp only[go_sem]
 have e3:E 3=.ptr (H.next+2) 0 0:=by rw[hE];simp only[go_sem]
 have e4:E 4=.ptr (H.next+3) 0 0:=by rw[hE];simp only[go_sem]
 have e20:E 20=.clo 143 [] [.ptr (H.next+4) 0 0]:=by rw[hE];rfl
 clear hE;unfold cT at hH2;show W _ _ _ _ _ _ ⟨E,ext (ext H [.arr 0 38 [.lit (.int .i64 d.grain),.vec d.nodes.length (aG d.nodes),.lit (.int .u64 (d.decs:Int)),.vec d.utils.length (aR d.utils)],.arr 0 46 [.lit (.slice none 0 0)],.arr 0 46 [.lit (.slice none 0 0)],.arr 0 46 [af (ao d.nodes)]]) [.arr 0 46 [af (ao d.nodes)]]⟩;rw[<- hH2];have hit:=DU (ao d.nodes) (fun c hc=>(hcards c hc).1) sm (H.next+4) (H2.next+1) (by omega);refine W.EA (f:=143) (first:=[]) (cap:=[.ptr (H.next+4) 0 0]) (by show E 20=_;exact e20) hit
  (fun k Hx=>H2.next<Hx.next/\(∀ id,id<H2.next->id≠H.next+1->id≠H.next+2->Hx.get id=H2.get id)/\∃ v u,Hx.get (H.next+1)=some (.arr 0 46 [v])/\Hx.get (H.next+2)=some (.arr 0 46 [u])/\Own2 (H2.next+2) Hx 3 v (ints ((fb d).take k)) u (ints ((fg d).take k)))
  (fun _ _=>False)
  (fun k Hx h=>(h.2.1 _ (by omega) (by omega) (by omega)).trans g4)
  (fun k H1 H3 h hw=>⟨by have:=hw.1;omega,fun id h1 h2 h3=>(hw.2 _ (by omega) (by have:=h.1;omega)).trans (h.2.1 id h1 h2 h3),by
   obtain⟨v,u,a1,a2,a3⟩:=h.2.2;exact⟨v,u,(hw.2 _ (by omega) (by have:=h.1;omega)).trans a1,(hw.2 _ (by omega) (by have:=h.1;omega)).trans a2,a3.keep hw.1 fun id h1 h2=>hw.2 id (by omega) h2⟩⟩)
  (fun k Hx h=>h.1)
  (fun k H1 b h=>⟨h.1,fun id h1 h2 h3=>by rw[ab,SO (by omega)];exact h.2.1 id h1 h2 h3,by
   obtain⟨v,u,a1,a2,a3⟩:=h.2.2;exact⟨v,u,by rw[ab,SO (by omega)];exact a1,by rw[ab,SO (by omega)];exact a2,a3.keep (Nat.le_refl _) fun id h1 h2=>by rw[ab,SO (by omega)]⟩⟩)
  (fun _ _ _ h=>h) (fun k H1 b h=>by unfold pQ at h ⊢;rw[ab,SO (by omega)];exact h)
  (fun b=>⟨by rw[bI];simp,fun id h1 h2 h3=>cz h1,_,_,by rw[cz (by omega)];exact g1,by rw[cz (by omega)];exact g2,.nil⟩) (by decide)
  (fun x hx=>by
   obtain⟨k,hk⟩:=S8.1 hx;obtain⟨_,rfl⟩:=vp hk;rfl) (fun _ _ _=>trivial) (fun _ _ _=>trivial) (fun k y Hx B Bb hy hj hcs hn hB hBb=>?_) (fun Hx hj hn=>?_) (fun _ hs _=>hs.elim) (fun _ _ hs _=>hs.elim)
 ·obtain⟨hk,rfl⟩:=vp hy;refine W.vs ?_;simp only[go_sem,iZ,cW,mR,TX,UX,Uf,UG,hB];obtain⟨H3,hH3⟩:∃ H3,H3=Hx.upd H2.next Bb:=⟨_,rfl⟩
  rw[<- hH3];obtain⟨st,pd,n',en,ps',as',bo,hBe⟩:=hBb;have n3:H3.next=Hx.next:=by rw[hH3];rfl
  have o3:∀ id,id≠H2.next->H3.get id=Hx.get id:=fun id h=>by rw[hH3,ab,SO h]
  have jB:H3.get H2.next=some Bb:=by rw[hH3,ab,SQ rfl]
  obtain⟨pv,pu,a1,a2,a3⟩:=hj.2.2;have k0:=(o3 _ (by omega)).trans ((hj.2.1 H.next (by omega) (by omega) (by omega)).trans g0);have k3:=(o3 _ (by omega)).trans ((hj.2.1 (H.next+3) (by omega) (by omega) (by omega)).trans g3);have k1:=(o3 _ (by omega)).trans a1;have k2:=(o3 _ (by omega)).trans a2;have a4:Own2 (H2.next+2) H3 3 pv (ints ((fb d).take k)) pu (ints ((fg d).take k)):=a3.keep (by omega) fun id h1 h2=>o3 id (by omega);have kN:H3.get (H2.next+1)=some (.arr 0 3 (ints (bC (ao d.nodes) k))):=(o3 _ (by omega)).trans hcs;obtain⟨vals,hvals⟩:∃ vals,vals=wv d k:=⟨_,rfl⟩
  have hfit:bL (ao d.nodes) vals:=by rw[hvals];exact rO (fun c hc=>(hcards c hc).1) _
  have kN2:H3.get (H2.next+1)=some (.arr 0 3 (ints vals)):=by rw[hvals];exact kN
  have hvl:vals.length=d.nodes.length:=by rw[hfit.1,cM]
  unfold cT at k0;refine W.en (fun E1=>E1 1=.ptr H.next 0 0 /\ E1 2=.ptr (H.next+1) 0 0 /\ E1 3=.ptr (H.next+2) 0 0 /\ E1 4=.ptr (H.next+3) 0 0 /\ E1 6=.own (H2.next+1) 0 0 d.nodes.length 1) (by simp only[go_sem,cW,e1,e2,e3,e4,cM]) fun E1 ⟨m1,m2,m3,m4,m6⟩=>?_
  have l0:=ag k0;refine W.vs ?_;simp only[go_sem,m1,l0];refine W.aL 576460752236315520 (by rfl) (fun ρ2 H4=>∃ v:Nat,ρ2 26=aa v/\v<=d.nodes.length/\Over H3 H4/\ρ2 7=aa (au ((gE d vals).take v))) (fun ρ2 H=>d.nodes.length - (iv (ρ2 26)).toNat) ?_ ?_
  ·simp only[go_sem];exact⟨0,rfl,by omega,.refl _,by simp [gi]⟩
  rintro ρ2 H4 ⟨v,h26,hv,o4,h7⟩;refine W.en (fun E2=>E2 1=.ptr H.next 0 0 /\ E2 2=.ptr (H.next+1) 0 0 /\ E2 3=.ptr (H.next+2) 0 0 /\ E2 4=.ptr (H.next+3) 0 0 /\ E2 6=.own (H2.next+1) 0 0 d.nodes.length 1 /\ E2 7=aa (au ((gE d vals).take v)) /\ E2 24=.vec d.nodes.length (aG d.nodes) /\ E2 25=aa d.nodes.length /\ E2 26=aa v) (by simp only[go_sem,m1,m2,m3,m4,m6,h7,h26]) fun E2 ⟨p1,p2,p3,p4,p6,p7,p24,p25,p26⟩=>?_
  have o4n:=o4.next;have q0:=ag ((o4.old _ (by omega)).trans k0);have gN4:=(o4.old _ (by omega)).trans kN2;refine W.vs ?_;by_cases hb:(v:Int)<d.nodes.length
  ·obtain⟨x,hx⟩:=get_of_lt (l:=d.nodes) (i:=v) (by omega);have hne:=dC hx;have c0:=mz hx;have c1:v*3+3<=(aG d.nodes).length:=(by rw[gT];omega);have wt:=Eh hok hfit (v+1);rw[aO (zu (d:=d) (vals:=vals) (v:=v) (by omega)),eO]at wt;have w1:=SM ((v:Int)+1) (by omega);obtain⟨H5,hH5⟩:∃ H5,H5=ext H4 [.arr 0 73 [.lit (.int .i64 x.card),.vec x.parents.length (ints x.parents),ah x.rows]]:=⟨_,rfl⟩
   have n5:H5.next=H4.next+1:=(by rw[hH5];rfl);have f0:=ag (show H5.get H.next=some (.arr 0 38 [.lit (.int .i64 d.grain),.vec d.nodes.length (aG d.nodes),.lit (.int .u64 (d.decs:Int)),.vec d.utils.length (aR d.utils)]) by rw[hH5,dH _ _ _ (by omega)];exact(o4.old _ (by omega)).trans k0);have f4:=ag (show H5.get H4.next=some (.arr 0 73 [.lit (.int .i64 x.card),.vec x.parents.length (ints x.parents),ah x.rows]) by rw[hH5];exact bT);have gN5:H5.get (H2.next+1)=some (.arr 0 3 (ints vals)):=(by rw[hH5,dH _ _ _ (by omega)];exact gN4);have fN:=ag gN5;have s1:=fun t x y=>kP (P:=Tryz.prog) (t:=t) (x:=x) (y:=y) (k':=.i64) (s:=v) hD;have s2:=fun t x y=>mQ (P:=Tryz.prog) (t:=t) (x:=x) (y:=y) (s:=v) hD;cases hbit:d.decs.testBit v
   ·obtain⟨i,r,a,w,hR⟩:=Ef hok hx (by rw[hbit];simp) hfit;obtain⟨a',rfl⟩:=S2 hR.a0;rw[hR.eq]at wt;have hxp:bK x.parents d.nodes.length:=by
     have:=(hok.net.node _ (SK (eF (c:=fun _ _=>0) hx))).2;rw[(gp ..).2,dE]at this;exact this
    have hin:eR x.parents d.nodes.length:=fun q hq=>by have:=hxp.2 q hq;omega
    have hpc:bO Tryz.prog G0 (.clo 69 [] []) [.vec d.nodes.length (aG d.nodes),.lit (.int .i64 v),.own (H2.next+1) 0 0 d.nodes.length 1] H5 (.lit (.int .i64 i)) [H2.next+1]:=by
     have:=zf d.nodes v x vals hx hin (jY n8.2 hxp hcd) hfit H5 (H2.next+1) d.nodes.length (by omega) gN5 hvl.symm;rw[hR.idx]at this;exact this
    have hri:=hR.row;have hrne:=aK hri;have hrl:(i:Int)<x.rows.length:=(by have:=get_lt hri;omega);have hva:=hR.val;have hra:r[a']?=some w:=(by have:=hR.hw;rw[Int.toNat_natCast]at this;exact this);have hrane:=aK hra;have hal:=hR.al;have w2:=SM (au ((gE d vals).take v)*w) (by omega);simp only[go_sem,p1,p24,p25,p26,hb,hne,c0,c1];rw[<- hH5];simp only[go_sem,f0,s1,s2,hbit];refine W.draw 16 [0,0,2,0,8,0,0,120,254,510,0,0,3072,7168,16382,32766] Tryz.mixed (by kernel_rfl) (by kernel_rfl) ?_;simp only[go_sem,p1,p6,p7,f0,f4,ah];refine⟨.lit (.int .i64 i),[H2.next+1],hpc,?_⟩;have hvn:(v:Int)<d.nodes.length:=hb;simp only[go_sem,p1,p6,p7,p26,fN,hri,hrne,hrl,hra,hrane,hva,hal,hvn,w1,w2];exact⟨by omega,⟨_,_,_,_,_,_,_,by rw[hH5,dH _ _ _ (by omega),o4.old _ (by omega),jB,hBe]⟩,⟨v+1,by simp,by omega,by rw[hH5];exact o4.trans (.ext _ _),by rw[aO (zu (d:=d) (vals:=vals) (v:=v) (by omega)),eO,hR.eq]⟩,by rw[h26];simp only[aa,aQ];omega⟩
   ·have hg:jg d vals v=d.grain:=SQ hbit;rw[hg]at wt;have w2:=SM (au ((gE d vals).take v)*d.grain) (by omega);simp only[go_sem,p1,p24,p25,p26,hb,hne,c0,c1];rw[<- hH5];simp only[go_sem,p1,p7,p26,f0,s1,s2,hbit,w1,w2];exact⟨by omega,⟨_,_,_,_,_,_,_,by rw[hH5,dH _ _ _ (by omega),o4.old _ (by omega),jB,hBe]⟩,⟨v+1,by simp,by omega,by rw[hH5];exact o4.trans (.ext _ _),by rw[aO (zu (d:=d) (vals:=vals) (v:=v) (by omega)),eO,hg]⟩,by rw[h26];simp only[aa,aQ];omega⟩
  ·rw[SP (by rw[vz];omega)]at p7;have hgp:au (gE d vals)=dX d vals:=rfl;rw[hgp]at p7;simp only[go_sem,p25,p26,hb,p1,q0];refine W.aL 9903520309671356180765651968 (by rfl) (fun ρ3 H6=>∃ j:Nat,ρ3 62=aa j/\j<=d.utils.length/\Over H4 H6/\ρ3 10=aa (bU d.nodes (d.utils.take j) vals)) (fun ρ3 H=>d.utils.length - (iv (ρ3 62)).toNat) ?_ ?_
   ·simp only[go_sem];exact⟨0,rfl,by omega,.refl _,by simp [bU]⟩
   rintro ρ3 H6 ⟨j,h62,hjl,o6,h10⟩;refine W.env fun E3 hE3=>?_;have r2:E3 2=.ptr (H.next+1) 0 0:=(by rw[hE3];simp only[go_sem,p2]);have r3:E3 3=.ptr (H.next+2) 0 0:=(by rw[hE3];simp only[go_sem,p3]);have r4:E3 4=.ptr (H.next+3) 0 0:=(by rw[hE3];simp only[go_sem,p4]);have r6:E3 6=.own (H2.next+1) 0 0 d.nodes.length 1:=(by rw[hE3];simp only[go_sem,p6]);have r7:E3 7=aa (dX d vals):=(by rw[hE3];simp only[go_sem,p7]);have r10:E3 10=aa (bU d.nodes (d.utils.take j) vals):=(by rw[hE3];simp only[go_sem,h10]);have r60:E3 60=.vec d.utils.length (aR d.utils):=(by rw[hE3];simp only[go_sem]);have r61:E3 61=aa d.utils.length:=(by rw[hE3];simp only[go_sem]);have r62:E3 62=aa j:=(by rw[hE3];simp only[go_sem,h62]);clear hE3;have o36:=o4.trans o6;have o6n:=o6.next;have gN6:=(o36.old _ (by omega)).trans kN2;have q3:=(o36.old _ (by omega)).trans k3;refine W.vs ?_;by_cases hb2:(j:Int)<d.utils.length
   ·obtain⟨u,hku⟩:=get_of_lt (l:=d.utils) (i:=j) (by omega);have huo:=hus u (SK hku);have hne:=rL hku;have c0:=uJ hku;have c1:j*2+2<=(aR d.utils).length:=(by rw[kD];omega);have v8:=huo.vars.len;obtain⟨H7,hH7⟩:∃ H7,H7=ext H6 [.arr 0 82 [.vec u.vars.length (ints u.vars),.vec u.w.length (ints u.w)]]:=⟨_,rfl⟩
    have n7:H7.next=H6.next+1:=(by rw[hH7];rfl);have l7:=ag (show H7.get H6.next=some (.arr 0 82 [.vec u.vars.length (ints u.vars),.vec u.w.length (ints u.w)]) by rw[hH7];exact bT);have l7N:=ag (show H7.get (H2.next+1)=some (.arr 0 3 (ints vals)) by rw[hH7,cz (by omega)];exact gN6);have l73:=ag (show H7.get (H.next+3)=some (.arr 0 46 [af (ao d.nodes)]) by rw[hH7,cz (by omega)];exact q3);have smu:=pO n8.2 huo.vars hcd;have hin:eR u.vars d.nodes.length:=fun q hq=>by have:=huo.vars.2 q hq;omega
    have fp:bL (aF (ao d.nodes) u.vars) (aF vals u.vars):=pR (x:=⟨0,u.vars,[]⟩) hin hfit;have pl:(aF (ao d.nodes) u.vars).length=u.vars.length:=fM _ _;have vl:(aF vals u.vars).length=u.vars.length:=fM _ _;have ft:∀ j,bL ((aF (ao d.nodes) u.vars).take j) ((aF vals u.vars).take j):=fun j=>⟨by simp [pl,vl],fun i c b h1 h2=>by
     rw[Vw]at h1 h2;split at h1
     ·rename_i hik;rw[SQ hik]at h2;exact fp.2 i c b h1 h2
     ·cases h1⟩
    have hr:∀ j,0<=fK ((aF (ao d.nodes) u.vars).take j) ((aF vals u.vars).take j)/\fK ((aF (ao d.nodes) u.vars).take j) ((aF vals u.vars).take j)<68719476737:=fun j=>by
     rw[uK (ft j).1];have a:=kE (ft j);have b:=(smu.take j).prod;omega
    simp only[go_sem,r60,r61,r62,hb2,hne,c0,c1];rw[<- hH7];refine W.aL 38685035931857774884986880 (by rfl) (fun ρ4 H8=>H8=H7/\∃ i:Nat,ρ4 69=aa i/\i<=u.vars.length/\ρ4 13=aa (fK ((aF (ao d.nodes) u.vars).take i) ((aF vals u.vars).take i))) (fun ρ4 H=>u.vars.length - (iv (ρ4 69)).toNat) ?_ ?_
    ·simp only[go_sem];exact⟨0,rfl,by omega,rfl⟩
    rintro ρ4 H8 ⟨rfl,i,h69,hi,h13⟩;refine W.vs ?_;by_cases hb3:(i:Int)<u.vars.length
    ·obtain⟨q,hq⟩:=get_of_lt (l:=u.vars) (i:=i) (by omega);obtain⟨t,rfl,y,hy⟩:=lu (l:=d.nodes) (hin q (SK hq)).1 (hin q (SK hq)).2;obtain⟨b,hbv⟩:=get_of_lt (l:=vals) (i:=t) (by rw[hvl];exact get_lt hy);have hyb:=hfit.2 t y.card b (cL hy) hbv;have a1:(aF (ao d.nodes) u.vars)[i]?=some y.card:=(by rw[lO hq,Int.toNat_natCast,bq (cL hy)]);have a2:(aF vals u.vars)[i]?=some b:=(by rw[lO hq,Int.toNat_natCast,bq hbv]);have hne2:=aK hq;have hne3:=aK hbv;have hyc:=cL hy;have hne4:=aK hyc;have ht:(t:Int)<d.nodes.length:=(by have:=get_lt hy;omega);have htc:(t:Int)<(ao d.nodes).length:=(by rw[cM];omega);have ht2:(t:Int)<vals.length:=(by omega);have w1:=SM ((i:Int)+1) (by omega);have r1:=hr (i+1);rw[uL a1 a2]at r1;have r0:=hr i;have m0:0<=fK ((aF (ao d.nodes) u.vars).take i) ((aF vals u.vars).take i)*y.card:=Us r0.1 (by have:=hcd y (SK hy);omega);have w2:=SM (fK ((aF (ao d.nodes) u.vars).take i) ((aF vals u.vars).take i)*y.card) (by omega);have w3:=SM (fK ((aF (ao d.nodes) u.vars).take i) ((aF vals u.vars).take i)*y.card+b) (by omega);simp only[go_sem,h69,hb3,hq,hne2];refine W.draw 10 [0,0,0,6,14,31,0,0,192,448] Tryz.mixed (by kernel_rfl) (by kernel_rfl) ?_;simp only[go_sem,h69,h13,r4,r6,l73,l7N,hne4,ht,htc,hbv,hyc,w1,w2,w3];exact⟨⟨_,_,_,_,_,_,_,by rw[hH7,cz (by omega),o36.old _ (by omega),jB,hBe]⟩,⟨i+1,by simp,by omega,by rw[uL a1 a2]⟩,by omega⟩
    ·rw[SP (by omega),SP (by omega),uK (by rw[pl,vl])]at h13;have hx:=kE fp;obtain⟨ix,hix⟩:=S2 hx.1;have hsz2:=huo.size;obtain⟨w,hw'⟩:=get_of_lt (l:=u.w) (i:=ix) (by omega);have hwne:=aK hw';have hwl:(ix:Int)<u.w.length:=(by have:=get_lt hw';omega);have eu:mF d.nodes vals u=w:=(by unfold mF;rw[hix,Int.toNat_natCast,bq hw']);have us1:bU d.nodes (d.utils.take (j+1)) vals=bU d.nodes (d.utils.take j) vals+w:=(by rw[aO hku];unfold bU;simp [eu]);have b1:=rY hus hu4 vals j;have b2:=rY hus hu4 vals (j+1);rw[us1]at b2;have w1:=SM ((j:Int)+1) (by omega);have w2:=SM (bU d.nodes (d.utils.take j) vals+w) (by omega);rw[hix]at h13;simp only[go_sem,h69,h13,r10,r62,l7,hb3,hw',hwne,hwl,w1,w2];exact⟨by omega,⟨_,_,_,_,_,_,_,by rw[hH7,cz (by omega),o36.old _ (by omega),jB,hBe]⟩,⟨j+1,by simp,by omega,by rw[hH7];exact o6.trans (.ext _ _),by rw[us1]⟩,by rw[h62];simp only[aa,aQ];omega⟩
   ·rw[SP (by omega)]at r10;have hkw:k<cK d.nodes:=hk;have bu:=Ek hus hu4 vals;have bg:=Eh hok hfit d.nodes.length;rw[SP (by rw[vz];omega),hgp]at bg;have m1:-67184640000000000<=dX d vals*bU d.nodes d.utils vals/\dX d vals*bU d.nodes d.utils vals<=67184640000000000:=by
     constructor
     ·have h1:dX d vals*(-400)<=dX d vals*bU d.nodes d.utils vals:=Tr bu.1 bg.1;omega
     ·have h1:dX d vals*bU d.nodes d.utils vals<=dX d vals*400:=Tr bu.2 bg.1;omega
    have w2:=SM (dX d vals*bU d.nodes d.utils vals) (by omega);have hl1:((fb d).take k).length=k:=(by rw[SX,Ej];omega);have hl2:((fg d).take k).length=k:=(by rw[SX,zw];omega);have hw40:cK d.nodes<=2 ^ 40:=(by omega);have a6:Own2 (H2.next+2) H6 3 pv (ints ((fb d).take k)) pu (ints ((fg d).take k)):=a4.keep o36.next fun id h1 h2=>o36.old id h2;obtain⟨pv',H7,hA1,hO1,hn7,hp7⟩:=a6.app (P:=Tryz.prog) (t:=46) (x:=aa (dX d vals)) (n:=H6.next+1) Tryz.underlying46 Tryz.dx Tryz.dQ rfl (by rw[Tryz.eC,aP,hl1];omega) (by omega) rfl;simp only[aa]at hA1;have l61:=ag ((o36.old _ (by omega)).trans k1);have l61e:∀ L,(ext H6 L).live (H.next+1) 0=some (46,[pv]):=fun L=>(dv (by omega)).trans l61;have l71:=ag ((hp7 (H.next+1) (by omega)).trans ((o36.old _ (by omega)).trans k1));obtain⟨H8,hH8⟩:∃ H8,H8=H7.upd (H.next+1) (.arr 0 46 [pv']):=⟨_,rfl⟩
    have n8':H8.next=H7.next:=(by rw[hH8];rfl);have o8:∀ id,id≠H.next+1->H8.get id=H7.get id:=fun id h=>by rw[hH8,ab,SO h]
    have a8:Own2 (H2.next+2) H8 3 pv' (ints ((fb d).take k)++[aa (dX d vals)]) pu (ints ((fg d).take k)):=hO1.keep (by omega) fun id h1 h2=>o8 id (by omega);obtain⟨pu',H9,hA2,hO2,hn9,hp9⟩:=a8.symm.app (P:=Tryz.prog) (t:=46) (x:=aa (dX d vals*bU d.nodes d.utils vals)) (n:=H8.next+1) Tryz.underlying46 Tryz.dx Tryz.dQ rfl (by rw[Tryz.eC,aP,hl2];omega) (by omega) rfl;simp only[aa]at hA2;have l82:=ag ((o8 (H.next+2) (by omega)).trans ((hp7 (H.next+2) (by omega)).trans ((o36.old _ (by omega)).trans k2)));have l82e:∀ L,(ext H8 L).live (H.next+2) 0=some (46,[pu]):=fun L=>(dv (by omega)).trans l82;have l92:=ag ((hp9 (H.next+2) (by omega)).trans ((o8 (H.next+2) (by omega)).trans ((hp7 (H.next+2) (by omega)).trans ((o36.old _ (by omega)).trans k2))));have one1:=hO1.a.one;have cel1:=hO1.a.cells;have one2:=hO2.a.one;have cel2:=hO2.a.cells;have pc1:=a6.a.cells;have pc2:=a6.b.cells;simp only[go_sem,r2,r3,r7,r61,r62,hb2,l61,l71,hA1,one1,cel1];rw[<- hH8];simp only[go_sem,r3,r7,r10,l82,l92,hA2,one2,cel2,w2,gG];have hget:∀ id,id<H2.next+2->id≠H.next+1->id≠H.next+2->(H9.upd (H.next+2) (.arr 0 46 [pu'])).get id=H3.get id:=fun id h1 h2 h3=>by
     rw[ab,SO h3,hp9 id h1,o8 id h2,hp7 id h1,o36.old id (by omega)]
    have ew:ints ((fb d).take (k+1))=ints ((fb d).take k)++[aa (dX d vals)]:=(by rw[aO (Rb hkw),hvals];simp [ints,aa]);have eg:ints ((fg d).take (k+1))=ints ((fg d).take k)++[aa (dX d vals*bU d.nodes d.utils vals)]:=(by rw[aO (Ei hkw),hvals];simp [ints,aa,eZ]);refine⟨by rw[hget _ (by omega) (by omega) (by omega)];exact jB,by rw[aw];omega,⟨by rw[aw];omega,fun id h1 h2 h3=>by rw[hget id (by omega) h2 h3,o3 _ (by omega)];exact hj.2.1 id h1 h2 h3,pv',pu',?_,by rw[ab,SQ rfl],?_⟩,?_⟩
    ·rw[ab,SO (by omega),hp9 _ (by omega),hH8,ab,SQ rfl]
    ·rw[ew,eg];exact hO2.symm.keep (by rw[aw];exact Nat.le_refl _) fun id h1 h2=>by rw[ab,SO (by omega)]
    ·unfold pQ;rw[hget _ (by omega) (by omega) (by omega)];exact kN
 ·obtain⟨v,u,a1,a2,a3⟩:=hj.2.2;rw[ze]at a3;rw[SP (by rw[Ej];exact Nat.le_refl _),SP (by rw[zw];exact Nat.le_refl _)]at a3;have l1:=ag a1;have l2:=ag a2;have c1:=a3.a.cells;have c2:=a3.b.cells;have ovx:Over H Hx:=⟨by omega,fun id hi=>(hj.2.1 id (by omega) (by omega) (by omega)).trans (o2.old id hi)⟩
  simp only[go_sem];refine W.draw 3 [0,0,1] Tryz.mixed (by kernel_rfl) (by kernel_rfl) ?_;have on1:=a3.a.one;have on2:=a3.b.one;have l2u:∀ b,(Hx.upd (H.next+1) b).live (H.next+2) 0=some (46,[u]):=fun b=>(nV (by omega)).trans l2;have l1u:∀ b,((Hx.upd (H.next+1) (.arr 0 46 [v])).upd (H.next+2) b).live (H.next+1) 0=some (46,[v]):=fun b=>(nV (by omega)).trans zD;have hne12:∀ x:Nat,x=H.next+1->¬ x=H.next+2:=fun x h=>by omega
  simp only[go_sem,e2,e3,l1,l2,c1,c2,on1,on2,l2u,l1u];refine⟨hne12,?_⟩;have a5:Own2 (H2.next+2) ((Hx.upd (H.next+1) (.arr 0 46 [v])).upd (H.next+2) (.arr 0 46 [u])) 3 v (ints (fb d)) u (ints (fg d)):=a3.keep (by rw[aw,aw];exact Nat.le_refl _) fun id h1 _=>by rw[ab,SO (by omega),ab,SO (by omega)]
  refine ay.bx aS hcl ((ovx.upd (by omega) _).upd (by omega) _) ?_ hK;exact .tup rfl fun i hi _=>match i,hi with
   | 0,_=>a5.a.eX fun i hi=>by show H.next<=i;omega
   | 1,_=>a5.b.eX fun i hi=>by show H.next<=i;omega
theorem Ea {l:List Int}{v:Int}{k:Nat}(h:∀ j,j<k->∀ b,l[j]?=some b->b≠v)(hk:l[k]?=some v):l.idxOf v=k:=by
 induction l generalizing k with
 | nil=>simp at hk
 | cons a l ih =>
  cases k with
  | zero=>simp only[List.getElem?_cons_zero,Option.some.injEq]at hk;subst hk;simp
  | succ k =>
   have ha:=h 0 (by omega) a rfl;have hr:=ih (k:=k) (fun j hj b hb=>h (j+1) (by omega) b (by simpa using hb)) (by simpa using hk);have hbe:(a == v)=false:=beq_false_of_ne ha;simp [List.idxOf_cons,hbe,hr]
def ed (d:InfP)(c:Nat->Nat->Int)(v0 r:Nat)(x:Int)(k:Nat):Int :=
 SS k fun w=>if eE d c v0 (wv d w)=true/\cX d.nodes v0 (wv d w)=r/\(wv d w).getD v0 0=x then eZ d (wv d w) else 0
def jl (d:InfP)(c:Nat->Nat->Int)(v0 r k:Nat):List Int:=(List.range (bV d v0)).map fun (x:Nat)=>ed d c v0 r (x:Int) k
def eG (d:InfP)(c:Nat->Nat->Int)(v0 k:Nat):List (List Int):=(List.range (cH d v0)).map fun r=>jl d c v0 r k
theorem vA (d:InfP)(c:Nat->Nat->Int)(v0 r k:Nat):(jl d c v0 r k).length=bV d v0:=by simp [jl]
theorem sf (d:InfP)(c:Nat->Nat->Int)(v0 k:Nat):(eG d c v0 k).length=cH d v0:=by simp [eG]
theorem zx {d:InfP}{c:Nat->Nat->Int}{v0 k r:Nat}(h:r<cH d v0):(eG d c v0 k)[r]?=some (jl d c v0 r k):=by unfold eG;rw[List.getElem?_map,Tn h];rfl
theorem zy {d:InfP}{c:Nat->Nat->Int}{v0 k r x:Nat}(h:x<bV d v0):(jl d c v0 r k)[x]?=some (ed d c v0 r (x:Int) k):=by unfold jl;rw[List.getElem?_map,Tn h];rfl
theorem Rd (d:InfP)(c:Nat->Nat->Int)(v0 r:Nat):jl d c v0 r 0=List.replicate (bV d v0) 0:=by
 unfold jl ed;simp only[uS];rw[UK,TJ]
theorem El (d:InfP)(c:Nat->Nat->Int)(v0:Nat):eG d c v0 0=List.replicate (cH d v0) (List.replicate (bV d v0) 0):=by
 unfold eG;simp only[Rd];rw[UK,TJ]
theorem Em (d:InfP)(c:Nat->Nat->Int)(v0 r:Nat)(x:Int):ed d c v0 r x (cK d.nodes)=gC d c v0 r x:=rfl
theorem Re {d:InfP}{c:Nat->Nat->Int}{v0 k:Nat}(h:eE d c v0 (wv d k)=false):eG d c v0 (k+1)=eG d c v0 k:=by
 unfold eG jl ed;simp only[gz,h];simp
theorem Rf {d:InfP}{c:Nat->Nat->Int}{v0 k r x:Nat}(h:eE d c v0 (wv d k)=true)(hr:cX d.nodes v0 (wv d k)=r)(hx:(wv d k).getD v0 0=(x:Int))(hrn:r<cH d v0)(hxn:x<bV d v0):
  eG d c v0 (k+1)=(eG d c v0 k).set r ((jl d c v0 r k).set x (ed d c v0 r (x:Int) k+eZ d (wv d k))):=by
 apply Tk;intro i;rw[TL,sf];by_cases hi:i<cH d v0
 ·rw[zx hi,zx hi];by_cases hri:r=i
  ·subst hri;rw[SQ rfl,SQ hi];congr 1;apply Tk;intro j;rw[TL,vA];by_cases hj:j<bV d v0
   ·rw[zy hj,zy hj];by_cases hxj:x=j
    ·subst hxj;rw[SQ rfl,SQ hj];unfold ed;rw[gz,SQ ⟨h,hr,hx⟩]
    ·rw[SO hxj];unfold ed;rw[gz,SO fun e=>hxj (by have:=e.2.2;rw[hx]at this;exact Int.ofNat.inj this)];simp
   ·rw[SV (by rw[vA];omega),SV (by rw[vA];omega),SO (by omega)]
    try (split<;>rfl)
  ·rw[SO hri];congr 1;unfold jl;refine Ti fun j _=>?_;unfold ed;rw[gz,SO fun e=>hri (by rw[<- hr];exact e.2.1)];simp
 ·rw[SV (by rw[sf];omega),SV (by rw[sf];omega),SO (by omega)]
  try (split<;>rfl)
theorem En {d:InfP}(hok:InfOk d)(h6:d.nodes.length<=6){vals:List Int}(hf:bL (ao d.nodes) vals):-18662400000000<=eZ d vals/\eZ d vals<=18662400000000:=by
 have hb:∀ w∈gE d vals,0<=w/\w<=60:=fun w hw=>by
  obtain⟨v,hv,rfl⟩:=S9.1 hw;exact Eg hok hf (To.1 hv)
 have h1:=nI (b:=60) (by omega) hb;have h2:=Dy (gE d vals).length (by rw[vz];omega);have h3:0<=dX d vals/\dX d vals<=46656000000:=⟨h1.1,VZ h1.2 h2⟩
 have h4:=Ek hok.utils.2 hok.utils.1 vals;unfold eZ;generalize dX d vals=w at *
 generalize bU d.nodes d.utils vals=u at *
 constructor
 ·have h1:w*(-400)<=w*u:=Tr h4.1 h3.1;omega
 ·have h1:w*u<=w*400:=Tr h4.2 h3.1;omega
theorem zz {d:InfP}(hok:InfOk d)(h6:d.nodes.length<=6)(c:Nat->Nat->Int)(v0 r:Nat)(x:Int)(k:Nat):-(18662400000000*k:Int)<=ed d c v0 r x k/\ed d c v0 r x k<=18662400000000*k:=by
 induction k with
 | zero=>simp [ed,uS]
 | succ k ih =>
  have e:ed d c v0 r x (k+1)=ed d c v0 r x k+(if eE d c v0 (wv d k)=true/\cX d.nodes v0 (wv d k)=r/\(wv d k).getD v0 0=x then eZ d (wv d k) else 0):=by unfold ed;rw[gz]
  rw[e];have:=En hok h6 (uT hok k)
  push_cast
  split<;>omega
theorem Eo {d:InfP}(hok:InfOk d):cK d.nodes<=1024:=by
 have:=(Dz hok.net).1
 rwa [DQ]at this
def vB (d:InfP):List AVal:=[.lit (.int .i64 d.grain),.vec d.nodes.length (aG d.nodes),.lit (.int .u64 (d.decs:Int)),.vec d.utils.length (aR d.utils),.lit (.slice none 0 0),af (fb d),af (fg d),.lit (.int .i64 0)]
structure ExH (d:InfP)(p:List (List Int))(v0 db eb pb rb sb so:Nat)(rv:AVal)(H:AHeap):Prop where
 hd:H.get db=some (kK d)
 he:H.get eb=some (.arr 0 3 [.lit (.int .i64 v0)])
 hp:H.get pb=some (.arr 0 33 [ah p])
 hr:H.get rb=some (.arr 0 33 [rv])
 hs:H.get sb=some (.arr 0 110 [.ptr so 0 0])
 hso:H.get so=some (.arr 0 130 (vB d))
theorem ExH.keep {d:InfP}{p:List (List Int)}{v0 db eb pb rb sb so:Nat}{rv:AVal}{H H':AHeap}(h:ExH d p v0 db eb pb rb sb so rv H)(hk:∀ id,id=db\/id=eb\/id=pb\/id=rb\/id=sb\/id=so->H'.get id=H.get id):ExH d p v0 db eb pb rb sb so rv H' :=
 ⟨(hk _ (by simp)).trans h.hd,(hk _ (by simp)).trans h.he,(hk _ (by simp)).trans h.hp,(hk _ (by simp)).trans h.hr,(hk _ (by simp)).trans h.hs,(hk _ (by simp)).trans h.hso⟩
theorem vC {d:InfP}(hok:InfOk d){v:Nat}{x:NodeP}(hx:d.nodes[v]?=some x):(bH d.nodes x:Int)=au (aH d.nodes x)/\bK x.parents d.nodes.length/\eR x.parents d.nodes.length/\cU (aH d.nodes x):=by
 have hxp:bK x.parents d.nodes.length:=by
  have:=(hok.net.node _ (SK (eF (c:=fun _ _=>0) hx))).2;rw[(gp ..).2,dE]at this;exact this
 have ps:=jY hok.n.n1.2 hxp hok.n.card;exact⟨by have:=ps.prod;unfold bH;omega,hxp,fun q hq=>by have:=hxp.2 q hq;omega,ps⟩
set_option maxHeartbeats 4000000 in
theorem Rg (d:InfP)(hok:InfOk d)(hf:InfFit d)(h6:d.nodes.length<=6)(p:List (List Int))(hp:PolOk d p)(v0:Nat)(hv0:v0∈az d)(k:Nat)(hk:k<cK d.nodes)(db eb pb rb sb so N n lo:Nat)(rv:AVal)(ids:List Nat)
  (H:AHeap) (hE:ExH d p v0 db eb pb rb sb so rv H) (hM:OwnM lo H 46 3 rv ids ((eG d (fixC p) v0 k).map ints)) (hg:H.get N=some (.arr 0 3 (ints (wv d k)))) (hN:N<H.next) (hn:n=d.nodes.length)
  (K:ARes->AHeap->Prop) (hK:∀ H',H'.next=H.next->(∀ id,id ∉ ids->H'.get id=H.get id)->OwnM lo H' 46 3 rv ids ((eG d (fixC p) v0 (k+1)).map ints)->K (.ret (.tup [])) H'):
  ae Tryz.prog G0 68 [aa k,.own N 0 0 n 1,.ptr db 0 0,.ptr eb 0 0,.ptr pb 0 0,.ptr rb 0 0,.ptr sb 0 0] H K:=by
 subst hn;obtain⟨vals,hvals⟩:∃ vals,vals=wv d k:=⟨_,rfl⟩
 rw[<- hvals]at hg;have hfit:bL (ao d.nodes) vals:=by rw[hvals];exact uT hok k
 have hvl:vals.length=d.nodes.length:=by rw[hfit.1,cM]
 have n8:=hok.n.n1.2;have hD:=hf.decs;obtain⟨v01,v02⟩:=dD.1 hv0;have ld:=ag hE.hd;have le:=ag hE.he;have lp:=ag hE.hp;have lr:=ag hE.hr;have ls:=ag hE.hs;have lso:=ag hE.hso;have lN:=ag hg;unfold cT at ld;unfold vB at lso;have hpl:p.length<=d.nodes.length:=by rw[hp.len];exact jf
 refine ae.aZ (n:=70) (rs:=[]) Tryz.func68 rfl rfl rfl (by decide) (by kernel_rfl) (by simp) ?_;simp only[go_sem,ld];refine W.aL 140737488340480 (by rfl) (fun ρ H'=>H'=H/\∃ v:Nat,ρ 14=aa v/\v<=d.nodes.length/\ρ 9=aa (aX d.decs v)/\∀ u,u<v->d.decs.testBit u=true->u=v0\/iL d (fixC p) vals u=true) (fun ρ H=>d.nodes.length - (iv (ρ 14)).toNat) ?_ ?_
 ·simp only[go_sem];exact⟨0,rfl,by omega,rfl,fun u hu=>absurd hu (S7 _)⟩
 rintro ρ H' ⟨rfl,v,h14,hv,h9,hag⟩;refine W.vs ?_;by_cases hb:(v:Int)<d.nodes.length
 ·obtain⟨x,hx⟩:=get_of_lt (l:=d.nodes) (i:=v) (by omega);have s1:=fun t x y=>kP (P:=Tryz.prog) (t:=t) (x:=x) (y:=y) (k':=.i64) (s:=v) hD;have s2:=fun t x y=>mQ (P:=Tryz.prog) (t:=t) (x:=x) (y:=y) (s:=v) hD;have w1:=SM ((v:Int)+1) (by omega);have hpv:aX d.decs v<=v:=by
   have:(dm d.decs v).length<=v:=jf;exact this
  have w2:=SM ((aX d.decs v:Int)+1) (by omega);cases hbit:d.decs.testBit v
  ·simp only[go_sem,h14,hb,ld,s1,s2,hbit,w1];exact⟨⟨v+1,by simp,by omega,by rw[nK,hbit];exact h9,fun u hu hub=>by
    by_cases huv:u=v
    ·subst huv;rw[hbit]at hub;cases hub
    ·exact hag u (by omega) hub⟩,by omega⟩
  by_cases hvv:v=v0
  ·subst hvv;simp only[go_sem,h14,hb,ld,s1,s2,hbit];refine W.draw 19 [0,0,3,7,15,15,63,127,15,271,15,15,3855,8191,16383,15,15,98319,229391] Tryz.mixed (by kernel_rfl) (by kernel_rfl) ?_;simp only[go_sem,h14,h9,le,w1,w2];exact⟨⟨v+1,by simp,by omega,by rw[nK,hbit];simp,fun u hu hub=>by
    by_cases huv:u=v
    ·exact .inl huv
    ·exact hag u (by omega) hub⟩,by omega⟩
  have hvv2:¬ (v:Int)=v0:=by omega
  obtain⟨hrn,hxp,hin,ps⟩:=vC hok hx;obtain⟨r1,r2⟩:=pI hok hx hfit;have hvm:v∈az d:=dD.2 ⟨by omega,hbit⟩;have hplt:=rT hp hvm;obtain⟨l,hl⟩:=get_of_lt hplt;obtain⟨ll,lr'⟩:=hp.row _ v x l (nS hx hbit) hx hl;obtain⟨a,ha⟩:=get_of_lt (l:=l) (i:=cX d.nodes v vals) (by omega);obtain⟨b,hbv⟩:=get_of_lt (l:=vals) (i:=v) (by omega);have hca:fixC p (aX d.decs v) (cX d.nodes v vals)=a:=by unfold fixC;rw[bq hl,bq ha]
  have hpc:bO Tryz.prog G0 (.clo 69 [] []) [.vec d.nodes.length (aG d.nodes),.lit (.int .i64 v),.own N 0 0 d.nodes.length 1] H' (.lit (.int .i64 (cX d.nodes v vals))) [N]:=by
   have:=zf d.nodes v x vals hx hin ps hfit H' N d.nodes.length hN hg hvl.symm;rw[<- r1]at this;exact this
  have gl:(p.map fun r=>AVal.vec r.length (ints r))[aX d.decs v]?=some (.vec l.length (ints l)):=by rw[List.getElem?_map,hl];rfl
  have gne:=aK hl;have hpi:(aX d.decs v:Int)<p.length:=by omega
  have hlne:=aK ha;have hli:(cX d.nodes v vals:Int)<l.length:=by have:=get_lt ha;omega
  have hvne:=aK hbv;have hvi:(v:Int)<vals.length:=by omega
  have hagN:iL d (fixC p) vals v=decide (a=b):=by unfold iL;rw[hca,bq hbv]
  simp only[go_sem,h14,hb,ld,s1,s2,hbit];refine W.draw 19 [0,0,3,7,15,15,63,127,15,271,15,15,3855,8191,16383,15,15,98319,229391] Tryz.mixed (by kernel_rfl) (by kernel_rfl) ?_;simp only[go_sem,h9,ld,le,lp,hvv2,ah,hl,gne,hpi];refine⟨.lit (.int .i64 (cX d.nodes v vals)),[N],hpc,?_⟩;have hvn:(v:Int)<d.nodes.length:=hb;by_cases hab:a=b
  ·subst hab;simp only[go_sem,h14,h9,lN,ha,hlne,hli,hbv,hvn,w1,w2];exact⟨⟨v+1,by simp,by omega,by rw[nK,hbit];simp,fun u hu hub=>by
    by_cases huv:u=v
    ·subst huv;exact .inr (by rw[hagN];simp)
    ·exact hag u (by omega) hub⟩,by omega⟩
  ·simp only[go_sem,lN,ha,hlne,hli,hbv,hvn,hab];have hno:eE d (fixC p) v0 (wv d k)=false:=by
    rw[<- hvals];unfold eE;rw[List.all_eq_false];exact⟨v,hvm,by rw[hagN];simp [hvv,hab]⟩
   exact ay.mk (Nat.le_refl _) (hK H' rfl (fun _ _=>rfl) (by rw[Re hno];exact hM))
 ·have hyes:eE d (fixC p) v0 (wv d k)=true:=by
   rw[<- hvals];unfold eE;rw[Tf];intro u hu;obtain⟨u1,u2⟩:=dD.1 hu;rcases hag u (by omega) u2 with h|h
   ·simp [h]
   ·simp [h]
  obtain⟨x,hx⟩:=get_of_lt v01;have hxc:=hok.n.card x (SK hx);obtain⟨nr,nc⟩:=lG hx (by omega);obtain⟨hrn,hxp,hin,ps⟩:=vC hok hx;obtain⟨r1,r2⟩:=pI hok hx hfit;obtain⟨b,hbv⟩:=get_of_lt (l:=vals) (i:=v0) (by omega);have hbr:=hfit.2 v0 x.card b (cL hx) hbv;obtain⟨xb,rfl⟩:=S2 hbr.1;obtain⟨r,hr⟩:∃ r,r=cX d.nodes v0 vals:=⟨_,rfl⟩
  rw[<- hr]at r1 r2;have hrn2:r<cH d v0:=by omega
  have hxn:xb<bV d v0:=by omega
  have hpc:bO Tryz.prog G0 (.clo 69 [] []) [.vec d.nodes.length (aG d.nodes),.lit (.int .i64 v0),.own N 0 0 d.nodes.length 1] H' (.lit (.int .i64 r)) [N]:=by
   have:=zf d.nodes v0 x vals hx hin ps hfit H' N d.nodes.length hN hg hvl.symm;rw[<- r1]at this;exact this
  obtain⟨tab,htab⟩:∃ t,t=eG d (fixC p) v0 k:=⟨_,rfl⟩
  obtain⟨row,hrow⟩:∃ t,t=jl d (fixC p) v0 r k:=⟨_,rfl⟩
  have htl:tab.length=cH d v0:=by rw[htab];exact sf ..
  have hrl:row.length=bV d v0:=by rw[hrow];exact vA ..
  have htr:tab[r]?=some row:=by rw[htab,hrow];exact zx hrn2
  have hrx:row[xb]?=some (ed d (fixC p) v0 r (xb:Int) k):=by rw[hrow];exact zy hxn
  rw[<- htab]at hM;have ht0:tab≠[]:=fun h=>by rw[h]at htr;simp at htr
  obtain⟨tb,tg,tb1,tb2,hrv,hgt,htn⟩:=hM.zG (by simpa using ht0);have htn:=htn (by decide);rw[SZ]at hrv;obtain⟨id,hid⟩:=get_of_lt (l:=ids) (i:=r) (by rw[hM.len,SZ];omega);have hmr:(tab.map ints)[r]?=some (ints row):=by rw[List.getElem?_map,htr];rfl
  have hgid:=hM.row r id _ hid hmr;obtain⟨hs,hhs⟩:∃ hs,hs=List.zipWith (fun i n=>AVal.own i 0 0 n 1) ids ((tab.map ints).map List.length):=⟨_,rfl⟩
  rw[<- hhs]at hgt;have hhk:hs[r]?=some (.own id 0 0 (bV d v0) 1):=by
   rw[hhs,Vk,hid,List.getElem?_map,hmr];show some (AVal.own id 0 0 (ints row).length 1)=_;rw[aP,hrl]
  have hhn:=aK hhk;have lt:=ag hgt;have lid:=ag hgid;have bk:=zz hok h6 (fixC p) v0 r (xb:Int) k;have bg:=En hok h6 hfit;have bw:=Eo hok;have w1:=SM (ed d (fixC p) v0 r (xb:Int) k+eZ d vals) (by omega);have hgk:(fg d)[k]?=some (eZ d vals):=by rw[hvals];exact Ei hk
  have hgn:=aK hgk;have hkl:(k:Int)<(fg d).length:=by rw[zw];omega
  have hrt:(r:Int)<tab.length:=by omega
  have hxr:(xb:Int)<bV d v0:=by omega
  have hrxn:=aK hrx;have hvne:=aK hbv;have hvi:(v0:Int)<vals.length:=by omega
  have hvn:(v0:Int)<d.nodes.length:=by omega
  have hset:setAt (ints row) xb [.lit (.int .i64 (ed d (fixC p) v0 r (xb:Int) k+eZ d vals))]=ints (row.set xb (ed d (fixC p) v0 r (xb:Int) k+eZ d vals)):=gD (by omega);simp only[go_sem,h14,hb];refine W.en (fun E=>E 0=aa k /\ E 1=.own N 0 0 d.nodes.length 1 /\ E 2=.ptr db 0 0 /\ E 3=.ptr eb 0 0 /\ E 5=.ptr rb 0 0 /\ E 6=.ptr sb 0 0) (by simp only[go_sem]) fun E ⟨e0,e1,e2,e3,e5,e6⟩=>?_
  refine W.vs ?_;simp only[go_sem];refine W.draw 21 [0,0,2,0,0,30,63,127,0,0,768,1792,4095,8191,0,16384,49152,114688,0,507904,1032192] Tryz.mixed (by kernel_rfl) (by kernel_rfl) ?_;simp only[go_sem,e1,e2,e3,e5,ld,le,lr];refine⟨.lit (.int .i64 r),[N],hpc,?_⟩;rw[hrv]at lr;simp only[go_sem,e0,e1,e2,e3,e5,e6,le,ls,lso,lN,hrv,lt,hrt,hhk,lid,hbv,hvn,hrx,hxr,hgk,hgn,hkl,w1,hset];have hy:=Rf (r:=r) (x:=xb) hyes (by rw[<- hvals,hr]) (by rw[<- hvals];exact bq hbv) hrn2 hxn;rw[<- hvals,<- htab,<- hrow]at hy;refine⟨by omega,ay.mk (by rw[aw];exact Nat.le_refl _) (hK _ rfl (fun i hi=>by rw[ab,SO];rintro rfl;exact hi (SK hid)) ?_)⟩;rw[hy,UU];exact hM.store (by decide) hid hmr (by rw[aP,aP,SU])
end Go.Proofs
