/- Own work: contracts. -/
import Derived.Test.YtcccmbeolcjacaaConC
import Derived.Test.YtcccmbeolcjacaaRows
import Derived.Test.YtcccmbeolcjacaaLibC
import Derived.ProofKit
import Derived.Test.YtcccmbeolcjacaaConB
set_option linter.all false
set_option maxHeartbeats 8000000
set_option maxRecDepth 100000
namespace Go.Proofs
open Go.Hx
variable {l:List Ty}{i nx:Nat}{H:S2}{x:Ty}
structure D20 where
 g:Int
 ps:List Ts
 ord:List Int
 Z:Int
 rem:Bool
 us:List Ty
structure D20.Ok (d:D20):Prop where
 g:U8 d.g
 ps:∀x∈d.ps,x.Ok
 pl:(d.ps.length:Int)<2 ^ 63
 ol:(d.ord.length:Int)<2 ^ 63
 o8:∀x∈d.ord,U8 x
 Z:U8 d.Z
 us:∀u∈d.us,u.Ok
 ul:(d.us.length:Int)<2 ^ 63
def jO (us:List Ty):List S1:=(us.map Ty.cells).flatten
def D20.cells (d:D20):List S1:=[.lit (.int .u8 d.g),.M d.ps.length (ea d.ps),.M d.ord.length (bJ d.ord),.lit (.int .u8 d.Z),.lit (.bool d.rem),.M d.us.length (jO d.us)]
def M8 (h:l[i]?=some x):((jO l).drop (i*2)).take 2=[.lit (.int .u8 x.vars),.M x.w.length (lU x.w)]:=kI (f:=Ty.cells) (z:=2) (fun _=>rfl) l i x h
def M9 (h:l[i]?=some x):(jO l)[i*2]?=some (.lit (.int .u8 x.vars)):=gF (f:=Ty.cells) (z:=2) (fun _=>rfl) l i 0 x h (U)
def Na (h:l[i]?=some x):¬jO l=[]:=fun e=>by
 have:=M9 h;rw[e]at this;simp at this
def Nb {l:List S3}{x:S3}(p:List Int)(h:l[i]?=some x):((aJ l).set (i*3+1) (af p)).set (i*3+2) (.lit (.slice none 0 0))=aJ (l.set i ⟨x.J,p,[]⟩):=by
 have hl:=aI h;have h1:=tg (f:=S3.eg) (z:=3) (fun _=>rfl) l i ⟨x.J,p,[]⟩ hl;have h2:=kI (f:=S3.eg) (z:=3) (fun _=>rfl) l i x h;unfold aJ;rw[h1];have h3:(l.map S3.eg).flatten=((l.map S3.eg).flatten).take (i*3)++(x.eg++((l.map S3.eg).flatten).drop (i*3+3)):=by
  rw[<- h2,<- Rk,P9,P9]
 have hlen:(((l.map S3.eg).flatten).take (i*3)).length=i*3:=by
  rw[PQ,jh (f:=S3.eg) (z:=3) (fun _=>rfl)];omega
 conv=>lhs;rw[h3]
 rw[QC _ _ U,QC _ _ U,hlen,show i*3+1-i*3=1 by omega,show i*3+2-i*3=2 by omega];simp[S3.eg,aU]
def Nc {l:List S3}(h:∀x∈l,x.O≠[]):aJ l=aL l:=by
 unfold aJ aL;congr 1;exact Q5 fun x hx=>by unfold S3.eg S3.cells;rw[nG (h x hx)]
def wQ {N:Nat}{e:TypeId}{g:Int}{ms:List S3}(h:H.get N=some (.L 0 e (aJ ms))):Fz (fun _=>True) H nx (.agg [aa g,.V N 0 0 ms.length 3]) (bS g ms):=by
 refine .agg rfl fun i hi _=>?_
 match i,hi with
 |0,_=>exact .lit _
 |1,_ =>
  refine .np trivial h (gG ms) fun j hj h2 h'=>?_;have e0:(0:Nat)+j=j:=Nat.zero_add j;have h3:j<(aJ ms).length:=U
  have:=A4 (S:=fun _=>True) (H:=H) (nx:=nx) ms j h3 h';simpa only[e0] using this
def td {S:Nat->Prop}(l:List Tl):∀c∈aP l,Fz S H nx c c:=by
 intro c hc;unfold aP at hc;obtain⟨r,hr,hc⟩:=RA.1 hc;obtain⟨x,_,rfl⟩:=P3.1 hr;unfold Tl.cells at hc;simp only[List.mem_cons,List.not_mem_nil,or_false]at hc;rcases hc with rfl|rfl<;>exact .cO _
def Nd (d:D20)(hd:d.Ok)(H:S2)(K:S8->S2->Prop)(hK:∀x,DrI d.rem x->x.Q=(d.us.map fun u=>dy u x.I).take 4->K (.ret (tq x)) H):ae Try.prog G0 9 [.agg d.cells] H K:=by
 refine ae.nl ⟨_,Try.func9,rfl,rfl⟩ fun hcl=>?_;refine ae.st (n:=128) (rs:=[.cell 2 39]) Try.func9 ?_;simp only[go_sem,D20.cells];obtain⟨H0,hH0⟩:∃H0,H0=ext H [.L 0 28 [.lit (.int .u8 d.g),.M d.ps.length (ea d.ps),.M d.ord.length (bJ d.ord),.lit (.int .u8 d.Z),.lit (.bool d.rem),.M d.us.length (jO d.us)],.L 0 39 [.lit (.int .i64 0),.lit (.slice none 0 0),.lit (.int .u64 0),.lit (.slice none 0 0)]]:=⟨_,rfl⟩
 have g00:=eS hH0
 have g01:=gE hH0 1 rfl
 have n0:H0.C=H.C+2:=hH0▸rfl
 have o0:S6 H H0:=hH0▸.ext _ _
 rw[<- hH0];clear hH0;refine aH.nl (Nz d.g d.ps d.ord hd.g hd.ps hd.pl hd.ol hd.o8 _ _ fun g ns N H' ov hN1 hN2 hget hnet h5 hp3=>⟨trivial,?_⟩);simp only[go_sem];obtain⟨B,hB⟩:∃B,B=H'.C:=⟨_,rfl⟩
 rw[<- hB];obtain⟨H1,hH1⟩:∃H1,H1=ext H' [.L 0 64 [.lit (.int .i64 g),.V N 0 0 ns.length 3],.L 0 39 [.lit (.int .i64 g),.V N 0 0 ns.length 3,.lit (.int .u64 0),.lit (.slice none 0 0)]]:=⟨_,rfl⟩
 have n1:H1.C=B+2:=by rw[hH1,hB];rfl
 have ovn:=ov.C;have g10:H1.get H.C=some (.L 0 28 [.lit (.int .u8 d.g),.M d.ps.length (ea d.ps),.M d.ord.length (bJ d.ord),.lit (.int .u8 d.Z),.lit (.bool d.rem),.M d.us.length (jO d.us)]):=by rw[hH1,eG _ _ _ U,ov.nf _ U];exact g00
 have g11:H1.get (H.C+1)=some (.L 0 39 [.lit (.int .i64 0),.lit (.slice none 0 0),.lit (.int .u64 0),.lit (.slice none 0 0)]):=by rw[hH1,eG _ _ _ U,ov.nf _ U];exact g01
 have gN:H1.get N=some (.L 0 83 (aJ ns)):=by rw[hH1,eG _ _ _ U,Nc (Bk hnet)];exact hget
 have gB:H1.get B=some (.L 0 64 [.lit (.int .i64 g),.V N 0 0 ns.length 3]):=by rw[hH1,hB];exact cS ..
 have gB1:H1.get (B+1)=some (.L 0 39 [.lit (.int .i64 g),.V N 0 0 ns.length 3,.lit (.int .u64 ((0:Nat):Int)),.lit (.slice none 0 0)]):=by rw[hH1,hB];exact dT H' _ 1 (SX)
 have o1:S6 H H1:=by rw[hH1];exact(o0.trans ov).trans (.ext _ _)
 rw[<- hH1];clear hH1 hget;have hsl:(aX ns).length=ns.length:=by simp[aX]
 have hpr:∀x∈ns,(x.F.length:Int)<2 ^ 39/\∀q∈x.F,0<=q/\q<(ns.length:Int):=fun x hx=>⟨by have:=hp3 x hx;omega,(hnet.node x hx).2.2⟩
 have hs8:∀p∈aX ns,p<2 ^ (aX ns).length:=by rw[hsl];exact tE fun x hx=>(hpr x hx).2
 obtain⟨r,hr⟩:=Qb.1 ((AZ hs8 U).2 hnet.acyc);have hTR:=M6 (fun p h=>PL (hs8 p h) (P7 SY U)) hr;have hrl:=hTR.len;rw[hsl]at hrl;refine aH.nl ((ae.frame (H:=H1) (args:=[.agg [aa g,.V N 0 0 ns.length 3]]) (args':=[bS g ns]) (v':=af (aF r)) aZ rfl (fun i hi _=>?_) (NK g ns U hpr r hr bZ _ fun v H' _ ho=>⟨_,rfl,ho.lZ⟩)).mono fun rr H2 hrr=>?_)
 ·match i,hi with
  |0,_=>exact wQ gN
 obtain⟨rfl,rfl⟩:=hrr;refine⟨trivial,?_⟩;simp only[go_sem];refine W.jX (Q':=fun e s2=>e=.exit 0/\∃(i known Z:Nat) (os:List Nat) (ms:List S3),s2.ρ 1=.Y H.C 0 0/\s2.ρ 2=.Y (H.C+1) 0 0/\s2.ρ 3=.Y B 0 0/\s2.ρ 4=.Y (B+1) 0 0/\TH ns r d.rem i known Z os ms/\H2.C<=s2.H.C/\(∀id,id<H2.C->id≠N->id≠B+1->s2.H.get id=H2.get id)/\s2.H.get N=some (.L 0 83 (aJ ms)) /\
  s2.H.get (B+1)=some (.L 0 39 [.lit (.int .i64 g),.V N 0 0 ns.length 3,.lit (.int .u64 (Z:Int)),.lit (.slice none 0 0)])) ?_ ?_
 rotate_left
 ·rintro e s2 ⟨rfl,i,known,Z,os,ms,e1,e2,e3,e4,L,hnx,hold,hN,hB1⟩;refine⟨s2,.refl _,S0,trivial,?_⟩;obtain⟨ρ2,Hy⟩:=s2;dsimp only at e1 e2 e3 e4 hnx hold hN hB1;simp only[go_sem];have hml:=L.len;have hcd:∀x∈ms,1<=x.J/\x.J<=4:=fun x hx=>by
   obtain⟨v,hv⟩:=PU.1 hx;obtain⟨y,hy⟩:=aw (l:=ns) (i:=v) (by have:=aI hv;omega);have h1:(ay ms)[v]?=(ay ns)[v]?:=(by rw[L.J]);rw[dp hv,dp hy]at h1;rw[Option.some.inj h1];exact(hnet.node y (PA hy)).1
  have hn1:=hnet.n1;obtain⟨ut,hut⟩:∃ut:List Tl,ut=d.us.map fun u=>dy u ms:=⟨_,rfl⟩
  refine W.aS 170141163178059628080016879768632823808 (by rfl) (fun ρ Hu=>∃(i:Nat) (uv:S1),ρ 12=aa i/\i<=d.us.length/\i<=4/\Hy.C<=Hu.C/\(∀id,id<Hy.C->id≠B+1->Hu.get id=Hy.get id)/\Hu.get (B+1)=some (.L 0 39 [.lit (.int .i64 g),.V N 0 0 ns.length 3,.lit (.int .u64 (Z:Int)),uv])/\bE Hy.C Hu 85 2 uv i (aP (ut.take i))) (fun ρ H=>d.us.length-(iv (ρ 12)).toNat) ?_ ?_
  ·simp only[go_sem];exact⟨0,_,rfl,U,U,hB1,.nil⟩
  rintro ρ Hu ⟨i,uv,h12,hi,hi4,hnu,holdu,hBu,hO⟩;refine W.en (fun E=>E 1=.Y H.C 0 0 /\ E 2=.Y (H.C+1) 0 0 /\ E 3=.Y B 0 0 /\ E 4=.Y (B+1) 0 0 /\ E 12=aa i) (by simp only[go_sem,e1,e2,e3,e4,h12]) fun E ⟨f1,f2,f3,f4,f12⟩=>?_
  refine W.vs ?_;have uh:Hu.get H.C=_:=((holdu H.C U U).trans (hold H.C U U U)).trans g10;have l0:=ag uh;have lB:=ag (((holdu B U U).trans (hold B U U U)).trans gB);have lB1:=ag hBu;have hNu:Hu.get N=some (.L 0 83 (aJ ms)):=(holdu N U U).trans hN;by_cases hb:(i:Int)<d.us.length/\(i:Int)<4
  ·obtain⟨u,hu⟩:=aw (l:=d.us) (i:=i) U;have huo:=hd.us u (PA hu);have cne:=Na hu;have c0:=M8 hu;have cl:i*2+2<=(jO d.us).length:=(by rw[show (jO d.us).length=d.us.length*2 from jh (f:=Ty.cells) (fun _=>rfl) _];omega);have w1:=PD ((i:Int)+1) U;have hpc:∀Hq,Hq.get N=some (.L 0 83 (aJ ms))->N<Hq.C->cD Try.prog G0 (.nl 44 [] []) [.agg [.lit (.int .u8 u.vars),.M u.w.length (lU u.w)],.agg [.lit (.int .i64 g),.V N 0 0 ns.length 3]] Hq (.agg [af (dy u ms).vars,af (dy u ms).w]) [N]:=fun Hq hq hqn=>by
    refine cD.mk (fun i hi=>by obtain rfl:=List.mem_singleton.1 hi;exact hqn) fun H2 h1 h2=>?_;refine ae.frame (H:=H2) (args:=[.agg u.cells,.agg [aa g,.V N 0 0 ns.length 3]]) (args':=[.agg u.cells,bS g ms]) (v':=.agg [af (dy u ms).vars,af (dy u ms).w]) aZ rfl (fun i hi _=>?_) (NL u huo g ms U hcd bZ _ fun v1 v2 H' _ o1 o2=>⟨_,rfl,.agg rfl fun i hi _=>?_⟩)
    ·match i,hi with
     |0,_ =>
      refine .agg rfl fun i hi _=>?_
      match i,hi with
      |0,_=>exact .lit _
      |1,_ =>
       refine .M rfl fun j hj _=>?_;simp only[lU,PK];exact .lit _
     |1,_=>rw[<- hml];exact wQ ((h1 N SX).trans hq)
    ·match i,hi with
     |0,_=>exact o1.lZ
     |1,_=>exact o2.lZ
   obtain⟨uv',Hj,hA,hO',hnj,hpj⟩:=kX (P:=Try.prog) (xs:=[af (dy u ms).vars,af (dy u ms).w]) Try.underlying37 Try.sN Try.sQ rfl rfl (by rw[Try.sP];omega) hO hnu rfl;simp only[af]at hA;have na:∀id,id<Hy.C->Hj.get id=Hu.get id:=fun id h=>hpj id U (hO.ne h);have lB1j:=ag ((na _ U).trans hBu);have hvc:=hO'.cells;have hvo:=hO'.one;simp only[go_sem,f1,f12,l0,hb.1,hb.2];refine W.dr 10 [0,1,0,4,0,28,60,0,252,508] Try.mixed ?_;simp only[go_sem,f1,f3,f4,f12,l0,lB,lB1,cne,c0,cl,hb.1];refine⟨_,[N],hpc _ hNu U,?_⟩;simp only[go_sem,f4,f12,hA,lB1j,hvc,hvo,w1];have hug:ut[i]?=some (dy u ms):=(by rw[hut,List.getElem?_map,hu];rfl);have e2':aP (ut.take (i+1))=aP (ut.take i)++[af (dy u ms).vars,af (dy u ms).w]:=by
    rw[aT hug];unfold aP;rw[QQ,SU];simp[Tl.cells]
   refine⟨⟨fun _ h=>U,fun _ h=>U⟩,by rw[ar];omega,⟨i+1,uv',rfl,U,U,by rw[ar];omega,fun id h1 h2=>by rw[ab,PC h2,na _ h1];exact holdu id h1 h2,by rw[ab,PG rfl],?_⟩,by rw[h12];simp only[aa,aM];omega⟩;rw[e2'];exact hO'.na (by rw[ar];omega) fun id gg h1 _ _=>by rw[ab,PC U]
  ·have fin:∀b,av Try.prog G0 H K (.agg [.lit (.int .i64 g),.V N 0 0 ns.length 3,.lit (.int .u64 (Z:Int)),uv]) (Hu.upd (H.C+1) b):=fun b=>by
    have o1n:=o1.C;have ov2:S6 H (Hu.upd (H.C+1) b):=⟨by rw[ar];omega,fun id h=>by
     rw[ab,PC U,holdu id U U,hold id U U U];exact o1.nf id h⟩
    have htl:(ut.take i).length=i:=(by rw[PQ,hut,PR];omega);refine av.bQ (v':=tq ⟨g,ms,Z,ut.take i⟩) aZ hcl ov2 (.agg rfl fun j hj _=>?_) (hK _ (L.fin hnet hTR h5 U fun u hu=>?_) (by
     show ut.take i=_;rw[<- hut];rcases PZ i 4 with h4|h4
     ·have hul:ut.length=d.us.length:=(by rw[hut,PR]);have hid:d.us.length<=i:=U;rw[PF U,PF U]
     ·rw[show i=4 by omega]))
    ·match j,hj with
     |0,_=>exact .lit _
     |1,_ =>
      show Fz _ _ _ (.V N 0 0 ns.length 3) (.M ms.length (aJ ms));rw[<- hml];refine .np U (show (Hu.upd (H.C+1) b).get N=some (.L 0 83 (aJ ms)) by rw[ab,PC U];exact hNu) (dZ ms) fun j hj h2 h'=>?_;have e0:(0:Nat)+j=j:=Nat.zero_add j;have h3:j<(aJ ms).length:=U;have:=s8 (S:=fun id=>H.C<=id) (H:=Hu.upd (H.C+1) b) (nx:=H.C) ms _ (P4 h3);simpa only[e0] using this
     |2,_=>exact .lit _
     |3,_ =>
      show Fz _ _ _ uv (.M (ut.take i).length (aP (ut.take i)));rcases hO with ⟨h,hz,hc⟩|⟨id,gg,k1,k2,h,k4,k5⟩
      ·rw[h,hc,htl,hz];exact .nil
      ·rw[h,htl];refine .np U (show (Hu.upd (H.C+1) b).get id=some (.L gg 85 (aP (ut.take i))) by rw[ab,PC U];exact k5) k4 fun j hj h2 h'=>?_;have e0:(0:Nat)+j=j:=Nat.zero_add j;have h3:j<(aP (ut.take i)).length:=U;have:=td (S:=fun id=>H.C<=id) (H:=Hu.upd (H.C+1) b) (nx:=H.C) (ut.take i) _ (P4 h3);simpa only[e0] using this
    ·have hu2:=P0 hu;rw[hut]at hu2;obtain⟨p,hp,rfl⟩:=P3.1 hu2;have:=NG p ms fun x hx=>(hcd x hx).1;exact⟨by have:=this.vars;rw[hml]at this;exact this,by have:=this.size;rw[L.J]at this;exact this,this.w⟩
   have lR:Hu.nn (H.C+1) 0=_:=ag (((holdu (H.C+1) U U).trans (hold (H.C+1) U U U)).trans g11);have uvc:=hO.cells;have uvo:=hO.one;by_cases hb1:(i:Int)<d.us.length
   ·have hb4:¬(i:Int)<4:=fun h=>hb ⟨hb1,h⟩;simp only[go_sem,f1,f2,f4,f12,l0,lB1,lR,hb1,hb4,uvo];exact fin _
   ·simp only[go_sem,f1,f2,f4,f12,l0,lB1,lR,hb1,uvo];exact fin _
 refine W.aS 20282409603651670423947242901440 (by rfl) (fun ρ Hx=>∃(i known Z:Nat) (os:List Nat) (ms:List S3),ρ 8=aa i/\i<=r.length/\ρ 6=aG known/\ρ 7=aa os.length/\TH ns r d.rem i known Z os ms/\H2.C<=Hx.C/\(∀id,id<H2.C->id≠N->id≠B+1->Hx.get id=H2.get id)/\Hx.get N=some (.L 0 83 (aJ ms)) /\
  Hx.get (B+1)=some (.L 0 39 [.lit (.int .i64 g),.V N 0 0 ns.length 3,.lit (.int .u64 (Z:Int)),.lit (.slice none 0 0)])) (fun ρ H=>r.length-(iv (ρ 8)).toNat) ?_ ?_
 ·simp only[go_sem];exact⟨0,0,0,[],ns,rfl,U,rfl,rfl,.start ns r d.rem,gN,gB1⟩
 rintro ρ Hx ⟨i,known,Z,os,ms,h8,hi,h6,h7,L,hnx,hold,hN,hB1⟩;refine W.en (fun E=>E 1=.Y H.C 0 0 /\ E 2=.Y (H.C+1) 0 0 /\ E 3=.Y B 0 0 /\ E 4=.Y (B+1) 0 0 /\ E 5=af (aF r) /\ E 6=aG known /\ E 7=aa os.length /\ E 8=aa i) (by simp only[go_sem,h6,h7,h8]) fun E ⟨e1,e2,e3,e4,e5,e6,e7,e8⟩=>?_
 refine W.vs ?_;have l0:=ag ((hold H.C U U U).trans g10);have lB:=ag ((hold B U U U).trans gB);have lB1:=ag hB1;have lN:=ag hN;have hrng:=hTR.no;rw[hsl]at hrng;have hml:=L.len;have natl:(aF r).length=r.length:=by simp[aF]
 have nat5:∀ {s:Nat},s<2 ^ ns.length->s<2 ^ 64:=fun h=>PL h (P7 SY U);have hk64:known<2 ^ 64:=nat5 (tc hrng L.knownb);have hd64:Z<2 ^ 64:=nat5 (tc hrng L.decsb);by_cases hb:(i:Int)<r.length;rotate_left
 ·simp only[go_sem,e1,e2,e3,e4,e5,e8,natl,hb];exact⟨i,known,Z,os,ms,L,hnx,hold,hN,hB1⟩
 by_cases h3:os.length<3;rotate_left
 ·have h3':¬(os.length:Int)<3:=U
  simp only[go_sem,e1,e2,e3,e4,e5,e7,e8,natl,hb,h3'];exact⟨i,known,Z,os,ms,L,hnx,hold,hN,hB1⟩
 have h3':(os.length:Int)<3:=U
 obtain⟨v,hv⟩:=aw (l:=r) (i:=i) U;have hvi:(aF r)[i]?=some (v:Int):=by unfold aF;rw[List.getElem?_map,hv];rfl
 have hvne:=bg hvi;have hvn:=hrng v (PA hv);have w1:=PD ((i:Int)+1) U;obtain⟨r1,hr1⟩:∃r1,d.Z.fdiv (2 ^ (min ((i:Int)).toNat IntKind.u8.bits))=r1:=⟨_,rfl⟩
 obtain⟨r2,hr2⟩:∃r2,IntKind.u8.wrap (((BitVec.ofInt IntKind.u8.bits r1 &&& BitVec.ofInt IntKind.u8.bits 1).toNat:Nat):Int)=r2:=⟨_,rfl⟩
 have s1:∀t o1 o2,bh Try.prog .shr t o1 o2 (.lit (.int .u8 d.Z)) (.lit (.int .i64 (i:Int)))=some (.lit (.int .u8 r1)):=fun t o1 o2=>by rw[tH U,hr1]
 have s2:∀t o1 o2,bh Try.prog .and t o1 o2 (.lit (.int .u8 r1)) (.lit (.int .u8 1))=some (.lit (.int .u8 r2)):=fun t o1 o2=>by rw[tI,hr2]
 by_cases hrz:r2=0
 ·simp only[go_sem,e1,e2,e3,e4,e5,e6,e7,e8,natl,hb,h3',l0,hvi,hvne,s1,s2,hrz,w1];exact⟨hnx,⟨i+1,known,Z,os,ms,rfl,U,rfl,rfl,L.skip,hnx,hold,hN,hB1⟩,by rw[h8];simp only[aa,aM];omega⟩
 obtain⟨x,hx⟩:=aw (l:=ns) (i:=v) hvn;have hdv:=(L.step hTR U h3 hv hx (s:=0) (fun i hi=>by simp at hi)).1;have hmx:ms[v]?=some x:=by rw[L.nf v hdv];exact hx
 have hxp:=hpr x (PA hx);have hmp:∀y∈ms,(y.F.length:Int)<2 ^ 39/\∀q∈y.F,0<=q/\q<64:=fun y hy=>by
  obtain⟨u,hu⟩:=PU.1 hy;cases hbu:Z.testBit u with
  |false =>
   rw[L.nf u hbu]at hu;obtain⟨q1,q2⟩:=hpr y (PA hu);exact⟨q1,fun q hq=>by have:=q2 q hq;omega⟩
  |true =>
   obtain⟨_,s,j,e,_⟩:=L.dec u y hu hbu;rw[e];refine⟨by have:=Bx s 8;omega,fun q hq=>?_⟩;obtain⟨z,rfl,hz,_⟩:=nK.1 hq;omega
 have hset:((aX ms).map aG)[v]?=some (aG (bj x.F)):=by rw[List.getElem?_map,jW hmx];rfl
 have hsne:=bg hset;have hmn:(aX ms).length=ns.length:=by rw[<- hml];simp[aX]
 simp only[go_sem,e1,e3,e5,e7,e8,natl,hb,h3',l0,lB,hvi,hvne,s1,s2,hrz];refine aH.nl ((ae.frame (H:=Hx) (args:=[.agg [aa g,.V N 0 0 ns.length 3]]) (args':=[bS g ms]) (v':=eZ (aX ms)) aZ rfl (fun i hi _=>?_) (NH g ms U hmp bZ _ fun v H' _ ho=>⟨_,rfl,NJ ho⟩)).mono fun rr Hz hrr=>?_)
 ·match i,hi with
  |0,_=>rw[<- hml];exact wQ hN
 obtain⟨rfl,rfl⟩:=hrr;refine⟨trivial,?_⟩;have hvI:(v:Int)<ns.length:=U
 simp only[go_sem,hset,hsne,hmn,hvI];have xs64:bj x.F<2 ^ 64:=nat5 (kK hxp.2);refine W.aS 9444732684264313719808 (by rfl) (fun ρ2 Hq=>Hq=Hz/\∃k s:Nat,ρ2 11=aa k/\k<=x.F.length/\ρ2 10=aG s/\Sub s (bj x.F)/\s<2 ^ 64) (fun ρ2 H=>x.F.length-(iv (ρ2 11)).toNat) ?_ ?_
 ·simp only[go_sem];exact⟨0,_,rfl,U,rfl,.refl _,xs64⟩
 rintro ρ2 Hq ⟨rfl,k,s,h11,hk,h10,hs,hs64⟩;refine W.en (fun E2=>E2 1=.Y H.C 0 0 /\ E2 2=.Y (H.C+1) 0 0 /\ E2 3=.Y B 0 0 /\ E2 4=.Y (B+1) 0 0 /\ E2 5=af (aF r) /\ E2 6=aG known /\ E2 7=aa os.length /\ E2 8=aa i /\ E2 9=aa v /\ E2 10=aG s /\ E2 11=aa k) (by simp only[go_sem,e1,e2,e3,e4,e5,e6,e7,e8,h10,h11]) fun E2 ⟨f1,f2,f3,f4,f5,f6,f7,f8,f9,f10,f11⟩=>?_
 refine W.vs ?_;have nne:=MG hmx;have nlen:=dZ ms;have n1v:=hJ hmx;by_cases hb2:(k:Int)<x.F.length
 ·obtain⟨q,hq⟩:=aw (l:=x.F) (i:=k) U;have hqr:=hxp.2 q (PA hq);obtain⟨u,rfl⟩:=PP hqr.1;have hqne:=bg hq;have w2:=PD ((k:Int)+1) U;by_cases hk2:(k:Int) >= 2
  ·have s3:=fun t x y=>hZ (P:=Try.prog) (t:=t) (x:=x) (y:=y) (k':=.i64) (s:=u) U;have s4:=fun t x y=>pZ (P:=Try.prog) (t:=t) (x:=x) (y:=y) (a:=s) (b:=2 ^ u);simp only[go_sem,f4,f9,f10,f11,lB1,lN,n1v,hvI,hb2,hk2,hq,hqne,w2,s3,s4];exact⟨⟨k+1,dv s (2 ^ u),rfl,U,rfl,fun i hi=>by rw[xo hs64,PV]at hi;exact hs i hi.1,BY _ _⟩,by rw[h11];simp only[aa,aM];omega⟩
  ·simp only[go_sem,f4,f9,f10,f11,lB1,lN,n1v,hvI,hb2,hk2,w2];exact⟨⟨k+1,s,rfl,U,rfl,hs,hs64⟩,by rw[h11];simp only[aa,aM];omega⟩
 ·obtain⟨s',hs'⟩:∃s',s'=(if d.rem then s |||known else s):=⟨_,rfl⟩
  have hsv:=L.step hTR U h3 hv hx hs;rw[<- hs']at hsv;obtain⟨_,_,hslt,L2⟩:=hsv;have s64:=nat5 hslt;have b2v:(2:Nat) ^ v<2 ^ 64:=Qk SY U;have o1':=fun t x y=>fb (P:=Try.prog) (t:=t) (x:=x) (y:=y) hd64 b2v;have o2':=fun t x y=>fb (P:=Try.prog) (t:=t) (x:=x) (y:=y) hk64 s64;have o3':=fun t x y=>fb (P:=Try.prog) (t:=t) (x:=x) (y:=y) (Qw hk64 s64) b2v;have o4':=fun t x y=>fb (P:=Try.prog) (t:=t) (x:=x) (y:=y) hs64 hk64;have s6:=fun t x y=>hZ (P:=Try.prog) (t:=t) (x:=x) (y:=y) (k':=.i64) (s:=v) U;have w3:=PD ((os.length:Int)+1) U;have nse:=Nb (dm s' 8) hmx;have gone:∀b,(Hq.upd N b).nn (B+1) 0=some (39,[.lit (.int .i64 g),.V N 0 0 ns.length 3,.lit (.int .u64 (Z:Int)),.lit (.slice none 0 0)]):=fun b=>(qd U).trans lB1;have st1:∀a,setAt (aJ ms) (v*3+1) [a]=(aJ ms).set (v*3+1) a:=fun a=>dq U;have st2:∀a b,setAt ((aJ ms).set (v*3+1) a) (v*3+2) [b]=((aJ ms).set (v*3+1) a).set (v*3+2) b:=fun a b=>dq (by rw[PI];omega);have gone2:∀b b',((Hq.upd N b).upd N b').nn (B+1) 0=some (39,[.lit (.int .i64 g),.V N 0 0 ns.length 3,.lit (.int .u64 (Z:Int)),.lit (.slice none 0 0)]):=fun b b'=>(qd U).trans (gone b);simp only[af]at nse;cases hrem:d.rem
  ·have es:s'=s:=(by rw[hs',hrem];rfl);subst es;simp only[go_sem,f1,f3,f4,f6,f7,f8,f9,f11,lB1,lN,n1v,hvI,hb2,l0,hrem];refine W.dr 5 [0,1,0,0,8] Try.mixed ?_;simp only[go_sem,f4,f9,f10,lB1,lN,hvI,hml,nlen,gone];refine⟨af (dm s' 8),[],cD.pure fun H2=>By s' s64 H2 _ ⟨rfl,rfl⟩,?_⟩;simp only[go_sem,hml,nlen,st1,st2,nse,PI];refine⟨U,U,?_⟩;refine W.dr 4 [0,1,0,4] Try.mixed ?_;simp only[go_sem,f4,f6,f7,f8,f9,f10,gone2,s6,o1',o2',o3',w1,w3];refine⟨by simp only[ar];omega,⟨i+1,known |||s' |||2 ^ v,Z |||2 ^ v,os++[v],_,rfl,U,rfl,SX,hrem ▸ L2,by simp only[ar];omega,fun id h1 h2 h3=>by simp only[ab];rw[PC h3,PC h2,PC h2];exact hold id h1 h2 h3,by rw[ab,PC U,ab,PG rfl],by rw[ab,PG rfl]⟩,by rw[h8];simp only[aa,aM];omega⟩
  ·have es:s |||known=s':=by rw[hs',hrem];rfl
   rw[es]at o4';simp only[go_sem,f1,f3,f4,f6,f7,f8,f9,f10,f11,lB1,lN,n1v,hvI,hb2,l0,hrem,o4'];refine W.dr 5 [0,1,0,0,8] Try.mixed ?_;simp only[go_sem,f4,f9,f10,lB1,lN,hvI,hml,nlen,gone];refine⟨af (dm s' 8),[],cD.pure fun H2=>By s' s64 H2 _ ⟨rfl,rfl⟩,?_⟩;simp only[go_sem,hml,nlen,st1,st2,nse,PI];refine⟨U,U,?_⟩;refine W.dr 4 [0,1,0,4] Try.mixed ?_;simp only[go_sem,f4,f6,f7,f8,f9,f10,gone2,s6,o1',o2',o3',w1,w3];refine⟨by simp only[ar];omega,⟨i+1,known |||s' |||2 ^ v,Z |||2 ^ v,os++[v],_,rfl,U,rfl,SX,hrem ▸ L2,by simp only[ar];omega,fun id h1 h2 h3=>by simp only[ab];rw[PC h3,PC h2,PC h2];exact hold id h1 h2 h3,by rw[ab,PC U,ab,PG rfl],by rw[ab,PG rfl]⟩,by rw[h8];simp only[aa,aM];omega⟩
def Nf (d:D20)(hd:d.Ok)(H:S2)(K:S8->S2->Prop)(hK:∀x,DrI d.rem x->K (.ret (tq x)) H):ae Try.prog G0 9 [.agg d.cells] H K :=
 Nd d hd H K fun x hx _=>hK x hx
end Go.Proofs
namespace Go.Proofs.Ytcccmbeolcjacaa
open Go.ChangeShapes Go.WideShapes Go.ChangeAt Go.RowKit Go.Hx
def Try.V:ownKnob Try.prog.godebug=none:=SZ
def Try.laidOut:laidOutB Try.prog=true:=SZ
def Try.KX:Try.prog.underlying 4=some .bool:=SZ
section
variable {W:World} {H:Type} {enc:TypeId × Value->H} {spare:Nat->Bool} {held:Bool}
def pH {n:Nat}(h:n<=maxLen):(n:Int)<2 ^ 63:=by
 have:maxLen=9223372036854775807:=SY
 omega
def kE {n:Int}(h:(Lit.int .u8 n).wf=true):U8 n:=by
 have:=wf_u8 h;unfold U8;omega
def KY:dz enc Try.prog W spare held 142 fun _ zs=>∃x:Ts,zs=x.cells/\x.Ok:=by
 have hu:=Try.underlying142;have c1:=Try.lK;have c2:=Try.wC;refine(mA (φ:=fun i _ xs=>if i=2 then ∃l:List Int,xs=[.M l.length (qC .u8 l)]/\l.length<=maxLen/\∀c,c∈l->(Lit.int .u8 c).wf=true else ∃n,xs=[.lit (.int .u8 n)]/\(Lit.int .u8 n).wf=true) hu
  (fun cs hcs=>by
   have hc:Try.prog.cellsOf 142=3:=SZ;rw[hc]at hcs
   match cs,hcs with
   | [a,b,c],_=>simp[c1,c2])
  (fun i hi=>match i,hi with
   |0,_=>(gW Try.underlying5).mono fun _ _ ⟨n,_,h,w⟩=>⟨n,h,w⟩
   |1,_=>(gW Try.underlying5).mono fun _ _ ⟨n,_,h,w⟩=>⟨n,h,w⟩
   |2,_=>(uJ Try.underlying23 Try.underlying5 c1).mono fun _ _ h=>h)).mono fun d zs ⟨ds,O,_,e,hl1,hl2,hall⟩=>?_
 match O,ds,hl2,hl1,hall with
 | [x,y,z],[d0,d1,d2],_,_,hall =>
  obtain⟨n0,e0,w0⟩:=hall 0 SX SX;obtain⟨n1,e1,w1⟩:=hall 1 SX SX;obtain⟨l,e2,w2,w3⟩:=hall 2 SX SX;simp only[P2,Qy]at e0 e1 e2;subst e0;subst e1;subst e2;refine⟨⟨n0,n1,l⟩,by rw[e];rfl,?_⟩;exact⟨kE w0,kE w1,pH w2,fun c hc=>kE (w3 c hc)⟩
def wf_i8 {n:Int}(h:(Lit.int .i8 n).wf=true):I8 n:=by
 have:-128<=n/\n<=127:=by simpa[Lit.wf,IntKind.min,IntKind.max,IntKind.signed,IntKind.bits] using h
 unfold I8;omega
def KZ:dz enc Try.prog W spare held 103 fun _ zs=>∃x:Ty,zs=x.cells/\x.Ok:=by
 have hu:=Try.underlying103;have c1:=Try.lK;have c2:=Try.AM;have c3:=Try.AP;refine(mA (φ:=fun i _ xs=>if i=1 then ∃l:List Int,xs=[.M l.length (qC .i8 l)]/\l.length<=maxLen/\∀c,c∈l->(Lit.int .i8 c).wf=true else ∃n,xs=[.lit (.int .u8 n)]/\(Lit.int .u8 n).wf=true) hu
  (fun cs hcs=>by
   have hc:Try.prog.cellsOf 103=2:=SZ;rw[hc]at hcs
   match cs,hcs with
   | [a,b],_=>simp[c1,c2])
  (fun i hi=>match i,hi with
   |0,_=>(gW Try.underlying5).mono fun _ _ ⟨n,_,h,w⟩=>⟨n,h,w⟩
   |1,_=>(uJ Try.underlying101 Try.underlying145 c3).mono fun _ _ h=>h)).mono fun d zs ⟨ds,O,_,e,hl1,hl2,hall⟩=>?_
 match O,ds,hl2,hl1,hall with
 | [x,y],[d0,d1],_,_,hall =>
  obtain⟨n0,e0,w0⟩:=hall 0 SX SX;obtain⟨l,e2,w2,w3⟩:=hall 1 SX SX;simp only[P2,Qy]at e0 e2;subst e0;subst e2;refine⟨⟨n0,l⟩,by rw[e];rfl,?_⟩;exact⟨kE w0,pH w2,fun c hc=>wf_i8 (w3 c hc)⟩
def Ax {α:Type}{t e:TypeId}{f:α->List S1}{q:α->Prop}(ht:Try.prog.underlying t=some (.slice e))(hz:0<Try.prog.cellsOf e)(he:dz enc Try.prog W spare held e fun _ zs=>∃x:α,zs=f x/\q x):
  dz enc Try.prog W spare held t fun _ zs=>∃l:List α,zs=[.M l.length (l.map f).flatten]/\l.length<=maxLen/\∀x∈l,q x :=
 (yx ht hz he).mono fun d zs h=>by
  rcases h with ⟨_,rfl⟩|⟨ds,rest,O,_,rfl,hr,_,hl⟩
  ·exact⟨[],rfl,RY _,fun c h=>by cases h⟩
  ·obtain⟨l,rfl,hq⟩:=yy (f:=f) (q:=q) (fun d zs h=>h) hr;exact⟨l,by rw[PR],by simpa using hl,hq⟩
def K0:dz enc Try.prog W spare held 25 fun _ zs=>∃(g:Int) (ps:List Ts) (ord:List Int),zs=[.lit (.int .u8 g),.M ps.length (ea ps),.M ord.length (bJ ord)]/\U8 g/\(∀x∈ps,x.Ok)/\(ps.length:Int)<2 ^ 63/\(ord.length:Int)<2 ^ 63/\∀x∈ord,U8 x:=by
 have hu:=Try.underlying25;have c1:=Try.lK;have c2:=Try.wC;have c3:=Try.AF;have c4:=Try.AO;refine(mA (φ:=fun i _ xs=>if i=2 then ∃l:List Int,xs=[.M l.length (qC .u8 l)]/\l.length<=maxLen/\∀c,c∈l->(Lit.int .u8 c).wf=true else if i=1 then ∃l:List Ts,xs=[.M l.length (l.map Ts.cells).flatten]/\l.length<=maxLen/\∀x∈l,x.Ok else ∃n,xs=[.lit (.int .u8 n)]/\(Lit.int .u8 n).wf=true) hu
  (fun cs hcs=>by
   have hc:Try.prog.cellsOf 25=3:=SZ;rw[hc]at hcs
   match cs,hcs with
   | [a,b,c],_=>simp[c1,c2,c3])
  (fun i hi=>match i,hi with
   |0,_=>(gW Try.underlying5).mono fun _ _ ⟨n,_,h,w⟩=>⟨n,h,w⟩
   |1,_=>(Ax Try.underlying22 (by rw[c4];decide) KY).mono fun _ _ h=>h
   |2,_=>(uJ Try.underlying23 Try.underlying5 c1).mono fun _ _ h=>h)).mono fun d zs ⟨ds,O,_,e,hl1,hl2,hall⟩=>?_
 match O,ds,hl2,hl1,hall with
 | [x,y,z],[d0,d1,d2],_,_,hall =>
  obtain⟨n0,e0,w0⟩:=hall 0 SX SX;obtain⟨ps,e1,w1,w1'⟩:=hall 1 SX SX;obtain⟨l,e2,w2,w3⟩:=hall 2 SX SX;simp only[P2,Qy]at e0 e1 e2;subst e0;subst e1;subst e2;exact⟨n0,ps,l,by rw[e];rfl,kE w0,w1',pH w1,pH w2,fun c hc=>kE (w3 c hc)⟩
def K2:dz enc Try.prog W spare held 28 fun _ zs=>∃d:D20,zs=d.cells/\d.Ok:=by
 have hu:=Try.underlying28;have c1:=Try.lK;have c2:=Try.AE;have c3:=Try.AG;have c4:=Try.AH;have c5:=Try.AN;refine(mA (φ:=fun i _ xs=>if i=0 then ∃(g:Int) (ps:List Ts) (ord:List Int),xs=[.lit (.int .u8 g),.M ps.length (ea ps),.M ord.length (bJ ord)]/\U8 g/\(∀x∈ps,x.Ok)/\(ps.length:Int)<2 ^ 63/\(ord.length:Int)<2 ^ 63/\∀x∈ord,U8 x
   else if i=1 then ∃n,xs=[.lit (.int .u8 n)]/\(Lit.int .u8 n).wf=true else if i=2 then ∃b,xs=[.lit (.bool b)] else ∃l:List Ty,xs=[.M l.length (l.map Ty.cells).flatten]/\l.length<=maxLen/\∀x∈l,x.Ok) hu
  (fun cs hcs=>by
   have hc:Try.prog.cellsOf 28=6:=SZ;rw[hc]at hcs
   match cs,hcs with
   | [a,b,c,d,e,f],_=>simp[c1,c2,c3,c4])
  (fun i hi=>match i,hi with
   |0,_=>K0.mono fun _ _ h=>h
   |1,_=>(gW Try.underlying5).mono fun _ _ ⟨n,_,h,w⟩=>⟨n,h,w⟩
   |2,_=>(DX Try.underlying4).mono fun _ _ ⟨n,_,h⟩=>⟨n,h⟩
   |3,_=>(Ax Try.underlying26 (by rw[c5];decide) KZ).mono fun _ _ h=>h)).mono fun d zs ⟨ds,O,_,e,hl1,hl2,hall⟩=>?_
 match O,ds,hl2,hl1,hall with
 | [x,y,z,u],[d0,d1,d2,d3],_,_,hall =>
  obtain⟨g,ps,ord,e0,w0,w0',w0'',w0''',w04⟩:=hall 0 SX SX;obtain⟨n1,e1,w1⟩:=hall 1 SX SX;obtain⟨b,e2⟩:=hall 2 SX SX;obtain⟨us,e3,w3,w3'⟩:=hall 3 SX SX;simp only[P2,Qy]at e0 e1 e2 e3;subst e0;subst e1;subst e2;subst e3;exact⟨⟨g,ps,ord,n1,b,us⟩,by rw[e];rfl,⟨w0,w0',w0'',w0''',w04,kE w1,w3',pH w3⟩⟩
def K3 {r:Reach}{b:Nat}{v:Value}{d:DataW H}{ps:List MemPlace}(hval:Value.okWide Try.prog W r b 28 v)(hd:DataW.Trod enc Try.prog W 0 spare held 28 v d ps):
  ∃x:D20,S4 Try.prog ig bZ W (.agg x.cells) v/\x.Ok:=by
 obtain⟨xs,h1,x,rfl,h2⟩:=yz K2 (.inl ⟨_,Try.underlying28⟩) hval hd;exact⟨x,h1,h2⟩
end
end Go.Proofs.Ytcccmbeolcjacaa
namespace Go.Hx
variable {P:Program}
variable {O:List (List S1)}{ids:List Nat}{r:List S1}{lo:Nat}{v:S1}{H:S2}{e0 e1:TypeId}
structure Tg (lo:Nat)(H:S2)(e1 e0:TypeId)(v:S1)(ids:List Nat)(O:List (List S1)):Prop where
 len:ids.length=O.length
 nd:ids.Nodup
 no:∀i∈ids,lo<=i/\i<H.C
 top:au lo H e1 v (List.zipWith (fun i n=>S1.V i 0 0 n 1) ids (O.map List.length))
 row:∀(k id:Nat) (r:List S1),ids[k]?=some id->O[k]?=some r->H.get id=some (.L 0 e0 r)
theorem Tg.nil :Tg lo H e1 e0 (.lit (.slice none 0 0)) [] [] :=
 ⟨rfl,.nil,fun i h=>(by cases h),.nil,fun k id r h=>(by simp at h)⟩
theorem Tg.na {H':S2}(h:Tg lo H e1 e0 v ids O)(hn:H.C<=H'.C)(hk:∀id,lo<=id->id<H.C->H'.get id=H.get id):Tg lo H' e1 e0 v ids O :=
 ⟨h.len,h.nd,fun i hi=>⟨(h.no i hi).1,by have:=(h.no i hi).2;omega⟩,h.top.na S0 hn fun id _ h1 h2 _ _=>hk id h1 h2,fun k id r h1 h2=>by
  have:=h.no id (PA h1);rw[hk id this.1 this.2];exact h.row k id r h1 h2⟩
def Tg.app {n:Nat}{t:TypeId}{z:List S1}(ht:P.underlying t=some (.slice e1))(hz:P.cellsOf e1=1)(hzero:bH P e1=some z)(hby:P.bytesOf e1=24)(hne:e1≠e0)
  (hb:O.length<2 ^ 40) (h:Tg lo H e1 e0 v ids O) (hlo:lo<=H.C) (hn:n=H.C+2):
  ∃v' H',bf P (ext (ext H [.L 0 e0 r]) [.L 0 e1 [.V H.C 0 0 r.length 1]]) n t t v (.V (H.C+1) 0 0 1 1)=some (v',H')/\Tg lo H' e1 e0 v' (ids++[H.C]) (O++[r])/\H.C<=H'.C/\(∀k,k<H.C->k<lo->H'.get k=H.get k):=by
 obtain⟨Hb,hHb⟩:∃Hb,Hb=ext H [.L 0 e0 r]:=⟨_,rfl⟩
 have nb:Hb.C=H.C+1:=hHb▸rfl
 have ob:S6 H Hb:=hHb▸.ext _ _
 have gb:=eS hHb
 have htop:=h.top.over ob;obtain⟨v',H',hA,hO,hL,hp⟩:=fT (P:=P) (H:=Hb) (t:=t) (x:=.V H.C 0 0 r.length 1) (n:=n) ht hz hzero rfl (by rw[hby];simp[h.len];omega) htop U U;rw[nb,hHb]at hA;have nf:∀id g,lo<=id->id<Hb.C->Hb.get id=some (.L g e0 r)->H'.get id=Hb.get id:=fun id g h1 h2 h3=>hp id h2 fun g' m he=>by
  rcases htop with ⟨hv,_⟩|⟨i,g2,_,_,hv,h4⟩
  ·rw[hv]at he;cases he
  ·rw[hv]at he;obtain rfl:i=id:=(S1.V.inj he).1;rw[h4]at h3;cases h3;exact hne rfl
 have oldr:∀id g q,lo<=id->id<Hb.C->Hb.get id=some (.L g e0 q)->H'.get id=Hb.get id:=fun id g q h1 h2 h3=>hp id h2 fun g' m he=>by
  rcases htop with ⟨hv,_⟩|⟨i,g2,_,_,hv,h4⟩
  ·rw[hv]at he;cases he
  ·rw[hv]at he;obtain rfl:i=id:=(S1.V.inj he).1;rw[h4]at h3;cases h3;exact hne rfl
 refine⟨v',H',hA,⟨by simp[h.len],Sn.2 ⟨h.nd,SX,fun a ha b hb=>by
  obtain rfl:=List.mem_singleton.1 hb;have:=(h.no a ha).2;omega⟩,fun i hi=>?_,?_,fun k id q h1 h2=>?_⟩,U,fun k hk hkl=>?_⟩
 ·rcases PT.1 hi with h1|h1
  ·have:=h.no i h1;omega
  ·obtain rfl:=List.mem_singleton.1 h1;omega
 ·rw[QQ,List.zipWith_append (by rw[PR];exact h.len)];exact hO
 ·have hk:=Qc.1 h1;obtain⟨hk,_⟩:=hk;rw[List.length_append,QK]at hk;rcases PZ k ids.length with hlt|hge
  ·rw[PJ hlt]at h1;rw[PJ (by rw[<- h.len];exact hlt)]at h2;have hr:=h.no id (PA h1);have hg:=h.row k id q h1 h2;rw[oldr id 0 q hr.1 U ((ob.nf id hr.2).trans hg),ob.nf id hr.2];exact hg
  ·obtain rfl:k=ids.length:=U;rw[PW S0,RQ]at h1;rw[h.len,PW S0,RQ]at h2;cases h1;cases h2;rw[oldr H.C 0 r hlo U gb];exact gb
 ·rw[hp k U fun g m he=>?_,ob.nf k hk];rcases htop with ⟨hv,_⟩|⟨i,g2,a1,_,hv,h4⟩
  ·rw[hv]at he;cases he
  ·rw[hv]at he;have:=(S1.V.inj he).1;omega
def Tg.B2 (h:Tg lo H e1 e0 v ids O)(h0:O≠[]):∃id g,lo<=id/\id<H.C/\v=.V id g 0 O.length 1/\H.get id=some (.L g e1 (List.zipWith (fun i n=>S1.V i 0 0 n 1) ids (O.map List.length)))/\(e1≠e0->id ∉ ids):=by
 have hzl:(List.zipWith (fun i n=>S1.V i 0 0 n 1) ids (O.map List.length)).length=O.length:=by simp[h.len]
 rcases h.top with ⟨hv,h4⟩|⟨i,g,a,b,hv,h4⟩
 ·rw[h4]at hzl;exact absurd (PH hzl.symm) h0
 ·refine⟨i,g,a,b,by rw[hv,hzl],h4,fun hne hm=>?_⟩;obtain⟨k,hk⟩:=PU.1 hm;have hkl:k<O.length:=by rw[<- h.len];exact(Qc.1 hk).1
  have:=h.row k i _ hk (PB hkl);rw[h4]at this;exact hne (S7.L.inj (Option.some.inj this)).2.1
def Tg.store (h:Tg lo H e1 e0 v ids O)(hne:e1≠e0){k id:Nat}{r':List S1}(hk:ids[k]?=some id)(hr:O[k]?=some r)(hl:r'.length=r.length):Tg lo (H.upd id (.L 0 e0 r')) e1 e0 v ids (O.set k r'):=by
 have hid:=h.no id (PA hk);have h0:O≠[]:=fun e=>by rw[e]at hr;simp at hr
 refine⟨by rw[PI];exact h.len,h.nd,fun i hi=>by rw[ar];exact h.no i hi,?_,fun j id' q h1 h2=>?_⟩
 ·have e:(O.set k r').map List.length=O.map List.length:=by
   rw[Sb,hl];apply Qn;intro i;rw[Rw];split
   ·rename_i hi;subst hi;have hkl:=(Qc.1 hr).1;rw[PG (by rw[PR];exact hkl),List.getElem?_map,hr];rfl
   ·rfl
  rw[e];obtain⟨i,g,a,b,_,h4,h5⟩:=h.B2 h0;refine h.top.na S0 (by rw[ar];exact Nat.le_refl _) fun i2 g2 _ _ h3 _=>?_;rw[ab,PC];rintro rfl;rw[h.row k i2 r hk hr]at h3;cases h3;exact hne rfl
 ·rw[ab];by_cases hj:j=k
  ·subst hj;rw[hk]at h1;cases h1;rw[PO (Qc.1 hr).1]at h2;cases h2;rw[PG rfl]
  ·rw[PY (fun e=>hj e.symm)]at h2;rw[PC,h.row j id' q h1 h2];rintro rfl;exact hj ((Q3 (Qc.1 h1).1 h.nd).1 (by rw[h1,hk]))
theorem Tg.fz {S:Nat->Prop}{nx:Nat}(h:Tg lo H e1 e0 v ids O)(hS:∀i,lo<=i->S i)(hr:∀r∈O,∀c∈r,Fz S H nx c c):
  Fz S H nx v (.M O.length (O.map fun r=>.M r.length r)):=by
 have hz:(List.zipWith (fun i n=>S1.V i 0 0 n 1) ids (O.map List.length)).length=O.length:=by simp[h.len]
 have:=h.top.fz (S:=S) (nx:=nx) (cs':=O.map fun r=>.M r.length r) hS (by simp[h.len]) fun i hi hi'=>by
  simp only[PK,SP];have hil:i<O.length:=U
  have hii:i<ids.length:=by rw[h.len];exact hil
  refine .np (hS _ (h.no _ (P4 hii)).1) (h.row i _ _ (PB hii) (PB hil)) SX fun j hj h2 h'=>?_;have e0:(0:Nat)+j=j:=Nat.zero_add j;have h3:=hr O[i] (P4 hil) _ (P4 h');simpa only[e0] using h3
 rw[PR]at this;exact this
end Go.Hx
namespace Go.Hx
variable {P:Program} {G:Nat->Option (List S1)}
variable {O:List (List S1)}{ids:List Nat}{z:List S1}{lo n ob:Nat}{v:S1}{b:S7}{e e0 e1 t:TypeId}
def S2.fq (H:S2)(n ob:Nat)(b:S7):S2:=⟨fun id=>if id=ob then some b else if n<=id then none else H.get id,H.C⟩
variable {H:S2}
def wm :(H.fq n ob b).get ob=some b:=by simp[S2.fq]
def wo {id:Nat}(h:id<n)(h2:id≠ob):(H.fq n ob b).get id=H.get id:=by simp[S2.fq,Sk.2 h,h2]
def Kr (hc:TI H){g:Nat}{cells cells':List S1}(hob:H.get ob=some (.L g e cells))(hl:cells'.length=cells.length)
  (hcell:∀i (h:i<cells.length) (h':i<cells'.length),Fz (fun id=>n<=id/\id≠ob) H H.C cells[i] cells'[i]):TC (fun id=>n<=id/\id≠ob) H (H.fq n ob (.L g e cells')) where
 gone id hs:=by simp[S2.fq,hs.1,hs.2]
 kept id b hs hb:=by
  have hbb:=hc.below id b hb;refine⟨hc.lt id b hb,?_⟩;by_cases h:id=ob
  ·subst h;rw[hob]at hb;cases hb;exact⟨.L g e cells',wm,rfl,rfl,hl,hcell⟩
  ·have hn:¬n<=id:=fun hn=>hs ⟨hn,h⟩;refine⟨b,by simp[S2.fq,h,hn,hb],?_⟩;cases b with
   |ni=>trivial
   |mp=>rfl
   |L g e cells=>exact⟨rfl,rfl,rfl,fun i h _=>.dead (hbb i h)⟩
   |loop st pend n env ps asg body=>exact⟨rfl,rfl,rfl,rfl,rfl,rfl,rfl,fun t ht=>.dead (hbb t ht)⟩
 none id hs hb:=by
  by_cases h:id=ob
  ·subst h;rw[hob]at hb;cases hb
  ·have hn:¬n<=id:=fun hn=>hs ⟨hn,h⟩;simp[S2.fq,h,hn,hb]
theorem bY.fq (hG:dG G){s:St}{g:Nat}{cells cells':List S1}(hob:s.H.get ob=some (.L g e cells))(hl:cells'.length=cells.length)
  (hcell:(∀c∈cells,Below s.H.C c)->∀i (h:i<cells.length) (h':i<cells'.length),Fz (fun id=>n<=id/\id≠ob) s.H s.H.C cells[i] cells'[i]):bY P G s ⟨s.ρ,s.H.fq n ob (.L g e cells')⟩:=by
 intro n' wb Γ a w hs;exact bY.freeze (s:=s) (s':=⟨s.ρ,s.H.fq n ob (.L g e cells')⟩) hG (Kr hs.heap.nl hob hl (hcell fun c hc=>by
  obtain⟨i,hi,rfl⟩:=List.mem_iff_getElem.1 hc;exact hs.heap.nl.below ob _ hob i hi)) (fun t=>.dead (hs.env t).mK) n' wb Γ a w hs
def Ks {src:List S1}(ht:P.underlying t=some (.slice e))(hz:P.cellsOf e=1)(hzero:bH P e=some z)(h0:0<src.length)
  (hb:src.length*P.bytesOf e<=2 ^ 47/\src.length<=2 ^ 47) (hn:n=H.C):bf P H n t t (.lit (.slice none 0 0)) (.M src.length src)=some (.V n 0 0 src.length 1,ext H [.L 0 e src]):=by
 have hsrc:bR H 1 (.M src.length src)=some (src.length,src):=by
  unfold bR;simp
 unfold bf;rw[ht];simp only[hzero,hz,Option.bind_some];rw[hsrc];simp only[Option.bind_some];rw[PC U,PG hb,qX hn];rfl
def Tg.Aq {r:List S1}(h:Tg lo H e1 e0 v ids O)(ht:P.underlying t=some (.slice e1))(hz:P.cellsOf e1=1)(hzero:bH P e1=some z)(hby:P.bytesOf e1=24)(hne:e1≠e0)
  (hb:O.length<2 ^ 40) (hlo:lo<=H.C) (hn:n=H.C+2):
  ∃v' H',bf P (ext (ext H [.L 0 e0 r]) [.L 0 e1 [.V H.C 0 0 r.length 1]]) n t t v (.V (H.C+1) 0 0 1 1)=some (v',H')/\Tg lo H' e1 e0 v' (ids++[H.C]) (O++[r])/\H.C<=H'.C/\(∀k,k<H.C->(∀g n,v≠.V k g 0 n 1)->H'.get k=H.get k):=by
 obtain⟨v',H',hA,hO,hn',_⟩:=h.app (P:=P) (r:=r) ht hz hzero hby hne hb hlo hn;have nb:(ext H [.L 0 e0 r]).C=H.C+1:=rfl;obtain⟨v2,H2,hA2,_,_,hp⟩:=fT (P:=P) (H:=ext H [.L 0 e0 r]) (t:=t) (x:=.V H.C 0 0 r.length 1) (n:=n) ht hz hzero rfl (by rw[hby];simp[h.len];omega) (h.top.over (.ext _ _)) (by rw[nb];omega) (by rw[nb];omega);rw[nb]at hA2;have e:(v2,H2)=(v',H'):=Option.some.inj (hA2.symm.trans hA);cases e;exact⟨_,_,hA,hO,hn',fun k hk hne=>(hp k (by rw[nb];omega) hne).trans (eG _ _ _ hk)⟩
def Tg.ne (h:Tg lo H e1 e0 v ids O){k g':Nat}{c:List S1}(hk:H.get k=some (.L g' e c))(he:e≠e1):∀g n,v≠.V k g 0 n 1:=fun g n hv=>by
 rcases h.top with ⟨h1,_⟩|⟨i,g2,_,_,h1,h2⟩
 ·rw[h1]at hv;cases hv
 ·rw[h1]at hv;obtain rfl:=(S1.V.inj hv).1;rw[hk]at h2;cases h2;exact he rfl
def W.eJ {rd:Option Nat}{Q:AX->St->Prop}{s:St}{x y:Code}(Φ:St->Prop)(h:W P G n rd x (fun ax s'=>ax=.normal/\Φ s') s)(h2:∀s',Φ s'->W P G n rd y Q s'):W P G n rd (.seq x y) Q s :=
 W.seq (h.mono fun ax s' ⟨e,hp⟩=>by subst e;exact h2 s' hp)
def bY.same {s:St}:bY P G s s:=by
 intro n wb Γ a w hs;exact⟨Γ,hs,.refl _ _ _,fun _ _ h _=>h⟩
end Go.Hx
namespace Go.Proofs
open Go.Hx
variable {ids:List Nat}{lo nx:Nat}{S:Nat->Prop}{pv rv v:S1}{H H':S2}{x:S3}
structure Tm (lo:Nat)(H:S2)(pv rv:S1)(ids:List Nat)(x:S3):Prop where
 par:au lo H 3 pv (ints x.F)
 O:Tg lo H 59 3 rv ids (x.O.map ints)
 dj:∀id g n,pv=.V id g 0 n 1->id ∉ ids
 nil:x.O=[]->rv=.lit (.slice none 0 0)
theorem Tm.na (h:Tm lo H pv rv ids x)(hn:H.C<=H'.C)(hk:∀id,lo<=id->id<H.C->H'.get id=H.get id):Tm lo H' pv rv ids x :=
 ⟨h.par.na S0 hn fun id _ h1 h2 _ _=>hk id h1 h2,h.O.na hn hk,h.dj,h.nil⟩
def Tm.over (h:Tm lo H pv rv ids x)(o:S6 H H'):Tm lo H' pv rv ids x:=h.na o.C fun id _ h2=>o.nf id h2
def Tm.keepE (h:Tm lo H pv rv ids x)(hn:H.C<=H'.C)(hk:∀id g e c,lo<=id->id<H.C->H.get id=some (.L g e c)->e≠83->H'.get id=H.get id):Tm lo H' pv rv ids x :=
 ⟨h.par.na S0 hn fun id g h1 h2 h3 _=>hk id g _ _ h1 h2 h3 SY,⟨h.O.len,h.O.nd,fun i hi=>⟨(h.O.no i hi).1,by have:=(h.O.no i hi).2;omega⟩,h.O.top.na S0 hn fun id g h1 h2 h3 _=>hk id g _ _ h1 h2 h3 SY,fun k id r h1 h2=>by
  have h3:=h.O.no id (PA h1);have h4:=h.O.row k id r h1 h2;rw[hk id _ _ _ h3.1 h3.2 h4 SY];exact h4⟩,h.dj,h.nil⟩
def sG {e1 e0:TypeId}{O:List (List S1)}(h:Tg lo H e1 e0 v ids O):v.one=true/\v.cells=[v]:=⟨h.top.one,h.top.cells⟩
def wu {e:TypeId}{cs cs':List S1}(h:au lo H e v cs)(hS:∀i g,lo<=i->i<H.C->H.get i=some (.L g e cs)->S i)(hl:cs'.length=cs.length)
  (hc:∀i (h:i<cs.length) (h':i<cs'.length),Fz S H nx cs[i] cs'[i]):Fz S H nx v (.M cs'.length cs'):=by
 rcases h with ⟨rfl,rfl⟩|⟨id,g,h1,h2,rfl,h4⟩
 ·obtain rfl:=PH hl;exact .nil
 ·rw[hl];refine .np (hS id g h1 h2 h4) h4 U fun j hj h2 h'=>?_;simp only[Nat.zero_add]at h2 ⊢;exact hc j h2 h'
def py (S:Nat->Prop)(lo:Nat)(H:S2):Prop:=∀i g e c,lo<=i->i<H.C->H.get i=some (.L g e c)->e≠83->S i
def Tm.pA (h:Tm lo H pv rv ids x)(hS:py S lo H):Fz S H nx pv (af x.F):=by
 have:=wu (S:=S) (nx:=nx) (cs':=ints x.F) h.par (fun i g h1 h2 h3=>hS i g _ _ h1 h2 h3 SY) rfl fun i hi _=>by simp only[ints,PK];exact .lit _
 rw[aY]at this;exact this
def Tm.Kt (h:Tm lo H pv rv ids x)(hS:py S lo H):Fz S H nx rv (az x.O):=by
 have hl:=h.O.len;rw[PR]at hl;have:=wu (S:=S) (nx:=nx) (cs':=x.O.map af) h.O.top (fun i g h1 h2 h3=>hS i g _ _ h1 h2 h3 SY) (by simp[hl]) fun i hi hi'=>by
  have hil:i<x.O.length:=by simpa using hi'
  have hii:i<ids.length:=U
  simp only[PK,SP,aY];have hid:=h.O.no _ (P4 hii);have hrow:=h.O.row i _ _ (PB hii) (show (x.O.map ints)[i]?=some (ints x.O[i]) by rw[List.getElem?_map,PB hil];rfl);refine .np (hS _ _ _ _ hid.1 hid.2 hrow SY) hrow (by simp[aY]) fun j hj h2 h'=>?_;simp only[ints,PK];have e0:0+j=j:=Nat.zero_add j;simp only[e0];exact .lit _
 rw[PR]at this;exact this
def Tm.lG (h:Tm lo H pv rv ids x)(hS:py S lo H):Fz S H nx rv (aU x):=by
 unfold aU;split
 ·rename_i e;rw[h.nil e];exact .lit _
 ·exact h.Kt hS
def Tm.low {lo':Nat}(h:Tm lo H pv rv ids x)(hl:lo'<=lo):Tm lo' H pv rv ids x :=
 ⟨h.par.na hl S0 fun _ _ _ _ _ _=>rfl,⟨h.O.len,h.O.nd,fun i hi=>⟨by have:=(h.O.no i hi).1;omega,(h.O.no i hi).2⟩,h.O.top.na hl S0 fun _ _ _ _ _ _=>rfl,h.O.row⟩,h.dj,h.nil⟩
end Go.Proofs
namespace Go.Hx
variable {O:List (List S1)}{ids:List Nat}{lo:Nat}{v:S1}{H:S2}{e0 e1:TypeId}
def Tg.elem (h:Tg lo H e1 e0 v ids O){i:Nat}(hi:i∈ids):∃r,H.get i=some (.L 0 e0 r):=by
 obtain⟨k,hk⟩:=PU.1 hi;have hl:=(Qc.1 hk).1;rw[h.len]at hl;exact⟨_,h.row k i _ hk (PB hl)⟩
def Tg.wx {H':S2}(h:Tg lo H e1 e0 v ids O)(hn:H.C<=H'.C)
  (hk:∀i g e c,lo<=i->i<H.C->H.get i=some (.L g e c)->(e=e1\/i∈ids)->H'.get i=H.get i):Tg lo H' e1 e0 v ids O :=
 ⟨h.len,h.nd,fun i hi=>⟨(h.no i hi).1,by have:=(h.no i hi).2;omega⟩,h.top.na S0 hn fun i g h1 h2 h3 _=>hk i g _ _ h1 h2 h3 (.inl rfl),fun k i r h1 h2=>by
  have h3:=h.no i (PA h1);have h4:=h.row k i r h1 h2;rw[hk i _ _ _ h3.1 h3.2 h4 (.inr (PA h1))];exact h4⟩
end Go.Hx
namespace Go.Proofs
open Go.Hx
variable {c g n r:Int}{O:List (List Int)}{l q:List Int}{ids:List Nat}{cs:List S1}{ns:List S3}{A f gt idr idt lo m nx:Nat}{S e:Nat->Prop}{rv v w:S1}{H H':S2}{x:S3}
structure Td (m:Nat)(ns:List S3):Prop where
 len:ns.length<=m
 node:∀x∈ns,x.F.length<=m/\x.O.length<=m/\∀r∈x.O,r≠[]/\r.length<=m
def Td.mono {m':Nat}(h:Td m ns)(hm:m<=m'):Td m' ns :=
 ⟨Qm h.len hm,fun x hx=>by
  obtain⟨a,b,c⟩:=h.node x hx;exact⟨U,U,fun r hr=>⟨(c r hr).1,by have:=(c r hr).2;omega⟩⟩⟩
theorem Td.set {y:S3}(h:Td m ns)(hy:y.F.length<=m/\y.O.length<=m/\∀r∈y.O,r≠[]/\r.length<=m):Td m (ns.set A y) :=
 ⟨by rw[PI];exact h.len,fun x hx=>by
  rcases P1 hx with h1|rfl
  ·exact h.node x h1
  ·exact hy⟩
def aN (ns:List S3)(A:Nat)(c pv rv:S1):List S1:=(((aJ ns).set (A*3) c).set (A*3+1) pv).set (A*3+2) rv
def dh (ns:List S3)(A:Nat)(c pv rv:S1):(aN ns A c pv rv).length=ns.length*3:=by unfold aN;simp[dZ]
def lH (h:A<ns.length)(c pv rv:S1):(aN ns A c pv rv)[A*3]?=some c:=by
 unfold aN;rw[PY U,PY U,PO (by rw[dZ];omega)]
def nj (h:A<ns.length)(c pv rv:S1):(aN ns A c pv rv)[A*3+1]?=some pv:=by
 unfold aN;rw[PY U,PO (by rw[PI,dZ];omega)]
def jJ (h:A<ns.length)(c pv rv:S1):(aN ns A c pv rv)[A*3+2]?=some rv:=by
 unfold aN;rw[PO (by rw[PI,PI,dZ];omega)]
def jg {i:Nat}(h0:i≠A*3)(h1:i≠A*3+1)(h2:i≠A*3+2)(c pv rv:S1):(aN ns A c pv rv)[i]?=(aJ ns)[i]?:=by
 unfold aN;rw[PY U,PY U,PY U]
def Ky (c c' pv rv:S1):(aN ns A c pv rv).set (A*3) c'=aN ns A c' pv rv:=by
 unfold aN;rw[Si _ _ U,Si (i:=A*3+1) _ _ U,RD]
def At (c pv pv' rv:S1):(aN ns A c pv rv).set (A*3+1) pv'=aN ns A c pv' rv:=by
 unfold aN;rw[Si _ _ U,RD]
def pB (c pv rv rv':S1):(aN ns A c pv rv).set (A*3+2) rv'=aN ns A c pv rv':=by
 unfold aN;rw[RD]
def wy (h:A<ns.length)(c pv rv:S1):¬aN ns A c pv rv=[]:=fun e=>by
 have:=lH h c pv rv;rw[e]at this;simp at this
def Kz (h:ns[A]?=some x)(pv rv:S1):((aJ ns).set (A*3+1) pv).set (A*3+2) rv=aN ns A (aa x.J) pv rv:=by
 unfold aN;rw[gM (gI h)]
def pD {x':S3}(hA:A<ns.length)(hr:rv=az x'.O\/rv=aU x')(he:e A->rv=aU x'):Tn e (ns.set A x') (aN ns A (aa x'.J) (af x'.F) rv):=by
 refine⟨by rw[dh,PI],fun v x hx=>?_⟩;by_cases h:v=A
 ·subst h;rw[PO hA]at hx;cases hx;exact⟨rv,lH hA _ _ _,nj hA _ _ _,jJ hA _ _ _,hr,he⟩
 ·rw[PY U]at hx;refine⟨aU x,?_,?_,?_,.inr rfl,fun _=>rfl⟩
  ·rw[jg U U U];exact gI hx
  ·rw[jg U U U];exact hJ hx
  ·rw[jg U U U];exact iL hx
def sH {z n:Nat}{e:TypeId}{cs':List S1}(h:bE lo H e z v n cs)(hS:∀i,lo<=i->S i)(hl:cs'.length=cs.length)
  (hc:∀i (h:i<cs.length) (h':i<cs'.length),Fz S H nx cs[i] cs'[i]):Fz S H nx v (.M n cs'):=by
 rcases h with ⟨rfl,rfl,rfl⟩|⟨id,g,h1,_,rfl,h3,h4⟩
 ·obtain rfl:=PH hl;exact .nil
 ·refine .np (hS id h1) h4 U fun j hj h2 h'=>?_;simp only[Nat.zero_add]at h2 ⊢;exact hc j h2 h'
def nk {pv pv' rv':S1}(hp:Fz S H nx pv pv')(hr:Fz S H nx rv rv'):∀i (h:i<(aN ns A (aa c) pv rv).length) (h':i<(aN ns A (aa c) pv' rv').length),Fz S H nx (aN ns A (aa c) pv rv)[i] (aN ns A (aa c) pv' rv')[i]:=by
 unfold aN;intro i h h';simp only[QY];by_cases h2:A*3+2=i
 ·rw[PG h2,PG h2];exact hr
 ·rw[PC h2,PC h2];by_cases h1:A*3+1=i
  ·rw[PG h1,PG h1];exact hp
  ·rw[PC h1,PC h1];by_cases h0:A*3=i
   ·rw[PG h0];exact .lit _
   ·rw[PC h0];exact s8 ns _ (P4 _)
def KA {R:Nat}{r':List Int}{cells:List S1}(h:Tg lo H 59 3 v ids (O.map ints))(hS:∀i,lo<=i->S i)(hR:R<O.length)(ht:lo<=idt)
  (hcell:cells.length=O.length) (hsame:∀(j id:Nat) (r:List Int),j≠R->ids[j]?=some id->O[j]?=some r->cells[j]?=some (.V id 0 0 r.length 1)/\H'.get id=H.get id) (hw:cells[R]?=some w) (hg:H'.get idt=some (.L gt 59 cells)) (hfw:Fz S H' nx w (af r')):
  Fz S H' nx (.V idt gt 0 O.length 1) (az (O.set R r')):=by
 have hl:=h.len;rw[PR]at hl;have:Fz S H' nx (.V idt gt 0 O.length 1) (.M O.length ((O.set R r').map af)):=by
  refine .np (hS idt ht) hg SX fun j hj h2 h'=>?_;simp only[Nat.zero_add]at h2 ⊢;have hjr:j<O.length:=U
  have e1:=PB h2;generalize cells[j]=u at e1 ⊢;rw[PK,QY];split
  ·rename_i e;subst e;rw[hw]at e1;cases e1;exact hfw
  ·rename_i e;have hij:j<ids.length:=U;obtain⟨c1,c2⟩:=hsame j _ _ (fun h=>e h.symm) (PB hij) (PB hjr);rw[c1]at e1;cases e1;have hid:=h.no _ (P4 hij);have hrow:=h.row j _ _ (PB hij) (show (O.map ints)[j]?=some (ints O[j]) by rw[List.getElem?_map,PB hjr];rfl);rw[<- c2]at hrow;refine .np (hS _ hid.1) hrow (by simp[aY]) fun i hi h3 h4=>?_;have e0:0+i=i:=Nat.zero_add i;simp only[e0,ints,PK];exact .lit _
 have e:az (O.set R r')=.M O.length ((O.set R r').map af):=by unfold az;rw[PI]
 rw[e];exact this
structure Tk (lo:Nat)(H:S2)(rv:S1)(ids:List Nat)(O:List (List Int))(R:Nat)(q:List Int)(idt gt:Nat)(cells:List S1)(idr:Nat):Prop where
 rv:rv=.V idt gt 0 O.length 1
 top:H.get idt=some (.L gt 59 cells)
 tlo:lo<=idt/\idt<H.C
 len:cells.length=O.length
 at':cells[R]?=some (.V idr 0 0 q.length 1)
 row:H.get idr=some (.L 0 3 (ints q))
 rlo:lo<=idr/\idr<H.C
 ne:idt≠idr
 id:ids[R]?=some idr
 q:O[R]?=some q
 cell:∀(j i:Nat) (r:List Int),ids[j]?=some i->O[j]?=some r->cells[j]?=some (.V i 0 0 r.length 1)
 nm:idt ∉ ids
def Tg.rowAt (h:Tg lo H 59 3 rv ids (O.map ints)){R:Nat}(hq:O[R]?=some q):∃idt gt cells idr,Tk lo H rv ids O R q idt gt cells idr:=by
 have hR:=aI hq;have hl:=h.len;rw[PR]at hl;have h0:O.map ints≠[]:=by intro e;have:=congrArg List.length e;simp at this;rw[this]at hR;simp at hR
 obtain⟨idt,gt,a,b,c,d,f⟩:=h.B2 h0;obtain⟨idr,hidr⟩:=aw (show R<ids.length by omega);have hrow:=h.row R idr (ints q) hidr (by rw[List.getElem?_map,hq];rfl);have hcell:∀(j i:Nat) (r:List Int),ids[j]?=some i->O[j]?=some r->(List.zipWith (fun i n=>S1.V i 0 0 n 1) ids ((O.map ints).map List.length))[j]?=some (.V i 0 0 r.length 1):=fun j i r h1 h2=>by
  rw[List.getElem?_zipWith,h1,List.getElem?_map,List.getElem?_map,h2];simp[aY]
 refine⟨idt,gt,_,idr,by rw[c,PR],d,⟨a,b⟩,by simp[hl],hcell R idr q hidr hq,hrow,h.no _ (PA hidr),?_,hidr,hq,hcell,f SY⟩;rintro rfl;exact f SY (PA hidr)
def Tk.KB {R:Nat}{cells:List S1}(h:Tk lo H rv ids O R q idt gt cells idr)(hM:Tg lo H' 59 3 rv ids (O.map ints))(hS:∀i,lo<=i->S i)(ht:H'.get idt=some (.L gt 59 cells)):
  Fz S H' nx (.V idt gt 0 R 1) (az (O.take R)):=by
 have hR:=aI h.q;have hl:=hM.len;rw[PR]at hl;have:Fz S H' nx (.V idt gt 0 R 1) (.M R ((O.take R).map af)):=by
  refine .np (hS idt h.tlo.1) ht (by simp;omega) fun j hj h2 h'=>?_;simp only[Nat.zero_add]at h2 ⊢;have hjr:j<O.length:=U
  have hij:j<ids.length:=U
  have e1:=PB h2;generalize cells[j]=u at e1 ⊢;rw[h.cell j _ _ (PB hij) (PB hjr)]at e1;cases e1;rw[PK,Rg];have hid:=hM.no _ (P4 hij);have hrow:=hM.row j _ _ (PB hij) (show (O.map ints)[j]?=some (ints O[j]) by rw[List.getElem?_map,PB hjr];rfl);refine .np (hS _ hid.1) hrow (by simp[aY]) fun i hi h3 h4=>?_;have e0:0+i=i:=Nat.zero_add i;simp only[e0,ints,PK];exact .lit _
 have e:az (O.take R)=.M R ((O.take R).map af):=by unfold az;rw[PQ,RO U]
 rw[e];exact this
def Tk.KC {R:Nat}{cells:List S1}(h:Tk lo H rv ids O R q idt gt cells idr)(hM:Tg lo H 59 3 rv ids (O.map ints))(hS:∀i,lo<=i->S i){q':List Int}
  (ht:H'.get idt=some (.L gt 59 (cells.set R w))) (hk:∀i∈ids,i≠idr->H'.get i=H.get i) (hw:Fz S H' nx w (af q')):Fz S H' nx rv (az (O.set R q')):=by
 have hR:=aI h.q;rw[h.rv];refine KA (gt:=gt) hM hS hR h.tlo.1 (by rw[PI];exact h.len) (fun j i r hj h1 h2=>⟨by rw[PY (fun e=>hj e.symm)];exact h.cell j i r h1 h2,hk i (PA h1) ?_⟩) (by rw[PO (by rw[h.len];exact hR)]) ht hw;rintro rfl;exact hj ((Q3 (aI h1) hM.nd).1 (by rw[h1,h.id]))
theorem Tn.take (h:Tn e ns cs)(k:Nat):Tn e (ns.take k) (cs.take (k*3)):=by
 refine⟨by rw[PQ,PQ,h.len];omega,fun v x hx=>?_⟩;have hv:=aI hx;rw[PQ]at hv;rw[Qp U]at hx;obtain⟨rv,a,b,c,d⟩:=h.node v x hx;exact⟨rv,by rw[Qp U];exact a,by rw[Qp U];exact b,by rw[Qp U];exact c,d⟩
theorem Td.take (h:Td m ns)(k:Nat):Td m (ns.take k):=⟨by rw[PQ];have:=h.len;omega,fun x hx=>h.node x (P0 hx)⟩
def g9:Nat->Int->Int->List Int->List Int
 |0,_,_,l=>l
 |f+1,i,k,l=>if i<k then g9 f (i+1) (k-1) ((l.set i.toNat (l.getD k.toNat 0)).set k.toNat (l.getD i.toNat 0)) else l
def gC (c n g:Int)(q:List Int):List Int:=if c=6 then q.set 0 n else if c=7 then q++[0] else if c=8 then g :: List.replicate (q.length-1) 0 else g9 (q.length+1) 0 ((q.length:Int)-1) q
def cQ (c r n g:Int)(x:S3):S3 × S1 :=
 if c=1 then ({ x with J:=n },aU x) else if c=2 then ({ x with F:=x.F++[n] },aU x) else if c=3 then ({ x with F:=[] },aU x)
 else if c=4 then ({ x with O:=x.O++[[n]] },aU { x with O:=x.O++[[n]] })
 else match x.O[(r % (x.O.length:Int)).toNat]? with
  |none=>(x,aU x)
  |some q=>if c=5 then ({ x with O:=x.O.take (r % (x.O.length:Int)).toNat },az (x.O.take (r % (x.O.length:Int)).toNat))
   else ({ x with O:=x.O.set (r % (x.O.length:Int)).toNat (gC c n g q) },az (x.O.set (r % (x.O.length:Int)).toNat (gC c n g q)))
def di (c:Int)(A:Nat)(r n g:Int)(ns:List S3):Int × List S3 × List S1:=match ns[A]? with
 |none=>(g,[],[])
 |some x=>if c=0 then (n,ns,aN ns A (aa x.J) (af x.F) (aU x))
  else if c=10 then (g,ns++[⟨1,[],[[g]]⟩],aN ns A (aa x.J) (af x.F) (aU x)++[aa 1,af [],aU ⟨1,[],[[g]]⟩])
  else if c=11 then (g,ns.take (ns.length-1),(aN ns A (aa x.J) (af x.F) (aU x)).take ((ns.length-1)*3))
  else (g,ns.set A (cQ c r n g x).1,aN ns A (aa (cQ c r n g x).1.J) (af (cQ c r n g x).1.F) (cQ c r n g x).2)
def pE (hc:4<c)(hx:x.O=[]):cQ c r n g x=(x,aU x):=by
 unfold cQ;rw[PC U,PC U,PC U,PC U,hx];rfl
def KD {R:Nat}(hq:x.O[R]?=some q)(hR:R=(r % (x.O.length:Int)).toNat):cQ 5 r n g x=({ x with O:=x.O.take R },az (x.O.take R)):=by
 subst hR;unfold cQ;rw[PC U,PC U,PC U,PC U,hq];rfl
def KE {R:Nat}(hc:5<c)(hq:x.O[R]?=some q)(hR:R=(r % (x.O.length:Int)).toNat):cQ c r n g x=({ x with O:=x.O.set R (gC c n g q) },az (x.O.set R (gC c n g q))):=by
 subst hR;unfold cQ;rw[PC U,PC U,PC U,PC U,hq];simp only;rw[PC U]
def KG:∀(f:Nat) (i k:Int) (l:List Int),(g9 f i k l).length=l.length:=by
 intro f
 induction f with
 |zero=>intro i k l;rfl
 |succ f ih=>intro i k l;unfold g9;split<;>simp[ih]
def KH {i k:Int}(h:¬i<k):g9 f i k l=l:=by
 cases f with
 |zero=>rfl
 |succ f=>unfold g9;rw[PC h]
def KI {iN kN:Nat}{qa qb:Int}(h:(iN:Int)<kN)(ha:l[iN]?=some qa)(hb:l[kN]?=some qb):g9 f ((iN:Int)+1) ((kN:Int)-1) ((l.set iN qb).set kN qa)=g9 (f+1) iN kN l:=by
 conv=>rhs;unfold g9
 rw[PG h];simp[List.getD,ha,hb]
end Go.Proofs
