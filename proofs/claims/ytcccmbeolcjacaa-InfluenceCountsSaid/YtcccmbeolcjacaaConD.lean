/- Own work: contracts. -/
import Derived.Test.YtcccmbeolcjacaaConC
import Derived.Test.YtcccmbeolcjacaaRows
import Derived.Test.YtcccmbeolcjacaaLibC
import Derived.ProofKit
import Derived.Test.YtcccmbeolcjacaaConB
set_option linter.all false
set_option maxHeartbeats 8000000
set_option maxRecDepth 100000
namespace Go.Proofs
open Go.Hx
variable {l:List T6}{i nx:Nat}{x:T6}{H:Tz}
structure D20 where
 g:Int
 ps:List T0
 ord:List Int
 nn:Int
 rem:Bool
 us:List T6
structure D20.Ok (d:D20):Prop where
 g:U8 d.g
 ps:∀x∈d.ps,x.Ok
 pl:(d.ps.length:Int)<2 ^ 63
 ol:(d.ord.length:Int)<2 ^ 63
 o8:∀x∈d.ord,U8 x
 nn:U8 d.nn
 us:∀u∈d.us,u.Ok
 ul:(d.us.length:Int)<2 ^ 63
def jZ (us:List T6):List Ty:=(us.map T6.cells).flatten
def D20.cells (d:D20):List Ty:=[.lit (.int .u8 d.g),.M d.ps.length (eh d.ps),.M d.ord.length (bM d.ord),.lit (.int .u8 d.nn),.lit (.bool d.rem),.M d.us.length (jZ d.us)]
def ND (h:l[i]?=some x):((jZ l).drop (i*2)).take 2=[.lit (.int .u8 x.vars),.M x.w.length (ma x.w)]:=kU (f:=T6.cells) (z:=2) (fun _=>rfl) l i x h
def NF (h:l[i]?=some x):(jZ l)[i*2]?=some (.lit (.int .u8 x.vars)):=fN (f:=T6.cells) (z:=2) (fun _=>rfl) l i 0 x h (U)
def NG (h:l[i]?=some x):¬jZ l=[]:=fun e=>by
 have:=NF h;rw[e]at this;simp at this
def NH {l:List TA}{x:TA}(p:List Int)(h:l[i]?=some x):((aH l).set (i*3+1) (ag p)).set (i*3+2) (.lit (.slice none 0 0))=aH (l.set i ⟨x.J,p,[]⟩):=by
 have hl:=aG h;have h1:=tu (f:=TA.eD) (z:=3) (fun _=>rfl) l i ⟨x.J,p,[]⟩ hl;have h2:=kU (f:=TA.eD) (z:=3) (fun _=>rfl) l i x h;unfold aH;rw[h1];have h3:(l.map TA.eD).flatten=((l.map TA.eD).flatten).take (i*3)++(x.eD++((l.map TA.eD).flatten).drop (i*3+3)):=by
  rw[<- h2,<- RI,Qq,Qq]
 have hlen:(((l.map TA.eD).flatten).take (i*3)).length=i*3:=by
  rw[P9,jj (f:=TA.eD) (z:=3) (fun _=>rfl)];omega
 conv=>lhs;rw[h3]
 rw[QL _ _ U,QL _ _ U,hlen,show i*3+1-i*3=1 by omega,show i*3+2-i*3=2 by omega];simp[TA.eD,aS]
def NI {l:List TA}(h:∀x∈l,x.O≠[]):aH l=aI l:=by
 unfold aH aI;congr 1;exact Rd fun x hx=>by unfold TA.eD TA.cells;rw[nQ (h x hx)]
def wV {N:Nat}{e:TypeId}{g:Int}{ms:List TA}(h:H.get N=some (.L 0 e (aH ms))):Fz (fun _=>True) H nx (.agg [aa g,.V N 0 0 ms.length 3]) (bR g ms):=by
 refine .agg rfl fun i hi _=>?_
 match i,hi with
 |0,_=>exact .lit _
 |1,_ =>
  refine .np trivial h (gM ms) fun j hj h2 h'=>?_;have e0:(0:Nat)+j=j:=Nat.zero_add j;have h3:j<(aH ms).length:=U
  have:=Bi (S:=fun _=>True) (H:=H) (nx:=nx) ms j h3 h';simpa only[e0] using this
def pY {S:Nat->Prop}(l:List TI):∀c∈aL l,Fz S H nx c c:=by
 intro c hc;unfold aL at hc;obtain⟨r,hr,hc⟩:=Rj.1 hc;obtain⟨x,_,rfl⟩:=Qm.1 hr;unfold TI.cells at hc;simp only[List.mem_cons,List.not_mem_nil,or_false]at hc;rcases hc with rfl|rfl<;>exact .cK _
def NJ (d:D20)(hd:d.Ok)(H:Tz)(K:TF->Tz->Prop)(hK:∀x,DrI d.rem x->x.Q=(d.us.map fun u=>dz u x.I).take 4->K (.ret (tA x)) H):af Try.prog G0 9 [.agg d.cells] H K:=by
 refine af.nl ⟨_,Try.func9,rfl,rfl⟩ fun hcl=>?_;refine af.st (n:=128) (rs:=[.cell 2 39]) Try.func9 ?_;simp only[go_sem,D20.cells];obtain⟨H0,hH0⟩:∃H0,H0=ext H [.L 0 28 [.lit (.int .u8 d.g),.M d.ps.length (eh d.ps),.M d.ord.length (bM d.ord),.lit (.int .u8 d.nn),.lit (.bool d.rem),.M d.us.length (jZ d.us)],.L 0 39 [.lit (.int .i64 0),.lit (.slice none 0 0),.lit (.int .u64 0),.lit (.slice none 0 0)]]:=⟨_,rfl⟩
 have g00:=dA hH0
 have g01:=gE hH0 1 rfl
 have n0:H0.C=H.C+2:=hH0▸rfl
 have o0:TC H H0:=hH0▸.ext _ _
 rw[<- hH0];clear hH0;refine aE.nl (N5 d.g d.ps d.ord hd.g hd.ps hd.pl hd.ol hd.o8 _ _ fun g ns N H' ov hN1 hN2 hget hnet h5 hp3=>⟨trivial,?_⟩);simp only[go_sem];obtain⟨B,hB⟩:∃B,B=H'.C:=⟨_,rfl⟩
 rw[<- hB];obtain⟨H1,hH1⟩:∃H1,H1=ext H' [.L 0 64 [.lit (.int .i64 g),.V N 0 0 ns.length 3],.L 0 39 [.lit (.int .i64 g),.V N 0 0 ns.length 3,.lit (.int .u64 0),.lit (.slice none 0 0)]]:=⟨_,rfl⟩
 have n1:H1.C=B+2:=by rw[hH1,hB];rfl
 have ovn:=ov.C;have g10:H1.get H.C=some (.L 0 28 [.lit (.int .u8 d.g),.M d.ps.length (eh d.ps),.M d.ord.length (bM d.ord),.lit (.int .u8 d.nn),.lit (.bool d.rem),.M d.us.length (jZ d.us)]):=by rw[hH1,eC _ _ _ U,ov.nb _ U];exact g00
 have g11:H1.get (H.C+1)=some (.L 0 39 [.lit (.int .i64 0),.lit (.slice none 0 0),.lit (.int .u64 0),.lit (.slice none 0 0)]):=by rw[hH1,eC _ _ _ U,ov.nb _ U];exact g01
 have gN:H1.get N=some (.L 0 83 (aH ns)):=by rw[hH1,eC _ _ _ U,NI (Bx hnet)];exact hget
 have gB:H1.get B=some (.L 0 64 [.lit (.int .i64 g),.V N 0 0 ns.length 3]):=by rw[hH1,hB];exact cW ..
 have gB1:H1.get (B+1)=some (.L 0 39 [.lit (.int .i64 g),.V N 0 0 ns.length 3,.lit (.int .u64 ((0:Nat):Int)),.lit (.slice none 0 0)]):=by rw[hH1,hB];exact dV H' _ 1 (Tu)
 have o1:TC H H1:=by rw[hH1];exact(o0.trans ov).trans (.ext _ _)
 rw[<- hH1];clear hH1 hget;have hsl:(aX ns).length=ns.length:=by simp[aX]
 have hpr:∀x∈ns,(x.F.length:Int)<2 ^ 39/\∀q∈x.F,0<=q/\q<(ns.length:Int):=fun x hx=>⟨by have:=hp3 x hx;omega,(hnet.node x hx).2.2⟩
 have hs8:∀p∈aX ns,p<2 ^ (aX ns).length:=by rw[hsl];exact tI fun x hx=>(hpr x hx).2
 obtain⟨r,hr⟩:=Qy.1 ((Bd hs8 U).2 hnet.acyc);have hTR:=NB (fun p h=>P5 (hs8 p h) (Qu Tv U)) hr;have hrl:=hTR.len;rw[hsl]at hrl;refine aE.nl ((af.frame (H:=H1) (args:=[.agg [aa g,.V N 0 0 ns.length 3]]) (args':=[bR g ns]) (v':=ag (bf r)) aT rfl (fun i hi _=>?_) (Oe g ns U hpr r hr cj _ fun v H' _ ho=>⟨_,rfl,ho.mf⟩)).mono fun rr H2 hrr=>?_)
 ·match i,hi with
  |0,_=>exact wV gN
 obtain⟨rfl,rfl⟩:=hrr;refine⟨trivial,?_⟩;simp only[go_sem];refine W.kj (Q':=fun e s2=>e=.exit 0/\∃(i known nn:Nat) (os:List Nat) (ms:List TA),s2.ρ 1=.Y H.C 0 0/\s2.ρ 2=.Y (H.C+1) 0 0/\s2.ρ 3=.Y B 0 0/\s2.ρ 4=.Y (B+1) 0 0/\Ud ns r d.rem i known nn os ms/\H2.C<=s2.H.C/\(∀id,id<H2.C->id≠N->id≠B+1->s2.H.get id=H2.get id)/\s2.H.get N=some (.L 0 83 (aH ms)) /\
  s2.H.get (B+1)=some (.L 0 39 [.lit (.int .i64 g),.V N 0 0 ns.length 3,.lit (.int .u64 (nn:Int)),.lit (.slice none 0 0)])) ?_ ?_
 rotate_left
 ·rintro e s2 ⟨rfl,i,known,nn,os,ms,e1,e2,e3,e4,L,hnx,hold,hN,hB1⟩;refine⟨s2,.refl _,Tx,trivial,?_⟩;obtain⟨ρ2,Hy⟩:=s2;dsimp only at e1 e2 e3 e4 hnx hold hN hB1;simp only[go_sem];have hml:=L.len;have hcd:∀x∈ms,1<=x.J/\x.J<=4:=fun x hx=>by
   obtain⟨v,hv⟩:=Qd.1 hx;obtain⟨y,hy⟩:=az (l:=ns) (i:=v) (by have:=aG hv;omega);have h1:(aA ms)[v]?=(aA ns)[v]?:=(by rw[L.J]);rw[dk hv,dk hy]at h1;rw[Option.some.inj h1];exact(hnet.node y (an hy)).1
  have hn1:=hnet.n1;obtain⟨ut,hut⟩:∃ut:List TI,ut=d.us.map fun u=>dz u ms:=⟨_,rfl⟩
  refine W.aM 170141163178059628080016879768632823808 (by rfl) (fun ρ Hu=>∃(i:Nat) (uv:Ty),ρ 12=aa i/\i<=d.us.length/\i<=4/\Hy.C<=Hu.C/\(∀id,id<Hy.C->id≠B+1->Hu.get id=Hy.get id)/\Hu.get (B+1)=some (.L 0 39 [.lit (.int .i64 g),.V N 0 0 ns.length 3,.lit (.int .u64 (nn:Int)),uv])/\bE Hy.C Hu 85 2 uv i (aL (ut.take i))) (fun ρ H=>d.us.length-(iv (ρ 12)).toNat) ?_ ?_
  ·simp only[go_sem];exact⟨0,_,rfl,U,U,hB1,.nil⟩
  rintro ρ Hu ⟨i,uv,h12,hi,hi4,hnu,holdu,hBu,hO⟩;refine W.en (fun E=>E 1=.Y H.C 0 0 /\ E 2=.Y (H.C+1) 0 0 /\ E 3=.Y B 0 0 /\ E 4=.Y (B+1) 0 0 /\ E 12=aa i) (by simp only[go_sem,e1,e2,e3,e4,h12]) fun E ⟨f1,f2,f3,f4,f12⟩=>?_
  refine W.vs ?_;have uh:Hu.get H.C=_:=((holdu H.C U U).trans (hold H.C U U U)).trans g10;have l0:=ae uh;have lB:=ae (((holdu B U U).trans (hold B U U U)).trans gB);have lB1:=ae hBu;have hNu:Hu.get N=some (.L 0 83 (aH ms)):=(holdu N U U).trans hN;by_cases hb:(i:Int)<d.us.length/\(i:Int)<4
  ·obtain⟨u,hu⟩:=az (l:=d.us) (i:=i) U;have huo:=hd.us u (an hu);have cne:=NG hu;have c0:=ND hu;have cl:i*2+2<=(jZ d.us).length:=(by rw[show (jZ d.us).length=d.us.length*2 from jj (f:=T6.cells) (fun _=>rfl) _];omega);have w1:=PW ((i:Int)+1) U;have hpc:∀Hq,Hq.get N=some (.L 0 83 (aH ms))->N<Hq.C->cF Try.prog G0 (.nl 44 [] []) [.agg [.lit (.int .u8 u.vars),.M u.w.length (ma u.w)],.agg [.lit (.int .i64 g),.V N 0 0 ns.length 3]] Hq (.agg [ag (dz u ms).vars,ag (dz u ms).w]) [N]:=fun Hq hq hqn=>by
    refine cF.mk (fun i hi=>by obtain rfl:=List.mem_singleton.1 hi;exact hqn) fun H2 h1 h2=>?_;refine af.frame (H:=H2) (args:=[.agg u.cells,.agg [aa g,.V N 0 0 ns.length 3]]) (args':=[.agg u.cells,bR g ms]) (v':=.agg [ag (dz u ms).vars,ag (dz u ms).w]) aT rfl (fun i hi _=>?_) (Of u huo g ms U hcd cj _ fun v1 v2 H' _ o1 o2=>⟨_,rfl,.agg rfl fun i hi _=>?_⟩)
    ·match i,hi with
     |0,_ =>
      refine .agg rfl fun i hi _=>?_
      match i,hi with
      |0,_=>exact .lit _
      |1,_ =>
       refine .M rfl fun j hj _=>?_;simp only[ma,P4];exact .lit _
     |1,_=>rw[<- hml];exact wV ((h1 N Tu).trans hq)
    ·match i,hi with
     |0,_=>exact o1.mf
     |1,_=>exact o2.mf
   obtain⟨uv',Hj,hA,hO',hnj,hpj⟩:=jv (P:=Try.prog) (xs:=[ag (dz u ms).vars,ag (dz u ms).w]) Try.underlying37 Try.sX Try.sZ rfl rfl (by rw[Try.sY];omega) hO hnu rfl;simp only[ag]at hA;have na:∀id,id<Hy.C->Hj.get id=Hu.get id:=fun id h=>hpj id U (hO.ne h);have lB1j:=ae ((na _ U).trans hBu);have hvc:=hO'.cells;have hvo:=hO'.one;simp only[go_sem,f1,f12,l0,hb.1,hb.2];refine W.dr 10 [0,1,0,4,0,28,60,0,252,508] Try.mixed ?_;simp only[go_sem,f1,f3,f4,f12,l0,lB,lB1,cne,c0,cl,hb.1];refine⟨_,[N],hpc _ hNu U,?_⟩;simp only[go_sem,f4,f12,hA,lB1j,hvc,hvo,w1];have hug:ut[i]?=some (dz u ms):=(by rw[hut,List.getElem?_map,hu];rfl);have e2':aL (ut.take (i+1))=aL (ut.take i)++[ag (dz u ms).vars,ag (dz u ms).w]:=by
    rw[aO hug];unfold aL;rw[Q2,Tq];simp[TI.cells]
   refine⟨⟨fun _ h=>U,fun _ h=>U⟩,by rw[aq];omega,⟨i+1,uv',rfl,U,U,by rw[aq];omega,fun id h1 h2=>by rw[ab,PX h2,na _ h1];exact holdu id h1 h2,by rw[ab,PZ rfl],?_⟩,by rw[h12];simp only[aa,aK];omega⟩;rw[e2'];exact hO'.na (by rw[aq];omega) fun id gg h1 _ _=>by rw[ab,PX U]
  ·have fin:∀b,aw Try.prog G0 H K (.agg [.lit (.int .i64 g),.V N 0 0 ns.length 3,.lit (.int .u64 (nn:Int)),uv]) (Hu.upd (H.C+1) b):=fun b=>by
    have o1n:=o1.C;have ov2:TC H (Hu.upd (H.C+1) b):=⟨by rw[aq];omega,fun id h=>by
     rw[ab,PX U,holdu id U U,hold id U U U];exact o1.nb id h⟩
    have htl:(ut.take i).length=i:=(by rw[P9,hut,P8];omega);refine aw.bJ (v':=tA ⟨g,ms,nn,ut.take i⟩) aT hcl ov2 (.agg rfl fun j hj _=>?_) (hK _ (L.fin hnet hTR h5 U fun u hu=>?_) (by
     show ut.take i=_;rw[<- hut];rcases Ql i 4 with h4|h4
     ·have hul:ut.length=d.us.length:=(by rw[hut,P8]);have hid:d.us.length<=i:=U;rw[PY U,PY U]
     ·rw[show i=4 by omega]))
    ·match j,hj with
     |0,_=>exact .lit _
     |1,_ =>
      show Fz _ _ _ (.V N 0 0 ns.length 3) (.M ms.length (aH ms));rw[<- hml];refine .np U (show (Hu.upd (H.C+1) b).get N=some (.L 0 83 (aH ms)) by rw[ab,PX U];exact hNu) (eg ms) fun j hj h2 h'=>?_;have e0:(0:Nat)+j=j:=Nat.zero_add j;have h3:j<(aH ms).length:=U;have:=ti (S:=fun id=>H.C<=id) (H:=Hu.upd (H.C+1) b) (nx:=H.C) ms _ (Qn h3);simpa only[e0] using this
     |2,_=>exact .lit _
     |3,_ =>
      show Fz _ _ _ uv (.M (ut.take i).length (aL (ut.take i)));rcases hO with ⟨h,hz,hc⟩|⟨id,gg,k1,k2,h,k4,k5⟩
      ·rw[h,hc,htl,hz];exact .nil
      ·rw[h,htl];refine .np U (show (Hu.upd (H.C+1) b).get id=some (.L gg 85 (aL (ut.take i))) by rw[ab,PX U];exact k5) k4 fun j hj h2 h'=>?_;have e0:(0:Nat)+j=j:=Nat.zero_add j;have h3:j<(aL (ut.take i)).length:=U;have:=pY (S:=fun id=>H.C<=id) (H:=Hu.upd (H.C+1) b) (nx:=H.C) (ut.take i) _ (Qn h3);simpa only[e0] using this
    ·have hu2:=Qk hu;rw[hut]at hu2;obtain⟨p,hp,rfl⟩:=Qm.1 hu2;have:=Oa p ms fun x hx=>(hcd x hx).1;exact⟨by have:=this.vars;rw[hml]at this;exact this,by have:=this.size;rw[L.J]at this;exact this,this.w⟩
   have lR:Hu.Z (H.C+1) 0=_:=ae (((holdu (H.C+1) U U).trans (hold (H.C+1) U U U)).trans g11);have uvc:=hO.cells;have uvo:=hO.one;by_cases hb1:(i:Int)<d.us.length
   ·have hb4:¬(i:Int)<4:=fun h=>hb ⟨hb1,h⟩;simp only[go_sem,f1,f2,f4,f12,l0,lB1,lR,hb1,hb4,uvo];exact fin _
   ·simp only[go_sem,f1,f2,f4,f12,l0,lB1,lR,hb1,uvo];exact fin _
 refine W.aM 20282409603651670423947242901440 (by rfl) (fun ρ Hx=>∃(i known nn:Nat) (os:List Nat) (ms:List TA),ρ 8=aa i/\i<=r.length/\ρ 6=bj known/\ρ 7=aa os.length/\Ud ns r d.rem i known nn os ms/\H2.C<=Hx.C/\(∀id,id<H2.C->id≠N->id≠B+1->Hx.get id=H2.get id)/\Hx.get N=some (.L 0 83 (aH ms)) /\
  Hx.get (B+1)=some (.L 0 39 [.lit (.int .i64 g),.V N 0 0 ns.length 3,.lit (.int .u64 (nn:Int)),.lit (.slice none 0 0)])) (fun ρ H=>r.length-(iv (ρ 8)).toNat) ?_ ?_
 ·simp only[go_sem];exact⟨0,0,0,[],ns,rfl,U,rfl,rfl,.start ns r d.rem,gN,gB1⟩
 rintro ρ Hx ⟨i,known,nn,os,ms,h8,hi,h6,h7,L,hnx,hold,hN,hB1⟩;refine W.en (fun E=>E 1=.Y H.C 0 0 /\ E 2=.Y (H.C+1) 0 0 /\ E 3=.Y B 0 0 /\ E 4=.Y (B+1) 0 0 /\ E 5=ag (bf r) /\ E 6=bj known /\ E 7=aa os.length /\ E 8=aa i) (by simp only[go_sem,h6,h7,h8]) fun E ⟨e1,e2,e3,e4,e5,e6,e7,e8⟩=>?_
 refine W.vs ?_;have l0:=ae ((hold H.C U U U).trans g10);have lB:=ae ((hold B U U U).trans gB);have lB1:=ae hB1;have lN:=ae hN;have hrng:=hTR.no;rw[hsl]at hrng;have hml:=L.len;have natl:(bf r).length=r.length:=by simp[bf]
 have nat5:∀ {s:Nat},s<2 ^ ns.length->s<2 ^ 64:=fun h=>P5 h (Qu Tv U);have hk64:known<2 ^ 64:=nat5 (tp hrng L.knownb);have hd64:nn<2 ^ 64:=nat5 (tp hrng L.decsb);by_cases hb:(i:Int)<r.length;rotate_left
 ·simp only[go_sem,e1,e2,e3,e4,e5,e8,natl,hb];exact⟨i,known,nn,os,ms,L,hnx,hold,hN,hB1⟩
 by_cases h3:os.length<3;rotate_left
 ·have h3':¬(os.length:Int)<3:=U
  simp only[go_sem,e1,e2,e3,e4,e5,e7,e8,natl,hb,h3'];exact⟨i,known,nn,os,ms,L,hnx,hold,hN,hB1⟩
 have h3':(os.length:Int)<3:=U
 obtain⟨v,hv⟩:=az (l:=r) (i:=i) U;have hvi:(bf r)[i]?=some (v:Int):=by unfold bf;rw[List.getElem?_map,hv];rfl
 have hvne:=bb hvi;have hvn:=hrng v (an hv);have w1:=PW ((i:Int)+1) U;obtain⟨r1,hr1⟩:∃r1,d.nn.fdiv (2 ^ (min ((i:Int)).toNat IntKind.u8.bits))=r1:=⟨_,rfl⟩
 obtain⟨r2,hr2⟩:∃r2,IntKind.u8.wrap (((BitVec.ofInt IntKind.u8.bits r1 &&& BitVec.ofInt IntKind.u8.bits 1).toNat:Nat):Int)=r2:=⟨_,rfl⟩
 have s1:∀t o1 o2,bg Try.prog .shr t o1 o2 (.lit (.int .u8 d.nn)) (.lit (.int .i64 (i:Int)))=some (.lit (.int .u8 r1)):=fun t o1 o2=>by rw[tL U,hr1]
 have s2:∀t o1 o2,bg Try.prog .and t o1 o2 (.lit (.int .u8 r1)) (.lit (.int .u8 1))=some (.lit (.int .u8 r2)):=fun t o1 o2=>by rw[tM,hr2]
 by_cases hrz:r2=0
 ·simp only[go_sem,e1,e2,e3,e4,e5,e6,e7,e8,natl,hb,h3',l0,hvi,hvne,s1,s2,hrz,w1];exact⟨hnx,⟨i+1,known,nn,os,ms,rfl,U,rfl,rfl,L.skip,hnx,hold,hN,hB1⟩,by rw[h8];simp only[aa,aK];omega⟩
 obtain⟨x,hx⟩:=az (l:=ns) (i:=v) hvn;have hdv:=(L.step hTR U h3 hv hx (s:=0) (fun i hi=>by simp at hi)).1;have hmx:ms[v]?=some x:=by rw[L.nb v hdv];exact hx
 have hxp:=hpr x (an hx);have hmp:∀y∈ms,(y.F.length:Int)<2 ^ 39/\∀q∈y.F,0<=q/\q<64:=fun y hy=>by
  obtain⟨u,hu⟩:=Qd.1 hy;cases hbu:nn.testBit u with
  |false =>
   rw[L.nb u hbu]at hu;obtain⟨q1,q2⟩:=hpr y (an hu);exact⟨q1,fun q hq=>by have:=q2 q hq;omega⟩
  |true =>
   obtain⟨_,s,j,e,_⟩:=L.dec u y hu hbu;rw[e];refine⟨by have:=BM s 8;omega,fun q hq=>?_⟩;obtain⟨z,rfl,hz,_⟩:=nW.1 hq;omega
 have hset:((aX ms).map bj)[v]?=some (bj (bV x.F)):=by rw[List.getElem?_map,kh hmx];rfl
 have hsne:=bb hset;have hmn:(aX ms).length=ns.length:=by rw[<- hml];simp[aX]
 simp only[go_sem,e1,e3,e5,e7,e8,natl,hb,h3',l0,lB,hvi,hvne,s1,s2,hrz];refine aE.nl ((af.frame (H:=Hx) (args:=[.agg [aa g,.V N 0 0 ns.length 3]]) (args':=[bR g ms]) (v':=fj (aX ms)) aT rfl (fun i hi _=>?_) (Ob g ms U hmp cj _ fun v H' _ ho=>⟨_,rfl,Od ho⟩)).mono fun rr Hz hrr=>?_)
 ·match i,hi with
  |0,_=>rw[<- hml];exact wV hN
 obtain⟨rfl,rfl⟩:=hrr;refine⟨trivial,?_⟩;have hvI:(v:Int)<ns.length:=U
 simp only[go_sem,hset,hsne,hmn,hvI];have xs64:bV x.F<2 ^ 64:=nat5 (pW hxp.2);refine W.aM 9444732684264313719808 (by rfl) (fun ρ2 Hq=>Hq=Hz/\∃k s:Nat,ρ2 11=aa k/\k<=x.F.length/\ρ2 10=bj s/\Sub s (bV x.F)/\s<2 ^ 64) (fun ρ2 H=>x.F.length-(iv (ρ2 11)).toNat) ?_ ?_
 ·simp only[go_sem];exact⟨0,_,rfl,U,rfl,.refl _,xs64⟩
 rintro ρ2 Hq ⟨rfl,k,s,h11,hk,h10,hs,hs64⟩;refine W.en (fun E2=>E2 1=.Y H.C 0 0 /\ E2 2=.Y (H.C+1) 0 0 /\ E2 3=.Y B 0 0 /\ E2 4=.Y (B+1) 0 0 /\ E2 5=ag (bf r) /\ E2 6=bj known /\ E2 7=aa os.length /\ E2 8=aa i /\ E2 9=aa v /\ E2 10=bj s /\ E2 11=aa k) (by simp only[go_sem,e1,e2,e3,e4,e5,e6,e7,e8,h10,h11]) fun E2 ⟨f1,f2,f3,f4,f5,f6,f7,f8,f9,f10,f11⟩=>?_
 refine W.vs ?_;have nne:=Nb hmx;have nlen:=eg ms;have n1v:=ie hmx;by_cases hb2:(k:Int)<x.F.length
 ·obtain⟨q,hq⟩:=az (l:=x.F) (i:=k) U;have hqr:=hxp.2 q (an hq);obtain⟨u,rfl⟩:=Qb hqr.1;have hqne:=bb hq;have w2:=PW ((k:Int)+1) U;by_cases hk2:(k:Int) >= 2
  ·have s3:=fun t x y=>mh (P:=Try.prog) (t:=t) (x:=x) (y:=y) (k':=.i64) (s:=u) U;have s4:=fun t x y=>xx (P:=Try.prog) (t:=t) (x:=x) (y:=y) (a:=s) (b:=2 ^ u);simp only[go_sem,f4,f9,f10,f11,lB1,lN,n1v,hvI,hb2,hk2,hq,hqne,w2,s3,s4];exact⟨⟨k+1,fH s (2 ^ u),rfl,U,rfl,fun i hi=>by rw[xw hs64,Qj]at hi;exact hs i hi.1,Cl _ _⟩,by rw[h11];simp only[aa,aK];omega⟩
  ·simp only[go_sem,f4,f9,f10,f11,lB1,lN,n1v,hvI,hb2,hk2,w2];exact⟨⟨k+1,s,rfl,U,rfl,hs,hs64⟩,by rw[h11];simp only[aa,aK];omega⟩
 ·obtain⟨s',hs'⟩:∃s',s'=(if d.rem then s |||known else s):=⟨_,rfl⟩
  have hsv:=L.step hTR U h3 hv hx hs;rw[<- hs']at hsv;obtain⟨_,_,hslt,L2⟩:=hsv;have s64:=nat5 hslt;have b2v:(2:Nat) ^ v<2 ^ 64:=Ra Tv U;have o1':=fun t x y=>js (P:=Try.prog) (t:=t) (x:=x) (y:=y) hd64 b2v;have o2':=fun t x y=>js (P:=Try.prog) (t:=t) (x:=x) (y:=y) hk64 s64;have o3':=fun t x y=>js (P:=Try.prog) (t:=t) (x:=x) (y:=y) (RC hk64 s64) b2v;have o4':=fun t x y=>js (P:=Try.prog) (t:=t) (x:=x) (y:=y) hs64 hk64;have s6:=fun t x y=>mh (P:=Try.prog) (t:=t) (x:=x) (y:=y) (k':=.i64) (s:=v) U;have w3:=PW ((os.length:Int)+1) U;have nse:=NH (di s' 8) hmx;have gone:∀b,(Hq.upd N b).Z (B+1) 0=some (39,[.lit (.int .i64 g),.V N 0 0 ns.length 3,.lit (.int .u64 (nn:Int)),.lit (.slice none 0 0)]):=fun b=>(eS U).trans lB1;have st1:∀a,setAt (aH ms) (v*3+1) [a]=(aH ms).set (v*3+1) a:=fun a=>dm U;have st2:∀a b,setAt ((aH ms).set (v*3+1) a) (v*3+2) [b]=((aH ms).set (v*3+1) a).set (v*3+2) b:=fun a b=>dm (by rw[P2];omega);have gone2:∀b b',((Hq.upd N b).upd N b').Z (B+1) 0=some (39,[.lit (.int .i64 g),.V N 0 0 ns.length 3,.lit (.int .u64 (nn:Int)),.lit (.slice none 0 0)]):=fun b b'=>(eS U).trans (gone b);simp only[ag]at nse;cases hrem:d.rem
  ·have es:s'=s:=(by rw[hs',hrem];rfl);subst es;simp only[go_sem,f1,f3,f4,f6,f7,f8,f9,f11,lB1,lN,n1v,hvI,hb2,l0,hrem];refine W.dr 5 [0,1,0,0,8] Try.mixed ?_;simp only[go_sem,f4,f9,f10,lB1,lN,hvI,hml,nlen,gone];refine⟨ag (di s' 8),[],cF.pure fun H2=>BN s' s64 H2 _ ⟨rfl,rfl⟩,?_⟩;simp only[go_sem,hml,nlen,st1,st2,nse,P2];refine⟨U,U,?_⟩;refine W.dr 4 [0,1,0,4] Try.mixed ?_;simp only[go_sem,f4,f6,f7,f8,f9,f10,gone2,s6,o1',o2',o3',w1,w3];refine⟨by simp only[aq];omega,⟨i+1,known |||s' |||2 ^ v,nn |||2 ^ v,os++[v],_,rfl,U,rfl,Tu,hrem ▸ L2,by simp only[aq];omega,fun id h1 h2 h3=>by simp only[ab];rw[PX h3,PX h2,PX h2];exact hold id h1 h2 h3,by rw[ab,PX U,ab,PZ rfl],by rw[ab,PZ rfl]⟩,by rw[h8];simp only[aa,aK];omega⟩
  ·have es:s |||known=s':=by rw[hs',hrem];rfl
   rw[es]at o4';simp only[go_sem,f1,f3,f4,f6,f7,f8,f9,f10,f11,lB1,lN,n1v,hvI,hb2,l0,hrem,o4'];refine W.dr 5 [0,1,0,0,8] Try.mixed ?_;simp only[go_sem,f4,f9,f10,lB1,lN,hvI,hml,nlen,gone];refine⟨ag (di s' 8),[],cF.pure fun H2=>BN s' s64 H2 _ ⟨rfl,rfl⟩,?_⟩;simp only[go_sem,hml,nlen,st1,st2,nse,P2];refine⟨U,U,?_⟩;refine W.dr 4 [0,1,0,4] Try.mixed ?_;simp only[go_sem,f4,f6,f7,f8,f9,f10,gone2,s6,o1',o2',o3',w1,w3];refine⟨by simp only[aq];omega,⟨i+1,known |||s' |||2 ^ v,nn |||2 ^ v,os++[v],_,rfl,U,rfl,Tu,hrem ▸ L2,by simp only[aq];omega,fun id h1 h2 h3=>by simp only[ab];rw[PX h3,PX h2,PX h2];exact hold id h1 h2 h3,by rw[ab,PX U,ab,PZ rfl],by rw[ab,PZ rfl]⟩,by rw[h8];simp only[aa,aK];omega⟩
def NK (d:D20)(hd:d.Ok)(H:Tz)(K:TF->Tz->Prop)(hK:∀x,DrI d.rem x->K (.ret (tA x)) H):af Try.prog G0 9 [.agg d.cells] H K :=
 NJ d hd H K fun x hx _=>hK x hx
end Go.Proofs
namespace Go.Proofs.Ytcccmbeolcjacaa
open Go.ChangeShapes Go.WideShapes Go.ChangeAt Go.RowKit Go.Hx
def Try.V:ownKnob Try.prog.godebug=none:=Tw
def Try.laidOut:laidOutB Try.prog=true:=Tw
def Try.Lh:Try.prog.underlying 4=some .bool:=Tw
section
variable {W:World} {H:Type} {enc:TypeId × Value->H} {spare:Nat->Bool} {held:Bool}
def pS {n:Nat}(h:n<=maxLen):(n:Int)<2 ^ 63:=by
 have:maxLen=9223372036854775807:=Tv
 omega
def kT {n:Int}(h:(Lit.int .u8 n).wf=true):U8 n:=by
 have:=wf_u8 h;unfold U8;omega
def Li {n:Int}(h:(Lit.int .u16 n).wf=true):0<=n/\n<65536:=by
 have:0<=n/\n<=65535:=by simpa[Lit.wf,IntKind.min,IntKind.max,IntKind.signed,IntKind.bits] using h
 omega
def Lj:dq enc Try.prog W spare held 142 fun _ zs=>∃x:T0,zs=x.cells/\x.Ok:=by
 have hu:=Try.underlying142;have c1:=Try.lV;have c2:=Try.wE;refine(mI (φ:=fun i _ xs=>if i=2 then ∃l:List Int,xs=[.M l.length (qR .u8 l)]/\l.length<=maxLen/\∀c,c∈l->(Lit.int .u8 c).wf=true else ∃n,xs=[.lit (.int .u8 n)]/\(Lit.int .u8 n).wf=true) hu
  (fun cs hcs=>by
   have hc:Try.prog.cellsOf 142=3:=Tw;rw[hc]at hcs
   match cs,hcs with
   | [a,b,c],_=>simp[c1,c2])
  (fun i hi=>match i,hi with
   |0,_=>(gz Try.underlying5).mono fun _ _ ⟨n,_,h,w⟩=>⟨n,h,w⟩
   |1,_=>(gz Try.underlying5).mono fun _ _ ⟨n,_,h,w⟩=>⟨n,h,w⟩
   |2,_=>(uJ Try.underlying23 Try.underlying5 c1).mono fun _ _ h=>h)).mono fun d zs ⟨ds,O,_,e,hl1,hl2,hall⟩=>?_
 match O,ds,hl2,hl1,hall with
 | [x,y,z],[d0,d1,d2],_,_,hall =>
  obtain⟨n0,e0,w0⟩:=hall 0 Tu Tu;obtain⟨n1,e1,w1⟩:=hall 1 Tu Tu;obtain⟨l,e2,w2,w3⟩:=hall 2 Tu Tu;simp only[Qo,QK]at e0 e1 e2;subst e0;subst e1;subst e2;refine⟨⟨n0,n1,l⟩,by rw[e];rfl,?_⟩;exact⟨kT w0,kT w1,pS w2,fun c hc=>kT (w3 c hc)⟩
def wf_i8 {n:Int}(h:(Lit.int .i8 n).wf=true):I8 n:=by
 have:-128<=n/\n<=127:=by simpa[Lit.wf,IntKind.min,IntKind.max,IntKind.signed,IntKind.bits] using h
 unfold I8;omega
def Lk:dq enc Try.prog W spare held 103 fun _ zs=>∃x:T6,zs=x.cells/\x.Ok:=by
 have hu:=Try.underlying103;have c1:=Try.lV;have c2:=Try.AZ;have c3:=Try.A2;refine(mI (φ:=fun i _ xs=>if i=1 then ∃l:List Int,xs=[.M l.length (qR .i8 l)]/\l.length<=maxLen/\∀c,c∈l->(Lit.int .i8 c).wf=true else ∃n,xs=[.lit (.int .u8 n)]/\(Lit.int .u8 n).wf=true) hu
  (fun cs hcs=>by
   have hc:Try.prog.cellsOf 103=2:=Tw;rw[hc]at hcs
   match cs,hcs with
   | [a,b],_=>simp[c1,c2])
  (fun i hi=>match i,hi with
   |0,_=>(gz Try.underlying5).mono fun _ _ ⟨n,_,h,w⟩=>⟨n,h,w⟩
   |1,_=>(uJ Try.underlying101 Try.underlying145 c3).mono fun _ _ h=>h)).mono fun d zs ⟨ds,O,_,e,hl1,hl2,hall⟩=>?_
 match O,ds,hl2,hl1,hall with
 | [x,y],[d0,d1],_,_,hall =>
  obtain⟨n0,e0,w0⟩:=hall 0 Tu Tu;obtain⟨l,e2,w2,w3⟩:=hall 1 Tu Tu;simp only[Qo,QK]at e0 e2;subst e0;subst e2;refine⟨⟨n0,l⟩,by rw[e];rfl,?_⟩;exact⟨kT w0,pS w2,fun c hc=>wf_i8 (w3 c hc)⟩
def AF {α:Type}{t e:TypeId}{f:α->List Ty}{q:α->Prop}(ht:Try.prog.underlying t=some (.slice e))(hz:0<Try.prog.cellsOf e)(he:dq enc Try.prog W spare held e fun _ zs=>∃x:α,zs=f x/\q x):
  dq enc Try.prog W spare held t fun _ zs=>∃l:List α,zs=[.M l.length (l.map f).flatten]/\l.length<=maxLen/\∀x∈l,q x :=
 (yC ht hz he).mono fun d zs h=>by
  rcases h with ⟨_,rfl⟩|⟨ds,rest,O,_,rfl,hr,_,hl⟩
  ·exact⟨[],rfl,Ss _,fun c h=>by cases h⟩
  ·obtain⟨l,rfl,hq⟩:=yD (f:=f) (q:=q) (fun d zs h=>h) hr;exact⟨l,by rw[P8],by simpa using hl,hq⟩
def Ll:dq enc Try.prog W spare held 25 fun _ zs=>∃(g:Int) (ps:List T0) (ord:List Int),zs=[.lit (.int .u8 g),.M ps.length (eh ps),.M ord.length (bM ord)]/\U8 g/\(∀x∈ps,x.Ok)/\(ps.length:Int)<2 ^ 63/\(ord.length:Int)<2 ^ 63/\∀x∈ord,U8 x:=by
 have hu:=Try.underlying25;have c1:=Try.lV;have c2:=Try.wE;have c3:=Try.AR;have c4:=Try.A1;refine(mI (φ:=fun i _ xs=>if i=2 then ∃l:List Int,xs=[.M l.length (qR .u8 l)]/\l.length<=maxLen/\∀c,c∈l->(Lit.int .u8 c).wf=true else if i=1 then ∃l:List T0,xs=[.M l.length (l.map T0.cells).flatten]/\l.length<=maxLen/\∀x∈l,x.Ok else ∃n,xs=[.lit (.int .u8 n)]/\(Lit.int .u8 n).wf=true) hu
  (fun cs hcs=>by
   have hc:Try.prog.cellsOf 25=3:=Tw;rw[hc]at hcs
   match cs,hcs with
   | [a,b,c],_=>simp[c1,c2,c3])
  (fun i hi=>match i,hi with
   |0,_=>(gz Try.underlying5).mono fun _ _ ⟨n,_,h,w⟩=>⟨n,h,w⟩
   |1,_=>(AF Try.underlying22 (by rw[c4];decide) Lj).mono fun _ _ h=>h
   |2,_=>(uJ Try.underlying23 Try.underlying5 c1).mono fun _ _ h=>h)).mono fun d zs ⟨ds,O,_,e,hl1,hl2,hall⟩=>?_
 match O,ds,hl2,hl1,hall with
 | [x,y,z],[d0,d1,d2],_,_,hall =>
  obtain⟨n0,e0,w0⟩:=hall 0 Tu Tu;obtain⟨ps,e1,w1,w1'⟩:=hall 1 Tu Tu;obtain⟨l,e2,w2,w3⟩:=hall 2 Tu Tu;simp only[Qo,QK]at e0 e1 e2;subst e0;subst e1;subst e2;exact⟨n0,ps,l,by rw[e];rfl,kT w0,w1',pS w1,pS w2,fun c hc=>kT (w3 c hc)⟩
def Lm:dq enc Try.prog W spare held 28 fun _ zs=>∃d:D20,zs=d.cells/\d.Ok:=by
 have hu:=Try.underlying28;have c1:=Try.lV;have c2:=Try.AQ;have c3:=Try.AS;have c4:=Try.AT;have c5:=Try.A0;refine(mI (φ:=fun i _ xs=>if i=0 then ∃(g:Int) (ps:List T0) (ord:List Int),xs=[.lit (.int .u8 g),.M ps.length (eh ps),.M ord.length (bM ord)]/\U8 g/\(∀x∈ps,x.Ok)/\(ps.length:Int)<2 ^ 63/\(ord.length:Int)<2 ^ 63/\∀x∈ord,U8 x
   else if i=1 then ∃n,xs=[.lit (.int .u8 n)]/\(Lit.int .u8 n).wf=true else if i=2 then ∃b,xs=[.lit (.bool b)] else ∃l:List T6,xs=[.M l.length (l.map T6.cells).flatten]/\l.length<=maxLen/\∀x∈l,x.Ok) hu
  (fun cs hcs=>by
   have hc:Try.prog.cellsOf 28=6:=Tw;rw[hc]at hcs
   match cs,hcs with
   | [a,b,c,d,e,f],_=>simp[c1,c2,c3,c4])
  (fun i hi=>match i,hi with
   |0,_=>Ll.mono fun _ _ h=>h
   |1,_=>(gz Try.underlying5).mono fun _ _ ⟨n,_,h,w⟩=>⟨n,h,w⟩
   |2,_=>(Ec Try.underlying4).mono fun _ _ ⟨n,_,h⟩=>⟨n,h⟩
   |3,_=>(AF Try.underlying26 (by rw[c5];decide) Lk).mono fun _ _ h=>h)).mono fun d zs ⟨ds,O,_,e,hl1,hl2,hall⟩=>?_
 match O,ds,hl2,hl1,hall with
 | [x,y,z,u],[d0,d1,d2,d3],_,_,hall =>
  obtain⟨g,ps,ord,e0,w0,w0',w0'',w0''',w04⟩:=hall 0 Tu Tu;obtain⟨n1,e1,w1⟩:=hall 1 Tu Tu;obtain⟨b,e2⟩:=hall 2 Tu Tu;obtain⟨us,e3,w3,w3'⟩:=hall 3 Tu Tu;simp only[Qo,QK]at e0 e1 e2 e3;subst e0;subst e1;subst e2;subst e3;exact⟨⟨g,ps,ord,n1,b,us⟩,by rw[e];rfl,⟨w0,w0',w0'',w0''',w04,kT w1,w3',pS w3⟩⟩
def Ln {r:Reach}{b:Nat}{v:Value}{d:DataW H}{ps:List MemPlace}(hval:Value.okWide Try.prog W r b 28 v)(hd:DataW.Trod enc Try.prog W 0 spare held 28 v d ps):
  ∃x:D20,TB Try.prog gm cj W (.agg x.cells) v/\x.Ok:=by
 obtain⟨xs,h1,x,rfl,h2⟩:=yE Lm (.inl ⟨_,Try.underlying28⟩) hval hd;exact⟨x,h1,h2⟩
end
end Go.Proofs.Ytcccmbeolcjacaa
namespace Go.Hx
variable {P:Program}
variable {O:List (List Ty)}{ids:List Nat}{r:List Ty}{lo:Nat}{v:Ty}{e0 e1:TypeId}{H:Tz}
structure TN (lo:Nat)(H:Tz)(e1 e0:TypeId)(v:Ty)(ids:List Nat)(O:List (List Ty)):Prop where
 len:ids.length=O.length
 nd:ids.Nodup
 no:∀i∈ids,lo<=i/\i<H.C
 top:ay lo H e1 v (List.zipWith (fun i n=>Ty.V i 0 0 n 1) ids (O.map List.length))
 row:∀(k id:Nat) (r:List Ty),ids[k]?=some id->O[k]?=some r->H.get id=some (.L 0 e0 r)
theorem TN.nil :TN lo H e1 e0 (.lit (.slice none 0 0)) [] [] :=
 ⟨rfl,.nil,fun i h=>(by cases h),.nil,fun k id r h=>(by simp at h)⟩
theorem TN.na {H':Tz}(h:TN lo H e1 e0 v ids O)(hn:H.C<=H'.C)(hk:∀id,lo<=id->id<H.C->H'.get id=H.get id):TN lo H' e1 e0 v ids O :=
 ⟨h.len,h.nd,fun i hi=>⟨(h.no i hi).1,by have:=(h.no i hi).2;omega⟩,h.top.na Tx hn fun id _ h1 h2 _ _=>hk id h1 h2,fun k id r h1 h2=>by
  have:=h.no id (an h1);rw[hk id this.1 this.2];exact h.row k id r h1 h2⟩
def TN.app {n:Nat}{t:TypeId}{z:List Ty}(ht:P.underlying t=some (.slice e1))(hz:P.cellsOf e1=1)(hzero:bC P e1=some z)(hby:P.bytesOf e1=24)(hne:e1≠e0)
  (hb:O.length<2 ^ 40) (h:TN lo H e1 e0 v ids O) (hlo:lo<=H.C) (hn:n=H.C+2):
  ∃v' H',bd P (ext (ext H [.L 0 e0 r]) [.L 0 e1 [.V H.C 0 0 r.length 1]]) n t t v (.V (H.C+1) 0 0 1 1)=some (v',H')/\TN lo H' e1 e0 v' (ids++[H.C]) (O++[r])/\H.C<=H'.C/\(∀k,k<H.C->k<lo->H'.get k=H.get k):=by
 obtain⟨Hb,hHb⟩:∃Hb,Hb=ext H [.L 0 e0 r]:=⟨_,rfl⟩
 have nb:Hb.C=H.C+1:=hHb▸rfl
 have ob:TC H Hb:=hHb▸.ext _ _
 have gb:=dA hHb
 have htop:=h.top.over ob;obtain⟨v',H',hA,hO,hL,hp⟩:=gG (P:=P) (H:=Hb) (t:=t) (x:=.V H.C 0 0 r.length 1) (n:=n) ht hz hzero rfl (by rw[hby];simp[h.len];omega) htop U U;rw[nb,hHb]at hA;have nb:∀id g,lo<=id->id<Hb.C->Hb.get id=some (.L g e0 r)->H'.get id=Hb.get id:=fun id g h1 h2 h3=>hp id h2 fun g' m he=>by
  rcases htop with ⟨hv,_⟩|⟨i,g2,_,_,hv,h4⟩
  ·rw[hv]at he;cases he
  ·rw[hv]at he;obtain rfl:i=id:=(Ty.V.inj he).1;rw[h4]at h3;cases h3;exact hne rfl
 have oldr:∀id g q,lo<=id->id<Hb.C->Hb.get id=some (.L g e0 q)->H'.get id=Hb.get id:=fun id g q h1 h2 h3=>hp id h2 fun g' m he=>by
  rcases htop with ⟨hv,_⟩|⟨i,g2,_,_,hv,h4⟩
  ·rw[hv]at he;cases he
  ·rw[hv]at he;obtain rfl:i=id:=(Ty.V.inj he).1;rw[h4]at h3;cases h3;exact hne rfl
 refine⟨v',H',hA,⟨by simp[h.len],List.nodup_append.2 ⟨h.nd,Tu,fun a ha b hb=>by
  obtain rfl:=List.mem_singleton.1 hb;have:=(h.no a ha).2;omega⟩,fun i hi=>?_,?_,fun k id q h1 h2=>?_⟩,U,fun k hk hkl=>?_⟩
 ·rcases Qe.1 hi with h1|h1
  ·have:=h.no i h1;omega
  ·obtain rfl:=List.mem_singleton.1 h1;omega
 ·rw[Q2,List.zipWith_append (by rw[P8];exact h.len)];exact hO
 ·have hk:=Qs.1 h1;obtain⟨hk,_⟩:=hk;rw[List.length_append,RP]at hk;rcases Ql k ids.length with hlt|hge
  ·rw[P3 hlt]at h1;rw[P3 (by rw[<- h.len];exact hlt)]at h2;have hr:=h.no id (an h1);have hg:=h.row k id q h1 h2;rw[oldr id 0 q hr.1 U ((ob.nb id hr.2).trans hg),ob.nb id hr.2];exact hg
  ·obtain rfl:k=ids.length:=U;rw[Qc Tx,RN]at h1;rw[h.len,Qc Tx,RN]at h2;cases h1;cases h2;rw[oldr H.C 0 r hlo U gb];exact gb
 ·rw[hp k U fun g m he=>?_,ob.nb k hk];rcases htop with ⟨hv,_⟩|⟨i,g2,a1,_,hv,h4⟩
  ·rw[hv]at he;cases he
  ·rw[hv]at he;have:=(Ty.V.inj he).1;omega
def TN.xA (h:TN lo H e1 e0 v ids O)(h0:O≠[]):∃id g,lo<=id/\id<H.C/\v=.V id g 0 O.length 1/\H.get id=some (.L g e1 (List.zipWith (fun i n=>Ty.V i 0 0 n 1) ids (O.map List.length)))/\(e1≠e0->id ∉ ids):=by
 have hzl:(List.zipWith (fun i n=>Ty.V i 0 0 n 1) ids (O.map List.length)).length=O.length:=by simp[h.len]
 rcases h.top with ⟨hv,h4⟩|⟨i,g,a,b,hv,h4⟩
 ·rw[h4]at hzl;exact absurd (P1 hzl.symm) h0
 ·refine⟨i,g,a,b,by rw[hv,hzl],h4,fun hne hm=>?_⟩;obtain⟨k,hk⟩:=Qd.1 hm;have hkl:k<O.length:=by rw[<- h.len];exact(Qs.1 hk).1
  have:=h.row k i _ hk (PV hkl);rw[h4]at this;exact hne (TE.L.inj (Option.some.inj this)).2.1
def TN.store (h:TN lo H e1 e0 v ids O)(hne:e1≠e0){k id:Nat}{r':List Ty}(hk:ids[k]?=some id)(hr:O[k]?=some r)(hl:r'.length=r.length):TN lo (H.upd id (.L 0 e0 r')) e1 e0 v ids (O.set k r'):=by
 have hid:=h.no id (an hk);have h0:O≠[]:=fun e=>by rw[e]at hr;simp at hr
 refine⟨by rw[P2];exact h.len,h.nd,fun i hi=>by rw[aq];exact h.no i hi,?_,fun j id' q h1 h2=>?_⟩
 ·have e:(O.set k r').map List.length=O.map List.length:=by
   rw[SC,hl];apply QC;intro i;rw[RV];split
   ·rename_i hi;subst hi;have hkl:=(Qs.1 hr).1;rw[PZ (by rw[P8];exact hkl),List.getElem?_map,hr];rfl
   ·rfl
  rw[e];obtain⟨i,g,a,b,_,h4,h5⟩:=h.xA h0;refine h.top.na Tx (by rw[aq];exact Nat.le_refl _) fun i2 g2 _ _ h3 _=>?_;rw[ab,PX];rintro rfl;rw[h.row k i2 r hk hr]at h3;cases h3;exact hne rfl
 ·rw[ab];by_cases hj:j=k
  ·subst hj;rw[hk]at h1;cases h1;rw[Qa (Qs.1 hr).1]at h2;cases h2;rw[PZ rfl]
  ·rw[Qh (fun e=>hj e.symm)]at h2;rw[PX,h.row j id' q h1 h2];rintro rfl;exact hj ((Re (Qs.1 h1).1 h.nd).1 (by rw[h1,hk]))
theorem TN.fz {S:Nat->Prop}{nx:Nat}(h:TN lo H e1 e0 v ids O)(hS:∀i,lo<=i->S i)(hr:∀r∈O,∀c∈r,Fz S H nx c c):
  Fz S H nx v (.M O.length (O.map fun r=>.M r.length r)):=by
 have hz:(List.zipWith (fun i n=>Ty.V i 0 0 n 1) ids (O.map List.length)).length=O.length:=by simp[h.len]
 have:=h.top.fz (S:=S) (nx:=nx) (cs':=O.map fun r=>.M r.length r) hS (by simp[h.len]) fun i hi hi'=>by
  simp only[P4,Tm];have hil:i<O.length:=U
  have hii:i<ids.length:=by rw[h.len];exact hil
  refine .np (hS _ (h.no _ (Qn hii)).1) (h.row i _ _ (PV hii) (PV hil)) Tu fun j hj h2 h'=>?_;have e0:(0:Nat)+j=j:=Nat.zero_add j;have h3:=hr O[i] (Qn hil) _ (Qn h');simpa only[e0] using h3
 rw[P8]at this;exact this
end Go.Hx
namespace Go.Hx
variable {P:Program} {G:Nat->Option (List Ty)}
variable {O:List (List Ty)}{ids:List Nat}{z:List Ty}{lo n ob:Nat}{b:TE}{v:Ty}{e e0 e1 t:TypeId}
def Tz.eM (H:Tz)(n ob:Nat)(b:TE):Tz:=⟨fun id=>if id=ob then some b else if n<=id then none else H.get id,H.C⟩
variable {H:Tz}
def sL :(H.eM n ob b).get ob=some b:=by simp[Tz.eM]
def sM {id:Nat}(h:id<n)(h2:id≠ob):(H.eM n ob b).get id=H.get id:=by simp[Tz.eM,SM.2 h,h2]
def KL (hc:Ue H){g:Nat}{cells cells':List Ty}(hob:H.get ob=some (.L g e cells))(hl:cells'.length=cells.length)
  (hcell:∀i (h:i<cells.length) (h':i<cells'.length),Fz (fun id=>n<=id/\id≠ob) H H.C cells[i] cells'[i]):T8 (fun id=>n<=id/\id≠ob) H (H.eM n ob (.L g e cells')) where
 gone id hs:=by simp[Tz.eM,hs.1,hs.2]
 kept id b hs hb:=by
  have hbb:=hc.below id b hb;refine⟨hc.lt id b hb,?_⟩;by_cases h:id=ob
  ·subst h;rw[hob]at hb;cases hb;exact⟨.L g e cells',sL,rfl,rfl,hl,hcell⟩
  ·have hn:¬n<=id:=fun hn=>hs ⟨hn,h⟩;refine⟨b,by simp[Tz.eM,h,hn,hb],?_⟩;cases b with
   |ni=>trivial
   |mp=>rfl
   |L g e cells=>exact⟨rfl,rfl,rfl,fun i h _=>.dead (hbb i h)⟩
   |loop st pend n env ps asg body=>exact⟨rfl,rfl,rfl,rfl,rfl,rfl,rfl,fun t ht=>.dead (hbb t ht)⟩
 none id hs hb:=by
  by_cases h:id=ob
  ·subst h;rw[hob]at hb;cases hb
  ·have hn:¬n<=id:=fun hn=>hs ⟨hn,h⟩;simp[Tz.eM,h,hn,hb]
theorem cq.eM (hG:dJ G){s:St}{g:Nat}{cells cells':List Ty}(hob:s.H.get ob=some (.L g e cells))(hl:cells'.length=cells.length)
  (hcell:(∀c∈cells,Below s.H.C c)->∀i (h:i<cells.length) (h':i<cells'.length),Fz (fun id=>n<=id/\id≠ob) s.H s.H.C cells[i] cells'[i]):cq P G s ⟨s.ρ,s.H.eM n ob (.L g e cells')⟩:=by
 intro n' wb Γ a w hs;exact cq.freeze (s:=s) (s':=⟨s.ρ,s.H.eM n ob (.L g e cells')⟩) hG (KL hs.heap.nl hob hl (hcell fun c hc=>by
  obtain⟨i,hi,rfl⟩:=List.mem_iff_getElem.1 hc;exact hs.heap.nl.below ob _ hob i hi)) (fun t=>.dead (hs.env t).mU) n' wb Γ a w hs
def KM {src:List Ty}(ht:P.underlying t=some (.slice e))(hz:P.cellsOf e=1)(hzero:bC P e=some z)(h0:0<src.length)
  (hb:src.length*P.bytesOf e<=2 ^ 47/\src.length<=2 ^ 47) (hn:n=H.C):bd P H n t t (.lit (.slice none 0 0)) (.M src.length src)=some (.V n 0 0 src.length 1,ext H [.L 0 e src]):=by
 have hsrc:bW H 1 (.M src.length src)=some (src.length,src):=by
  unfold bW;simp
 unfold bd;rw[ht];simp only[hzero,hz,Option.bind_some];rw[hsrc];simp only[Option.bind_some];rw[PX U,PZ hb,ry hn];rfl
def TN.Ay {r:List Ty}(h:TN lo H e1 e0 v ids O)(ht:P.underlying t=some (.slice e1))(hz:P.cellsOf e1=1)(hzero:bC P e1=some z)(hby:P.bytesOf e1=24)(hne:e1≠e0)
  (hb:O.length<2 ^ 40) (hlo:lo<=H.C) (hn:n=H.C+2):
  ∃v' H',bd P (ext (ext H [.L 0 e0 r]) [.L 0 e1 [.V H.C 0 0 r.length 1]]) n t t v (.V (H.C+1) 0 0 1 1)=some (v',H')/\TN lo H' e1 e0 v' (ids++[H.C]) (O++[r])/\H.C<=H'.C/\(∀k,k<H.C->(∀g n,v≠.V k g 0 n 1)->H'.get k=H.get k):=by
 obtain⟨v',H',hA,hO,hn',_⟩:=h.app (P:=P) (r:=r) ht hz hzero hby hne hb hlo hn;have nb:(ext H [.L 0 e0 r]).C=H.C+1:=rfl;obtain⟨v2,H2,hA2,_,_,hp⟩:=gG (P:=P) (H:=ext H [.L 0 e0 r]) (t:=t) (x:=.V H.C 0 0 r.length 1) (n:=n) ht hz hzero rfl (by rw[hby];simp[h.len];omega) (h.top.over (.ext _ _)) (by rw[nb];omega) (by rw[nb];omega);rw[nb]at hA2;have e:(v2,H2)=(v',H'):=Option.some.inj (hA2.symm.trans hA);cases e;exact⟨_,_,hA,hO,hn',fun k hk hne=>(hp k (by rw[nb];omega) hne).trans (eC _ _ _ hk)⟩
def TN.ne (h:TN lo H e1 e0 v ids O){k g':Nat}{c:List Ty}(hk:H.get k=some (.L g' e c))(he:e≠e1):∀g n,v≠.V k g 0 n 1:=fun g n hv=>by
 rcases h.top with ⟨h1,_⟩|⟨i,g2,_,_,h1,h2⟩
 ·rw[h1]at hv;cases hv
 ·rw[h1]at hv;obtain rfl:=(Ty.V.inj hv).1;rw[hk]at h2;cases h2;exact he rfl
def W.eO {rd:Option Nat}{Q:AX->St->Prop}{s:St}{x y:Code}(Φ:St->Prop)(h:W P G n rd x (fun ax s'=>ax=.normal/\Φ s') s)(h2:∀s',Φ s'->W P G n rd y Q s'):W P G n rd (.seq x y) Q s :=
 W.seq (h.mono fun ax s' ⟨e,hp⟩=>by subst e;exact h2 s' hp)
def cq.same {s:St}:cq P G s s:=by
 intro n wb Γ a w hs;exact⟨Γ,hs,.refl _ _ _,fun _ _ h _=>h⟩
end Go.Hx
namespace Go.Proofs
open Go.Hx
variable {ids:List Nat}{lo nx:Nat}{S:Nat->Prop}{x:TA}{pv rv v:Ty}{H H':Tz}
structure TV (lo:Nat)(H:Tz)(pv rv:Ty)(ids:List Nat)(x:TA):Prop where
 par:ay lo H 3 pv (ints x.F)
 O:TN lo H 59 3 rv ids (x.O.map ints)
 dj:∀id g n,pv=.V id g 0 n 1->id ∉ ids
 nil:x.O=[]->rv=.lit (.slice none 0 0)
theorem TV.na (h:TV lo H pv rv ids x)(hn:H.C<=H'.C)(hk:∀id,lo<=id->id<H.C->H'.get id=H.get id):TV lo H' pv rv ids x :=
 ⟨h.par.na Tx hn fun id _ h1 h2 _ _=>hk id h1 h2,h.O.na hn hk,h.dj,h.nil⟩
def TV.over (h:TV lo H pv rv ids x)(o:TC H H'):TV lo H' pv rv ids x:=h.na o.C fun id _ h2=>o.nb id h2
def TV.keepE (h:TV lo H pv rv ids x)(hn:H.C<=H'.C)(hk:∀id g e c,lo<=id->id<H.C->H.get id=some (.L g e c)->e≠83->H'.get id=H.get id):TV lo H' pv rv ids x :=
 ⟨h.par.na Tx hn fun id g h1 h2 h3 _=>hk id g _ _ h1 h2 h3 Tv,⟨h.O.len,h.O.nd,fun i hi=>⟨(h.O.no i hi).1,by have:=(h.O.no i hi).2;omega⟩,h.O.top.na Tx hn fun id g h1 h2 h3 _=>hk id g _ _ h1 h2 h3 Tv,fun k id r h1 h2=>by
  have h3:=h.O.no id (an h1);have h4:=h.O.row k id r h1 h2;rw[hk id _ _ _ h3.1 h3.2 h4 Tv];exact h4⟩,h.dj,h.nil⟩
def sN {e1 e0:TypeId}{O:List (List Ty)}(h:TN lo H e1 e0 v ids O):v.one=true/\v.cells=[v]:=⟨h.top.one,h.top.cells⟩
def wm {e:TypeId}{cs cs':List Ty}(h:ay lo H e v cs)(hS:∀i g,lo<=i->i<H.C->H.get i=some (.L g e cs)->S i)(hl:cs'.length=cs.length)
  (hc:∀i (h:i<cs.length) (h':i<cs'.length),Fz S H nx cs[i] cs'[i]):Fz S H nx v (.M cs'.length cs'):=by
 rcases h with ⟨rfl,rfl⟩|⟨id,g,h1,h2,rfl,h4⟩
 ·obtain rfl:=P1 hl;exact .nil
 ·rw[hl];refine .np (hS id g h1 h2 h4) h4 U fun j hj h2 h'=>?_;simp only[Nat.zero_add]at h2 ⊢;exact hc j h2 h'
def pL (S:Nat->Prop)(lo:Nat)(H:Tz):Prop:=∀i g e c,lo<=i->i<H.C->H.get i=some (.L g e c)->e≠83->S i
def TV.pM (h:TV lo H pv rv ids x)(hS:pL S lo H):Fz S H nx pv (ag x.F):=by
 have:=wm (S:=S) (nx:=nx) (cs':=ints x.F) h.par (fun i g h1 h2 h3=>hS i g _ _ h1 h2 h3 Tv) rfl fun i hi _=>by simp only[ints,P4];exact .lit _
 rw[aR]at this;exact this
def TV.KN (h:TV lo H pv rv ids x)(hS:pL S lo H):Fz S H nx rv (av x.O):=by
 have hl:=h.O.len;rw[P8]at hl;have:=wm (S:=S) (nx:=nx) (cs':=x.O.map ag) h.O.top (fun i g h1 h2 h3=>hS i g _ _ h1 h2 h3 Tv) (by simp[hl]) fun i hi hi'=>by
  have hil:i<x.O.length:=by simpa using hi'
  have hii:i<ids.length:=U
  simp only[P4,Tm,aR];have hid:=h.O.no _ (Qn hii);have hrow:=h.O.row i _ _ (PV hii) (show (x.O.map ints)[i]?=some (ints x.O[i]) by rw[List.getElem?_map,PV hil];rfl);refine .np (hS _ _ _ _ hid.1 hid.2 hrow Tv) hrow (by simp[aR]) fun j hj h2 h'=>?_;simp only[ints,P4];have e0:0+j=j:=Nat.zero_add j;simp only[e0];exact .lit _
 rw[P8]at this;exact this
def TV.lL (h:TV lo H pv rv ids x)(hS:pL S lo H):Fz S H nx rv (aS x):=by
 unfold aS;split
 ·rename_i e;rw[h.nil e];exact .lit _
 ·exact h.KN hS
def TV.low {lo':Nat}(h:TV lo H pv rv ids x)(hl:lo'<=lo):TV lo' H pv rv ids x :=
 ⟨h.par.na hl Tx fun _ _ _ _ _ _=>rfl,⟨h.O.len,h.O.nd,fun i hi=>⟨by have:=(h.O.no i hi).1;omega,(h.O.no i hi).2⟩,h.O.top.na hl Tx fun _ _ _ _ _ _=>rfl,h.O.row⟩,h.dj,h.nil⟩
end Go.Proofs
namespace Go.Hx
variable {O:List (List Ty)}{ids:List Nat}{lo:Nat}{v:Ty}{e0 e1:TypeId}{H:Tz}
def TN.elem (h:TN lo H e1 e0 v ids O){i:Nat}(hi:i∈ids):∃r,H.get i=some (.L 0 e0 r):=by
 obtain⟨k,hk⟩:=Qd.1 hi;have hl:=(Qs.1 hk).1;rw[h.len]at hl;exact⟨_,h.row k i _ hk (PV hl)⟩
def TN.wo {H':Tz}(h:TN lo H e1 e0 v ids O)(hn:H.C<=H'.C)
  (hk:∀i g e c,lo<=i->i<H.C->H.get i=some (.L g e c)->(e=e1\/i∈ids)->H'.get i=H.get i):TN lo H' e1 e0 v ids O :=
 ⟨h.len,h.nd,fun i hi=>⟨(h.no i hi).1,by have:=(h.no i hi).2;omega⟩,h.top.na Tx hn fun i g h1 h2 h3 _=>hk i g _ _ h1 h2 h3 (.inl rfl),fun k i r h1 h2=>by
  have h3:=h.no i (an h1);have h4:=h.row k i r h1 h2;rw[hk i _ _ _ h3.1 h3.2 h4 (.inr (an h1))];exact h4⟩
end Go.Hx
namespace Go.Proofs
open Go.Hx
variable {c g n r:Int}{O:List (List Int)}{l q:List Int}{ids:List Nat}{ns:List TA}{cs:List Ty}{A f gt idr idt lo m nx:Nat}{S e:Nat->Prop}{x:TA}{rv v w:Ty}{H H':Tz}
structure TM (m:Nat)(ns:List TA):Prop where
 len:ns.length<=m
 node:∀x∈ns,x.F.length<=m/\x.O.length<=m/\∀r∈x.O,r≠[]/\r.length<=m
def TM.mono {m':Nat}(h:TM m ns)(hm:m<=m'):TM m' ns :=
 ⟨QH h.len hm,fun x hx=>by
  obtain⟨a,b,c⟩:=h.node x hx;exact⟨U,U,fun r hr=>⟨(c r hr).1,by have:=(c r hr).2;omega⟩⟩⟩
theorem TM.set {y:TA}(h:TM m ns)(hy:y.F.length<=m/\y.O.length<=m/\∀r∈y.O,r≠[]/\r.length<=m):TM m (ns.set A y) :=
 ⟨by rw[P2];exact h.len,fun x hx=>by
  rcases Qr hx with h1|rfl
  ·exact h.node x h1
  ·exact hy⟩
def aJ (ns:List TA)(A:Nat)(c pv rv:Ty):List Ty:=(((aH ns).set (A*3) c).set (A*3+1) pv).set (A*3+2) rv
def de (ns:List TA)(A:Nat)(c pv rv:Ty):(aJ ns A c pv rv).length=ns.length*3:=by unfold aJ;simp[eg]
def lM (h:A<ns.length)(c pv rv:Ty):(aJ ns A c pv rv)[A*3]?=some c:=by
 unfold aJ;rw[Qh U,Qh U,Qa (by rw[eg];omega)]
def nE (h:A<ns.length)(c pv rv:Ty):(aJ ns A c pv rv)[A*3+1]?=some pv:=by
 unfold aJ;rw[Qh U,Qa (by rw[P2,eg];omega)]
def jO (h:A<ns.length)(c pv rv:Ty):(aJ ns A c pv rv)[A*3+2]?=some rv:=by
 unfold aJ;rw[Qa (by rw[P2,P2,eg];omega)]
def ji {i:Nat}(h0:i≠A*3)(h1:i≠A*3+1)(h2:i≠A*3+2)(c pv rv:Ty):(aJ ns A c pv rv)[i]?=(aH ns)[i]?:=by
 unfold aJ;rw[Qh U,Qh U,Qh U]
def KT (c c' pv rv:Ty):(aJ ns A c pv rv).set (A*3) c'=aJ ns A c' pv rv:=by
 unfold aJ;rw[SK _ _ U,SK (i:=A*3+1) _ _ U,R9]
def AB (c pv pv' rv:Ty):(aJ ns A c pv rv).set (A*3+1) pv'=aJ ns A c pv' rv:=by
 unfold aJ;rw[SK _ _ U,R9]
def pN (c pv rv rv':Ty):(aJ ns A c pv rv).set (A*3+2) rv'=aJ ns A c pv rv':=by
 unfold aJ;rw[R9]
def wu (h:A<ns.length)(c pv rv:Ty):¬aJ ns A c pv rv=[]:=fun e=>by
 have:=lM h c pv rv;rw[e]at this;simp at this
def KU (h:ns[A]?=some x)(pv rv:Ty):((aH ns).set (A*3+1) pv).set (A*3+2) rv=aJ ns A (aa x.J) pv rv:=by
 unfold aJ;rw[gU (gR h)]
def pO {x':TA}(hA:A<ns.length)(hr:rv=av x'.O\/rv=aS x')(he:e A->rv=aS x'):TH e (ns.set A x') (aJ ns A (aa x'.J) (ag x'.F) rv):=by
 refine⟨by rw[de,P2],fun v x hx=>?_⟩;by_cases h:v=A
 ·subst h;rw[Qa hA]at hx;cases hx;exact⟨rv,lM hA _ _ _,nE hA _ _ _,jO hA _ _ _,hr,he⟩
 ·rw[Qh U]at hx;refine⟨aS x,?_,?_,?_,.inr rfl,fun _=>rfl⟩
  ·rw[ji U U U];exact gR hx
  ·rw[ji U U U];exact ie hx
  ·rw[ji U U U];exact iO hx
def sP {z n:Nat}{e:TypeId}{cs':List Ty}(h:bE lo H e z v n cs)(hS:∀i,lo<=i->S i)(hl:cs'.length=cs.length)
  (hc:∀i (h:i<cs.length) (h':i<cs'.length),Fz S H nx cs[i] cs'[i]):Fz S H nx v (.M n cs'):=by
 rcases h with ⟨rfl,rfl,rfl⟩|⟨id,g,h1,_,rfl,h3,h4⟩
 ·obtain rfl:=P1 hl;exact .nil
 ·refine .np (hS id h1) h4 U fun j hj h2 h'=>?_;simp only[Nat.zero_add]at h2 ⊢;exact hc j h2 h'
def lO {pv pv' rv':Ty}(hp:Fz S H nx pv pv')(hr:Fz S H nx rv rv'):∀i (h:i<(aJ ns A (aa c) pv rv).length) (h':i<(aJ ns A (aa c) pv' rv').length),Fz S H nx (aJ ns A (aa c) pv rv)[i] (aJ ns A (aa c) pv' rv')[i]:=by
 unfold aJ;intro i h h';simp only[Rk];by_cases h2:A*3+2=i
 ·rw[PZ h2,PZ h2];exact hr
 ·rw[PX h2,PX h2];by_cases h1:A*3+1=i
  ·rw[PZ h1,PZ h1];exact hp
  ·rw[PX h1,PX h1];by_cases h0:A*3=i
   ·rw[PZ h0];exact .lit _
   ·rw[PX h0];exact ti ns _ (Qn _)
def KV {R:Nat}{r':List Int}{cells:List Ty}(h:TN lo H 59 3 v ids (O.map ints))(hS:∀i,lo<=i->S i)(hR:R<O.length)(ht:lo<=idt)
  (hcell:cells.length=O.length) (hsame:∀(j id:Nat) (r:List Int),j≠R->ids[j]?=some id->O[j]?=some r->cells[j]?=some (.V id 0 0 r.length 1)/\H'.get id=H.get id) (hw:cells[R]?=some w) (hg:H'.get idt=some (.L gt 59 cells)) (hfw:Fz S H' nx w (ag r')):
  Fz S H' nx (.V idt gt 0 O.length 1) (av (O.set R r')):=by
 have hl:=h.len;rw[P8]at hl;have:Fz S H' nx (.V idt gt 0 O.length 1) (.M O.length ((O.set R r').map ag)):=by
  refine .np (hS idt ht) hg Tu fun j hj h2 h'=>?_;simp only[Nat.zero_add]at h2 ⊢;have hjr:j<O.length:=U
  have e1:=PV h2;generalize cells[j]=u at e1 ⊢;rw[P4,Rk];split
  ·rename_i e;subst e;rw[hw]at e1;cases e1;exact hfw
  ·rename_i e;have hij:j<ids.length:=U;obtain⟨c1,c2⟩:=hsame j _ _ (fun h=>e h.symm) (PV hij) (PV hjr);rw[c1]at e1;cases e1;have hid:=h.no _ (Qn hij);have hrow:=h.row j _ _ (PV hij) (show (O.map ints)[j]?=some (ints O[j]) by rw[List.getElem?_map,PV hjr];rfl);rw[<- c2]at hrow;refine .np (hS _ hid.1) hrow (by simp[aR]) fun i hi h3 h4=>?_;have e0:0+i=i:=Nat.zero_add i;simp only[e0,ints,P4];exact .lit _
 have e:av (O.set R r')=.M O.length ((O.set R r').map ag):=by unfold av;rw[P2]
 rw[e];exact this
structure TU (lo:Nat)(H:Tz)(rv:Ty)(ids:List Nat)(O:List (List Int))(R:Nat)(q:List Int)(idt gt:Nat)(cells:List Ty)(idr:Nat):Prop where
 rv:rv=.V idt gt 0 O.length 1
 top:H.get idt=some (.L gt 59 cells)
 tlo:lo<=idt/\idt<H.C
 len:cells.length=O.length
 at':cells[R]?=some (.V idr 0 0 q.length 1)
 row:H.get idr=some (.L 0 3 (ints q))
 rlo:lo<=idr/\idr<H.C
 ne:idt≠idr
 id:ids[R]?=some idr
 q:O[R]?=some q
 cell:∀(j i:Nat) (r:List Int),ids[j]?=some i->O[j]?=some r->cells[j]?=some (.V i 0 0 r.length 1)
 nm:idt ∉ ids
def TN.rowAt (h:TN lo H 59 3 rv ids (O.map ints)){R:Nat}(hq:O[R]?=some q):∃idt gt cells idr,TU lo H rv ids O R q idt gt cells idr:=by
 have hR:=aG hq;have hl:=h.len;rw[P8]at hl;have h0:O.map ints≠[]:=by intro e;have:=congrArg List.length e;simp at this;rw[this]at hR;simp at hR
 obtain⟨idt,gt,a,b,c,d,f⟩:=h.xA h0;obtain⟨idr,hidr⟩:=az (show R<ids.length by omega);have hrow:=h.row R idr (ints q) hidr (by rw[List.getElem?_map,hq];rfl);have hcell:∀(j i:Nat) (r:List Int),ids[j]?=some i->O[j]?=some r->(List.zipWith (fun i n=>Ty.V i 0 0 n 1) ids ((O.map ints).map List.length))[j]?=some (.V i 0 0 r.length 1):=fun j i r h1 h2=>by
  rw[Ti,h1,List.getElem?_map,List.getElem?_map,h2];simp[aR]
 refine⟨idt,gt,_,idr,by rw[c,P8],d,⟨a,b⟩,by simp[hl],hcell R idr q hidr hq,hrow,h.no _ (an hidr),?_,hidr,hq,hcell,f Tv⟩;rintro rfl;exact f Tv (an hidr)
def TU.KW {R:Nat}{cells:List Ty}(h:TU lo H rv ids O R q idt gt cells idr)(hM:TN lo H' 59 3 rv ids (O.map ints))(hS:∀i,lo<=i->S i)(ht:H'.get idt=some (.L gt 59 cells)):
  Fz S H' nx (.V idt gt 0 R 1) (av (O.take R)):=by
 have hR:=aG h.q;have hl:=hM.len;rw[P8]at hl;have:Fz S H' nx (.V idt gt 0 R 1) (.M R ((O.take R).map ag)):=by
  refine .np (hS idt h.tlo.1) ht (by simp;omega) fun j hj h2 h'=>?_;simp only[Nat.zero_add]at h2 ⊢;have hjr:j<O.length:=U
  have hij:j<ids.length:=U
  have e1:=PV h2;generalize cells[j]=u at e1 ⊢;rw[h.cell j _ _ (PV hij) (PV hjr)]at e1;cases e1;rw[P4,RE];have hid:=hM.no _ (Qn hij);have hrow:=hM.row j _ _ (PV hij) (show (O.map ints)[j]?=some (ints O[j]) by rw[List.getElem?_map,PV hjr];rfl);refine .np (hS _ hid.1) hrow (by simp[aR]) fun i hi h3 h4=>?_;have e0:0+i=i:=Nat.zero_add i;simp only[e0,ints,P4];exact .lit _
 have e:av (O.take R)=.M R ((O.take R).map ag):=by unfold av;rw[P9,Sd U]
 rw[e];exact this
def TU.KX {R:Nat}{cells:List Ty}(h:TU lo H rv ids O R q idt gt cells idr)(hM:TN lo H 59 3 rv ids (O.map ints))(hS:∀i,lo<=i->S i){q':List Int}
  (ht:H'.get idt=some (.L gt 59 (cells.set R w))) (hk:∀i∈ids,i≠idr->H'.get i=H.get i) (hw:Fz S H' nx w (ag q')):Fz S H' nx rv (av (O.set R q')):=by
 have hR:=aG h.q;rw[h.rv];refine KV (gt:=gt) hM hS hR h.tlo.1 (by rw[P2];exact h.len) (fun j i r hj h1 h2=>⟨by rw[Qh (fun e=>hj e.symm)];exact h.cell j i r h1 h2,hk i (an h1) ?_⟩) (by rw[Qa (by rw[h.len];exact hR)]) ht hw;rintro rfl;exact hj ((Re (aG h1) hM.nd).1 (by rw[h1,h.id]))
theorem TH.take (h:TH e ns cs)(k:Nat):TH e (ns.take k) (cs.take (k*3)):=by
 refine⟨by rw[P9,P9,h.len];omega,fun v x hx=>?_⟩;have hv:=aG hx;rw[P9]at hv;rw[Qz U]at hx;obtain⟨rv,a,b,c,d⟩:=h.node v x hx;exact⟨rv,by rw[Qz U];exact a,by rw[Qz U];exact b,by rw[Qz U];exact c,d⟩
theorem TM.take (h:TM m ns)(k:Nat):TM m (ns.take k):=⟨by rw[P9];have:=h.len;omega,fun x hx=>h.node x (Qk hx)⟩
def hZ:Nat->Int->Int->List Int->List Int
 |0,_,_,l=>l
 |f+1,i,k,l=>if i<k then hZ f (i+1) (k-1) ((l.set i.toNat (l.getD k.toNat 0)).set k.toNat (l.getD i.toNat 0)) else l
def gL (c n g:Int)(q:List Int):List Int:=if c=6 then q.set 0 n else if c=7 then q++[0] else if c=8 then g :: List.replicate (q.length-1) 0 else hZ (q.length+1) 0 ((q.length:Int)-1) q
def cR (c r n g:Int)(x:TA):TA × Ty :=
 if c=1 then ({ x with J:=n },aS x) else if c=2 then ({ x with F:=x.F++[n] },aS x) else if c=3 then ({ x with F:=[] },aS x)
 else if c=4 then ({ x with O:=x.O++[[n]] },aS { x with O:=x.O++[[n]] })
 else match x.O[(r % (x.O.length:Int)).toNat]? with
  |none=>(x,aS x)
  |some q=>if c=5 then ({ x with O:=x.O.take (r % (x.O.length:Int)).toNat },av (x.O.take (r % (x.O.length:Int)).toNat))
   else ({ x with O:=x.O.set (r % (x.O.length:Int)).toNat (gL c n g q) },av (x.O.set (r % (x.O.length:Int)).toNat (gL c n g q)))
def df (c:Int)(A:Nat)(r n g:Int)(ns:List TA):Int × List TA × List Ty:=match ns[A]? with
 |none=>(g,[],[])
 |some x=>if c=0 then (n,ns,aJ ns A (aa x.J) (ag x.F) (aS x))
  else if c=10 then (g,ns++[⟨1,[],[[g]]⟩],aJ ns A (aa x.J) (ag x.F) (aS x)++[aa 1,ag [],aS ⟨1,[],[[g]]⟩])
  else if c=11 then (g,ns.take (ns.length-1),(aJ ns A (aa x.J) (ag x.F) (aS x)).take ((ns.length-1)*3))
  else (g,ns.set A (cR c r n g x).1,aJ ns A (aa (cR c r n g x).1.J) (ag (cR c r n g x).1.F) (cR c r n g x).2)
def pP (hc:4<c)(hx:x.O=[]):cR c r n g x=(x,aS x):=by
 unfold cR;rw[PX U,PX U,PX U,PX U,hx];rfl
def KY {R:Nat}(hq:x.O[R]?=some q)(hR:R=(r % (x.O.length:Int)).toNat):cR 5 r n g x=({ x with O:=x.O.take R },av (x.O.take R)):=by
 subst hR;unfold cR;rw[PX U,PX U,PX U,PX U,hq];rfl
def KZ {R:Nat}(hc:5<c)(hq:x.O[R]?=some q)(hR:R=(r % (x.O.length:Int)).toNat):cR c r n g x=({ x with O:=x.O.set R (gL c n g q) },av (x.O.set R (gL c n g q))):=by
 subst hR;unfold cR;rw[PX U,PX U,PX U,PX U,hq];simp only;rw[PX U]
def K0:∀(f:Nat) (i k:Int) (l:List Int),(hZ f i k l).length=l.length:=by
 intro f
 induction f with
 |zero=>intro i k l;rfl
 |succ f ih=>intro i k l;unfold hZ;split<;>simp[ih]
def K2 {i k:Int}(h:¬i<k):hZ f i k l=l:=by
 cases f with
 |zero=>rfl
 |succ f=>unfold hZ;rw[PX h]
def K3 {iN kN:Nat}{qa qb:Int}(h:(iN:Int)<kN)(ha:l[iN]?=some qa)(hb:l[kN]?=some qb):hZ f ((iN:Int)+1) ((kN:Int)-1) ((l.set iN qb).set kN qa)=hZ (f+1) iN kN l:=by
 conv=>rhs;unfold hZ
 rw[PZ h];simp[List.getD,ha,hb]
end Go.Proofs
