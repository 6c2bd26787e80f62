/- Own work: contracts. -/
import Derived.Test.YtebhdkihcdmmjaaGreatConC
import Derived.Test.YtebhdkihcdmmjaaGreatRows
import Derived.Test.YtebhdkihcdmmjaaGreatLibC
import Derived.ProofKit
import Derived.Test.YtebhdkihcdmmjaaGreatConB
set_option linter.all false
set_option maxHeartbeats 8000000
set_option maxRecDepth 100000
namespace Go.Proofs
open Go.Hx
variable {l:List UtD}{i:Nat}{x:UtD}
structure D20 where
 g:Int
 ps:List DrP
 ord:List Int
 nl:Int
 rem:Bool
 us:List UtD
structure D20.Ok (d:D20):Prop where
 g:U8 d.g
 ps:∀x∈d.ps,x.Ok
 pl:(d.ps.length:Int)<2 ^ 63
 ol:(d.ord.length:Int)<2 ^ 63
 o8:∀x∈d.ord,U8 x
 nl:U8 d.nl
 us:∀u∈d.us,u.Ok
 ul:(d.us.length:Int)<2 ^ 63
def me (us:List UtD):List nnn:=(us.map UtD.cells).flatten
def D20.cells (d:D20):List nnn:=[.lit (.int .u8 d.g),.L d.ps.length (fb d.ps),.L d.ord.length (bQ d.ord),.lit (.int .u8 d.nl),.lit (.bool d.rem),.L d.us.length (me d.us)]
def Tz (h:l[i]?=some x):((me l).drop (i*2)).take 2=[.lit (.int .u8 x.vars),.L x.w.length (oV x.w)]:=nf (f:=UtD.cells) (z:=2) (fun _=>rfl) l i x h
def TA (h:l[i]?=some x):(me l)[i*2]?=some (.lit (.int .u8 x.vars)):=iO (f:=UtD.cells) (z:=2) (fun _=>rfl) l i 0 x h (U)
def TB (h:l[i]?=some x):¬me l=[]:=fun e=>by
 have:=TA h;rw[e]at this;simp at this
def TC {l:List nna}{x:nna}(p:List Int)(h:l[i]?=some x):((aP l).set (i*3+1) (ah p)).set (i*3+2) (.lit (.slice none 0 0))=aP (l.set i ⟨x.Q,p,[]⟩):=by
 have hl:=get_lt h;have h1:=wo (f:=nna.fo) (z:=3) (fun _=>rfl) l i ⟨x.Q,p,[]⟩ hl;have h2:=nf (f:=nna.fo) (z:=3) (fun _=>rfl) l i x h;unfold aP;rw[h1];have h3:(l.map nna.fo).flatten=((l.map nna.fo).flatten).take (i*3)++(x.fo++((l.map nna.fo).flatten).drop (i*3+3)):=by
  rw[<- h2,<- Y3,XO,XO]
 have hlen:(((l.map nna.fo).flatten).take (i*3)).length=i*3:=by
  rw[Xm,kU (f:=nna.fo) (z:=3) (fun _=>rfl)];omega
 conv=>lhs;rw[h3]
 rw[Yi _ _ U,Yi _ _ U,hlen,show i*3+1-i*3=1 by omega,show i*3+2-i*3=2 by omega];simp[nna.fo,aR]
def TD {l:List nna}(h:∀x∈l,x.X≠[]):aP l=aG l:=by
 unfold aP aG;congr 1;exact Yk fun x hx=>by unfold nna.fo nna.cells;rw[qV (h x hx)]
def AF {H:nnl}{nx N:Nat}{e:TypeId}{g:Int}{ms:List nna}(h:H.get N=some (.O 0 e (aP ms))):Fz (fun _=>True) H nx (.agg [aa g,.Z N 0 0 ms.length 3]) (bS g ms):=by
 refine .agg rfl fun i hi _=>?_
 match i,hi with
 |0,_=>exact .lit _
 |1,_ =>
  refine .nq trivial h (fJ ms) fun j hj h2 h'=>?_;have e0:(0:Nat)+j=j:=Nat.zero_add j;have h3:j<(aP ms).length:=U
  have:=EW (S:=fun _=>True) (H:=H) (nx:=nx) ms j h3 h';simpa only[e0] using this
def nk {S:Nat->Prop}{H:nnl}{nx:Nat}(l:List nni):∀c∈aH l,Fz S H nx c c:=by
 intro c hc;unfold aH at hc;obtain⟨r,hr,hc⟩:=Y2.1 hc;obtain⟨x,_,rfl⟩:=Xx.1 hr;unfold nni.cells at hc;simp only[List.mem_cons,List.not_mem_nil,or_false]at hc;rcases hc with rfl|rfl<;>exact .df _
def TE (d:D20)(hd:d.Ok)(H:nnl)(K:nnf->nnl->Prop)(hK:∀x,DrI d.rem x->x.V=(d.us.map fun u=>eo u x.F).take 4->K (.ret (wD x)) H):af Tryz.prog G0 10 [.agg d.cells] H K:=by
 refine af.nb ⟨_,Tryz.func10,rfl,rfl⟩ fun hcl=>?_;refine af.st (n:=128) (rs:=[.cell 2 38]) Tryz.func10 ?_;simp only[go_sem,D20.cells];obtain⟨H0,hH0⟩:∃H0,H0=ext H [.O 0 28 [.lit (.int .u8 d.g),.L d.ps.length (fb d.ps),.L d.ord.length (bQ d.ord),.lit (.int .u8 d.nl),.lit (.bool d.rem),.L d.us.length (me d.us)],.O 0 38 [.lit (.int .i64 0),.lit (.slice none 0 0),.lit (.int .u64 0),.lit (.slice none 0 0)]]:=⟨_,rfl⟩
 have g00:=de hH0
 have g01:=gE hH0 1 rfl
 have n0:H0.C=H.C+2:=hH0▸rfl
 have o0:nnd H H0:=hH0▸.ext _ _
 rw[<- hH0];clear hH0;refine aC.nb (TZ d.g d.ps d.ord hd.g hd.ps hd.pl hd.ol hd.o8 _ _ fun g ns N H' ov hN1 hN2 hget hnet h5 hp3=>⟨trivial,?_⟩);simp only[go_sem];obtain⟨B,hB⟩:∃B,B=H'.C:=⟨_,rfl⟩
 rw[<- hB];obtain⟨H1,hH1⟩:∃H1,H1=ext H' [.O 0 90 [.lit (.int .i64 g),.Z N 0 0 ns.length 3],.O 0 38 [.lit (.int .i64 g),.Z N 0 0 ns.length 3,.lit (.int .u64 0),.lit (.slice none 0 0)]]:=⟨_,rfl⟩
 have n1:H1.C=B+2:=by rw[hH1,hB];rfl
 have ovn:=ov.C;have g10:H1.get H.C=some (.O 0 28 [.lit (.int .u8 d.g),.L d.ps.length (fb d.ps),.L d.ord.length (bQ d.ord),.lit (.int .u8 d.nl),.lit (.bool d.rem),.L d.us.length (me d.us)]):=by rw[hH1,cV _ _ _ U,ov.ng _ U];exact g00
 have g11:H1.get (H.C+1)=some (.O 0 38 [.lit (.int .i64 0),.lit (.slice none 0 0),.lit (.int .u64 0),.lit (.slice none 0 0)]):=by rw[hH1,cV _ _ _ U,ov.ng _ U];exact g01
 have gN:H1.get N=some (.O 0 76 (aP ns)):=by rw[hH1,cV _ _ _ U,TD (Fq hnet)];exact hget
 have gB:H1.get B=some (.O 0 90 [.lit (.int .i64 g),.Z N 0 0 ns.length 3]):=by rw[hH1,hB];exact bY ..
 have gB1:H1.get (B+1)=some (.O 0 38 [.lit (.int .i64 g),.Z N 0 0 ns.length 3,.lit (.int .u64 ((0:Nat):Int)),.lit (.slice none 0 0)]):=by rw[hH1,hB];exact cO H' _ 1 (aaw)
 have o1:nnd H H1:=by rw[hH1];exact(o0.trans ov).trans (.ext _ _)
 rw[<- hH1];clear hH1 hget;have hsl:(aq ns).length=ns.length:=by simp[aq]
 have hpr:∀x∈ns,(x.J.length:Int)<2 ^ 39/\∀q∈x.J,0<=q/\q<(ns.length:Int):=fun x hx=>⟨by have:=hp3 x hx;omega,(hnet.node x hx).2.2⟩
 have hs8:∀p∈aq ns,p<2 ^ (aq ns).length:=by rw[hsl];exact wT fun x hx=>(hpr x hx).2
 obtain⟨r,hr⟩:=XP.1 ((ER hs8 U).2 hnet.acyc);have hTR:=Tx (fun p h=>Xd (hs8 p h) (Xq aax U)) hr;have hrl:=hTR.len;rw[hsl]at hrl;refine aC.nb ((af.frame (H:=H1) (args:=[.agg [aa g,.Z N 0 0 ns.length 3]]) (args':=[bS g ns]) (v':=ah (av r)) aO rfl (fun i hi _=>?_) (T5 g ns U hpr r hr cw _ fun v H' _ ho=>⟨_,rfl,ho.pg⟩)).mono fun rr H2 hrr=>?_)
 ·match i,hi with
  |0,_=>exact AF gN
 obtain⟨rfl,rfl⟩:=hrr;refine⟨trivial,?_⟩;simp only[go_sem];refine W.mi (Q':=fun e s2=>e=.exit 0/\∃(i known nl:Nat) (os:List Nat) (ms:List nna),s2.ρ 1=.Y H.C 0 0/\s2.ρ 2=.Y (H.C+1) 0 0/\s2.ρ 3=.Y B 0 0/\s2.ρ 4=.Y (B+1) 0 0/\DrD ns r d.rem i known nl os ms/\H2.C<=s2.H.C/\(∀id,id<H2.C->id≠N->id≠B+1->s2.H.get id=H2.get id)/\s2.H.get N=some (.O 0 76 (aP ms)) /\
  s2.H.get (B+1)=some (.O 0 38 [.lit (.int .i64 g),.Z N 0 0 ns.length 3,.lit (.int .u64 (nl:Int)),.lit (.slice none 0 0)])) ?_ ?_
 rotate_left
 ·rintro e s2 ⟨rfl,i,known,nl,os,ms,e1,e2,e3,e4,L,hnx,hold,hN,hB1⟩;refine⟨s2,.refl _,aaz,trivial,?_⟩;obtain⟨ρ2,Hy⟩:=s2;dsimp only at e1 e2 e3 e4 hnx hold hN hB1;simp only[go_sem];have hml:=L.len;have hcd:∀x∈ms,1<=x.Q/\x.Q<=4:=fun x hx=>by
   obtain⟨v,hv⟩:=Xg.1 hx;obtain⟨y,hy⟩:=get_of_lt (l:=ns) (i:=v) (by have:=get_lt hv;omega);have h1:(aE ms)[v]?=(aE ns)[v]?:=(by rw[L.Q]);rw[dK hv,dK hy]at h1;rw[Option.some.inj h1];exact(hnet.node y (an hy)).1
  have hn1:=hnet.n1;obtain⟨ut,hut⟩:∃ut:List nni,ut=d.us.map fun u=>eo u ms:=⟨_,rfl⟩
  refine W.aM 170141163178059628080016879768632823808 (by rfl) (fun ρ Hu=>∃(i:Nat) (uv:nnn),ρ 12=aa i/\i<=d.us.length/\i<=4/\Hy.C<=Hu.C/\(∀id,id<Hy.C->id≠B+1->Hu.get id=Hy.get id)/\Hu.get (B+1)=some (.O 0 38 [.lit (.int .i64 g),.Z N 0 0 ns.length 3,.lit (.int .u64 (nl:Int)),uv])/\bI Hy.C Hu 87 2 uv i (aH (ut.take i))) (fun ρ H=>d.us.length-(iv (ρ 12)).toNat) ?_ ?_
  ·simp only[go_sem];exact⟨0,_,rfl,U,U,hB1,.nil⟩
  rintro ρ Hu ⟨i,uv,h12,hi,hi4,hnu,holdu,hBu,hO⟩;refine W.en (fun E=>E 1=.Y H.C 0 0 /\ E 2=.Y (H.C+1) 0 0 /\ E 3=.Y B 0 0 /\ E 4=.Y (B+1) 0 0 /\ E 12=aa i) (by simp only[go_sem,e1,e2,e3,e4,h12]) fun E ⟨f1,f2,f3,f4,f12⟩=>?_
  refine W.vs ?_;have uh:Hu.get H.C=_:=((holdu H.C U U).trans (hold H.C U U U)).trans g10;have l0:=ag uh;have lB:=ag (((holdu B U U).trans (hold B U U U)).trans gB);have lB1:=ag hBu;have hNu:Hu.get N=some (.O 0 76 (aP ms)):=(holdu N U U).trans hN;by_cases hb:(i:Int)<d.us.length/\(i:Int)<4
  ·obtain⟨u,hu⟩:=get_of_lt (l:=d.us) (i:=i) U;have huo:=hd.us u (an hu);have cne:=TB hu;have c0:=Tz hu;have cl:i*2+2<=(me d.us).length:=(by rw[show (me d.us).length=d.us.length*2 from kU (f:=UtD.cells) (fun _=>rfl) _];omega);have w1:=W6 ((i:Int)+1) U;have hpc:∀Hq,Hq.get N=some (.O 0 76 (aP ms))->N<Hq.C->cz Tryz.prog G0 (.nb 38 [] []) [.agg [.lit (.int .u8 u.vars),.L u.w.length (oV u.w)],.agg [.lit (.int .i64 g),.Z N 0 0 ns.length 3]] Hq (.agg [ah (eo u ms).vars,ah (eo u ms).w]) [N]:=fun Hq hq hqn=>by
    refine cz.mk (fun i hi=>by obtain rfl:=List.mem_singleton.1 hi;exact hqn) fun H2 h1 h2=>?_;refine af.frame (H:=H2) (args:=[.agg u.cells,.agg [aa g,.Z N 0 0 ns.length 3]]) (args':=[.agg u.cells,bS g ms]) (v':=.agg [ah (eo u ms).vars,ah (eo u ms).w]) aO rfl (fun i hi _=>?_) (T6 u huo g ms U hcd cw _ fun v1 v2 H' _ o1 o2=>⟨_,rfl,.agg rfl fun i hi _=>?_⟩)
    ·match i,hi with
     |0,_ =>
      refine .agg rfl fun i hi _=>?_
      match i,hi with
      |0,_=>exact .lit _
      |1,_ =>
       refine .L rfl fun j hj _=>?_;simp only[oV,Xi];exact .lit _
     |1,_=>rw[<- hml];exact AF ((h1 N aaw).trans hq)
    ·match i,hi with
     |0,_=>exact o1.pg
     |1,_=>exact o2.pg
   obtain⟨uv',Hj,hA,hO',hnj,hpj⟩:=mj (P:=Tryz.prog) (xs:=[ah (eo u ms).vars,ah (eo u ms).w]) Tryz.underlying36 Tryz.vJ Tryz.vL rfl rfl (by rw[Tryz.vK];omega) hO hnu rfl;simp only[ah]at hA;have nf:∀id,id<Hy.C->Hj.get id=Hu.get id:=fun id h=>hpj id U (hO.ne h);have lB1j:=ag ((nf _ U).trans hBu);have hvc:=hO'.cells;have hvo:=hO'.one;simp only[go_sem,f1,f12,l0,hb.1,hb.2];refine W.dr 10 [0,1,0,4,0,28,60,0,252,508] Tryz.mixed ?_;simp only[go_sem,f1,f3,f4,f12,l0,lB,lB1,cne,c0,cl,hb.1];refine⟨_,[N],hpc _ hNu U,?_⟩;simp only[go_sem,f4,f12,hA,lB1j,hvc,hvo,w1];have hug:ut[i]?=some (eo u ms):=(by rw[hut,List.getElem?_map,hu];rfl);have e2':aH (ut.take (i+1))=aH (ut.take i)++[ah (eo u ms).vars,ah (eo u ms).w]:=by
    rw[aQ hug];unfold aH;rw[X2,Zx];simp[nni.cells]
   refine⟨⟨fun _ h=>U,fun _ h=>U⟩,by rw[aw];omega,⟨i+1,uv',rfl,U,U,by rw[aw];omega,fun id h1 h2=>by rw[ae,W7 h2,nf _ h1];exact holdu id h1 h2,by rw[ae,W8 rfl],?_⟩,by rw[h12];simp only[aa,aI];omega⟩;rw[e2'];exact hO'.nf (by rw[aw];omega) fun id gg h1 _ _=>by rw[ae,W7 U]
  ·have fin:∀b,ar Tryz.prog G0 H K (.agg [.lit (.int .i64 g),.Z N 0 0 ns.length 3,.lit (.int .u64 (nl:Int)),uv]) (Hu.upd (H.C+1) b):=fun b=>by
    have o1n:=o1.C;have ov2:nnd H (Hu.upd (H.C+1) b):=⟨by rw[aw];omega,fun id h=>by
     rw[ae,W7 U,holdu id U U,hold id U U U];exact o1.ng id h⟩
    have htl:(ut.take i).length=i:=(by rw[Xm,hut,Xl];omega);refine ar.bw (v':=wD ⟨g,ms,nl,ut.take i⟩) aO hcl ov2 (.agg rfl fun j hj _=>?_) (hK _ (L.fin hnet hTR h5 U fun u hu=>?_) (by
     show ut.take i=_;rw[<- hut];rcases Xu i 4 with h4|h4
     ·have hul:ut.length=d.us.length:=(by rw[hut,Xl]);have hid:d.us.length<=i:=U;rw[W9 U,W9 U]
     ·rw[show i=4 by omega]))
    ·match j,hj with
     |0,_=>exact .lit _
     |1,_ =>
      show Fz _ _ _ (.Z N 0 0 ns.length 3) (.L ms.length (aP ms));rw[<- hml];refine .nq U (show (Hu.upd (H.C+1) b).get N=some (.O 0 76 (aP ms)) by rw[ae,W7 U];exact hNu) (fa ms) fun j hj h2 h'=>?_;have e0:(0:Nat)+j=j:=Nat.zero_add j;have h3:j<(aP ms).length:=U;have:=v9 (S:=fun id=>H.C<=id) (H:=Hu.upd (H.C+1) b) (nx:=H.C) ms _ (XA h3);simpa only[e0] using this
     |2,_=>exact .lit _
     |3,_ =>
      show Fz _ _ _ uv (.L (ut.take i).length (aH (ut.take i)));rcases hO with ⟨h,hz,hc⟩|⟨id,gg,k1,k2,h,k4,k5⟩
      ·rw[h,hc,htl,hz];exact .nil
      ·rw[h,htl];refine .nq U (show (Hu.upd (H.C+1) b).get id=some (.O gg 87 (aH (ut.take i))) by rw[ae,W7 U];exact k5) k4 fun j hj h2 h'=>?_;have e0:(0:Nat)+j=j:=Nat.zero_add j;have h3:j<(aH (ut.take i)).length:=U;have:=nk (S:=fun id=>H.C<=id) (H:=Hu.upd (H.C+1) b) (nx:=H.C) (ut.take i) _ (XA h3);simpa only[e0] using this
    ·have hu2:=Xz hu;rw[hut]at hu2;obtain⟨p,hp,rfl⟩:=Xx.1 hu2;have:=T2 p ms fun x hx=>(hcd x hx).1;exact⟨by have:=this.vars;rw[hml]at this;exact this,by have:=this.size;rw[L.Q]at this;exact this,this.w⟩
   have lR:Hu.na (H.C+1) 0=_:=ag (((holdu (H.C+1) U U).trans (hold (H.C+1) U U U)).trans g11);have uvc:=hO.cells;have uvo:=hO.one;by_cases hb1:(i:Int)<d.us.length
   ·have hb4:¬(i:Int)<4:=fun h=>hb ⟨hb1,h⟩;simp only[go_sem,f1,f2,f4,f12,l0,lB1,lR,hb1,hb4,uvo];exact fin _
   ·simp only[go_sem,f1,f2,f4,f12,l0,lB1,lR,hb1,uvo];exact fin _
 refine W.aM 20282409603651670423947242901440 (by rfl) (fun ρ Hx=>∃(i known nl:Nat) (os:List Nat) (ms:List nna),ρ 8=aa i/\i<=r.length/\ρ 6=az known/\ρ 7=aa os.length/\DrD ns r d.rem i known nl os ms/\H2.C<=Hx.C/\(∀id,id<H2.C->id≠N->id≠B+1->Hx.get id=H2.get id)/\Hx.get N=some (.O 0 76 (aP ms)) /\
  Hx.get (B+1)=some (.O 0 38 [.lit (.int .i64 g),.Z N 0 0 ns.length 3,.lit (.int .u64 (nl:Int)),.lit (.slice none 0 0)])) (fun ρ H=>r.length-(iv (ρ 8)).toNat) ?_ ?_
 ·simp only[go_sem];exact⟨0,0,0,[],ns,rfl,U,rfl,rfl,.start ns r d.rem,gN,gB1⟩
 rintro ρ Hx ⟨i,known,nl,os,ms,h8,hi,h6,h7,L,hnx,hold,hN,hB1⟩;refine W.en (fun E=>E 1=.Y H.C 0 0 /\ E 2=.Y (H.C+1) 0 0 /\ E 3=.Y B 0 0 /\ E 4=.Y (B+1) 0 0 /\ E 5=ah (av r) /\ E 6=az known /\ E 7=aa os.length /\ E 8=aa i) (by simp only[go_sem,h6,h7,h8]) fun E ⟨e1,e2,e3,e4,e5,e6,e7,e8⟩=>?_
 refine W.vs ?_;have l0:=ag ((hold H.C U U U).trans g10);have lB:=ag ((hold B U U U).trans gB);have lB1:=ag hB1;have lN:=ag hN;have hrng:=hTR.np;rw[hsl]at hrng;have hml:=L.len;have natl:(av r).length=r.length:=by simp[av]
 have nat5:∀ {s:Nat},s<2 ^ ns.length->s<2 ^ 64:=fun h=>Xd h (Xq aax U);have hk64:known<2 ^ 64:=nat5 (we hrng L.knownb);have hd64:nl<2 ^ 64:=nat5 (we hrng L.decsb);by_cases hb:(i:Int)<r.length;rotate_left
 ·simp only[go_sem,e1,e2,e3,e4,e5,e8,natl,hb];exact⟨i,known,nl,os,ms,L,hnx,hold,hN,hB1⟩
 by_cases h3:os.length<3;rotate_left
 ·have h3':¬(os.length:Int)<3:=U
  simp only[go_sem,e1,e2,e3,e4,e5,e7,e8,natl,hb,h3'];exact⟨i,known,nl,os,ms,L,hnx,hold,hN,hB1⟩
 have h3':(os.length:Int)<3:=U
 obtain⟨v,hv⟩:=get_of_lt (l:=r) (i:=i) U;have hvi:(av r)[i]?=some (v:Int):=by unfold av;rw[List.getElem?_map,hv];rfl
 have hvne:=aS hvi;have hvn:=hrng v (an hv);have w1:=W6 ((i:Int)+1) U;obtain⟨r1,hr1⟩:∃r1,d.nl.fdiv (2 ^ (min ((i:Int)).toNat IntKind.u8.bits))=r1:=⟨_,rfl⟩
 obtain⟨r2,hr2⟩:∃r2,IntKind.u8.wrap (((BitVec.ofInt IntKind.u8.bits r1 &&& BitVec.ofInt IntKind.u8.bits 1).toNat:Nat):Int)=r2:=⟨_,rfl⟩
 have s1:∀t o1 o2,bq Tryz.prog .shr t o1 o2 (.lit (.int .u8 d.nl)) (.lit (.int .i64 (i:Int)))=some (.lit (.int .u8 r1)):=fun t o1 o2=>by rw[wZ U,hr1]
 have s2:∀t o1 o2,bq Tryz.prog .and t o1 o2 (.lit (.int .u8 r1)) (.lit (.int .u8 1))=some (.lit (.int .u8 r2)):=fun t o1 o2=>by rw[w7,hr2]
 by_cases hrz:r2=0
 ·simp only[go_sem,e1,e2,e3,e4,e5,e6,e7,e8,natl,hb,h3',l0,hvi,hvne,s1,s2,hrz,w1];exact⟨hnx,⟨i+1,known,nl,os,ms,rfl,U,rfl,rfl,L.skip,hnx,hold,hN,hB1⟩,by rw[h8];simp only[aa,aI];omega⟩
 obtain⟨x,hx⟩:=get_of_lt (l:=ns) (i:=v) hvn;have hdv:=(L.step hTR U h3 hv hx (s:=0) (fun i hi=>by simp at hi)).1;have hmx:ms[v]?=some x:=by rw[L.ng v hdv];exact hx
 have hxp:=hpr x (an hx);have hmp:∀y∈ms,(y.J.length:Int)<2 ^ 39/\∀q∈y.J,0<=q/\q<64:=fun y hy=>by
  obtain⟨u,hu⟩:=Xg.1 hy;cases hbu:nl.testBit u with
  |false =>
   rw[L.ng u hbu]at hu;obtain⟨q1,q2⟩:=hpr y (an hu);exact⟨q1,fun q hq=>by have:=q2 q hq;omega⟩
  |true =>
   obtain⟨_,s,j,e,_⟩:=L.dec u y hu hbu;rw[e];refine⟨by have:=FG s 8;omega,fun q hq=>?_⟩;obtain⟨z,rfl,hz,_⟩:=kZ.1 hq;omega
 have hset:((aq ms).map az)[v]?=some (az (bc x.J)):=by rw[List.getElem?_map,lf hmx];rfl
 have hsne:=aS hset;have hmn:(aq ms).length=ns.length:=by rw[<- hml];simp[aq]
 simp only[go_sem,e1,e3,e5,e7,e8,natl,hb,h3',l0,lB,hvi,hvne,s1,s2,hrz];refine aC.nb ((af.frame (H:=Hx) (args:=[.agg [aa g,.Z N 0 0 ns.length 3]]) (args':=[bS g ms]) (v':=fY (aq ms)) aO rfl (fun i hi _=>?_) (FI g ms U hmp cw _ fun v H' _ ho=>⟨_,rfl,T4 ho⟩)).mono fun rr Hz hrr=>?_)
 ·match i,hi with
  |0,_=>rw[<- hml];exact AF hN
 obtain⟨rfl,rfl⟩:=hrr;refine⟨trivial,?_⟩;have hvI:(v:Int)<ns.length:=U
 simp only[go_sem,hset,hsne,hmn,hvI];have xs64:bc x.J<2 ^ 64:=nat5 (kW hxp.2);refine W.aM 9444732684264313719808 (by rfl) (fun ρ2 Hq=>Hq=Hz/\∃k s:Nat,ρ2 11=aa k/\k<=x.J.length/\ρ2 10=az s/\Sub s (bc x.J)/\s<2 ^ 64) (fun ρ2 H=>x.J.length-(iv (ρ2 11)).toNat) ?_ ?_
 ·simp only[go_sem];exact⟨0,_,rfl,U,rfl,.refl _,xs64⟩
 rintro ρ2 Hq ⟨rfl,k,s,h11,hk,h10,hs,hs64⟩;refine W.en (fun E2=>E2 1=.Y H.C 0 0 /\ E2 2=.Y (H.C+1) 0 0 /\ E2 3=.Y B 0 0 /\ E2 4=.Y (B+1) 0 0 /\ E2 5=ah (av r) /\ E2 6=az known /\ E2 7=aa os.length /\ E2 8=aa i /\ E2 9=aa v /\ E2 10=az s /\ E2 11=aa k) (by simp only[go_sem,e1,e2,e3,e4,e5,e6,e7,e8,h10,h11]) fun E2 ⟨f1,f2,f3,f4,f5,f6,f7,f8,f9,f10,f11⟩=>?_
 refine W.vs ?_;have nne:=Tg hmx;have nlen:=fa ms;have n1v:=jn hmx;by_cases hb2:(k:Int)<x.J.length
 ·obtain⟨q,hq⟩:=get_of_lt (l:=x.J) (i:=k) U;have hqr:=hxp.2 q (an hq);obtain⟨u,rfl⟩:=Xn hqr.1;have hqne:=aS hq;have w2:=W6 ((k:Int)+1) U;by_cases hk2:(k:Int) >= 2
  ·have s3:=fun t x y=>fZ (P:=Tryz.prog) (t:=t) (x:=x) (y:=y) (k':=.i64) (s:=u) U;have s4:=fun t x y=>jz (P:=Tryz.prog) (t:=t) (x:=x) (y:=y) (a:=s) (b:=2 ^ u);simp only[go_sem,f4,f9,f10,f11,lB1,lN,n1v,hvI,hb2,hk2,hq,hqne,w2,s3,s4];exact⟨⟨k+1,cN s (2 ^ u),rfl,U,rfl,fun i hi=>by rw[pj hs64,Xv]at hi;exact hs i hi.1,xa _ _⟩,by rw[h11];simp only[aa,aI];omega⟩
  ·simp only[go_sem,f4,f9,f10,f11,lB1,lN,n1v,hvI,hb2,hk2,w2];exact⟨⟨k+1,s,rfl,U,rfl,hs,hs64⟩,by rw[h11];simp only[aa,aI];omega⟩
 ·obtain⟨s',hs'⟩:∃s',s'=(if d.rem then s |||known else s):=⟨_,rfl⟩
  have hsv:=L.step hTR U h3 hv hx hs;rw[<- hs']at hsv;obtain⟨_,_,hslt,L2⟩:=hsv;have s64:=nat5 hslt;have b2v:(2:Nat) ^ v<2 ^ 64:=XG aax U;have o1':=fun t x y=>fj (P:=Tryz.prog) (t:=t) (x:=x) (y:=y) hd64 b2v;have o2':=fun t x y=>fj (P:=Tryz.prog) (t:=t) (x:=x) (y:=y) hk64 s64;have o3':=fun t x y=>fj (P:=Tryz.prog) (t:=t) (x:=x) (y:=y) (XV hk64 s64) b2v;have o4':=fun t x y=>fj (P:=Tryz.prog) (t:=t) (x:=x) (y:=y) hs64 hk64;have s6:=fun t x y=>fZ (P:=Tryz.prog) (t:=t) (x:=x) (y:=y) (k':=.i64) (s:=v) U;have w3:=W6 ((os.length:Int)+1) U;have nse:=TC (ct s' 8) hmx;have gone:∀b,(Hq.upd N b).na (B+1) 0=some (38,[.lit (.int .i64 g),.Z N 0 0 ns.length 3,.lit (.int .u64 (nl:Int)),.lit (.slice none 0 0)]):=fun b=>(jA U).trans lB1;have st1:∀a,setAt (aP ms) (v*3+1) [a]=(aP ms).set (v*3+1) a:=fun a=>dQ U;have st2:∀a b,setAt ((aP ms).set (v*3+1) a) (v*3+2) [b]=((aP ms).set (v*3+1) a).set (v*3+2) b:=fun a b=>dQ (by rw[Xb];omega);have gone2:∀b b',((Hq.upd N b).upd N b').na (B+1) 0=some (38,[.lit (.int .i64 g),.Z N 0 0 ns.length 3,.lit (.int .u64 (nl:Int)),.lit (.slice none 0 0)]):=fun b b'=>(jA U).trans (gone b);simp only[ah]at nse;cases hrem:d.rem
  ·have es:s'=s:=(by rw[hs',hrem];rfl);subst es;simp only[go_sem,f1,f3,f4,f6,f7,f8,f9,f11,lB1,lN,n1v,hvI,hb2,l0,hrem];refine W.dr 5 [0,1,0,0,8] Tryz.mixed ?_;simp only[go_sem,f4,f9,f10,lB1,lN,hvI,hml,nlen,gone];refine⟨ah (ct s' 8),[],cz.pure fun H2=>FH s' s64 H2 _ ⟨rfl,rfl⟩,?_⟩;simp only[go_sem,hml,nlen,st1,st2,nse,Xb];refine⟨U,U,?_⟩;refine W.dr 4 [0,1,0,4] Tryz.mixed ?_;simp only[go_sem,f4,f6,f7,f8,f9,f10,gone2,s6,o1',o2',o3',w1,w3];refine⟨by simp only[aw];omega,⟨i+1,known |||s' |||2 ^ v,nl |||2 ^ v,os++[v],_,rfl,U,rfl,aaw,hrem ▸ L2,by simp only[aw];omega,fun id h1 h2 h3=>by simp only[ae];rw[W7 h3,W7 h2,W7 h2];exact hold id h1 h2 h3,by rw[ae,W7 U,ae,W8 rfl],by rw[ae,W8 rfl]⟩,by rw[h8];simp only[aa,aI];omega⟩
  ·have es:s |||known=s':=by rw[hs',hrem];rfl
   rw[es]at o4';simp only[go_sem,f1,f3,f4,f6,f7,f8,f9,f10,f11,lB1,lN,n1v,hvI,hb2,l0,hrem,o4'];refine W.dr 5 [0,1,0,0,8] Tryz.mixed ?_;simp only[go_sem,f4,f9,f10,lB1,lN,hvI,hml,nlen,gone];refine⟨ah (ct s' 8),[],cz.pure fun H2=>FH s' s64 H2 _ ⟨rfl,rfl⟩,?_⟩;simp only[go_sem,hml,nlen,st1,st2,nse,Xb];refine⟨U,U,?_⟩;refine W.dr 4 [0,1,0,4] Tryz.mixed ?_;simp only[go_sem,f4,f6,f7,f8,f9,f10,gone2,s6,o1',o2',o3',w1,w3];refine⟨by simp only[aw];omega,⟨i+1,known |||s' |||2 ^ v,nl |||2 ^ v,os++[v],_,rfl,U,rfl,aaw,hrem ▸ L2,by simp only[aw];omega,fun id h1 h2 h3=>by simp only[ae];rw[W7 h3,W7 h2,W7 h2];exact hold id h1 h2 h3,by rw[ae,W7 U,ae,W8 rfl],by rw[ae,W8 rfl]⟩,by rw[h8];simp only[aa,aI];omega⟩
def TF (d:D20)(hd:d.Ok)(H:nnl)(K:nnf->nnl->Prop)(hK:∀x,DrI d.rem x->K (.ret (wD x)) H):af Tryz.prog G0 10 [.agg d.cells] H K :=
 TE d hd H K fun x hx _=>hK x hx
end Go.Proofs
namespace Go.Proofs.YtebhdkihcdmmjaaGreat
open Go.ChangeShapes Go.WideShapes Go.ChangeAt Go.RowKit Go.Hx
def Tryz.Z:ownKnob Tryz.prog.godebug=none:=aay
def Tryz.laidOut:laidOutB Tryz.prog=true:=aay
def Tryz.Qm:Tryz.prog.underlying 4=some .bool:=aay
section
variable {W:World} {H:Type} {enc:TypeId × Value->H} {spare:Nat->Bool} {held:Bool}
def sT {n:Nat}(h:n<=maxLen):(n:Int)<2 ^ 63:=by
 have:maxLen=9223372036854775807:=aax
 omega
def mT {n:Int}(h:(Lit.int .u8 n).wf=true):U8 n:=by
 have:=wf_u8 h;unfold U8;omega
def Qn:ee enc Tryz.prog W spare held 148 fun _ zs=>∃x:DrP,zs=x.cells/\x.Ok:=by
 have hu:=Tryz.underlying148;have c1:=Tryz.oC;have c2:=Tryz.Ae;refine(pW (φ:=fun i _ xs=>if i=2 then ∃l:List Int,xs=[.L l.length (tY .u8 l)]/\l.length<=maxLen/\∀c,c∈l->(Lit.int .u8 c).wf=true else ∃n,xs=[.lit (.int .u8 n)]/\(Lit.int .u8 n).wf=true) hu
  (fun cs hcs=>by
   have hc:Tryz.prog.cellsOf 148=3:=aay;rw[hc]at hcs
   match cs,hcs with
   | [a,b,c],_=>simp[c1,c2])
  (fun i hi=>match i,hi with
   |0,_=>(iG Tryz.underlying5).mono fun _ _ ⟨n,_,h,w⟩=>⟨n,h,w⟩
   |1,_=>(iG Tryz.underlying5).mono fun _ _ ⟨n,_,h,w⟩=>⟨n,h,w⟩
   |2,_=>(yu Tryz.underlying23 Tryz.underlying5 c1).mono fun _ _ h=>h)).mono fun d zs ⟨ds,X,_,e,hl1,hl2,hall⟩=>?_
 match X,ds,hl2,hl1,hall with
 | [x,y,z],[d0,d1,d2],_,_,hall =>
  obtain⟨n0,e0,w0⟩:=hall 0 aaw aaw;obtain⟨n1,e1,w1⟩:=hall 1 aaw aaw;obtain⟨l,e2,w2,w3⟩:=hall 2 aaw aaw;simp only[XD,X8]at e0 e1 e2;subst e0;subst e1;subst e2;refine⟨⟨n0,n1,l⟩,by rw[e];rfl,?_⟩;exact⟨mT w0,mT w1,sT w2,fun c hc=>mT (w3 c hc)⟩
def wf_i8 {n:Int}(h:(Lit.int .i8 n).wf=true):I8 n:=by
 have:-128<=n/\n<=127:=by simpa[Lit.wf,IntKind.min,IntKind.max,IntKind.signed,IntKind.bits] using h
 unfold I8;omega
def Qo:ee enc Tryz.prog W spare held 98 fun _ zs=>∃x:UtD,zs=x.cells/\x.Ok:=by
 have hu:=Tryz.underlying98;have c1:=Tryz.oC;have c2:=Tryz.D2;have c3:=Tryz.D5;refine(pW (φ:=fun i _ xs=>if i=1 then ∃l:List Int,xs=[.L l.length (tY .i8 l)]/\l.length<=maxLen/\∀c,c∈l->(Lit.int .i8 c).wf=true else ∃n,xs=[.lit (.int .u8 n)]/\(Lit.int .u8 n).wf=true) hu
  (fun cs hcs=>by
   have hc:Tryz.prog.cellsOf 98=2:=aay;rw[hc]at hcs
   match cs,hcs with
   | [a,b],_=>simp[c1,c2])
  (fun i hi=>match i,hi with
   |0,_=>(iG Tryz.underlying5).mono fun _ _ ⟨n,_,h,w⟩=>⟨n,h,w⟩
   |1,_=>(yu Tryz.underlying96 Tryz.underlying153 c3).mono fun _ _ h=>h)).mono fun d zs ⟨ds,X,_,e,hl1,hl2,hall⟩=>?_
 match X,ds,hl2,hl1,hall with
 | [x,y],[d0,d1],_,_,hall =>
  obtain⟨n0,e0,w0⟩:=hall 0 aaw aaw;obtain⟨l,e2,w2,w3⟩:=hall 1 aaw aaw;simp only[XD,X8]at e0 e2;subst e0;subst e2;refine⟨⟨n0,l⟩,by rw[e];rfl,?_⟩;exact⟨mT w0,sT w2,fun c hc=>wf_i8 (w3 c hc)⟩
def DI {α:Type}{t e:TypeId}{f:α->List nnn}{q:α->Prop}(ht:Tryz.prog.underlying t=some (.slice e))(hz:0<Tryz.prog.cellsOf e)(he:ee enc Tryz.prog W spare held e fun _ zs=>∃x:α,zs=f x/\q x):
  ee enc Tryz.prog W spare held t fun _ zs=>∃l:List α,zs=[.L l.length (l.map f).flatten]/\l.length<=maxLen/\∀x∈l,q x :=
 (B2 ht hz he).mono fun d zs h=>by
  rcases h with ⟨_,rfl⟩|⟨ds,rest,X,_,rfl,hr,_,hl⟩
  ·exact⟨[],rfl,Zu _,fun c h=>by cases h⟩
  ·obtain⟨l,rfl,hq⟩:=B3 (f:=f) (q:=q) (fun d zs h=>h) hr;exact⟨l,by rw[Xl],by simpa using hl,hq⟩
def Qp:ee enc Tryz.prog W spare held 25 fun _ zs=>∃(g:Int) (ps:List DrP) (ord:List Int),zs=[.lit (.int .u8 g),.L ps.length (fb ps),.L ord.length (bQ ord)]/\U8 g/\(∀x∈ps,x.Ok)/\(ps.length:Int)<2 ^ 63/\(ord.length:Int)<2 ^ 63/\∀x∈ord,U8 x:=by
 have hu:=Tryz.underlying25;have c1:=Tryz.oC;have c2:=Tryz.Ae;have c3:=Tryz.DV;have c4:=Tryz.D4;refine(pW (φ:=fun i _ xs=>if i=2 then ∃l:List Int,xs=[.L l.length (tY .u8 l)]/\l.length<=maxLen/\∀c,c∈l->(Lit.int .u8 c).wf=true else if i=1 then ∃l:List DrP,xs=[.L l.length (l.map DrP.cells).flatten]/\l.length<=maxLen/\∀x∈l,x.Ok else ∃n,xs=[.lit (.int .u8 n)]/\(Lit.int .u8 n).wf=true) hu
  (fun cs hcs=>by
   have hc:Tryz.prog.cellsOf 25=3:=aay;rw[hc]at hcs
   match cs,hcs with
   | [a,b,c],_=>simp[c1,c2,c3])
  (fun i hi=>match i,hi with
   |0,_=>(iG Tryz.underlying5).mono fun _ _ ⟨n,_,h,w⟩=>⟨n,h,w⟩
   |1,_=>(DI Tryz.underlying22 (by rw[c4];decide) Qn).mono fun _ _ h=>h
   |2,_=>(yu Tryz.underlying23 Tryz.underlying5 c1).mono fun _ _ h=>h)).mono fun d zs ⟨ds,X,_,e,hl1,hl2,hall⟩=>?_
 match X,ds,hl2,hl1,hall with
 | [x,y,z],[d0,d1,d2],_,_,hall =>
  obtain⟨n0,e0,w0⟩:=hall 0 aaw aaw;obtain⟨ps,e1,w1,w1'⟩:=hall 1 aaw aaw;obtain⟨l,e2,w2,w3⟩:=hall 2 aaw aaw;simp only[XD,X8]at e0 e1 e2;subst e0;subst e1;subst e2;exact⟨n0,ps,l,by rw[e];rfl,mT w0,w1',sT w1,sT w2,fun c hc=>mT (w3 c hc)⟩
def Qq:ee enc Tryz.prog W spare held 28 fun _ zs=>∃d:D20,zs=d.cells/\d.Ok:=by
 have hu:=Tryz.underlying28;have c1:=Tryz.oC;have c2:=Tryz.DU;have c3:=Tryz.DW;have c4:=Tryz.DX;have c5:=Tryz.D3;refine(pW (φ:=fun i _ xs=>if i=0 then ∃(g:Int) (ps:List DrP) (ord:List Int),xs=[.lit (.int .u8 g),.L ps.length (fb ps),.L ord.length (bQ ord)]/\U8 g/\(∀x∈ps,x.Ok)/\(ps.length:Int)<2 ^ 63/\(ord.length:Int)<2 ^ 63/\∀x∈ord,U8 x
   else if i=1 then ∃n,xs=[.lit (.int .u8 n)]/\(Lit.int .u8 n).wf=true else if i=2 then ∃b,xs=[.lit (.bool b)] else ∃l:List UtD,xs=[.L l.length (l.map UtD.cells).flatten]/\l.length<=maxLen/\∀x∈l,x.Ok) hu
  (fun cs hcs=>by
   have hc:Tryz.prog.cellsOf 28=6:=aay;rw[hc]at hcs
   match cs,hcs with
   | [a,b,c,d,e,f],_=>simp[c1,c2,c3,c4])
  (fun i hi=>match i,hi with
   |0,_=>Qp.mono fun _ _ h=>h
   |1,_=>(iG Tryz.underlying5).mono fun _ _ ⟨n,_,h,w⟩=>⟨n,h,w⟩
   |2,_=>(JX Tryz.underlying4).mono fun _ _ ⟨n,_,h⟩=>⟨n,h⟩
   |3,_=>(DI Tryz.underlying26 (by rw[c5];decide) Qo).mono fun _ _ h=>h)).mono fun d zs ⟨ds,X,_,e,hl1,hl2,hall⟩=>?_
 match X,ds,hl2,hl1,hall with
 | [x,y,z,u],[d0,d1,d2,d3],_,_,hall =>
  obtain⟨g,ps,ord,e0,w0,w0',w0'',w0''',w04⟩:=hall 0 aaw aaw;obtain⟨n1,e1,w1⟩:=hall 1 aaw aaw;obtain⟨b,e2⟩:=hall 2 aaw aaw;obtain⟨us,e3,w3,w3'⟩:=hall 3 aaw aaw;simp only[XD,X8]at e0 e1 e2 e3;subst e0;subst e1;subst e2;subst e3;exact⟨⟨g,ps,ord,n1,b,us⟩,by rw[e];rfl,⟨w0,w0',w0'',w0''',w04,mT w1,w3',sT w3⟩⟩
def Qr {r:Reach}{b:Nat}{v:Value}{d:DataW H}{ps:List MemPlace}(hval:Value.okWide Tryz.prog W r b 28 v)(hd:DataW.Trod enc Tryz.prog W 0 spare held 28 v d ps):
  ∃x:D20,nnc Tryz.prog iB cw W (.agg x.cells) v/\x.Ok:=by
 obtain⟨xs,h1,x,rfl,h2⟩:=B4 Qq (.inl ⟨_,Tryz.underlying28⟩) hval hd;exact⟨x,h1,h2⟩
end
end Go.Proofs.YtebhdkihcdmmjaaGreat
namespace Go.Hx
variable {P:Program}
variable {X:List (List nnn)}{ids:List Nat}{r:List nnn}{e0 e1:TypeId}{H:nnl}{v:nnn}
structure nnt (lo:Nat)(H:nnl)(e1 e0:TypeId)(v:nnn)(ids:List Nat)(X:List (List nnn)):Prop where
 len:ids.length=X.length
 nd:ids.Nodup
 np:∀i∈ids,lo<=i/\i<H.C
 top:aB lo H e1 v (List.zipWith (fun i n=>nnn.Z i 0 0 n 1) ids (X.map List.length))
 row:∀(k id:Nat) (r:List nnn),ids[k]?=some id->X[k]?=some r->H.get id=some (.O 0 e0 r)
theorem nnt.nil {lo:Nat}:nnt lo H e1 e0 (.lit (.slice none 0 0)) [] [] :=
 ⟨rfl,.nil,fun i h=>(by cases h),.nil,fun k id r h=>(by simp at h)⟩
theorem nnt.nf {lo:Nat}{H':nnl}(h:nnt lo H e1 e0 v ids X)(hn:H.C<=H'.C)(hk:∀id,lo<=id->id<H.C->H'.get id=H.get id):nnt lo H' e1 e0 v ids X :=
 ⟨h.len,h.nd,fun i hi=>⟨(h.np i hi).1,by have:=(h.np i hi).2;omega⟩,h.top.nf aaz hn fun id _ h1 h2 _ _=>hk id h1 h2,fun k id r h1 h2=>by
  have:=h.np id (an h1);rw[hk id this.1 this.2];exact h.row k id r h1 h2⟩
def nnt.app {lo n:Nat}{t:TypeId}{z:List nnn}(ht:P.underlying t=some (.slice e1))(hz:P.cellsOf e1=1)(hzero:bC P e1=some z)(hby:P.bytesOf e1=24)(hne:e1≠e0)
  (hb:X.length<2 ^ 40) (h:nnt lo H e1 e0 v ids X) (hlo:lo<=H.C) (hn:n=H.C+2):
  ∃v' H',bh P (ext (ext H [.O 0 e0 r]) [.O 0 e1 [.Z H.C 0 0 r.length 1]]) n t t v (.Z (H.C+1) 0 0 1 1)=some (v',H')/\nnt lo H' e1 e0 v' (ids++[H.C]) (X++[r])/\H.C<=H'.C/\(∀k,k<H.C->k<lo->H'.get k=H.get k):=by
 obtain⟨Hb,hHb⟩:∃Hb,Hb=ext H [.O 0 e0 r]:=⟨_,rfl⟩
 have nb:Hb.C=H.C+1:=hHb▸rfl
 have ob:nnd H Hb:=hHb▸.ext _ _
 have gb:=de hHb
 have htop:=h.top.over ob;obtain⟨v',H',hA,hO,hL,hp⟩:=gf (P:=P) (H:=Hb) (t:=t) (x:=.Z H.C 0 0 r.length 1) (n:=n) ht hz hzero rfl (by rw[hby];simp[h.len];omega) htop U U;rw[nb,hHb]at hA;have ng:∀id g,lo<=id->id<Hb.C->Hb.get id=some (.O g e0 r)->H'.get id=Hb.get id:=fun id g h1 h2 h3=>hp id h2 fun g' m he=>by
  rcases htop with ⟨hv,_⟩|⟨i,g2,_,_,hv,h4⟩
  ·rw[hv]at he;cases he
  ·rw[hv]at he;obtain rfl:i=id:=(nnn.Z.inj he).1;rw[h4]at h3;cases h3;exact hne rfl
 have oldr:∀id g q,lo<=id->id<Hb.C->Hb.get id=some (.O g e0 q)->H'.get id=Hb.get id:=fun id g q h1 h2 h3=>hp id h2 fun g' m he=>by
  rcases htop with ⟨hv,_⟩|⟨i,g2,_,_,hv,h4⟩
  ·rw[hv]at he;cases he
  ·rw[hv]at he;obtain rfl:i=id:=(nnn.Z.inj he).1;rw[h4]at h3;cases h3;exact hne rfl
 refine⟨v',H',hA,⟨by simp[h.len],ZZ.2 ⟨h.nd,aaw,fun a ha b hb=>by
  obtain rfl:=List.mem_singleton.1 hb;have:=(h.np a ha).2;omega⟩,fun i hi=>?_,?_,fun k id q h1 h2=>?_⟩,U,fun k hk hkl=>?_⟩
 ·rcases Xt.1 hi with h1|h1
  ·have:=h.np i h1;omega
  ·obtain rfl:=List.mem_singleton.1 h1;omega
 ·rw[X2,List.zipWith_append (by rw[Xl];exact h.len)];exact hO
 ·have hk:=XR.1 h1;obtain⟨hk,_⟩:=hk;rw[List.length_append,X7]at hk;rcases Xu k ids.length with hlt|hge
  ·rw[Xe hlt]at h1;rw[Xe (by rw[<- h.len];exact hlt)]at h2;have hr:=h.np id (an h1);have hg:=h.row k id q h1 h2;rw[oldr id 0 q hr.1 U ((ob.ng id hr.2).trans hg),ob.ng id hr.2];exact hg
  ·obtain rfl:k=ids.length:=U;rw[Xp aaz,Y7]at h1;rw[h.len,Xp aaz,Y7]at h2;cases h1;cases h2;rw[oldr H.C 0 r hlo U gb];exact gb
 ·rw[hp k U fun g m he=>?_,ob.ng k hk];rcases htop with ⟨hv,_⟩|⟨i,g2,a1,_,hv,h4⟩
  ·rw[hv]at he;cases he
  ·rw[hv]at he;have:=(nnn.Z.inj he).1;omega
def nnt.Gc {lo:Nat}(h:nnt lo H e1 e0 v ids X)(h0:X≠[]):∃id g,lo<=id/\id<H.C/\v=.Z id g 0 X.length 1/\H.get id=some (.O g e1 (List.zipWith (fun i n=>nnn.Z i 0 0 n 1) ids (X.map List.length)))/\(e1≠e0->id ∉ ids):=by
 have hzl:(List.zipWith (fun i n=>nnn.Z i 0 0 n 1) ids (X.map List.length)).length=X.length:=by simp[h.len]
 rcases h.top with ⟨hv,h4⟩|⟨i,g,a,b,hv,h4⟩
 ·rw[h4]at hzl;exact absurd (Xc hzl.symm) h0
 ·refine⟨i,g,a,b,by rw[hv,hzl],h4,fun hne hm=>?_⟩;obtain⟨k,hk⟩:=Xg.1 hm;have hkl:k<X.length:=by rw[<- h.len];exact(XR.1 hk).1
  have:=h.row k i _ hk (W5 hkl);rw[h4]at this;exact hne (Blk.O.inj (Option.some.inj this)).2.1
def nnt.store {lo:Nat}(h:nnt lo H e1 e0 v ids X)(hne:e1≠e0){k id:Nat}{r':List nnn}(hk:ids[k]?=some id)(hr:X[k]?=some r)(hl:r'.length=r.length):nnt lo (H.upd id (.O 0 e0 r')) e1 e0 v ids (X.set k r'):=by
 have hid:=h.np id (an hk);have h0:X≠[]:=fun e=>by rw[e]at hr;simp at hr
 refine⟨by rw[Xb];exact h.len,h.nd,fun i hi=>by rw[aw];exact h.np i hi,?_,fun j id' q h1 h2=>?_⟩
 ·have e:(X.set k r').map List.length=X.map List.length:=by
   rw[Zo,hl];apply XQ;intro i;rw[YZ];split
   ·rename_i hi;subst hi;have hkl:=(XR.1 hr).1;rw[W8 (by rw[Xl];exact hkl),List.getElem?_map,hr];rfl
   ·rfl
  rw[e];obtain⟨i,g,a,b,_,h4,h5⟩:=h.Gc h0;refine h.top.nf aaz (by rw[aw];exact Nat.le_refl _) fun i2 g2 _ _ h3 _=>?_;rw[ae,W7];rintro rfl;rw[h.row k i2 r hk hr]at h3;cases h3;exact hne rfl
 ·rw[ae];by_cases hj:j=k
  ·subst hj;rw[hk]at h1;cases h1;rw[Xj (XR.1 hr).1]at h2;cases h2;rw[W8 rfl]
  ·rw[Xs (fun e=>hj e.symm)]at h2;rw[W7,h.row j id' q h1 h2];rintro rfl;exact hj ((YM (XR.1 h1).1 h.nd).1 (by rw[h1,hk]))
theorem nnt.fz {S:Nat->Prop}{lo nx:Nat}(h:nnt lo H e1 e0 v ids X)(hS:∀i,lo<=i->S i)(hr:∀r∈X,∀c∈r,Fz S H nx c c):
  Fz S H nx v (.L X.length (X.map fun r=>.L r.length r)):=by
 have hz:(List.zipWith (fun i n=>nnn.Z i 0 0 n 1) ids (X.map List.length)).length=X.length:=by simp[h.len]
 have:=h.top.fz (S:=S) (nx:=nx) (cs':=X.map fun r=>.L r.length r) hS (by simp[h.len]) fun i hi hi'=>by
  simp only[Xi,aas];have hil:i<X.length:=U
  have hii:i<ids.length:=by rw[h.len];exact hil
  refine .nq (hS _ (h.np _ (XA hii)).1) (h.row i _ _ (W5 hii) (W5 hil)) aaw fun j hj h2 h'=>?_;have e0:(0:Nat)+j=j:=Nat.zero_add j;have h3:=hr X[i] (XA hil) _ (XA h');simpa only[e0] using h3
 rw[Xl]at this;exact this
end Go.Hx
namespace Go.Hx
variable {P:Program} {G:Nat->Option (List nnn)}
variable {b:Blk}{X:List (List nnn)}{ids:List Nat}{z:List nnn}{n ob:Nat}{e e0 e1 t:TypeId}{v:nnn}
def nnl.eL (H:nnl)(n ob:Nat)(b:Blk):nnl:=⟨fun id=>if id=ob then some b else if n<=id then none else H.get id,H.C⟩
variable {H:nnl}
def PR :(H.eL n ob b).C=H.C:=rfl
def sK :(H.eL n ob b).get ob=some b:=by simp[nnl.eL]
def qI {id:Nat}(h:id<n)(h2:id≠ob):(H.eL n ob b).get id=H.get id:=by simp[nnl.eL,ZX.2 h,h2]
def PS (hc:Clo H){g:Nat}{cells cells':List nnn}(hob:H.get ob=some (.O g e cells))(hl:cells'.length=cells.length)
  (hcell:∀i (h:i<cells.length) (h':i<cells'.length),Fz (fun id=>n<=id/\id≠ob) H H.C cells[i] cells'[i]):FzH (fun id=>n<=id/\id≠ob) H (H.eL n ob (.O g e cells')) where
 gone id hs:=by simp[nnl.eL,hs.1,hs.2]
 kept id b hs hb:=by
  have hbb:=hc.below id b hb;refine⟨hc.lt id b hb,?_⟩;by_cases h:id=ob
  ·subst h;rw[hob]at hb;cases hb;exact⟨.O g e cells',sK,rfl,rfl,hl,hcell⟩
  ·have hn:¬n<=id:=fun hn=>hs ⟨hn,h⟩;refine⟨b,by simp[nnl.eL,h,hn,hb],?_⟩;cases b with
   |nj=>trivial
   |mp=>rfl
   |O g e cells=>exact⟨rfl,rfl,rfl,fun i h _=>.dead (hbb i h)⟩
   |loop st pend n env ps asg body=>exact⟨rfl,rfl,rfl,rfl,rfl,rfl,rfl,fun t ht=>.dead (hbb t ht)⟩
 none id hs hb:=by
  by_cases h:id=ob
  ·subst h;rw[hob]at hb;cases hb
  ·have hn:¬n<=id:=fun hn=>hs ⟨hn,h⟩;simp[nnl.eL,h,hn,hb]
theorem cF.eL (hG:dS G){s:St}{g:Nat}{cells cells':List nnn}(hob:s.H.get ob=some (.O g e cells))(hl:cells'.length=cells.length)
  (hcell:(∀c∈cells,Below s.H.C c)->∀i (h:i<cells.length) (h':i<cells'.length),Fz (fun id=>n<=id/\id≠ob) s.H s.H.C cells[i] cells'[i]):cF P G s ⟨s.ρ,s.H.eL n ob (.O g e cells')⟩:=by
 intro n' wb Γ a w hs;exact cF.freeze (s:=s) (s':=⟨s.ρ,s.H.eL n ob (.O g e cells')⟩) hG (PS hs.heap.nb hob hl (hcell fun c hc=>by
  obtain⟨i,hi,rfl⟩:=List.mem_iff_getElem.1 hc;exact hs.heap.nb.below ob _ hob i hi)) (fun t=>.dead (hs.env t).qj) n' wb Γ a w hs
def PT {src:List nnn}(ht:P.underlying t=some (.slice e))(hz:P.cellsOf e=1)(hzero:bC P e=some z)(h0:0<src.length)
  (hb:src.length*P.bytesOf e<=2 ^ 47/\src.length<=2 ^ 47) (hn:n=H.C):bh P H n t t (.lit (.slice none 0 0)) (.L src.length src)=some (.Z n 0 0 src.length 1,ext H [.O 0 e src]):=by
 have hsrc:bU H 1 (.L src.length src)=some (src.length,src):=by
  unfold bU;simp
 unfold bh;rw[ht];simp only[hzero,hz,Option.bind_some];rw[hsrc];simp only[Option.bind_some];rw[W7 U,W8 hb,sh hn];rfl
def nnt.DB {lo:Nat}{r:List nnn}(h:nnt lo H e1 e0 v ids X)(ht:P.underlying t=some (.slice e1))(hz:P.cellsOf e1=1)(hzero:bC P e1=some z)(hby:P.bytesOf e1=24)(hne:e1≠e0)
  (hb:X.length<2 ^ 40) (hlo:lo<=H.C) (hn:n=H.C+2):
  ∃v' H',bh P (ext (ext H [.O 0 e0 r]) [.O 0 e1 [.Z H.C 0 0 r.length 1]]) n t t v (.Z (H.C+1) 0 0 1 1)=some (v',H')/\nnt lo H' e1 e0 v' (ids++[H.C]) (X++[r])/\H.C<=H'.C/\(∀k,k<H.C->(∀g n,v≠.Z k g 0 n 1)->H'.get k=H.get k):=by
 obtain⟨v',H',hA,hO,hn',_⟩:=h.app (P:=P) (r:=r) ht hz hzero hby hne hb hlo hn;have nb:(ext H [.O 0 e0 r]).C=H.C+1:=rfl;obtain⟨v2,H2,hA2,_,_,hp⟩:=gf (P:=P) (H:=ext H [.O 0 e0 r]) (t:=t) (x:=.Z H.C 0 0 r.length 1) (n:=n) ht hz hzero rfl (by rw[hby];simp[h.len];omega) (h.top.over (.ext _ _)) (by rw[nb];omega) (by rw[nb];omega);rw[nb]at hA2;have e:(v2,H2)=(v',H'):=Option.some.inj (hA2.symm.trans hA);cases e;exact⟨_,_,hA,hO,hn',fun k hk hne=>(hp k (by rw[nb];omega) hne).trans (cV _ _ _ hk)⟩
def nnt.ne {lo:Nat}(h:nnt lo H e1 e0 v ids X){k g':Nat}{c:List nnn}(hk:H.get k=some (.O g' e c))(he:e≠e1):∀g n,v≠.Z k g 0 n 1:=fun g n hv=>by
 rcases h.top with ⟨h1,_⟩|⟨i,g2,_,_,h1,h2⟩
 ·rw[h1]at hv;cases hv
 ·rw[h1]at hv;obtain rfl:=(nnn.Z.inj hv).1;rw[hk]at h2;cases h2;exact he rfl
def W.dI {rd:Option Nat}{Q:AX->St->Prop}{s:St}{x y:Code}(Φ:St->Prop)(h:W P G n rd x (fun ax s'=>ax=.normal/\Φ s') s)(h2:∀s',Φ s'->W P G n rd y Q s'):W P G n rd (.seq x y) Q s :=
 W.seq (h.mono fun ax s' ⟨e,hp⟩=>by subst e;exact h2 s' hp)
def cF.same {s:St}:cF P G s s:=by
 intro n wb Γ a w hs;exact⟨Γ,hs,.refl _ _ _,fun _ _ h _=>h⟩
end Go.Hx
namespace Go.Proofs
open Go.Hx
variable {ids:List Nat}{nx:Nat}{S:Nat->Prop}{x:nna}{H H':nnl}{pv rv v:nnn}
structure nnv (lo:Nat)(H:nnl)(pv rv:nnn)(ids:List Nat)(x:nna):Prop where
 par:aB lo H 3 pv (ints x.J)
 X:nnt lo H 72 3 rv ids (x.X.map ints)
 dj:∀id g n,pv=.Z id g 0 n 1->id ∉ ids
 nil:x.X=[]->rv=.lit (.slice none 0 0)
theorem nnv.nf {lo:Nat}(h:nnv lo H pv rv ids x)(hn:H.C<=H'.C)(hk:∀id,lo<=id->id<H.C->H'.get id=H.get id):nnv lo H' pv rv ids x :=
 ⟨h.par.nf aaz hn fun id _ h1 h2 _ _=>hk id h1 h2,h.X.nf hn hk,h.dj,h.nil⟩
def nnv.over {lo:Nat}(h:nnv lo H pv rv ids x)(o:nnd H H'):nnv lo H' pv rv ids x:=h.nf o.C fun id _ h2=>o.ng id h2
def nnv.keepE {lo:Nat}(h:nnv lo H pv rv ids x)(hn:H.C<=H'.C)(hk:∀id g e c,lo<=id->id<H.C->H.get id=some (.O g e c)->e≠76->H'.get id=H.get id):nnv lo H' pv rv ids x :=
 ⟨h.par.nf aaz hn fun id g h1 h2 h3 _=>hk id g _ _ h1 h2 h3 aax,⟨h.X.len,h.X.nd,fun i hi=>⟨(h.X.np i hi).1,by have:=(h.X.np i hi).2;omega⟩,h.X.top.nf aaz hn fun id g h1 h2 h3 _=>hk id g _ _ h1 h2 h3 aax,fun k id r h1 h2=>by
  have h3:=h.X.np id (an h1);have h4:=h.X.row k id r h1 h2;rw[hk id _ _ _ h3.1 h3.2 h4 aax];exact h4⟩,h.dj,h.nil⟩
def vB {lo:Nat}{e1 e0:TypeId}{X:List (List nnn)}(h:nnt lo H e1 e0 v ids X):v.one=true/\v.cells=[v]:=⟨h.top.one,h.top.cells⟩
def z7 {lo:Nat}{e:TypeId}{cs cs':List nnn}(h:aB lo H e v cs)(hS:∀i g,lo<=i->i<H.C->H.get i=some (.O g e cs)->S i)(hl:cs'.length=cs.length)
  (hc:∀i (h:i<cs.length) (h':i<cs'.length),Fz S H nx cs[i] cs'[i]):Fz S H nx v (.L cs'.length cs'):=by
 rcases h with ⟨rfl,rfl⟩|⟨id,g,h1,h2,rfl,h4⟩
 ·obtain rfl:=Xc hl;exact .nil
 ·rw[hl];refine .nq (hS id g h1 h2 h4) h4 U fun j hj h2 h'=>?_;simp only[Nat.zero_add]at h2 ⊢;exact hc j h2 h'
def sL (S:Nat->Prop)(lo:Nat)(H:nnl):Prop:=∀i g e c,lo<=i->i<H.C->H.get i=some (.O g e c)->e≠76->S i
def nnv.sM {lo:Nat}(h:nnv lo H pv rv ids x)(hS:sL S lo H):Fz S H nx pv (ah x.J):=by
 have:=z7 (S:=S) (nx:=nx) (cs':=ints x.J) h.par (fun i g h1 h2 h3=>hS i g _ _ h1 h2 h3 aax) rfl fun i hi _=>by simp only[ints,Xi];exact .lit _
 rw[aZ]at this;exact this
def nnv.PU {lo:Nat}(h:nnv lo H pv rv ids x)(hS:sL S lo H):Fz S H nx rv (aD x.X):=by
 have hl:=h.X.len;rw[Xl]at hl;have:=z7 (S:=S) (nx:=nx) (cs':=x.X.map ah) h.X.top (fun i g h1 h2 h3=>hS i g _ _ h1 h2 h3 aax) (by simp[hl]) fun i hi hi'=>by
  have hil:i<x.X.length:=by simpa using hi'
  have hii:i<ids.length:=U
  simp only[Xi,aas,aZ];have hid:=h.X.np _ (XA hii);have hrow:=h.X.row i _ _ (W5 hii) (show (x.X.map ints)[i]?=some (ints x.X[i]) by rw[List.getElem?_map,W5 hil];rfl);refine .nq (hS _ _ _ _ hid.1 hid.2 hrow aax) hrow (by simp[aZ]) fun j hj h2 h'=>?_;simp only[ints,Xi];have e0:0+j=j:=Nat.zero_add j;simp only[e0];exact .lit _
 rw[Xl]at this;exact this
def nnv.oy {lo:Nat}(h:nnv lo H pv rv ids x)(hS:sL S lo H):Fz S H nx rv (aR x):=by
 unfold aR;split
 ·rename_i e;rw[h.nil e];exact .lit _
 ·exact h.PU hS
def nnv.low {lo lo':Nat}(h:nnv lo H pv rv ids x)(hl:lo'<=lo):nnv lo' H pv rv ids x :=
 ⟨h.par.nf hl aaz fun _ _ _ _ _ _=>rfl,⟨h.X.len,h.X.nd,fun i hi=>⟨by have:=(h.X.np i hi).1;omega,(h.X.np i hi).2⟩,h.X.top.nf hl aaz fun _ _ _ _ _ _=>rfl,h.X.row⟩,h.dj,h.nil⟩
end Go.Proofs
namespace Go.Hx
variable {X:List (List nnn)}{ids:List Nat}{e0 e1:TypeId}{H:nnl}{v:nnn}
def nnt.elem {lo:Nat}(h:nnt lo H e1 e0 v ids X){i:Nat}(hi:i∈ids):∃r,H.get i=some (.O 0 e0 r):=by
 obtain⟨k,hk⟩:=Xg.1 hi;have hl:=(XR.1 hk).1;rw[h.len]at hl;exact⟨_,h.row k i _ hk (W5 hl)⟩
def nnt.z8 {lo:Nat}{H':nnl}(h:nnt lo H e1 e0 v ids X)(hn:H.C<=H'.C)
  (hk:∀i g e c,lo<=i->i<H.C->H.get i=some (.O g e c)->(e=e1\/i∈ids)->H'.get i=H.get i):nnt lo H' e1 e0 v ids X :=
 ⟨h.len,h.nd,fun i hi=>⟨(h.np i hi).1,by have:=(h.np i hi).2;omega⟩,h.top.nf aaz hn fun i g h1 h2 h3 _=>hk i g _ _ h1 h2 h3 (.inl rfl),fun k i r h1 h2=>by
  have h3:=h.np i (an h1);have h4:=h.row k i r h1 h2;rw[hk i _ _ _ h3.1 h3.2 h4 (.inr (an h1))];exact h4⟩
end Go.Hx
namespace Go.Proofs
open Go.Hx
variable {c g n r:Int}{X:List (List Int)}{l q:List Int}{ids:List Nat}{ns:List nna}{cs:List nnn}{A f gt idr idt m nx:Nat}{S e:Nat->Prop}{x:nna}{H H':nnl}{rv v w:nnn}
structure nnp (m:Nat)(ns:List nna):Prop where
 len:ns.length<=m
 node:∀x∈ns,x.J.length<=m/\x.X.length<=m/\∀r∈x.X,r≠[]/\r.length<=m
def nnp.mono {m':Nat}(h:nnp m ns)(hm:m<=m'):nnp m' ns :=
 ⟨XN h.len hm,fun x hx=>by
  obtain⟨a,b,c⟩:=h.node x hx;exact⟨U,U,fun r hr=>⟨(c r hr).1,by have:=(c r hr).2;omega⟩⟩⟩
theorem nnp.set {y:nna}(h:nnp m ns)(hy:y.J.length<=m/\y.X.length<=m/\∀r∈y.X,r≠[]/\r.length<=m):nnp m (ns.set A y) :=
 ⟨by rw[Xb];exact h.len,fun x hx=>by
  rcases XI hx with h1|rfl
  ·exact h.node x h1
  ·exact hy⟩
def aT (ns:List nna)(A:Nat)(c pv rv:nnn):List nnn:=(((aP ns).set (A*3) c).set (A*3+1) pv).set (A*3+2) rv
def dV (ns:List nna)(A:Nat)(c pv rv:nnn):(aT ns A c pv rv).length=ns.length*3:=by unfold aT;simp[fa]
def oz (h:A<ns.length)(c pv rv:nnn):(aT ns A c pv rv)[A*3]?=some c:=by
 unfold aT;rw[Xs U,Xs U,Xj (by rw[fa];omega)]
def qJ (h:A<ns.length)(c pv rv:nnn):(aT ns A c pv rv)[A*3+1]?=some pv:=by
 unfold aT;rw[Xs U,Xj (by rw[Xb,fa];omega)]
def lU (h:A<ns.length)(c pv rv:nnn):(aT ns A c pv rv)[A*3+2]?=some rv:=by
 unfold aT;rw[Xj (by rw[Xb,Xb,fa];omega)]
def kT {i:Nat}(h0:i≠A*3)(h1:i≠A*3+1)(h2:i≠A*3+2)(c pv rv:nnn):(aT ns A c pv rv)[i]?=(aP ns)[i]?:=by
 unfold aT;rw[Xs U,Xs U,Xs U]
def PZ (c c' pv rv:nnn):(aT ns A c pv rv).set (A*3) c'=aT ns A c' pv rv:=by
 unfold aT;rw[ZU _ _ U,ZU (i:=A*3+1) _ _ U,Zh]
def DE (c pv pv' rv:nnn):(aT ns A c pv rv).set (A*3+1) pv'=aT ns A c pv' rv:=by
 unfold aT;rw[ZU _ _ U,Zh]
def sN (c pv rv rv':nnn):(aT ns A c pv rv).set (A*3+2) rv'=aT ns A c pv rv':=by
 unfold aT;rw[Zh]
def z9 (h:A<ns.length)(c pv rv:nnn):¬aT ns A c pv rv=[]:=fun e=>by
 have:=oz h c pv rv;rw[e]at this;simp at this
def P0 (h:ns[A]?=some x)(pv rv:nnn):((aP ns).set (A*3+1) pv).set (A*3+2) rv=aT ns A (aa x.Q) pv rv:=by
 unfold aT;rw[iV (iR h)]
def sP {x':nna}(hA:A<ns.length)(hr:rv=aD x'.X\/rv=aR x')(he:e A->rv=aR x'):nnh e (ns.set A x') (aT ns A (aa x'.Q) (ah x'.J) rv):=by
 refine⟨by rw[dV,Xb],fun v x hx=>?_⟩;by_cases h:v=A
 ·subst h;rw[Xj hA]at hx;cases hx;exact⟨rv,oz hA _ _ _,qJ hA _ _ _,lU hA _ _ _,hr,he⟩
 ·rw[Xs U]at hx;refine⟨aR x,?_,?_,?_,.inr rfl,fun _=>rfl⟩
  ·rw[kT U U U];exact iR hx
  ·rw[kT U U U];exact jn hx
  ·rw[kT U U U];exact ka hx
def qK {lo z n:Nat}{e:TypeId}{cs':List nnn}(h:bI lo H e z v n cs)(hS:∀i,lo<=i->S i)(hl:cs'.length=cs.length)
  (hc:∀i (h:i<cs.length) (h':i<cs'.length),Fz S H nx cs[i] cs'[i]):Fz S H nx v (.L n cs'):=by
 rcases h with ⟨rfl,rfl,rfl⟩|⟨id,g,h1,_,rfl,h3,h4⟩
 ·obtain rfl:=Xc hl;exact .nil
 ·refine .nq (hS id h1) h4 U fun j hj h2 h'=>?_;simp only[Nat.zero_add]at h2 ⊢;exact hc j h2 h'
def oA {pv pv' rv':nnn}(hp:Fz S H nx pv pv')(hr:Fz S H nx rv rv'):∀i (h:i<(aT ns A (aa c) pv rv).length) (h':i<(aT ns A (aa c) pv' rv').length),Fz S H nx (aT ns A (aa c) pv rv)[i] (aT ns A (aa c) pv' rv')[i]:=by
 unfold aT;intro i h h';simp only[YH];by_cases h2:A*3+2=i
 ·rw[W8 h2,W8 h2];exact hr
 ·rw[W7 h2,W7 h2];by_cases h1:A*3+1=i
  ·rw[W8 h1,W8 h1];exact hp
  ·rw[W7 h1,W7 h1];by_cases h0:A*3=i
   ·rw[W8 h0];exact .lit _
   ·rw[W7 h0];exact v9 ns _ (XA _)
def P1 {lo:Nat}{R:Nat}{r':List Int}{cells:List nnn}(h:nnt lo H 72 3 v ids (X.map ints))(hS:∀i,lo<=i->S i)(hR:R<X.length)(ht:lo<=idt)
  (hcell:cells.length=X.length) (hsame:∀(j id:Nat) (r:List Int),j≠R->ids[j]?=some id->X[j]?=some r->cells[j]?=some (.Z id 0 0 r.length 1)/\H'.get id=H.get id) (hw:cells[R]?=some w) (hg:H'.get idt=some (.O gt 72 cells)) (hfw:Fz S H' nx w (ah r')):
  Fz S H' nx (.Z idt gt 0 X.length 1) (aD (X.set R r')):=by
 have hl:=h.len;rw[Xl]at hl;have:Fz S H' nx (.Z idt gt 0 X.length 1) (.L X.length ((X.set R r').map ah)):=by
  refine .nq (hS idt ht) hg aaw fun j hj h2 h'=>?_;simp only[Nat.zero_add]at h2 ⊢;have hjr:j<X.length:=U
  have e1:=W5 h2;generalize cells[j]=u at e1 ⊢;rw[Xi,YH];split
  ·rename_i e;subst e;rw[hw]at e1;cases e1;exact hfw
  ·rename_i e;have hij:j<ids.length:=U;obtain⟨c1,c2⟩:=hsame j _ _ (fun h=>e h.symm) (W5 hij) (W5 hjr);rw[c1]at e1;cases e1;have hid:=h.np _ (XA hij);have hrow:=h.row j _ _ (W5 hij) (show (X.map ints)[j]?=some (ints X[j]) by rw[List.getElem?_map,W5 hjr];rfl);rw[<- c2]at hrow;refine .nq (hS _ hid.1) hrow (by simp[aZ]) fun i hi h3 h4=>?_;have e0:0+i=i:=Nat.zero_add i;simp only[e0,ints,Xi];exact .lit _
 have e:aD (X.set R r')=.L X.length ((X.set R r').map ah):=by unfold aD;rw[Xb]
 rw[e];exact this
structure nnu (lo:Nat)(H:nnl)(rv:nnn)(ids:List Nat)(X:List (List Int))(R:Nat)(q:List Int)(idt gt:Nat)(cells:List nnn)(idr:Nat):Prop where
 rv:rv=.Z idt gt 0 X.length 1
 top:H.get idt=some (.O gt 72 cells)
 tlo:lo<=idt/\idt<H.C
 len:cells.length=X.length
 at':cells[R]?=some (.Z idr 0 0 q.length 1)
 row:H.get idr=some (.O 0 3 (ints q))
 rlo:lo<=idr/\idr<H.C
 ne:idt≠idr
 id:ids[R]?=some idr
 q:X[R]?=some q
 cell:∀(j i:Nat) (r:List Int),ids[j]?=some i->X[j]?=some r->cells[j]?=some (.Z i 0 0 r.length 1)
 nm:idt ∉ ids
def nnt.rowAt {lo:Nat}(h:nnt lo H 72 3 rv ids (X.map ints)){R:Nat}(hq:X[R]?=some q):∃idt gt cells idr,nnu lo H rv ids X R q idt gt cells idr:=by
 have hR:=get_lt hq;have hl:=h.len;rw[Xl]at hl;have h0:X.map ints≠[]:=by intro e;have:=congrArg List.length e;simp at this;rw[this]at hR;simp at hR
 obtain⟨idt,gt,a,b,c,d,f⟩:=h.Gc h0;obtain⟨idr,hidr⟩:=get_of_lt (show R<ids.length by omega);have hrow:=h.row R idr (ints q) hidr (by rw[List.getElem?_map,hq];rfl);have hcell:∀(j i:Nat) (r:List Int),ids[j]?=some i->X[j]?=some r->(List.zipWith (fun i n=>nnn.Z i 0 0 n 1) ids ((X.map ints).map List.length))[j]?=some (.Z i 0 0 r.length 1):=fun j i r h1 h2=>by
  rw[List.getElem?_zipWith,h1,List.getElem?_map,List.getElem?_map,h2];simp[aZ]
 refine⟨idt,gt,_,idr,by rw[c,Xl],d,⟨a,b⟩,by simp[hl],hcell R idr q hidr hq,hrow,h.np _ (an hidr),?_,hidr,hq,hcell,f aax⟩;rintro rfl;exact f aax (an hidr)
def nnu.P2 {lo:Nat}{R:Nat}{cells:List nnn}(h:nnu lo H rv ids X R q idt gt cells idr)(hM:nnt lo H' 72 3 rv ids (X.map ints))(hS:∀i,lo<=i->S i)(ht:H'.get idt=some (.O gt 72 cells)):
  Fz S H' nx (.Z idt gt 0 R 1) (aD (X.take R)):=by
 have hR:=get_lt h.q;have hl:=hM.len;rw[Xl]at hl;have:Fz S H' nx (.Z idt gt 0 R 1) (.L R ((X.take R).map ah)):=by
  refine .nq (hS idt h.tlo.1) ht (by simp;omega) fun j hj h2 h'=>?_;simp only[Nat.zero_add]at h2 ⊢;have hjr:j<X.length:=U
  have hij:j<ids.length:=U
  have e1:=W5 h2;generalize cells[j]=u at e1 ⊢;rw[h.cell j _ _ (W5 hij) (W5 hjr)]at e1;cases e1;rw[Xi,YY];have hid:=hM.np _ (XA hij);have hrow:=hM.row j _ _ (W5 hij) (show (X.map ints)[j]?=some (ints X[j]) by rw[List.getElem?_map,W5 hjr];rfl);refine .nq (hS _ hid.1) hrow (by simp[aZ]) fun i hi h3 h4=>?_;have e0:0+i=i:=Nat.zero_add i;simp only[e0,ints,Xi];exact .lit _
 have e:aD (X.take R)=.L R ((X.take R).map ah):=by unfold aD;rw[Xm,Zi U]
 rw[e];exact this
def nnu.P3 {lo:Nat}{R:Nat}{cells:List nnn}(h:nnu lo H rv ids X R q idt gt cells idr)(hM:nnt lo H 72 3 rv ids (X.map ints))(hS:∀i,lo<=i->S i){q':List Int}
  (ht:H'.get idt=some (.O gt 72 (cells.set R w))) (hk:∀i∈ids,i≠idr->H'.get i=H.get i) (hw:Fz S H' nx w (ah q')):Fz S H' nx rv (aD (X.set R q')):=by
 have hR:=get_lt h.q;rw[h.rv];refine P1 (gt:=gt) hM hS hR h.tlo.1 (by rw[Xb];exact h.len) (fun j i r hj h1 h2=>⟨by rw[Xs (fun e=>hj e.symm)];exact h.cell j i r h1 h2,hk i (an h1) ?_⟩) (by rw[Xj (by rw[h.len];exact hR)]) ht hw;rintro rfl;exact hj ((YM (get_lt h1) hM.nd).1 (by rw[h1,h.id]))
theorem nnh.take (h:nnh e ns cs)(k:Nat):nnh e (ns.take k) (cs.take (k*3)):=by
 refine⟨by rw[Xm,Xm,h.len];omega,fun v x hx=>?_⟩;have hv:=get_lt hx;rw[Xm]at hv;rw[XC U]at hx;obtain⟨rv,a,b,c,d⟩:=h.node v x hx;exact⟨rv,by rw[XC U];exact a,by rw[XC U];exact b,by rw[XC U];exact c,d⟩
theorem nnp.take (h:nnp m ns)(k:Nat):nnp m (ns.take k):=⟨by rw[Xm];have:=h.len;omega,fun x hx=>h.node x (Xz hx)⟩
def jk:Nat->Int->Int->List Int->List Int
 |0,_,_,l=>l
 |f+1,i,k,l=>if i<k then jk f (i+1) (k-1) ((l.set i.toNat (l.getD k.toNat 0)).set k.toNat (l.getD i.toNat 0)) else l
def iM (c n g:Int)(q:List Int):List Int:=if c=6 then q.set 0 n else if c=7 then q++[0] else if c=8 then g :: List.replicate (q.length-1) 0 else jk (q.length+1) 0 ((q.length:Int)-1) q
def dB (c r n g:Int)(x:nna):nna × nnn :=
 if c=1 then ({ x with Q:=n },aR x) else if c=2 then ({ x with J:=x.J++[n] },aR x) else if c=3 then ({ x with J:=[] },aR x)
 else if c=4 then ({ x with X:=x.X++[[n]] },aR { x with X:=x.X++[[n]] })
 else match x.X[(r % (x.X.length:Int)).toNat]? with
  |none=>(x,aR x)
  |some q=>if c=5 then ({ x with X:=x.X.take (r % (x.X.length:Int)).toNat },aD (x.X.take (r % (x.X.length:Int)).toNat))
   else ({ x with X:=x.X.set (r % (x.X.length:Int)).toNat (iM c n g q) },aD (x.X.set (r % (x.X.length:Int)).toNat (iM c n g q)))
def dW (c:Int)(A:Nat)(r n g:Int)(ns:List nna):Int × List nna × List nnn:=match ns[A]? with
 |none=>(g,[],[])
 |some x=>if c=0 then (n,ns,aT ns A (aa x.Q) (ah x.J) (aR x))
  else if c=10 then (g,ns++[⟨1,[],[[g]]⟩],aT ns A (aa x.Q) (ah x.J) (aR x)++[aa 1,ah [],aR ⟨1,[],[[g]]⟩])
  else if c=11 then (g,ns.take (ns.length-1),(aT ns A (aa x.Q) (ah x.J) (aR x)).take ((ns.length-1)*3))
  else (g,ns.set A (dB c r n g x).1,aT ns A (aa (dB c r n g x).1.Q) (ah (dB c r n g x).1.J) (dB c r n g x).2)
def sQ (hc:4<c)(hx:x.X=[]):dB c r n g x=(x,aR x):=by
 unfold dB;rw[W7 U,W7 U,W7 U,W7 U,hx];rfl
def P4 {R:Nat}(hq:x.X[R]?=some q)(hR:R=(r % (x.X.length:Int)).toNat):dB 5 r n g x=({ x with X:=x.X.take R },aD (x.X.take R)):=by
 subst hR;unfold dB;rw[W7 U,W7 U,W7 U,W7 U,hq];rfl
def P5 {R:Nat}(hc:5<c)(hq:x.X[R]?=some q)(hR:R=(r % (x.X.length:Int)).toNat):dB c r n g x=({ x with X:=x.X.set R (iM c n g q) },aD (x.X.set R (iM c n g q))):=by
 subst hR;unfold dB;rw[W7 U,W7 U,W7 U,W7 U,hq];simp only;rw[W7 U]
def P6:∀(f:Nat) (i k:Int) (l:List Int),(jk f i k l).length=l.length:=by
 intro f
 induction f with
 |zero=>intro i k l;rfl
 |succ f ih=>intro i k l;unfold jk;split<;>simp[ih]
def P7 {i k:Int}(h:¬i<k):jk f i k l=l:=by
 cases f with
 |zero=>rfl
 |succ f=>unfold jk;rw[W7 h]
def P8 {iN kN:Nat}{qa qb:Int}(h:(iN:Int)<kN)(ha:l[iN]?=some qa)(hb:l[kN]?=some qb):jk f ((iN:Int)+1) ((kN:Int)-1) ((l.set iN qb).set kN qa)=jk (f+1) iN kN l:=by
 conv=>rhs;unfold jk
 rw[W8 h];simp[List.getD,ha,hb]
end Go.Proofs
