/- Own work: contracts. -/
import Derived.Test.YtjhbjbninamhnaaGreatConD
import Derived.Test.YtjhbjbninamhnaaGreatRows
import Derived.Test.YtjhbjbninamhnaaGreatLibC
import Derived.ProofKit
import Derived.Test.YtjhbjbninamhnaaGreatConB
set_option linter.all false
set_option maxRecDepth 100000
namespace Go.Proofs
open Go.Hx
structure D20 where
 g:Int
 ps:List DrP
 ord:List Int
 decs:Int
 rem:Bool
 us:List UtD
structure D20.Ok (d:D20):Prop where
 g:U8 d.g
 ps:∀ x∈d.ps,x.Ok
 pl:(d.ps.length:Int)<2 ^ 63
 ol:(d.ord.length:Int)<2 ^ 63
 o8:∀ x∈d.ord,U8 x
 decs:U8 d.decs
 us:∀ u∈d.us,u.Ok
 ul:(d.us.length:Int)<2 ^ 63
def jS (us:List UtD):List AVal:=(us.map UtD.cells).flatten
def D20.cells (d:D20):List AVal:=[.lit (.int .u8 d.g),.vec d.ps.length (dY d.ps),.vec d.ord.length (bn d.ord),.lit (.int .u8 d.decs),.lit (.bool d.rem),.vec d.us.length (jS d.us)]
theorem PP {l:List UtD}{i:Nat}{x:UtD}(h:l[i]?=some x):((jS l).drop (i*2)).take 2=[.lit (.int .u8 x.vars),.vec x.w.length (mI x.w)]:=my (f:=UtD.cells) (z:=2) (fun _=>rfl) l i x h
theorem PQ {l:List UtD}{i:Nat}{x:UtD}(h:l[i]?=some x):(jS l)[i*2]?=some (.lit (.int .u8 x.vars)):=gS (f:=UtD.cells) (z:=2) (fun _=>rfl) l i 0 x h (by omega)
theorem PR {l:List UtD}{i:Nat}{x:UtD}(h:l[i]?=some x):¬ jS l=[]:=fun e=>by
 have:=PQ h;rw[e]at this;simp at this
theorem PS {l:List NodeP}{i:Nat}{x:NodeP}(p:List Int)(h:l[i]?=some x):((aT l).set (i*3+1) (af p)).set (i*3+2) (.lit (.slice none 0 0))=aT (l.set i ⟨x.card,p,[]⟩):=by
 have hl:=get_lt h;have h1:=u9 (f:=NodeP.eW) (z:=3) (fun _=>rfl) l i ⟨x.card,p,[]⟩ hl;have h2:=my (f:=NodeP.eW) (z:=3) (fun _=>rfl) l i x h;unfold aT;rw[h1];have h3:(l.map NodeP.eW).flatten=((l.map NodeP.eW).flatten).take (i*3)++(x.eW++((l.map NodeP.eW).flatten).drop (i*3+3)):=by
  rw[<- h2,<- UF,Tu,Tu]
 have hlen:(((l.map NodeP.eW).flatten).take (i*3)).length=i*3:=by
  rw[SX,kC (f:=NodeP.eW) (z:=3) (fun _=>rfl)];omega
 conv=>lhs;rw[h3]
 rw[Tv _ _ (by omega),Tv _ _ (by omega),hlen,show i*3+1 - i*3=1 by omega,show i*3+2 - i*3=2 by omega];simp [NodeP.eW,ba]
theorem PT {l:List NodeP}(h:∀ x∈l,x.rows≠[]):aT l=aG l:=by
 unfold aT aG;congr 1;exact Ti fun x hx=>by unfold NodeP.eW NodeP.cells;rw[rR (h x hx)]
theorem yR {H:AHeap}{nx N:Nat}{e:TypeId}{g:Int}{ms:List NodeP}(h:H.get N=some (.arr 0 e (aT ms))):Fz (fun _=>True) H nx (.agg [aa g,.own N 0 0 ms.length 3]) (bJ g ms):=by
 refine .agg rfl fun i hi _=>?_
 match i,hi with
 | 0,_=>exact .lit _
 | 1,_ =>
  refine .frz trivial h (gT ms) fun j hj h2 h'=>?_;have e0:(0:Nat)+j=j:=Nat.zero_add j;have h3:j<(aT ms).length:=by omega
  have:=C4 (S:=fun _=>True) (H:=H) (nx:=nx) ms j h3 h';simpa only[e0] using this
theorem yS {S:Nat->Prop}{H:AHeap}{nx:Nat}(l:List UtilP):∀ c∈aR l,Fz S H nx c c:=by
 intro c hc;unfold aR at hc;obtain⟨r,hr,hc⟩:=UT.1 hc;obtain⟨x,_,rfl⟩:=S9.1 hr;unfold UtilP.cells at hc;simp only[List.mem_cons,List.not_mem_nil,or_false]at hc;rcases hc with rfl|rfl<;>exact .dq _
set_option maxHeartbeats 4000000 in
theorem PU (d:D20)(hd:d.Ok)(H:AHeap)(K:ARes->AHeap->Prop)(hK:∀ x,DrI d.rem x->K (.ret (vf x)) H):ae Tryz.prog G0 10 [.agg d.cells] H K:=by
 refine ae.clo ⟨_,Tryz.func10,rfl,rfl⟩ fun hcl=>?_;refine ae.aZ (n:=128) (rs:=[.cell 2 38]) Tryz.func10 rfl rfl rfl (by decide) (by kernel_rfl) (by simp) ?_;simp only[go_sem,D20.cells];obtain⟨H0,hH0⟩:∃ H0,H0=ext H [.arr 0 28 [.lit (.int .u8 d.g),.vec d.ps.length (dY d.ps),.vec d.ord.length (bn d.ord),.lit (.int .u8 d.decs),.lit (.bool d.rem),.vec d.us.length (jS d.us)],.arr 0 38 [.lit (.int .i64 0),.lit (.slice none 0 0),.lit (.int .u64 0),.lit (.slice none 0 0)]]:=⟨_,rfl⟩
 have g00:H0.get H.next=some (.arr 0 28 [.lit (.int .u8 d.g),.vec d.ps.length (dY d.ps),.vec d.ord.length (bn d.ord),.lit (.int .u8 d.decs),.lit (.bool d.rem),.vec d.us.length (jS d.us)]):=by rw[hH0];exact bQ ..
 have g01:H0.get (H.next+1)=some (.arr 0 38 [.lit (.int .i64 0),.lit (.slice none 0 0),.lit (.int .u64 0),.lit (.slice none 0 0)]):=by rw[hH0];exact bB H _ 1 (by simp)
 have n0:H0.next=H.next+2:=by rw[hH0];rfl
 have o0:Over H H0:=by rw[hH0];exact .ext _ _
 rw[<- hH0];clear hH0;refine aB.clo (Qk d.g d.ps d.ord hd.g hd.ps hd.pl hd.ol hd.o8 _ _ fun g ns N H' ov hN1 hN2 hget hnet h5 hp3=>⟨trivial,?_⟩);simp only[go_sem];obtain⟨B,hB⟩:∃ B,B=H'.next:=⟨_,rfl⟩
 rw[<- hB];obtain⟨H1,hH1⟩:∃ H1,H1=ext H' [.arr 0 103 [.lit (.int .i64 g),.own N 0 0 ns.length 3],.arr 0 38 [.lit (.int .i64 g),.own N 0 0 ns.length 3,.lit (.int .u64 0),.lit (.slice none 0 0)]]:=⟨_,rfl⟩
 have n1:H1.next=B+2:=by rw[hH1,hB];rfl
 have ovn:=ov.next;have g10:H1.get H.next=some (.arr 0 28 [.lit (.int .u8 d.g),.vec d.ps.length (dY d.ps),.vec d.ord.length (bn d.ord),.lit (.int .u8 d.decs),.lit (.bool d.rem),.vec d.us.length (jS d.us)]):=by rw[hH1,dH _ _ _ (by omega),ov.old _ (by omega)];exact g00
 have g11:H1.get (H.next+1)=some (.arr 0 38 [.lit (.int .i64 0),.lit (.slice none 0 0),.lit (.int .u64 0),.lit (.slice none 0 0)]):=by rw[hH1,dH _ _ _ (by omega),ov.old _ (by omega)];exact g01
 have gN:H1.get N=some (.arr 0 73 (aT ns)):=by rw[hH1,dH _ _ _ (by omega),PT (Do hnet)];exact hget
 have gB:H1.get B=some (.arr 0 103 [.lit (.int .i64 g),.own N 0 0 ns.length 3]):=by rw[hH1,hB];exact bQ ..
 have gB1:H1.get (B+1)=some (.arr 0 38 [.lit (.int .i64 g),.own N 0 0 ns.length 3,.lit (.int .u64 ((0:Nat):Int)),.lit (.slice none 0 0)]):=by rw[hH1,hB];exact bB H' _ 1 (by simp)
 have o1:Over H H1:=by rw[hH1];exact(o0.trans ov).trans (.ext _ _)
 rw[<- hH1];clear hH1 hget;have hsl:(aY ns).length=ns.length:=by simp [aY]
 have hpr:∀ x∈ns,(x.parents.length:Int)<2 ^ 39/\∀ q∈x.parents,0<=q/\q<(ns.length:Int):=fun x hx=>⟨by have:=hp3 x hx;omega,(hnet.node x hx).2.2⟩
 have hs8:∀ p∈aY ns,p<2 ^ (aY ns).length:=by rw[hsl];exact vv fun x hx=>(hpr x hx).2
 obtain⟨r,hr⟩:=Tw.1 ((CY hs8 (by omega)).2 hnet.acyc);have hTR:=PN (fun p h=>S6 (hs8 p h) (Tm (by decide) (by omega))) hr;have hrl:=hTR.len;rw[hsl]at hrl;refine aB.clo ((ae.frame (H:=H1) (args:=[.agg [aa g,.own N 0 0 ns.length 3]]) (args':=[bJ g ns]) (v':=af (aM r)) aS rfl (fun i hi _=>?_) (Qt g ns (by omega) hpr r hr bZ _ fun v H' _ ho=>⟨_,rfl,ho.nT⟩)).mono fun rr H2 hrr=>?_)
 ·match i,hi with
  | 0,_=>exact yR gN
 obtain⟨rfl,rfl⟩:=hrr;refine⟨trivial,?_⟩;simp only[go_sem];refine W.lT (Q':=fun e s2=>e=.exit 0/\∃ (i known decs:Nat) (os:List Nat) (ms:List NodeP),s2.ρ 1=.ptr H.next 0 0/\s2.ρ 2=.ptr (H.next+1) 0 0/\s2.ρ 3=.ptr B 0 0/\s2.ρ 4=.ptr (B+1) 0 0/\DrD ns r d.rem i known decs os ms/\H2.next<=s2.H.next/\(∀ id,id<H2.next->id≠N->id≠B+1->s2.H.get id=H2.get id)/\s2.H.get N=some (.arr 0 73 (aT ms)) /\
  s2.H.get (B+1)=some (.arr 0 38 [.lit (.int .i64 g),.own N 0 0 ns.length 3,.lit (.int .u64 (decs:Int)),.lit (.slice none 0 0)])) ?_ ?_
 rotate_left
 ·rintro e s2 ⟨rfl,i,known,decs,os,ms,e1,e2,e3,e4,L,hnx,hold,hN,hB1⟩;refine⟨s2,.refl _,Nat.le_refl _,trivial,?_⟩;obtain⟨ρ2,Hy⟩:=s2;dsimp only at e1 e2 e3 e4 hnx hold hN hB1;simp only[go_sem];have hml:=L.len;have hcd:∀ x∈ms,1<=x.card/\x.card<=4:=fun x hx=>by
   obtain⟨v,hv⟩:=S8.1 hx;obtain⟨y,hy⟩:=get_of_lt (l:=ns) (i:=v) (by have:=get_lt hv;omega);have h1:(ao ms)[v]?=(ao ns)[v]?:=(by rw[L.card]);rw[cL hv,cL hy]at h1;rw[Option.some.inj h1];exact(hnet.node y (SK hy)).1
  have hn1:=hnet.n1;obtain⟨ut,hut⟩:∃ ut:List UtilP,ut=d.us.map fun u=>dZ u ms:=⟨_,rfl⟩
  refine W.aL 170141163178059628080016879768632823808 (by rfl) (fun ρ Hu=>∃ (i:Nat) (uv:AVal),ρ 12=aa i/\i<=d.us.length/\i<=4/\Hy.next<=Hu.next/\(∀ id,id<Hy.next->id≠B+1->Hu.get id=Hy.get id)/\Hu.get (B+1)=some (.arr 0 38 [.lit (.int .i64 g),.own N 0 0 ns.length 3,.lit (.int .u64 (decs:Int)),uv])/\bY Hy.next Hu 82 2 uv i (aR (ut.take i))) (fun ρ H=>d.us.length - (iv (ρ 12)).toNat) ?_ ?_
  ·simp only[go_sem];exact⟨0,_,rfl,by omega,by omega,hB1,.nil⟩
  rintro ρ Hu ⟨i,uv,h12,hi,hi4,hnu,holdu,hBu,hO⟩;refine W.en (fun E=>E 1=.ptr H.next 0 0 /\ E 2=.ptr (H.next+1) 0 0 /\ E 3=.ptr B 0 0 /\ E 4=.ptr (B+1) 0 0 /\ E 12=aa i) (by simp only[go_sem,e1,e2,e3,e4,h12]) fun E ⟨f1,f2,f3,f4,f12⟩=>?_
  refine W.vs ?_;have uh:Hu.get H.next=_:=((holdu H.next (by omega) (by omega)).trans (hold H.next (by omega) (by omega) (by omega))).trans g10;have l0:=ag uh;have lB:=ag (((holdu B (by omega) (by omega)).trans (hold B (by omega) (by omega) (by omega))).trans gB);have lB1:=ag hBu;have hNu:Hu.get N=some (.arr 0 73 (aT ms)):=(holdu N (by omega) (by omega)).trans hN;by_cases hb:(i:Int)<d.us.length/\(i:Int)<4
  ·obtain⟨u,hu⟩:=get_of_lt (l:=d.us) (i:=i) (by omega);have huo:=hd.us u (SK hu);have cne:=PR hu;have c0:=PP hu;have cl:i*2+2<=(jS d.us).length:=(by rw[show (jS d.us).length=d.us.length*2 from kC (f:=UtD.cells) (fun _=>rfl) _];omega);have w1:=SM ((i:Int)+1) (by omega);have hpc:∀ Hq,Hq.get N=some (.arr 0 73 (aT ms))->N<Hq.next->bO Tryz.prog G0 (.clo 45 [] []) [.agg [.lit (.int .u8 u.vars),.vec u.w.length (mI u.w)],.agg [.lit (.int .i64 g),.own N 0 0 ns.length 3]] Hq (.agg [af (dZ u ms).vars,af (dZ u ms).w]) [N]:=fun Hq hq hqn=>by
    refine bO.mk (fun i hi=>by obtain rfl:=List.mem_singleton.1 hi;exact hqn) fun H2 h1 h2=>?_;refine ae.frame (H:=H2) (args:=[.agg u.cells,.agg [aa g,.own N 0 0 ns.length 3]]) (args':=[.agg u.cells,bJ g ms]) (v':=.agg [af (dZ u ms).vars,af (dZ u ms).w]) aS rfl (fun i hi _=>?_) (Qu u huo g ms (by omega) hcd bZ _ fun v1 v2 H' _ o1 o2=>⟨_,rfl,.agg rfl fun i hi _=>?_⟩)
    ·match i,hi with
     | 0,_ =>
      refine .agg rfl fun i hi _=>?_
      match i,hi with
      | 0,_=>exact .lit _
      | 1,_ =>
       refine .vec rfl fun j hj _=>?_;simp only[mI,S4];exact .lit _
     | 1,_=>rw[<- hml];exact yR ((h1 N (by simp)).trans hq)
    ·match i,hi with
     | 0,_=>exact o1.nT
     | 1,_=>exact o2.nT
   obtain⟨uv',Hj,hA,hO',hnj,hpj⟩:=mS (P:=Tryz.prog) (xs:=[af (dZ u ms).vars,af (dZ u ms).w]) Tryz.underlying36 Tryz.uF Tryz.uH rfl rfl (by rw[Tryz.uG];omega) hO hnu rfl;simp only[af]at hA;have keep:∀ id,id<Hy.next->Hj.get id=Hu.get id:=fun id h=>hpj id (by omega) (hO.ne h);have lB1j:=ag ((keep _ (by omega)).trans hBu);have hvc:=hO'.cells;have hvo:=hO'.one;simp only[go_sem,f1,f12,l0,hb.1,hb.2];refine W.draw 10 [0,1,0,4,0,28,60,0,252,508] Tryz.mixed (by kernel_rfl) (by kernel_rfl) ?_;simp only[go_sem,f1,f3,f4,f12,l0,lB,lB1,cne,c0,cl,hb.1];refine⟨_,[N],hpc _ hNu (by omega),?_⟩;simp only[go_sem,f4,f12,hA,lB1j,hvc,hvo,w1];have hug:ut[i]?=some (dZ u ms):=(by rw[hut,List.getElem?_map,hu];rfl);have e2':aR (ut.take (i+1))=aR (ut.take i)++[af (dZ u ms).vars,af (dZ u ms).w]:=by
    rw[aO hug];unfold aR;rw[TI,List.flatten_append];simp [UtilP.cells]
   refine⟨⟨fun _ h=>by omega,fun _ h=>by omega⟩,by rw[aw];omega,⟨i+1,uv',rfl,by omega,by omega,by rw[aw];omega,fun id h1 h2=>by rw[ab,SO h2,keep _ h1];exact holdu id h1 h2,by rw[ab,SQ rfl],?_⟩,by rw[h12];simp only[aa,aQ];omega⟩;rw[e2'];exact hO'.keep (by rw[aw];omega) fun id gg h1 _ _=>by rw[ab,SO (by omega)]
  ·have fin:∀ b,ay Tryz.prog G0 H K (.agg [.lit (.int .i64 g),.own N 0 0 ns.length 3,.lit (.int .u64 (decs:Int)),uv]) (Hu.upd (H.next+1) b):=fun b=>by
    have o1n:=o1.next;have ov2:Over H (Hu.upd (H.next+1) b):=⟨by rw[aw];omega,fun id h=>by
     rw[ab,SO (by omega),holdu id (by omega) (by omega),hold id (by omega) (by omega) (by omega)];exact o1.old id h⟩
    have htl:(ut.take i).length=i:=(by rw[SX,hut,SZ];omega);refine ay.bx (v':=vf ⟨g,ms,decs,ut.take i⟩) aS hcl ov2 (.agg rfl fun j hj _=>?_) (hK _ (L.fin hnet hTR h5 (by omega) fun u hu=>?_))
    ·match j,hj with
     | 0,_=>exact .lit _
     | 1,_ =>
      show Fz _ _ _ (.own N 0 0 ns.length 3) (.vec ms.length (aT ms));rw[<- hml];refine .frz (by omega) (show (Hu.upd (H.next+1) b).get N=some (.arr 0 73 (aT ms)) by rw[ab,SO (by omega)];exact hNu) (gq ms) fun j hj h2 h'=>?_;have e0:(0:Nat)+j=j:=Nat.zero_add j;have h3:j<(aT ms).length:=(by omega);have:=uO (S:=fun id=>H.next<=id) (H:=Hu.upd (H.next+1) b) (nx:=H.next) ms _ (Tt h3);simpa only[e0] using this
     | 2,_=>exact .lit _
     | 3,_ =>
      show Fz _ _ _ uv (.vec (ut.take i).length (aR (ut.take i)));rcases hO with ⟨h,hz,hc⟩|⟨id,gg,k1,k2,h,k4,k5⟩
      ·rw[h,hc,htl,hz];exact .nil
      ·rw[h,htl];refine .frz (by omega) (show (Hu.upd (H.next+1) b).get id=some (.arr gg 82 (aR (ut.take i))) by rw[ab,SO (by omega)];exact k5) k4 fun j hj h2 h'=>?_;have e0:(0:Nat)+j=j:=Nat.zero_add j;have h3:j<(aR (ut.take i)).length:=(by omega);have:=yS (S:=fun id=>H.next<=id) (H:=Hu.upd (H.next+1) b) (nx:=H.next) (ut.take i) _ (Tt h3);simpa only[e0] using this
    ·have hu2:=Tg hu;rw[hut]at hu2;obtain⟨p,hp,rfl⟩:=S9.1 hu2;have:=Qp p ms fun x hx=>(hcd x hx).1;exact⟨by have:=this.vars;rw[hml]at this;exact this,by have:=this.size;rw[L.card]at this;exact this,this.w⟩
   have lR:Hu.live (H.next+1) 0=_:=ag (((holdu (H.next+1) (by omega) (by omega)).trans (hold (H.next+1) (by omega) (by omega) (by omega))).trans g11);have uvc:=hO.cells;have uvo:=hO.one;by_cases hb1:(i:Int)<d.us.length
   ·have hb4:¬ (i:Int)<4:=fun h=>hb ⟨hb1,h⟩;simp only[go_sem,f1,f2,f4,f12,l0,lB1,lR,hb1,hb4,uvo];exact fin _
   ·simp only[go_sem,f1,f2,f4,f12,l0,lB1,lR,hb1,uvo];exact fin _
 refine W.aL 20282409603651670423947242901440 (by rfl) (fun ρ Hx=>∃ (i known decs:Nat) (os:List Nat) (ms:List NodeP),ρ 8=aa i/\i<=r.length/\ρ 6=br known/\ρ 7=aa os.length/\DrD ns r d.rem i known decs os ms/\H2.next<=Hx.next/\(∀ id,id<H2.next->id≠N->id≠B+1->Hx.get id=H2.get id)/\Hx.get N=some (.arr 0 73 (aT ms)) /\
  Hx.get (B+1)=some (.arr 0 38 [.lit (.int .i64 g),.own N 0 0 ns.length 3,.lit (.int .u64 (decs:Int)),.lit (.slice none 0 0)])) (fun ρ H=>r.length - (iv (ρ 8)).toNat) ?_ ?_
 ·simp only[go_sem];exact⟨0,0,0,[],ns,rfl,by omega,rfl,rfl,.start ns r d.rem,gN,gB1⟩
 rintro ρ Hx ⟨i,known,decs,os,ms,h8,hi,h6,h7,L,hnx,hold,hN,hB1⟩;refine W.en (fun E=>E 1=.ptr H.next 0 0 /\ E 2=.ptr (H.next+1) 0 0 /\ E 3=.ptr B 0 0 /\ E 4=.ptr (B+1) 0 0 /\ E 5=af (aM r) /\ E 6=br known /\ E 7=aa os.length /\ E 8=aa i) (by simp only[go_sem,h6,h7,h8]) fun E ⟨e1,e2,e3,e4,e5,e6,e7,e8⟩=>?_
 refine W.vs ?_;have l0:=ag ((hold H.next (by omega) (by omega) (by omega)).trans g10);have lB:=ag ((hold B (by omega) (by omega) (by omega)).trans gB);have lB1:=ag hB1;have lN:=ag hN;have hrng:=hTR.rng;rw[hsl]at hrng;have hml:=L.len;have natl:(aM r).length=r.length:=by simp [aM]
 have nat5:∀ {s:Nat},s<2 ^ ns.length->s<2 ^ 64:=fun h=>S6 h (Tm (by decide) (by omega));have hk64:known<2 ^ 64:=nat5 (uY hrng L.knownb);have hd64:decs<2 ^ 64:=nat5 (uY hrng L.decsb);by_cases hb:(i:Int)<r.length;rotate_left
 ·simp only[go_sem,e1,e2,e3,e4,e5,e8,natl,hb];exact⟨i,known,decs,os,ms,L,hnx,hold,hN,hB1⟩
 by_cases h3:os.length<3;rotate_left
 ·have h3':¬ (os.length:Int)<3:=by omega
  simp only[go_sem,e1,e2,e3,e4,e5,e7,e8,natl,hb,h3'];exact⟨i,known,decs,os,ms,L,hnx,hold,hN,hB1⟩
 have h3':(os.length:Int)<3:=by omega
 obtain⟨v,hv⟩:=get_of_lt (l:=r) (i:=i) (by omega);have hvi:(aM r)[i]?=some (v:Int):=by unfold aM;rw[List.getElem?_map,hv];rfl
 have hvne:=aK hvi;have hvn:=hrng v (SK hv);have w1:=SM ((i:Int)+1) (by omega);obtain⟨r1,hr1⟩:∃ r1,d.decs.fdiv (2 ^ (min ((i:Int)).toNat IntKind.u8.bits))=r1:=⟨_,rfl⟩
 obtain⟨r2,hr2⟩:∃ r2,IntKind.u8.wrap (((BitVec.ofInt IntKind.u8.bits r1 &&& BitVec.ofInt IntKind.u8.bits 1).toNat:Nat):Int)=r2:=⟨_,rfl⟩
 have s1:∀ t o1 o2,bh Tryz.prog .shr t o1 o2 (.lit (.int .u8 d.decs)) (.lit (.int .i64 (i:Int)))=some (.lit (.int .u8 r1)):=fun t o1 o2=>by rw[vE (by omega),hr1]
 have s2:∀ t o1 o2,bh Tryz.prog .and t o1 o2 (.lit (.int .u8 r1)) (.lit (.int .u8 1))=some (.lit (.int .u8 r2)):=fun t o1 o2=>by rw[vF,hr2]
 by_cases hrz:r2=0
 ·simp only[go_sem,e1,e2,e3,e4,e5,e6,e7,e8,natl,hb,h3',l0,hvi,hvne,s1,s2,hrz,w1];exact⟨hnx,⟨i+1,known,decs,os,ms,rfl,by omega,rfl,rfl,L.skip,hnx,hold,hN,hB1⟩,by rw[h8];simp only[aa,aQ];omega⟩
 obtain⟨x,hx⟩:=get_of_lt (l:=ns) (i:=v) hvn;have hdv:=(L.step hTR (by omega) h3 hv hx (s:=0) (fun i hi=>by simp at hi)).1;have hmx:ms[v]?=some x:=by rw[L.old v hdv];exact hx
 have hxp:=hpr x (SK hx);have hmp:∀ y∈ms,(y.parents.length:Int)<2 ^ 39/\∀ q∈y.parents,0<=q/\q<64:=fun y hy=>by
  obtain⟨u,hu⟩:=S8.1 hy;cases hbu:decs.testBit u with
  | false =>
   rw[L.old u hbu]at hu;obtain⟨q1,q2⟩:=hpr y (SK hu);exact⟨q1,fun q hq=>by have:=q2 q hq;omega⟩
  | true =>
   obtain⟨_,s,j,e,_⟩:=L.dec u y hu hbu;rw[e];refine⟨by have:=DI s 8;omega,fun q hq=>?_⟩;obtain⟨z,rfl,hz,_⟩:=pN.1 hq;omega
 have hset:((aY ms).map br)[v]?=some (br (cB x.parents)):=by rw[List.getElem?_map,lQ hmx];rfl
 have hsne:=aK hset;have hmn:(aY ms).length=ns.length:=by rw[<- hml];simp [aY]
 simp only[go_sem,e1,e3,e5,e7,e8,natl,hb,h3',l0,lB,hvi,hvne,s1,s2,hrz];refine aB.clo ((ae.frame (H:=Hx) (args:=[.agg [aa g,.own N 0 0 ns.length 3]]) (args':=[bJ g ms]) (v':=fO (aY ms)) aS rfl (fun i hi _=>?_) (Qq g ms (by omega) hmp bZ _ fun v H' _ ho=>⟨_,rfl,Qs ho⟩)).mono fun rr Hz hrr=>?_)
 ·match i,hi with
  | 0,_=>rw[<- hml];exact yR hN
 obtain⟨rfl,rfl⟩:=hrr;refine⟨trivial,?_⟩;have hvI:(v:Int)<ns.length:=by omega
 simp only[go_sem,hset,hsne,hmn,hvI];have xs64:cB x.parents<2 ^ 64:=nat5 (rP hxp.2);refine W.aL 9444732684264313719808 (by rfl) (fun ρ2 Hq=>Hq=Hz/\∃ k s:Nat,ρ2 11=aa k/\k<=x.parents.length/\ρ2 10=br s/\Sub s (cB x.parents)/\s<2 ^ 64) (fun ρ2 H=>x.parents.length - (iv (ρ2 11)).toNat) ?_ ?_
 ·simp only[go_sem];exact⟨0,_,rfl,by omega,rfl,.refl _,xs64⟩
 rintro ρ2 Hq ⟨rfl,k,s,h11,hk,h10,hs,hs64⟩;refine W.en (fun E2=>E2 1=.ptr H.next 0 0 /\ E2 2=.ptr (H.next+1) 0 0 /\ E2 3=.ptr B 0 0 /\ E2 4=.ptr (B+1) 0 0 /\ E2 5=af (aM r) /\ E2 6=br known /\ E2 7=aa os.length /\ E2 8=aa i /\ E2 9=aa v /\ E2 10=br s /\ E2 11=aa k) (by simp only[go_sem,e1,e2,e3,e4,e5,e6,e7,e8,h10,h11]) fun E2 ⟨f1,f2,f3,f4,f5,f6,f7,f8,f9,f10,f11⟩=>?_
 refine W.vs ?_;have nne:=Pl hmx;have nlen:=gq ms;have n1v:=mD hmx;by_cases hb2:(k:Int)<x.parents.length
 ·obtain⟨q,hq⟩:=get_of_lt (l:=x.parents) (i:=k) (by omega);have hqr:=hxp.2 q (SK hq);obtain⟨u,rfl⟩:=S2 hqr.1;have hqne:=aK hq;have w2:=SM ((k:Int)+1) (by omega);by_cases hk2:(k:Int) >= 2
  ·have s3:=fun t x y=>nU (P:=Tryz.prog) (t:=t) (x:=x) (y:=y) (k':=.i64) (s:=u) (by omega);have s4:=fun t x y=>zC (P:=Tryz.prog) (t:=t) (x:=x) (y:=y) (a:=s) (b:=2 ^ u);simp only[go_sem,f4,f9,f10,f11,lB1,lN,n1v,hvI,hb2,hk2,hq,hqne,w2,s3,s4];exact⟨⟨k+1,gF s (2 ^ u),rfl,by omega,rfl,fun i hi=>by rw[zB hs64,Th]at hi;exact hs i hi.1,Er _ _⟩,by rw[h11];simp only[aa,aQ];omega⟩
  ·simp only[go_sem,f4,f9,f10,f11,lB1,lN,n1v,hvI,hb2,hk2,w2];exact⟨⟨k+1,s,rfl,by omega,rfl,hs,hs64⟩,by rw[h11];simp only[aa,aQ];omega⟩
 ·obtain⟨s',hs'⟩:∃ s',s'=(if d.rem then s ||| known else s):=⟨_,rfl⟩
  have hsv:=L.step hTR (by omega) h3 hv hx hs;rw[<- hs']at hsv;obtain⟨_,_,hslt,L2⟩:=hsv;have s64:=nat5 hslt;have b2v:(2:Nat) ^ v<2 ^ 64:=Ug (by decide) (by omega);have o1':=fun t x y=>kO (P:=Tryz.prog) (t:=t) (x:=x) (y:=y) hd64 b2v;have o2':=fun t x y=>kO (P:=Tryz.prog) (t:=t) (x:=x) (y:=y) hk64 s64;have o3':=fun t x y=>kO (P:=Tryz.prog) (t:=t) (x:=x) (y:=y) (UW hk64 s64) b2v;have o4':=fun t x y=>kO (P:=Tryz.prog) (t:=t) (x:=x) (y:=y) hs64 hk64;have s6:=fun t x y=>nU (P:=Tryz.prog) (t:=t) (x:=x) (y:=y) (k':=.i64) (s:=v) (by omega);have w3:=SM ((os.length:Int)+1) (by omega);have nse:=PS (dK s' 8) hmx;have gone:∀ b,(Hq.upd N b).live (B+1) 0=some (38,[.lit (.int .i64 g),.own N 0 0 ns.length 3,.lit (.int .u64 (decs:Int)),.lit (.slice none 0 0)]):=fun b=>(nV (by omega)).trans lB1;have st1:∀ a,setAt (aT ms) (v*3+1) [a]=(aT ms).set (v*3+1) a:=fun a=>dS (by omega);have st2:∀ a b,setAt ((aT ms).set (v*3+1) a) (v*3+2) [b]=((aT ms).set (v*3+1) a).set (v*3+2) b:=fun a b=>dS (by rw[SU];omega);have gone2:∀ b b',((Hq.upd N b).upd N b').live (B+1) 0=some (38,[.lit (.int .i64 g),.own N 0 0 ns.length 3,.lit (.int .u64 (decs:Int)),.lit (.slice none 0 0)]):=fun b b'=>(nV (by omega)).trans (gone b);simp only[af]at nse;cases hrem:d.rem
  ·have es:s'=s:=(by rw[hs',hrem];rfl);subst es;simp only[go_sem,f1,f3,f4,f6,f7,f8,f9,f11,lB1,lN,n1v,hvI,hb2,l0,hrem];refine W.draw 5 [0,1,0,0,8] Tryz.mixed (by kernel_rfl) (by kernel_rfl) ?_;simp only[go_sem,f4,f9,f10,lB1,lN,hvI,hml,nlen,gone];refine⟨af (dK s' 8),[],bO.pure fun H2=>DJ s' s64 H2 _ ⟨rfl,rfl⟩,?_⟩;simp only[go_sem,hml,nlen,st1,st2,nse,SU];refine⟨by omega,by omega,?_⟩;refine W.draw 4 [0,1,0,4] Tryz.mixed (by kernel_rfl) (by kernel_rfl) ?_;simp only[go_sem,f4,f6,f7,f8,f9,f10,gone2,s6,o1',o2',o3',w1,w3];refine⟨by simp only[aw];omega,⟨i+1,known ||| s' ||| 2 ^ v,decs ||| 2 ^ v,os++[v],_,rfl,by omega,rfl,by simp,hrem ▸ L2,by simp only[aw];omega,fun id h1 h2 h3=>by simp only[ab];rw[SO h3,SO h2,SO h2];exact hold id h1 h2 h3,by rw[ab,SO (by omega),ab,SQ rfl],by rw[ab,SQ rfl]⟩,by rw[h8];simp only[aa,aQ];omega⟩
  ·have es:s ||| known=s':=by rw[hs',hrem];rfl
   rw[es]at o4';simp only[go_sem,f1,f3,f4,f6,f7,f8,f9,f10,f11,lB1,lN,n1v,hvI,hb2,l0,hrem,o4'];refine W.draw 5 [0,1,0,0,8] Tryz.mixed (by kernel_rfl) (by kernel_rfl) ?_;simp only[go_sem,f4,f9,f10,lB1,lN,hvI,hml,nlen,gone];refine⟨af (dK s' 8),[],bO.pure fun H2=>DJ s' s64 H2 _ ⟨rfl,rfl⟩,?_⟩;simp only[go_sem,hml,nlen,st1,st2,nse,SU];refine⟨by omega,by omega,?_⟩;refine W.draw 4 [0,1,0,4] Tryz.mixed (by kernel_rfl) (by kernel_rfl) ?_;simp only[go_sem,f4,f6,f7,f8,f9,f10,gone2,s6,o1',o2',o3',w1,w3];refine⟨by simp only[aw];omega,⟨i+1,known ||| s' ||| 2 ^ v,decs ||| 2 ^ v,os++[v],_,rfl,by omega,rfl,by simp,hrem ▸ L2,by simp only[aw];omega,fun id h1 h2 h3=>by simp only[ab];rw[SO h3,SO h2,SO h2];exact hold id h1 h2 h3,by rw[ab,SO (by omega),ab,SQ rfl],by rw[ab,SQ rfl]⟩,by rw[h8];simp only[aa,aQ];omega⟩
end Go.Proofs
namespace Go.Proofs.YtjhbjbninamhnaaGreat
open Go.ChangeShapes Go.WideShapes Go.ChangeAt Go.RowKit Go.Hx
theorem Tryz.own:ownKnob Tryz.prog.godebug=none:=by kernel_rfl
theorem Tryz.laidOut:laidOutB Tryz.prog=true:=by kernel_rfl
theorem Tryz.Nx:Tryz.prog.underlying 4=some .bool:=by kernel_rfl
section
variable {W:World} {H:Type} {enc:TypeId × Value->H} {spare:Nat->Bool} {held:Bool}
theorem mv {n:Nat}(h:n<=maxLen):(n:Int)<2 ^ 63:=by
 have:maxLen=9223372036854775807:=by decide
 omega
theorem lq {n:Int}(h:(Lit.int .u8 n).wf=true):U8 n:=by
 have:=wf_u8 h;unfold U8;omega
theorem Ny:ei enc Tryz.prog W spare held 165 fun _ zs=>∃ x:DrP,zs=x.cells/\x.Ok:=by
 have hu:=Tryz.underlying165;have c1:=Tryz.mw;have c2:=Tryz.yx;refine(oJ (φ:=fun i _ xs=>if i=2 then ∃ l:List Int,xs=[.vec l.length (ke .u8 l)]/\l.length<=maxLen/\∀ c,c∈l->(Lit.int .u8 c).wf=true else ∃ n,xs=[.lit (.int .u8 n)]/\(Lit.int .u8 n).wf=true) hu
  (fun cs hcs=>by
   have hc:Tryz.prog.cellsOf 165=3:=(by kernel_rfl);rw[hc]at hcs
   match cs,hcs with
   | [a,b,c],_=>simp [c1,c2])
  (fun i hi=>match i,hi with
   | 0,_=>(iC Tryz.underlying5).mono fun _ _ ⟨n,_,h,w⟩=>⟨n,h,w⟩
   | 1,_=>(iC Tryz.underlying5).mono fun _ _ ⟨n,_,h,w⟩=>⟨n,h,w⟩
   | 2,_=>(qC Tryz.underlying23 Tryz.underlying5 c1).mono fun _ _ h=>h)).mono fun d zs ⟨ds,rows,_,e,hl1,hl2,hall⟩=>?_
 match rows,ds,hl2,hl1,hall with
 | [x,y,z],[d0,d1,d2],_,_,hall =>
  obtain⟨n0,e0,w0⟩:=hall 0 (by simp) (by simp);obtain⟨n1,e1,w1⟩:=hall 1 (by simp) (by simp);obtain⟨l,e2,w2,w3⟩:=hall 2 (by simp) (by simp);simp only[Tp,TV]at e0 e1 e2;subst e0;subst e1;subst e2;refine⟨⟨n0,n1,l⟩,by rw[e];rfl,?_⟩;exact⟨lq w0,lq w1,mv w2,fun c hc=>lq (w3 c hc)⟩
theorem wf_i8 {n:Int}(h:(Lit.int .i8 n).wf=true):I8 n:=by
 have:-128<=n/\n<=127:=by simpa [Lit.wf,IntKind.min,IntKind.max,IntKind.signed,IntKind.bits] using h
 unfold I8;omega
theorem Nz:ei enc Tryz.prog W spare held 80 fun _ zs=>∃ x:UtD,zs=x.cells/\x.Ok:=by
 have hu:=Tryz.underlying80;have c1:=Tryz.mw;have c2:=Tryz.CN;have c3:=Tryz.CM;refine(oJ (φ:=fun i _ xs=>if i=1 then ∃ l:List Int,xs=[.vec l.length (ke .i8 l)]/\l.length<=maxLen/\∀ c,c∈l->(Lit.int .i8 c).wf=true else ∃ n,xs=[.lit (.int .u8 n)]/\(Lit.int .u8 n).wf=true) hu
  (fun cs hcs=>by
   have hc:Tryz.prog.cellsOf 80=2:=(by kernel_rfl);rw[hc]at hcs
   match cs,hcs with
   | [a,b],_=>simp [c1,c2])
  (fun i hi=>match i,hi with
   | 0,_=>(iC Tryz.underlying5).mono fun _ _ ⟨n,_,h,w⟩=>⟨n,h,w⟩
   | 1,_=>(qC Tryz.underlying78 Tryz.underlying77 c3).mono fun _ _ h=>h)).mono fun d zs ⟨ds,rows,_,e,hl1,hl2,hall⟩=>?_
 match rows,ds,hl2,hl1,hall with
 | [x,y],[d0,d1],_,_,hall =>
  obtain⟨n0,e0,w0⟩:=hall 0 (by simp) (by simp);obtain⟨l,e2,w2,w3⟩:=hall 1 (by simp) (by simp);simp only[Tp,TV]at e0 e2;subst e0;subst e2;refine⟨⟨n0,l⟩,by rw[e];rfl,?_⟩;exact⟨lq w0,mv w2,fun c hc=>wf_i8 (w3 c hc)⟩
theorem Cz {α:Type}{t e:TypeId}{f:α->List AVal}{q:α->Prop}(ht:Tryz.prog.underlying t=some (.slice e))(hz:0<Tryz.prog.cellsOf e)(he:ei enc Tryz.prog W spare held e fun _ zs=>∃ x:α,zs=f x/\q x):
  ei enc Tryz.prog W spare held t fun _ zs=>∃ l:List α,zs=[.vec l.length (l.map f).flatten]/\l.length<=maxLen/\∀ x∈l,q x :=
 (wM ht hz he).mono fun d zs h=>by
  rcases h with ⟨_,rfl⟩|⟨ds,rest,rows,_,rfl,hr,_,hl⟩
  ·exact⟨[],rfl,U1 _,fun c h=>by cases h⟩
  ·obtain⟨l,rfl,hq⟩:=wO (f:=f) (q:=q) (fun d zs h=>h) hr;exact⟨l,by rw[SZ],by simpa using hl,hq⟩
theorem NA:ei enc Tryz.prog W spare held 25 fun _ zs=>∃ (g:Int) (ps:List DrP) (ord:List Int),zs=[.lit (.int .u8 g),.vec ps.length (dY ps),.vec ord.length (bn ord)]/\U8 g/\(∀ x∈ps,x.Ok)/\(ps.length:Int)<2 ^ 63/\(ord.length:Int)<2 ^ 63/\∀ x∈ord,U8 x:=by
 have hu:=Tryz.underlying25;have c1:=Tryz.mw;have c2:=Tryz.yx;have c3:=Tryz.CB;have c4:=Tryz.CP;refine(oJ (φ:=fun i _ xs=>if i=2 then ∃ l:List Int,xs=[.vec l.length (ke .u8 l)]/\l.length<=maxLen/\∀ c,c∈l->(Lit.int .u8 c).wf=true else if i=1 then ∃ l:List DrP,xs=[.vec l.length (l.map DrP.cells).flatten]/\l.length<=maxLen/\∀ x∈l,x.Ok else ∃ n,xs=[.lit (.int .u8 n)]/\(Lit.int .u8 n).wf=true) hu
  (fun cs hcs=>by
   have hc:Tryz.prog.cellsOf 25=3:=(by kernel_rfl);rw[hc]at hcs
   match cs,hcs with
   | [a,b,c],_=>simp [c1,c2,c3])
  (fun i hi=>match i,hi with
   | 0,_=>(iC Tryz.underlying5).mono fun _ _ ⟨n,_,h,w⟩=>⟨n,h,w⟩
   | 1,_=>(Cz Tryz.underlying22 (by rw[c4];decide) Ny).mono fun _ _ h=>h
   | 2,_=>(qC Tryz.underlying23 Tryz.underlying5 c1).mono fun _ _ h=>h)).mono fun d zs ⟨ds,rows,_,e,hl1,hl2,hall⟩=>?_
 match rows,ds,hl2,hl1,hall with
 | [x,y,z],[d0,d1,d2],_,_,hall =>
  obtain⟨n0,e0,w0⟩:=hall 0 (by simp) (by simp);obtain⟨ps,e1,w1,w1'⟩:=hall 1 (by simp) (by simp);obtain⟨l,e2,w2,w3⟩:=hall 2 (by simp) (by simp);simp only[Tp,TV]at e0 e1 e2;subst e0;subst e1;subst e2;exact⟨n0,ps,l,by rw[e];rfl,lq w0,w1',mv w1,mv w2,fun c hc=>lq (w3 c hc)⟩
theorem NB:ei enc Tryz.prog W spare held 28 fun _ zs=>∃ d:D20,zs=d.cells/\d.Ok:=by
 have hu:=Tryz.underlying28;have c1:=Tryz.mw;have c2:=Tryz.CA;have c3:=Tryz.CC;have c4:=Tryz.CD;have c5:=Tryz.CO;refine(oJ (φ:=fun i _ xs=>if i=0 then ∃ (g:Int) (ps:List DrP) (ord:List Int),xs=[.lit (.int .u8 g),.vec ps.length (dY ps),.vec ord.length (bn ord)]/\U8 g/\(∀ x∈ps,x.Ok)/\(ps.length:Int)<2 ^ 63/\(ord.length:Int)<2 ^ 63/\∀ x∈ord,U8 x
   else if i=1 then ∃ n,xs=[.lit (.int .u8 n)]/\(Lit.int .u8 n).wf=true else if i=2 then ∃ b,xs=[.lit (.bool b)] else ∃ l:List UtD,xs=[.vec l.length (l.map UtD.cells).flatten]/\l.length<=maxLen/\∀ x∈l,x.Ok) hu
  (fun cs hcs=>by
   have hc:Tryz.prog.cellsOf 28=6:=(by kernel_rfl);rw[hc]at hcs
   match cs,hcs with
   | [a,b,c,d,e,f],_=>simp [c1,c2,c3,c4])
  (fun i hi=>match i,hi with
   | 0,_=>NA.mono fun _ _ h=>h
   | 1,_=>(iC Tryz.underlying5).mono fun _ _ ⟨n,_,h,w⟩=>⟨n,h,w⟩
   | 2,_=>(GI Tryz.underlying4).mono fun _ _ ⟨n,_,h⟩=>⟨n,h⟩
   | 3,_=>(Cz Tryz.underlying26 (by rw[c5];decide) Nz).mono fun _ _ h=>h)).mono fun d zs ⟨ds,rows,_,e,hl1,hl2,hall⟩=>?_
 match rows,ds,hl2,hl1,hall with
 | [x,y,z,u],[d0,d1,d2,d3],_,_,hall =>
  obtain⟨g,ps,ord,e0,w0,w0',w0'',w0''',w04⟩:=hall 0 (by simp) (by simp);obtain⟨n1,e1,w1⟩:=hall 1 (by simp) (by simp);obtain⟨b,e2⟩:=hall 2 (by simp) (by simp);obtain⟨us,e3,w3,w3'⟩:=hall 3 (by simp) (by simp);simp only[Tp,TV]at e0 e1 e2 e3;subst e0;subst e1;subst e2;subst e3;exact⟨⟨g,ps,ord,n1,b,us⟩,by rw[e];rfl,⟨w0,w0',w0'',w0''',w04,lq w1,w3',mv w3⟩⟩
theorem NC {r:Reach}{b:Nat}{v:Value}{d:DataW H}{ps:List MemPlace}(hval:Value.okWide Tryz.prog W r b 28 v)(hd:DataW.Trod enc Tryz.prog W 0 spare held 28 v d ps):
  ∃ x:D20,RelV Tryz.prog fQ bZ W (.agg x.cells) v/\x.Ok:=by
 obtain⟨xs,h1,x,rfl,h2⟩:=AQ NB (.inl ⟨_,Tryz.underlying28⟩) hval hd;exact⟨x,h1,h2⟩
theorem ND {r:Reach}{b:Nat}{v:Value}{d:DataW H}{ps:List MemPlace}(hval:Value.okWide Tryz.prog W r b 23 v)(hd:DataW.Trod enc Tryz.prog W 0 spare held 23 v d ps):
  ∃ l:List Int,RelV Tryz.prog fQ bZ W (.vec l.length (bn l)) v/\(l.length:Int)<2 ^ 63/\∀ x∈l,U8 x:=by
 obtain⟨l,h1,h2,h3⟩:=GN Tryz.underlying23 Tryz.underlying5 Tryz.mw hval hd;exact⟨l,h1,mv h2,fun c hc=>lq (h3 c hc)⟩
end
end Go.Proofs.YtjhbjbninamhnaaGreat
namespace Go.Hx
variable {P:Program}
structure OwnM (lo:Nat)(H:AHeap)(e1 e0:TypeId)(v:AVal)(ids:List Nat)(rows:List (List AVal)):Prop where
 len:ids.length=rows.length
 nd:ids.Nodup
 rng:∀ i∈ids,lo<=i/\i<H.next
 top:aA lo H e1 v (List.zipWith (fun i n=>AVal.own i 0 0 n 1) ids (rows.map List.length))
 row:∀ (k id:Nat) (r:List AVal),ids[k]?=some id->rows[k]?=some r->H.get id=some (.arr 0 e0 r)
theorem OwnM.nil {lo:Nat}{H:AHeap}{e1 e0:TypeId}:OwnM lo H e1 e0 (.lit (.slice none 0 0)) [] [] :=
 ⟨rfl,.nil,fun i h=>(by cases h),.nil,fun k id r h=>(by simp at h)⟩
theorem OwnM.keep {lo:Nat}{H H':AHeap}{e1 e0:TypeId}{v:AVal}{ids:List Nat}{rows:List (List AVal)}(h:OwnM lo H e1 e0 v ids rows)(hn:H.next<=H'.next)(hk:∀ id,lo<=id->id<H.next->H'.get id=H.get id):OwnM lo H' e1 e0 v ids rows :=
 ⟨h.len,h.nd,fun i hi=>⟨(h.rng i hi).1,by have:=(h.rng i hi).2;omega⟩,h.top.keep (Nat.le_refl _) hn fun id _ h1 h2 _ _=>hk id h1 h2,fun k id r h1 h2=>by
  have:=h.rng id (SK h1);rw[hk id this.1 this.2];exact h.row k id r h1 h2⟩
theorem OwnM.app {lo n:Nat}{H:AHeap}{e1 e0:TypeId}{v:AVal}{ids:List Nat}{rows:List (List AVal)}{r:List AVal}{t:TypeId}{z:List AVal}(ht:P.underlying t=some (.slice e1))(hz:P.cellsOf e1=1)(hzero:bE P e1=some z)(hby:P.bytesOf e1=24)(hne:e1≠e0)
  (hb:rows.length<2 ^ 40) (h:OwnM lo H e1 e0 v ids rows) (hlo:lo<=H.next) (hn:n=H.next+2):
  ∃ v' H',bf P (ext (ext H [.arr 0 e0 r]) [.arr 0 e1 [.own H.next 0 0 r.length 1]]) n t t v (.own (H.next+1) 0 0 1 1)=some (v',H')/\OwnM lo H' e1 e0 v' (ids++[H.next]) (rows++[r])/\H.next<=H'.next/\(∀ k,k<H.next->k<lo->H'.get k=H.get k):=by
 obtain⟨Hb,hHb⟩:∃ Hb,Hb=ext H [.arr 0 e0 r]:=⟨_,rfl⟩
 have nb:Hb.next=H.next+1:=by rw[hHb];rfl
 have ob:Over H Hb:=by rw[hHb];exact .ext _ _
 have gb:Hb.get H.next=some (.arr 0 e0 r):=by rw[hHb];exact bT
 have htop:=h.top.over ob;obtain⟨v',H',hA,hO,hL,hp⟩:=gL (P:=P) (H:=Hb) (t:=t) (x:=.own H.next 0 0 r.length 1) (n:=n) ht hz hzero rfl (by rw[hby];simp [h.len];omega) htop (by omega) (by omega);rw[nb,hHb]at hA;have old:∀ id g,lo<=id->id<Hb.next->Hb.get id=some (.arr g e0 r)->H'.get id=Hb.get id:=fun id g h1 h2 h3=>hp id h2 fun g' m he=>by
  rcases htop with ⟨hv,_⟩|⟨i,g2,_,_,hv,h4⟩
  ·rw[hv]at he;cases he
  ·rw[hv]at he;obtain rfl:i=id:=(AVal.own.inj he).1;rw[h4]at h3;cases h3;exact hne rfl
 have oldr:∀ id g q,lo<=id->id<Hb.next->Hb.get id=some (.arr g e0 q)->H'.get id=Hb.get id:=fun id g q h1 h2 h3=>hp id h2 fun g' m he=>by
  rcases htop with ⟨hv,_⟩|⟨i,g2,_,_,hv,h4⟩
  ·rw[hv]at he;cases he
  ·rw[hv]at he;obtain rfl:i=id:=(AVal.own.inj he).1;rw[h4]at h3;cases h3;exact hne rfl
 refine⟨v',H',hA,⟨by simp [h.len],List.nodup_append.2 ⟨h.nd,by simp,fun a ha b hb=>by
  obtain rfl:=List.mem_singleton.1 hb;have:=(h.rng a ha).2;omega⟩,fun i hi=>?_,?_,fun k id q h1 h2=>?_⟩,by omega,fun k hk hkl=>?_⟩
 ·rcases Ta.1 hi with h1|h1
  ·have:=h.rng i h1;omega
  ·obtain rfl:=List.mem_singleton.1 h1;omega
 ·rw[TI,List.zipWith_append (by rw[SZ];exact h.len)];exact hO
 ·have hk:=Tx.1 h1;obtain⟨hk,_⟩:=hk;rw[List.length_append,UL]at hk;rcases Te k ids.length with hlt|hge
  ·rw[SW hlt]at h1;rw[SW (by rw[<- h.len];exact hlt)]at h2;have hr:=h.rng id (SK h1);have hg:=h.row k id q h1 h2;rw[oldr id 0 q hr.1 (by omega) ((ob.old id hr.2).trans hg),ob.old id hr.2];exact hg
  ·obtain rfl:k=ids.length:=(by omega);rw[S5 (Nat.le_refl _),Uo]at h1;rw[h.len,S5 (Nat.le_refl _),Uo]at h2;cases h1;cases h2;rw[oldr H.next 0 r hlo (by omega) gb];exact gb
 ·rw[hp k (by omega) fun g m he=>?_,ob.old k hk];rcases htop with ⟨hv,_⟩|⟨i,g2,a1,_,hv,h4⟩
  ·rw[hv]at he;cases he
  ·rw[hv]at he;have:=(AVal.own.inj he).1;omega
theorem OwnM.zG {lo:Nat}{H:AHeap}{e1 e0:TypeId}{v:AVal}{ids:List Nat}{rows:List (List AVal)}(h:OwnM lo H e1 e0 v ids rows)(h0:rows≠[]):∃ id g,lo<=id/\id<H.next/\v=.own id g 0 rows.length 1/\H.get id=some (.arr g e1 (List.zipWith (fun i n=>AVal.own i 0 0 n 1) ids (rows.map List.length)))/\(e1≠e0->id ∉ ids):=by
 have hzl:(List.zipWith (fun i n=>AVal.own i 0 0 n 1) ids (rows.map List.length)).length=rows.length:=by simp [h.len]
 rcases h.top with ⟨hv,h4⟩|⟨i,g,a,b,hv,h4⟩
 ·rw[h4]at hzl;exact absurd (SY hzl.symm) h0
 ·refine⟨i,g,a,b,by rw[hv,hzl],h4,fun hne hm=>?_⟩;obtain⟨k,hk⟩:=S8.1 hm;have hkl:k<rows.length:=by rw[<- h.len];exact(Tx.1 hk).1
  have:=h.row k i _ hk (SN hkl);rw[h4]at this;exact hne (Blk.arr.inj (Option.some.inj this)).2.1
theorem OwnM.store {lo:Nat}{H:AHeap}{e1 e0:TypeId}{v:AVal}{ids:List Nat}{rows:List (List AVal)}(h:OwnM lo H e1 e0 v ids rows)(hne:e1≠e0){k id:Nat}{r r':List AVal}(hk:ids[k]?=some id)(hr:rows[k]?=some r)(hl:r'.length=r.length):OwnM lo (H.upd id (.arr 0 e0 r')) e1 e0 v ids (rows.set k r'):=by
 have hid:=h.rng id (SK hk);have h0:rows≠[]:=fun e=>by rw[e]at hr;simp at hr
 refine⟨by rw[SU];exact h.len,h.nd,fun i hi=>by rw[aw];exact h.rng i hi,?_,fun j id' q h1 h2=>?_⟩
 ·have e:(rows.set k r').map List.length=rows.map List.length:=by
   rw[UU,hl];apply Tk;intro i;rw[TL];split
   ·rename_i hi;subst hi;have hkl:=(Tx.1 hr).1;rw[SQ (by rw[SZ];exact hkl),List.getElem?_map,hr];rfl
   ·rfl
  rw[e];obtain⟨i,g,a,b,_,h4,h5⟩:=h.zG h0;refine h.top.keep (Nat.le_refl _) (by rw[aw];exact Nat.le_refl _) fun i2 g2 _ _ h3 _=>?_;rw[ab,SO];rintro rfl;rw[h.row k i2 r hk hr]at h3;cases h3;exact hne rfl
 ·rw[ab];by_cases hj:j=k
  ·subst hj;rw[hk]at h1;cases h1;rw[S1 (Tx.1 hr).1]at h2;cases h2;rw[SQ rfl]
  ·rw[Tb (fun e=>hj e.symm)]at h2;rw[SO,h.row j id' q h1 h2];rintro rfl;exact hj ((Uh (Tx.1 h1).1 h.nd).1 (by rw[h1,hk]))
theorem OwnM.fz {S:Nat->Prop}{lo nx:Nat}{H:AHeap}{e1 e0:TypeId}{v:AVal}{ids:List Nat}{rows:List (List AVal)}(h:OwnM lo H e1 e0 v ids rows)(hS:∀ i,lo<=i->S i)(hr:∀ r∈rows,∀ c∈r,Fz S H nx c c):
  Fz S H nx v (.vec rows.length (rows.map fun r=>.vec r.length r)):=by
 have hz:(List.zipWith (fun i n=>AVal.own i 0 0 n 1) ids (rows.map List.length)).length=rows.length:=by simp [h.len]
 have:=h.top.fz (S:=S) (nx:=nx) (cs':=rows.map fun r=>.vec r.length r) hS (by simp [h.len]) fun i hi hi'=>by
  simp only[S4,V1];have hil:i<rows.length:=by omega
  have hii:i<ids.length:=by rw[h.len];exact hil
  refine .frz (hS _ (h.rng _ (Tt hii)).1) (h.row i _ _ (SN hii) (SN hil)) (by simp) fun j hj h2 h'=>?_;have e0:(0:Nat)+j=j:=Nat.zero_add j;have h3:=hr rows[i] (Tt hil) _ (Tt h');simpa only[e0] using h3
 rw[SZ]at this;exact this
end Go.Hx
namespace Go.Hx
variable {P:Program} {G:Nat->Option (List AVal)}
def AHeap.gf (H:AHeap)(n ob:Nat)(b:Blk):AHeap:=⟨fun id=>if id=ob then some b else if n<=id then none else H.get id,H.next⟩
theorem ym {H:AHeap}{n ob:Nat}{b:Blk}:(H.gf n ob b).get ob=some b:=by simp [AHeap.gf]
theorem yp {H:AHeap}{n ob id:Nat}{b:Blk}(h:id<n)(h2:id≠ob):(H.gf n ob b).get id=H.get id:=by simp [AHeap.gf,Nat.not_le.2 h,h2]
theorem M1 {H:AHeap}(hc:Clo H){n ob g:Nat}{e:TypeId}{cells cells':List AVal}(hob:H.get ob=some (.arr g e cells))(hl:cells'.length=cells.length)
  (hcell:∀ i (h:i<cells.length) (h':i<cells'.length),Fz (fun id=>n<=id/\id≠ob) H H.next cells[i] cells'[i]):FzH (fun id=>n<=id/\id≠ob) H (H.gf n ob (.arr g e cells')) where
 gone id hs:=by simp [AHeap.gf,hs.1,hs.2]
 kept id b hs hb:=by
  have hbb:=hc.below id b hb;refine⟨hc.lt id b hb,?_⟩;by_cases h:id=ob
  ·subst h;rw[hob]at hb;cases hb;exact⟨.arr g e cells',ym,rfl,rfl,hl,hcell⟩
  ·have hn:¬ n<=id:=fun hn=>hs ⟨hn,h⟩;refine⟨b,by simp [AHeap.gf,h,hn,hb],?_⟩;cases b with
   | rsv=>trivial
   | mp=>rfl
   | arr g e cells=>exact⟨rfl,rfl,rfl,fun i h _=>.dead (hbb i h)⟩
   | loop st pend n env ps asg body=>exact⟨rfl,rfl,rfl,rfl,rfl,rfl,rfl,fun t ht=>.dead (hbb t ht)⟩
 none id hs hb:=by
  by_cases h:id=ob
  ·subst h;rw[hob]at hb;cases hb
  ·have hn:¬ n<=id:=fun hn=>hs ⟨hn,h⟩;simp [AHeap.gf,h,hn,hb]
theorem cV.gf (hG:eL G){s:St}{n ob g:Nat}{e:TypeId}{cells cells':List AVal}(hob:s.H.get ob=some (.arr g e cells))(hl:cells'.length=cells.length)
  (hcell:(∀ c∈cells,Below s.H.next c)->∀ i (h:i<cells.length) (h':i<cells'.length),Fz (fun id=>n<=id/\id≠ob) s.H s.H.next cells[i] cells'[i]):cV P G s ⟨s.ρ,s.H.gf n ob (.arr g e cells')⟩:=by
 intro n' wb Γ a w hs;exact cV.freeze (s:=s) (s':=⟨s.ρ,s.H.gf n ob (.arr g e cells')⟩) hG (M1 hs.heap.clo hob hl (hcell fun c hc=>by
  obtain⟨i,hi,rfl⟩:=List.mem_iff_getElem.1 hc;exact hs.heap.clo.below ob _ hob i hi)) (fun t=>.dead (hs.env t).qH) n' wb Γ a w hs
theorem M3 {H:AHeap}{t e:TypeId}{n:Nat}{src:List AVal}{z:List AVal}(ht:P.underlying t=some (.slice e))(hz:P.cellsOf e=1)(hzero:bE P e=some z)(h0:0<src.length)
  (hb:src.length*P.bytesOf e<=2 ^ 46/\src.length<=2 ^ 46) (hn:n=H.next):bf P H n t t (.lit (.slice none 0 0)) (.vec src.length src)=some (.own n 0 0 src.length 1,ext H [.arr 0 e src]):=by
 have hsrc:cw H 1 (.vec src.length src)=some (src.length,src):=by
  unfold cw;simp
 unfold bf;rw[ht];simp only[hzero,hz,Option.bind_some];rw[hsrc];simp only[Option.bind_some];rw[SO (by omega),SQ hb,qQ hn];rfl
theorem OwnM.Co {lo n:Nat}{H:AHeap}{e1 e0:TypeId}{v:AVal}{ids:List Nat}{rows:List (List AVal)}{r:List AVal}{t:TypeId}{z:List AVal}(h:OwnM lo H e1 e0 v ids rows)(ht:P.underlying t=some (.slice e1))(hz:P.cellsOf e1=1)(hzero:bE P e1=some z)(hby:P.bytesOf e1=24)(hne:e1≠e0)
  (hb:rows.length<2 ^ 40) (hlo:lo<=H.next) (hn:n=H.next+2):
  ∃ v' H',bf P (ext (ext H [.arr 0 e0 r]) [.arr 0 e1 [.own H.next 0 0 r.length 1]]) n t t v (.own (H.next+1) 0 0 1 1)=some (v',H')/\OwnM lo H' e1 e0 v' (ids++[H.next]) (rows++[r])/\H.next<=H'.next/\(∀ k,k<H.next->(∀ g n,v≠.own k g 0 n 1)->H'.get k=H.get k):=by
 obtain⟨v',H',hA,hO,hn',_⟩:=h.app (P:=P) (r:=r) ht hz hzero hby hne hb hlo hn;have nb:(ext H [.arr 0 e0 r]).next=H.next+1:=rfl;obtain⟨v2,H2,hA2,_,_,hp⟩:=gL (P:=P) (H:=ext H [.arr 0 e0 r]) (t:=t) (x:=.own H.next 0 0 r.length 1) (n:=n) ht hz hzero rfl (by rw[hby];simp [h.len];omega) (h.top.over (.ext _ _)) (by rw[nb];omega) (by rw[nb];omega);rw[nb]at hA2;have e:(v2,H2)=(v',H'):=Option.some.inj (hA2.symm.trans hA);cases e;exact⟨_,_,hA,hO,hn',fun k hk hne=>(hp k (by rw[nb];omega) hne).trans (dH _ _ _ hk)⟩
theorem OwnM.ne {lo:Nat}{H:AHeap}{e1 e0:TypeId}{v:AVal}{ids:List Nat}{rows:List (List AVal)}(h:OwnM lo H e1 e0 v ids rows){k g':Nat}{e:TypeId}{c:List AVal}(hk:H.get k=some (.arr g' e c))(he:e≠e1):∀ g n,v≠.own k g 0 n 1:=fun g n hv=>by
 rcases h.top with ⟨h1,_⟩|⟨i,g2,_,_,h1,h2⟩
 ·rw[h1]at hv;cases hv
 ·rw[h1]at hv;obtain rfl:=(AVal.own.inj hv).1;rw[hk]at h2;cases h2;exact he rfl
theorem W.gh {n:Nat}{rd:Option Nat}{Q:AX->St->Prop}{s:St}{x y:Code}(Φ:St->Prop)(h:W P G n rd x (fun ax s'=>ax=.normal/\Φ s') s)(h2:∀ s',Φ s'->W P G n rd y Q s'):W P G n rd (.seq x y) Q s :=
 W.seq (h.mono fun ax s' ⟨e,hp⟩=>by subst e;exact h2 s' hp)
theorem cV.same {s:St}:cV P G s s:=by
 intro n wb Γ a w hs;exact⟨Γ,hs,.refl _ _ _,fun _ _ h _=>h⟩
end Go.Hx
namespace Go.Proofs
open Go.Hx
structure NodO (lo:Nat)(H:AHeap)(pv rv:AVal)(ids:List Nat)(x:NodeP):Prop where
 par:aA lo H 3 pv (ints x.parents)
 rows:OwnM lo H 46 3 rv ids (x.rows.map ints)
 dj:∀ id g n,pv=.own id g 0 n 1->id ∉ ids
 nil:x.rows=[]->rv=.lit (.slice none 0 0)
theorem NodO.keep {lo:Nat}{H H':AHeap}{pv rv:AVal}{ids:List Nat}{x:NodeP}(h:NodO lo H pv rv ids x)(hn:H.next<=H'.next)(hk:∀ id,lo<=id->id<H.next->H'.get id=H.get id):NodO lo H' pv rv ids x :=
 ⟨h.par.keep (Nat.le_refl _) hn fun id _ h1 h2 _ _=>hk id h1 h2,h.rows.keep hn hk,h.dj,h.nil⟩
theorem NodO.over {lo:Nat}{H H':AHeap}{pv rv:AVal}{ids:List Nat}{x:NodeP}(h:NodO lo H pv rv ids x)(o:Over H H'):NodO lo H' pv rv ids x:=h.keep o.next fun id _ h2=>o.old id h2
theorem NodO.keepE {lo:Nat}{H H':AHeap}{pv rv:AVal}{ids:List Nat}{x:NodeP}(h:NodO lo H pv rv ids x)(hn:H.next<=H'.next)(hk:∀ id g e c,lo<=id->id<H.next->H.get id=some (.arr g e c)->e≠73->H'.get id=H.get id):NodO lo H' pv rv ids x :=
 ⟨h.par.keep (Nat.le_refl _) hn fun id g h1 h2 h3 _=>hk id g _ _ h1 h2 h3 (by decide),⟨h.rows.len,h.rows.nd,fun i hi=>⟨(h.rows.rng i hi).1,by have:=(h.rows.rng i hi).2;omega⟩,h.rows.top.keep (Nat.le_refl _) hn fun id g h1 h2 h3 _=>hk id g _ _ h1 h2 h3 (by decide),fun k id r h1 h2=>by
  have h3:=h.rows.rng id (SK h1);have h4:=h.rows.row k id r h1 h2;rw[hk id _ _ _ h3.1 h3.2 h4 (by decide)];exact h4⟩,h.dj,h.nil⟩
theorem uy {lo:Nat}{H:AHeap}{e1 e0:TypeId}{v:AVal}{ids:List Nat}{rows:List (List AVal)}(h:OwnM lo H e1 e0 v ids rows):v.one=true/\v.cells=[v]:=⟨h.top.one,h.top.cells⟩
theorem uz {S:Nat->Prop}{lo nx:Nat}{H:AHeap}{e:TypeId}{v:AVal}{cs cs':List AVal}(h:aA lo H e v cs)(hS:∀ i g,lo<=i->i<H.next->H.get i=some (.arr g e cs)->S i)(hl:cs'.length=cs.length)
  (hc:∀ i (h:i<cs.length) (h':i<cs'.length),Fz S H nx cs[i] cs'[i]):Fz S H nx v (.vec cs'.length cs'):=by
 rcases h with ⟨rfl,rfl⟩|⟨id,g,h1,h2,rfl,h4⟩
 ·obtain rfl:=SY hl;exact .nil
 ·rw[hl];refine .frz (hS id g h1 h2 h4) h4 (by omega) fun j hj h2 h'=>?_;simp only[Nat.zero_add]at h2 ⊢;exact hc j h2 h'
def rA (S:Nat->Prop)(lo:Nat)(H:AHeap):Prop:=∀ i g e c,lo<=i->i<H.next->H.get i=some (.arr g e c)->e≠73->S i
theorem NodO.rB {S:Nat->Prop}{lo nx:Nat}{H:AHeap}{pv rv:AVal}{ids:List Nat}{x:NodeP}(h:NodO lo H pv rv ids x)(hS:rA S lo H):Fz S H nx pv (af x.parents):=by
 have:=uz (S:=S) (nx:=nx) (cs':=ints x.parents) h.par (fun i g h1 h2 h3=>hS i g _ _ h1 h2 h3 (by decide)) rfl fun i hi _=>by simp only[ints,S4];exact .lit _
 rw[aP]at this;exact this
theorem NodO.M4 {S:Nat->Prop}{lo nx:Nat}{H:AHeap}{pv rv:AVal}{ids:List Nat}{x:NodeP}(h:NodO lo H pv rv ids x)(hS:rA S lo H):Fz S H nx rv (ah x.rows):=by
 have hl:=h.rows.len;rw[SZ]at hl;have:=uz (S:=S) (nx:=nx) (cs':=x.rows.map af) h.rows.top (fun i g h1 h2 h3=>hS i g _ _ h1 h2 h3 (by decide)) (by simp [hl]) fun i hi hi'=>by
  have hil:i<x.rows.length:=by simpa using hi'
  have hii:i<ids.length:=by omega
  simp only[S4,V1,aP];have hid:=h.rows.rng _ (Tt hii);have hrow:=h.rows.row i _ _ (SN hii) (show (x.rows.map ints)[i]?=some (ints x.rows[i]) by rw[List.getElem?_map,SN hil];rfl);refine .frz (hS _ _ _ _ hid.1 hid.2 hrow (by decide)) hrow (by simp [aP]) fun j hj h2 h'=>?_;simp only[ints,S4];have e0:0+j=j:=Nat.zero_add j;simp only[e0];exact .lit _
 rw[SZ]at this;exact this
theorem NodO.nH {S:Nat->Prop}{lo nx:Nat}{H:AHeap}{pv rv:AVal}{ids:List Nat}{x:NodeP}(h:NodO lo H pv rv ids x)(hS:rA S lo H):Fz S H nx rv (ba x):=by
 unfold ba;split
 ·rename_i e;rw[h.nil e];exact .lit _
 ·exact h.M4 hS
theorem NodO.low {lo lo':Nat}{H:AHeap}{pv rv:AVal}{ids:List Nat}{x:NodeP}(h:NodO lo H pv rv ids x)(hl:lo'<=lo):NodO lo' H pv rv ids x :=
 ⟨h.par.keep hl (Nat.le_refl _) fun _ _ _ _ _ _=>rfl,⟨h.rows.len,h.rows.nd,fun i hi=>⟨by have:=(h.rows.rng i hi).1;omega,(h.rows.rng i hi).2⟩,h.rows.top.keep hl (Nat.le_refl _) fun _ _ _ _ _ _=>rfl,h.rows.row⟩,h.dj,h.nil⟩
end Go.Proofs
namespace Go.Hx
theorem OwnM.elem {lo:Nat}{H:AHeap}{e1 e0:TypeId}{v:AVal}{ids:List Nat}{rows:List (List AVal)}(h:OwnM lo H e1 e0 v ids rows){i:Nat}(hi:i∈ids):∃ r,H.get i=some (.arr 0 e0 r):=by
 obtain⟨k,hk⟩:=S8.1 hi;have hl:=(Tx.1 hk).1;rw[h.len]at hl;exact⟨_,h.row k i _ hk (SN hl)⟩
theorem OwnM.yt {lo:Nat}{H H':AHeap}{e1 e0:TypeId}{v:AVal}{ids:List Nat}{rows:List (List AVal)}(h:OwnM lo H e1 e0 v ids rows)(hn:H.next<=H'.next)
  (hk:∀ i g e c,lo<=i->i<H.next->H.get i=some (.arr g e c)->(e=e1\/i∈ids)->H'.get i=H.get i):OwnM lo H' e1 e0 v ids rows :=
 ⟨h.len,h.nd,fun i hi=>⟨(h.rng i hi).1,by have:=(h.rng i hi).2;omega⟩,h.top.keep (Nat.le_refl _) hn fun i g h1 h2 h3 _=>hk i g _ _ h1 h2 h3 (.inl rfl),fun k i r h1 h2=>by
  have h3:=h.rng i (SK h1);have h4:=h.row k i r h1 h2;rw[hk i _ _ _ h3.1 h3.2 h4 (.inr (SK h1))];exact h4⟩
end Go.Hx
namespace Go.Proofs
open Go.Hx
structure SmallN (m:Nat)(ns:List NodeP):Prop where
 len:ns.length<=m
 node:∀ x∈ns,x.parents.length<=m/\x.rows.length<=m/\∀ r∈x.rows,r≠[]/\r.length<=m
theorem SmallN.mono {m m':Nat}{ns:List NodeP}(h:SmallN m ns)(hm:m<=m'):SmallN m' ns :=
 ⟨TA h.len hm,fun x hx=>by
  obtain⟨a,b,c⟩:=h.node x hx;exact⟨by omega,by omega,fun r hr=>⟨(c r hr).1,by have:=(c r hr).2;omega⟩⟩⟩
theorem SmallN.set {m:Nat}{ns:List NodeP}{A:Nat}{y:NodeP}(h:SmallN m ns)(hy:y.parents.length<=m/\y.rows.length<=m/\∀ r∈y.rows,r≠[]/\r.length<=m):SmallN m (ns.set A y) :=
 ⟨by rw[SU];exact h.len,fun x hx=>by
  rcases Tq hx with h1|rfl
  ·exact h.node x h1
  ·exact hy⟩
def bz (ns:List NodeP)(A:Nat)(c pv rv:AVal):List AVal:=(((aT ns).set (A*3) c).set (A*3+1) pv).set (A*3+2) rv
theorem jb (ns:List NodeP)(A:Nat)(c pv rv:AVal):(bz ns A c pv rv).length=ns.length*3:=by unfold bz;simp [gq]
theorem yu {ns:List NodeP}{A:Nat}(h:A<ns.length)(c pv rv:AVal):(bz ns A c pv rv)[A*3]?=some c:=by
 unfold bz;rw[Tb (by omega),Tb (by omega),S1 (by rw[gq];omega)]
theorem Cq {ns:List NodeP}{A:Nat}(h:A<ns.length)(c pv rv:AVal):(bz ns A c pv rv)[A*3+1]?=some pv:=by
 unfold bz;rw[Tb (by omega),S1 (by rw[SU,gq];omega)]
theorem Cr {ns:List NodeP}{A:Nat}(h:A<ns.length)(c pv rv:AVal):(bz ns A c pv rv)[A*3+2]?=some rv:=by
 unfold bz;rw[S1 (by rw[SU,SU,gq];omega)]
theorem yv {ns:List NodeP}{A i:Nat}(h0:i≠A*3)(h1:i≠A*3+1)(h2:i≠A*3+2)(c pv rv:AVal):(bz ns A c pv rv)[i]?=(aT ns)[i]?:=by
 unfold bz;rw[Tb (by omega),Tb (by omega),Tb (by omega)]
theorem M9 {ns:List NodeP}{A:Nat}(c c' pv rv:AVal):(bz ns A c pv rv).set (A*3) c'=bz ns A c' pv rv:=by
 unfold bz;rw[Vu _ _ (by omega),Vu (i:=A*3+1) _ _ (by omega),UJ]
theorem Cs {ns:List NodeP}{A:Nat}(c pv pv' rv:AVal):(bz ns A c pv rv).set (A*3+1) pv'=bz ns A c pv' rv:=by
 unfold bz;rw[Vu _ _ (by omega),UJ]
theorem Ct {ns:List NodeP}{A:Nat}(c pv rv rv':AVal):(bz ns A c pv rv).set (A*3+2) rv'=bz ns A c pv rv':=by
 unfold bz;rw[UJ]
theorem Na {ns:List NodeP}{A:Nat}(h:A<ns.length)(c pv rv:AVal):¬ bz ns A c pv rv=[]:=fun e=>by
 have:=yu h c pv rv;rw[e]at this;simp at this
theorem Nb {ns:List NodeP}{A:Nat}{x:NodeP}(h:ns[A]?=some x)(pv rv:AVal):((aT ns).set (A*3+1) pv).set (A*3+2) rv=bz ns A (aa x.card) pv rv:=by
 unfold bz;rw[jX (lD h)]
theorem uA {e:Nat->Prop}{ns:List NodeP}{A:Nat}{x':NodeP}{rv:AVal}(hA:A<ns.length)(hr:rv=ah x'.rows\/rv=ba x')(he:e A->rv=ba x'):NodesQ e (ns.set A x') (bz ns A (aa x'.card) (af x'.parents) rv):=by
 refine⟨by rw[jb,SU],fun v x hx=>?_⟩;by_cases h:v=A
 ·subst h;rw[S1 hA]at hx;cases hx;exact⟨rv,yu hA _ _ _,Cq hA _ _ _,Cr hA _ _ _,hr,he⟩
 ·rw[Tb (by omega)]at hx;refine⟨ba x,?_,?_,?_,.inr rfl,fun _=>rfl⟩
  ·rw[yv (by omega) (by omega) (by omega)];exact lD hx
  ·rw[yv (by omega) (by omega) (by omega)];exact mD hx
  ·rw[yv (by omega) (by omega) (by omega)];exact pH hx
theorem uB {S:Nat->Prop}{lo nx z n:Nat}{H:AHeap}{e:TypeId}{v:AVal}{cs cs':List AVal}(h:bY lo H e z v n cs)(hS:∀ i,lo<=i->S i)(hl:cs'.length=cs.length)
  (hc:∀ i (h:i<cs.length) (h':i<cs'.length),Fz S H nx cs[i] cs'[i]):Fz S H nx v (.vec n cs'):=by
 rcases h with ⟨rfl,rfl,rfl⟩|⟨id,g,h1,_,rfl,h3,h4⟩
 ·obtain rfl:=SY hl;exact .nil
 ·refine .frz (hS id h1) h4 (by omega) fun j hj h2 h'=>?_;simp only[Nat.zero_add]at h2 ⊢;exact hc j h2 h'
theorem yw {S:Nat->Prop}{H:AHeap}{nx A:Nat}{ns:List NodeP}{c:Int}{pv rv pv' rv':AVal}(hp:Fz S H nx pv pv')(hr:Fz S H nx rv rv'):∀ i (h:i<(bz ns A (aa c) pv rv).length) (h':i<(bz ns A (aa c) pv' rv').length),Fz S H nx (bz ns A (aa c) pv rv)[i] (bz ns A (aa c) pv' rv')[i]:=by
 unfold bz;intro i h h';simp only[UD];by_cases h2:A*3+2=i
 ·rw[SQ h2,SQ h2];exact hr
 ·rw[SO h2,SO h2];by_cases h1:A*3+1=i
  ·rw[SQ h1,SQ h1];exact hp
  ·rw[SO h1,SO h1];by_cases h0:A*3=i
   ·rw[SQ h0];exact .lit _
   ·rw[SO h0];exact uO ns _ (Tt _)
theorem Nc {S:Nat->Prop}{lo nx:Nat}{H H':AHeap}{v:AVal}{ids:List Nat}{rows:List (List Int)}{R idt gt:Nat}{w:AVal}{r':List Int}{cells:List AVal}(h:OwnM lo H 46 3 v ids (rows.map ints))(hS:∀ i,lo<=i->S i)(hR:R<rows.length)(ht:lo<=idt)
  (hcell:cells.length=rows.length) (hsame:∀ (j id:Nat) (r:List Int),j≠R->ids[j]?=some id->rows[j]?=some r->cells[j]?=some (.own id 0 0 r.length 1)/\H'.get id=H.get id) (hw:cells[R]?=some w) (hg:H'.get idt=some (.arr gt 46 cells)) (hfw:Fz S H' nx w (af r')):
  Fz S H' nx (.own idt gt 0 rows.length 1) (ah (rows.set R r')):=by
 have hl:=h.len;rw[SZ]at hl;have:Fz S H' nx (.own idt gt 0 rows.length 1) (.vec rows.length ((rows.set R r').map af)):=by
  refine .frz (hS idt ht) hg (by simp) fun j hj h2 h'=>?_;simp only[Nat.zero_add]at h2 ⊢;have hjr:j<rows.length:=by omega
  have e1:=SN h2;generalize cells[j]=u at e1 ⊢;rw[S4,UD];split
  ·rename_i e;subst e;rw[hw]at e1;cases e1;exact hfw
  ·rename_i e;have hij:j<ids.length:=(by omega);obtain⟨c1,c2⟩:=hsame j _ _ (fun h=>e h.symm) (SN hij) (SN hjr);rw[c1]at e1;cases e1;have hid:=h.rng _ (Tt hij);have hrow:=h.row j _ _ (SN hij) (show (rows.map ints)[j]?=some (ints rows[j]) by rw[List.getElem?_map,SN hjr];rfl);rw[<- c2]at hrow;refine .frz (hS _ hid.1) hrow (by simp [aP]) fun i hi h3 h4=>?_;have e0:0+i=i:=Nat.zero_add i;simp only[e0,ints,S4];exact .lit _
 have e:ah (rows.set R r')=.vec rows.length ((rows.set R r').map af):=by unfold ah;rw[SU]
 rw[e];exact this
structure RowAt (lo:Nat)(H:AHeap)(rv:AVal)(ids:List Nat)(rows:List (List Int))(R:Nat)(q:List Int)(idt gt:Nat)(cells:List AVal)(idr:Nat):Prop where
 rv:rv=.own idt gt 0 rows.length 1
 top:H.get idt=some (.arr gt 46 cells)
 tlo:lo<=idt/\idt<H.next
 len:cells.length=rows.length
 at':cells[R]?=some (.own idr 0 0 q.length 1)
 row:H.get idr=some (.arr 0 3 (ints q))
 rlo:lo<=idr/\idr<H.next
 ne:idt≠idr
 id:ids[R]?=some idr
 q:rows[R]?=some q
 cell:∀ (j i:Nat) (r:List Int),ids[j]?=some i->rows[j]?=some r->cells[j]?=some (.own i 0 0 r.length 1)
 nm:idt ∉ ids
theorem OwnM.rowAt {lo:Nat}{H:AHeap}{rv:AVal}{ids:List Nat}{rows:List (List Int)}(h:OwnM lo H 46 3 rv ids (rows.map ints)){R:Nat}{q:List Int}(hq:rows[R]?=some q):∃ idt gt cells idr,RowAt lo H rv ids rows R q idt gt cells idr:=by
 have hR:=get_lt hq;have hl:=h.len;rw[SZ]at hl;have h0:rows.map ints≠[]:=by intro e;have:=congrArg List.length e;simp at this;rw[this]at hR;simp at hR
 obtain⟨idt,gt,a,b,c,d,f⟩:=h.zG h0;obtain⟨idr,hidr⟩:=get_of_lt (show R<ids.length by omega);have hrow:=h.row R idr (ints q) hidr (by rw[List.getElem?_map,hq];rfl);have hcell:∀ (j i:Nat) (r:List Int),ids[j]?=some i->rows[j]?=some r->(List.zipWith (fun i n=>AVal.own i 0 0 n 1) ids ((rows.map ints).map List.length))[j]?=some (.own i 0 0 r.length 1):=fun j i r h1 h2=>by
  rw[Vk,h1,List.getElem?_map,List.getElem?_map,h2];simp [aP]
 refine⟨idt,gt,_,idr,by rw[c,SZ],d,⟨a,b⟩,by simp [hl],hcell R idr q hidr hq,hrow,h.rng _ (SK hidr),?_,hidr,hq,hcell,f (by decide)⟩;rintro rfl;exact f (by decide) (SK hidr)
theorem RowAt.Nd {S:Nat->Prop}{lo nx:Nat}{H H':AHeap}{rv:AVal}{ids:List Nat}{rows:List (List Int)}{R:Nat}{q:List Int}{idt gt:Nat}{cells:List AVal}{idr:Nat}(h:RowAt lo H rv ids rows R q idt gt cells idr)(hM:OwnM lo H' 46 3 rv ids (rows.map ints))(hS:∀ i,lo<=i->S i)(ht:H'.get idt=some (.arr gt 46 cells)):
  Fz S H' nx (.own idt gt 0 R 1) (ah (rows.take R)):=by
 have hR:=get_lt h.q;have hl:=hM.len;rw[SZ]at hl;have:Fz S H' nx (.own idt gt 0 R 1) (.vec R ((rows.take R).map af)):=by
  refine .frz (hS idt h.tlo.1) ht (by simp;omega) fun j hj h2 h'=>?_;simp only[Nat.zero_add]at h2 ⊢;have hjr:j<rows.length:=by omega
  have hij:j<ids.length:=by omega
  have e1:=SN h2;generalize cells[j]=u at e1 ⊢;rw[h.cell j _ _ (SN hij) (SN hjr)]at e1;cases e1;rw[S4,Ux];have hid:=hM.rng _ (Tt hij);have hrow:=hM.row j _ _ (SN hij) (show (rows.map ints)[j]?=some (ints rows[j]) by rw[List.getElem?_map,SN hjr];rfl);refine .frz (hS _ hid.1) hrow (by simp [aP]) fun i hi h3 h4=>?_;have e0:0+i=i:=Nat.zero_add i;simp only[e0,ints,S4];exact .lit _
 have e:ah (rows.take R)=.vec R ((rows.take R).map af):=by unfold ah;rw[SX,Uw (by omega)]
 rw[e];exact this
theorem RowAt.Nf {S:Nat->Prop}{lo nx:Nat}{H H':AHeap}{rv:AVal}{ids:List Nat}{rows:List (List Int)}{R:Nat}{q:List Int}{idt gt:Nat}{cells:List AVal}{idr:Nat}(h:RowAt lo H rv ids rows R q idt gt cells idr)(hM:OwnM lo H 46 3 rv ids (rows.map ints))(hS:∀ i,lo<=i->S i){w:AVal}{q':List Int}
  (ht:H'.get idt=some (.arr gt 46 (cells.set R w))) (hk:∀ i∈ids,i≠idr->H'.get i=H.get i) (hw:Fz S H' nx w (af q')):Fz S H' nx rv (ah (rows.set R q')):=by
 have hR:=get_lt h.q;rw[h.rv];refine Nc (gt:=gt) hM hS hR h.tlo.1 (by rw[SU];exact h.len) (fun j i r hj h1 h2=>⟨by rw[Tb (fun e=>hj e.symm)];exact h.cell j i r h1 h2,hk i (SK h1) ?_⟩) (by rw[S1 (by rw[h.len];exact hR)]) ht hw;rintro rfl;exact hj ((Uh (get_lt h1) hM.nd).1 (by rw[h1,h.id]))
theorem NodesQ.take {e:Nat->Prop}{ns:List NodeP}{cs:List AVal}(h:NodesQ e ns cs)(k:Nat):NodesQ e (ns.take k) (cs.take (k*3)):=by
 refine⟨by rw[SX,SX,h.len];omega,fun v x hx=>?_⟩;have hv:=get_lt hx;rw[SX]at hv;rw[Ts (by omega)]at hx;obtain⟨rv,a,b,c,d⟩:=h.node v x hx;exact⟨rv,by rw[Ts (by omega)];exact a,by rw[Ts (by omega)];exact b,by rw[Ts (by omega)];exact c,d⟩
theorem SmallN.take {m:Nat}{ns:List NodeP}(h:SmallN m ns)(k:Nat):SmallN m (ns.take k):=⟨by rw[SX];have:=h.len;omega,fun x hx=>h.node x (Tg hx)⟩
def jc:Nat->Int->Int->List Int->List Int
 | 0,_,_,l=>l
 | f+1,i,k,l=>if i<k then jc f (i+1) (k - 1) ((l.set i.toNat (l.getD k.toNat 0)).set k.toNat (l.getD i.toNat 0)) else l
def iI (c n g:Int)(q:List Int):List Int:=if c=6 then q.set 0 n else if c=7 then q++[0] else if c=8 then g :: List.replicate (q.length - 1) 0 else jc (q.length+1) 0 ((q.length:Int) - 1) q
def dw (c r n g:Int)(x:NodeP):NodeP × AVal :=
 if c=1 then ({ x with card:=n },ba x) else if c=2 then ({ x with parents:=x.parents++[n] },ba x) else if c=3 then ({ x with parents:=[] },ba x)
 else if c=4 then ({ x with rows:=x.rows++[[n]] },ba { x with rows:=x.rows++[[n]] })
 else match x.rows[(r % (x.rows.length:Int)).toNat]? with
  | none=>(x,ba x)
  | some q=>if c=5 then ({ x with rows:=x.rows.take (r % (x.rows.length:Int)).toNat },ah (x.rows.take (r % (x.rows.length:Int)).toNat))
   else ({ x with rows:=x.rows.set (r % (x.rows.length:Int)).toNat (iI c n g q) },ah (x.rows.set (r % (x.rows.length:Int)).toNat (iI c n g q)))
def dV (c:Int)(A:Nat)(r n g:Int)(ns:List NodeP):Int × List NodeP × List AVal:=match ns[A]? with
 | none=>(g,[],[])
 | some x=>if c=0 then (n,ns,bz ns A (aa x.card) (af x.parents) (ba x))
  else if c=10 then (g,ns++[⟨1,[],[[g]]⟩],bz ns A (aa x.card) (af x.parents) (ba x)++[aa 1,af [],ba ⟨1,[],[[g]]⟩])
  else if c=11 then (g,ns.take (ns.length - 1),(bz ns A (aa x.card) (af x.parents) (ba x)).take ((ns.length - 1)*3))
  else (g,ns.set A (dw c r n g x).1,bz ns A (aa (dw c r n g x).1.card) (af (dw c r n g x).1.parents) (dw c r n g x).2)
theorem rC {c r n g:Int}{x:NodeP}(hc:4<c)(hx:x.rows=[]):dw c r n g x=(x,ba x):=by
 unfold dw;rw[SO (by omega),SO (by omega),SO (by omega),SO (by omega),hx];rfl
theorem Ng {r n g:Int}{x:NodeP}{R:Nat}{q:List Int}(hq:x.rows[R]?=some q)(hR:R=(r % (x.rows.length:Int)).toNat):dw 5 r n g x=({ x with rows:=x.rows.take R },ah (x.rows.take R)):=by
 subst hR;unfold dw;rw[SO (by omega),SO (by omega),SO (by omega),SO (by omega),hq];rfl
theorem Nh {c r n g:Int}{x:NodeP}{R:Nat}{q:List Int}(hc:5<c)(hq:x.rows[R]?=some q)(hR:R=(r % (x.rows.length:Int)).toNat):dw c r n g x=({ x with rows:=x.rows.set R (iI c n g q) },ah (x.rows.set R (iI c n g q))):=by
 subst hR;unfold dw;rw[SO (by omega),SO (by omega),SO (by omega),SO (by omega),hq];simp only;rw[SO (by omega)]
theorem Ni:∀ (f:Nat) (i k:Int) (l:List Int),(jc f i k l).length=l.length:=by
 intro f
 induction f with
 | zero=>intro i k l;rfl
 | succ f ih=>intro i k l;unfold jc;split<;>simp [ih]
theorem Nj {f:Nat}{i k:Int}{l:List Int}(h:¬ i<k):jc f i k l=l:=by
 cases f with
 | zero=>rfl
 | succ f=>unfold jc;rw[SO h]
theorem Nk {f iN kN:Nat}{l:List Int}{qa qb:Int}(h:(iN:Int)<kN)(ha:l[iN]?=some qa)(hb:l[kN]?=some qb):jc f ((iN:Int)+1) ((kN:Int) - 1) ((l.set iN qb).set kN qa)=jc (f+1) iN kN l:=by
 conv=>rhs;unfold jc
 rw[SQ h];simp [List.getD,ha,hb]
end Go.Proofs
