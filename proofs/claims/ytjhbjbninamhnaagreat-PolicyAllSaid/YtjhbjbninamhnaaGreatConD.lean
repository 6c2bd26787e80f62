/- Own work: contracts. -/
import Derived.Test.YtjhbjbninamhnaaGreatConC
import Derived.Test.YtjhbjbninamhnaaGreatConA
import Derived.Test.YtjhbjbninamhnaaGreatLibB
import Derived.Test.YtjhbjbninamhnaaGreatConB
set_option linter.all false
set_option maxRecDepth 100000
namespace Go.Proofs
open Go.Hx
def eW (w a k:Nat):Nat:=if k<a then w+1 else w
def jr (D:DPr)(be ch:Nat->List Int)(w a b c:Nat):TabS:=⟨fun k=>cM D k (eW w a k),fun k=>dX D k (eW w b k),fun k=>bH D k (eW w c k),be,ch⟩
def iK (D:DPr)(be ch:Nat->List Int)(w:Nat):TabS:=⟨fun k=>cM D k w,fun k=>dX D k w,fun k=>bH D k w,be,ch⟩
theorem sP {w a k:Nat}(h:k<a):eW w a k=w+1:=if_pos h
theorem vk {w a k:Nat}(h:a<=k):eW w a k=w:=if_neg (by omega)
theorem vm {w a k:Nat}(h:k≠a):eW w (a+1) k=eW w a k:=by unfold eW;split<;>split<;>omega
def vo (n:Nat)(T T':TabS):Prop:=∀ k j,k<n->dm T k j=dm T' k j
theorem SolvH.same {d:InfP}{r:List Nat}{lo s:Nat}{lvh:AVal}{I:Nat->Nat->Nat}{T T':TabS}{tot:Int}{H:AHeap}(h:SolvH d r lo s lvh I T tot H)(ht:vo r.length T T')(hl:T'.Len (ar d r) r.length):SolvH d r lo s lvh I T' tot H :=
 ⟨h.top,h.slo,h.lv,h.sep,h.sepl,⟨h.levs.inj,h.levs.rng,h.levs.lev,fun k j h1 h2 h3=>by rw[<- ht k j h1];exact h.levs.tab k j h1 h2 h3,hl⟩⟩
theorem vp {D:DPr}{be ch:Nat->List Int}{n:Nat}(hb:∀ k,k<n->(be k).length=D.cs k)(hc:∀ k,k<n->(ch k).length=D.cs k)(w a b c:Nat):(jr D be ch w a b c).Len D n :=
 ⟨fun k _=>nV D k _,fun k _=>pj D k _,fun k _=>lM D k _,hb,hc⟩
theorem Du {D:DPr}{be ch:Nat->List Int}{n:Nat}(hb:∀ k,k<n->(be k).length=D.cs k)(hc:∀ k,k<n->(ch k).length=D.cs k)(w:Nat):(iK D be ch w).Len D n :=
 ⟨fun k _=>nV D k _,fun k _=>pj D k _,fun k _=>lM D k _,hb,hc⟩
theorem Qk {D:DPr}{be ch:Nat->List Int}(w n:Nat):vo n (jr D be ch w n n n) (iK D be ch (w+1)):=fun k j hk=>by
 have e:eW w n k=w+1:=sP hk;unfold dm jr iK;simp only[e]
def eH (d:InfP)(r:List Nat)(w:Nat):Int:=if r.length=0 then SS w (ar d r).gain else 0
set_option maxHeartbeats 4000000 in
theorem Ql {d:InfP}(hok:InfOk d){r:List Nat}(hr:OrdR d r)(hrl:r.length<=64){lo s:Nat}{lvh:AVal}{I:Nat->Nat->Nat}{be ch:Nat->List Int}{w:Nat}(hw:w<bL d.nodes)
  (hsz:∀ k,k<r.length->(ar d r).cs k*(ar d r).cd k<2 ^ 40) (hcs:∀ k,k<r.length->(ar d r).cs k<2 ^ 40)
  (hbd:∀ (k b:Nat),k+1=r.length->∀ n,n<=bL d.nodes->-4000000000000000000<=(bH (ar d r) k n).getD b 0/\(bH (ar d r) k n).getD b 0<=4000000000000000000) (hbt:∀ n,n<=bL d.nodes->-4000000000000000000<=SS n (ar d r).gain/\SS n (ar d r).gain<=4000000000000000000)
  (hbg:-4000000000000000000<=cY d (wv d w)/\cY d (wv d w)<=4000000000000000000)
  (N:Nat) (H:AHeap) (hS:SolvH d r lo s lvh I (iK (ar d r) be ch w) (eH d r w) H) (hN:N<H.next) (hNs:N≠s/\∀ k j,k<r.length->j<6->N≠I k j) (hNg:H.get N=some (.arr 0 3 (ints (wv d w)))) (n:Nat) (hn:n=d.nodes.length)
  (K:ARes->AHeap->Prop) (hK:∀ H',H'.next=H.next->jK r s I H H'->SolvH d r lo s lvh I (iK (ar d r) be ch (w+1)) (eH d r (w+1)) H'->K (.ret (.tup [])) H'):
  ae Tryz.prog G0 105 [.ptr s 0 0,aa w,.own N 0 0 n 1] H K:=by
 subst hn;obtain⟨D,hD⟩:∃ D,D=ar d r:=⟨_,rfl⟩
 obtain⟨vals,hvals⟩:∃ vals,vals=wv d w:=⟨_,rfl⟩
 rw[<- hvals]at hNg hbg;have hfit:bT (ak d.nodes) vals:=by rw[hvals];exact jk hok w
 have hvl:vals.length=d.nodes.length:=by rw[hfit.1,de]
 have n8:=hok.n.n1.2;have hDo:=qE hok hr.mem;rw[<- hD]at hsz hcs hbd hbt hS hK hDo;have hlb:=hS.levs.len.be;have hlc:=hS.levs.len.ch;rw[<- hD]at hlb hlc;have hpl:=jG I r.length;have lso:=af hS.top;have hll:jg H lvh=some (aa r.length):=by
  rcases hS.lv with ⟨h1,h2⟩|⟨id,g,_,_,h1,h2⟩
  ·have:r.length=0:=(by rw[<- hpl,h2];rfl);rw[h1,this];rfl
  ·rw[h1];unfold jg;simp [af h2,hpl,aa]
 refine ae.d7 (n:=120) (rs:=[]) Tryz.func105 rfl rfl rfl (by decide) (by simp) ?_;refine W.seq (ag _ _ _ (by rfl) ?_);simp only[go_sem];refine W.seq (ag _ _ _ (by rfl) ?_);simp only[go_sem,lso,hll];refine W.env fun E hE=>?_;have e0:E 0=.ptr s 0 0:=by rw[hE];simp only[go_sem]
 have e1:E 1=aa w:=by rw[hE];simp only[go_sem]
 have e2:E 2=.own N 0 0 d.nodes.length 1:=by rw[hE];simp only[go_sem]
 have e6:E 6=aa 0:=by rw[hE];simp only[go_sem]
 have e13:E 13=lvh:=by rw[hE];simp only[go_sem]
 have e14:E 14=aa r.length:=by rw[hE];simp only[go_sem]
 have e15:E 15=aa 0:=by rw[hE];simp only[go_sem]
 clear hE;refine W.aQ 1267650600228229401496703173568 (by rfl) (fun ρ Hx=>∃ k:Nat,ρ 15=aa k/\k<=r.length/\ρ 6=aa (jn D k w)/\Hx.next=H.next/\jK r s I H Hx/\SolvH d r lo s lvh I (jr D be ch w k k k) (eH d r w) Hx) (fun ρ Hx=>r.length - (iv (ρ 15)).toNat) ?_ ?_
 ·simp only[go_sem,e15,e6];exact⟨0,rfl,by omega,rfl,fun _ _ _=>rfl,hS⟩
 rintro ρ Hx ⟨k,h15,hk,h6,nx,hout,hSx⟩;refine W.env fun E1 hE1=>?_;have f0:E1 0=.ptr s 0 0:=by rw[hE1];simp only[go_sem,e0]
 have f1:E1 1=aa w:=by rw[hE1];simp only[go_sem,e1]
 have f2:E1 2=.own N 0 0 d.nodes.length 1:=by rw[hE1];simp only[go_sem,e2]
 have f6:E1 6=aa (jn D k w):=by rw[hE1];simp only[go_sem,h6]
 have f13:E1 13=lvh:=by rw[hE1];simp only[go_sem,e13]
 have f14:E1 14=aa r.length:=by rw[hE1];simp only[go_sem,e14]
 have f15:E1 15=aa k:=by rw[hE1];simp only[go_sem,h15]
 clear hE1;by_cases hb:(k:Int)<r.length;rotate_left
 ·refine ag _ _ _ (by rfl) ?_;simp only[go_sem,f14,f15,hb];have hkr:k=r.length:=by omega
  rw[hkr]at hSx;have hS2:SolvH d r lo s lvh I (iK D be ch (w+1)) (eH d r w) Hx:=hSx.same (Qk w r.length) (by rw[<- hD];exact Du hlb hlc _);have ls2:=af hS2.top;have hll2:jg Hx lvh=some (aa r.length):=by
   rcases hS2.lv with ⟨h1,h2⟩|⟨id,g,_,_,h1,h2⟩
   ·have:r.length=0:=(by rw[<- hpl,h2];rfl);rw[h1,this];rfl
   ·rw[h1];unfold jg;simp [af h2,hpl,aa]
  have ggl:(df d)[w]?=some (cY d (wv d w)):=vw hw;have gg:(ints (df d))[w]?=some (aa (cY d (wv d w))):=by rw[eE,ggl];rfl
  have ggn:=aP gg;have ggi:(w:Int)<(df d).length:=by have:=aH ggl;omega
  by_cases hr0:(r.length:Int)=0
  ·have hr00:r.length=0:=(by omega);refine W.seq (ag _ _ _ (by rfl) ?_);simp only[go_sem,f0,ls2,hll2,hr0];refine W.cond (t:=true) rfl ?_;have et:eH d r (w+1)=eH d r w+cY d (wv d w):=by
    unfold eH;rw[if_pos hr00,if_pos hr00,fg];rfl
   have hbt':=hbt (w+1) (by omega);have et2:eH d r (w+1)=SS (w+1) D.gain:=(by unfold eH;rw[if_pos hr00,hD]);rw[<- et2,et]at hbt';have w6:=IntWalk.i64_in (eH d r w+cY d (wv d w)) (by omega);refine W.draw 11 [0,1,3,7,0,16,48,112,0,496,1008] Tryz.mixed (by kernel_rfl) (by kernel_rfl) ?_;simp only[go_sem,f0,f1,ls2,gg,ggn,ggi,w6];refine au.mk (by rw[aD];omega) (hK _ (by rw[aD];exact nx) (fun i h1 h2=>by rw[ah,if_neg h1];exact hout i h1 h2) ?_);rw[et];exact hS2.C7
  ·have hr00:¬ r.length=0:=(by omega);refine W.seq (ag _ _ _ (by rfl) ?_);simp only[go_sem,f0,ls2,hll2,hr0];refine W.cond (t:=false) rfl ?_;have et:eH d r (w+1)=eH d r w:=(by unfold eH;rw[if_neg hr00,if_neg hr00]);refine ag _ _ _ (by rfl) ?_;simp only[go_sem];refine au.mk (by omega) (hK Hx nx hout ?_);rw[et];exact hS2
 have hk2:k<r.length:=by omega
 refine W.seq (ag _ _ _ (by rfl) ?_);simp only[go_sem,f14,f15,hb];refine W.seq (ag _ _ _ (by rfl) ?_);simp only[go_sem];refine W.seq (W.block ?_);obtain⟨il,gl,hlv,glv,_,_⟩:=hSx.ve hk2;have llv:=af glv;have hpk:=sK (I:=I) hk2;have hpn:=aP hpk;refine W.seq (ag _ _ _ (by rfl) ?_);simp only[go_sem,f13,f15,hlv,llv,hpk,hb];obtain⟨v,hv⟩:=aw hk2;have hvd:r.getD k 0=v:=fS hv;have hm:=hr.mem v (List.mem_of_getElem? hv);obtain⟨x,hx⟩:=aw (d5.1 hm).1;obtain⟨hrn,hxp,hin,ps⟩:=qX hok hx;obtain⟨r1,r2⟩:=mA hok hx hfit;have hxc:=hok.n.card x (List.mem_of_getElem? hx);obtain⟨e1',e2'⟩:=jm hx (by omega);have ecs:D.cs k=bj d.nodes x:=by rw[hD];show cC d (r.getD k 0)=_;rw[hvd];exact e1'
 have ecd:(D.cd k:Int)=x.card:=by rw[hD];show (cS d (r.getD k 0):Int)=_;rw[hvd];exact e2'
 obtain⟨c,hc⟩:∃ c,c=D.cas k w:=⟨_,rfl⟩
 have hcr:c=cV d.nodes v vals:=by rw[hc,hD,hvals];show cV d.nodes (r.getD k 0) (wv d w)=_;rw[hvd]
 obtain⟨y,hy⟩:∃ y,y=D.cho k w:=⟨_,rfl⟩
 have hcl:c<D.cs k:=by rw[hc];exact hDo.cas k w (by rw[hD];exact hk2) (by rw[hD];exact hw)
 have hyl:y<D.cd k:=by rw[hy];exact hDo.cho k w (by rw[hD];exact hk2) (by rw[hD];exact hw)
 obtain⟨yv,hyv⟩:=aw (l:=vals) (i:=v) (by rw[hvl];exact(d5.1 hm).1);have hyf:=hfit.2 v _ yv (cZ hx) hyv;have hyy:yv=(y:Int):=by
  have:y=(vals.getD v 0).toNat:=by rw[hy,hD,hvals];show ((wv d w).getD (r.getD k 0) 0).toNat=_;rw[hvd]
  rw[gT hyv]at this;omega
 have hgN:Hx.get N=some (.arr 0 3 (ints vals)):=(hout N hNs.1 hNs.2).trans hNg;have hpc:bU Tryz.prog G0 (.clo 69 [] []) [.vec d.nodes.length (aC d.nodes),.lit (.int .i64 v),.own N 0 0 d.nodes.length 1] Hx (.lit (.int .i64 (c:Int))) [N]:=by
  have:=sF d.nodes v x vals hx hin ps hfit Hx N d.nodes.length (by omega) hgN hvl.symm;rw[hcr,r1];exact this
 have lx:=af hSx.top;have l0:=af (hSx.levs.lev k hk2);rw[<- hD]at l0;simp only[gH,hvd]at l0;refine W.seq ?_;refine W.draw 10 [0,1,3,7,15,0,32,96,224,0] Tryz.mixed (by kernel_rfl) (by kernel_rfl) ?_;simp only[go_sem,f0,f2,lx,l0];refine aA.mono (hpc.2 Hx (fun _ _=>rfl) (Nat.le_refl _)) fun rr H3 hrr=>?_;obtain⟨rfl,rfl⟩:=hrr;refine⟨trivial,?_⟩;simp only[go_sem]
  -- above
 have hle1:=(nV D k w)
 have gab:=hSx.levs.tab k 1 hk2 (by omega) (by omega);have lab:=af gab;have tab1:(jr D be ch w k k k).ab k=cM D k w:=by show cM D k (eW w k k)=_;rw[vk (Nat.le_refl _)]
 simp only[dm,tab1]at lab;have lla:(ints (cM D k w)).length=D.cs k:=by rw[aT];exact hle1
 have hci:(c:Int)<D.cs k:=by omega
 have e1s:setAt (ints (cM D k w)) c [.lit (.int .i64 (jn D k w:Nat))]=ints (cM D k (w+1)):=by
  rw[gF (by omega)];show _=ints ((cM D k w).set (D.cas k w) (jn D k w));rw[hc]
 refine W.env fun E2 hE2=>?_;have m0:E2 0=.ptr s 0 0:=by rw[hE2];simp only[go_sem,f0]
 have m1:E2 1=aa w:=by rw[hE2];simp only[go_sem,f1]
 have m2:E2 2=.own N 0 0 d.nodes.length 1:=by rw[hE2];simp only[go_sem,f2]
 have m6:E2 6=aa (jn D k w):=by rw[hE2];simp only[go_sem,f6]
 have m7:E2 7=aa k:=by rw[hE2];simp only[go_sem]
 have m8:E2 8=.ptr (I k 0) 0 0:=by rw[hE2];simp only[go_sem]
 have m9:E2 9=aa c:=by rw[hE2];simp only[go_sem]
 have m15:E2 15=aa k:=by rw[hE2];simp only[go_sem,f15]
 clear hE2;refine W.seq (ag _ _ _ (by rfl) ?_);simp only[go_sem,m8,m9,m6,l0,lab,lla,hci,e1s];refine⟨by omega,?_⟩;obtain⟨H4,hH4⟩:∃ H4,H4=H3.upd (I k 1) (.arr 0 3 (ints (cM D k (w+1)))):=⟨_,rfl⟩
 rw[<- hH4];have hS4:SolvH d r lo s lvh I (jr D be ch w (k+1) k k) (eH d r w) H4:=by
  have hb:dm (jr D be ch w (k+1) k k) k 1=.arr 0 3 (ints (cM D k (w+1))):=by show Blk.arr 0 _ (ints (cM D k (eW w (k+1) k)))=_;rw[sP (Nat.lt_succ_self k)]
  rw[hH4,<- hb];refine hSx.upd hk2 (by omega) (by omega) (fun k' j' h1 h2 h3 h4=>?_) (by rw[<- hD];exact vp hlb hlc _ _ _ _)
  match j',h2,h3 with
  | 1,_,_ =>
   show Blk.arr 0 _ (ints (cM D k' (eW w (k+1) k')))=Blk.arr 0 _ (ints (cM D k' (eW w k k')));rw[vm fun e=>h4 ⟨e,rfl⟩]
  | 2,_,_=>rfl
  | 3,_,_=>rfl
  | 4,_,_=>rfl
  | 5,_,_=>rfl
 have n4:H4.next=H.next:=by rw[hH4,aD];exact nx
 have o4:jK r s I H H4:=fun i h1 h2=>by rw[hH4,ah,if_neg (h2 k 1 hk2 (by omega))];exact hout i h1 h2
 clear hH4 lab lx l0
  -- occurs
 have lx:=af hS4.top;have l0:=af (hS4.levs.lev k hk2);rw[<- hD]at l0;have loc:=af (hS4.levs.tab k 2 hk2 (by omega) (by omega));have toc:(jr D be ch w (k+1) k k).oc k=dX D k w:=by show dX D k (eW w k k)=_;rw[vk (Nat.le_refl _)]
 simp only[gH,hvd]at l0;simp only[dm,toc]at loc;have llo:(cP (dX D k w)).length=D.cs k:=by rw[qT];exact pj D k w
 obtain⟨o,ho⟩:=aw (l:=dX D k w) (i:=c) (by rw[pj];omega);have go:(cP (dX D k w))[c]?=some (.lit (.bool o)):=by rw[vd,ho];rfl
 have gon:=aP go;have gwl:(dp d)[w]?=some (dB d (wv d w)):=by unfold dp;rw[List.getElem?_map,List.getElem?_range hw];rfl
 have gw:(ints (dp d))[w]?=some (aa (dB d (wv d w))):=by rw[eE,gwl];rfl
 have gwn:=aP gw;have gwi:(w:Int)<(dp d).length:=by have:=aH gwl;omega
 have hwt:D.wt w=dB d (wv d w):=by rw[hD];rfl
 have eos:∀ b:Bool,b=(o || decide (0<dB d (wv d w)))->setAt (cP (dX D k w)) c [.lit (.bool b)]=cP (dX D k (w+1)):=fun b hb2=>by
  rw[C6 (by rw[pj];omega)];show _=cP ((dX D k w).set (D.cas k w) ((dX D k w).getD (D.cas k w) false || decide (0<D.wt w)));rw[<- hc,gT ho,hwt,hb2]
 obtain⟨H5,hH5⟩:∃ H5,H5=H4.upd (I k 2) (.arr 0 4 (cP (dX D k (w+1)))):=⟨_,rfl⟩
 refine W.mo (fun s'=>s'.H=H5/\s'.ρ 0=.ptr s 0 0/\s'.ρ 1=aa w/\s'.ρ 2=.own N 0 0 d.nodes.length 1/\s'.ρ 7=aa k/\s'.ρ 8=.ptr (I k 0) 0 0/\s'.ρ 9=aa c/\s'.ρ 15=aa k) ?_ ?_
 ·refine W.draw 22 [0,1,3,7,0,0,32,96,224,0,992,2016,4064,8160,16352,32736,65504,8160,262112,524256,1048544,2097120] Tryz.mixed (by kernel_rfl) (by kernel_rfl) ?_;cases o with
  | true =>
   have eos':=eos true (by simp);simp only[go_sem,m0,m1,m2,m7,m8,m9,m15,l0,loc,llo,go,hci,eos'];exact⟨by omega,hH5.symm⟩
  | false =>
   by_cases hp:0<dB d (wv d w)
   ·have eos':=eos true (by simp [hp]);simp only[go_sem,m0,m1,m2,m7,m8,m9,m15,lx,l0,loc,llo,go,hci,gw,gwn,gwi,hp,eos'];exact⟨by omega,hH5.symm⟩
   ·have eos':=eos false (by simp [hp]);simp only[go_sem,m0,m1,m2,m7,m8,m9,m15,lx,l0,loc,llo,go,hci,gw,gwn,gwi,hp,eos'];exact⟨by omega,hH5.symm⟩
 rintro⟨ρ6,Hq⟩ ⟨hq,p0,p1,p2,p7,p8,p9,p15⟩;simp only at hq p0 p1 p2 p7 p8 p9 p15;subst hq;have hS5:SolvH d r lo s lvh I (jr D be ch w (k+1) (k+1) k) (eH d r w) Hq:=by
  have hb:dm (jr D be ch w (k+1) (k+1) k) k 2=.arr 0 4 (cP (dX D k (w+1))):=by show Blk.arr 0 _ (cP (dX D k (eW w (k+1) k)))=_;rw[sP (Nat.lt_succ_self k)]
  rw[hH5,<- hb];refine hS4.upd hk2 (by omega) (by omega) (fun k' j' h1 h2 h3 h4=>?_) (by rw[<- hD];exact vp hlb hlc _ _ _ _)
  match j',h2,h3 with
  | 1,_,_=>rfl
  | 2,_,_ =>
   show Blk.arr 0 _ (cP (dX D k' (eW w (k+1) k')))=Blk.arr 0 _ (cP (dX D k' (eW w k k')));rw[vm fun e=>h4 ⟨e,rfl⟩]
  | 3,_,_=>rfl
  | 4,_,_=>rfl
  | 5,_,_=>rfl
 have n5:Hq.next=H.next:=by rw[hH5,aD];exact n4
 have o5:jK r s I H Hq:=fun i h1 h2=>by rw[hH5,ah,if_neg (h2 k 2 hk2 (by omega))];exact o4 i h1 h2
 clear hH5 loc lx l0;have lx:=af hS5.top;have l0:=af (hS5.levs.lev k hk2);rw[<- hD]at l0;simp only[gH,hvd]at l0;have lN:=af ((o5 N hNs.1 hNs.2).trans hNg);have gy:(ints vals)[v]?=some (aa y):=by rw[eE,hyv,hyy];rfl
 have gyn:=aP gy;have lln:(ints vals).length=d.nodes.length:=by rw[aT];exact hvl
 have hvi:(v:Int)<d.nodes.length:=by have:=(d5.1 hm).1;omega
 have hbr:c*D.cd k+y<D.cs k*D.cd k:=by
  have h3:(c+1)*D.cd k<=D.cs k*D.cd k:=Nat.mul_le_mul_right _ hcl;rw[Nat.add_mul,Nat.one_mul]at h3;omega
 have hsz':=hsz k hk2;obtain⟨b,hbe⟩:∃ b:Nat,b=c*D.cd k+y:=⟨_,rfl⟩
 have hbD:D.br k w=b:=by rw[hbe,hc,hy];rfl
 have eb1:(c:Int)*(D.cd k:Int)=((c*D.cd k:Nat):Int):=by simp
 have eb2:((c*D.cd k:Nat):Int)+(y:Int)=(b:Int):=by rw[hbe];omega
 rw[<- hbe]at hbr;have w1:=IntWalk.i64_in ((c*D.cd k:Nat):Int) (by omega);have w2:=IntWalk.i64_in (b:Int) (by omega);refine W.seq ?_;refine W.draw 13 [0,0,2,6,14,31,0,0,128,384,896,1984,4032] Tryz.mixed (by kernel_rfl) (by kernel_rfl) ?_;simp only[go_sem,p2,p8,p9,l0,lN,gy,hvi,eb1,w1,eb2,w2];refine W.env fun E3 hE3=>?_;have s0:E3 0=.ptr s 0 0:=by rw[hE3];simp only[go_sem,p0]
 have s1:E3 1=aa w:=by rw[hE3];simp only[go_sem,p1]
 have s6:E3 6=aa b:=by rw[hE3];simp only[go_sem]
 have s7:E3 7=aa k:=by rw[hE3];simp only[go_sem,p7]
 have s8:E3 8=.ptr (I k 0) 0 0:=by rw[hE3];simp only[go_sem,p8]
 have s15:E3 15=aa k:=by rw[hE3];simp only[go_sem,p15]
 clear hE3;have hll5:jg Hq lvh=some (aa r.length):=by
  rcases hS5.lv with ⟨h1,h2⟩|⟨id,g,_,_,h1,h2⟩
  ·have:r.length=0:=(by rw[<- hpl,h2];rfl);rw[h1,this];rfl
  ·rw[h1];unfold jg;simp [af h2,hpl,aa]
 have wl:=IntWalk.i64_in ((r.length:Int) - 1) (by omega);have wk:=IntWalk.i64_in ((k:Int)+1) (by omega);have hbrI:jn D (k+1) w=b:=by unfold jn;rw[if_neg (by omega),Nat.add_sub_cancel];exact hbD
 by_cases hlast:(k:Int)=(r.length:Int) - 1
 ·have hKl:k+1=D.K:=by rw[hD];show k+1=r.length;omega
  have hdec:(decide ((k:Int)=(r.length:Int) - 1))=true:=decide_eq_true hlast;refine W.seq (ag _ _ _ (by rfl) ?_);simp only[go_sem,s0,s7,lx,hll5,wl,hdec];refine W.cond (t:=true) rfl ?_;have lex:=af (hS5.levs.tab k 3 hk2 (by omega) (by omega));have tex:(jr D be ch w (k+1) (k+1) k).ex k=bH D k w:=by show bH D k (eW w k k)=_;rw[vk (Nat.le_refl _)]
  simp only[dm,tex]at lex;have lle:(ints (bH D k w)).length=D.cs k*D.cd k:=by rw[aT];exact lM D k w
  obtain⟨ev,hev⟩:=aw (l:=bH D k w) (i:=b) (by rw[lM];exact hbr);have gev:(ints (bH D k w))[b]?=some (aa ev):=by rw[eE,hev];rfl
  have gevn:=aP gev;have ggl:(df d)[w]?=some (cY d vals):=by rw[hvals];exact vw hw
  have gg:(ints (df d))[w]?=some (aa (cY d vals)):=by rw[eE,ggl];rfl
  have ggn:=aP gg;have ggi:(w:Int)<(df d).length:=by have:=aH ggl;omega
  have hbi:(b:Int)<(D.cs k*D.cd k:Nat):=by omega
  have hgw:D.gain w=cY d vals:=by rw[hD,hvals];rfl
  have hKr:k+1=r.length:=by rw[hD]at hKl;exact hKl
  have esucc:bH D k (w+1)=(bH D k w).set b (ev+cY d vals):=by
   show (if k+1=D.K then (bH D k w).set (D.br k w) ((bH D k w).getD (D.br k w) 0+D.gain w) else bH D k w)=_;rw[if_pos hKl,hbD,gT hev,hgw]
  have hbd':=hbd k b hKr w (by omega);rw[gT hev]at hbd';have w6:=IntWalk.i64_in (ev+cY d vals) (by omega);have ees:setAt (ints (bH D k w)) b [.lit (.int .i64 (ev+cY d vals))]=ints (bH D k (w+1)):=by rw[gF (by rw[lM];exact hbr),esucc]
  refine W.draw 14 [0,1,3,7,0,31,63,0,128,384,896,0,3968,8064] Tryz.mixed (by kernel_rfl) (by kernel_rfl) ?_;simp only[go_sem,s0,s1,s6,s8,lx,l0,lex,lle,gev,gg,ggn,ggi,hbi,w6,ees];refine⟨by omega,?_⟩;refine ag _ _ _ (by rfl) ?_;simp only[go_sem,s15,s6,wk];rw[<- hlv];obtain⟨H6,hH6⟩:∃ H6,H6=Hq.upd (I k 3) (.arr 0 3 (ints (bH D k (w+1)))):=⟨_,rfl⟩
  rw[<- hH6];have n6:H6.next=H.next:=by rw[hH6,aD];exact n5
  refine⟨by omega,⟨k+1,rfl,by omega,by rw[hbrI],n6,fun i h1 h2=>by rw[hH6,ah,if_neg (h2 k 3 hk2 (by omega))];exact o5 i h1 h2,?_⟩,by rw[h15];simp only[aa,bF];omega⟩;have hb:dm (jr D be ch w (k+1) (k+1) (k+1)) k 3=.arr 0 3 (ints (bH D k (w+1))):=by show Blk.arr 0 _ (ints (bH D k (eW w (k+1) k)))=_;rw[sP (Nat.lt_succ_self k)]
  rw[hH6,<- hb];refine hS5.upd hk2 (by omega) (by omega) (fun k' j' h1 h2 h3 h4=>?_) (by rw[<- hD];exact vp hlb hlc _ _ _ _)
  match j',h2,h3 with
  | 1,_,_=>rfl
  | 2,_,_=>rfl
  | 3,_,_ =>
   show Blk.arr 0 _ (ints (bH D k' (eW w (k+1) k')))=Blk.arr 0 _ (ints (bH D k' (eW w k k')));rw[vm fun e=>h4 ⟨e,rfl⟩]
  | 4,_,_=>rfl
  | 5,_,_=>rfl
 ·have hKl:k+1≠D.K:=by rw[hD];show k+1≠r.length;omega
  refine W.seq (ag _ _ _ (by rfl) ?_);simp only[go_sem,s0,s7,lx,hll5,wl,hlast];refine W.cond (t:=false) rfl ?_;refine ag _ _ _ (by rfl) ?_;simp only[go_sem];refine ag _ _ _ (by rfl) ?_;simp only[go_sem,s15,s6,wk];rw[<- hlv];refine⟨by omega,⟨k+1,rfl,by omega,by rw[hbrI],n5,o5,hS5.same (fun k' j' h1=>?_) (by rw[<- hD];exact vp hlb hlc _ _ _ _)⟩,by rw[h15];simp only[aa,bF];omega⟩;by_cases e:k'=k
  ·subst e;have e0:bH D k' (eW w k' k')=bH D k' (eW w (k'+1) k'):=by
    rw[vk (Nat.le_refl _),sP (Nat.lt_succ_self k')];show _=(if k'+1=D.K then _ else bH D k' w)
    rw[if_neg hKl]
   unfold dm jr;simp only[e0]
  ·unfold dm jr;simp only[vm e]
end Go.Proofs
namespace Go.Hx
variable {P:Program}
theorem OwnM.vB {lo n0:Nat}{H H':AHeap}{e1 e0:TypeId}{v:AVal}{ids:List Nat}{rows:List (List AVal)}(h:OwnM lo H e1 e0 v ids rows)(hb:∀ i∈ids,i<n0)(ht:∀ i g n,v=.own i g 0 n 1->i<n0)(hn:H.next<=H'.next)(hk:∀ id,id<n0->H'.get id=H.get id):OwnM lo H' e1 e0 v ids rows :=
 ⟨h.len,h.nd,fun i hi=>⟨(h.rng i hi).1,by have:=(h.rng i hi).2;omega⟩,h.top.keep (Nat.le_refl _) hn fun id g _ _ _ hv=>hk id (ht id g _ hv),fun k id r h1 h2=>by
  rw[hk id (hb id (List.mem_of_getElem? h1))];exact h.row k id r h1 h2⟩
theorem OwnM.Q2 {lo:Nat}{H:AHeap}{e1 e0:TypeId}{v:AVal}{ids:List Nat}{rows:List (List AVal)}(h:OwnM lo H e1 e0 v ids rows):∀ i g n,v=.own i g 0 n 1->i<H.next:=fun i g n hv=>by
 rcases h.top with ⟨h1,_⟩|⟨j,g2,_,h2,h3,_⟩
 ·rw[h1]at hv;cases hv
 ·rw[h3]at hv;rw[<- (AVal.own.inj hv).1];exact h2
end Go.Hx
namespace Go.Proofs
open Go.Hx
set_option maxHeartbeats 2000000 in
theorem Q3 (d:InfP)(hok:InfOk d)(hf:InfFit d)(h6:d.nodes.length<=6)(p:List (List Int))(hp:PolOk d p)(v0:Nat)(hv0:v0∈aO d)(db eb pb rb sb so lo:Nat)(rv:AVal)(ids:List Nat)
  (H:AHeap) (hE:ExH d p v0 db eb pb rb sb so rv H) (hlt:db<H.next/\eb<H.next/\pb<H.next/\rb<H.next/\sb<H.next/\so<H.next) (hni:db ∉ ids/\eb ∉ ids/\pb ∉ ids/\rb ∉ ids/\sb ∉ ids/\so ∉ ids)
  (hM:OwnM lo H 46 3 rv ids ((fI d (fixC p) v0 0).map ints))
  (K:ARes->AHeap->Prop) (hK:∀ H',H.next<=H'.next->(∀ id,id<H.next->id ∉ ids->H'.get id=H.get id)->OwnM lo H' 46 3 rv ids ((fI d (fixC p) v0 (bL d.nodes)).map ints)->K (.ret (.tup [])) H'):
  ae Tryz.prog G0 67 [.ptr so 0 0,.clo 68 [] [.ptr db 0 0,.ptr eb 0 0,.ptr pb 0 0,.ptr rb 0 0,.ptr sb 0 0]] H K:=by
 have n8:=hok.n.n1;have hcards:∀ c∈ak d.nodes,1<=c/\c<=4:=fun c hc=>by
  obtain⟨x,hx,rfl⟩:=List.mem_map.1 hc;exact hok.n.card x hx
 have sm:dY (ak d.nodes):=mL (by rw[de];omega) hcards;obtain⟨hdl,hel,hpl,hrl,hsl,hsol⟩:=hlt;obtain⟨hdi,hei,hpi,hri,hsi,hsoi⟩:=hni;have hidl:∀ i∈ids,i<H.next:=fun i hi=>(hM.rng i hi).2;have htl:=hM.Q2;have lso:=af hE.hso;unfold vA at lso;have lsoe:∀ L,(ext H L).live so 0=_:=fun L=>(eY hsol).trans lso;refine ae.aU (n:=19) (rs:=[]) Tryz.func67 rfl rfl rfl (by decide) (by kernel_rfl) (by simp) ?_;simp only[go_sem,lsoe];refine aA.clo (sH d.nodes (by omega) _ _ ⟨trivial,?_⟩);simp only[go_sem];refine aA.clo (sD (ak d.nodes) _ _ ⟨trivial,?_⟩);simp only[go_sem];obtain⟨H2,hH2⟩:∃ H2,H2=ext (ext H [.arr 0 136 (AVal.clo 68 [] [.ptr db 0 0,.ptr eb 0 0,.ptr pb 0 0,.ptr rb 0 0,.ptr sb 0 0]).cells]) [.arr 0 46 [aj (ak d.nodes)]]:=⟨_,rfl⟩
 have n2:H2.next=H.next+2:=by rw[hH2];rfl
 have o2:Over H H2:=by rw[hH2];exact(Over.ext _ _).trans (.ext _ _)
 have g0:H2.get H.next=some (.arr 0 136 [.clo 68 [] [.ptr db 0 0,.ptr eb 0 0,.ptr pb 0 0,.ptr rb 0 0,.ptr sb 0 0]]):=by rw[hH2,dK];exact ba H _ 0 (by simp)
 have g1:H2.get (H.next+1)=some (.arr 0 46 [aj (ak d.nodes)]):=by rw[hH2,dK];exact ba H _ 1 (by simp)
 refine W.env fun E hE'=>?_;have e3:E 3=.ptr H.next 0 0:=by rw[hE'];simp only[go_sem]
 have e12:E 12=.clo 143 [] [.ptr (H.next+1) 0 0]:=by rw[hE'];rfl
 clear hE';show W _ _ _ _ _ _ ⟨E,ext (ext H [.arr 0 136 (AVal.clo 68 [] [.ptr db 0 0,.ptr eb 0 0,.ptr pb 0 0,.ptr rb 0 0,.ptr sb 0 0]).cells]) [.arr 0 46 [aj (ak d.nodes)]]⟩;rw[<- hH2];have hit:=sC (ak d.nodes) (fun c hc=>(hcards c hc).1) sm (H.next+1) (H2.next+1) (by omega);have hni2:∀ i,H.next<=i->i ∉ ids:=fun i hi hm=>by have:=hidl i hm;omega
 refine W.ta (f:=143) (first:=[]) (cap:=[.ptr (H.next+1) 0 0]) (by show E 12=_;exact e12) hit
  (fun k Hx=>H2.next<Hx.next/\(∀ id,id<H2.next->id ∉ ids->Hx.get id=H2.get id)/\OwnM lo Hx 46 3 rv ids ((fI d (fixC p) v0 k).map ints))
  (fun _ _=>False)
  (fun k Hx h=>(h.2.1 _ (by omega) (hni2 _ (by omega))).trans g1)
  (fun k H1 H3 h hw=>⟨by have:=hw.1;omega,fun id h1 h2=>(hw.2 _ (by omega) (by have:=h.1;omega)).trans (h.2.1 id h1 h2),h.2.2.vB hidl htl hw.1 fun id hi=>hw.2 id (by omega) (by have:=h.1;omega)⟩)
  (fun k Hx h=>h.1)
  (fun k H1 b h=>⟨h.1,fun id h1 h2=>by rw[ah,if_neg (by omega)];exact h.2.1 id h1 h2,h.2.2.vB hidl htl (by rw[aD];exact Nat.le_refl _) fun id hi=>by rw[ah,if_neg (by omega)]⟩)
  (fun _ _ _ h=>h) (fun k H1 b h=>by unfold kO at h ⊢;rw[ah,if_neg (by omega)];exact h)
  (fun b=>⟨by rw[aR];simp,fun id h1 h2=>bC h1,hM.vB hidl htl (by rw[aR];omega) fun id hi=>by rw[bC (by omega),o2.old _ hi]⟩) (by decide)
  (fun x hx=>by
   obtain⟨k,hk⟩:=List.mem_iff_getElem?.1 hx;obtain⟨_,rfl⟩:=lP hk;rfl) (fun _ _ _=>trivial) (fun _ _ _=>trivial) (fun k y Hx B Bb hy hj hcs hn hB hBb=>?_) (fun Hx hj hn=>?_) (fun _ hs _=>hs.elim) (fun _ _ hs _=>hs.elim)
 ·obtain⟨hk,rfl⟩:=lP hy;refine ag _ _ _ (by rfl) ?_;simp only[go_sem,fP,aS,iq,List.foldl_cons,List.foldl_nil,List.zip_cons_cons,List.zip_nil_right,hB];obtain⟨H3,hH3⟩:∃ H3,H3=Hx.upd H2.next Bb:=⟨_,rfl⟩
  rw[<- hH3];obtain⟨st,pd,n',en,ps',as',bo,hBe⟩:=hBb;have n3:H3.next=Hx.next:=by rw[hH3];rfl
  have o3:∀ id,id≠H2.next->H3.get id=Hx.get id:=fun id h=>by rw[hH3,ah,if_neg h]
  have jB:H3.get H2.next=some Bb:=by rw[hH3,ah,if_pos rfl]
  have k0:=af ((o3 _ (by omega)).trans ((hj.2.1 H.next (by omega) (hni2 _ (by omega))).trans g0));have kN:H3.get (H2.next+1)=some (.arr 0 3 (ints (bf (ak d.nodes) k))):=(o3 _ (by omega)).trans hcs;have kold:∀ id,id<H.next->id ∉ ids->H3.get id=H.get id:=fun id h1 h2=>by rw[o3 _ (by omega),hj.2.1 _ (by omega) h2,o2.old _ h1]
  have hE3:ExH d p v0 db eb pb rb sb so rv H3:=hE.keep fun id hi=>by
   rcases hi with rfl|rfl|rfl|rfl|rfl|rfl
   ·exact kold _ hdl hdi
   ·exact kold _ hel hei
   ·exact kold _ hpl hpi
   ·exact kold _ hrl hri
   ·exact kold _ hsl hsi
   ·exact kold _ hsol hsoi
  have hM3:OwnM lo H3 46 3 rv ids ((fI d (fixC p) v0 k).map ints):=hj.2.2.vB hidl htl (by omega) fun id hi=>o3 id (by omega);refine W.env fun E1 hE1=>?_;have m3:E1 3=.ptr H.next 0 0:=by rw[hE1];simp only[go_sem,aS,e3]
  have m4:E1 4=aa k:=by rw[hE1];simp only[go_sem,aS]
  have m5:E1 5=.own (H2.next+1) 0 0 d.nodes.length 1:=by rw[hE1];simp only[go_sem,aS,de]
  clear hE1;refine ag _ _ _ (by rfl) ?_;simp only[go_sem,m3,m4,m5,k0];refine aA.clo (Q1 d hok hf h6 p hp v0 hv0 k hk db eb pb rb sb so (H2.next+1) d.nodes.length lo rv ids H3 hE3 hM3 kN (by omega) rfl _ fun H4 h4n h4o h4M=>⟨⟨_,_,_,_,_,_,_,by rw[h4o _ (hni2 _ (by omega)),jB,hBe]⟩,?_⟩);simp only[go_sem,dZ];refine⟨by rw[h4o _ (hni2 _ (by omega))];exact jB,by omega,⟨by omega,fun id h1 h2=>by rw[h4o _ h2,o3 _ (by omega)];exact hj.2.1 id h1 h2,h4M⟩,?_⟩;unfold kO;rw[h4o _ (hni2 _ (by omega))];exact kN
 ·simp only[go_sem];have hl:(lO (ak d.nodes) (H2.next+1)).length=bL d.nodes:=qN ..;rw[hl]at hj;exact au.mk (by omega) (hK Hx (by omega) (fun id h1 h2=>(hj.2.1 id (by omega) h2).trans (o2.old _ h1)) hj.2.2)
end Go.Proofs
namespace Go.Proofs
open Go.Hx
def Dv (r:List Nat)(s:Nat)(lvh:AVal)(I:Nat->Nat->Nat)(n0:Nat):Prop:=s<n0/\(∀ k j,k<r.length->j<6->I k j<n0)/\∀ id g n,lvh=.own id g 0 n 1->id<n0
theorem SolvH.sQ {d:InfP}{r:List Nat}{lo s:Nat}{lvh:AVal}{I:Nat->Nat->Nat}{T:TabS}{tot:Int}{H:AHeap}(h:SolvH d r lo s lvh I T tot H):Dv r s lvh I H.next :=
 ⟨h.slo.2,fun k j h1 h2=>(h.levs.rng k j h1 h2).2,fun id g n hv=>by
  rcases h.lv with ⟨h1,_⟩|⟨id',g',_,h2,h3,_⟩
  ·rw[h1]at hv;cases hv
  ·rw[h3]at hv;rw[<- (AVal.own.inj hv).1];exact h2⟩
theorem SolvH.i9 {d:InfP}{r:List Nat}{lo s n0:Nat}{lvh:AVal}{I:Nat->Nat->Nat}{T:TabS}{tot:Int}{H H':AHeap}(h:SolvH d r lo s lvh I T tot H)(hb:Dv r s lvh I n0)(hn:H.next<=H'.next)(hk:∀ i,i<n0->H'.get i=H.get i):SolvH d r lo s lvh I T tot H' :=
 ⟨by rw[hk s hb.1];exact h.top,by have:=h.slo;omega,h.lv.keep (Nat.le_refl _) hn fun i g _ _ _ hv=>hk i (hb.2.2 _ _ _ hv),h.sep,h.sepl,h.levs.keep hn fun k j h1 h2=>hk _ (hb.2.1 k j h1 h2)⟩
theorem SolvH.len {d:InfP}{r:List Nat}{lo s:Nat}{lvh:AVal}{I:Nat->Nat->Nat}{T:TabS}{tot:Int}{H:AHeap}(h:SolvH d r lo s lvh I T tot H):jg H lvh=some (aa r.length):=by
 have hpl:=jG I r.length;rcases h.lv with ⟨h1,h2⟩|⟨id,g,_,_,h1,h2⟩
 ·have:r.length=0:=by rw[<- hpl,h2];rfl
  rw[h1,this];rfl
 ·rw[h1];unfold jg;simp [af h2,hpl,aa]
def oh (n:Nat):List (List AVal):=(List.range n).map fun (i:Nat)=>[aa ((n:Int) - 1 - (i:Int))]
theorem vr (n:Nat):(oh n).length=n:=by simp [oh]
theorem Dw {n i:Nat}(h:i<n):(oh n)[i]?=some [aa ((n:Int) - 1 - i)]:=by unfold oh;rw[List.getElem?_map,List.getElem?_range h];rfl
theorem Dx {n i:Nat}{y:List AVal}(h:(oh n)[i]?=some y):i<n/\y=[aa ((n:Int) - 1 - i)]:=by
 have hl:=aH h;rw[vr]at hl;rw[Dw hl]at h;exact⟨hl,(Option.some.inj h).symm⟩
theorem Dy {n:Nat}:∀ x∈oh n,x.length=1:=fun x hx=>by
 unfold oh at hx;obtain⟨i,_,rfl⟩:=List.mem_map.1 hx;rfl
def Qm (d:InfP)(s bx n:Nat)(H:AHeap):Prop:=H.get bx=some (.arr 0 110 [.ptr s 0 0])/\∃ lvh tot,H.get s=some (.arr 0 130 [.lit (.int .i64 d.grain),.vec d.nodes.length (aC d.nodes),.lit (.int .u64 (d.decs:Int)),.vec d.utils.length (aV d.utils),lvh,aj (dp d),aj (df d),.lit (.int .i64 tot)])/\jg H lvh=some (aa n)
theorem Dz (d:InfP)(s bx n:Nat)(hn:n<=64):vF Tryz.prog G0 137 [] [.ptr bx 0 0] (oh n) (Qm d s bx n):=by
 intro idy J Stop H K hS hJ0 hY hK hSt;obtain⟨h1,lvh,tot,h2,h3⟩:=hS 0 H hJ0;have l1:=af h1;have l2:=af h2;have w0:=IntWalk.i64_in ((n:Int) - 1) (by omega);show ae _ _ _ ([.yld idy]++[.ptr bx 0 0]) _ _;refine ae.aU (n:=18) (rs:=[]) Tryz.func137 rfl rfl rfl (by decide) (by kernel_rfl) (by simp) ?_;simp only[go_sem,l1,l2,h3,w0];refine W.aQ 261128 (by rfl) (fun ρ H'=>∃ i:Nat,ρ 3=aa ((n:Int) - 1 - i)/\i<=n/\J i H'/\H.next<=H'.next) (fun ρ H=>(iv (ρ 3)+1).toNat) ?_ ?_
 ·simp only[go_sem];exact⟨0,by simp,by omega,hJ0⟩
 rintro ρ H' ⟨i,h3,hi,hj,hnx⟩;refine ag _ _ _ (by rfl) ?_;by_cases hb:(0:Int)<=(n:Int) - 1 - i
 ·have hin:i<n:=by omega
  have w1:=IntWalk.i64_in ((n:Int) - 1 - i - 1) (by omega);simp only[go_sem,h3,hb];refine hY _ _ H' _ (Dw hin) hj hnx (fun H2 hj2 hn2=>⟨trivial,?_⟩) (fun H2 hs2 hn2=>⟨trivial,?_⟩)
  ·simp only[go_sem,h3,w1];exact⟨by omega,⟨i+1,by congr 2;omega,by omega,hj2,by omega⟩,by omega⟩
  ·simp only[go_sem];exact au.mk (by omega) (hSt H2 hs2 (by omega))
 ·simp only[go_sem,h3,hb];have ei:i=n:=by omega
  exact au.mk (by omega) (hK H' (by rw[vr,<- ei];exact hj) hnx)
theorem DA (s:Nat)(H:AHeap)(K:ARes->AHeap->Prop)(hK:K (.ret (.clo 137 [] [.ptr H.next 0 0])) (ext H [.arr 0 110 [.ptr s 0 0]])):
  ae Tryz.prog G0 106 [.ptr s 0 0] H K:=by
 refine ae.aU (n:=4) (rs:=[.tmp 2]) Tryz.func106 rfl rfl rfl (by decide) (by kernel_rfl) (by simp) ?_;simp only[go_sem];exact au.mk (by simp [aR]) hK
end Go.Proofs
namespace Go.Proofs
open Go.Hx
set_option maxHeartbeats 2000000 in
theorem Qn {d:InfP}(hok:InfOk d){r:List Nat}(hr:OrdR d r)(hrl:r.length<=64){lo s:Nat}{lvh:AVal}{I:Nat->Nat->Nat}{be ch:Nat->List Int}
  (hsz:∀ k,k<r.length->(ar d r).cs k*(ar d r).cd k<2 ^ 40) (hcs:∀ k,k<r.length->(ar d r).cs k<2 ^ 40)
  (hbd:∀ (k b:Nat),k+1=r.length->∀ n,n<=bL d.nodes->-4000000000000000000<=(bH (ar d r) k n).getD b 0/\(bH (ar d r) k n).getD b 0<=4000000000000000000) (hbt:∀ n,n<=bL d.nodes->-4000000000000000000<=SS n (ar d r).gain/\SS n (ar d r).gain<=4000000000000000000)
  (hbg:∀ w,w<bL d.nodes->-4000000000000000000<=cY d (wv d w)/\cY d (wv d w)<=4000000000000000000)
  (H:AHeap) (hS:SolvH d r lo s lvh I (iK (ar d r) be ch 0) (eH d r 0) H)
  (K:ARes->AHeap->Prop) (hK:∀ H',H.next<=H'.next->(∀ i,i<H.next->i≠s->(∀ k j,k<r.length->j<6->i≠I k j)->H'.get i=H.get i)->SolvH d r lo s lvh I (iK (ar d r) be ch (bL d.nodes)) (eH d r (bL d.nodes)) H'->K (.ret (.tup [])) H'):
  ae Tryz.prog G0 67 [.ptr s 0 0,.clo 105 [.ptr s 0 0] []] H K:=by
 have n8:=hok.n.n1;have hcards:∀ c∈ak d.nodes,1<=c/\c<=4:=fun c hc=>by
  obtain⟨x,hx,rfl⟩:=List.mem_map.1 hc;exact hok.n.card x hx
 have sm:dY (ak d.nodes):=mL (by rw[de];omega) hcards;have hB0:=hS.sQ;have hsol:=hS.slo.2;have lso:=af hS.top;have lsoe:∀ L,(ext H L).live s 0=_:=fun L=>(eY hsol).trans lso;refine ae.aU (n:=19) (rs:=[]) Tryz.func67 rfl rfl rfl (by decide) (by kernel_rfl) (by simp) ?_;simp only[go_sem,lsoe];refine aA.clo (sH d.nodes (by omega) _ _ ⟨trivial,?_⟩);simp only[go_sem];refine aA.clo (sD (ak d.nodes) _ _ ⟨trivial,?_⟩);simp only[go_sem];obtain⟨H2,hH2⟩:∃ H2,H2=ext (ext H [.arr 0 136 (AVal.clo 105 [.ptr s 0 0] []).cells]) [.arr 0 46 [aj (ak d.nodes)]]:=⟨_,rfl⟩
 have n2:H2.next=H.next+2:=by rw[hH2];rfl
 have o2:Over H H2:=by rw[hH2];exact(Over.ext _ _).trans (.ext _ _)
 have g0:H2.get H.next=some (.arr 0 136 [.clo 105 [.ptr s 0 0] []]):=by rw[hH2,dK];exact ba H _ 0 (by simp)
 have g1:H2.get (H.next+1)=some (.arr 0 46 [aj (ak d.nodes)]):=by rw[hH2,dK];exact ba H _ 1 (by simp)
 refine W.env fun E hE'=>?_;have e3:E 3=.ptr H.next 0 0:=by rw[hE'];simp only[go_sem]
 have e12:E 12=.clo 143 [] [.ptr (H.next+1) 0 0]:=by rw[hE'];rfl
 clear hE';show W _ _ _ _ _ _ ⟨E,ext (ext H [.arr 0 136 (AVal.clo 105 [.ptr s 0 0] []).cells]) [.arr 0 46 [aj (ak d.nodes)]]⟩;rw[<- hH2];have hit:=sC (ak d.nodes) (fun c hc=>(hcards c hc).1) sm (H.next+1) (H2.next+1) (by omega);have hsn:∀ i,H.next<=i->i≠s/\∀ k j,k<r.length->j<6->i≠I k j:=fun i hi=>⟨by have:=hB0.1;omega,fun k j h1 h2=>by have:=hB0.2.1 k j h1 h2;omega⟩
 refine W.ta (f:=143) (first:=[]) (cap:=[.ptr (H.next+1) 0 0]) (by show E 12=_;exact e12) hit
  (fun k Hx=>H2.next<Hx.next/\(∀ id,id<H2.next->id≠s->(∀ k j,k<r.length->j<6->id≠I k j)->Hx.get id=H2.get id)/\SolvH d r lo s lvh I (iK (ar d r) be ch k) (eH d r k) Hx)
  (fun _ _=>False)
  (fun k Hx h=>(h.2.1 _ (by omega) (hsn _ (by omega)).1 (hsn _ (by omega)).2).trans g1)
  (fun k H1 H3 h hw=>⟨by have:=hw.1;omega,fun id h1 h2 h3=>(hw.2 _ (by omega) (by have:=h.1;omega)).trans (h.2.1 id h1 h2 h3),h.2.2.i9 hB0 hw.1 fun id hi=>hw.2 id (by omega) (by have:=h.1;omega)⟩)
  (fun k Hx h=>h.1)
  (fun k H1 b h=>⟨h.1,fun id h1 h2 h3=>by rw[ah,if_neg (by omega)];exact h.2.1 id h1 h2 h3,h.2.2.i9 hB0 (by rw[aD];exact Nat.le_refl _) fun id hi=>by rw[ah,if_neg (by omega)]⟩)
  (fun _ _ _ h=>h) (fun k H1 b h=>by unfold kO at h ⊢;rw[ah,if_neg (by omega)];exact h)
  (fun b=>⟨by rw[aR];simp,fun id h1 h2 h3=>bC h1,hS.i9 hB0 (by rw[aR];omega) fun id hi=>by rw[bC (by omega),o2.old _ hi]⟩) (by decide)
  (fun x hx=>by
   obtain⟨k,hk⟩:=List.mem_iff_getElem?.1 hx;obtain⟨_,rfl⟩:=lP hk;rfl) (fun _ _ _=>trivial) (fun _ _ _=>trivial) (fun k y Hx B Bb hy hj hcs' hn hB hBb=>?_) (fun Hx hj hn=>?_) (fun _ hs _=>hs.elim) (fun _ _ hs _=>hs.elim)
 ·obtain⟨hk,rfl⟩:=lP hy;refine ag _ _ _ (by rfl) ?_;simp only[go_sem,fP,aS,iq,List.foldl_cons,List.foldl_nil,List.zip_cons_cons,List.zip_nil_right,hB];obtain⟨H3,hH3⟩:∃ H3,H3=Hx.upd H2.next Bb:=⟨_,rfl⟩
  rw[<- hH3];obtain⟨st,pd,n',en,ps',as',bo,hBe⟩:=hBb;have n3:H3.next=Hx.next:=by rw[hH3];rfl
  have o3:∀ id,id≠H2.next->H3.get id=Hx.get id:=fun id h=>by rw[hH3,ah,if_neg h]
  have jB:H3.get H2.next=some Bb:=by rw[hH3,ah,if_pos rfl]
  have k0:=af ((o3 _ (by omega)).trans ((hj.2.1 H.next (by omega) (hsn _ (by omega)).1 (hsn _ (by omega)).2).trans g0));have kN:H3.get (H2.next+1)=some (.arr 0 3 (ints (bf (ak d.nodes) k))):=(o3 _ (by omega)).trans hcs';have hS3:SolvH d r lo s lvh I (iK (ar d r) be ch k) (eH d r k) H3:=hj.2.2.i9 hB0 (by omega) fun id hi=>o3 id (by omega);refine W.env fun E1 hE1=>?_;have m3:E1 3=.ptr H.next 0 0:=by rw[hE1];simp only[go_sem,aS,e3]
  have m4:E1 4=aa k:=by rw[hE1];simp only[go_sem,aS]
  have m5:E1 5=.own (H2.next+1) 0 0 d.nodes.length 1:=by rw[hE1];simp only[go_sem,aS,de]
  clear hE1;refine ag _ _ _ (by rfl) ?_;simp only[go_sem,m3,m4,m5,k0];refine aA.clo (Ql hok hr hrl hk hsz hcs hbd hbt (hbg k hk) (H2.next+1) H3 hS3 (by omega) (hsn _ (by omega)) kN d.nodes.length rfl _ fun H4 h4n h4o h4S=>⟨⟨_,_,_,_,_,_,_,by rw[h4o _ (hsn _ (by omega)).1 (hsn _ (by omega)).2,jB,hBe]⟩,?_⟩);simp only[go_sem,dZ];refine⟨by rw[h4o _ (hsn _ (by omega)).1 (hsn _ (by omega)).2];exact jB,by omega,⟨by omega,fun id h1 h2 h3=>by rw[h4o _ h2 h3,o3 _ (by omega)];exact hj.2.1 id h1 h2 h3,h4S⟩,?_⟩;unfold kO;rw[h4o _ (hsn _ (by omega)).1 (hsn _ (by omega)).2];exact kN
 ·simp only[go_sem];have hl:(lO (ak d.nodes) (H2.next+1)).length=bL d.nodes:=qN ..;rw[hl]at hj;exact au.mk (by omega) (hK Hx (by omega) (fun id h1 h2 h3=>(hj.2.1 id (by omega) h2 h3).trans (o2.old _ h1)) hj.2.2)
end Go.Proofs
namespace Go.Hx
variable {P:Program} {t:TypeId} {x y:Operand} {k':IntKind} {a:Int}
theorem yT (h:0<=a/\a<4294967296):bE P .and t x y (.lit (.int .u64 a)) (.lit (.int .u64 4294967295))=some (.lit (.int .u64 a)):=by
 obtain⟨n,rfl⟩:=Int.eq_ofNat_of_zero_le h.1;rw[sY];have e1:(BitVec.ofInt 64 (n:Int)).toNat=n:=by rw[BitVec.ofInt_natCast,BitVec.toNat_ofNat,Nat.mod_eq_of_lt (by omega)]
 have e:(BitVec.ofInt (IntKind.bits .u64) (n:Int) &&& BitVec.ofInt (IntKind.bits .u64) 4294967295).toNat=n:=by
  show (BitVec.ofInt 64 (n:Int) &&& BitVec.ofInt 64 ((4294967295:Nat):Int)).toNat=n;rw[BitVec.toNat_and,e1,show (BitVec.ofInt 64 ((4294967295:Nat):Int)).toNat=2 ^ 32 - 1 by rfl,Nat.and_two_pow_sub_one_eq_mod];omega
 rw[e,IntWalk.u64_in _ (by omega)]
theorem sR (h:0<=a/\a<4294967296):bE P .shr t x y (.lit (.int .u64 a)) (.lit (.int k' 32))=some (.lit (.int .u64 0)):=by
 rw[sX (by decide)];have e:a.fdiv (2 ^ (min (32:Int).toNat (IntKind.bits .u64)))=a / 4294967296:=Int.fdiv_eq_ediv_of_nonneg a (by decide);rw[e,Int.ediv_eq_zero_of_lt h.1 h.2]
end Go.Hx
namespace Go.Proofs
open Go.Hx
theorem Qo (y:Nat)(hy:y<4294967296)(H:AHeap)(K:ARes->AHeap->Prop)(hK:K (.ret (.tup [.lit (.int .u64 0),.lit (.int .u64 y)])) H):ae Tryz.prog G0 149 [.lit (.int .u64 1),.lit (.int .u64 y)] H K:=by
 have ky:(0:Int)<=(y:Int)/\(y:Int)<4294967296:=by omega
 have k1:(0:Int)<=(1:Int)/\(1:Int)<4294967296:=by omega
 have k0:(0:Int)<=(0:Int)/\(0:Int)<4294967296:=by omega
 have v:=IntWalk.u64_in (y:Int) (by omega);have z1:IntKind.u64.wrap 0=0:=rfl;refine ae.d7 (n:=51) (rs:=[.tmp 4,.tmp 5]) Tryz.func149 rfl rfl rfl (by decide) (by simp) ?_;refine W.seq (ag _ _ _ (by rfl) ?_);simp only[go_sem];refine W.env fun E0 hE0=>?_;have a0_0:E0 0=.lit (.int .u64 1):=by rw[hE0];rfl
 have a0_1:E0 1=.lit (.int .u64 y):=by rw[hE0];rfl
 clear hE0;refine W.seq (ag _ _ _ (by rfl) ?_);simp only[go_sem,a0_0,yT,k1];refine W.env fun E1 hE1=>?_;have a1_0:E1 0=.lit (.int .u64 1):=by rw[hE1];exact a0_0
 have a1_1:E1 1=.lit (.int .u64 y):=by rw[hE1];exact a0_1
 have a1_6:E1 6=.lit (.int .u64 1):=by rw[hE1];rfl
 clear hE1;refine W.seq (ag _ _ _ (by rfl) ?_);simp only[go_sem,a1_0,sR,k1];refine W.env fun E2 hE2=>?_;have a2_0:E2 0=.lit (.int .u64 1):=by rw[hE2];exact a1_0
 have a2_1:E2 1=.lit (.int .u64 y):=by rw[hE2];exact a1_1
 have a2_6:E2 6=.lit (.int .u64 1):=by rw[hE2];exact a1_6
 have a2_7:E2 7=.lit (.int .u64 0):=by rw[hE2];rfl
 clear hE2;refine W.seq (ag _ _ _ (by rfl) ?_);simp only[go_sem,a2_1,yT,ky];refine W.env fun E3 hE3=>?_;have a3_0:E3 0=.lit (.int .u64 1):=by rw[hE3];exact a2_0
 have a3_1:E3 1=.lit (.int .u64 y):=by rw[hE3];exact a2_1
 have a3_6:E3 6=.lit (.int .u64 1):=by rw[hE3];exact a2_6
 have a3_7:E3 7=.lit (.int .u64 0):=by rw[hE3];exact a2_7
 have a3_8:E3 8=.lit (.int .u64 y):=by rw[hE3];rfl
 clear hE3;refine W.seq (ag _ _ _ (by rfl) ?_);simp only[go_sem,a3_1,sR,ky];refine W.env fun E4 hE4=>?_;have a4_0:E4 0=.lit (.int .u64 1):=by rw[hE4];exact a3_0
 have a4_1:E4 1=.lit (.int .u64 y):=by rw[hE4];exact a3_1
 have a4_6:E4 6=.lit (.int .u64 1):=by rw[hE4];exact a3_6
 have a4_7:E4 7=.lit (.int .u64 0):=by rw[hE4];exact a3_7
 have a4_8:E4 8=.lit (.int .u64 y):=by rw[hE4];exact a3_8
 have a4_9:E4 9=.lit (.int .u64 0):=by rw[hE4];rfl
 clear hE4;refine W.seq (ag _ _ _ (by rfl) ?_);simp only[go_sem,a4_6,a4_8,v,Int.one_mul];refine W.env fun E5 hE5=>?_;have a5_0:E5 0=.lit (.int .u64 1):=by rw[hE5];exact a4_0
 have a5_1:E5 1=.lit (.int .u64 y):=by rw[hE5];exact a4_1
 have a5_6:E5 6=.lit (.int .u64 1):=by rw[hE5];exact a4_6
 have a5_7:E5 7=.lit (.int .u64 0):=by rw[hE5];exact a4_7
 have a5_8:E5 8=.lit (.int .u64 y):=by rw[hE5];exact a4_8
 have a5_9:E5 9=.lit (.int .u64 0):=by rw[hE5];exact a4_9
 have a5_10:E5 10=.lit (.int .u64 y):=by rw[hE5];rfl
 clear hE5;refine W.seq (ag _ _ _ (by rfl) ?_);simp only[go_sem,a5_7,a5_8,a5_10,sR,ky,z1,Int.zero_mul,Int.add_zero];refine W.env fun E6 hE6=>?_;have a6_0:E6 0=.lit (.int .u64 1):=by rw[hE6];exact a5_0
 have a6_1:E6 1=.lit (.int .u64 y):=by rw[hE6];exact a5_1
 have a6_6:E6 6=.lit (.int .u64 1):=by rw[hE6];exact a5_6
 have a6_7:E6 7=.lit (.int .u64 0):=by rw[hE6];exact a5_7
 have a6_8:E6 8=.lit (.int .u64 y):=by rw[hE6];exact a5_8
 have a6_9:E6 9=.lit (.int .u64 0):=by rw[hE6];exact a5_9
 have a6_10:E6 10=.lit (.int .u64 y):=by rw[hE6];exact a5_10
 have a6_11:E6 11=.lit (.int .u64 0):=by rw[hE6];rfl
 clear hE6;refine W.seq (ag _ _ _ (by rfl) ?_);simp only[go_sem,a6_11,yT,k0];refine W.env fun E7 hE7=>?_;have a7_0:E7 0=.lit (.int .u64 1):=by rw[hE7];exact a6_0
 have a7_1:E7 1=.lit (.int .u64 y):=by rw[hE7];exact a6_1
 have a7_6:E7 6=.lit (.int .u64 1):=by rw[hE7];exact a6_6
 have a7_7:E7 7=.lit (.int .u64 0):=by rw[hE7];exact a6_7
 have a7_8:E7 8=.lit (.int .u64 y):=by rw[hE7];exact a6_8
 have a7_9:E7 9=.lit (.int .u64 0):=by rw[hE7];exact a6_9
 have a7_10:E7 10=.lit (.int .u64 y):=by rw[hE7];exact a6_10
 have a7_11:E7 11=.lit (.int .u64 0):=by rw[hE7];exact a6_11
 have a7_12:E7 12=.lit (.int .u64 0):=by rw[hE7];rfl
 clear hE7;refine W.seq (ag _ _ _ (by rfl) ?_);simp only[go_sem,a7_11,sR,k0];refine W.env fun E8 hE8=>?_;have a8_0:E8 0=.lit (.int .u64 1):=by rw[hE8];exact a7_0
 have a8_1:E8 1=.lit (.int .u64 y):=by rw[hE8];exact a7_1
 have a8_6:E8 6=.lit (.int .u64 1):=by rw[hE8];exact a7_6
 have a8_7:E8 7=.lit (.int .u64 0):=by rw[hE8];exact a7_7
 have a8_8:E8 8=.lit (.int .u64 y):=by rw[hE8];exact a7_8
 have a8_9:E8 9=.lit (.int .u64 0):=by rw[hE8];exact a7_9
 have a8_10:E8 10=.lit (.int .u64 y):=by rw[hE8];exact a7_10
 have a8_11:E8 11=.lit (.int .u64 0):=by rw[hE8];exact a7_11
 have a8_12:E8 12=.lit (.int .u64 0):=by rw[hE8];exact a7_12
 have a8_13:E8 13=.lit (.int .u64 0):=by rw[hE8];rfl
 clear hE8;refine W.seq (ag _ _ _ (by rfl) ?_);simp only[go_sem,a8_6,a8_9,a8_12,z1,Int.mul_zero,Int.add_zero];refine W.env fun E9 hE9=>?_;have a9_0:E9 0=.lit (.int .u64 1):=by rw[hE9];exact a8_0
 have a9_1:E9 1=.lit (.int .u64 y):=by rw[hE9];exact a8_1
 have a9_6:E9 6=.lit (.int .u64 1):=by rw[hE9];exact a8_6
 have a9_7:E9 7=.lit (.int .u64 0):=by rw[hE9];exact a8_7
 have a9_8:E9 8=.lit (.int .u64 y):=by rw[hE9];exact a8_8
 have a9_9:E9 9=.lit (.int .u64 0):=by rw[hE9];exact a8_9
 have a9_10:E9 10=.lit (.int .u64 y):=by rw[hE9];exact a8_10
 have a9_11:E9 11=.lit (.int .u64 0):=by rw[hE9];exact a8_11
 have a9_12:E9 12=.lit (.int .u64 0):=by rw[hE9];rfl
 have a9_13:E9 13=.lit (.int .u64 0):=by rw[hE9];exact a8_13
 clear hE9;refine W.seq (ag _ _ _ (by rfl) ?_);simp only[go_sem,a9_7,a9_9,a9_12,a9_13,sR,k0,z1,Int.mul_zero,Int.add_zero];refine W.env fun E10 hE10=>?_;have a10_0:E10 0=.lit (.int .u64 1):=by rw[hE10];exact a9_0
 have a10_1:E10 1=.lit (.int .u64 y):=by rw[hE10];exact a9_1
 have a10_6:E10 6=.lit (.int .u64 1):=by rw[hE10];exact a9_6
 have a10_7:E10 7=.lit (.int .u64 0):=by rw[hE10];exact a9_7
 have a10_8:E10 8=.lit (.int .u64 y):=by rw[hE10];exact a9_8
 have a10_9:E10 9=.lit (.int .u64 0):=by rw[hE10];exact a9_9
 have a10_10:E10 10=.lit (.int .u64 y):=by rw[hE10];exact a9_10
 have a10_11:E10 11=.lit (.int .u64 0):=by rw[hE10];exact a9_11
 have a10_12:E10 12=.lit (.int .u64 0):=by rw[hE10];exact a9_12
 have a10_13:E10 13=.lit (.int .u64 0):=by rw[hE10];exact a9_13
 have a10_4:E10 4=.lit (.int .u64 0):=by rw[hE10];rfl
 clear hE10;refine ag _ _ _ (by rfl) ?_;simp only[go_sem,a10_0,a10_1,a10_4,v,Int.one_mul];exact au.mk (Nat.le_refl _) hK
end Go.Proofs
namespace Go.Proofs
open Go.Hx
theorem Qp (y:Nat)(hy:y<4294967296)(H:AHeap)(K:ARes->AHeap->Prop)(hK:K (.ret (.tup [.lit (.int .u64 0),.lit (.int .u64 y)])) H):ae Tryz.prog G0 136 [.lit (.int .u64 1),.lit (.int .u64 y)] H K:=by
 have v:=IntWalk.u64_in (y:Int) (by omega);have z1:IntKind.u64.wrap 0=0:=rfl;have z2:IntKind.u64.wrap 1=1:=rfl;refine ae.aU (n:=30) (rs:=[.tmp 4,.tmp 5]) Tryz.func136 rfl rfl rfl (by decide) (by kernel_rfl) (by simp) ?_;simp only[go_sem];refine aA.clo (Qo y hy _ _ ⟨trivial,?_⟩);simp only[go_sem];exact au.mk (Nat.le_refl _) hK
def iL (a:Int)(m n:Nat):List Int:=List.replicate n a++List.replicate (m - n) 0
theorem DB {a:Int}{m n:Nat}(h:n<=m):(iL a m n).length=m:=by unfold iL;simp;omega
theorem Qq {a:Int}{m n:Nat}(h:n<=m):setAt (ints (iL a m n)) n (((ints (iL a m n)).take n).take (min n (m - n)))=ints (iL a m (n+min n (m - n))):=by
 unfold iL ints setAt;simp only[List.map_append,List.map_replicate,List.length_append,List.length_replicate,List.length_take];apply List.ext_getElem
 ·simp;omega
 ·intro i h1 h2;simp [List.getElem_append,List.getElem_take];split
  ·rfl
  ·rw[if_neg (by omega)]
set_option maxHeartbeats 2000000 in
theorem Qr (a:Int)(m:Nat)(hm:1<=m/\m<2 ^ 30)(H:AHeap)(K:ARes->AHeap->Prop)(hK:K (.ret (.own H.next 0 0 m 1)) (ext H [.arr 0 3 (ints (List.replicate m a))])):
  ae Tryz.prog G0 104 [aj [a],aa m] H K:=by
 have v:=IntWalk.u64_in (m:Int) (by omega);have z2:IntKind.u64.wrap 1=1:=rfl;have v2:=IntWalk.i64_in (m:Int) (by omega);have h0:¬ (m:Int)<0:=by omega
 have h9:¬ (9223372036854775807:Int)<(m:Int):=by omega
 refine ae.d7 (n:=48) (rs:=[.tmp 4]) Tryz.func104 rfl rfl rfl (by decide) (by simp) ?_;refine W.seq (ag _ _ _ (by rfl) ?_);simp only[go_sem];refine W.seq (ag _ _ _ (by rfl) ?_);simp only[go_sem,h0];refine W.seq (ag _ _ _ (by rfl) ?_);simp only[go_sem,v,z2];refine aA.clo (Qp m (by omega) _ _ ⟨trivial,?_⟩);simp only[go_sem];refine W.seq (ag _ _ _ (by rfl) ?_);simp only[go_sem,h9];have hm0:(0:Int)<=m:=by omega
 refine W.seq (ag _ _ _ (by rfl) ?_);simp only[go_sem,v2,hm0];refine⟨by omega,?_⟩;obtain⟨H1,hH1⟩:∃ H1,H1=ext H [.arr 0 3 (List.replicate m (.lit (.int .i64 0)))]:=⟨_,rfl⟩
 have e0:List.replicate m (AVal.lit (.int .i64 0))=ints (iL a m 0):=by simp [iL,ints,aa]
 have g1:H1.get H.next=some (.arr 0 3 (ints (iL a m 0))):=by rw[hH1,<- e0];exact bJ
 have n1:H1.next=H.next+1:=by rw[hH1];rfl
 have ex1:∀ (b:Blk) (i:Nat),i≠H.next->(ext H [b]).get i=H.get i:=fun b i h=>by
  unfold ext;simp only[List.length_singleton];rw[if_neg (by omega)]
 have o1:∀ i,i≠H.next->H1.get i=H.get i:=fun i h=>by rw[hH1];exact ex1 _ i h
 rw[<- hH1];clear hH1;have l1:=af g1;have ll1:(ints (iL a m 0)).length=m:=by rw[aT,DB (by omega)]
 have ec:List.take 1 (ints [a])++List.drop (List.take 1 (ints [a])).length (ints (iL a m 0))=ints (iL a m 1):=by
  obtain⟨q,hq⟩:∃ q,m=q+1:=⟨m - 1,by omega⟩
  rw[hq];simp [iL,ints,List.replicate_succ]
 have em:min 1 m=1:=Nat.min_eq_left hm.1;refine W.seq (ag _ _ _ (by rfl) ?_);simp only[go_sem,l1,ll1,em];refine⟨rfl,?_⟩;refine W.env fun E hE=>?_;have e7:E 7=.own H.next 0 0 m 1:=by rw[hE];simp only[go_sem]
 have e8:E 8=aa 1:=by rw[hE];simp only[go_sem]
 clear hE;refine W.seq (W.block ?_);refine W.aQ 140720308486400 (by rfl) (fun ρ Hx=>∃ n:Nat,ρ 8=aa n/\1<=n/\n<=m/\Hx.next=H.next+1/\(∀ i,i≠H.next->Hx.get i=H.get i)/\Hx.get H.next=some (.arr 0 3 (ints (iL a m n)))) (fun ρ Hx=>m - (iv (ρ 8)).toNat) ?_ ?_
 ·simp only[go_sem,e8,ec];exact⟨1,rfl,Nat.le_refl _,hm.1,by rw[aD];exact n1,fun i h=>by rw[ah,if_neg h];exact o1 i h,by rw[ah,if_pos rfl]⟩
 rintro ρ Hx ⟨n,h8,hn1,hn,nx,xo,xg⟩;refine W.env fun E1 hE1=>?_;have f7:E1 7=.own H.next 0 0 m 1:=by rw[hE1];simp only[go_sem,e7]
 have f8:E1 8=aa n:=by rw[hE1];simp only[go_sem,h8]
 clear hE1;have lx:=af xg;have llx:(ints (iL a m n)).length=m:=by rw[aT,DB hn]
 by_cases hb:(n:Int)<m;rotate_left
 ·refine ag _ _ _ (by rfl) ?_;simp only[go_sem,f7,f8,lx,hb];have hnm:n=m:=by omega
  refine ag _ _ _ (by rfl) ?_;simp only[go_sem,f7];have hx:Hx=ext H [.arr 0 3 (ints (List.replicate m a))]:=by
   have hg:∀ i,Hx.get i=(ext H [.arr 0 3 (ints (List.replicate m a))]).get i:=fun i=>by
    by_cases h:i=H.next
    ·rw[h,xg,hnm,bJ];simp [iL]
    ·rw[xo i h,ex1 _ i h]
   cases Hx;simp only at nx hg;unfold ext;congr 1
   ·funext i
    exact hg i
  rw[hx];exact au.mk (by rw[aR];exact Nat.le_add_right ..) hK
 have em2:n+min n (m - n)<=m:=by omega
 have w1:=IntWalk.i64_in ((n:Int)+(min n (m - n):Nat)) (by omega);have ecp:=Qq (a:=a) hn;refine W.seq (ag _ _ _ (by rfl) ?_);simp only[go_sem,f7,f8,lx,hb];refine W.block ?_;refine W.draw 8 [0,0,0,6,0,0,48,126] Tryz.mixed (by kernel_rfl) (by kernel_rfl) ?_;simp only[go_sem,f7,f8,lx,llx,w1,ecp];refine⟨by omega,by omega,⟨by omega,by rw[List.all_eq_true];intro x hx;exact List.all_eq_true.1 (lh _) x (List.mem_of_mem_take hx)⟩,by rw[aD,aD];omega,⟨n+min n (m - n),by simp,by omega,em2,by rw[aD];exact nx,fun i h=>by rw[ah,if_neg h];exact xo i h,by rw[ah,if_pos rfl]⟩,by rw[h8];simp only[aa,bF];omega⟩
end Go.Proofs
namespace Go.Hx
variable {P:Program} {G:Nat->Option (List AVal)} {all:Array Oper} {tail:St->Prop} {b i:Nat} {bs:List Nat} {acc:List (Nat × FP)} {K:FP->St->Prop} {s:St} {d:Option Tmp} {ty:TypeId} {pos:String} {aft:Array Edge} {g:Option (Nat × Bool)}
theorem Qs (bs:List Nat):Ev.d4 P G all tail bs i acc [] s=tail s:=by cases bs<;>rfl
theorem Qt (op:Op)(rest:List Oper):Ev.d4 P G all tail (b :: bs) i acc (⟨d,op,ty,pos,aft,none⟩ :: rest) s =
  Ev.bK P G ⟨d,op,ty,pos,aft,none⟩ (fun f s'=>jf b f acc/\Ev.d4 P G all tail bs (i+1) (ir i f acc) rest s') s:=by
 simp [Ev.d4,gJ,bp]
theorem Qu (fv:Operand)(args:Array Operand)(ats:Array TypeId):Ev.bK P G ⟨d,.call ⟨.value fv,args,ats⟩,ty,pos,aft,g⟩ K s =
  ∃ v e k f,Ev.kW P G (az G s.ρ fv) (args.toList.map (az G s.ρ)) s.H v e k f/\K f ⟨aM s.ρ d v,⟨Ev.dh e s.H.get,s.H.next+k⟩⟩:=rfl
theorem Qv (x:Operand):Ev.bK P G ⟨d,.move x,ty,pos,aft,g⟩ K s=bK P G ⟨d,.move x,ty,pos,aft,g⟩ K s:=rfl
theorem Qw (t:TypeId)(x:Operand):Ev.bK P G ⟨d,.load t x,ty,pos,aft,g⟩ K s=bK P G ⟨d,.load t x,ty,pos,aft,g⟩ K s:=rfl
theorem Qx (x:Operand):Ev.bK P G ⟨d,.nilCheck x,ty,pos,aft,g⟩ K s=bK P G ⟨d,.nilCheck x,ty,pos,aft,g⟩ K s:=rfl
theorem Qy (t:TypeId)(x:Operand)(f:Nat):Ev.bK P G ⟨d,.fieldAddr t x f,ty,pos,aft,g⟩ K s=bK P G ⟨d,.fieldAddr t x f,ty,pos,aft,g⟩ K s:=rfl
theorem Qz (t:TypeId)(x y:Operand):Ev.bK P G ⟨d,.makeSlice t x y,ty,pos,aft,g⟩ K s=bK P G ⟨d,.makeSlice t x y,ty,pos,aft,g⟩ K s:=rfl
theorem QA (t:TypeId)(l:Nat)(p:Array (Nat × Operand)):Ev.bK P G ⟨d,.buildSlice t l p,ty,pos,aft,g⟩ K s=bK P G ⟨d,.buildSlice t l p,ty,pos,aft,g⟩ K s:=rfl
theorem QB (t:TypeId)(p:Array (Nat × Operand)):Ev.bK P G ⟨d,.build t p,ty,pos,aft,g⟩ K s=bK P G ⟨d,.build t p,ty,pos,aft,g⟩ K s:=rfl
theorem QC (t:TypeId)(x:Operand):Ev.bK P G ⟨d,.box t x,ty,pos,aft,g⟩ K s=bK P G ⟨d,.box t x,ty,pos,aft,g⟩ K s:=rfl
theorem QD (op:BinOp)(t:TypeId)(x y:Operand)(u:TypeId):Ev.bK P G ⟨d,.binOp op t x y u,ty,pos,aft,g⟩ K s=bK P G ⟨d,.binOp op t x y u,ty,pos,aft,g⟩ K s:=rfl
theorem DC (f:Builtin)(args:Array Operand)(ats:Array TypeId):Ev.bK P G ⟨d,.call ⟨.builtin f,args,ats⟩,ty,pos,aft,g⟩ K s=bK P G ⟨d,.call ⟨.builtin f,args,ats⟩,ty,pos,aft,g⟩ K s:=rfl
theorem QE (a:Nat):Ev.pW a (a+1)=[a]:=by
 unfold Ev.pW;rw[Nat.add_sub_cancel_left];simp [List.range_succ]
theorem QG {H:AHeap}{bk:Blk}:(⟨Ev.dh (Ev.ju H.next (H.next+1) (fun _=>true) (ext ⟨fun _=>none,H.next⟩ [bk]).get) H.get,H.next+1⟩:AHeap)=ext H [bk]:=by
 unfold ext;simp only[List.length_singleton];congr 1
 funext j
 unfold Ev.dh Ev.ju;by_cases h:H.next<=j/\j<H.next+1
 ·have:j=H.next:=by omega
  subst this;simp
 ·simp [h]
theorem aF.QH {lo k g':Nat}{H:AHeap}{e e':TypeId}{v:AVal}{cs c:List AVal}(h:aF lo H e v cs)(hk:H.get k=some (.arr g' e' c))(hne:e'≠e):∀ g n,v≠.own k g 0 n 1:=fun g n hv=>by
 rcases h with ⟨h1,_⟩|⟨i,g2,_,_,h3,h4⟩
 ·rw[h1]at hv;cases hv
 ·rw[h3]at hv;obtain rfl:=(AVal.own.inj hv).1;rw[h4]at hk;cases hk;exact hne rfl
end Go.Hx
namespace Go.Proofs
open Go.Hx
theorem QI {H:AHeap}{ib m:Nat}{a:Int}(hm:1<=m/\m<2 ^ 30)(hi:ib<H.next)(hg:H.get ib=some (.arr 0 3 [aa a])):
  Ev.kW Tryz.prog G0 (.clo 104 [] []) [.own ib 0 0 1 1,aa m] H (.own H.next 0 0 m 1) (Ev.ju H.next (H.next+1) (fun _=>true) (ext ⟨fun _=>none,H.next⟩ [.arr 0 3 (ints (List.replicate m a))]).get) 1 ⟨Ev.pW H.next (H.next+1),[ib]⟩:=by
 have e:H.next+1 - H.next=1:=by omega
 have hnx:(ext (⟨fun _=>none,H.next⟩:AHeap) [.arr 0 3 (ints (List.replicate m a))]).next=H.next+1:=rfl;have:=Ev.kW.mk (P:=Tryz.prog) (G:=G0) (H:=H) (f:=104) (first:=[]) (cap:=[]) (args:=[.own ib 0 0 1 1,aa m]) (args':=[aj [a],aa m]) (v:=.own H.next 0 0 m 1) ⟨fun _=>none,H.next⟩ (ext ⟨fun _=>none,H.next⟩ [.arr 0 3 (ints (List.replicate m a))]) (fun _=>False) (fun _=>true) [ib] aJ
  (fun r hr=>by rw[List.mem_singleton.1 hr];exact hi) rfl (by rw[hnx];exact Nat.le_succ _) (fun _ h=>h.elim) (fun _ _=>rfl) rfl
  (fun H2 hag i h h'=>match i,h with
   | 0,_=>Fz.ints (fun h=>h) ((hag ib (by simp)).trans hg) rfl (fun j hj=>by
     have:j=0:=(by simp at hj;omega);subst this;rfl)
   | 1,_=>.lit _)
  (Qr a m hm ⟨fun _=>none,H.next⟩ _ ⟨rfl,rfl⟩) ?_ ?_
 ·rw[hnx,e]at this;exact this
 ·exact .own (.inr ⟨Nat.le_refl _,by rw[hnx];exact Nat.lt_succ_self _,rfl⟩)
 ·intro id h1 h2 _;have:id=H.next:=by rw[hnx]at h2;omega
  subst this;exact⟨0,_,_,bJ (H:=⟨fun _=>none,H.next⟩),fun i hi=>by simp only[ints,List.getElem_map];exact .lit _⟩
end Go.Proofs
namespace Go.Proofs
open Go.Hx
def cw (l:List Int):Nat:=(l.map Int.natAbs).sum
theorem sq (a b:List Int):cw (a++b)=cw a+cw b:=by simp [cw]
theorem po (x:Int)(l:List Int):cw (x :: l)=x.natAbs+cw l:=by simp [cw]
theorem yz (n:Nat):cw (List.replicate n 0)=0:=by simp [cw]
theorem CG (l:List Int)(i:Nat)(a:Int):cw (l.set i a)<=cw l+(a - l.getD i 0).natAbs:=by
 induction l generalizing i with
 | nil=>simp [cw]
 | cons x l ih =>
  cases i with
  | zero=>simp only[List.set_cons_zero,po,List.getD_cons_zero];omega
  | succ i =>
   have:=ih i;simp only[List.set_cons_succ,po,List.getD_cons_succ];omega
theorem uS (l:List Int)(i:Nat):(l.getD i 0).natAbs<=cw l:=by
 induction l generalizing i with
 | nil=>simp [cw]
 | cons x l ih =>
  cases i with
  | zero=>simp only[po,List.getD_cons_zero];omega
  | succ i=>have:=ih i;simp only[po,List.getD_cons_succ];omega
theorem Ow {l:List Int}{a:Int}(h:a∈l):a.natAbs<=cw l:=by
 obtain⟨i,hi⟩:=List.mem_iff_getElem?.1 h;have:=uS l i;rw[List.getD_eq_getElem?_getD,hi]at this;exact this
theorem Ox (l:List Int):(ie l).natAbs<=cw l:=by
 by_cases h:l=[]
 ·subst h;simp [ie]
 ·exact Ow (xT h)
theorem Oy (l:List Int)(n:Nat):cw (l.take n)+cw (l.drop n)=cw l:=by rw[<- sq,List.take_append_drop]
theorem Oz (cs cd:Nat)(ex:List Int):jU (cs+1) cd ex=jU cs cd ex++[ie (iV cd cs ex)]:=by unfold jU;rw[List.range_succ,List.map_append];rfl
theorem yA (cs cd:Nat)(ex:List Int):cw (jU cs cd ex)<=cw (ex.take (cs*cd)):=by
 induction cs with
 | zero=>simp [jU,cw]
 | succ cs ih =>
  rw[Oz,sq,po];have h1:=Ox (iV cd cs ex);have h2:ex.take ((cs+1)*cd)=ex.take (cs*cd)++iV cd cs ex:=by
   unfold iV;rw[Nat.add_mul,Nat.one_mul,List.take_add]
  have h3:cw []=0:=rfl;rw[h2,sq,h3];omega
theorem qK (l:List Int)(n:Nat):cw (l.take n)<=cw l:=by have:=Oy l n;omega
theorem CH (ab be ex:List Int)(n:Nat):cw (dL ab be n ex)<=cw ex+cw (be.take n):=by
 induction n with
 | zero=>simp [dL]
 | succ n ih =>
  rw[uP];have h1:=CG (dL ab be n ex) (ab.getD n 0).toNat ((dL ab be n ex).getD (ab.getD n 0).toNat 0+be.getD n 0);have h2:cw (be.take n)+(be.getD n 0).natAbs<=cw (be.take (n+1)):=by
   by_cases h:n<be.length
   ·obtain⟨x,hx⟩:=aw h;rw[aY hx,sq,po,List.getD_eq_getElem?_getD,hx];show cw (be.take n)+x.natAbs<=_;omega
   ·rw[List.take_of_length_le (by omega),List.take_of_length_le (by omega),List.getD_eq_getElem?_getD,List.getElem?_eq_none (by omega)];simp
  omega
theorem CI {D:DPr}{g:Nat}(hg:∀ w,w<D.N->(D.gain w).natAbs<=g)(k:Nat):∀ n,n<=D.N->cw (bH D k n)<=g*n:=by
 intro n
 induction n with
 | zero=>intro _;unfold bH;rw[yz];exact Nat.zero_le _
 | succ n ih =>
  intro hn;have h1:=ih (by omega);have h2:=hg n (by omega);rw[Nat.mul_add,Nat.mul_one];unfold bH;split
  ·have:=CG (bH D k n) (D.br k n) ((bH D k n).getD (D.br k n) 0+D.gain n);omega
  ·omega
theorem CJ {D:DPr}{g:Nat}(hg:∀ w,w<D.N->(D.gain w).natAbs<=g):∀ (m k:Nat),k+1+m=D.K->cw (EF D k)<=g*D.N:=by
 intro m
 induction m with
 | zero =>
  intro k hk;rw[yu (by omega)];exact CI hg k _ (Nat.le_refl _)
 | succ m ih =>
  intro k hk;rw[yw (by omega)];have h1:=ih (k+1) (by omega);have h2:=CH (cM D (k+1) D.N) (BF D (k+1)) (bH D k D.N) (D.cs (k+1));have h3:=qK (BF D (k+1)) (D.cs (k+1));have h4:cw (BF D (k+1))<=cw (EF D (k+1)):=Nat.le_trans (yA _ _ _) (qK _ _);rw[sj (by omega),yz]at h2;rw[sj (by omega)];omega
theorem OA {D:DPr}{g:Nat}(hg:∀ w,w<D.N->(D.gain w).natAbs<=g){k:Nat}(hk:k<D.K)(hk0:0<k)(n:Nat):cw (dL (cM D k D.N) (BF D k) n (bH D (k - 1) D.N))<=g*D.N:=by
 have h1:=CJ hg (D.K - 1 - k) k (by omega);have h2:=CH (cM D k D.N) (BF D k) (bH D (k - 1) D.N) n;have h3:=qK (BF D k) n;have h4:cw (BF D k)<=cw (EF D k):=Nat.le_trans (yA _ _ _) (qK _ _);rw[sj (by omega),yz]at h2;rw[sj (by omega)];omega
theorem OB (l:List Int):∀ n,(SS n fun c=>l.getD c 0).natAbs<=cw (l.take n):=by
 intro n
 induction n with
 | zero=>rw[mz];simp
 | succ n ih =>
  rw[fg];by_cases h:n<l.length
  ·obtain⟨x,hx⟩:=aw h;rw[aY hx,sq,po,List.getD_eq_getElem?_getD,hx];show _<=cw (l.take n)+(x.natAbs+cw [])
   simp only[Option.getD_some];omega
  ·rw[List.take_of_length_le (by omega)]at ih;rw[List.take_of_length_le (by omega),List.getD_eq_getElem?_getD,List.getElem?_eq_none (by omega)];simp only[Option.getD_none,Int.add_zero];exact ih
theorem OC {D:DPr}{g:Nat}(hg:∀ w,w<D.N->(D.gain w).natAbs<=g):∀ n,n<=D.N->(SS n D.gain).natAbs<=g*n:=by
 intro n
 induction n with
 | zero=>intro _;rw[mz];simp
 | succ n ih =>
  intro hn;have:=ih (by omega);have:=hg n (by omega);rw[fg,Nat.mul_add,Nat.mul_one];omega
theorem OD {d:InfP}(hok:InfOk d)(h6:d.nodes.length<=6)(r:List Nat):(∀ w,w<(ar d r).N->((ar d r).gain w).natAbs<=18662400000000)/\18662400000000*(ar d r).N<=20000000000000000:=by
 have h1:=(yd hok.net).1;rw[uV]at h1;refine⟨fun w _=>?_,by show 18662400000000*bL d.nodes<=_;omega⟩;have:=sW hok h6 (jk hok w);show (cY d (wv d w)).natAbs<=_;omega
end Go.Proofs
namespace Go.Proofs
open Go.Hx
def dC (D:DPr)(ch:Nat->List Int)(j:Nat):TabS:=⟨fun k=>cM D k D.N,fun k=>dX D k D.N,fun k=>if j<=k+1 then EF D k else bH D k D.N,fun k=>if j<=k then BF D k else List.replicate (D.cs k) 0,ch⟩
def pC (D:DPr):Nat->List Int:=fun k=>List.replicate (D.cs k) 0
def eh (D:DPr):Nat->List Int:=fun k=>List.replicate (D.cs k) (-1)
def iZ (D:DPr)(j:Nat):Int:=if D.K=0\/j=0 then qF D else 0
theorem yL {D:DPr}{ch:Nat->List Int}(hc:∀ k,k<D.K->(ch k).length=D.cs k)(j:Nat):(dC D ch j).Len D D.K:=by
 refine⟨fun k _=>nV D k _,fun k _=>pj D k _,fun k _=>?_,fun k _=>?_,hc⟩
 ·unfold dC;simp only;split
  ·exact yt D k
  ·exact lM D k _
 ·unfold dC;simp only;split
  ·exact Cx ..
  ·simp
theorem Pr (D:DPr)(ch:Nat->List Int):vo D.K (iK D (pC D) ch D.N) (dC D ch D.K):=fun k j hk=>by
 have e1:(if D.K<=k then BF D k else List.replicate (D.cs k) 0)=List.replicate (D.cs k) 0:=if_neg (by omega);have e2:(if D.K<=k+1 then EF D k else bH D k D.N)=bH D k D.N:=by
  split
  ·exact yu (by omega)
  ·rfl
 unfold dm iK dC pC;simp only[e1,e2]
theorem yM {D:DPr}{ch:Nat->List Int}{k:Nat}(hk:k<D.K):cz D (dC D ch (k+1)) k=BF D k:=by
 unfold cz BF;have:(dC D ch (k+1)).ex k=EF D k:=if_pos (Nat.le_refl _);rw[this]
theorem Ps {D:DPr}{ch:Nat->List Int}{k:Nat}(hk:k<D.K):vo D.K (sO D (dC D ch (k+1)) k) (dC D ch k):=fun k' j hk'=>by
 have hA:=yM (ch:=ch) hk;have e1:eB (dC D ch (k+1)).be k (cz D (dC D ch (k+1)) k) k'=if k<=k' then BF D k' else List.replicate (D.cs k') 0:=by
  by_cases e:k'=k
  ·rw[e,ka,hA,if_pos (Nat.le_refl _)]
  ·rw[jo e];show (if k+1<=k' then BF D k' else List.replicate (D.cs k') 0)=_;by_cases h:k<=k'
   ·rw[if_pos h,if_pos (by omega)]
   ·rw[if_neg h,if_neg (by omega)]
 have e2:(if 0<k then eB (dC D ch (k+1)).ex (k - 1) (dL ((dC D ch (k+1)).ab k) (cz D (dC D ch (k+1)) k) (D.cs k) ((dC D ch (k+1)).ex (k - 1))) else (dC D ch (k+1)).ex) k'=if k<=k'+1 then EF D k' else bH D k' D.N:=by
  by_cases h0:0<k
  ·rw[if_pos h0,hA];by_cases e:k'=k - 1
   ·rw[e,ka,if_pos (by omega)];have h1:(dC D ch (k+1)).ex (k - 1)=bH D (k - 1) D.N:=if_neg (by omega);have h2:=yw (D:=D) (k:=k - 1) (by omega);rw[Nat.sub_add_cancel h0]at h2;rw[h1,h2];rfl
   ·rw[jo e];show (if k+1<=k'+1 then EF D k' else bH D k' D.N)=_;by_cases h:k<=k'+1
    ·rw[if_pos h,if_pos (by omega)]
    ·rw[if_neg h,if_neg (by omega)]
  ·rw[if_neg h0];show (if k+1<=k'+1 then EF D k' else bH D k' D.N)=_;rw[if_pos (by omega),if_pos (by omega)]
 unfold dm sO dC at *
 simp only at e1 e2;simp only[e1,e2]
theorem Pt {D:DPr}{ch:Nat->List Int}{k:Nat}(hk:k<D.K):gI D (dC D ch (k+1)) k (D.cs k) (iZ D (k+1))=iZ D k:=by
 have hA:=yM (ch:=ch) hk;have h0:iZ D (k+1)=0:=by unfold iZ;rw[if_neg (by omega)]
 unfold gI;rw[h0,hA];by_cases h:0<k
 ·rw[if_pos h];unfold iZ;rw[if_neg (by omega)]
 ·have:k=0:=by omega
  subst this;rw[if_neg h];unfold iZ qF;rw[if_pos (by omega),if_neg (by omega)];simp
theorem C8 {d:InfP}:∀ (f need:Nat) (out r:List Nat),iz d f need out=some r->r.length<=out.length+f:=by
 intro f
 induction f with
 | zero =>
  intro need out r h;unfold iz at h;split at h
  ·cases h;omega
  ·cases h
 | succ f ih =>
  intro need out r h;unfold iz at h;split at h
  ·cases h;omega
  ·split at h
   ·cases h
   ·have:=ih _ _ r h;rw[List.length_append,List.length_singleton]at this;omega
theorem C9 {d:InfP}(hok:InfOk d){r:List Nat}(hr:OrdR d r):∀ k,k<r.length->1<=(ar d r).cs k/\(ar d r).cs k<=1024/\1<=(ar d r).cd k/\(ar d r).cd k<=4/\(ar d r).cs k*(ar d r).cd k<=4096:=fun k hk=>by
 obtain⟨v,hv⟩:=aw hk;have hvd:r.getD k 0=v:=fS hv;have hm:=hr.mem v (List.mem_of_getElem? hv);obtain⟨x,hx⟩:=aw (d5.1 hm).1;obtain⟨hrn,hxp,_,_⟩:=qX hok hx;have hxc:=hok.n.card x (List.mem_of_getElem? hx);obtain⟨e1',e2'⟩:=jm hx (by omega);have ecs:(ar d r).cs k=bj d.nodes x:=by show cC d (r.getD k 0)=_;rw[hvd];exact e1'
 have ecd:((ar d r).cd k:Int)=x.card:=by show (cS d (r.getD k 0):Int)=_;rw[hvd];exact e2'
 have hsz0:=hok.net.size;rw[kM]at hsz0;have:=xZ hxp hok.n.card;have h1:=qG hok hr k hk;have a1:(ar d r).cs k<=1024:=by omega
 have a2:(ar d r).cd k<=4:=by omega
 exact⟨h1,a1,by omega,a2,Nat.mul_le_mul a1 a2⟩
end Go.Proofs
namespace Go.Proofs
open Go.Hx
structure BldH (d:InfP)(r:List Nat)(lo s n:Nat)(lvh:AVal)(I:Nat->Nat->Nat)(H:AHeap):Prop where
 top:H.get s=some (.arr 0 130 [.lit (.int .i64 d.grain),.vec d.nodes.length (aC d.nodes),.lit (.int .u64 (d.decs:Int)),.vec d.utils.length (aV d.utils),lvh,aj (dp d),aj (df d),.lit (.int .i64 0)])
 slo:s<H.next
 lv:aF lo H 170 lvh (iY I n)
 sep:∀ k j,k<n->j<6->s≠I k j
 sepl:∀ id g m,lvh=.own id g 0 m 1->id≠s/\∀ k j,k<n->j<6->id≠I k j
 levs:LevH (ar d r) r lo n I (iK (ar d r) (pC (ar d r)) (eh (ar d r)) 0) H
 nv:n=0->lvh=.lit (.slice none 0 0)
set_option maxHeartbeats 4000000 in
theorem Da (d:InfP)(hf:InfFit d)(h6:d.nodes.length<=6)(H:AHeap)(K:ARes->AHeap->Prop)
  (hE:∀ H',Over H H'->cU d=4->K (.ret (.tup [.lit (.pointer none),.lit (.int .i64 210)])) H')
  (hE2:∀ H',Over H H'->cU d≠4->cU d≠0->K (.ret (.tup [.lit (.pointer none),aa (cU d)])) H')
  (hK:∀ (r:List Nat) (s:Nat) (lvh:AVal) (I:Nat->Nat->Nat) (H':AHeap),fZ d=some r->InfOk d->Over H H'->SolvH d r H.next s lvh I (dC (ar d r) (eh (ar d r)) 0) (iZ (ar d r) 0) H'->(r=[]->lvh=.lit (.slice none 0 0))->K (.ret (.tup [.ptr s 0 0,.lit (.int .i64 0)])) H'):
  ae Tryz.prog G0 46 [dD d] H K:=by
 refine ae.d7 (n:=96) (rs:=[.tmp 2,.tmp 3]) Tryz.func46 rfl rfl rfl (by decide) (by simp) ?_;refine W.seq (ag _ _ _ (by rfl) ?_);simp only[go_sem,gR,bD];obtain⟨H1,hH1⟩:∃ H1,H1=ext H [.arr 0 38 [.lit (.int .i64 d.grain),.vec d.nodes.length (aC d.nodes),.lit (.int .u64 (d.decs:Int)),.vec d.utils.length (aV d.utils)]]:=⟨_,rfl⟩
 have g1:H1.get H.next=some (.arr 0 38 [.lit (.int .i64 d.grain),.vec d.nodes.length (aC d.nodes),.lit (.int .u64 (d.decs:Int)),.vec d.utils.length (aV d.utils)]):=by rw[hH1];exact bJ
 have n1:H1.next=H.next+1:=by rw[hH1];rfl
 have o1:Over H H1:=by rw[hH1];exact .ext _ _
 rw[<- hH1];clear hH1;have l1:=af g1;refine W.seq (ag _ _ _ (by rfl) ?_);simp only[go_sem,l1];refine aA.clo (KT d hf _ _ ⟨trivial,?_⟩);simp only[go_sem];refine W.env fun E hE1=>?_;have e1:E 1=.ptr H.next 0 0:=by rw[hE1];simp only[go_sem]
 have e4:E 4=aj (bA (nC d)):=by rw[hE1];simp only[go_sem]
 have e5:E 5=aa (cU d):=by rw[hE1];simp only[go_sem]
 clear hE1;by_cases h4:cU d=4
 ·refine W.seq (ag _ _ _ (by rfl) ?_);simp only[go_sem,e5,h4];exact au.mk o1.next (hE H1 o1 h4)
 refine W.seq (ag _ _ _ (by rfl) ?_);simp only[go_sem,e5,h4];by_cases h0:cU d=0;rotate_left
 ·refine W.seq (ag _ _ _ (by rfl) ?_);simp only[go_sem,e5,h0];exact au.mk o1.next (hE2 H1 o1 h4 h0)
 have hok:InfOk d:=by
  unfold cU at h0;by_cases h:InfOk d
  ·exact h
  ·rw[iI h]at h0;simp at h0
 obtain⟨r,hr⟩:∃ r,fZ d=some r:=by
  unfold cU at h0;rw[dM hok]at h0;simp only[if_true]at h0;split at h0
  ·rename_i hs;exact Option.isSome_iff_exists.1 hs
  ·cases h0
 have hrv:nC d=r:=by unfold nC;rw[if_pos h0,hr];rfl
 rw[hrv]at e4;have hrl8:r.length<=8:=by
  have h1:=C8 _ _ _ _ hr;have h2:(aO d).length<=d.nodes.length:=mv;have h3:=hok.n.n1;simp at h1;omega
 have hrl:r.length<=64:=by omega
 have hro:=nU hr;refine W.seq (ag _ _ _ (by rfl) ?_);simp only[go_sem,e5,h0];refine W.seq (ag _ _ _ (by rfl) ?_);simp only[go_sem,e1,l1];obtain⟨H2,hH2⟩:∃ H2,H2=ext H1 [.arr 0 130 [.lit (.int .i64 d.grain),.vec d.nodes.length (aC d.nodes),.lit (.int .u64 (d.decs:Int)),.vec d.utils.length (aV d.utils),.lit (.slice none 0 0),.lit (.slice none 0 0),.lit (.slice none 0 0),.lit (.int .i64 0)],.arr 0 110 [.ptr H1.next 0 0]]:=⟨_,rfl⟩
 have g2:H2.get H1.next=some (.arr 0 130 [.lit (.int .i64 d.grain),.vec d.nodes.length (aC d.nodes),.lit (.int .u64 (d.decs:Int)),.vec d.utils.length (aV d.utils),.lit (.slice none 0 0),.lit (.slice none 0 0),.lit (.slice none 0 0),.lit (.int .i64 0)]):=by rw[hH2];exact cq ..
 have g3:H2.get (H1.next+1)=some (.arr 0 110 [.ptr H1.next 0 0]):=by rw[hH2];exact ba H1 _ 1 (by simp)
 have n2:H2.next=H1.next+2:=by rw[hH2];rfl
 have o2:Over H1 H2:=by rw[hH2];exact .ext _ _
 rw[<- hH2];clear hH2;have l1':=af ((o2.old _ (by omega)).trans g1);have l2:=af g2;have l3:=af g3;refine W.env fun E2 hE2'=>?_;have f1:E2 1=.ptr H.next 0 0:=by rw[hE2'];simp only[go_sem,e1]
 have f4:E2 4=aj (bA r):=by rw[hE2'];simp only[go_sem,e4]
 have f6:E2 6=.ptr (H1.next+1) 0 0:=by rw[hE2'];simp only[go_sem]
 clear hE2' e1 e4 e5 l1;refine W.mo (fun s'=>s'.ρ 4=aj (bA r)/\s'.ρ 6=.ptr (H1.next+1) 0 0/\s'.H.next=H2.next/\(∀ i,i≠H1.next->s'.H.get i=H2.get i)/\s'.H.get H1.next=some (.arr 0 130 [.lit (.int .i64 d.grain),.vec d.nodes.length (aC d.nodes),.lit (.int .u64 (d.decs:Int)),.vec d.utils.length (aV d.utils),.lit (.slice none 0 0),aj (dp d),aj (df d),.lit (.int .i64 0)])) ?_ ?_
 ·refine W.draw 10 [0,0,0,4,12,28,28,61,189,445] Tryz.mixed (by kernel_rfl) (by kernel_rfl) ?_;simp only[go_sem,f1,f6,l1',l3];refine⟨.tup [aj (dp d),aj (df d)],[],bU.pure fun H9=>DL d hok hf.decs H9 _ ⟨rfl,rfl⟩,?_⟩;simp only[go_sem,f1,f4,f6,l2];refine⟨fun x hx=>by omega,by rw[aD,aD],fun i h=>?_,?_⟩
  ·rw[ah,if_neg h,ah,if_neg h]
  ·rw[ah,if_pos rfl]
 rintro⟨ρ3,H3⟩ ⟨k4,k6,n3,o3,g4⟩;simp only at k4 k6 n3 o3 g4;clear f1 f4 f6 l1' l2 l3;have g5:H3.get (H1.next+1)=_:=(o3 _ (by omega)).trans g3;have hnl:(bA r).length=r.length:=by simp [bA]
 refine W.seq (ag _ _ _ (by rfl) ?_);simp only[go_sem,k4,hnl];refine W.env fun E3 hE3=>?_;have m6:E3 6=.ptr (H1.next+1) 0 0:=by rw[hE3];simp only[go_sem,k6]
 have m36:E3 36=.vec r.length (ints (bA r)):=by rw[hE3];simp only[go_sem]
 have m37:E3 37=aa r.length:=by rw[hE3];simp only[go_sem]
 have m38:E3 38=aa 0:=by rw[hE3];simp only[go_sem]
 clear hE3 k4 k6;refine W.aQ 38685626227667858712692480 (by rfl) (fun ρ Hx=>∃ (n:Nat) (lvh:AVal) (I:Nat->Nat->Nat),ρ 38=aa n/\n<=r.length/\H3.next<=Hx.next/\(∀ i,i<H3.next->i≠H1.next->Hx.get i=H3.get i)/\BldH d r H3.next H1.next n lvh I Hx) (fun ρ Hx=>r.length - (iv (ρ 38)).toNat) ?_ ?_
 ·simp only[go_sem,m38];refine⟨0,.lit (.slice none 0 0),fun _ _=>0,rfl,Nat.zero_le _,⟨g4,by omega,.nil,fun k j h=>absurd h (Nat.not_lt_zero _),fun id g m h=>(by cases h),?_,fun _=>rfl⟩⟩;exact⟨fun k j k' j' h=>absurd h (Nat.not_lt_zero _),fun k j h=>absurd h (Nat.not_lt_zero _),fun k h=>absurd h (Nat.not_lt_zero _),fun k j h=>absurd h (Nat.not_lt_zero _),⟨fun k h=>absurd h (Nat.not_lt_zero _),fun k h=>absurd h (Nat.not_lt_zero _),fun k h=>absurd h (Nat.not_lt_zero _),fun k h=>absurd h (Nat.not_lt_zero _),fun k h=>absurd h (Nat.not_lt_zero _)⟩⟩
 rintro ρ Hx ⟨n,lvh,I,h38,hn,nx,hout,hB⟩;refine W.env fun E4 hE4=>?_;have f6:E4 6=.ptr (H1.next+1) 0 0:=by rw[hE4];simp only[go_sem,m6]
 have f36:E4 36=.vec r.length (ints (bA r)):=by rw[hE4];simp only[go_sem,m36]
 have f37:E4 37=aa r.length:=by rw[hE4];simp only[go_sem,m37]
 have f38:E4 38=aa n:=by rw[hE4];simp only[go_sem,h38]
 clear hE4;have gp:=(hout (H1.next+1) (by omega) (by omega)).trans g5;have lp:=af gp;have ls:=af hB.top;by_cases hb:(n:Int)<r.length;rotate_left
 ·refine ag _ _ _ (by rfl) ?_;simp only[go_sem,f37,f38,hb];have hnr:n=r.length:=by omega
  subst hnr;have hD0:=C9 hok hro;obtain⟨hg1,hg2⟩:=OD hok h6 r;have ht0:eH d r 0=0:=by unfold eH;split<;>rfl
  have hS0:SolvH d r H.next H1.next lvh I (iK (ar d r) (pC (ar d r)) (eh (ar d r)) 0) (eH d r 0) Hx:=by
   rw[ht0];exact⟨hB.top,⟨by omega,hB.slo⟩,hB.lv.keep (by omega) (Nat.le_refl _) fun _ _ _ _ _ _=>rfl,hB.sep,hB.sepl,⟨hB.levs.inj,fun k j h1 h2=>by have:=hB.levs.rng k j h1 h2;omega,hB.levs.lev,hB.levs.tab,hB.levs.len⟩⟩
  refine W.seq (ag _ _ _ (by rfl) ?_);simp only[go_sem,f6,lp];refine aA.clo (Qn hok hro hrl (fun k hk=>by have:=hD0 k hk;omega) (fun k hk=>by have:=hD0 k hk;omega) (fun k b hk n hn=>?_) (fun n hn=>?_) (fun w hw=>?_) Hx hS0 _ fun H4 n4 o4 hS4=>⟨trivial,?_⟩)
  ·have h1:=CI hg1 k n hn;have h2:=uS (bH (ar d r) k n) b;have h3:18662400000000*n<=18662400000000*(ar d r).N:=Nat.mul_le_mul_left _ hn;omega
  ·have h1:=OC hg1 n hn;have h3:18662400000000*n<=18662400000000*(ar d r).N:=Nat.mul_le_mul_left _ hn;omega
  ·have:=sW hok h6 (jk hok w);omega
  simp only[go_sem];have gp4:H4.get (H1.next+1)=some (.arr 0 110 [.ptr H1.next 0 0]):=(o4 _ (by have:=nx;omega) (by omega) (fun k j h1 h2 e=>by have:=(hB.levs.rng k j h1 h2).1;omega)).trans gp;have lp4:=af gp4;refine W.seq (ag _ _ _ (by rfl) ?_);simp only[go_sem,f6,lp4];refine aA.clo (DA H1.next H4 _ ⟨trivial,?_⟩);simp only[go_sem];obtain⟨H5,hH5⟩:∃ H5,H5=ext H4 [.arr 0 110 [.ptr H1.next 0 0]]:=⟨_,rfl⟩
  have n5:H5.next=H4.next+1:=by rw[hH5];rfl
  have o5:Over H4 H5:=by rw[hH5];exact .ext _ _
  have gbx:H5.get H4.next=some (.arr 0 110 [.ptr H1.next 0 0]):=by rw[hH5];exact bJ
  rw[<- hH5];clear hH5;have hT5:SolvH d r H.next H1.next lvh I (dC (ar d r) (eh (ar d r)) r.length) (iZ (ar d r) r.length) H5:=by
   have h1:=(hS4.same (Pr (ar d r) (eh (ar d r))) (yL (fun k _=>by simp [eh]) _)).i9 hS4.sQ (by omega) fun i hi=>o5.old i hi;have h2:eH d r (bL d.nodes)=iZ (ar d r) r.length:=by
    unfold eH iZ;by_cases h:r.length=0
    ·rw[if_pos h,if_pos (.inl h)];unfold qF;rw[if_pos (show (ar d r).K=0 from h)];rfl
    ·rw[if_neg h,if_neg (by rintro(h1|h1)<;>exact h h1)]
   rw[<- h2];exact h1
  have hB5:=hT5.sQ;refine W.env fun E6 hE6=>?_;have w6:E6 6=.ptr (H1.next+1) 0 0:=by rw[hE6];simp only[go_sem,f6]
  have w90:E6 90=.clo 137 [] [.ptr H4.next 0 0]:=by rw[hE6];rfl
  clear hE6;have hni:∀ k j,k<r.length->j<6->I k j<H4.next:=fun k j h1 h2=>(hS4.levs.rng k j h1 h2).2;have hns:H1.next<H4.next:=hS4.slo.2;have hpI:∀ k j,k<r.length->j<6->H1.next+1≠I k j:=fun k j h1 h2 e=>by have:=(hB.levs.rng k j h1 h2).1;omega
  refine W.lX (f:=137) (first:=[]) (cap:=[.ptr H4.next 0 0]) (by show E6 90=_;exact w90) (Dz d H1.next H4.next r.length hrl)
   (fun k Hy=>H5.next<Hy.next/\(∀ i,i<H5.next->i≠H1.next->(∀ k j,k<r.length->j<6->i≠I k j)->Hy.get i=H5.get i)/\SolvH d r H.next H1.next lvh I (dC (ar d r) (eh (ar d r)) (r.length - k)) (iZ (ar d r) (r.length - k)) Hy)
   (fun _ _=>False)
   (fun k Hy h=>⟨(h.2.1 _ (by omega) (by omega) fun k j h1 h2 e=>by have:=hni k j h1 h2;omega).trans gbx,_,_,h.2.2.top,h.2.2.len⟩)
   (fun k Hy b h=>⟨h.1,fun i h1 h2 h3=>by rw[ah,if_neg (by omega)];exact h.2.1 i h1 h2 h3,h.2.2.i9 hB5 (by rw[aD];exact Nat.le_refl _) fun i hi=>by rw[ah,if_neg (by omega)]⟩)
   (fun _ _ _ h=>h)
   (fun b=>⟨by rw[aR];simp,fun i h1 _ _=>bC h1,hT5.i9 hB5 (by rw[aR];omega) fun i hi=>bC hi⟩)
   (by decide) (fun x hx=>by rw[Dy x hx];rfl) (fun _ _ _=>trivial) (fun _ _ _=>trivial) (fun k y Hy B Bb hy hj hn hBq hBb=>?_) (fun Hy hj hn=>?_) (fun _ hs _=>hs.elim) (fun _ _ hs _=>hs.elim)
  ·obtain⟨hk,rfl⟩:=Dx hy;obtain⟨kk,hkk⟩:∃ kk,kk=r.length - 1 - k:=⟨_,rfl⟩
   have e1:(r.length:Int) - 1 - (k:Int)=(kk:Int):=(by omega);have e2:r.length - k=kk+1:=(by omega);have e3:r.length - (k+1)=kk:=(by omega);rw[e1];rw[e2]at hj;rw[e3];refine ag _ _ _ (by rfl) ?_;simp only[go_sem,fP,aS,iq,List.foldl_cons,List.foldl_nil,List.zip_cons_cons,List.zip_nil_right,hBq];obtain⟨H6,hH6⟩:∃ H6,H6=Hy.upd H5.next Bb:=⟨_,rfl⟩
   rw[<- hH6];obtain⟨st,pd,n',en,ps',as',bo,hBe⟩:=hBb;have n6:H6.next=Hy.next:=(by rw[hH6];rfl);have o6:∀ id,id≠H5.next->H6.get id=Hy.get id:=fun id h=>by rw[hH6,ah,if_neg h]
   have jB:H6.get H5.next=some Bb:=(by rw[hH6,ah,if_pos rfl]);have hS6:=hj.2.2.i9 hB5 (H':=H6) (by omega) fun i hi=>o6 i (by omega);have lp6:=af ((o6 (H1.next+1) (by omega)).trans ((hj.2.1 _ (by omega) (by omega) hpI).trans ((o5.old _ (by omega)).trans gp4)));refine W.env fun E7 hE7=>?_;have t6:E7 6=.ptr (H1.next+1) 0 0:=(by rw[hE7];simp only[go_sem,aS,w6]);have t11:E7 11=aa kk:=(by rw[hE7];simp only[go_sem,aS]);clear hE7;have hkl:kk<r.length:=(by omega);have hd1:=hD0 kk hkl;have hbf:=yM (D:=ar d r) (ch:=eh (ar d r)) (k:=kk) hkl;have hex:0<kk->(dC (ar d r) (eh (ar d r)) (kk+1)).ex (kk - 1)=bH (ar d r) (kk - 1) (ar d r).N:=fun h=>if_neg (by omega);have hBs:cw (BF (ar d r) kk)<=20000000000000000:=by
    have h1:cw (BF (ar d r) kk)<=cw (EF (ar d r) kk):=Nat.le_trans (yA _ _ _) (qK _ _);have h2:=CJ hg1 (r.length - 1 - kk) kk (show kk+1+(r.length - 1 - kk)=r.length by omega);omega
   refine ag _ _ _ (by rfl) ?_;simp only[go_sem,t6,t11,lp6];refine aA.clo (PQ hrl hkl (by omega) hd1.2.2.1 (by omega) (by omega) (fun h0 c hc=>?_) (fun h0 n hn=>?_) (fun h0 n hn=>?_) H6 hS6 _ fun H7 h7n h7o h7S=>⟨⟨st,pd,n',en,ps',as',bo,by rw[h7o _ (by omega) (fun k j h1 h2 e=>by have:=hni k j h1 h2;omega),jB,hBe]⟩,?_⟩)
   ·have hDo:=qE hok hro.mem;have hd2:=hD0 (kk - 1) (by omega);have hpos:0<(ar d r).cs (kk - 1)*(ar d r).cd (kk - 1):=Nat.mul_pos (by omega) (by omega);obtain⟨a,ha⟩:=aw (l:=cM (ar d r) kk (ar d r).N) (i:=c) (by rw[nV];exact hc);have h1:=yq hDo (show kk<(ar d r).K from hkl) (ar d r).N (Nat.le_refl _) a (List.mem_of_getElem? ha);have hab':((dC (ar d r) (eh (ar d r)) (kk+1)).ab kk).getD c 0=a:=gT ha;rw[hab'];rcases h1.2.2 h0 with h2|h2
    ·exact⟨h1.1,h2⟩
    ·rw[h2];exact⟨Int.le_refl _,Int.ofNat_lt.2 hpos⟩
   ·rw[hbf,hex h0];have h1:=OA hg1 (show kk<(ar d r).K from hkl) h0 n;have h2:=uS (dL (cM (ar d r) kk (ar d r).N) (BF (ar d r) kk) n (bH (ar d r) (kk - 1) (ar d r).N)) (((dC (ar d r) (eh (ar d r)) (kk+1)).ab kk).getD n 0).toNat;have h3:=uS (BF (ar d r) kk) n;have h4:(dC (ar d r) (eh (ar d r)) (kk+1)).ab kk=cM (ar d r) kk (ar d r).N:=rfl;rw[h4]at h2 ⊢;omega
   ·rw[hbf];have h1:=OB (BF (ar d r) kk) (n+1);have h2:=qK (BF (ar d r) kk) (n+1);have h3:iZ (ar d r) (kk+1)=0:=(by unfold iZ;rw[if_neg (by rintro(h|h);{ have:r.length=0:=h;omega };omega)]);rw[h3];omega
   simp only[go_sem,dZ];refine⟨by rw[h7o _ (by omega) (fun k j h1 h2 e=>by have:=hni k j h1 h2;omega)];exact jB,by omega,by omega,fun i h1 h2 h3=>by rw[h7o i h2 h3,o6 i (by omega)];exact hj.2.1 i h1 h2 h3,?_⟩;rw[Pt (show kk<(ar d r).K from hkl)]at h7S;exact h7S.same (Ps (show kk<(ar d r).K from hkl)) (yL (fun k _=>by simp [eh]) _)
  ·simp only[go_sem];have lpy:=af ((hj.2.1 (H1.next+1) (by omega) (by omega) hpI).trans ((o5.old _ (by omega)).trans gp4));refine ag _ _ _ (by rfl) ?_;simp only[go_sem,w6,lpy];have hov:Over H Hy:=⟨by have:=o1.next;omega,fun i hi=>by
    have q1:∀ k j,k<r.length->j<6->i≠I k j:=fun k j h1 h2 e=>by have:=(hB.levs.rng k j h1 h2).1;omega
    rw[hj.2.1 i (by omega) (by omega) q1,o5.old i (by omega),o4 i (by omega) (by omega) q1,hout i (by omega) (by omega),o3 i (by omega),o2.old i (by omega),o1.old i hi]⟩
   have hSf:=hj.2.2;rw[vr,Nat.sub_self]at hSf;exact au.mk hov.next (hK r H1.next lvh I Hy hr hok hov hSf fun h=>hB.nv (by rw[h];rfl))
 have hn2:n<r.length:=by omega
 obtain⟨v,hv⟩:=aw hn2;have hvd:r.getD n 0=v:=fS hv;have hm:=hro.mem v (List.mem_of_getElem? hv);obtain⟨x,hx⟩:=aw (d5.1 hm).1;obtain⟨hrn,hxp,hin,ps⟩:=qX hok hx;have hxc:=hok.n.card x (List.mem_of_getElem? hx);obtain⟨e1',e2'⟩:=jm hx (by omega);obtain⟨D,hD⟩:∃ D,D=ar d r:=⟨_,rfl⟩
 have ecs:D.cs n=bj d.nodes x:=by rw[hD];show cC d (r.getD n 0)=_;rw[hvd];exact e1'
 have ecd:(D.cd n:Int)=x.card:=by rw[hD];show (cS d (r.getD n 0):Int)=_;rw[hvd];exact e2'
 have gv:(ints (bA r))[n]?=some (aa v):=by rw[eE];simp [bA,hv]
 have gvn:=aP gv;have hvi:(v:Int)<d.nodes.length:=by have:=(d5.1 hm).1;omega
 have q0:=jj hx;have qn:=ep hx;refine W.seq (ag _ _ _ (by rfl) ?_);simp only[go_sem,f37,f38,hb];refine W.seq (ag _ _ _ (by rfl) ?_);simp only[go_sem];refine W.seq (W.block ?_);refine W.seq (ag _ _ _ (by rfl) ?_);simp only[go_sem,f36,f38,hb,gv,gvn];refine W.seq ?_;refine W.draw 17 [0,1,3,7,15,0,63,0,128,384,896,1920,0,8064,16256,32640,127] Tryz.mixed (by kernel_rfl) (by kernel_rfl) ?_;simp only[go_sem,f6,lp,ls,q0,qn,hvi];refine⟨aa (bj d.nodes x),[],bU.pure fun H9=>qP d.nodes v x hx hin ps H9 _ (by rw[hrn];exact⟨rfl,rfl⟩),?_⟩;simp only[go_sem];obtain⟨cN,hcN⟩:∃ cN,cN=D.cs n:=⟨_,rfl⟩
 obtain⟨cD,hcD⟩:∃ cD,cD=D.cd n:=⟨_,rfl⟩
 refine W.env fun E5 hE5=>?_;have s6:E5 6=.ptr (H1.next+1) 0 0:=by rw[hE5];simp only[go_sem,f6]
 have s8:E5 8=aa v:=by rw[hE5];simp only[go_sem]
 have s9:E5 9=aa cN:=by rw[hE5,hcN,ecs];simp only[go_sem]
 have s10:E5 10=aa cD:=by rw[hE5,hcD,ecd];simp only[go_sem]
 have s38:E5 38=aa n:=by rw[hE5];simp only[go_sem,f38]
 clear hE5;have hc1:1<=cN:=by rw[hcN,hD];exact qG hok hro n hn2
 have hsz0:=hok.net.size;rw[kM]at hsz0;have hcb:cN<=1024:=by have:=xZ hxp hok.n.card;omega
 have hdb:cD<=4:=by omega
 have w0:=IntWalk.i64_in ((cN:Int)*(cD:Int)) (by rw[<- Int.natCast_mul];have:=Nat.mul_le_mul hcb hdb;omega);obtain⟨cE,hcE⟩:∃ cE,cE=cN*cD:=⟨_,rfl⟩
 have q1:(cN:Int)*(cD:Int)=(cE:Int):=by rw[hcE];simp
 have hcd2:cE<=4096:=by rw[hcE];exact Nat.mul_le_mul hcb hdb
 rw[q1]at w0;have z1:(0:Int)<=(cN:Int):=by omega
 have z2:(0:Int)<=(cE:Int):=by omega
 refine Ev.W.Er 24 [0,0,2,6,14,0,0,0,128,0,512,0,0,6144,14336,0,32768,0,0,393216,1048544,2097120,4194272,8388606] Tryz.mixed (by kernel_rfl) (by kernel_rfl) ?_;simp only[go_sem,s6,s8,s9,s10,lp,ls,q1,w0,z1,z2,Qs,Qt,Qu,Qv,Qw,Qx,Qy,Qz,QA,QB,QC,QD];obtain⟨H4,hH4⟩:∃ H4,H4=ext (ext Hx [.arr 0 3 (List.replicate cN (.lit (.int .i64 0))),.arr 0 4 (List.replicate cN (.lit (.bool false))),.arr 0 3 (List.replicate cE (.lit (.int .i64 0))),.arr 0 3 (List.replicate cN (.lit (.int .i64 0)))]) [.arr 0 3 [.lit (.int .i64 (-1))]]:=⟨_,rfl⟩
 rw[<- hH4];have n4:H4.next=Hx.next+4+1:=by rw[hH4];rfl
 have o4:Over Hx H4:=by rw[hH4];exact(Over.ext _ _).trans (.ext _ _)
 have b0:H4.get Hx.next=some (.arr 0 3 (List.replicate cN (.lit (.int .i64 0)))):=by rw[hH4,dK];exact ba Hx _ 0 (by simp)
 have b1:H4.get (Hx.next+1)=some (.arr 0 4 (List.replicate cN (.lit (.bool false)))):=by rw[hH4,dK];exact ba Hx _ 1 (by simp)
 have b2:H4.get (Hx.next+2)=some (.arr 0 3 (List.replicate cE (.lit (.int .i64 0)))):=by rw[hH4,dK];exact ba Hx _ 2 (by simp)
 have b3:H4.get (Hx.next+3)=some (.arr 0 3 (List.replicate cN (.lit (.int .i64 0)))):=by rw[hH4,dK];exact ba Hx _ 3 (by simp)
 have b4:H4.get (Hx.next+4)=some (.arr 0 3 [.lit (.int .i64 (-1))]):=by rw[hH4,dK];exact ba Hx _ 4 (by simp)
 clear hH4;refine⟨by omega,by repeat' (first|refine And.intro ?_ ?_|(intro x hx;omega)),by omega,by repeat' (first|refine And.intro ?_ ?_|(intro x hx;omega)),by omega,by repeat' (first|refine And.intro ?_ ?_|(intro x hx;omega)),by omega,by repeat' (first|refine And.intro ?_ ?_|(intro x hx;omega)),by repeat' (first|refine And.intro ?_ ?_|(intro x hx;omega)),?_⟩;refine⟨_,_,1,_,QI (a:=-1) (m:=cN) ⟨hc1,by omega⟩ (by omega) b4,?_⟩;have hEf:(⟨Ev.dh (Ev.ju H4.next (H4.next+1) (fun _=>true) (ext ⟨fun _=>none,H4.next⟩ [.arr 0 3 (ints (List.replicate cN (-1)))]).get) H4.get,Hx.next+4+1+1⟩:AHeap)=ext H4 [.arr 0 3 (ints (List.replicate cN (-1)))]:=by rw[<- n4];exact QG
 rw[QE,hEf,n4];simp only[go_sem];obtain⟨H5,hH5⟩:∃ H5,H5=ext (ext H4 [.arr 0 3 (ints (List.replicate cN (-1)))]) [.arr 0 173 [.lit (.int .i64 (v:Nat)),.lit (.int .i64 (cD:Nat)),.own Hx.next 0 0 cN 1,.own (Hx.next+1) 0 0 cN 1,.own (Hx.next+2) 0 0 cE 1,.own (Hx.next+3) 0 0 cN 1,.own (Hx.next+4+1) 0 0 cN 1]]:=⟨_,rfl⟩
 rw[<- hH5];have n5:H5.next=Hx.next+4+1+1+1:=by rw[hH5];show H4.next+1+1=_;omega
 have o5:Over H4 H5:=by rw[hH5];exact(Over.ext _ _).trans (.ext _ _)
 have b5:H5.get (Hx.next+4+1)=some (.arr 0 3 (ints (List.replicate cN (-1)))):=by rw[hH5,<- n4,dK];exact ba H4 _ 0 (by simp)
 have b6:H5.get (Hx.next+4+1+1)=some (.arr 0 173 [.lit (.int .i64 (v:Nat)),.lit (.int .i64 (cD:Nat)),.own Hx.next 0 0 cN 1,.own (Hx.next+1) 0 0 cN 1,.own (Hx.next+2) 0 0 cE 1,.own (Hx.next+3) 0 0 cN 1,.own (Hx.next+4+1) 0 0 cN 1]):=by rw[hH5,show Hx.next+4+1+1=H4.next+1 by omega,dK];exact ba H4 _ 1 (by simp)
 clear hH5;obtain⟨lv2,H6,hA2,oP,n6,hp6⟩:=ji (P:=Tryz.prog) (H:=H5) (t:=128) (x:=.ptr (Hx.next+4+1+1) 0 0) (n:=H5.next+1) Tryz.underlying128 Tryz.Bk Tryz.Bm rfl (by rw[Tryz.Bl,jG];omega) (hB.lv.keep (Nat.le_refl _) (by omega) fun i g h1 h2 h3 _=>by rw[o5.old i (by omega),o4.old i h2]) (by have:=hB.slo;omega) rfl;have hA3:bX Tryz.prog (ext H5 [.arr 0 170 [.ptr (Hx.next+4+1+1) 0 0]]) (H5.next+1) 128 128 lvh (.own (Hx.next+4+1+1+1) 0 0 1 1)=some (lv2,H6):=by rw[<- n5];exact hA2
 have lv21:=oP.one;have lv2c:=oP.cells;have k6:∀ i g e c,i<Hx.next->Hx.get i=some (.arr g e c)->e≠170->H6.get i=Hx.get i:=fun i g e c h1 h2 h3=>by
  rw[hp6 i (by omega) (hB.lv.QH h2 h3),o5.old i (by omega),o4.old i h1]
 have hsl:=hB.slo;have gs6:=(k6 _ _ _ _ hsl hB.top (by decide)).trans hB.top;have ls6:=af gs6;obtain⟨I2,hI2⟩:∃ I2:Nat->Nat->Nat,I2=fun k j=>if k=n then (match j with|0=>Hx.next+4+1+1|1=>Hx.next|2=>Hx.next+1|3=>Hx.next+2|4=>Hx.next+3|_=>Hx.next+4+1) else I k j:=⟨_,rfl⟩
 have hIo:∀ k j,k≠n->I2 k j=I k j:=fun k j h=>by rw[hI2];simp only;rw[if_neg h]
 have hIn:∀ j,I2 n j=(match j with|0=>Hx.next+4+1+1|1=>Hx.next|2=>Hx.next+1|3=>Hx.next+2|4=>Hx.next+3|_=>Hx.next+4+1):=fun j=>by rw[hI2];exact if_pos rfl
 have hInr:∀ j,Hx.next<=I2 n j/\I2 n j<Hx.next+7:=fun j=>by rw[hIn];split<;>omega
 clear hI2;have lvL:∀ i,Hx.next<=i->∀ g m,lvh≠.own i g 0 m 1:=fun i hi g m hv=>by
  rcases hB.lv with ⟨h1,_⟩|⟨i2,g2,_,h2,h3,_⟩
  ·rw[h1]at hv;cases hv
  ·rw[h3]at hv;have:=(AVal.own.inj hv).1;omega
 have new6:∀ i,Hx.next<=i->i<H5.next->H6.get i=H5.get i:=fun i h1 h2=>hp6 i h2 (lvL i h1);obtain⟨H7,hH7⟩:∃ H7,H7=H6.upd H1.next (.arr 0 130 [.lit (.int .i64 d.grain),.vec d.nodes.length (aC d.nodes),.lit (.int .u64 (d.decs:Int)),.vec d.utils.length (aV d.utils),lv2,aj (dp d),aj (df d),.lit (.int .i64 0)]):=⟨_,rfl⟩
 have n7:H7.next=H6.next:=by rw[hH7,aD]
 have o7:∀ i,i≠H1.next->H7.get i=H6.get i:=fun i h=>by rw[hH7,ah,if_neg h]
 have g7:H7.get H1.next=some (.arr 0 130 [.lit (.int .i64 d.grain),.vec d.nodes.length (aC d.nodes),.lit (.int .u64 (d.decs:Int)),.vec d.utils.length (aV d.utils),lv2,aj (dp d),aj (df d),.lit (.int .i64 0)]):=by rw[hH7,ah,if_pos rfl]
 have old7:∀ k j g e c,k<n->j<6->Hx.get (I k j)=some (.arr g e c)->e≠170->H7.get (I k j)=Hx.get (I k j):=fun k j g e c h1 h2 h3 h4=>by
  rw[o7 _ fun e=>hB.sep k j h1 h2 e.symm];exact k6 _ _ _ _ (hB.levs.rng k j h1 h2).2 h3 h4
 have new7:∀ i,Hx.next<=i->i<H5.next->H7.get i=H5.get i:=fun i h1 h2=>by rw[o7 i (by omega)];exact new6 i h1 h2
 have mS:∀ k j,1<=j->∃ g e c,dm (iK (ar d r) (pC (ar d r)) (eh (ar d r)) 0) k j=.arr g e c/\e≠170:=fun k j hj=>by
  match j,hj with
  | 1,_=>exact⟨_,_,_,rfl,by decide⟩
  | 2,_=>exact⟨_,_,_,rfl,by decide⟩
  | 3,_=>exact⟨_,_,_,rfl,by decide⟩
  | 4,_=>exact⟨_,_,_,rfl,by decide⟩
  | (j+5),_=>exact⟨_,_,_,rfl,by decide⟩
 have z0:∀ m:Nat,ints (List.replicate m 0)=List.replicate m (.lit (.int .i64 0)):=fun m=>by simp [ints,aa]
 have levs7:LevH (ar d r) r H3.next (n+1) I2 (iK (ar d r) (pC (ar d r)) (eh (ar d r)) 0) H7:=by
  refine⟨fun k j k' j' h1 h2 h3 h4 he=>?_,fun k j h1 h2=>?_,fun k h1=>?_,fun k j h1 h2 h3=>?_,Du (fun k _=>by simp [pC]) (fun k _=>by simp [eh]) 0⟩
  ·by_cases a1:k=n
   ·by_cases a2:k'=n
    ·refine⟨by omega,?_⟩;rw[a1,a2,hIn,hIn]at he
     match j,h3,j',h4 with
     | 0,_,0,_=>rfl
     | 0,_,1,_=>exact absurd he (by simp only;omega)
     | 0,_,2,_=>exact absurd he (by simp only;omega)
     | 0,_,3,_=>exact absurd he (by simp only;omega)
     | 0,_,4,_=>exact absurd he (by simp only;omega)
     | 0,_,5,_=>exact absurd he (by simp only;omega)
     | 1,_,0,_=>exact absurd he (by simp only;omega)
     | 1,_,1,_=>rfl
     | 1,_,2,_=>exact absurd he (by simp only;omega)
     | 1,_,3,_=>exact absurd he (by simp only;omega)
     | 1,_,4,_=>exact absurd he (by simp only;omega)
     | 1,_,5,_=>exact absurd he (by simp only;omega)
     | 2,_,0,_=>exact absurd he (by simp only;omega)
     | 2,_,1,_=>exact absurd he (by simp only;omega)
     | 2,_,2,_=>rfl
     | 2,_,3,_=>exact absurd he (by simp only;omega)
     | 2,_,4,_=>exact absurd he (by simp only;omega)
     | 2,_,5,_=>exact absurd he (by simp only;omega)
     | 3,_,0,_=>exact absurd he (by simp only;omega)
     | 3,_,1,_=>exact absurd he (by simp only;omega)
     | 3,_,2,_=>exact absurd he (by simp only;omega)
     | 3,_,3,_=>rfl
     | 3,_,4,_=>exact absurd he (by simp only;omega)
     | 3,_,5,_=>exact absurd he (by simp only;omega)
     | 4,_,0,_=>exact absurd he (by simp only;omega)
     | 4,_,1,_=>exact absurd he (by simp only;omega)
     | 4,_,2,_=>exact absurd he (by simp only;omega)
     | 4,_,3,_=>exact absurd he (by simp only;omega)
     | 4,_,4,_=>rfl
     | 4,_,5,_=>exact absurd he (by simp only;omega)
     | 5,_,0,_=>exact absurd he (by simp only;omega)
     | 5,_,1,_=>exact absurd he (by simp only;omega)
     | 5,_,2,_=>exact absurd he (by simp only;omega)
     | 5,_,3,_=>exact absurd he (by simp only;omega)
     | 5,_,4,_=>exact absurd he (by simp only;omega)
     | 5,_,5,_=>rfl
    ·rw[a1,hIo k' j' a2]at he;have:=(hB.levs.rng k' j' (by omega) h4).2;have:=hInr j;omega
   ·by_cases a2:k'=n
    ·rw[a2,hIo k j a1]at he;have:=(hB.levs.rng k j (by omega) h3).2;have:=hInr j';omega
    ·rw[hIo k j a1,hIo k' j' a2]at he;exact hB.levs.inj k j k' j' (by omega) (by omega) h3 h4 he
  ·by_cases a1:k=n
   ·rw[a1];have:=hInr j;have:=hB.slo;omega
   ·rw[hIo k j a1];have:=hB.levs.rng k j (by omega) h2;omega
  ·by_cases a1:k=n
   ·rw[a1,hIn];simp only;rw[new7 _ (by omega) (by omega),b6];unfold gH;rw[hvd,<- hD,<- hcN,<- hcD,<- hcE,hIn,hIn,hIn,hIn,hIn];rfl
   ·rw[hIo k 0 a1,old7 k 0 _ _ _ (by omega) (by omega) (hB.levs.lev k (by omega)) (by decide),hB.levs.lev k (by omega)];unfold gH;rw[hIo k 1 a1,hIo k 2 a1,hIo k 3 a1,hIo k 4 a1,hIo k 5 a1]
  ·by_cases a1:k=n
   ·rw[a1,hIn]
    match j,h2,h3 with
    | 1,_,_ =>
     show H7.get Hx.next=some (.arr 0 _ (ints (List.replicate ((ar d r).cs n) 0)));rw[new7 _ (by omega) (by omega),o5.old _ (by omega),b0,z0,<- hD,<- hcN]
    | 2,_,_ =>
     show H7.get (Hx.next+1)=some (.arr 0 _ (cP (List.replicate ((ar d r).cs n) false)));rw[new7 _ (by omega) (by omega),o5.old _ (by omega),b1,<- hD,<- hcN];simp [cP]
    | 3,_,_ =>
     show H7.get (Hx.next+2)=some (.arr 0 _ (ints (List.replicate ((ar d r).cs n*(ar d r).cd n) 0)));rw[new7 _ (by omega) (by omega),o5.old _ (by omega),b2,z0,<- hD,<- hcN,<- hcD,<- hcE]
    | 4,_,_ =>
     show H7.get (Hx.next+3)=some (.arr 0 _ (ints (List.replicate ((ar d r).cs n) 0)));rw[new7 _ (by omega) (by omega),o5.old _ (by omega),b3,z0,<- hD,<- hcN]
    | 5,_,_ =>
     show H7.get (Hx.next+4+1)=some (.arr 0 _ (ints (List.replicate ((ar d r).cs n) (-1))));rw[new7 _ (by omega) (by omega),b5,<- hD,<- hcN]
   ·have h9:=hB.levs.tab k j (by omega) h2 h3;obtain⟨g,e,c,h8,h7⟩:=mS k j h2;rw[hIo k j a1,old7 k j g e c (by omega) h3 (by rw[h9,h8]) h7,h9]
 have hpt:iY I2 (n+1)=iY I n++[.ptr (Hx.next+4+1+1) 0 0]:=by
  unfold iY;rw[List.range_succ,List.map_append];congr 1
  ·exact List.map_congr_left fun k hk=>by rw[hIo k 0 (by have:=List.mem_range.1 hk;omega)]
  ·simp only[List.map_cons,List.map_nil];rw[hIn];rfl
 have hB7:BldH d r H3.next H1.next (n+1) lv2 I2 H7:=by
  refine⟨g7,by omega,?_,fun k j h1 h2=>?_,fun id g m hv=>?_,levs7,fun h=>absurd h (Nat.succ_ne_zero n)⟩
  ·rw[hpt];refine oP.keep (Nat.le_refl _) (by omega) fun i g _ _ h3 _=>o7 i ?_;rintro rfl;rw[gs6]at h3;cases h3
  ·by_cases a1:k=n
   ·rw[a1];have:=hInr j;omega
   ·rw[hIo k j a1];exact hB.sep k j (by omega) h2
  ·have hid:H6.get id=some (.arr g 170 (iY I n++[.ptr (Hx.next+4+1+1) 0 0])):=by
    rcases oP with ⟨h1,_⟩|⟨i2,g2,_,_,h3,h4⟩
    ·rw[h1]at hv;cases hv
    ·rw[h3]at hv;obtain⟨e1,e2,_⟩:=AVal.own.inj hv;rw[<- e1,<- e2];exact h4
   have hid7:id≠H1.next:=by
    rintro rfl;rw[gs6]at hid;cases hid
   refine⟨hid7,fun k j h1 h2 he=>?_⟩;have h9:=(o7 id hid7).trans hid;rw[he]at h9
   match j,h2 with
   | 0,_ =>
    rw[levs7.lev k h1]at h9;cases h9
   | (j+1),h2 =>
    rw[levs7.tab k (j+1) h1 (by omega) h2]at h9;obtain⟨g3,e3,c3,h8,h7⟩:=mS k (j+1) (by omega);rw[h8]at h9;cases h9;exact h7 rfl
 have wn:=IntWalk.i64_in ((n:Int)+1) (by omega);have key:H3.next<=H7.next/\(∃ (n_1:Nat) (lvh:AVal) (I:Nat->Nat->Nat),AVal.lit (.int .i64 ((n:Int)+1))=AVal.lit (.int .i64 (n_1:Int))/\n_1<=r.length/\H3.next<=H7.next/\(∀ (i:Nat),i<H3.next->¬i=H1.next->H7.get i=H3.get i)/\BldH d r H3.next H1.next n_1 lvh I H7)/\r.length - ((n:Int)+1).toNat<r.length - (iv (ρ 38)).toNat:=by
  refine⟨by omega,⟨n+1,lv2,I2,rfl,by omega,by omega,fun i h1 h2=>?_,hB7⟩,by rw[h38];simp only[aa,bF];omega⟩;rw[o7 i h2,hp6 i (by omega) (hB.lv.ne h1),o5.old i (by omega),o4.old i (by omega),hout i h1 h2]
 rcases hB.lv with ⟨hv0,hv1⟩|⟨i3,g3',q1',q2',hv0,hv1⟩
 ·refine⟨by repeat' (first|refine And.intro ?_ ?_|(intro x hx;omega)),by repeat' (first|refine And.intro ?_ ?_|(intro x hx;omega)),by repeat' (first|refine And.intro ?_ ?_|(intro x hx;omega)),?_⟩;rw[hv0]at hA3;simp only[go_sem,hv0,DC,hA3,ls6,lv21,lv2c];refine⟨fun x hx=>by omega,?_⟩;refine ag _ _ _ (by rfl) ?_;simp only[go_sem,s38,wn];rw[hH7]at key;exact key
 ·rw[jG]at hv0;refine⟨by repeat' (first|refine And.intro ?_ ?_|(intro x hx;omega)),by repeat' (first|refine And.intro ?_ ?_|(intro x hx;omega)),by repeat' (first|refine And.intro ?_ ?_|(intro x hx;omega)),?_⟩;rw[hv0]at hA3;simp only[go_sem,hv0,DC,hA3,ls6,lv21,lv2c];refine⟨fun x hx=>by omega,?_⟩;refine ag _ _ _ (by rfl) ?_;simp only[go_sem,s38,wn];rw[hH7]at key;exact key
end Go.Proofs
namespace Go.Proofs
open Go.Hx
theorem Pu (l:List Bool)(hl:l.length<2 ^ 40)(ib g:Nat)(H:AHeap)(hg:H.get ib=some (.arr g 4 (cP l)))(K:ARes->AHeap->Prop)(hK:∀ i:Int,(0<=i↔l.contains true=true)->K (.ret (aa i)) H):
  ae Tryz.prog G0 160 [.own ib g 0 l.length 1,.lit (.bool true)] H K:=by
 have lb:=af hg;have ll:=qT l;have eb:∀ a b:Bool,∀ x y,bE Tryz.prog .eql 4 x y (.lit (.bool a)) (.lit (.bool b))=some (.lit (.bool (a == b))):=fun a b x y=>Go.Proofs.R01.N3 Tryz.underlying4;refine ae.aU (n:=19) (rs:=[.tmp 4]) Tryz.func160 rfl rfl rfl (by decide) (by kernel_rfl) (by simp) ?_;simp only[go_sem,lb];refine W.aQ 524080 (by rfl) (fun ρ H'=>H'=H/\∃ k:Nat,ρ 8=aa k/\k<=l.length/\∀ j,j<k->l[j]?=some false) (fun ρ H=>l.length - (iv (ρ 8)).toNat) ?_ ?_
 ·simp only[go_sem];exact⟨0,rfl,by omega,fun j hj=>absurd hj (Nat.not_lt_zero _)⟩
 rintro ρ H' ⟨rfl,k,h8,hk,hno⟩;refine ag _ _ _ (by rfl) ?_;by_cases hb:(k:Int)<l.length
 ·obtain⟨b,hkb⟩:=aw (l:=l) (i:=k) (by omega);have gb:(cP l)[k]?=some (.lit (.bool b)):=by rw[vd,hkb];rfl
  have gbn:=aP gb;have w1:=IntWalk.i64_in ((k:Int)+1) (by omega);cases b with
  | true =>
   simp only[go_sem,h8,hb,lb,gb,eb];exact au.mk (Nat.le_refl _) (hK k ⟨fun _=>by rw[List.contains_iff_mem];exact List.mem_of_getElem? hkb,fun _=>by omega⟩)
  | false =>
   simp only[go_sem,h8,hb,lb,gb,eb,w1];refine⟨⟨k+1,rfl,by omega,fun j hj=>?_⟩,by omega⟩;rcases Nat.lt_or_eq_of_le (Nat.le_of_lt_succ hj) with h|h
   ·exact hno j h
   ·rw[h];exact hkb
 ·simp only[go_sem,h8,hb];refine au.mk (Nat.le_refl _) (hK (-1) ⟨fun h=>by omega,fun h=>?_⟩);rw[List.contains_iff_mem]at h;obtain⟨j,hj⟩:=List.mem_iff_getElem?.1 h;have:=hno j (by have:=aH hj;omega);rw[this]at hj;cases hj
theorem Pv (l:List Bool)(hl:l.length<2 ^ 40)(ib g:Nat)(H:AHeap)(hg:H.get ib=some (.arr g 4 (cP l)))(K:ARes->AHeap->Prop)(hK:K (.ret (.lit (.bool (l.contains true)))) H):
  ae Tryz.prog G0 141 [.own ib g 0 l.length 1,.lit (.bool true)] H K:=by
 refine ae.aU (n:=9) (rs:=[.tmp 4]) Tryz.func141 rfl rfl rfl (by decide) (by kernel_rfl) (by simp) ?_;simp only[go_sem];refine aA.clo (Pu l hl ib g H hg _ fun i hi=>⟨trivial,?_⟩);by_cases h0:0<=i
 ·simp only[go_sem,h0];rw[hi.1 h0]at hK;exact au.mk (Nat.le_refl _) hK
 ·simp only[go_sem,h0];have:l.contains true=false:=by
   rw[<- Bool.not_eq_true];exact fun h=>h0 (hi.2 h)
  rw[this]at hK;exact au.mk (Nat.le_refl _) hK
end Go.Proofs
namespace Go.Proofs
open Go.Hx
def eV (D:DPr)(T:TabS)(k m:Nat)(bad:List Bool):Nat->List Bool
 | 0=>List.replicate m false
 | n+1=>if ((T.oc k).getD n false && !jH (D.cd k) n (T.ex k) (T.be k) (T.ch k) bad)=true then (eV D T k m bad n).set ((T.ab k).getD n 0).toNat true else eV D T k m bad n
theorem qU (D:DPr)(T:TabS)(k m:Nat)(bad:List Bool)(n:Nat):(eV D T k m bad n).length=m:=by
 induction n with
 | zero=>simp [eV]
 | succ n ih=>unfold eV;split<;>simp [ih]
theorem Db {D:DPr}{T:TabS}{k m:Nat}{bad:List Bool}(b:Nat)(hb:b<m):∀ n,((eV D T k m bad n).getD b false=true↔∃ c,c<n/\((T.ab k).getD c 0).toNat=b/\(T.oc k).getD c false=true/\jH (D.cd k) c (T.ex k) (T.be k) (T.ch k) bad=false):=by
 intro n
 induction n with
 | zero=>simp [eV,List.getD_eq_getElem?_getD,List.getElem?_replicate,hb]
 | succ n ih =>
  unfold eV;by_cases h:((T.oc k).getD n false && !jH (D.cd k) n (T.ex k) (T.be k) (T.ch k) bad)=true
  ·rw[if_pos h];simp only[Bool.and_eq_true,Bool.not_eq_true']at h;by_cases e:((T.ab k).getD n 0).toNat=b
   ·constructor
    ·intro _;exact⟨n,by omega,e,h.1,h.2⟩
    ·intro _;rw[List.getD_eq_getElem?_getD,e,List.getElem?_set_self (by rw[qU];exact hb)];rfl
   ·rw[List.getD_eq_getElem?_getD,List.getElem?_set_ne e,<- List.getD_eq_getElem?_getD,ih];constructor
    ·rintro⟨c,h1,h2⟩;exact⟨c,by omega,h2⟩
    ·rintro⟨c,h1,h2,h3⟩;refine⟨c,?_,h2,h3⟩;rcases Nat.lt_or_eq_of_le (Nat.le_of_lt_succ h1) with h4|h4
     ·exact h4
     ·rw[h4]at h2;exact absurd h2 e
  ·rw[if_neg h,ih];constructor
   ·rintro⟨c,h1,h2⟩;exact⟨c,by omega,h2⟩
   ·rintro⟨c,h1,h2,h3,h4⟩;refine⟨c,?_,h2,h3,h4⟩;rcases Nat.lt_or_eq_of_le (Nat.le_of_lt_succ h1) with h5|h5
    ·exact h5
    ·subst h5;exact absurd (by rw[h3,h4];rfl) h
def iJ (D:DPr)(k:Nat):Nat:=if 0<k then D.cs (k - 1)*D.cd (k - 1) else 1
def gU (D:DPr)(T:TabS):Nat->Nat->List Bool
 | 0,k=>List.replicate (D.cs k*D.cd k) false
 | n+1,k=>eV D T (k+1) (D.cs k*D.cd k) (gU D T n (k+1)) (D.cs (k+1))
theorem Pw (D:DPr)(T:TabS)(n k:Nat):(gU D T n k).length=D.cs k*D.cd k:=by
 cases n with
 | zero=>simp [gU]
 | succ n=>exact qU ..
def jI (T:TabS):Ch:=fun k c=>if (T.ch k).getD c 0=-1 then none else some ((T.ch k).getD c 0).toNat
def kd (T:TabS)(tot:Int):DTab where
 above k c:=((T.ab k).getD c 0).toNat
 occ k c:=(T.oc k).getD c false
 E k b:=(T.ex k).getD b 0
 B k c:=(T.be k).getD c 0
 T:=tot
structure TabS.Rng (D:DPr)(T:TabS):Prop where
 ab:∀ k c,0<k->k<D.K->c<D.cs k->0<=(T.ab k).getD c 0/\((T.ab k).getD c 0).toNat<D.cs (k - 1)*D.cd (k - 1)
 ch:∀ k c,k<D.K->c<D.cs k->(T.ch k).getD c 0=-1\/0<=(T.ch k).getD c 0
theorem Dc {D:DPr}{T:TabS}{tot:Int}(hR:T.Rng D):∀ (n k:Nat),k+1+n=D.K->∀ c,c<D.cs k->jH (D.cd k) c (T.ex k) (T.be k) (T.ch k) (gU D T n k)=jT D (kd T tot) (jI T) (n+1) k c:=by
 intro n
 induction n with
 | zero =>
  intro k hk c hc;rw[Bool.eq_iff_iff];rw[qD];unfold jH gQ;rw[List.any_eq_true];have hm:=hR.ch k c (by omega) hc;constructor
  ·rintro⟨x,hx,h⟩;simp only[Bool.and_eq_true,Bool.or_eq_true,decide_eq_true_eq]at h;refine⟨x,List.mem_range.1 hx,h.1.1,fun c' _ _ _=>rfl,fun y hy=>?_⟩;unfold jI at hy;split at hy
   ·cases hy
   ·rename_i h9;rcases h.2 with h2|h2
    ·exact absurd h2 h9
    ·cases hy;omega
  ·rintro⟨x,hx,h1,_,h3⟩;refine⟨x,List.mem_range.2 hx,?_⟩;simp only[Bool.and_eq_true,Bool.or_eq_true,decide_eq_true_eq];refine⟨⟨h1,?_⟩,?_⟩
   ·unfold gU;rw[List.getD_eq_getElem?_getD,List.getElem?_replicate];split<;>rfl
   ·by_cases h9:(T.ch k).getD c 0=-1
    ·exact .inl h9
    ·right;have:=h3 _ (if_neg h9);omega
 | succ n ih =>
  intro k hk c hc;rw[Bool.eq_iff_iff];rw[qD];unfold jH gQ;rw[List.any_eq_true];have hm:=hR.ch k c (by omega) hc;have hbd:∀ x,x<D.cd k->((gU D T (n+1) k).getD (c*D.cd k+x) false=true↔∃ c',c'<D.cs (k+1)/\(kd T tot).above (k+1) c'=c*D.cd k+x/\(kd T tot).occ (k+1) c'=true/\jT D (kd T tot) (jI T) (n+1) (k+1) c'=false):=fun x hx=>by
   have hlt:c*D.cd k+x<D.cs k*D.cd k:=by
    have h3:(c+1)*D.cd k<=D.cs k*D.cd k:=Nat.mul_le_mul_right _ hc;rw[Nat.add_mul,Nat.one_mul]at h3;omega
   unfold gU;rw[Db _ hlt];constructor
   ·rintro⟨c',h1,h2,h3,h4⟩;exact⟨c',h1,h2,h3,by rw[<- ih (k+1) (by omega) c' h1];exact h4⟩
   ·rintro⟨c',h1,h2,h3,h4⟩;exact⟨c',h1,h2,h3,by rw[ih (k+1) (by omega) c' h1];exact h4⟩
  constructor
  ·rintro⟨x,hx,h⟩;simp only[Bool.and_eq_true,Bool.or_eq_true,decide_eq_true_eq,Bool.not_eq_true']at h;have hx':=List.mem_range.1 hx;refine⟨x,hx',h.1.1,fun c' h1 h2 h3=>?_,fun y hy=>?_⟩
   ·cases hal:jT D (kd T tot) (jI T) (n+1) (k+1) c' with
    | true=>rfl
    | false =>
     have:=(hbd x hx').2 ⟨c',h1,h2,h3,hal⟩;rw[h.1.2]at this;cases this
   ·unfold jI at hy;split at hy
    ·cases hy
    ·rename_i h9;rcases h.2 with h2|h2
     ·exact absurd h2 h9
     ·cases hy;omega
  ·rintro⟨x,hx,h1,h2,h3⟩;refine⟨x,List.mem_range.2 hx,?_⟩;simp only[Bool.and_eq_true,Bool.or_eq_true,decide_eq_true_eq,Bool.not_eq_true'];refine⟨⟨h1,?_⟩,?_⟩
   ·rw[<- Bool.not_eq_true];intro h;obtain⟨c',a1,a2,a3,a4⟩:=(hbd x hx).1 h;rw[h2 c' a1 a2 a3]at a4;cases a4
   ·by_cases h9:(T.ch k).getD c 0=-1
    ·exact .inl h9
    ·right;have:=h3 _ (if_neg h9);omega
def jJ (D:DPr)(T:TabS):Bool:=if D.K=0 then true else !(eV D T 0 1 (gU D T (D.K - 1) 0) (D.cs 0)).contains true
theorem Px {D:DPr}{T:TabS}{tot:Int}(hR:T.Rng D)(h0:∀ c,c<D.cs 0->((T.ab 0).getD c 0).toNat=0):jJ D T=true↔jD D (kd T tot) (jI T):=by
 unfold jJ jD;by_cases hK:D.K=0
 ·rw[if_pos hK];exact⟨fun _ h=>by omega,fun _=>rfl⟩
 rw[if_neg hK];have hmem:(eV D T 0 1 (gU D T (D.K - 1) 0) (D.cs 0)).contains true=true↔(eV D T 0 1 (gU D T (D.K - 1) 0) (D.cs 0)).getD 0 false=true:=by
  have hl:=qU D T 0 1 (gU D T (D.K - 1) 0) (D.cs 0)
  match hsp:eV D T 0 1 (gU D T (D.K - 1) 0) (D.cs 0),hl with
  | [a],_=>cases a<;>simp
 rw[Bool.not_eq_true',<- Bool.not_eq_true,hmem,Db 0 (by omega)];constructor
 ·intro h _ c hc ho;cases hal:jT D (kd T tot) (jI T) D.K 0 c with
  | true=>rfl
  | false =>
   refine absurd ⟨c,hc,h0 c hc,ho,?_⟩ h;rw[Dc (tot:=tot) hR (D.K - 1) 0 (by omega) c hc,show D.K - 1+1=D.K by omega];exact hal
 ·rintro h ⟨c,h1,_,h3,h4⟩;have:=h (by omega) c h1 h3;rw[Dc (tot:=tot) hR (D.K - 1) 0 (by omega) c h1,show D.K - 1+1=D.K by omega]at h4;rw[this]at h4;cases h4
end Go.Proofs
namespace Go.Proofs
open Go.Hx
def mM (D:DPr)(T:TabS)(j:Nat):List Bool:=eV D T j (iJ D j) (gU D T (D.K - 1 - j) j) (D.cs j)
theorem Py {D:DPr}{T:TabS}{j:Nat}(h0:0<j)(hj:j<D.K):mM D T j=gU D T (D.K - 1 - (j - 1)) (j - 1):=by
 obtain⟨m,rfl⟩:∃ m,j=m+1:=⟨j - 1,by omega⟩
 have e:D.K - 1 - (m+1 - 1)=(D.K - 1 - (m+1))+1:=by omega
 rw[e];unfold mM iJ;rw[if_pos h0,Nat.add_sub_cancel];rfl
theorem Pz (D:DPr)(T:TabS)(j:Nat):(mM D T j).length=iJ D j:=qU ..
theorem PA (H:AHeap)(K:ARes->AHeap->Prop)(hK:K (.ret (.lit (.bool false))) H):ae Tryz.prog G0 141 [.lit (.slice none 0 0),.lit (.bool true)] H K:=by
 have h1:ae Tryz.prog G0 160 [.lit (.slice none 0 0),.lit (.bool true)] H fun r H'=>r=.ret (aa (-1))/\H'=H:=by
  refine ae.aU (n:=19) (rs:=[.tmp 4]) Tryz.func160 rfl rfl rfl (by decide) (by kernel_rfl) (by simp) ?_;simp only[go_sem];refine W.aQ 524080 (by rfl) (fun ρ H'=>H'=H/\ρ 8=aa 0) (fun ρ H=>0) ?_ ?_
  ·simp only[go_sem]
  rintro ρ H' ⟨rfl,h8⟩;refine ag _ _ _ (by rfl) ?_;simp only[go_sem,h8];exact au.mk (Nat.le_refl _) ⟨rfl,rfl⟩
 refine ae.aU (n:=9) (rs:=[.tmp 4]) Tryz.func141 rfl rfl rfl (by decide) (by kernel_rfl) (by simp) ?_;simp only[go_sem];refine aA.clo (h1.mono fun rr H2 hrr=>?_);obtain⟨rfl,rfl⟩:=hrr;refine⟨trivial,?_⟩;simp only[go_sem];exact au.mk (Nat.le_refl _) hK
set_option maxHeartbeats 4000000 in
theorem PB {d:InfP}{r:List Nat}(hrl:r.length<=64){lo s:Nat}{lvh:AVal}{I:Nat->Nat->Nat}{T:TabS}{tot:Int}(hsz:∀ k,k<r.length->1<=(ar d r).cs k/\(ar d r).cs k<=1024/\1<=(ar d r).cd k/\(ar d r).cd k<=4/\(ar d r).cs k*(ar d r).cd k<=4096)(hR:T.Rng (ar d r))(h00:∀ c,c<(ar d r).cs 0->((T.ab 0).getD c 0)=0)
  (H:AHeap) (hS:SolvH d r lo s lvh I T tot H) (K:ARes->AHeap->Prop) (hK:K (.ret (.lit (.bool (jJ (ar d r) T)))) H):
  ae Tryz.prog G0 112 [.ptr s 0 0] H K:=by
 refine ae.clo ⟨_,Tryz.func112,rfl,rfl⟩ fun hcl=>?_;obtain⟨D,hD⟩:∃ D,D=ar d r:=⟨_,rfl⟩
 have hDK:D.K=r.length:=by rw[hD];rfl
 rw[<- hD]at hsz hR h00 hK;have hB0:=hS.sQ;refine ae.d7 (n:=79) (rs:=[.tmp 2]) Tryz.func112 rfl rfl rfl (by decide) (by simp) ?_;refine W.seq (ag _ _ _ (by rfl) ?_);simp only[go_sem];refine W.seq (ag _ _ _ (by rfl) ?_);simp only[go_sem];obtain⟨H1,hH1⟩:∃ H1,H1=ext H [.arr 0 110 [.ptr s 0 0],.arr 0 171 [.lit (.slice none 0 0)]]:=⟨_,rfl⟩
 have g0:H1.get H.next=some (.arr 0 110 [.ptr s 0 0]):=by rw[hH1];exact cq ..
 have g1:H1.get (H.next+1)=some (.arr 0 171 [.lit (.slice none 0 0)]):=by rw[hH1];exact ba H _ 1 (by simp)
 have n1:H1.next=H.next+2:=by rw[hH1];rfl
 have o1:Over H H1:=by rw[hH1];exact .ext _ _
 have hform:H1=ext (ext H [.arr 0 110 [.ptr s 0 0]]) [.arr 0 171 [.lit (.slice none 0 0)]]:=by rw[hH1,dK];rfl
 try rw[<- hH1]
 try rw[<- hform]
 clear hH1 hform;have l0:=af g0;refine W.env fun E hE=>?_;have e1:E 1=.ptr H.next 0 0:=by rw[hE];simp only[go_sem]
 have e3:E 3=.ptr (H.next+1) 0 0:=by rw[hE];simp only[go_sem]
 clear hE;refine W.seq (ag _ _ _ (by rfl) ?_);simp only[go_sem,e1,l0];refine aA.clo (DA s H1 _ ⟨trivial,?_⟩);simp only[go_sem];obtain⟨H2,hH2⟩:∃ H2,H2=ext H1 [.arr 0 110 [.ptr s 0 0]]:=⟨_,rfl⟩
 have n2:H2.next=H1.next+1:=by rw[hH2];rfl
 have o2:Over H1 H2:=by rw[hH2];exact .ext _ _
 have gbx:H2.get H1.next=some (.arr 0 110 [.ptr s 0 0]):=by rw[hH2];exact bJ
 rw[<- hH2];clear hH2;refine W.env fun E2 hE2=>?_;have f1:E2 1=.ptr H.next 0 0:=by rw[hE2];simp only[go_sem,e1]
 have f3:E2 3=.ptr (H.next+1) 0 0:=by rw[hE2];simp only[go_sem,e3]
 have f10:E2 10=.clo 137 [] [.ptr H1.next 0 0]:=by rw[hE2];rfl
 clear hE2 e1 e3;have hS2:SolvH d r lo s lvh I T tot H2:=hS.i9 hB0 (by omega) fun i hi=>(o2.old i (by omega)).trans (o1.old i hi);have g02:=(o2.old _ (by omega)).trans g0;have g12:=(o2.old _ (by omega)).trans g1;refine W.lX (f:=137) (first:=[]) (cap:=[.ptr H1.next 0 0]) (by show E2 10=_;exact f10) (Dz d s H1.next r.length hrl)
  (fun k Hy=>H2.next<Hy.next/\(∀ i,i<H2.next->i≠H.next+1->Hy.get i=H2.get i)/\(k=0/\Hy.get (H.next+1)=some (.arr 0 171 [.lit (.slice none 0 0)])\/0<k/\∃ ib,H2.next<ib/\ib<Hy.next/\Hy.get (H.next+1)=some (.arr 0 171 [.own ib 0 0 (iJ D (r.length - k)) 1])/\Hy.get ib=some (.arr 0 4 (cP (mM D T (r.length - k))))))
  (fun _ _=>False)
  (fun k Hy h=>⟨(h.2.1 _ (by omega) (by omega)).trans gbx,_,_,(h.2.1 _ (by have:=hB0.1;omega) (by have:=hB0.1;omega)).trans hS2.top,(hS2.i9 hB0 (by omega) fun i hi=>h.2.1 i (by omega) (by omega)).len⟩)
  (fun k Hy b h=>⟨h.1,fun i h1 h2=>by rw[ah,if_neg (by omega)];exact h.2.1 i h1 h2,by
   rcases h.2.2 with ⟨h1,h2⟩|⟨h1,ib,h2,h3,h4,h5⟩
   ·exact .inl ⟨h1,by rw[ah,if_neg (by omega)];exact h2⟩
   ·exact .inr ⟨h1,ib,h2,h3,by rw[ah,if_neg (by omega)];exact h4,by rw[ah,if_neg (by omega)];exact h5⟩⟩)
  (fun _ _ _ h=>h)
  (fun b=>⟨by rw[aR];simp,fun i h1 _=>bC h1,.inl ⟨rfl,by rw[bC (by omega)];exact g12⟩⟩)
  (by decide) (fun x hx=>by rw[Dy x hx];rfl) (fun _ _ _=>trivial) (fun _ _ _=>trivial) (fun k y Hy B Bb hy hj hn hBq hBb=>?_) (fun Hy hj hn=>?_) (fun _ hs _=>hs.elim) (fun _ _ hs _=>hs.elim)
 ·obtain⟨hk,rfl⟩:=Dx hy;obtain⟨kk,hkk⟩:∃ kk,kk=r.length - 1 - k:=⟨_,rfl⟩
  have e1:(r.length:Int) - 1 - (k:Int)=(kk:Int):=by omega
  have e2:r.length - k=kk+1:=by omega
  have e3:r.length - (k+1)=kk:=by omega
  have hkl:kk<r.length:=by omega
  rw[e1];rw[e2]at hj;rw[e3];refine ag _ _ _ (by rfl) ?_;simp only[go_sem,fP,aS,iq,List.foldl_cons,List.foldl_nil,List.zip_cons_cons,List.zip_nil_right,hBq];obtain⟨H3,hH3⟩:∃ H3,H3=Hy.upd H2.next Bb:=⟨_,rfl⟩
  rw[<- hH3];obtain⟨st,pd,n',en,ps',as',bo,hBe⟩:=hBb;have n3:H3.next=Hy.next:=by rw[hH3];rfl
  have o3:∀ id,id≠H2.next->H3.get id=Hy.get id:=fun id h=>by rw[hH3,ah,if_neg h]
  have jB:H3.get H2.next=some Bb:=by rw[hH3,ah,if_pos rfl]
  clear hH3;have old3:∀ i,i<H2.next->i≠H.next+1->H3.get i=H2.get i:=fun i h1 h2=>(o3 i (by omega)).trans (hj.2.1 i h1 h2);have hS3:SolvH d r lo s lvh I T tot H3:=hS2.i9 hB0 (by omega) fun i hi=>old3 i (by omega) (by omega);have lp3:=af ((old3 H.next (by omega) (by omega)).trans g02);have ls3:=af hS3.top;obtain⟨il,gl,hlv,glv,_,_⟩:=hS3.ve hkl;have llv:=af glv;have lk:=af (hS3.levs.lev kk hkl);rw[<- hD]at lk;simp only[gH]at lk;have hpk:=sK (I:=I) hkl;have hpn:=aP hpk;have hpl:=jG I r.length;have hki:(kk:Int)<r.length:=by omega
  refine W.env fun E3 hE3=>?_;have m1:E3 1=.ptr H.next 0 0:=by rw[hE3];simp only[go_sem,aS,f1]
  have m3:E3 3=.ptr (H.next+1) 0 0:=by rw[hE3];simp only[go_sem,aS,f3]
  have m4:E3 4=aa kk:=by rw[hE3];simp only[go_sem,aS]
  clear hE3;refine W.block ?_;refine W.seq (ag _ _ _ (by rfl) ?_);simp only[go_sem,m1,m4,lp3,ls3,hlv,llv,hpk,hki];obtain⟨cs1,cs2,cd1,cd2,csd⟩:=hsz kk hkl;obtain⟨cE,hcE⟩:∃ cE,cE=D.cs kk*D.cd kk:=⟨_,rfl⟩
  rw[<- hcE]at csd lk;have hexl:(T.ex kk).length=cE:=by rw[hS3.levs.len.ex kk hkl,<- hD,<- hcE]
  have l3t:H3.live (I kk 3) 0=some (3,ints (T.ex kk)):=af (hS3.levs.tab kk 3 hkl (by omega) (by omega));have ll3:(ints (T.ex kk)).length=cE:=by rw[aT];exact hexl
  refine W.env fun E4 hE4=>?_;have q1:E4 1=.ptr H.next 0 0:=by rw[hE4];simp only[go_sem,m1]
  have q3:E4 3=.ptr (H.next+1) 0 0:=by rw[hE4];simp only[go_sem,m3]
  have q4:E4 4=aa kk:=by rw[hE4];simp only[go_sem,m4]
  have q5:E4 5=.ptr (I kk 0) 0 0:=by rw[hE4];simp only[go_sem]
  clear hE4;have hcE0:(0:Int)<=cE:=by omega
  have g3sv:H3.get (H.next+1)=Hy.get (H.next+1):=o3 _ (by omega);obtain⟨Φ,hΦ⟩:∃ Φ:St->Prop,∀ s',Φ s'↔(s'.ρ 1=.ptr H.next 0 0/\s'.ρ 3=.ptr (H.next+1) 0 0/\s'.ρ 4=aa kk/\s'.ρ 5=.ptr (I kk 0) 0 0/\H3.next<=s'.H.next/\(∀ i,i<H3.next->s'.H.get i=H3.get i)/\∃ ibd,s'.ρ 6=.own ibd 0 0 cE 1/\H2.next<ibd/\ibd<s'.H.next/\s'.H.get ibd=some (.arr 0 4 (cP (gU D T (D.K - 1 - kk) kk)))):=⟨_,fun _=>Iff.rfl⟩
  refine W.mo (fun s'=>s'.H=H3/\s'.ρ 1=.ptr H.next 0 0/\s'.ρ 3=.ptr (H.next+1) 0 0/\s'.ρ 4=aa kk/\s'.ρ 5=.ptr (I kk 0) 0 0/\(k=0/\s'.ρ 6=.lit (.slice none 0 0)\/0<k/\∃ ib,H2.next<ib/\ib<H3.next/\s'.ρ 6=.own ib 0 0 (iJ D (kk+1)) 1/\H3.get ib=some (.arr 0 4 (cP (mM D T (kk+1)))))) ?_ ?_
  ·refine ag _ _ _ (by rfl) ?_;rcases hj.2.2 with ⟨hk0,hsv⟩|⟨hk0,ib,i1,i2,i3,i4⟩
   ·have lsv:=af (g3sv.trans hsv);simp only[go_sem,q1,q3,q4,q5,lsv];exact .inl hk0
   ·have lsv:=af (g3sv.trans i3);simp only[go_sem,q1,q3,q4,q5,lsv];exact⟨hk0,ib,i1,by omega,rfl,(o3 ib (by omega)).trans i4⟩
  rintro⟨ρ5,Hq⟩ ⟨hHq,r1,r3,r4,r5,hsp⟩;simp only at hHq r1 r3 r4 r5 hsp;rw[hHq];clear hHq Hq q1 q3 q4 q5;refine W.mo Φ ?_ ?_
  ·refine ag _ _ _ (by rfl) ?_;rcases hsp with ⟨hk0,r6⟩|⟨hk0,ib,i1,i2,r6,i4⟩
   ·have enil:∀ x y,bE Tryz.prog .eql 171 x y (.lit (.slice none 0 0)) (.lit (.slice none 0 0))=some (.lit (.bool true)):=fun x y=>by rfl
    simp only[go_sem,r5,r6,lk,l3t,hcE0,enil];refine⟨by omega,(hΦ _).2 ⟨by simp only[go_sem,r1],by simp only[go_sem,r3],by simp only[go_sem,r4],by simp only[go_sem,r5],Nat.le_succ _,fun i h=>bC h,H3.next,by simp only[go_sem],by omega,Nat.lt_succ_self _,?_⟩⟩;rw[bJ,show D.K - 1 - kk=0 by omega];unfold gU;rw[<- hcE];simp [cP]
   ·have hbr:0<iJ D (kk+1):=by
     unfold iJ;rw[if_pos (by omega),Nat.add_sub_cancel];exact Nat.mul_pos (by omega) (by omega)
    have lib:=af i4;simp only[go_sem,r6,Au,lib,hbr];intro b hb;subst hb;simp only[go_sem];have hbE:iJ D (kk+1)=cE:=(by unfold iJ;rw[if_pos (by omega),Nat.add_sub_cancel,hcE]);have hsb:=Py (D:=D) (T:=T) (j:=kk+1) (by omega) (by omega);rw[Nat.add_sub_cancel]at hsb;exact(hΦ _).2 ⟨by simp only[go_sem,r1],by simp only[go_sem,r3],by simp only[go_sem,r4],by simp only[go_sem,r5],Nat.le_refl _,fun i h=>rfl,ib,by simp only[go_sem,r6,hbE],i1,i2,by rw[<- hsb];exact i4⟩
  rintro⟨ρ6,H4⟩ hΦ6;obtain⟨v1,v3,v4,v5,n4,o4,ibd,v6,d1,d2,d3⟩:=(hΦ _).1 hΦ6;simp only at v1 v3 v4 v5 n4 o4 v6 d2 d3;clear hΦ6 r1 r3 r4 r5 hsp;refine W.seq (ag _ _ _ (by rfl) ?_);simp only[go_sem];have hS4:SolvH d r lo s lvh I T tot H4:=hS3.i9 hB0 n4 fun i hi=>o4 i (by omega);have lp4:=af ((o4 H.next (by omega)).trans ((old3 H.next (by omega) (by omega)).trans g02));have ls4:=af hS4.top;have llv4:=af ((o4 il (by have:=hB0.2.2 _ _ _ hlv;omega)).trans glv);refine W.mo (fun s'=>s'.H=H4/\s'.ρ 3=.ptr (H.next+1) 0 0/\s'.ρ 4=aa kk/\s'.ρ 5=.ptr (I kk 0) 0 0/\s'.ρ 6=.own ibd 0 0 cE 1/\s'.ρ 7=aa (iJ D kk)) ?_ ?_
  ·refine ag _ _ _ (by rfl) ?_;by_cases hk1:(0:Int)<kk
   ·have hk1':kk - 1<r.length:=(by omega);have hpk1:=sK (I:=I) hk1';have hpn1:=aP hpk1;have l14:=af (hS4.levs.lev (kk - 1) hk1');rw[<- hD]at l14;simp only[gH]at l14;have l1e:H4.live (I (kk - 1) 3) 0=some (3,ints (T.ex (kk - 1))):=af (hS4.levs.tab (kk - 1) 3 hk1' (by omega) (by omega));have ll1:(ints (T.ex (kk - 1))).length=D.cs (kk - 1)*D.cd (kk - 1):=(by rw[aT,hS4.levs.len.ex (kk - 1) hk1',<- hD]);have w5:=IntWalk.i64_in ((kk:Int) - 1) (by omega);have ek:(kk:Int) - 1=((kk - 1:Nat):Int):=(by omega);rw[ek]at w5;have hk1i:((kk - 1:Nat):Int)<r.length:=(by omega);simp only[go_sem,v1,v3,v4,v5,v6,hk1,lp4,ls4,hlv,llv4,ek,w5,hk1i,hpk1,l14,l1e];have:iJ D kk=D.cs (kk - 1)*D.cd (kk - 1):=if_pos (by omega);rw[this]
   ·simp only[go_sem,v3,v4,v5,v6,hk1];have:iJ D kk=1:=if_neg (by omega);rw[this];rfl
  rintro⟨ρ7,Hq⟩ ⟨hHq,x3,x4,x5,x6,x7⟩;simp only at hHq x3 x4 x5 x6 x7;rw[hHq];clear hHq Hq v1 v3 v4 v5 v6;obtain⟨bN,hbN⟩:∃ bN,bN=iJ D kk:=⟨_,rfl⟩
  rw[<- hbN]at x7;have hbN4:1<=bN/\bN<=4096:=by
   rw[hbN];unfold iJ;split
   ·have:=hsz (kk - 1) (by omega);exact⟨Nat.mul_pos (by omega) (by omega),this.2.2.2.2⟩
   ·exact⟨Nat.le_refl _,by decide⟩
  have hbN0:(0:Int)<=bN:=by omega
  obtain⟨svc,hsvc⟩:∃ svc,H4.get (H.next+1)=some (.arr 0 171 [svc]):=by
   rcases hj.2.2 with ⟨_,h2⟩|⟨_,ib,_,_,h4,_⟩
   ·exact⟨_,(o4 _ (by omega)).trans (g3sv.trans h2)⟩
   ·exact⟨_,(o4 _ (by omega)).trans (g3sv.trans h4)⟩
  have lsvE:∀ L,(ext H4 L).live (H.next+1) 0=_:=fun L=>(eY (by omega)).trans (af hsvc);refine W.seq (ag _ _ _ (by rfl) ?_);simp only[go_sem,x3,x7,hbN0,lsvE];refine⟨by omega,?_⟩;obtain⟨H5,hH5⟩:∃ H5,H5=(ext H4 [.arr 0 4 (List.replicate bN (.lit (.bool false)))]).upd (H.next+1) (.arr 0 171 [.own H4.next 0 0 bN 1]):=⟨_,rfl⟩
  rw[<- hH5];have n5:H5.next=H4.next+1:=by rw[hH5];rfl
  have o5:∀ i,i<H4.next->i≠H.next+1->H5.get i=H4.get i:=fun i h1 h2=>by rw[hH5,ah,if_neg h2,bC h1]
  have b5:H5.get (H.next+1)=some (.arr 0 171 [.own H4.next 0 0 bN 1]):=by rw[hH5,ah,if_pos rfl]
  have c5:H5.get H4.next=some (.arr 0 4 (cP (eV D T kk bN (gU D T (D.K - 1 - kk) kk) 0))):=by rw[hH5,ah,if_neg (by omega),bJ];simp [eV,cP]
  clear hH5;have hS5:SolvH d r lo s lvh I T tot H5:=hS4.i9 hB0 (by omega) fun i hi=>o5 i (by omega) (by omega);have lk5:=af (hS5.levs.lev kk hkl);rw[<- hD]at lk5;simp only[gH]at lk5;have lbe:H5.live (I kk 4) 0=some (3,ints (T.be kk)):=af (hS5.levs.tab kk 4 hkl (by omega) (by omega));have llb:(ints (T.be kk)).length=D.cs kk:=by rw[aT,hS5.levs.len.be kk hkl,<- hD]
  refine W.env fun E7 hE7=>?_;have y3:E7 3=.ptr (H.next+1) 0 0:=by rw[hE7];simp only[go_sem,x3]
  have y4:E7 4=aa kk:=by rw[hE7];simp only[go_sem,x4]
  have y5:E7 5=.ptr (I kk 0) 0 0:=by rw[hE7];simp only[go_sem,x5]
  have y6:E7 6=.own ibd 0 0 cE 1:=by rw[hE7];simp only[go_sem,x6]
  clear hE7 x3 x4 x5 x6 x7;refine W.seq (ag _ _ _ (by rfl) ?_);simp only[go_sem,y5,lk5,lbe];refine W.env fun E8 hE8=>?_;have z3:E8 3=.ptr (H.next+1) 0 0:=by rw[hE8];simp only[go_sem,y3]
  have z5:E8 5=.ptr (I kk 0) 0 0:=by rw[hE8];simp only[go_sem,y5]
  have z6:E8 6=.own ibd 0 0 cE 1:=by rw[hE8];simp only[go_sem,y6]
  have z48:E8 48=aa (D.cs kk):=by rw[hE8];simp only[go_sem]
  have z49:E8 49=aa 0:=by rw[hE8];simp only[go_sem]
  clear hE8 y3 y4 y5 y6;obtain⟨bad,hbad⟩:∃ b,b=gU D T (D.K - 1 - kk) kk:=⟨_,rfl⟩
  rw[<- hbad]at d3 c5;have hbadl:bad.length=cE:=by rw[hbad,Pw,hcE]
  refine W.block ?_;refine W.aQ 75557863162964369998080 (by rfl) (fun ρ Hz=>∃ c:Nat,ρ 49=aa c/\c<=D.cs kk/\Hz.next=H5.next/\(∀ i,i<H5.next->i≠H4.next->Hz.get i=H5.get i)/\Hz.get H4.next=some (.arr 0 4 (cP (eV D T kk bN bad c)))) (fun ρ Hz=>D.cs kk - (iv (ρ 49)).toNat) ?_ ?_
  ·simp only[go_sem,z49];exact⟨0,rfl,by omega,c5⟩
  rintro ρ8 Hz ⟨c,h49,hc,nz,oz,gz⟩;have hSz:SolvH d r lo s lvh I T tot Hz:=hS5.i9 hB0 (by omega) fun i hi=>oz i (by omega) (by omega);refine W.env fun E9 hE9=>?_;have u3:E9 3=.ptr (H.next+1) 0 0:=by rw[hE9];simp only[go_sem,z3]
  have u5:E9 5=.ptr (I kk 0) 0 0:=by rw[hE9];simp only[go_sem,z5]
  have u6:E9 6=.own ibd 0 0 cE 1:=by rw[hE9];simp only[go_sem,z6]
  have u48:E9 48=aa (D.cs kk):=by rw[hE9];simp only[go_sem,z48]
  have u49:E9 49=aa c:=by rw[hE9];simp only[go_sem,h49]
  clear hE9;have bz:=(oz (H.next+1) (by omega) (by omega)).trans b5;have dz:=(oz ibd (by omega) (by omega)).trans ((o5 ibd d2 (by omega)).trans d3);by_cases hb:(c:Int)<D.cs kk;rotate_left
  ·refine ag _ _ _ (by rfl) ?_;simp only[go_sem,u48,u49,hb,dZ];have hcc:c=D.cs kk:=(by omega);refine⟨?_,by omega,by omega,fun i h1 h2=>?_,by omega,H4.next,by omega,by omega,by rw[bz,hbN],?_⟩
   ·rw[oz _ (by omega) (by omega),o5 _ (by omega) (by omega),o4 _ (by omega)];exact jB
   ·rw[oz i (by omega) (by omega),o5 i (by omega) h2,o4 i (by omega)];exact old3 i h1 h2
   ·rw[gz,hcc,hbad,hbN];rfl
  refine W.seq (ag _ _ _ (by rfl) ?_);simp only[go_sem,u48,u49,hb];refine W.seq (ag _ _ _ (by rfl) ?_);simp only[go_sem];refine W.seq (W.block ?_);refine W.seq (ag _ _ _ (by rfl) ?_);simp only[go_sem,u49];have lzk:=af (hSz.levs.lev kk hkl);rw[<- hD]at lzk;simp only[gH]at lzk;have lzo:Hz.live (I kk 2) 0=some (4,cP (T.oc kk)):=af (hSz.levs.tab kk 2 hkl (by omega) (by omega));have lzol:(T.oc kk).length=D.cs kk:=by rw[hSz.levs.len.oc kk hkl,<- hD]
  obtain⟨o,ho⟩:=aw (l:=T.oc kk) (i:=c) (by omega);have go:(cP (T.oc kk))[c]?=some (.lit (.bool o)):=by rw[vd,ho];rfl
  have gon:=aP go;have llo:(cP (T.oc kk)).length=D.cs kk:=by rw[qT];exact lzol
  have wc:=IntWalk.i64_in ((c:Int)+1) (by omega);have hLz:=hSz.levs;rw[<- hD]at hLz;obtain⟨ab,hab⟩:∃ b,b=jH (D.cd kk) c (T.ex kk) (T.be kk) (T.ch kk) bad:=⟨_,rfl⟩
  have hspn:eV D T kk bN bad (c+1)=if (o && !ab)=true then (eV D T kk bN bad c).set ((T.ab kk).getD c 0).toNat true else eV D T kk bN bad c:=by
   show (if ((T.oc kk).getD c false && !jH (D.cd kk) c (T.ex kk) (T.be kk) (T.ch kk) bad)=true then _ else _)=_;rw[gT ho,<- hab]
  refine W.mo (fun s'=>s'.H=Hz/\s'.ρ 3=.ptr (H.next+1) 0 0/\s'.ρ 5=.ptr (I kk 0) 0 0/\s'.ρ 8=aa c/\s'.ρ 49=aa c/\s'.ρ 65=.lit (.bool (o && !ab))) ?_ ?_
  ·refine ag _ _ _ (by rfl) ?_;cases o with
   | false =>
    simp only[go_sem,u3,u5,u49,lzk,lzo,go,hb]
    try rfl
   | true =>
    simp only[go_sem,u5,u6,lzk,lzo,go,hb];rw[hcE];refine aA.clo (Pq (D:=D) hkl (by omega) (by omega) (by omega) ibd 0 bad (by rw[hbadl,hcE]) Hz hLz dz _ ⟨?_,?_⟩)
    ·exact⟨st,pd,n',en,ps',as',bo,by rw[oz _ (by omega) (by omega),o5 _ (by omega) (by omega),o4 _ (by omega),jB,hBe]⟩
    ·rw[<- hab];cases hq:ab
     ·simp only[go_sem];exact⟨u3,u5,u49⟩
     ·simp only[go_sem];exact⟨u3,u5,u49,rfl⟩
  rintro⟨ρ9,Hq⟩ ⟨hHq,p3,p5,p8,p49,p65⟩;simp only at hHq p3 p5 p8 p49 p65;rw[hHq];clear hHq Hq u3 u5 u6 u48 u49;have hlz:Hz.get H2.next=some (.loop st pd n' en ps' as' bo):=by rw[oz _ (by omega) (by omega),o5 _ (by omega) (by omega),o4 _ (by omega),jB,hBe]
  cases hfl:(o && !ab) with
  | false =>
   rw[hfl]at p65 hspn;rw[if_neg (by decide)]at hspn;refine W.cond (t:=false) p65 ?_;refine ag _ _ _ (by rfl) ?_;simp only[go_sem];refine ag _ _ _ (by rfl) ?_;simp only[go_sem,p49,wc];exact⟨by omega,⟨st,pd,n',en,ps',as',bo,hlz⟩,⟨c+1,rfl,by omega,nz,oz,by rw[hspn];exact gz⟩,by rw[h49];simp only[aa,bF];omega⟩
  | true =>
   rw[hfl]at p65 hspn;rw[if_pos rfl]at hspn;refine W.cond (t:=true) p65 ?_;have lza:Hz.live (I kk 1) 0=some (3,ints (T.ab kk)):=af (hSz.levs.tab kk 1 hkl (by omega) (by omega));have lzal:(T.ab kk).length=D.cs kk:=(by rw[hSz.levs.len.ab kk hkl,<- hD]);obtain⟨av,hav⟩:=aw (l:=T.ab kk) (i:=c) (by omega);have hav2:=gT (z:=0) hav;have hrng:0<=av/\av.toNat<bN:=by
    rw[<- hav2,hbN];unfold iJ;by_cases hk1:0<kk
    ·rw[if_pos hk1];exact hR.ab kk c hk1 (by omega) (by omega)
    ·have h0:kk=0:=(by omega);rw[if_neg hk1,h0];have:=h00 c (by rw[<- h0];omega);omega
   obtain⟨aN,rfl⟩:=Int.eq_ofNat_of_zero_le hrng.1;have ga:(ints (T.ab kk))[c]?=some (aa aN):=(by rw[eE,hav];rfl);have gan:=aP ga;have lla:(ints (T.ab kk)).length=D.cs kk:=(by rw[aT];exact lzal);have lbz:=af bz;have lgz:=af gz;have llz:(cP (eV D T kk bN bad c)).length=bN:=(by rw[qT,qU]);have aNi:(aN:Int)<bN:=(by omega);have es:setAt (cP (eV D T kk bN bad c)) aN [.lit (.bool true)]=cP (eV D T kk bN bad (c+1)):=by
    rw[C6 (by rw[qU];omega),hspn,hav2];rfl
   refine W.draw 8 [0,0,2,6,14,0,62,126] Tryz.mixed (by kernel_rfl) (by kernel_rfl) ?_;simp only[go_sem,p3,p5,p8,lbz,lgz,llz,lzk,lza,ga,hb,aNi,es];refine⟨by omega,?_⟩;refine ag _ _ _ (by rfl) ?_;simp only[go_sem,p49,wc];exact⟨by rw[aD];omega,⟨st,pd,n',en,ps',as',bo,by rw[ah,if_neg (by omega)];exact hlz⟩,⟨c+1,rfl,by omega,by rw[aD];exact nz,fun i h1 h2=>by rw[ah,if_neg h2];exact oz i h1 h2,by rw[ah,if_pos rfl]⟩,by rw[h49];simp only[aa,bF];omega⟩
 ·simp only[go_sem];have hov:Over H Hy:=⟨by omega,fun i hi=>by rw[hj.2.1 i (by omega) (by omega),o2.old i (by omega),o1.old i hi]⟩
  rw[vr]at hj;rcases hj.2.2 with ⟨h1,h2⟩|⟨h1,ib,h2,h3,h4,h5⟩
  ·have lsv:=af h2;refine ag _ _ _ (by rfl) ?_;simp only[go_sem,f3,lsv];refine aA.clo (PA _ _ ⟨trivial,?_⟩);simp only[go_sem];have:jJ D T=true:=(by unfold jJ;rw[if_pos (by omega)]);rw[this]at hK;exact au.bG aJ hcl hov (.lit _) hK
  ·rw[Nat.sub_self]at h4 h5;have lsv:=af h4;have hb0:iJ D 0=1:=if_neg (by omega);have hl:=Pz D T 0;rw[<- hl]at lsv;refine ag _ _ _ (by rfl) ?_;simp only[go_sem,f3,lsv];refine aA.clo (Pv (mM D T 0) (by rw[hl,hb0];decide) ib 0 Hy h5 _ ⟨trivial,?_⟩);have hfe:jJ D T=!(mM D T 0).contains true:=by
    unfold jJ mM;rw[if_neg (by omega),hb0];rfl
   rw[hfe]at hK;cases hcb:(mM D T 0).contains true with
   | true =>
    rw[hcb]at hK;simp only[go_sem];exact au.bG aJ hcl hov (.lit _) hK
   | false =>
    rw[hcb]at hK;simp only[go_sem];exact au.bG aJ hcl hov (.lit _) hK
end Go.Proofs
namespace Go.Proofs
open Go.Hx
def c7 (T:TabS)(k c:Nat)(x:Nat):TabS:={ T with ch:=eB T.ch k ((T.ch k).set c (x:Int)) }
def pD (D:DPr)(T:TabS)(k c:Nat):Nat:=iF (fun x=>jJ D (c7 T k c x)) (D.cd k - 1) 0
def jq (D:DPr)(T:TabS)(k:Nat):Nat->TabS
 | 0=>T
 | n+1=>c7 (jq D T k n) k n (pD D (jq D T k n) k n)
theorem qW (T:TabS)(k c x:Nat):(c7 T k c x).ch k=(T.ch k).set c (x:Int):=ka ..
theorem Dd (T:TabS)(k c x k' c':Nat)(hc:c<(T.ch k).length):((c7 T k c x).ch k').getD c' 0=if k'=k/\c'=c then (x:Int) else (T.ch k').getD c' 0:=by
 unfold c7;simp only;by_cases e:k'=k
 ·subst e;rw[ka,nW _ _ _ _ _ hc];by_cases e2:c=c'
  ·rw[if_pos e2,if_pos ⟨rfl,e2.symm⟩]
  ·rw[if_neg e2,if_neg fun h=>e2 h.2.symm]
 ·rw[jo e,if_neg fun h=>e h.1]
theorem De {T:TabS}{k c x:Nat}(hc:c<(T.ch k).length):jI (c7 T k c x)=jV (jI T) k c x:=by
 funext k' c'
 unfold jI;rw[Dd _ _ _ _ _ _ hc];by_cases h:k'=k/\c'=c
 ·rw[if_pos h,h.1,h.2,mH,if_neg (by omega)];simp
 ·rw[if_neg h,mI h]
theorem vf {D:DPr}{T:TabS}(hR:T.Rng D){k c x:Nat}(hc:c<(T.ch k).length):(c7 T k c x).Rng D :=
 ⟨hR.ab,fun k' c' h1 h2=>by
  rw[Dd _ _ _ _ _ _ hc];split
  ·right;omega
  ·exact hR.ch k' c' h1 h2⟩
theorem vh {D:DPr}{T:TabS}{n:Nat}(hl:T.Len D n)(k c x:Nat):(c7 T k c x).Len D n :=
 ⟨hl.ab,hl.oc,hl.ex,hl.be,fun k' h=>by
  unfold c7;simp only;by_cases e:k'=k
  ·rw[e,ka,List.length_set,<- e];exact hl.ch k' h
  ·rw[jo e];exact hl.ch k' h⟩
theorem Df {f g:Nat->Bool}:∀ n x,(∀ y,x<=y->y<x+n->f y=g y)->iF f n x=iF g n x:=by
 intro n
 induction n with
 | zero=>intro x _;rfl
 | succ n ih =>
  intro x h;unfold iF;rw[h x (Nat.le_refl _) (by omega),ih (x+1) fun y h1 h2=>h y (by omega) (by omega)]
theorem PC {D:DPr}{T:TabS}{tot:Int}(hR:T.Rng D)(h0:∀ c,c<D.cs 0->((T.ab 0).getD c 0).toNat=0){k c:Nat}(hc:c<(T.ch k).length):pD D T k c=iG D (kd T tot) (jI T) k c:=by
 unfold pD iG;refine Df _ _ fun y _ _=>?_;have h1:=Px (D:=D) (T:=c7 T k c y) (tot:=tot) (vf hR hc) h0;rw[De hc]at h1;have h2:kd (c7 T k c y) tot=kd T tot:=rfl;rw[h2]at h1;rw[Bool.eq_iff_iff,h1,sr]
end Go.Proofs
namespace Go.Proofs
open Go.Hx
theorem PD {f:Nat->Bool}{n x:Nat}(h1:∀ y,y<x->f y=false)(h2:x<=n)(h3:x<n->f x=true):iF f n 0=x:=by
 obtain⟨_,a2,a3,a4⟩:=CC f n 0;rcases Nat.lt_trichotomy (iF f n 0) x with h|h|h
 ·have:=a4 (by omega);rw[h1 _ h]at this;cases this
 ·exact h
 ·have:=h3 (by omega);rw[a3 x (Nat.zero_le _) h]at this;cases this
def sL (H:AHeap)(i c:Nat):Nat:=match H.get i with
 | some (.arr _ _ cells)=>match cells[c]? with
  | some (.lit (.int _ z))=>z.toNat
  | _=>0
 | _=>0
theorem Dh (D:DPr)(T:TabS)(k:Nat):∀ n,(jq D T k n).ab=T.ab:=by
 intro n
 induction n with
 | zero=>rfl
 | succ n ih=>exact ih
theorem Di {D:DPr}{T:TabS}{m:Nat}(hl:T.Len D m)(k:Nat):∀ n,(jq D T k n).Len D m:=by
 intro n
 induction n with
 | zero=>exact hl
 | succ n ih=>exact vh ih _ _ _
theorem Dj {D:DPr}{T:TabS}{m:Nat}(hl:T.Len D m)(hR:T.Rng D){k:Nat}(hk:k<m):∀ n,n<=D.cs k->(jq D T k n).Rng D:=by
 intro n
 induction n with
 | zero=>intro _;exact hR
 | succ n ih=>intro hn;exact vf (ih (by omega)) (by rw[(Di hl k n).ch k hk];omega)
set_option maxHeartbeats 4000000 in
theorem PE {d:InfP}{r:List Nat}(hrl:r.length<=64){lo s:Nat}{lvh:AVal}{I:Nat->Nat->Nat}{T:TabS}{tot:Int}(hsz:∀ k,k<r.length->1<=(ar d r).cs k/\(ar d r).cs k<=1024/\1<=(ar d r).cd k/\(ar d r).cd k<=4/\(ar d r).cs k*(ar d r).cd k<=4096)(hR:T.Rng (ar d r))(h00:∀ c,c<(ar d r).cs 0->((T.ab 0).getD c 0)=0){k:Nat}(hk:k<r.length)
  (bx:Nat) (H:AHeap) (hbx:H.get bx=some (.arr 0 110 [.ptr s 0 0])) (hbl:bx<H.next) (hbs:bx≠s/\∀ k j,k<r.length->j<6->bx≠I k j) (hS:SolvH d r lo s lvh I T tot H) (K:ARes->AHeap->Prop)
  (hK:∀ H',H'.next=H.next->jK r s I H H'->SolvH d r lo s lvh I (jq (ar d r) T k ((ar d r).cs k)) tot H'->K (.ret (.own (I k 5) 0 0 ((ar d r).cs k) 1)) H'):
  ae Tryz.prog G0 111 [.ptr (I k 0) 0 0,.ptr bx 0 0] H K:=by
 obtain⟨D,hD⟩:∃ D,D=ar d r:=⟨_,rfl⟩
 have lk:=af (hS.levs.lev k hk);rw[<- hD]at lk;simp only[gH]at lk;have l5:H.live (I k 5) 0=some (3,ints (T.ch k)):=af (hS.levs.tab k 5 hk (by omega) (by omega));have ll5:(ints (T.ch k)).length=D.cs k:=by rw[aT,hS.levs.len.ch k hk,<- hD]
 refine ae.d7 (n:=51) (rs:=[.tmp 3]) Tryz.func111 rfl rfl rfl (by decide) (by simp) ?_;refine W.seq (ag _ _ _ (by rfl) ?_);simp only[go_sem];refine W.seq (ag _ _ _ (by rfl) ?_);simp only[go_sem,lk,l5];refine W.env fun E hE=>?_;have e0:E 0=.ptr (I k 0) 0 0:=by rw[hE];simp only[go_sem]
 have e1:E 1=.ptr bx 0 0:=by rw[hE];simp only[go_sem]
 have e9:E 9=aa (D.cs k):=by rw[hE];simp only[go_sem]
 have e10:E 10=aa 0:=by rw[hE];simp only[go_sem]
 clear hE
 try refine W.block ?_
 refine W.aQ 140737488354320 (by rfl) (fun ρ Hx=>∃ c:Nat,ρ 10=aa c/\c<=D.cs k/\Hx.next=H.next/\jK r s I H Hx/\SolvH d r lo s lvh I (jq D T k c) tot Hx) (fun ρ Hx=>D.cs k - (iv (ρ 10)).toNat) ?_ ?_
 ·simp only[go_sem,e10];exact⟨0,rfl,by omega,fun _ _ _=>rfl,hS⟩
 rintro ρ Hx ⟨c,h10,hc,nx,hout,hSx⟩;obtain⟨Tc,hTc⟩:∃ Tc,Tc=jq D T k c:=⟨_,rfl⟩
 rw[<- hTc]at hSx;have lxk:=af (hSx.levs.lev k hk);rw[<- hD]at lxk;simp only[gH]at lxk;have lx5:Hx.live (I k 5) 0=some (3,ints (Tc.ch k)):=af (hSx.levs.tab k 5 hk (by omega) (by omega));have lxl:=hSx.levs.len.ch k hk;rw[<- hD]at lxl;have ll:=aT (Tc.ch k);rw[lxl]at ll;refine W.env fun E1 hE1=>?_;have f0:E1 0=.ptr (I k 0) 0 0:=by rw[hE1];simp only[go_sem,e0]
 have f1:E1 1=.ptr bx 0 0:=by rw[hE1];simp only[go_sem,e1]
 have f9:E1 9=aa (D.cs k):=by rw[hE1];simp only[go_sem,e9]
 have f10:E1 10=aa c:=by rw[hE1];simp only[go_sem,h10]
 clear hE1;by_cases hb:(c:Int)<D.cs k;rotate_left
 ·refine ag _ _ _ (by rfl) ?_;simp only[go_sem,f9,f10,hb];have hcc:c=D.cs k:=by omega
  refine ag _ _ _ (by rfl) ?_;simp only[go_sem,f0,lxk];rw[hTc,hcc,hD]at hSx;rw[hD];exact au.mk (by omega) (hK Hx nx hout hSx)
 refine W.seq (ag _ _ _ (by rfl) ?_);simp only[go_sem,f9,f10,hb];refine W.seq (ag _ _ _ (by rfl) ?_);simp only[go_sem];refine W.seq (W.block ?_);refine W.seq (ag _ _ _ (by rfl) ?_);simp only[go_sem,f10];have es:setAt (ints (Tc.ch k)) c [.lit (.int .i64 0)]=ints ((c7 Tc k c 0).ch k):=by rw[gF (by rw[lxl];omega),qW];rfl
 refine W.seq (ag _ _ _ (by rfl) ?_);simp only[go_sem,f0,lxk,lx5,ll,hb,es];refine⟨by omega,?_⟩;obtain⟨H4,hH4⟩:∃ H4,H4=Hx.upd (I k 5) (.arr 0 3 (ints ((c7 Tc k c 0).ch k))):=⟨_,rfl⟩
 rw[<- hH4];have hTl:=hSx.levs.len;have tr:∀ x (T2:TabS) (Ha:AHeap),(∃ y,T2=c7 Tc k c y)->SolvH d r lo s lvh I T2 tot Ha->SolvH d r lo s lvh I (c7 Tc k c x) tot (Ha.upd (I k 5) (.arr 0 3 (ints ((c7 Tc k c x).ch k)))):=fun x T2 Ha h2 hSa=>by
  obtain⟨y,rfl⟩:=h2;have hb5:dm (c7 Tc k c x) k 5=.arr 0 3 (ints ((c7 Tc k c x).ch k)):=rfl;rw[<- hb5];refine hSa.upd hk (by omega) (by omega) (fun k' j' h1 h2 h3 h4=>?_) (vh hTl _ _ _)
  match j',h2,h3 with
  | 1,_,_=>rfl
  | 2,_,_=>rfl
  | 3,_,_=>rfl
  | 4,_,_=>rfl
  | 5,_,_ =>
   have hne:k'≠k:=fun e=>h4 ⟨e,rfl⟩;show Blk.arr 0 _ (ints (eB Tc.ch k _ k'))=Blk.arr 0 _ (ints (eB Tc.ch k _ k'));rw[jo hne,jo hne]
 have hSx':SolvH d r lo s lvh I (c7 Tc k c 0) tot H4:=by
  have hb5:dm (c7 Tc k c 0) k 5=.arr 0 3 (ints ((c7 Tc k c 0).ch k)):=rfl;rw[hH4,<- hb5];refine hSx.upd hk (by omega) (by omega) (fun k' j' h1 h2 h3 h4=>?_) (vh hTl _ _ _)
  match j',h2,h3 with
  | 1,_,_=>rfl
  | 2,_,_=>rfl
  | 3,_,_=>rfl
  | 4,_,_=>rfl
  | 5,_,_ =>
   have hne:k'≠k:=fun e=>h4 ⟨e,rfl⟩;show Blk.arr 0 _ (ints (eB Tc.ch k _ k'))=Blk.arr 0 _ (ints (Tc.ch k'));rw[jo hne]
 have n4:H4.next=H.next:=by rw[hH4,aD];exact nx
 have o4:jK r s I H H4:=fun i h1 h2=>by rw[hH4,ah,if_neg (h2 k 5 hk (by omega))];exact hout i h1 h2
 clear hH4;refine W.env fun E2 hE2=>?_;have m0:E2 0=.ptr (I k 0) 0 0:=by rw[hE2];simp only[go_sem,f0]
 have m1:E2 1=.ptr bx 0 0:=by rw[hE2];simp only[go_sem,f1]
 have m4:E2 4=aa c:=by rw[hE2];simp only[go_sem]
 have m10:E2 10=aa c:=by rw[hE2];simp only[go_sem,f10]
 clear hE2;have hszk:=hsz k hk;rw[<- hD]at hszk;refine W.block ?_;refine W.aQ 70368743653376 (by rfl) (fun ρ Hz=>∃ x:Nat,x<=D.cd k - 1/\Hz.next=H.next/\jK r s I H Hz/\SolvH d r lo s lvh I (c7 Tc k c x) tot Hz/\∀ y,y<x->jJ D (c7 Tc k c y)=false) (fun ρ Hz=>D.cd k - sL Hz (I k 5) c) ?_ ?_
 ·exact⟨0,by omega,n4,o4,hSx',fun y hy=>absurd hy (Nat.not_lt_zero _)⟩
 rintro ρ2 Hz ⟨x,hx,nz,oz,hSz,hno⟩;refine W.env fun E3 hE3=>?_;have u0:E3 0=.ptr (I k 0) 0 0:=by rw[hE3];simp only[go_sem,m0]
 have u1:E3 1=.ptr bx 0 0:=by rw[hE3];simp only[go_sem,m1]
 have u4:E3 4=aa c:=by rw[hE3];simp only[go_sem,m4]
 have u10:E3 10=aa c:=by rw[hE3];simp only[go_sem,m10]
 clear hE3;have lzk:=af (hSz.levs.lev k hk);rw[<- hD]at lzk;simp only[gH]at lzk;have gz5:Hz.get (I k 5)=some (.arr 0 3 (ints ((c7 Tc k c x).ch k))):=hSz.levs.tab k 5 hk (by omega) (by omega);have lz5:=af gz5;have lzl:(ints ((c7 Tc k c x).ch k)).length=D.cs k:=by rw[aT,hSz.levs.len.ch k hk,<- hD]
 have gx:(ints ((c7 Tc k c x).ch k))[c]?=some (aa x):=by rw[eE,qW,List.getElem?_set_self (by omega)];rfl
 have gxn:=aP gx;have wcd:=IntWalk.i64_in ((D.cd k:Int) - 1) (by omega);have gbz:=(oz bx hbs.1 hbs.2).trans hbx;have lbz:=af gbz;refine W.seq (W.mo (fun s'=>s'.H=Hz/\s'.ρ 0=.ptr (I k 0) 0 0/\s'.ρ 4=aa c/\s'.ρ 10=aa c/\s'.ρ 36=.lit (.bool (decide (x<D.cd k - 1) && !jJ D (c7 Tc k c x)))) ?_ ?_)
 ·refine W.draw 12 [0,1,3,7,0,31,63,0,128,384,896,1920] Tryz.mixed (by kernel_rfl) (by kernel_rfl) ?_;by_cases hxb:(x:Int)<(D.cd k:Int) - 1
  ·simp only[go_sem,u0,u1,u4,lzk,lz5,gx,hb,wcd,hxb,lbz];have hRc:Tc.Rng (ar d r):=(by rw[hTc,hD];exact Dj hS.levs.len hR hk c (by rw[<- hD];exact hc));refine aA.clo (PB hrl hsz (vf hRc (by rw[lxl];omega)) (fun c' h=>?_) Hz hSz _ ⟨trivial,?_⟩)
   ·show (Tc.ab 0).getD c' 0=0;rw[hTc,Dh];exact h00 c' h
   rw[<- hD];have hd1:decide (x<D.cd k - 1)=true:=decide_eq_true (by omega);rw[hd1];cases hfb:jJ D (c7 Tc k c x) with
   | true =>
    simp only[go_sem,u0,u4,u10]
    try rfl
   | false =>
    simp only[go_sem,u0,u4,u10]
    try rfl
  ·simp only[go_sem,u0,u4,u10,lzk,lz5,gx,hb,wcd,hxb];have hd1:decide (x<D.cd k - 1)=false:=decide_eq_false (by omega);rw[hd1];rfl
 rintro⟨ρ3,Hq⟩ ⟨hHq,v0,v4,v10,v36⟩;simp only at hHq v0 v4 v10 v36;rw[hHq];clear hHq Hq;cases hfl:(decide (x<D.cd k - 1) && !jJ D (c7 Tc k c x)) with
 | false =>
  rw[hfl]at v36;refine W.cond (t:=false) v36 ?_;refine ag _ _ _ (by rfl) ?_;simp only[go_sem];have hle:pD D Tc k c=x:=PD hno hx fun h=>by
   rw[decide_eq_true h,Bool.true_and,Bool.not_eq_false']at hfl;exact hfl
  have hnext:jq D T k (c+1)=c7 Tc k c x:=by
   show c7 (jq D T k c) k c (pD D (jq D T k c) k c)=_;rw[<- hTc,hle]
  have wc:=IntWalk.i64_in ((c:Int)+1) (by omega);refine ag _ _ _ (by rfl) ?_;simp only[go_sem,v10,wc];exact⟨by omega,⟨c+1,rfl,by omega,nz,oz,by rw[hnext];exact hSz⟩,by rw[h10];simp only[aa,bF];omega⟩
 | true =>
  rw[hfl]at v36;refine W.cond (t:=true) v36 ?_;refine ag _ _ _ (by rfl) ?_;simp only[go_sem];have hfl2:x<D.cd k - 1/\jJ D (c7 Tc k c x)=false:=by simpa using hfl
  have wx:=IntWalk.i64_in ((x:Int)+1) (by omega);have es2:setAt (ints ((c7 Tc k c x).ch k)) c [.lit (.int .i64 ((x:Int)+1))]=ints ((c7 Tc k c (x+1)).ch k):=by
   rw[gF (by rw[qW,List.length_set,lxl];omega),qW,qW,List.set_set];rfl
  refine W.block ?_;refine ag _ _ _ (by rfl) ?_;simp only[go_sem,v0,v4,lzk,lz5,lzl,gx,hb,wx,es2];have hS2:=tr (x+1) _ Hz ⟨x,rfl⟩ hSz;have hc5:sL Hz (I k 5) c=x:=by unfold sL;rw[gz5];simp only;rw[gx];simp [aa]
  have hc6:sL (Hz.upd (I k 5) (.arr 0 3 (ints ((c7 Tc k c (x+1)).ch k)))) (I k 5) c=x+1:=by
   unfold sL;rw[ah,if_pos rfl];simp only;rw[eE,qW,List.getElem?_set_self (by omega)];simp [aa]
  refine⟨by omega,by rw[aD];omega,⟨x+1,by omega,by rw[aD];exact nz,fun i h1 h2=>by rw[ah,if_neg (h2 k 5 hk (by omega))];exact oz i h1 h2,hS2,fun y hy=>?_⟩,by rw[hc5,hc6];omega⟩;rcases Nat.lt_or_eq_of_le (Nat.le_of_lt_succ hy) with h|h
  ·exact hno y h
  ·rw[h];exact hfl2.2
end Go.Proofs
namespace Go.Proofs
open Go.Hx
theorem PF {D:DPr}{r:List Nat}{lo n:Nat}{I:Nat->Nat->Nat}{T:TabS}{a b:Nat}(ha:a<n)(hb:b<n)(hr:r.getD a 0<64/\r.getD b 0<64)(H:AHeap)(hL:LevH D r lo n I T H)(K:ARes->AHeap->Prop)(hK:K (.ret (aa ((r.getD a 0:Nat) - (r.getD b 0:Nat):Int))) H):
  ae Tryz.prog G0 110 [.ptr (I a 0) 0 0,.ptr (I b 0) 0 0] H K:=by
 have la:=af (hL.lev a ha);have lb:=af (hL.lev b hb);simp only[gH]at la lb;have w:=IntWalk.i64_in (((r.getD a 0:Nat):Int) - ((r.getD b 0:Nat):Int)) (by omega);refine ae.d7 (n:=14) (rs:=[.tmp 4]) Tryz.func110 rfl rfl rfl (by decide) (by simp) ?_;refine W.seq (ag _ _ _ (by rfl) ?_);simp only[go_sem];refine W.seq ?_;refine W.draw 8 [0,1,3,7,0,16,48,112] Tryz.mixed (by kernel_rfl) (by kernel_rfl) ?_;simp only[go_sem,la,lb,w];refine ag _ _ _ (by rfl) ?_;simp only[go_sem];exact au.mk (Nat.le_refl _) hK
theorem PG {lo:Nat}{v:AVal}{cs:List AVal}(h0:cs≠[])(hl:cs.length<=64)(hone:cs.all AVal.one=true)(H:AHeap)(hv:aF lo H 170 v cs)(K:ARes->AHeap->Prop)(hK:∀ id g H',Over H H'->H.next<=id->id<H'.next->H'.get id=some (.arr g 170 cs)->K (.ret (.own id g 0 cs.length 1)) H'):
  ae Tryz.prog G0 108 [v] H K:=by
 rcases hv with ⟨_,h⟩|⟨i,g,h1,h2,rfl,h4⟩
 ·exact absurd h h0
 have hpos:0<cs.length:=List.length_pos_iff.2 h0;have lv:=af h4;have lvE:∀ L,(ext H L).live i g=_:=fun L=>(eY h2).trans lv;refine ae.d7 (n:=8) (rs:=[.tmp 2]) Tryz.func108 rfl rfl rfl (by decide) (by simp) ?_;refine W.seq (ag _ _ _ (by rfl) ?_);simp only[go_sem];refine W.seq (ag _ _ _ (by rfl) ?_);simp only[go_sem,Au,lv,hpos];intro b hb;subst hb;simp only[go_sem];refine ag _ _ _ (by rfl) ?_;simp only[go_sem,lvE,aX];rw[List.take_length,if_neg (by omega)];refine⟨⟨rfl,by omega,by omega,hone⟩,?_⟩;simp only[go_sem];refine au.mk (by rw[aR];exact Nat.le_add_right ..) (hK H.next 1 _ (.ext _ _) (Nat.le_refl _) (by rw[aR];exact Nat.lt_succ_self _) ?_);rw[bJ];simp
end Go.Proofs
namespace Go.Proofs
open Go.Hx
def pE (l:List Nat)(i j:Nat):List Nat:=(l.set i (l.getD j 0)).set j (l.getD i 0)
theorem PH {l:List Nat}{i j:Nat}(hi:i<l.length)(hj:j<l.length)(hij:i≠j)(a:Nat):(pE l i j).getD a 0=if a=j then l.getD i 0 else if a=i then l.getD j 0 else l.getD a 0:=by
 unfold pE;rw[nW _ _ _ _ _ (by rw[List.length_set];exact hj),nW _ _ _ _ _ hi];by_cases h1:a=j
 ·rw[if_pos h1,if_pos h1.symm]
 ·rw[if_neg h1,if_neg fun h=>h1 h.symm];by_cases h2:a=i
  ·rw[if_pos h2,if_pos h2.symm]
  ·rw[if_neg h2,if_neg fun h=>h2 h.symm]
def oa (f:Nat->Nat)(l:List Nat)(n:Nat):Prop:=∀ a b,a<b->b<n->f (l.getD a 0)<=f (l.getD b 0)
def sM (f:Nat->Nat)(l:List Nat)(i j:Nat):Prop:=(∀ a b,a<b->b<=i->a≠j->b≠j->f (l.getD a 0)<=f (l.getD b 0))/\∀ b,j<b->b<=i->f (l.getD j 0)<=f (l.getD b 0)
theorem PI {f:Nat->Nat}{l:List Nat}{i:Nat}(h:oa f l i):sM f l i i:=⟨fun a b h1 h2 h3 h4=>h a b h1 (by omega),fun b h1 h2=>by omega⟩
theorem PJ {f:Nat->Nat}{l:List Nat}{i j:Nat}(h:sM f l i j)(hj:j<=i)(hd:j=0\/f (l.getD (j - 1) 0)<=f (l.getD j 0)):oa f l (i+1):=by
 intro a b h1 h2;by_cases hb:b=j
 ·subst hb;rcases hd with h0|h0
  ·omega
  ·by_cases ha:a=b - 1
   ·rw[ha];exact h0
   ·exact Nat.le_trans (h.1 a (b - 1) (by omega) (by omega) (by omega) (by omega)) h0
 ·by_cases ha:a=j
  ·subst ha;exact h.2 b h1 (by omega)
  ·exact h.1 a b h1 (by omega) ha hb
theorem PK {f:Nat->Nat}{l:List Nat}{i j:Nat}(h:sM f l i j)(hj:j<=i)(hi:i<l.length)(h0:0<j)(hlt:f (l.getD j 0)<f (l.getD (j - 1) 0)):sM f (pE l j (j - 1)) i (j - 1):=by
 have g:=PH (l:=l) (i:=j) (j:=j - 1) (by omega) (by omega) (by omega);constructor
 ·intro a b h1 h2 h3 h4;rw[g a,g b,if_neg h3,if_neg h4];by_cases ha:a=j
  ·rw[if_pos ha,if_neg (by omega)];exact h.1 (j - 1) b (by omega) h2 (by omega) (by omega)
  ·rw[if_neg ha];by_cases hb:b=j
   ·rw[if_pos hb];exact h.1 a (j - 1) (by omega) (by omega) ha (by omega)
   ·rw[if_neg hb];exact h.1 a b h1 h2 ha hb
 ·intro b h1 h2;rw[g (j - 1),if_pos rfl,g b,if_neg (by omega)];by_cases hb:b=j
  ·rw[if_pos hb];exact Nat.le_of_lt hlt
  ·rw[if_neg hb];exact h.2 b (by omega) h2
end Go.Proofs
namespace Go.Proofs
open Go.Hx
def fT (I:Nat->Nat->Nat)(l:List Nat):List AVal:=l.map fun k=>.ptr (I k 0) 0 0
theorem mO (I:Nat->Nat->Nat)(l:List Nat):(fT I l).length=l.length:=by simp [fT]
theorem sN {I:Nat->Nat->Nat}{l:List Nat}{i k:Nat}(h:l[i]?=some k):(fT I l)[i]?=some (.ptr (I k 0) 0 0):=by simp [fT,h]
theorem Dk (I:Nat->Nat->Nat)(n:Nat):fT I (List.range n)=iY I n:=rfl
theorem Dl {I:Nat->Nat->Nat}{l:List Nat}{i k:Nat}(h:i<l.length):setAt (fT I l) i [.ptr (I k 0) 0 0]=fT I (l.set i k):=by
 rw[im (by rw[mO];exact h)];unfold fT;rw[List.map_set]
end Go.Proofs
namespace Go.Proofs
open Go.Hx
theorem PR {l:List Nat}{i j:Nat}(hi:i<l.length)(hj:j<l.length):(pE l i j).Perm l:=by
 unfold pE;rw[List.getD_eq_getElem?_getD,List.getD_eq_getElem?_getD,List.getElem?_eq_getElem hi,List.getElem?_eq_getElem hj];exact List.set_set_perm hi hj
theorem oe {l:List Nat}{i:Nat}(h:i<l.length):l[i]?=some (l.getD i 0):=by
 rw[List.getD_eq_getElem?_getD,List.getElem?_eq_getElem h];rfl
theorem PS {H:AHeap}{id:Nat}{b:Blk}(h:H.get id=some b):H.upd id b=H:=by
 have e:(fun j=>if j=id then some b else H.get j)=H.get:=by
  funext j
  by_cases hj:j=id
  ·rw[if_pos hj,hj,h]
  ·rw[if_neg hj]
 show AHeap.mk (fun j=>if j=id then some b else H.get j) H.next=H;rw[e]
theorem Dn (H:AHeap)(id:Nat)(b c:Blk):(H.upd id b).upd id c=H.upd id c:=by
 unfold AHeap.upd;congr 1
 funext j
 by_cases hj:j=id<;>simp [hj]
set_option maxHeartbeats 4000000 in
theorem PT {D:DPr}{r:List Nat}{lo m:Nat}{I:Nat->Nat->Nat}{T:TabS}{id g:Nat}{l:List Nat}(hl:l.length<=64)(h2:2<=l.length)(hm:∀ a∈l,a<m)(hr:∀ a∈l,r.getD a 0<64)(H:AHeap)(hL:LevH D r lo m I T H)(hid:H.get id=some (.arr g 170 (fT I l)))(hI:∀ k j,k<m->j<6->id≠I k j)(K:ARes->AHeap->Prop)
  (hK:∀ l' H',H'=H.upd id (.arr g 170 (fT I l'))->l'.Perm l->oa (fun a=>r.getD a 0) l' l.length->K (.ret (.tup [])) H'):
  ae Tryz.prog G0 150 [.own id g 0 l.length 1,aa 0,aa l.length,.clo 110 [] []] H K:=by
 obtain⟨f,hf⟩:∃ f:Nat->Nat,f=fun a=>r.getD a 0:=⟨_,rfl⟩
 rw[<- hf]at hK;refine ae.d7 (n:=53) (rs:=[]) Tryz.func150 rfl rfl rfl (by decide) (by simp) ?_;refine W.seq (ag _ _ _ (by rfl) ?_);simp only[go_sem];refine W.env fun E hE=>?_;have e0:E 0=.own id g 0 l.length 1:=by rw[hE];simp only[go_sem]
 have e1:E 1=aa 0:=by rw[hE];simp only[go_sem]
 have e2:E 2=aa l.length:=by rw[hE];simp only[go_sem]
 have e3:E 3=.clo 110 [] []:=by rw[hE];simp only[go_sem]
 have e8:E 8=aa 1:=by rw[hE];simp only[go_sem];rfl
 clear hE;refine W.block ?_;refine W.aQ 9007199254737664 (by rfl) (fun ρ Hx=>∃ (i:Nat) (q:List Nat),ρ 8=aa i/\1<=i/\i<=l.length/\q.Perm l/\oa f q i/\Hx=H.upd id (.arr g 170 (fT I q))) (fun ρ Hx=>l.length - (iv (ρ 8)).toNat) ?_ ?_
 ·refine⟨1,l,e8,by omega,by omega,.refl _,fun a b h1 h2=>by omega,(PS hid).symm⟩
 rintro ρ Hx ⟨i,q,h8,hi1,hi,hq,hS,hHx⟩;have ql:=hq.length_eq;refine W.env fun E1 hE1=>?_;have f0:E1 0=.own id g 0 l.length 1:=by rw[hE1];simp only[go_sem,e0]
 have f1:E1 1=aa 0:=by rw[hE1];simp only[go_sem,e1]
 have f2:E1 2=aa l.length:=by rw[hE1];simp only[go_sem,e2]
 have f3:E1 3=.clo 110 [] []:=by rw[hE1];simp only[go_sem,e3]
 have f8:E1 8=aa i:=by rw[hE1];simp only[go_sem,h8]
 clear hE1;by_cases hb:(i:Int)<l.length;rotate_left
 ·refine ag _ _ _ (by rfl) ?_;simp only[go_sem,f8,f2,hb];have hii:i=l.length:=by omega
  rw[hii,<- ql]at hS;exact au.mk (by rw[hHx,aD];exact Nat.le_refl _) (hK q Hx hHx hq (by rw[<- ql];exact hS))
 refine W.seq (ag _ _ _ (by rfl) ?_);simp only[go_sem,f8,f2,hb];refine W.seq (W.block ?_);refine W.seq (ag _ _ _ (by rfl) ?_);simp only[go_sem,f8];refine W.env fun E2 hE2=>?_;have m0:E2 0=.own id g 0 l.length 1:=by rw[hE2];simp only[go_sem,f0]
 have m1:E2 1=aa 0:=by rw[hE2];simp only[go_sem,f1]
 have m2:E2 2=aa l.length:=by rw[hE2];simp only[go_sem,f2]
 have m3:E2 3=.clo 110 [] []:=by rw[hE2];simp only[go_sem,f3]
 have m8:E2 8=aa i:=by rw[hE2];simp only[go_sem,f8]
 have m9:E2 9=aa i:=by rw[hE2];simp only[go_sem]
 clear hE2;refine W.block ?_;refine W.aQ 9007199254479360 (by rfl) (fun ρ Hz=>∃ (j:Nat) (p:List Nat),ρ 9=aa j/\j<=i/\p.Perm l/\sM f p i j/\Hz=H.upd id (.arr g 170 (fT I p))) (fun ρ Hz=>(iv (ρ 9)).toNat) ?_ ?_
 ·exact⟨i,q,m9,Nat.le_refl _,hq,PI hS,hHx⟩
 rintro ρ2 Hz ⟨j,p,h9,hj,hp,hIn,hHz⟩;have pl:=hp.length_eq;refine W.env fun E3 hE3=>?_;have u0:E3 0=.own id g 0 l.length 1:=by rw[hE3];simp only[go_sem,m0]
 have u1:E3 1=aa 0:=by rw[hE3];simp only[go_sem,m1]
 have u2:E3 2=aa l.length:=by rw[hE3];simp only[go_sem,m2]
 have u3:E3 3=.clo 110 [] []:=by rw[hE3];simp only[go_sem,m3]
 have u8:E3 8=aa i:=by rw[hE3];simp only[go_sem,m8]
 have u9:E3 9=aa j:=by rw[hE3];simp only[go_sem,h9]
 clear hE3;have gz:Hz.get id=some (.arr g 170 (fT I p)):=by rw[hHz,ah,if_pos rfl]
 have lz:=af gz;have plen:=mO I p;have hLz:LevH D r lo m I T Hz:=hL.keep (by rw[hHz,aD];exact Nat.le_refl _) fun k j h1 h2=>by rw[hHz,ah,if_neg (hI k j h1 h2).symm]
 refine W.seq (W.mo (fun s'=>s'.H=Hz/\s'.ρ 0=.own id g 0 l.length 1/\s'.ρ 8=aa i/\s'.ρ 9=aa j/\s'.ρ 34=.lit (.bool (decide (0<j) && decide (f (p.getD j 0)<f (p.getD (j - 1) 0))))) ?_ ?_)
 ·refine W.draw 14 [0,0,3,7,15,15,15,111,239,15,15,1039,3599,7695] Tryz.mixed (by kernel_rfl) (by kernel_rfl) ?_;by_cases hjb:(j:Int) > 0
  ·have wj:=IntWalk.i64_in ((j:Int) - 1) (by omega);have cj:((j:Int) - 1).toNat=j - 1:=(by omega);have gj:=sN (I:=I) (oe (l:=p) (i:=j) (by omega));have gj1:=sN (I:=I) (oe (l:=p) (i:=j - 1) (by omega));have gjn:=aP gj;have gj1n:=aP gj1;have b1:(j:Int)<l.length:=(by omega);have b2:(j:Int) - 1<l.length:=(by omega);have b3:(0:Int)<=(j:Int) - 1:=(by omega);simp only[go_sem,u0,u1,u3,u9,lz,hjb,wj,cj,gj,gj1,b1,b2,b3];refine aA.clo (PF (hm _ ?_) (hm _ ?_) ⟨hr _ ?_,hr _ ?_⟩ Hz hLz _ ⟨trivial,?_⟩)
   ·exact hp.mem_iff.1 (List.mem_of_getElem? (oe (by omega)))
   ·exact hp.mem_iff.1 (List.mem_of_getElem? (oe (by omega)))
   ·exact hp.mem_iff.1 (List.mem_of_getElem? (oe (by omega)))
   ·exact hp.mem_iff.1 (List.mem_of_getElem? (oe (by omega)))
   have hd1:decide (0<j)=true:=decide_eq_true (by omega);rw[hd1,hf];by_cases hlt:r.getD (p.getD j 0) 0<r.getD (p.getD (j - 1) 0) 0
   ·have hlt':((r.getD (p.getD j 0) 0:Nat) - (r.getD (p.getD (j - 1) 0) 0:Nat):Int)<0:=(by omega);simp only[go_sem,u0,u8,u9,hlt',hlt]
    try rfl
   ·have hlt':¬ ((r.getD (p.getD j 0) 0:Nat) - (r.getD (p.getD (j - 1) 0) 0:Nat):Int)<0:=(by omega);simp only[go_sem,u0,u8,u9,hlt',hlt]
    try rfl
  ·simp only[go_sem,u0,u1,u8,u9,hjb];have hj0:j=0:=(by omega);subst hj0;rfl
 rintro⟨ρ3,Hq⟩ ⟨hHq,v0,v8,v9,v34⟩;simp only at hHq v0 v8 v9 v34;rw[hHq];clear hHq Hq;cases hfl:(decide (0<j) && decide (f (p.getD j 0)<f (p.getD (j - 1) 0))) with
 | false =>
  rw[hfl]at v34;refine W.cond (t:=false) v34 ?_;refine ag _ _ _ (by rfl) ?_;simp only[go_sem];have wi:=IntWalk.i64_in ((i:Int)+1) (by omega);have hd:j=0\/f (p.getD (j - 1) 0)<=f (p.getD j 0):=by
   by_cases h0:j=0
   ·exact .inl h0
   ·rw[decide_eq_true (by omega:0<j),Bool.true_and,decide_eq_false_iff_not]at hfl;exact .inr (by omega)
  have hS':=PJ hIn hj hd;refine ag _ _ _ (by rfl) ?_;simp only[go_sem,v8,wi];exact⟨by rw[hHz,aD];exact Nat.le_refl _,⟨i+1,p,rfl,by omega,by omega,hp,hS',hHz⟩,by rw[h8];simp only[aa,bF];omega⟩
 | true =>
  rw[hfl]at v34;refine W.cond (t:=true) v34 ?_;have hfl2:0<j/\f (p.getD j 0)<f (p.getD (j - 1) 0):=by simpa using hfl
  have wj:=IntWalk.i64_in ((j:Int) - 1) (by omega);have cj:((j:Int) - 1).toNat=j - 1:=by omega
  have gj:=sN (I:=I) (oe (l:=p) (i:=j) (by omega));have gj1:=sN (I:=I) (oe (l:=p) (i:=j - 1) (by omega));have gjn:=aP gj;have gj1n:=aP gj1;have b1:(j:Int)<l.length:=by omega
  have b2:(j:Int) - 1<l.length:=by omega
  have b3:(0:Int)<=(j:Int) - 1:=by omega
  have s1:setAt (fT I p) j [.ptr (I (p.getD (j - 1) 0) 0) 0 0]=fT I (p.set j (p.getD (j - 1) 0)):=Dl (by omega);have s2:setAt (fT I (p.set j (p.getD (j - 1) 0))) (j - 1) [.ptr (I (p.getD j 0) 0) 0 0]=fT I (pE p j (j - 1)):=Dl (by rw[List.length_set];omega);have plen2:=mO I (p.set j (p.getD (j - 1) 0));rw[List.length_set]at plen2;refine ag _ _ _ (by rfl) ?_;simp only[go_sem];refine W.seq (W.block ?_);refine W.draw 16 [0,0,0,0,8,0,0,64,224,480,0,0,3072,7168,16355,32739] Tryz.mixed (by kernel_rfl) (by kernel_rfl) ?_;simp only[go_sem,v0,v9,lz,plen,pl,wj,cj,gj,gj1,b1,b2,b3,s1,s2,plen2];refine⟨by omega,by omega,ag _ _ _ (by rfl) ?_⟩;simp only[go_sem,v9,wj];refine⟨by rw[hHx,hHz];simp only[aD];exact Nat.le_refl _,⟨j - 1,pE p j (j - 1),?_,by omega,(PR (by omega) (by omega)).trans hp,PK hIn hj (by omega) hfl2.1 hfl2.2,?_⟩,by rw[h9];simp only[aa,bF];omega⟩
  ·congr 2;omega
  ·rw[hHz,Dn,Dn]
end Go.Proofs
namespace Go.Proofs
open Go.Hx
theorem PU {s:ByteArray}{i:Nat}{F:AVal->Prop}(hs:s.size=256)(hi:i<256)(h:∀ L:Nat,L<256->F (.lit (.int .u8 (L:Int)))):bp (ot Tryz.prog 9 (.lit (.string s)) (.lit (.int .u8 (i:Int)))) F:=by
 have ix:ot Tryz.prog 9 (.lit (.string s)) (.lit (.int .u8 (i:Int)))=some (.lit (.int .u8 (((s[i]!).toNat:Nat):Int))):=by
  unfold ot;simp only[];have e1:s[i]?=some s[i]!:=by
   rw[getElem!_pos s i (by omega)];exact getElem?_pos s i (by omega)
  have ht:Tryz.prog.underlying 9=some .string:=Tryz.underlying9;simp [Instr.index,asIntOf,underlying,program,ht,bI,bind,Sem.bind,pure,e1]
 rw[ix,nt];exact h _ (UInt8.toNat_lt _)
theorem PV {n:Nat}(h12:n<=12)(H:AHeap)(K:ARes->AHeap->Prop)(hK:∀ L:Nat,L<256->K (.ret (aa L)) H):ae Tryz.prog G0 159 [.lit (.int .u64 (n:Int))] H K:=by
 have h1:¬ (4294967296:Int)<=(n:Int):=by omega
 have h2:¬ (65536:Int)<=(n:Int):=by omega
 have h3:¬ (256:Int)<=(n:Int):=by omega
 have ww:IntKind.u8.wrap ((n:Nat):Int)=(n:Int):=by simp [IntKind.wrap,IntKind.bits,IntKind.signed];omega
 refine ae.d7 (n:=25) (rs:=[.tmp 2]) Tryz.func159 rfl rfl rfl (by decide) (by simp) ?_;refine W.seq (ag _ _ _ (by rfl) ?_);simp only[go_sem];refine W.seq (ag _ _ _ (by rfl) ?_);simp only[go_sem,h1];refine W.seq (ag _ _ _ (by rfl) ?_);simp only[go_sem,h2];refine W.seq (ag _ _ _ (by rfl) ?_);simp only[go_sem,h3];refine ag _ _ _ (by rfl) ?_;simp only[go_sem,ww];refine PU (by kernel_rfl) (by omega) fun L hL=>?_;have w:IntKind.i64.wrap (0+(L:Int))=(L:Int):=by rw[Int.zero_add];exact IntWalk.i64_in (L:Int) (by omega)
 have w0:=IntWalk.i64_in (L:Int) (by omega);simp only[go_sem,w0,w];exact au.mk (Nat.le_refl _) (hK L hL)
theorem Do {n:Nat}(h12:n<=12)(H:AHeap)(K:ARes->AHeap->Prop)(hK:∀ L:Nat,L<256->K (.ret (aa L)) H):ae Tryz.prog G0 139 [.lit (.int .u64 (n:Int))] H K:=by
 refine ae.d7 (n:=8) (rs:=[.tmp 2]) Tryz.func139 rfl rfl rfl (by decide) (by simp) ?_;refine ag _ _ _ (by rfl) ?_;simp only[go_sem];refine aA.clo (PV h12 H _ fun L hL=>⟨trivial,?_⟩);simp only[go_sem];exact au.mk (Nat.le_refl _) (hK L hL)
theorem Dp {v:AVal}{n L:Nat}{Q:AHeap->Prop}(h12:n<=12)(H:AHeap)(hQ:∀ H',Q H'->H.next<=H'.next)(hc:∀ K':ARes->AHeap->Prop,(∀ H',Q H'->K' (.ret (.tup [])) H')->ae Tryz.prog G0 150 [v,aa 0,aa n,.clo 110 [] []] H K')
  (K:ARes->AHeap->Prop) (hK:∀ H',Q H'->K (.ret (.tup [])) H'):
  ae Tryz.prog G0 138 [v,aa 0,aa n,aa L,.clo 110 [] []] H K:=by
 have wn:IntKind.i64.wrap ((n:Int) - 0)=(n:Int):=by rw[Int.sub_zero];exact IntWalk.i64_in (n:Int) (by omega)
 have hb:(n:Int)<=12:=by omega
 refine ae.d7 (n:=148) (rs:=[]) Tryz.func138 rfl rfl rfl (by decide) (by simp) ?_;refine W.seq (ag _ _ _ (by rfl) ?_);simp only[go_sem];refine W.seq (ag _ _ _ (by rfl) ?_);simp only[go_sem];refine W.env fun E hE=>?_;have e0:E 0=v:=by rw[hE];simp only[go_sem]
 have e1:E 1=aa 0:=by rw[hE];simp only[go_sem]
 have e2:E 2=aa n:=by rw[hE];simp only[go_sem]
 have e4:E 4=.clo 110 [] []:=by rw[hE];simp only[go_sem]
 clear hE;refine W.block ?_;refine W.aQ 356811923176489970264571492362373784095685646 (by kernel_rfl) (fun ρ Hx=>ρ 0=v/\ρ 1=aa 0/\ρ 2=aa n/\ρ 4=.clo 110 [] []/\Hx=H) (fun ρ Hx=>0) ?_ ?_
 ·exact⟨e0,e1,e2,e4,rfl⟩
 rintro ρ Hx ⟨h0,h1,h2,h4,hHx⟩;refine W.env fun E1 hE1=>?_;have f0:E1 0=v:=by rw[hE1];simp only[go_sem,h0,e0]
 have f1:E1 1=aa 0:=by rw[hE1];simp only[go_sem,h1]
 have f2:E1 2=aa n:=by rw[hE1];simp only[go_sem,h2]
 have f4:E1 4=.clo 110 [] []:=by rw[hE1];simp only[go_sem,h4,e4]
 clear hE1;rw[hHx];refine W.block ?_;refine W.seq (ag _ _ _ (by rfl) ?_);simp only[go_sem,f1,f2,wn];refine W.seq (ag _ _ _ (by rfl) ?_);simp only[go_sem,hb,f0,f1,f2,f4];refine aA.clo (hc _ fun H' hq=>⟨trivial,?_⟩);simp only[go_sem];exact au.mk (hQ H' hq) (hK H' hq)
theorem PW {v:AVal}{cs:List AVal}{n:Nat}{Q:AHeap->Prop}(h12:n<=12)(H:AHeap)(hQ:∀ H',Q H'->H.next<=H'.next)(hv:aF 0 H 170 v cs)(hn:cs.length=n)(hc:∀ K':ARes->AHeap->Prop,(∀ H',Q H'->K' (.ret (.tup [])) H')->ae Tryz.prog G0 150 [v,aa 0,aa n,.clo 110 [] []] H K')
  (K:ARes->AHeap->Prop) (hK:∀ H',Q H'->K (.ret (.tup [])) H'):
  ae Tryz.prog G0 109 [v,.clo 110 [] []] H K:=by
 have wn:IntKind.u64.wrap ((n:Nat):Int)=(n:Int):=by simp [IntKind.wrap,IntKind.bits,IntKind.signed];omega
 have w2:=IntWalk.i64_in (n:Int) (by omega);have go:∀ v:AVal,(v=.lit (.slice none 0 0)/\n=0\/∃ id g cs,v=.own id g 0 n 1/\cs.length=n/\H.live id g=some (170,cs))->(∀ K':ARes->AHeap->Prop,(∀ H',Q H'->K' (.ret (.tup [])) H')->ae Tryz.prog G0 150 [v,aa 0,aa n,.clo 110 [] []] H K')->ae Tryz.prog G0 109 [v,.clo 110 [] []] H K:=fun v hv hc=>by
  rcases hv with ⟨rfl,rfl⟩|⟨id,g,cs,rfl,hcl2,lv⟩
  ·refine ae.d7 (n:=14) (rs:=[]) Tryz.func109 rfl rfl rfl (by decide) (by simp) ?_;refine W.seq (ag _ _ _ (by rfl) ?_);simp only[go_sem];refine ag _ _ _ (by rfl) ?_;simp only[go_sem];refine aA.clo (Do (n:=0) h12 H _ fun L hL=>⟨trivial,?_⟩);simp only[go_sem];refine aA.clo (Dp h12 H hQ hc _ fun H' hq=>⟨trivial,?_⟩);simp only[go_sem];exact au.mk (hQ H' hq) (hK H' hq)
  ·refine ae.d7 (n:=14) (rs:=[]) Tryz.func109 rfl rfl rfl (by decide) (by simp) ?_;refine W.seq (ag _ _ _ (by rfl) ?_);simp only[go_sem,lv];refine ag _ _ _ (by rfl) ?_;simp only[go_sem,wn];refine aA.clo (Do h12 H _ fun L hL=>⟨trivial,?_⟩);simp only[go_sem];refine aA.clo (Dp h12 H hQ hc _ fun H' hq=>⟨trivial,?_⟩);simp only[go_sem];exact au.mk (hQ H' hq) (hK H' hq)
 refine go v ?_ hc;rcases hv with ⟨h1,h2⟩|⟨id,g,_,_,h3,h4⟩
 ·rw[h2]at hn;exact .inl ⟨h1,hn.symm⟩
 ·rw[hn]at h3;exact .inr ⟨id,g,cs,h3,hn,af h4⟩
theorem PX {v:AVal}{n:Nat}(h1:n<=1)(H:AHeap)(K:ARes->AHeap->Prop)(hK:K (.ret (.tup [])) H):
  ae Tryz.prog G0 150 [v,aa 0,aa n,.clo 110 [] []] H K:=by
 have hb:¬ (1:Int)<(n:Int):=by omega
 refine ae.d7 (n:=53) (rs:=[]) Tryz.func150 rfl rfl rfl (by decide) (by simp) ?_;refine W.seq (ag _ _ _ (by rfl) ?_);simp only[go_sem];refine W.env fun E hE=>?_;have e2:E 2=aa n:=by rw[hE];simp only[go_sem]
 have e8:E 8=aa 1:=by rw[hE];simp only[go_sem];rfl
 clear hE;refine W.block ?_;refine W.aQ 9007199254737664 (by rfl) (fun ρ Hx=>ρ 8=aa 1/\Hx=H) (fun ρ Hx=>0) ?_ ?_
 ·exact⟨e8,rfl⟩
 rintro ρ Hx ⟨h8,hHx⟩;refine W.env fun E1 hE1=>?_;have f2:E1 2=aa n:=by rw[hE1];simp only[go_sem,e2]
 have f8:E1 8=aa 1:=by rw[hE1];simp only[go_sem,h8]
 clear hE1;rw[hHx];refine ag _ _ _ (by rfl) ?_;simp only[go_sem,f8,f2,hb];exact au.mk (Nat.le_refl _) hK
end Go.Proofs
namespace Go.Proofs
open Go.Hx
theorem PY {D:DPr}(hD:D.Ok){t:DTab}(ht:t.Ok D){ch ch':Ch}(hc:mJ D ch)(e:∀ k c,k<D.K->c<D.cs k->ch' k c=ch k c):jD D t ch'↔jD D t ch:=by
 have hc':mJ D ch':=fun k c y h1 h2 h3=>hc k c y h1 h2 (by rw[<- e k c h1 h2];exact h3);rw[sh hD ht hc,sh hD ht hc'];constructor
 ·rintro⟨q,q1,q2,q3⟩;exact⟨q,q1,fun k c y h1 h2 h3=>q2 k c y h1 h2 (by rw[e k c h1 h2];exact h3),q3⟩
 ·rintro⟨q,q1,q2,q3⟩;exact⟨q,q1,fun k c y h1 h2 h3=>q2 k c y h1 h2 (by rw[<- e k c h1 h2];exact h3),q3⟩
theorem PZ {D:DPr}{ch:Ch}(hc:mJ D ch){k c x:Nat}(hx:x<D.cd k):mJ D (jV ch k c x):=fun k' c' y h1 h2 h3=>by
 by_cases h:k'=k/\c'=c
 ·obtain⟨rfl,rfl⟩:=h;rw[mH]at h3;cases h3;exact hx
 ·rw[mI h]at h3;exact hc k' c' y h1 h2 h3
theorem P0 {D:DPr}(hD:D.Ok){t:DTab}(ht:t.Ok D){ch ch':Ch}(hc:mJ D ch)(e:∀ k c,k<D.K->c<D.cs k->ch' k c=ch k c)(k c:Nat):iG D t ch' k c=iG D t ch k c:=by
 unfold iG;refine Df _ _ fun y _ hy=>?_;rw[Bool.eq_iff_iff,sr,sr];refine PY hD ht (PZ hc (by omega)) fun k' c' h1 h2=>?_;by_cases h:k'=k/\c'=c
 ·rw[h.1,h.2,mH,mH]
 ·rw[mI h,mI h];exact e k' c' h1 h2
structure StgC (D:DPr)(T:TabS)(done:List (Nat × Nat)):Prop where
 eq:∀ k c,k<D.K->c<D.cs k->jI T k c=nX D (kK D) done k c
 tb:kd T (qF D)=kK D
 rng:T.Rng D
 len:T.Len D D.K
 h0:∀ c,c<D.cs 0->(T.ab 0).getD c 0=0
theorem StgC.try {D:DPr}(hD:D.Ok)(ht:(kK D).Ok D){T:TabS}{done:List (Nat × Nat)}(h:StgC D T done){k c:Nat}(hnd:(done++[(k,c)]).Nodup)(hr:∀ p∈done++[(k,c)],p.1<D.K/\p.2<D.cs p.1):StgC D (c7 T k c (pD D T k c)) (done++[(k,c)]):=by
 have hkc:=hr (k,c) (by simp);have hl:=h.len.ch k hkc.1;have hcl:c<(T.ch k).length:=by rw[hl];exact hkc.2
 have hC:=yx hD ht _ done rfl (List.nodup_append.1 hnd).1 fun p hp=>hr p (by simp [hp]);have hx:pD D T k c=iG D (kK D) (nX D (kK D) done) k c:=by
  rw[PC h.rng (fun c h1=>by rw[h.h0 c h1];rfl) hcl,h.tb];exact P0 hD ht hC.rng h.eq k c
 refine⟨fun k' c' h1 h2=>?_,h.tb,vf h.rng hcl,vh h.len _ _ _,h.h0⟩;rw[De hcl,CD,hx];show _=jV _ k c _ k' c';by_cases e:k'=k/\c'=c
 ·rw[e.1,e.2,mH,mH]
 ·rw[mI e,mI e];exact h.eq k' c' h1 h2
theorem StgC.P8 {D:DPr}(hD:D.Ok)(ht:(kK D).Ok D){T:TabS}{done:List (Nat × Nat)}(h:StgC D T done){k:Nat}:∀ n,(done++(List.range n).map fun c=>(k,c)).Nodup->(∀ p∈done++(List.range n).map fun c=>(k,c),p.1<D.K/\p.2<D.cs p.1)->StgC D (jq D T k n) (done++(List.range n).map fun c=>(k,c)):=by
 intro n
 induction n with
 | zero =>
  intro _ _;show StgC D T _;simpa using h
 | succ n ih =>
  intro h1 h2;rw[List.range_succ,List.map_append,<- List.append_assoc]at h1 h2 ⊢;exact(ih (List.nodup_append.1 h1).1 fun p hp=>h2 p (List.mem_append_left _ hp)).try hD ht h1 h2
def runT (D:DPr)(T:TabS)(ks:List Nat):TabS:=ks.foldl (fun T k=>jq D T k (D.cs k)) T
theorem yQ (D:DPr)(T:TabS)(ks:List Nat)(k:Nat):runT D T (ks++[k])=jq D (runT D T ks) k (D.cs k):=by unfold runT;rw[List.foldl_append];rfl
def mQ (D:DPr)(ks:List Nat):List (Nat × Nat):=(ks.map fun k=>(List.range (D.cs k)).map fun c=>(k,c)).flatten
theorem P9 (D:DPr)(ks:List Nat)(k:Nat):mQ D (ks++[k])=mQ D ks++(List.range (D.cs k)).map fun c=>(k,c):=by unfold mQ;simp
theorem StgC.run {D:DPr}(hD:D.Ok)(ht:(kK D).Ok D){T:TabS}(h:StgC D T []):∀ (n:Nat) (ks:List Nat),ks.length=n->(mQ D ks).Nodup->(∀ p∈mQ D ks,p.1<D.K/\p.2<D.cs p.1)->StgC D (runT D T ks) (mQ D ks):=by
 intro n
 induction n with
 | zero =>
  intro ks hl _ _;obtain rfl:=List.eq_nil_of_length_eq_zero hl;exact h
 | succ n ih =>
  intro ks hl h1 h2;obtain⟨qs,k,rfl⟩:∃ qs a,ks=qs++[a]:=by
   rcases List.eq_nil_or_concat ks with h|⟨qs,a,h⟩
   ·rw[h]at hl;cases hl
   ·exact⟨qs,a,by rw[h,List.concat_eq_append]⟩
  rw[List.length_append,List.length_singleton]at hl;rw[P9]at h1 h2 ⊢;rw[yQ];exact(ih qs (by omega) (List.nodup_append.1 h1).1 fun p hp=>h2 p (List.mem_append_left _ hp)).P8 hD ht _ h1 h2
theorem Qa (D:DPr):∀ n,∀ a∈cM D 0 n,a=0:=by
 intro n
 induction n with
 | zero=>intro a ha;exact List.eq_of_mem_replicate ha
 | succ n ih =>
  intro a ha;unfold cM at ha;rcases List.mem_or_eq_of_mem_set ha with h|rfl
  ·exact ih a h
  ·rfl
theorem Dq {D:DPr}(hD:D.Ok)(hpos:∀ k,k<D.K->1<=D.cs k):StgC D (dC D (eh D) 0) []:=by
 refine⟨fun k c h1 h2=>?_,?_,⟨fun k c h0 h1 h2=>?_,fun k c h1 h2=>.inl ?_⟩,yL (fun k _=>by simp [eh]) 0,fun c hc=>?_⟩
 ·show (if ((eh D k).getD c 0)=-1 then none else _)=none;rw[if_pos];unfold eh;rw[List.getD_eq_getElem?_getD,List.getElem?_replicate,if_pos h2];rfl
 ·unfold kd kK dC;simp
 ·show 0<=(cM D k D.N).getD c 0/\((cM D k D.N).getD c 0).toNat<_;obtain⟨a,ha⟩:=aw (l:=cM D k D.N) (i:=c) (by rw[nV];exact h2);rw[List.getD_eq_getElem?_getD,ha];obtain⟨b1,b2,b3⟩:=yq hD h1 D.N (Nat.le_refl _) a (List.mem_of_getElem? ha);refine⟨b1,?_⟩;show a.toNat<_;have hp:=Nat.mul_pos (hpos (k - 1) (by omega)) (hD.cd (k - 1) (by omega));rcases b3 h0 with h|h<;>omega
 ·show (eh D k).getD c 0=-1;unfold eh;rw[List.getD_eq_getElem?_getD,List.getElem?_replicate,if_pos h2];rfl
 ·show (cM D 0 D.N).getD c 0=0;obtain⟨a,ha⟩:=aw (l:=cM D 0 D.N) (i:=c) (by rw[nV];exact hc);rw[List.getD_eq_getElem?_getD,ha];exact Qa D D.N a (List.mem_of_getElem? ha)
theorem Qb {d:InfP}{r:List Nat}(hr:OrdR d r){ks:List Nat}(hp:ks.Perm (List.range r.length))(hs:oa (fun a=>r.getD a 0) ks ks.length):ks=(aO d).map r.idxOf:=by
 have hmem:∀ k∈ks,k<r.length:=fun k hk=>List.mem_range.1 (hp.mem_iff.1 hk);have e1:(List.range r.length).map (fun k=>r.getD k 0)=r:=by
  apply List.ext_getElem?;intro i;rw[List.getElem?_map];rcases Nat.lt_or_ge i r.length with h|h
  ·obtain⟨v,hv⟩:=aw h;rw[List.getElem?_range h,hv];exact congrArg some (fS hv)
  ·rw[List.getElem?_eq_none (by simpa using h),List.getElem?_eq_none h];rfl
 have hnd:(aO d).Nodup:=List.nodup_range.filter _;have p1:(ks.map fun k=>r.getD k 0).Perm (aO d):=by
  have:=hp.map fun k=>r.getD k 0;rw[e1]at this;exact this.trans ((List.perm_ext_iff_of_nodup hr.nodup hnd).2 fun a=>⟨hr.mem a,fun h=>hr.lL h⟩)
 have s1:(ks.map fun k=>r.getD k 0).Pairwise (·<=·):=by
  rw[List.pairwise_map,List.pairwise_iff_getElem];intro i j hi hj hij;have:=hs i j hij hj;simp only[List.getD_eq_getElem?_getD,List.getElem?_eq_getElem hi,List.getElem?_eq_getElem hj,Option.getD_some]at this ⊢;exact this
 have s2:(aO d).Pairwise (·<=·):=by
  unfold aO eU;exact(List.pairwise_lt_range.filter _).imp fun h=>Nat.le_of_lt h
 have e2:=List.Perm.eq_of_pairwise (fun a b _ _ h1 h2=>Nat.le_antisymm h1 h2) s1 s2 p1;rw[<- e2,List.map_map]
 conv=>lhs;rw[<- List.map_id ks]
 refine List.map_congr_left fun k hk=>?_;have hk:=hmem k hk;show k=r.idxOf (r.getD k 0);rw[List.getD_eq_getElem?_getD,List.getElem?_eq_getElem hk];exact((List.getElem?_inj (List.idxOf_lt_length_of_mem (List.getElem_mem hk)) hr.nodup).1 (by rw[List.getElem?_eq_getElem (List.idxOf_lt_length_of_mem (List.getElem_mem hk)),List.getElem_idxOf,List.getElem?_eq_getElem hk])).symm
theorem Qc {d:InfP}{r:List Nat}(hr:OrdR d r):mQ (ar d r) ((aO d).map r.idxOf)=jW d r:=by
 unfold mQ jW;rw[List.map_map];congr 1;refine List.map_congr_left fun v hv=>?_;have hi:r.idxOf v<r.length:=List.idxOf_lt_length_of_mem (hr.lL hv);have hri:r.getD (r.idxOf v) 0=v:=fS (by rw[List.getElem?_eq_getElem hi,List.getElem_idxOf hi]);show (List.range (cC d (r.getD (r.idxOf v) 0))).map _=_;rw[hri]
theorem yR {d:InfP}(hok:InfOk d){r:List Nat}(hr:OrdR d r){ks:List Nat}(hp:ks.Perm (List.range r.length))(hs:oa (fun a=>r.getD a 0) ks ks.length):
  (ks.map fun k=>(runT (ar d r) (dC (ar d r) (eh (ar d r)) 0) ks).ch k)=eA d r:=by
 have hD:=qE hok hr.mem;have ht:=CA hD (CB hok hr) (qG hok hr);have hk:=Qb hr hp hs;have hpos:mQ (ar d r) ks=jW d r:=by rw[hk];exact Qc hr
 have hS:=(Dq hD (qG hok hr)).run hD ht _ ks rfl (by rw[hpos];exact yy hr) fun p h=>(qJ hr).1 (by rw[<- hpos];exact h);have hC:=yx hD ht _ (jW d r) rfl (yy hr) fun p hp=>(qJ hr).1 hp;rw[hpos]at hS;obtain⟨T,hT⟩:∃ T,T=runT (ar d r) (dC (ar d r) (eh (ar d r)) 0) ks:=⟨_,rfl⟩
 rw[<- hT]at hS ⊢;clear hT;rw[hk,List.map_map];unfold eA jE;refine List.map_congr_left fun v hv=>?_;have hi:r.idxOf v<r.length:=List.idxOf_lt_length_of_mem (hr.lL hv);have hri:r.getD (r.idxOf v) 0=v:=fS (by rw[List.getElem?_eq_getElem hi,List.getElem_idxOf hi]);show T.ch (r.idxOf v)=_;have hcs:(ar d r).cs (r.idxOf v)=cC d v:=by show cC d (r.getD (r.idxOf v) 0)=_;rw[hri]
 have hl:=hS.len.ch _ hi;rw[hcs]at hl;apply List.ext_getElem?;intro c;rcases Nat.lt_or_ge c (cC d v) with hc|hc
 ·rw[List.getElem?_map,List.getElem?_range hc];obtain⟨a,ha⟩:=aw (l:=T.ch (r.idxOf v)) (i:=c) (by omega);obtain⟨y,hy⟩:=hC.made (r.idxOf v) c ((qJ hr).2 ⟨hi,by rw[hcs];exact hc⟩);have h1:=hS.eq (r.idxOf v) c hi (by rw[hcs];exact hc);have h2:=hS.rng.ch (r.idxOf v) c hi (by rw[hcs];exact hc);have hg:(T.ch (r.idxOf v)).getD c 0=a:=by rw[List.getD_eq_getElem?_getD,ha];rfl
  rw[hy]at h1;unfold jI at h1;rw[hg]at h1 h2;rw[ha];show some a=some ((kL _ (r.idxOf v) c:Nat):Int);unfold kL;rw[hy];by_cases e:a=-1
  ·rw[if_pos e]at h1;cases h1
  ·rw[if_neg e]at h1;have:=Option.some.inj h1;simp only[Option.getD_some];congr 1;omega
 ·rw[List.getElem?_eq_none (by omega),List.getElem?_eq_none (by simpa using hc)]
end Go.Proofs
namespace Go.Proofs
open Go.Hx
def mS (d:InfP)(c:Nat->Nat->Int)(v:Nat):List (List Int):=(List.range (cC d v)).map fun r=>lH d c v r (cS d v)
theorem Q4 (d:InfP)(c:Nat->Nat->Int)(v:Nat):fI d c v (bL d.nodes)=mS d c v:=rfl
set_option maxHeartbeats 4000000 in
theorem DO (d:InfP)(hok:InfOk d)(hf:InfFit d)(h6:d.nodes.length<=6)(p:List (List Int))(hp:PolOk d p)(hpf:py p)(v0:Nat)(hv0:v0∈aO d)
  (H:AHeap) (K:ARes->AHeap->Prop) (hK:K (.ret (.tup [aK (mS d (fixC p) v0),aa 0])) H):ae Tryz.prog G0 23 [dD d,aK p,aa v0] H K:=by
 refine ae.clo ⟨_,Tryz.func23,rfl,rfl⟩ fun hcl=>?_;have n8:=hok.n.n1;have hD:=hf.decs;obtain⟨v01,v02⟩:=gC.1 hv0;obtain⟨x,hx⟩:=aw v01;have hxc:=hok.n.card x (List.mem_of_getElem? hx);obtain⟨nr,nc⟩:=jm hx (by omega);obtain⟨hrn,hxp,hin,ps⟩:=qX hok hx;have hrc:=uC hok v01 v02;have hnr:1<=cC d v0/\cC d v0<=1024:=by unfold cC;omega
 refine ae.aU (n:=74) (rs:=[.tmp 6,.tmp 7]) Tryz.func23 rfl rfl rfl (by decide) (by kernel_rfl) (by simp) ?_;simp only[go_sem,gR,bD];refine aA.clo (yE d hf p hpf _ _ ⟨trivial,?_⟩);rw[oX hok hp];have c1:¬ (v0:Int)<0:=by omega
 have c2:¬ (v0:Int) >= d.nodes.length:=by omega
 have s1:=fun t x y=>lV (P:=Tryz.prog) (t:=t) (x:=x) (y:=y) (k':=.i64) (s:=v0) hD;have s2:=fun t x y=>mU (P:=Tryz.prog) (t:=t) (x:=x) (y:=y) (s:=v0) hD;simp only[go_sem,c1,c2,s1,s2,v02];obtain⟨R,hR⟩:∃ R,R=ext H [.arr 0 38 [.lit (.int .i64 d.grain),.vec d.nodes.length (aC d.nodes),.lit (.int .u64 (d.decs:Int)),.vec d.utils.length (aV d.utils)],.arr 0 33 [aK p],.arr 0 3 [.lit (.int .i64 v0)],
  .arr 0 130 [.lit (.int .i64 d.grain),.vec d.nodes.length (aC d.nodes),.lit (.int .u64 (d.decs:Int)),.vec d.utils.length (aV d.utils),.lit (.slice none 0 0),.lit (.slice none 0 0),.lit (.slice none 0 0),.lit (.int .i64 0)],.arr 0 110 [.ptr (H.next+3) 0 0]]:=⟨_,rfl⟩
 have nR:R.next=H.next+5:=by rw[hR];rfl
 have oR:Over H R:=by rw[hR];exact .ext _ _
 have g0:R.get H.next=some (gS d):=by rw[hR];exact ba H _ 0 (by simp)
 have g1:R.get (H.next+1)=some (.arr 0 33 [aK p]):=by rw[hR];exact ba H _ 1 (by simp)
 have g2:R.get (H.next+2)=some (.arr 0 3 [.lit (.int .i64 v0)]):=by rw[hR];exact ba H _ 2 (by simp)
 have g3:R.get (H.next+3)=some (.arr 0 130 [.lit (.int .i64 d.grain),.vec d.nodes.length (aC d.nodes),.lit (.int .u64 (d.decs:Int)),.vec d.utils.length (aV d.utils),.lit (.slice none 0 0),.lit (.slice none 0 0),.lit (.slice none 0 0),.lit (.int .i64 0)]):=by rw[hR];exact ba H _ 3 (by simp)
 have g4:R.get (H.next+4)=some (.arr 0 110 [.ptr (H.next+3) 0 0]):=by rw[hR];exact ba H _ 4 (by simp)
 rw[<- hR];refine W.env fun E hE=>?_;have e3:E 3=.ptr H.next 0 0:=by rw[hE];simp only[go_sem]
 have e4:E 4=.ptr (H.next+1) 0 0:=by rw[hE];simp only[go_sem]
 have e5:E 5=.ptr (H.next+2) 0 0:=by rw[hE];simp only[go_sem]
 have e9:E 9=.ptr (H.next+4) 0 0:=by rw[hE];simp only[go_sem]
 clear hE;have l0:=af g0;have l1:=af g1;have l2:=af g2;have l3:=af g3;have l4:=af g4;unfold bD at l0;refine W.draw 10 [0,0,0,4,12,28,28,61,189,445] Tryz.mixed (by kernel_rfl) (by kernel_rfl) ?_;simp only[go_sem,e3,e9,l0,l4];refine⟨.tup [aj (dp d),aj (df d)],[],bU.pure fun H2=>DL d hok hD H2 _ ⟨rfl,rfl⟩,?_⟩;simp only[go_sem,e3,e9,l3];refine⟨fun x h=>by omega,?_⟩;obtain⟨R2,hR2⟩:∃ R2,R2=(R.upd (H.next+3) (.arr 0 130 [.lit (.int .i64 d.grain),.vec d.nodes.length (aC d.nodes),.lit (.int .u64 (d.decs:Int)),.vec d.utils.length (aV d.utils),.lit (.slice none 0 0),.vec (dp d).length (ints (dp d)),.lit (.slice none 0 0),.lit (.int .i64 0)])).upd (H.next+3)
  (.arr 0 130 [.lit (.int .i64 d.grain),.vec d.nodes.length (aC d.nodes),.lit (.int .u64 (d.decs:Int)),.vec d.utils.length (aV d.utils),.lit (.slice none 0 0),.vec (dp d).length (ints (dp d)),.vec (df d).length (ints (df d)),.lit (.int .i64 0)]):=⟨_,rfl⟩
 rw[<- hR2];have nR2:R2.next=H.next+5:=by rw[hR2];exact nR
 have oR2:Over H R2:=by rw[hR2];exact(oR.upd (by omega) _).upd (by omega) _
 have k2:∀ id,id≠H.next+3->R2.get id=R.get id:=fun id h=>by rw[hR2,ah,if_neg h,ah,if_neg h]
 have k3:R2.get (H.next+3)=some (.arr 0 130 (vA d)):=by rw[hR2,ah,if_pos rfl];rfl
 have m0:=af ((k2 _ (by omega)).trans g0);have m2:=af ((k2 _ (by omega)).trans g2);unfold bD at m0;simp only[go_sem,e5,m0,m2];refine aA.clo (qP d.nodes v0 x hx hin ps _ _ ⟨trivial,?_⟩);rw[<- hrn];simp only[go_sem];obtain⟨n,hn⟩:∃ n,n=bj d.nodes x:=⟨_,rfl⟩
 obtain⟨cN,hcN⟩:∃ c,c=cS d v0:=⟨_,rfl⟩
 rw[<- hn]at nr ⊢;rw[nr]at hnr;rw[<- hcN]at nc;refine⟨by omega,?_⟩;obtain⟨R3,hR3⟩:∃ R3,R3=ext R2 [.arr 0 46 (List.replicate n (.lit (.slice none 0 0))),.arr 0 33 [.own R2.next 0 0 n 1]]:=⟨_,rfl⟩
 have nR3:R3.next=H.next+7:=by rw[hR3,aR,nR2];rfl
 have oR3:Over R2 R3:=by rw[hR3];exact .ext _ _
 have k5:R3.get R2.next=some (.arr 0 46 (List.replicate n (.lit (.slice none 0 0)))):=by rw[hR3];exact ba R2 _ 0 (by simp)
 have k6:R3.get (R2.next+1)=some (.arr 0 33 [.own R2.next 0 0 n 1]):=by rw[hR3];exact ba R2 _ 1 (by simp)
 rw[<- hR3];refine W.env fun E1 hE1=>?_;have f3:E1 3=.ptr H.next 0 0:=by rw[hE1];simp only[go_sem,e3]
 have f4:E1 4=.ptr (H.next+1) 0 0:=by rw[hE1];simp only[go_sem,e4]
 have f5:E1 5=.ptr (H.next+2) 0 0:=by rw[hE1];simp only[go_sem,e5]
 have f9:E1 9=.ptr (H.next+4) 0 0:=by rw[hE1];simp only[go_sem,e9]
 have f10:E1 10=.ptr (R2.next+1) 0 0:=by rw[hE1];simp only[go_sem]
 have f55:E1 55=aa n:=by rw[hE1];simp only[go_sem]
 have f56:E1 56=aa 0:=by rw[hE1];simp only[go_sem]
 clear hE1
 let cs:Nat->List AVal:=fun k=>(List.range k).map (fun j=>AVal.own (H.next+7+j) 0 0 cN 1)++List.replicate (n - k) (.lit (.slice none 0 0))
 have csl:∀ k,k<=n->(cs k).length=n:=fun k hk=>by show (_++_:List AVal).length=n;simp;omega
 have cs_set:∀ k,k<n->setAt (cs k) k [.own (H.next+7+k) 0 0 cN 1]=cs (k+1):=fun k hk=>by
  show setAt (_++List.replicate (n - k) _) k _=_++_;rw[show n - k=(n - (k+1))+1 by omega,List.replicate_succ,Ri (by simp),List.range_succ,List.map_append,List.append_assoc];rfl
 have cs0:cs 0=List.replicate n (.lit (.slice none 0 0)):=by show _++_=_;simp
 refine W.aQ 1180519563123373377536 (by rfl) (fun ρ H'=>∃ k:Nat,ρ 56=aa k/\k<=n/\H'.next=H.next+7+k/\(∀ id,id<H.next+7->id≠R2.next->H'.get id=R3.get id)/\H'.get R2.next=some (.arr 0 46 (cs k))/\∀ j,j<k->H'.get (H.next+7+j)=some (.arr 0 3 (ints (List.replicate cN 0)))) (fun ρ H=>n - (iv (ρ 56)).toNat) ?_ ?_
 ·simp only[go_sem,f56];exact⟨0,rfl,by omega,by omega,by rw[cs0];exact k5,fun j hj=>absurd hj (Nat.not_lt_zero _)⟩
 rintro ρ H' ⟨k,h56,hk,hnx,hold,htop,hrows⟩;refine W.env fun E2 hE2=>?_;have p3:E2 3=.ptr H.next 0 0:=by rw[hE2];simp only[go_sem,f3]
 have p4:E2 4=.ptr (H.next+1) 0 0:=by rw[hE2];simp only[go_sem,f4]
 have p5:E2 5=.ptr (H.next+2) 0 0:=by rw[hE2];simp only[go_sem,f5]
 have p9:E2 9=.ptr (H.next+4) 0 0:=by rw[hE2];simp only[go_sem,f9]
 have p10:E2 10=.ptr (R2.next+1) 0 0:=by rw[hE2];simp only[go_sem,f10]
 have p55:E2 55=aa n:=by rw[hE2];simp only[go_sem,f55]
 have p56:E2 56=aa k:=by rw[hE2];simp only[go_sem,h56]
 clear hE2;have q0:=(hold H.next (by omega) (by omega)).trans ((oR3.old _ (by omega)).trans ((k2 _ (by omega)).trans g0));have q1:=(hold (H.next+1) (by omega) (by omega)).trans ((oR3.old _ (by omega)).trans ((k2 _ (by omega)).trans g1));have q2:=(hold (H.next+2) (by omega) (by omega)).trans ((oR3.old _ (by omega)).trans ((k2 _ (by omega)).trans g2));have q3:=(hold (H.next+3) (by omega) (by omega)).trans ((oR3.old _ (by omega)).trans k3);have q4:=(hold (H.next+4) (by omega) (by omega)).trans ((oR3.old _ (by omega)).trans ((k2 _ (by omega)).trans g4));have q6:=(hold (R2.next+1) (by omega) (by omega)).trans k6;refine ag _ _ _ (by rfl) ?_;by_cases hb:(k:Int)<n
 ·have ec:=jj hx;rw[<- nc]at ec;have hne:=ep hx;have hvn:(v0:Int)<d.nodes.length:=by omega
  have w1:=IntWalk.i64_in ((k:Int)+1) (by omega);have i0:=af q0;have i2:=af q2;have i6:=af q6;have it:=af htop;unfold bD at i0;have hcb:(cN:Int)*8<=2 ^ 46/\(cN:Int)<=2 ^ 46:=by omega
  have hrep:List.replicate cN (AVal.lit (.int .i64 0))=ints (List.replicate cN 0):=by simp [ints,aa]
  have hset:=cs_set k (by omega);rw[<- hnx]at hset;have hcl:=csl k (by omega);have i0e:∀ L,(ext H' L).live H.next 0=_:=fun L=>(eY (by omega)).trans i0;have ite:∀ L,(ext H' L).live R2.next 0=_:=fun L=>(eY (by omega)).trans it;simp only[go_sem,p55,p56,hb];refine W.draw 9 [0,0,0,4,0,28,60,124,252] Tryz.mixed (by kernel_rfl) (by kernel_rfl) ?_;simp only[go_sem,p3,p5,p10,p56,hb,i0,i2,i6,ite,ec,hne,hvn,hcb,hrep,hset,w1];refine⟨fun x h=>by omega,by omega,by rw[aD,aR];omega,⟨k+1,by simp,by omega,by rw[aD,aR,hnx];rfl,fun id h1 h2=>by rw[ah,if_neg h2,bC (by omega)];exact hold id h1 h2,by rw[ah,if_pos rfl],fun j hj=>?_⟩,by rw[h56];simp only[aa,bF];omega⟩;rw[ah,if_neg (by omega)];by_cases hjk:j=k
  ·subst hjk;rw[<- hnx];exact bJ
  ·rw[bC (by omega)];exact hrows j (by omega)
 ·have hkn:k=n:=by omega
  subst hkn;have i4:=af q4;simp only[go_sem,p3,p4,p5,p9,p10,p55,p56,hb,i4];have csn:cs k=(List.range k).map (fun j=>AVal.own (H.next+7+j) 0 0 cN 1):=by show _++_=_;simp
  obtain⟨ids,hids⟩:∃ ids,ids=(List.range k).map (fun j=>H.next+7+j):=⟨_,rfl⟩
  have hidm:∀ i∈ids,H.next+7<=i/\i<H'.next:=fun i hi=>by
   rw[hids]at hi;obtain⟨j,hj,rfl⟩:=List.mem_map.1 hi;have:=List.mem_range.1 hj;omega
  have hzip:List.zipWith (fun i n=>AVal.own i 0 0 n 1) ids (((fI d (fixC p) v0 0).map ints).map List.length)=cs k:=by
   rw[csn,hids,DM,nr,<- hcN];apply List.ext_getElem?;intro j;rw[List.getElem?_zipWith,List.getElem?_map,List.getElem?_map,List.getElem?_map,List.getElem?_map,List.getElem?_replicate];by_cases hj:j<k
   ·rw[List.getElem?_range hj,if_pos hj];simp [aT]
   ·rw[List.getElem?_eq_none (by rw[List.length_range];omega)];rfl
  have hM:OwnM H.next H' 46 3 (.own R2.next 0 0 k 1) ids ((fI d (fixC p) v0 0).map ints):=by
   refine⟨by rw[hids,List.length_map,List.length_map,List.length_range,sV,nr],by rw[hids];exact(List.pairwise_map (f:=fun j=>H.next+7+j)).2 (List.Pairwise.imp (fun {a b} h e=>h (by omega)) List.nodup_range),fun i hi=>by have:=hidm i hi;omega,.inr ⟨R2.next,0,by omega,by omega,by rw[hzip,csl k (Nat.le_refl _)],by rw[hzip];exact htop⟩,fun j id r h1 h2=>?_⟩;rw[hids,List.getElem?_map]at h1;rw[DM,nr,<- hcN,List.getElem?_map,List.getElem?_replicate]at h2;by_cases hj:j<k
   ·rw[List.getElem?_range hj]at h1;rw[if_pos hj]at h2;cases h1;cases h2;exact hrows j hj
   ·rw[if_neg hj]at h2;cases h2
  have hnotin:∀ i,i<H.next+7->i ∉ ids:=fun i hi hm=>by have:=hidm i hm;omega
  have hE:ExH d p v0 H.next (H.next+2) (H.next+1) (R2.next+1) (H.next+4) (H.next+3) (.own R2.next 0 0 k 1) H':=⟨q0,q2,q1,q6,q4,q3⟩
  refine aA.clo (Q3 d hok hf h6 p hp v0 hv0 H.next (H.next+2) (H.next+1) (R2.next+1) (H.next+4) (H.next+3) H.next (.own R2.next 0 0 k 1) ids H' hE ⟨by omega,by omega,by omega,by omega,by omega,by omega⟩ ⟨hnotin _ (by omega),hnotin _ (by omega),hnotin _ (by omega),hnotin _ (by omega),hnotin _ (by omega),hnotin _ (by omega)⟩ hM _ fun H4 h4n h4o h4M=>⟨trivial,?_⟩);have j6:=af ((h4o (R2.next+1) (by omega) (hnotin _ (by omega))).trans q6);simp only[go_sem,p10,j6];rw[Q4]at h4M;refine au.bG aJ hcl ⟨by omega,fun id hi=>?_⟩ ?_ hK
  ·rw[h4o id (by omega) (hnotin _ (by omega)),hold id (by omega) (by omega),oR3.old _ (by omega),oR2.old _ hi]
  ·have:=h4M.fz (S:=fun id=>H.next<=id) (nx:=H.next) (fun i hi=>hi) fun r hr c hc=>by
    obtain⟨l,_,rfl⟩:=List.mem_map.1 hr;obtain⟨z,_,rfl⟩:=List.mem_map.1 hc;exact .lit _
   rw[List.map_map,List.length_map]at this;refine .tup rfl fun i hi _=>match i,hi with
    | 0,_=>?_
    | 1,_=>.lit _
   have e:(List.map ((fun r=>AVal.vec r.length r) ∘ ints) (mS d (fixC p) v0))=(mS d (fixC p) v0).map aj:=List.map_congr_left fun l _=>by show AVal.vec (ints l).length (ints l)=_;rw[aT];rfl
   rw[e]at this;exact this
end Go.Proofs
namespace Go.Proofs
open Go.Hx
instance (a:List Int)(n:Int):Decidable (cI a n):=by unfold cI;infer_instance
instance (g c:Int)(r:List Int):Decidable (jZ g c r):=by unfold jZ;infer_instance
instance (g:Int)(ns:List NodeP)(x:NodeP):Decidable (gG g ns x):=by unfold gG;infer_instance
instance (ps:List Nat):Decidable (kD ps):=by unfold kD;infer_instance
theorem zg (d:InfP)(h1:1<=d.nodes.length/\d.nodes.length<=8)(h2:d.decs >>> d.nodes.length=0)(h3:∀ x∈d.nodes,1<=x.card/\x.card<=4)(h4:∀ v,v<d.nodes.length->d.decs.testBit v=true->(d.nodes.getD v ⟨0,[],[]⟩).rows=[]/\cI (d.nodes.getD v ⟨0,[],[]⟩).parents d.nodes.length)
  (h5:(1<=d.grain/\d.grain<=60)/\∀ x∈cJ d (fun _ _=>0),(1<=x.card/\x.card<=4)/\cI x.parents (cJ d (fun _ _=>0)).length) (h6:aq (ak (cJ d fun _ _=>0))<=1024) (h7:kD (bb (cJ d fun _ _=>0))) (h8:∀ x∈cJ d (fun _ _=>0),gG d.grain (cJ d fun _ _=>0) x)
  (h9:d.utils.length<=4/\∀ u∈d.utils,cI u.vars d.nodes.length/\(u.w.length:Int)=aq (aG (ak d.nodes) u.vars)/\∀ x∈u.w,-100<=x/\x<=100):InfOk d :=
 ⟨⟨h1,h2,h3,fun v x hx hb=>by
  have:=h4 v (aH hx) hb;rw[List.getD_eq_getElem?_getD,hx]at this;exact this⟩,⟨h5.1,by rw[iW];exact h1,h5.2,h6,h7,h8⟩,⟨h9.1,fun u hu=>⟨(h9.2 u hu).1,(h9.2 u hu).2.1,(h9.2 u hu).2.2⟩⟩⟩
def dA:InfP:=⟨4,[⟨2,[],[[1,3]]⟩,⟨2,[0],[]⟩,⟨2,[0,1],[[4,0],[2,2],[0,4],[1,3]]⟩],2,[⟨[1,2],[0,10,-2,8]⟩]⟩
def dE:InfP:=⟨2,[⟨2,[],[]⟩,⟨2,[0],[[2,0],[1,1]]⟩,⟨2,[0,1],[]⟩],5,[⟨[0,1,2],[1,0,9,9,0,3,5,2]⟩]⟩
def dN:InfP:=⟨1,[⟨2,[],[]⟩,⟨2,[],[]⟩],3,[]⟩
theorem kP:InfOk dA:=zg dA (by decide) (by decide) (by decide) (by decide) (by decide) (by decide) (by decide) (by decide) (by decide)
theorem pF:InfOk dE:=zg dE (by decide) (by decide) (by decide) (by decide) (by decide) (by decide) (by decide) (by decide) (by decide)
theorem DU:InfOk dN:=zg dN (by decide) (by decide) (by decide) (by decide) (by decide) (by decide) (by decide) (by decide) (by decide)
theorem zh:fZ dA=some [1]:=by kernel_rfl
theorem zj:fZ dE=some [0,2]:=by kernel_rfl
theorem DV:fZ dN=none:=by kernel_rfl
theorem te (d:InfP)(p:List (List Int))(h:p.length=(bZ d).length/\∀ k,k<(bZ d).length->((p.getD k []).length:Int)=((bZ d).getD k (0,0)).1/\∀ a∈p.getD k [],0<=a/\a<((bZ d).getD k (0,0)).2):PolOk d p :=
 uD.2 ⟨h.1,fun k q r h1 h2=>by
  have:=h.2 k (aH h1);rw[List.getD_eq_getElem?_getD,List.getD_eq_getElem?_getD,h1,h2]at this;exact this⟩
theorem vK:PolOk dA [[0,0]]:=te _ _ (by decide)
theorem DW:PolOk dA [[1,0]]:=te _ _ (by decide)
theorem DX:PolOk dA [[1,1]]:=te _ _ (by decide)
theorem DY:PolOk dE [[1],[1,1,1,0]]:=te _ _ (by decide)
theorem DZ:PolOk dE [[1],[0,0,1,0]]:=te _ _ (by decide)
theorem qZ:cU dA=0:=by unfold cU;rw[dM kP,zh];rfl
theorem vM:cU dE=0:=by unfold cU;rw[dM pF,zj];rfl
theorem Rj:cU dN=4:=by unfold cU;rw[dM DU,DV];rfl
theorem Rk:fF 528 (dA.grain ^ dA.nodes.length)=.agg [aa 33,aa 4]:=by kernel_rfl
theorem Rl:fF 32 (dE.grain ^ dE.nodes.length)=.agg [aa 4,aa 1]:=by kernel_rfl
theorem Rm:eA dA [1]=[[1,0]]:=(yR kP (nU zh) (ks:=[0]) (by decide) (fun a b h1 h2=>by simp at h2;omega)).symm.trans (by kernel_rfl)
theorem Rn:eA dE [0,2]=[[1],[0,0,1,0]]:=(yR pF (nU zj) (ks:=[0,1]) (by decide) (fun a b h1 h2=>by
 have:a=0/\b=1:=by simp at h2;omega
 rw[this.1,this.2];decide)).symm.trans (by kernel_rfl)
theorem zk:iH dA [1]=528:=by kernel_rfl
theorem D0:iH dE [0,2]=32:=by kernel_rfl
theorem Ro:fG dA [[1,0]]=528:=by kernel_rfl
theorem Rp:fG dA [[1,1]]≠528:=by decide
theorem Rq:fG dE [[1],[1,1,1,0]]=32:=by kernel_rfl
theorem Rs:mS dA (fixC [[0,0]]) 1=[[0,48],[480,264]]:=by kernel_rfl
theorem Rt:mS dE (fixC [[1],[0,0,1,0]]) 0=[[8,32]]:=by kernel_rfl
end Go.Proofs
namespace Go.Hx
variable {P:Program} {G:Nat->Option (List AVal)}
inductive FzL (S:Nat->Prop)(H:AHeap)(nx:Nat):List AVal->List AVal->Prop
 | nil:FzL S H nx [] []
 | cons {a a':AVal} {l l':List AVal} (h:Fz S H nx a a') (t:FzL S H nx l l'):FzL S H nx (a :: l) (a' :: l')
theorem FzL.len {S:Nat->Prop}{H:AHeap}{nx:Nat}{l l':List AVal}(h:FzL S H nx l l'):l'.length=l.length:=by
 induction h with
 | nil=>rfl
 | cons _ _ ih=>rw[List.length_cons,List.length_cons,ih]
theorem FzL.at {S:Nat->Prop}{H:AHeap}{nx:Nat}{l l':List AVal}(h:FzL S H nx l l'):∀ i (h:i<l.length) (h':i<l'.length),Fz S H nx l[i] l'[i]:=by
 induction h with
 | nil=>intro i h;exact absurd h (Nat.not_lt_zero _)
 | cons h _ ih =>
  intro i h1 h2;cases i with
  | zero=>exact h
  | succ i=>exact ih i (by simpa using h1) (by simpa using h2)
theorem FzL.agg {S:Nat->Prop}{H:AHeap}{nx:Nat}{l l':List AVal}(h:FzL S H nx l l'):Fz S H nx (.agg l) (.agg l'):=.agg h.len h.at
theorem FzL.tup {S:Nat->Prop}{H:AHeap}{nx:Nat}{l l':List AVal}(h:FzL S H nx l l'):Fz S H nx (.tup l) (.tup l'):=.tup h.len h.at
theorem FzL.own {S:Nat->Prop}{H:AHeap}{nx id g l z:Nat}{e:TypeId}{cells c':List AVal}(hS:S id)(hg:H.get id=some (.arr g e cells))(hl:cells.length=l*z)(h:FzL S H nx cells c'):Fz S H nx (.own id g 0 l z) (.vec l c'):=by
 refine .frz hS hg (by rw[h.len,hl]) fun i hi h2 h'=>?_;have e0:0+i=i:=Nat.zero_add i;simpa only[e0] using h.at i (by omega) h'
theorem aA.Ru {H:AHeap}{f:FuncId}{args args':List AVal}{K:ARes->AHeap->Prop}(n:Nat)(hG:fX G)(hv:FzL (fun id=>n<=id) H H.next args args')(h:ae P G f args' (H.cut n) K):aA P G (.clo f [] []) args H K :=
 aA.clo (by simpa using ae.lu n hG hv.len (fun i h1 h2=>hv.at i h1 h2) h)
theorem aA.ja {B H:AHeap}{f:FuncId}{args args':List AVal}{K:ARes->AHeap->Prop}(hG:fX G)(ho:Over B H)(hv:FzL (fun id=>B.next<=id) H H.next args args')(h:∀ H',Over B H'->ae P G f args' H' K):aA P G (.clo f [] []) args H K :=
 aA.Ru B.next hG hv (h _ ho.cut)
end Go.Hx
namespace Go.Proofs
open Go.Hx
theorem zl {S:Nat->Prop}{H:AHeap}{nx:Nat}(l:List Int):FzL S H nx (ints l) (ints l):=by
 induction l with
 | nil=>exact .nil
 | cons a l ih=>exact .cons (.lit _) ih
end Go.Proofs
namespace Go.Proofs
open Go.Hx
theorem Rz (H:AHeap)(K:ARes->AHeap->Prop)(hK:K (.ret (dD dA)) H):ae Tryz.prog G0 62 [] H K:=by
 refine ae.clo ⟨_,Tryz.func62,rfl,rfl⟩ fun hcl=>?_;have e:dD dA=.agg [aa 4,.vec 3 [aa 2,.vec 0 [],.vec 1 [.vec 2 [aa 1,aa 3]],aa 2,.vec 1 [aa 0],.vec 0 [],aa 2,.vec 2 [aa 0,aa 1],.vec 4 [.vec 2 [aa 4,aa 0],.vec 2 [aa 2,aa 2],.vec 2 [aa 0,aa 4],.vec 2 [aa 1,aa 3]]],.lit (.int .u64 2),.vec 1 [.vec 2 [aa 1,aa 2],.vec 4 [aa 0,aa 10,aa (-2),aa 8]]]:=by rfl
 rw[e]at hK;refine ae.d7 (n:=19) (rs:=[.cell 0 38]) Tryz.func62 rfl rfl rfl (by decide) (by simp) ?_;refine W.seq (ag _ _ _ (by rfl) ?_);simp only[go_sem];refine W.seq (ag _ _ _ (by rfl) ?_);simp only[go_sem]
 repeat (refine⟨by decide,?_⟩)
 refine ag _ _ _ (by rfl) ?_;simp only[go_sem];refine au.bG aJ hcl (.ext _ _) (FzL.agg ?_) hK
 repeat (first|exact FzL.nil|refine FzL.cons ?_ ?_|exact Fz.lit _|exact Fz.nil|refine FzL.own (by omega) (ba H _ _ (by simp)) rfl ?_)
theorem RA (H:AHeap)(K:ARes->AHeap->Prop)(hK:K (.ret (dD dE)) H):ae Tryz.prog G0 63 [] H K:=by
 refine ae.clo ⟨_,Tryz.func63,rfl,rfl⟩ fun hcl=>?_;have e:dD dE=.agg [aa 2,.vec 3 [aa 2,.vec 0 [],.vec 0 [],aa 2,.vec 1 [aa 0],.vec 2 [.vec 2 [aa 2,aa 0],.vec 2 [aa 1,aa 1]],aa 2,.vec 2 [aa 0,aa 1],.vec 0 []],.lit (.int .u64 5),.vec 1 [.vec 3 [aa 0,aa 1,aa 2],.vec 8 [aa 1,aa 0,aa 9,aa 9,aa 0,aa 3,aa 5,aa 2]]]:=by rfl
 rw[e]at hK;refine ae.d7 (n:=15) (rs:=[.cell 0 38]) Tryz.func63 rfl rfl rfl (by decide) (by simp) ?_;refine W.seq (ag _ _ _ (by rfl) ?_);simp only[go_sem];refine W.seq (ag _ _ _ (by rfl) ?_);simp only[go_sem]
 repeat (refine⟨by decide,?_⟩)
 refine ag _ _ _ (by rfl) ?_;simp only[go_sem];refine au.bG aJ hcl (.ext _ _) (FzL.agg ?_) hK
 repeat (first|exact FzL.nil|refine FzL.cons ?_ ?_|exact Fz.lit _|exact Fz.nil|refine FzL.own (by omega) (ba H _ _ (by simp)) rfl ?_)
end Go.Proofs
namespace Go.Proofs
open Go.Hx
theorem Qd {lo:Nat}{v:AVal}{cs:List AVal}(hl:cs.length<=64)(hone:cs.all AVal.one=true)(H:AHeap)(hv:aF lo H 170 v cs)(hnil:cs=[]->v=.lit (.slice none 0 0))(K:ARes->AHeap->Prop)(hK:∀ v' H',Over H H'->aF H.next H' 170 v' cs->K (.ret v') H'):
  ae Tryz.prog G0 108 [v] H K:=by
 by_cases h0:cs=[]
 ·rw[hnil h0];have hK0:=hK (.lit (.slice none 0 0)) H (.refl _) (by rw[h0];exact .nil);have nn:∀ x y,bE Tryz.prog .eql 128 x y (.lit (.slice none 0 0)) (.lit (.slice none 0 0))=some (.lit (.bool true)):=fun x y=>by rfl
  refine ae.d7 (n:=8) (rs:=[.tmp 2]) Tryz.func108 rfl rfl rfl (by decide) (by simp) ?_;refine W.seq (ag _ _ _ (by rfl) ?_);simp only[go_sem];refine W.seq (ag _ _ _ (by rfl) ?_);simp only[go_sem,nn];exact au.mk (Nat.le_refl _) hK0
 ·exact PG h0 hl hone H hv K fun id g H' ho h1 h2 h3=>hK _ H' ho (.inr ⟨id,g,h1,h2,rfl,h3⟩)
theorem Qe {D:DPr}{r:List Nat}{lo lo2 n:Nat}{I:Nat->Nat->Nat}{T:TabS}{v:AVal}(h12:n<=12)(hr:∀ k,k<n->r.getD k 0<64)(H:AHeap)(hL:LevH D r lo n I T H)(hv:aF lo2 H 170 v (iY I n))(hI:∀ id g m,v=.own id g 0 m 1->∀ k j,k<n->j<6->id≠I k j)(K:ARes->AHeap->Prop)
  (hK:∀ ks H',ks.Perm (List.range n)->oa (fun a=>r.getD a 0) ks ks.length->H'.next=H.next->(∀ i,(∀ g m,v≠.own i g 0 m 1)->H'.get i=H.get i)->aF lo2 H' 170 v (fT I ks)->K (.ret (.tup [])) H'):
  ae Tryz.prog G0 109 [v,.clo 110 [] []] H K:=by
 refine PW (n:=n) (Q:=fun H'=>∃ ks:List Nat,ks.Perm (List.range n)/\oa (fun a=>r.getD a 0) ks ks.length/\H'.next=H.next/\(∀ i,(∀ g m,v≠.own i g 0 m 1)->H'.get i=H.get i)/\aF lo2 H' 170 v (fT I ks)) h12 H (fun H' ⟨_,_,_,h,_⟩=>by omega) (hv.keep (Nat.zero_le _) (Nat.le_refl _) fun _ _ _ _ _ _=>rfl) (jG I n) (fun K' hK'=>?_) K fun H' ⟨ks,h1,h2,h3,h4,h5⟩=>hK ks H' h1 h2 h3 h4 h5;rcases Nat.lt_or_ge n 2 with h1|h1
 ·refine PX (by omega) H K' (hK' H ⟨List.range n,.refl _,fun a b h2 h3=>?_,rfl,fun _ _=>rfl,?_⟩)
  ·rw[List.length_range]at h3;omega
  ·rw[Dk];exact hv
 ·rcases hv with ⟨_,h2⟩|⟨id,g,q1,q2,h3,h4⟩
  ·have:=congrArg List.length h2;rw[jG,List.length_nil]at this;omega
  ·rw[jG]at h3;have hsep:=hI id g n h3;rw[h3];have hl:(List.range n).length=n:=List.length_range;have:=PT (D:=D) (r:=r) (lo:=lo) (m:=n) (I:=I) (T:=T) (id:=id) (g:=g) (l:=List.range n) (by rw[hl];omega) (by rw[hl];omega) (fun a ha=>List.mem_range.1 ha) (fun a ha=>hr a (List.mem_range.1 ha)) H hL (by rw[Dk];exact h4) hsep K' fun l' H' e1 e2 e3=>hK' H' ⟨l',e2,by rw[e2.length_eq];exact e3,by rw[e1,aD],fun i hi=>by rw[e1,ah,if_neg fun e=>hi g n (by rw[h3,e])],.inr ⟨id,g,q1,by rw[e1,aD];exact q2,by rw[mO,e2.length_eq,hl];exact h3,by rw[e1,ah,if_pos rfl]⟩⟩;rw[hl]at this;exact this
theorem Qf {D:DPr}{T:TabS}{m:Nat}(hl:T.Len D m)(hR:T.Rng D):∀ (n:Nat) (ks:List Nat),ks.length=n->(∀ k∈ks,k<m)->(runT D T ks).Len D m/\(runT D T ks).Rng D/\(runT D T ks).ab=T.ab:=by
 intro n
 induction n with
 | zero =>
  intro ks h _;obtain rfl:=List.eq_nil_of_length_eq_zero h;exact⟨hl,hR,rfl⟩
 | succ n ih =>
  intro ks h1 h2;obtain⟨qs,k,rfl⟩:∃ qs a,ks=qs++[a]:=by
   rcases List.eq_nil_or_concat ks with h|⟨qs,a,h⟩
   ·rw[h]at h1;cases h1
   ·exact⟨qs,a,by rw[h,List.concat_eq_append]⟩
  rw[List.length_append,List.length_singleton]at h1;obtain⟨a1,a2,a3⟩:=ih qs (by omega) fun k hk=>h2 k (by simp [hk]);rw[yQ];exact⟨Di a1 k _,Dj a1 a2 (h2 k (by simp)) _ (Nat.le_refl _),(Dh _ _ _ _).trans a3⟩
def mR (D:DPr)(I:Nat->Nat->Nat)(ks:List Nat):List AVal:=ks.map fun k=>.own (I k 5) 0 0 (D.cs k) 1
theorem Qg {d:InfP}{r:List Nat}{lo lo2 s:Nat}{lvh v:AVal}{I:Nat->Nat->Nat}{T:TabS}{tot:Int}{H:AHeap}{ks:List Nat}(hS:SolvH d r lo s lvh I T tot H)(hp:ks.Perm (List.range r.length))(hl2:lo<=lo2)(hv:aF lo2 H 46 v (mR (ar d r) I ks)):
  OwnM lo H 46 3 v (ks.map fun k=>I k 5) ((ks.map fun k=>T.ch k).map ints):=by
 have hm:∀ k∈ks,k<r.length:=fun k hk=>List.mem_range.1 (hp.mem_iff.1 hk);refine⟨by simp,?_,fun i hi=>?_,?_,fun j id q h1 h2=>?_⟩
 ·show List.Pairwise _ _;rw[List.pairwise_map];refine(List.Pairwise.and_mem.1 (hp.nodup_iff.2 List.nodup_range)).imp fun {a b} ⟨ha,hb,hne⟩ e=>hne (hS.levs.inj a 5 b 5 (hm a ha) (hm b hb) (by omega) (by omega) e).1
 ·obtain⟨k,hk,rfl⟩:=List.mem_map.1 hi;exact hS.levs.rng k 5 (hm k hk) (by omega)
 ·have e:List.zipWith (fun i n=>AVal.own i 0 0 n 1) (ks.map fun k=>I k 5) (((ks.map fun k=>T.ch k).map ints).map List.length)=mR (ar d r) I ks:=by
   unfold mR;rw[List.map_map,List.map_map,List.zipWith_map,List.zipWith_self];refine List.map_congr_left fun k hk=>?_;show AVal.own (I k 5) 0 0 (ints (T.ch k)).length 1=_;rw[aT,hS.levs.len.ch k (hm k hk)]
  rw[e];exact hv.keep hl2 (Nat.le_refl _) fun _ _ _ _ _ _=>rfl
 ·rw[List.getElem?_map]at h1;rw[List.getElem?_map,List.getElem?_map]at h2;cases hk:ks[j]? with
  | none=>rw[hk]at h1;cases h1
  | some k =>
   rw[hk]at h1 h2;cases h1;cases h2;exact hS.levs.tab k 5 (hm k (List.mem_of_getElem? hk)) (by omega) (by omega)
set_option maxHeartbeats 4000000 in
theorem choose_spec {d:InfP}{r:List Nat}(hok:InfOk d)(hr:OrdR d r)(hrl:r.length<=12)(h64:d.nodes.length<=64){lo s:Nat}{lvh:AVal}{I:Nat->Nat->Nat}{tot:Int}(H:AHeap)(hS:SolvH d r lo s lvh I (dC (ar d r) (eh (ar d r)) 0) tot H)(hnil:r=[]->lvh=.lit (.slice none 0 0))(K:ARes->AHeap->Prop)
  (hK:∀ v ids T' H',H.next<=H'.next->(∀ i,i<H.next->i≠s->(∀ k j,k<r.length->j<6->i≠I k j)->H'.get i=H.get i)->SolvH d r lo s lvh I T' tot H'->OwnM lo H' 46 3 v ids ((eA d r).map ints)->K (.ret v) H'):
  ae Tryz.prog G0 47 [.ptr s 0 0] H K:=by
 obtain⟨D,hDe⟩:∃ D,D=ar d r:=⟨_,rfl⟩
 have hr64:∀ k,k<r.length->r.getD k 0<64:=fun k hk=>by
  obtain⟨v,hv⟩:=aw hk;rw[fS hv];have:=(d5.1 (hr.mem v (List.mem_of_getElem? hv))).1;omega
 have hsz:=C9 hok hr;have hsl:=hS.slo;refine ae.d7 (n:=30) (rs:=[.tmp 2]) Tryz.func47 rfl rfl rfl (by decide) (by simp) ?_;refine W.seq (ag _ _ _ (by rfl) ?_);simp only[go_sem];obtain⟨H1,hH1⟩:∃ H1,H1=ext H [.arr 0 110 [.ptr s 0 0]]:=⟨_,rfl⟩
 have g1:H1.get H.next=some (.arr 0 110 [.ptr s 0 0]):=by rw[hH1];exact bJ
 have n1:H1.next=H.next+1:=by rw[hH1];rfl
 have o1:Over H H1:=by rw[hH1];exact .ext _ _
 rw[<- hH1];clear hH1;have hS1:=hS.keep (H':=H1) (by omega) fun i _ h=>o1.old i h;have l1:=af g1;have ls:=af hS1.top;refine W.seq (ag _ _ _ (by rfl) ?_);simp only[go_sem,l1,ls];have hones:(iY I r.length).all AVal.one=true:=by simp [iY];intro x _;rfl
 refine aA.clo (Qd (by rw[jG];omega) hones H1 hS1.lv (fun h=>hnil (List.length_eq_zero_iff.1 (by rw[<- jG I r.length,h];rfl))) _ fun v2 H2 o2 hv2=>⟨trivial,?_⟩);have hS2:=hS1.keep (H':=H2) o2.next fun i _ h=>o2.old i h;have g2:=(o2.old _ (by omega)).trans g1;simp only[go_sem];refine W.seq (ag _ _ _ (by rfl) ?_);simp only[go_sem];refine aA.clo (Qe hrl hr64 H2 hS2.levs hv2 (fun id g m he k j h1 h2 e=>?_) _ fun ks H3 hp hs n3 o3 hv3=>⟨trivial,?_⟩)
 ·have:=(hS1.levs.rng k j h1 h2).2;exact hv2.ne (by rw[e];exact this) g m he
 have kl:=hp.length_eq;rw[List.length_range]at kl;have hkm:∀ k∈ks,k<r.length:=fun k hk=>List.mem_range.1 (hp.mem_iff.1 hk);have k3:∀ i,i<H1.next->H3.get i=H1.get i:=fun i h=>(o3 i (hv2.ne h)).trans (o2.old i h);have hS3:=hS1.keep (H':=H3) (by have:=o2.next;omega) fun i _ h=>k3 i h;have g3:=(k3 _ (by omega)).trans g1;have hlen:lZ Tryz.prog H3 128 v2=some (aa r.length):=by
  rcases hv3 with ⟨h1,h2⟩|⟨id,g,_,_,h1,h2⟩
  ·have:=congrArg List.length h2;rw[mO,List.length_nil]at this;rw[h1,show r.length=0 by omega];rfl
  ·rw[h1];simp only[go_sem];rw[af h2,mO,kl];rfl
 simp only[go_sem];refine W.seq (ag _ _ _ (by rfl) ?_);simp only[go_sem];refine W.seq (ag _ _ _ (by rfl) ?_);simp only[go_sem];refine W.seq (ag _ _ _ (by rfl) ?_);simp only[go_sem,hlen];refine W.env fun E hE=>?_;have e4:E 4=.clo 111 [] [.ptr H.next 0 0]:=by rw[hE];simp only[go_sem]
 have e5:E 5=.lit (.slice none 0 0):=by rw[hE];simp only[go_sem]
 have e16:E 16=v2:=by rw[hE];simp only[go_sem]
 have e17:E 17=aa r.length:=by rw[hE];simp only[go_sem]
 have e18:E 18=aa 0:=by rw[hE];simp only[go_sem]
 clear hE;have n3':H1.next<=H3.next:=by rw[n3];exact o2.next
 obtain⟨T0,hT0⟩:∃ T0,T0=dC D (eh D) 0:=⟨_,rfl⟩
 have hl0:T0.Len D r.length:=by rw[hT0];exact hDe ▸ hS.levs.len
 have hst:=Dq (qE hok hr.mem) (qG hok hr);have hR0:T0.Rng D:=by rw[hT0,hDe];exact hst.rng
 have h00:∀ c,c<D.cs 0->(T0.ab 0).getD c 0=0:=by rw[hT0,hDe];exact hst.h0
 rw[<- hDe,<- hT0]at hS3;have hB3:=hS1.sQ;refine W.aQ 536608928 (by rfl) (fun ρ Hx=>∃ (j:Nat) (p:AVal),ρ 18=aa j/\j<=r.length/\ρ 5=p/\H3.next<=Hx.next/\(∀ i,i<H3.next->i≠s->(∀ k j,k<r.length->j<6->i≠I k j)->Hx.get i=H3.get i)/\SolvH d r lo s lvh I (runT D T0 (ks.take j)) tot Hx/\aF H3.next Hx 46 p (mR D I (ks.take j))) (fun ρ Hx=>r.length - (iv (ρ 18)).toNat) ?_ ?_
 ·exact⟨0,_,e18,Nat.zero_le _,e5,Nat.le_refl _,fun _ _ _ _=>rfl,hS3,.nil⟩
 rintro ρ Hx ⟨j,p,h18,hj,h5,hnx,hout,hSx,hO⟩;refine W.env fun E1 hE1=>?_;have f4:E1 4=.clo 111 [] [.ptr H.next 0 0]:=by rw[hE1];simp only[go_sem,e4]
 have f5:E1 5=p:=by rw[hE1];simp only[go_sem,h5]
 have f16:E1 16=v2:=by rw[hE1];simp only[go_sem,e16]
 have f17:E1 17=aa r.length:=by rw[hE1];simp only[go_sem,e17]
 have f18:E1 18=aa j:=by rw[hE1];simp only[go_sem,h18]
 clear hE1;by_cases hb:(j:Int)<r.length;rotate_left
 ·refine ag _ _ _ (by rfl) ?_;simp only[go_sem,f17,f18,hb];refine ag _ _ _ (by rfl) ?_;simp only[go_sem,f5];have hjn:j=ks.length:=by omega
  rw[hjn,List.take_length]at hSx hO;have hrun:=yR hok hr hp hs;refine au.mk (by omega) (hK p (ks.map fun k=>I k 5) _ Hx (by omega) (fun i h1 h2 h3=>(hout i (by omega) h2 h3).trans ((k3 i (by omega)).trans (o1.old i h1))) hSx ?_);rw[hDe]at hO;have:=Qg hSx hp (by omega) hO;rw[hT0,hDe,hrun]at this;exact this
 obtain⟨k,hk⟩:=aw (l:=ks) (i:=j) (by omega);have hkr:=hkm k (List.mem_of_getElem? hk);obtain⟨id2,g2,q1,q2,hv2e,hv2g⟩:∃ id g,H1.next<=id/\id<H3.next/\v2=.own id g 0 r.length 1/\H3.get id=some (.arr g 170 (fT I ks)):=by
  rcases hv3 with ⟨_,h2⟩|⟨id,g,a1,a2,h1,h2⟩
  ·have:=congrArg List.length h2;rw[mO,List.length_nil]at this;omega
  ·rw[mO,kl]at h1;rw[n3]at a2;exact⟨id,g,a1,by omega,h1,h2⟩
 rw[hv2e]at f16;have ne2:∀ i,H1.next<=i->i≠s/\∀ k j,k<r.length->j<6->i≠I k j:=fun i h=>⟨by have:=hB3.1;omega,fun k j h1 h2=>by have:=hB3.2.1 k j h1 h2;omega⟩
 have gx2:=(hout id2 q2 (ne2 id2 q1).1 (ne2 id2 q1).2).trans hv2g;have lx2:=af gx2;have plen:=mO I ks;rw[kl]at plen;have gk:=sN (I:=I) hk;have gkn:=aP gk;refine W.seq (ag _ _ _ (by rfl) ?_);simp only[go_sem,f17,f18,hb];refine W.seq (ag _ _ _ (by rfl) ?_);simp only[go_sem];refine W.seq (W.block ?_);refine W.seq (ag _ _ _ (by rfl) ?_);simp only[go_sem,f16,f18,lx2,gk,hb];have gbx:Hx.get H.next=some (.arr 0 110 [.ptr s 0 0]):=(hout H.next (by omega) (by have:=hB3.1;omega) fun k j h1 h2=>by have:=(hS.levs.rng k j h1 h2).2;omega).trans g3;obtain⟨a1,a2,a3⟩:=Qf hl0 hR0 _ (ks.take j) rfl fun k h=>hkm k (List.mem_of_mem_take h);refine ag _ _ _ (by rfl) ?_;simp only[go_sem,f4,f5];rw[hDe]at hSx a2 hT0;refine aA.clo (PE (tot:=tot) (by omega) hsz a2 (fun c h=>by rw[<- hDe,a3];exact h00 c (by rw[hDe];exact h)) hkr H.next Hx gbx (by omega) ⟨by omega,fun k j h1 h2=>by have:=(hS.levs.rng k j h1 h2).2;omega⟩ hSx _ fun H4 n4 o4 hS4=>⟨trivial,?_⟩);have hO4:aF H3.next H4 46 p (mR D I (ks.take j)):=hO.keep (Nat.le_refl _) (by omega) fun i g h1 h2 _ _=>o4 i (ne2 i (by omega)).1 (ne2 i (by omega)).2;obtain⟨p2,H5,hA,hO5,n5,hp5⟩:=ji (P:=Tryz.prog) (H:=H4) (t:=33) (x:=.own (I k 5) 0 0 (D.cs k) 1) (n:=H4.next+1) Tryz.underlying33 Tryz.rY Tryz.r8 rfl (by rw[Tryz.rZ];simp [mR];omega) hO4 (by omega) rfl;rw[hDe]at hA;have hvc:=hO5.cells;have hvo:=hO5.one;simp only[go_sem,hA];have wj:=IntWalk.i64_in ((j:Int)+1) (by omega);refine ag _ _ _ (by rfl) ?_;simp only[go_sem,f18,wj];have ht:ks.take (j+1)=ks.take j++[k]:=by rw[List.take_add_one,hk];rfl
 have hS5:=hS4.i9 hB3 n5 fun i hi=>hp5 i (by omega) (hO4.ne (by omega));refine⟨by omega,⟨j+1,p2,rfl,by omega,rfl,by omega,fun i h1 h2 h3=>?_,?_,?_⟩,by rw[h18];simp only[aa,bF];omega⟩
 ·rw[hp5 i (by omega) (hO4.ne h1),o4 i h2 h3];exact hout i h1 h2 h3
 ·rw[ht,yQ,hDe];exact hS5
 ·have e:mR D I (ks.take (j+1))=mR D I (ks.take j)++[.own (I k 5) 0 0 (D.cs k) 1]:=by rw[ht];simp [mR]
  rw[e];exact hO5
end Go.Proofs
namespace Go.Proofs
open Go.Hx
theorem qY {S:Nat->Prop}{H:AHeap}{nx:Nat}(d:InfP):Fz S H nx (dD d) (dD d):=by
 refine .agg rfl fun i hi _=>?_
 match i,hi with
 | 0,_=>exact .lit _
 | 1,_=>exact qS _
 | 2,_=>exact .lit _
 | 3,_=>exact .vec rfl fun j h h'=>xY d.utils _ (List.getElem_mem h)
end Go.Proofs
namespace Go.Proofs
open Go.Hx
end Go.Proofs
namespace Go.Hx
variable {P:Program}
end Go.Hx
namespace Go.Proofs
open Go.Hx
theorem QL {n:Nat}{f:Nat->Int}{B:Int}(h:∀ i,i<n->-B<=f i/\f i<=B):-(B*n)<=SS n f/\SS n f<=B*n:=by
 induction n with
 | zero=>simp [mz]
 | succ n ih =>
  rw[fg];have h1:=ih fun i hi=>h i (by omega);have h2:=h n (by omega)
  push_cast
  rw[Int.mul_add,Int.mul_one];omega
theorem QM {d:InfP}(hok:InfOk d)(h6:d.nodes.length<=6)(c:Nat->Nat->Int):-20000000000000000<=fh d c/\fh d c<=20000000000000000:=by
 have hw:=DN hok;have:=QL (n:=bL d.nodes) (B:=18662400000000) (f:=fun w=>if iS d c (wv d w)=true then cY d (wv d w) else 0) fun i _=>by
  have:=sW hok h6 (jk hok i);split<;>omega
 unfold fh;omega
structure Imp (d:InfP)(p q:List (List Int))(n:Nat):Prop where
 ok:PolOk d q
 same:n=0->q=p
 loc:isLocal d p->n=0
 sum:fh d (fixC p)+n<=fh d (fixC q)
theorem Imp.start {d:InfP}{p:List (List Int)}(h:PolOk d p):Imp d p p 0:=⟨h,fun _=>rfl,fun _=>rfl,by simp⟩
structure Rnd (d:InfP)(q:List (List Int))(k:Nat)(b:Bool)(r:List (List Int)):Prop where
 ok:PolOk d r
 no:b=false->r=q/\∀ j v,j<k->(aO d)[j]?=some v->oV d q v
 yes:b=true->¬ isLocal d q/\fh d (fixC q)<fh d (fixC r)
theorem Rnd.start {d:InfP}{q:List (List Int)}(h:PolOk d q):Rnd d q 0 false q:=⟨h,fun _=>⟨rfl,fun j v hj=>absurd hj (Nat.not_lt_zero _)⟩,fun h=>Bool.noConfusion h⟩
theorem Rnd.RK {d:InfP}{q r:List (List Int)}{k v:Nat}{b:Bool}(h:Rnd d q k b r)(hv:(aO d)[k]?=some v)(hb:oV d r v):Rnd d q (k+1) b r :=
 ⟨h.ok,fun e=>⟨(h.no e).1,fun j w hj hw=>by
  by_cases hjk:j=k
  ·subst hjk;rw[hv]at hw;cases hw;rw[<- (h.no e).1];exact hb
  ·exact(h.no e).2 j w (by omega) hw⟩,h.yes⟩
theorem Rnd.step {d:InfP}(hok:InfOk d){q r:List (List Int)}{k v:Nat}{b:Bool}(h:Rnd d q k b r)(hv:(aO d)[k]?=some v)(hb:¬ oV d r v):Rnd d q (k+1) true (r.set (bB d.decs v) (nL d (fixC r) v)):=by
 have hvm:v∈aO d:=List.mem_of_getElem? hv;refine⟨M6 hok h.ok hvm,fun e=>(Bool.noConfusion e),fun _=>?_⟩;have hg:=M9 hok h.ok hvm hb;cases b with
 | false =>
  have e:=(h.no rfl).1;subst e;exact⟨fun hl=>hb (hl v hvm),hg⟩
 | true =>
  obtain⟨h1,h2⟩:=h.yes rfl;exact⟨h1,by omega⟩
theorem Rnd.done {d:InfP}{q r:List (List Int)}(h:Rnd d q (aO d).length false r):r=q/\isLocal d q :=
 ⟨(h.no rfl).1,fun v hv=>by
  obtain⟨j,hj⟩:=List.mem_iff_getElem?.1 hv;exact(h.no rfl).2 j v (aH hj) hj⟩
theorem Imp.round {d:InfP}{p q r:List (List Int)}{n k:Nat}(h:Imp d p q n)(hr:Rnd d q k true r):Imp d p r (n+1):=by
 obtain⟨h1,h2⟩:=hr.yes rfl;refine⟨hr.ok,fun e=>by omega,fun hl=>?_,?_⟩
 ·have hn:=h.loc hl;rw[h.same hn]at h1;exact absurd hl h1
 ·have:=h.sum
  push_cast
  omega
end Go.Proofs
namespace Go.Proofs
open Go.Hx
end Go.Proofs
namespace Go.Proofs.R01
open Go.Hx
def sT:Int := 4611686018427387903
def lT (n d:Int):Int := if d < 1 \/ d > sT \/ n < -sT \/ n > sT then 5 else if Int.gcd n d ≠ 1 then 5 else 0
def lU (a b c d:Int):Int := if (a < 0 /\ ¬ c < 0) then -1 else if (¬ a < 0 /\ c < 0) then 1 else if a.natAbs * d.natAbs = c.natAbs * b.natAbs then 0 else if (a.natAbs * d.natAbs < c.natAbs * b.natAbs ↔ 0 <= a) then -1 else 1
theorem QN {a b c d:Int}(hb:1 <= b)(hd:1 <= d):lU a b c d = cO (a * d) (c * b) := by
  unfold lU cO;obtain⟨B, rfl⟩ := Int.eq_ofNat_of_zero_le (show 0 <= b by omega);obtain⟨D, rfl⟩ := Int.eq_ofNat_of_zero_le (show 0 <= d by omega);simp only[Int.natAbs_natCast];have pos:∀ x:Nat, ∀ E:Nat, ((x:Int) * (E:Int)) = ((x * E:Nat):Int) := fun x E => (Int.natCast_mul x E).symm;have neg:∀ x:Nat, ∀ E:Nat, (-(x:Int) * (E:Int)) = -((x * E:Nat):Int) := fun x E => by rw[Int.neg_mul, Int.natCast_mul]
  have pp:∀ x E:Nat, 0 < x -> 1 <= (E:Int) -> 0 < x * E := fun x E h1 h2 => Nat.mul_pos h1 (by omega);by_cases h1:a < 0
  · obtain⟨A, hA, hA0⟩:∃ A:Nat, a = -(A:Int) /\ 0 < A := ⟨a.natAbs, by omega, by omega⟩
    subst hA;have p1 := pp A D hA0 hd;by_cases h2:c < 0
    · obtain⟨C, hC, hC0⟩:∃ C:Nat, c = -(C:Int) /\ 0 < C := ⟨c.natAbs, by omega, by omega⟩
      subst hC;simp only[Int.natAbs_neg, Int.natAbs_natCast, neg];generalize A * D = P at *
      generalize C * B = Q at *
      repeat' split
      all_goals omega
    · obtain⟨C, hC⟩ := Int.eq_ofNat_of_zero_le (show 0 <= c by omega);subst hC;simp only[Int.natAbs_neg, Int.natAbs_natCast, neg, pos];generalize A * D = P at *
      generalize C * B = Q at *
      repeat' split
      all_goals omega
  · obtain⟨A, hA⟩ := Int.eq_ofNat_of_zero_le (show 0 <= a by omega);subst hA;by_cases h2:c < 0
    · obtain⟨C, hC, hC0⟩:∃ C:Nat, c = -(C:Int) /\ 0 < C := ⟨c.natAbs, by omega, by omega⟩
      subst hC;have p2 := pp C B hC0 hb;simp only[Int.natAbs_neg, Int.natAbs_natCast, neg, pos];generalize A * D = P at *
      generalize C * B = Q at *
      repeat' split
      all_goals omega
    · obtain⟨C, hC⟩ := Int.eq_ofNat_of_zero_le (show 0 <= c by omega);subst hC;simp only[Int.natAbs_natCast, pos]
      repeat' split
      all_goals omega
theorem QO:aB 1 = [1] := by rw[nO (by decide), iE]; rfl
theorem QP (n d:Int)(hn:iU n)(hd:iU d)(H:AHeap)(K:ARes -> AHeap -> Prop)(hK:K (.ret (.lit (.bool (decide (lT n d = 0))))) H):ae Tryz.prog G0 30 [qV n d] H K := by
  refine ae.clo ⟨_, Tryz.func30, rfl, rfl⟩ fun hcl => ?_;refine ae.aU (n := 31) (rs := [.tmp 2]) Tryz.func30 rfl rfl rfl (by decide) (by kernel_rfl) (by simp) ?_;have bad:∀ L, lT n d = 5 -> au Tryz.prog G0 H K (.lit (.bool false)) (ext H L) := fun L h => by
    rw[h]at hK;exact au.drop aJ hcl (.lit _) hK
  by_cases h1:d < 1
  · simp only[go_sem, qV, h1, aX];exact bad _ (by unfold lT; rw[if_pos (.inl h1)])
  by_cases h2:4611686018427387903 < d
  · simp only[go_sem, qV, h1, h2, aX];exact bad _ (by unfold lT; rw[if_pos (.inr (.inl h2))])
  by_cases h4:4611686018427387903 < n
  · simp only[go_sem, qV, h1, h2, h4, aX];exact bad _ (by unfold lT; rw[if_pos (.inr (.inr (.inr h4)))])
  by_cases h3:n < -4611686018427387903
  · simp only[go_sem, qV, h1, h2, h3, h4, aX];exact bad _ (by unfold lT; rw[if_pos (.inr (.inr (.inl h3)))])
  simp only[go_sem, qV, h1, h2, h3, h4, aX];refine W.draw 8 [0, 1, 3, 0, 8, 31, 63, 0] Tryz.mixed (by kernel_rfl) (by kernel_rfl) ?_;simp only[go_sem, qV, aX];have l1 := nS hn;have l2 := nS hd;refine⟨_, [], bU.pure fun H2 => pf n hn H2 _ ⟨rfl, rfl⟩, ?_⟩;simp only[go_sem, aX];refine⟨_, [], bU.pure fun H2 => pf d hd H2 _ ⟨rfl, rfl⟩, ?_⟩;simp only[go_sem, aX];refine⟨_, [], bU.pure fun H2 => N0 n.natAbs d.natAbs (by omega) (by omega) H2 _ ⟨rfl, rfl⟩, ?_⟩;simp only[go_sem, aX];refine⟨by refine⟨?_, ?_, ?_, ?_⟩ <;> (intro x hx; omega), ?_⟩;have gl:(aB (n.natAbs.gcd d.natAbs)).length <= 100 := by
    have:n.natAbs.gcd d.natAbs <= d.natAbs := Nat.le_of_dvd (by omega) (Nat.gcd_dvd_right _ _);have := N1 this;omega
  have ck:lT n d = if Int.gcd n d ≠ 1 then 5 else 0 := by unfold lT; rw[if_neg (by unfold sT; omega)]
  have eg:Int.gcd n d = n.natAbs.gcd d.natAbs := rfl;obtain⟨H1, hH1⟩:∃ H1, H1 = ext H [.arr 0 41 [.lit (.int .i64 n), .lit (.int .i64 d)]] := ⟨_, rfl⟩
  have ov1:Over H H1 := by rw[hH1]; exact .ext _ _
  have e1:H.next + 1 = H1.next := by rw[hH1]; rfl
  rw[<- hH1, e1];have hO:aF H1.next (ext H1 [.arr 0 3 [.lit (.int .i64 1)]]) 3 (.own H1.next 0 0 1 1) (ints [1]) := .inr ⟨H1.next, 0, Nat.le_refl _, by simp [aR], rfl, cq _ _ _⟩;refine aA.lu H1.next (args' := [aj (aB (n.natAbs.gcd d.natAbs)), aj (aB 1)]) aJ rfl (fun j hj _ => match j, hj with | 0, _ => .dR _ | 1, _ => by rw[QO]; exact hO.iw fun i hi => hi) (sf _ 1 (by omega) _ _ ⟨trivial, ?_⟩);have ov2:Over H ((ext H1 [.arr 0 3 [.lit (.int .i64 1)]]).cut H1.next) := ov1.trans (Over.ext _ _).cut;rw[ck, eg]at hK;by_cases hg:n.natAbs.gcd d.natAbs = 1
  · rw[hg]at hK ⊢;have c1:cO ((1:Nat):Int) ((1:Nat):Int) = 0 :=(by decide);rw[c1];simp only[go_sem, aX];exact au.bG aJ hcl ov2 (.lit _) hK
  · have c1 : ¬ cO ((n.natAbs.gcd d.natAbs : Nat) : Int) ((1 : Nat) : Int) = 0 := by
      unfold cO;split
      · omega
      · split <;> omega
    obtain⟨c, hc⟩:∃ c, c = cO ((n.natAbs.gcd d.natAbs:Nat):Int) ((1:Nat):Int) := ⟨_, rfl⟩
    rw[<- hc]at c1 ⊢;simp only[go_sem, c1, aX];rw[if_pos hg]at hK;exact au.bG aJ hcl ov2 (.lit _) (by simpa using hK)
theorem QQ {a b c d:Int}(h1:a < 0)(h2:c < 0):lU a b c d = cO ((c.natAbs * b.natAbs:Nat):Int) ((a.natAbs * d.natAbs:Nat):Int) := by
  unfold lU cO;generalize a.natAbs * d.natAbs = P;generalize c.natAbs * b.natAbs = Q
  repeat' split
  all_goals omega
theorem QR {a b c d:Int}(h1:¬ a < 0)(h2:¬ c < 0):lU a b c d = cO ((a.natAbs * d.natAbs:Nat):Int) ((c.natAbs * b.natAbs:Nat):Int) := by
  unfold lU cO;generalize a.natAbs * d.natAbs = P;generalize c.natAbs * b.natAbs = Q
  repeat' split
  all_goals omega
theorem QS {a b c d:Int}(h1:a < 0)(h2:¬ c < 0):lU a b c d = -1 := by unfold lU; rw[if_pos ⟨h1, h2⟩]
theorem QT {a b c d:Int}(h1:¬ a < 0)(h2:c < 0):lU a b c d = 1 := by unfold lU; rw[if_neg (by omega), if_pos ⟨h1, h2⟩]
set_option maxHeartbeats 1000000 in
theorem QU (a b c d : Int) (ha : iU a) (hb : iU b) (hc : iU c) (hd : iU d) (hb0 : 1 ≤ b) (hd0 : 1 ≤ d) (H : AHeap) (K : ARes → AHeap → Prop) (hK : K (.ret (.lit (.int .i64 (cO (a * d) (c * b))))) H) :
    ae Tryz.prog G0 38 [qV a b, qV c d] H K := by
  refine ae.clo ⟨_, Tryz.func38, rfl, rfl⟩ fun hcl => ?_;have la := nS ha;have lb := nS hb;have lc := nS hc;have ld := nS hd;have l1 := Cm ha hd;have l2 := Cm hc hb;rw[<- QN hb0 hd0]at hK;refine ae.aU (n := 44) (rs := [.tmp 4]) Tryz.func38 rfl rfl rfl (by decide) (by kernel_rfl) (by simp) ?_;simp only[go_sem, qV, aX];refine W.draw 12 [0, 1, 3, 0, 8, 31, 63, 0, 128, 511, 0, 1024] Tryz.mixed (by kernel_rfl) (by kernel_rfl) ?_;simp only[go_sem, aX];refine⟨_, [], bU.pure fun H2 => pf a ha H2 _ ⟨rfl, rfl⟩, ?_⟩;simp only[go_sem, aX];refine⟨_, [], bU.pure fun H2 => pf d hd H2 _ ⟨rfl, rfl⟩, ?_⟩;simp only[go_sem, aX];refine⟨_, [], bU.pure fun H2 => yk a.natAbs d.natAbs (by omega) (by omega) H2 _ ⟨rfl, rfl⟩, ?_⟩;simp only[go_sem, aX];refine⟨_, [], bU.pure fun H2 => pf c hc H2 _ ⟨rfl, rfl⟩, ?_⟩;simp only[go_sem, aX];refine aA.clo (pf b hb _ _ ⟨trivial, ?_⟩);simp only[go_sem, aX];refine aA.clo (yk c.natAbs b.natAbs (by omega) (by omega) _ _ ⟨trivial, ?_⟩);by_cases h1:a < 0
  · by_cases h2:c < 0
    · rw[QQ h1 h2]at hK;simp only[go_sem, h1, h2, aX];refine aA.clo (sf _ _ (by omega) _ _ ⟨trivial, ?_⟩);simp only[go_sem, aX];exact au.drop aJ hcl (.lit _) hK
    · rw[QS h1 h2]at hK;simp only[go_sem, h1, h2, aX];exact au.drop aJ hcl (.lit _) hK
  · by_cases h2:c < 0
    · rw[QT h1 h2]at hK;simp only[go_sem, h1, h2, aX];exact au.drop aJ hcl (.lit _) hK
    · rw[QR h1 h2]at hK;simp only[go_sem, h1, h2, aX];refine aA.clo (sf _ _ (by omega) _ _ ⟨trivial, ?_⟩);simp only[go_sem, aX];exact au.drop aJ hcl (.lit _) hK
end Go.Proofs.R01
namespace Go.Proofs
open Go.Hx
theorem DD {α:Type}{a b:List α}{k:Nat}{x:α}(h:a.take k=b.take k)(ha:a[k]?=some x)(hb:b[k]?=some x):a.take (k+1)=b.take (k+1):=by
 rw[aY ha,aY hb,h]
theorem DE {α:Type}{a b:List α}{k:Nat}(h:a.take k=b.take k)(ha:a.length<=k)(hb:b.length<=k):a=b:=by
 rw[List.take_of_length_le ha,List.take_of_length_le hb]at h;exact h
set_option maxHeartbeats 1000000 in
theorem sU (a b:List (List Int))(ha:(a.length:Int)<2 ^ 62)(har:∀ r∈a,(r.length:Int)<2 ^ 62)(H:AHeap)(K:ARes->AHeap->Prop)(hK:K (.ret (.lit (.bool (decide (a=b))))) H):ae Tryz.prog G0 26 [aK a,aK b] H K:=by
 refine ae.aU (n:=53) (rs:=[.tmp 4]) Tryz.func26 rfl rfl rfl (by decide) (by kernel_rfl) (by simp) ?_;have no:a≠b->au Tryz.prog G0 H K (.lit (.bool false)) H:=fun h=>by
  rw[decide_eq_false h]at hK;exact au.mk (Nat.le_refl _) hK
 by_cases hl:(a.length:Int)=b.length;rotate_left
 ·simp only[go_sem,aK,hl];exact no fun h=>hl (by rw[h])
 simp only[go_sem,aK,hl];refine W.aQ 9007199254737008 (by rfl) (fun ρ Hx=>Hx=H/\∃ k:Nat,ρ 5=aa k/\k<=a.length/\a.take k=b.take k) (fun ρ H=>a.length - (iv (ρ 5)).toNat) ?_ ?_
 ·simp only[go_sem];exact⟨0,rfl,by omega,rfl⟩
 rintro ρ Hx ⟨rfl,k,h5,hk,he⟩;refine ag _ _ _ (by rfl) ?_;by_cases hb:(k:Int)<a.length;rotate_left
 ·simp only[go_sem,h5,hl];have hab:a=b:=DE he (by omega) (by omega);rw[decide_eq_true hab]at hK;have hb2:¬ (k:Int)<b.length:=by omega
  simp only[go_sem,hb2];exact au.mk (Nat.le_refl _) hK
 obtain⟨x,hx⟩:=aw (l:=a) (i:=k) (by omega);obtain⟨y,hy⟩:=aw (l:=b) (i:=k) (by omega);have hx':(a.map aj)[k]?=some (aj x):=by rw[List.getElem?_map,hx];rfl
 have hy':(b.map aj)[k]?=some (aj y):=by rw[List.getElem?_map,hy];rfl
 have hxn:=aP hx;have hyn:=aP hy;have hb2:(k:Int)<b.length:=by omega
 have hxr:=har x (List.mem_of_getElem? hx);have w1:=IntWalk.i64_in ((k:Int)+1) (by omega);have nxy:x≠y->a≠b:=fun h e=>h (by subst e;rw[hx]at hy;exact Option.some.inj hy);simp only[go_sem,h5,hl,hb2];refine W.draw 10 [0,0,3,7,15,0,0,96,224,480] Tryz.mixed (by kernel_rfl) (by kernel_rfl) ?_;by_cases hxy:(x.length:Int)=y.length;rotate_left
 ·simp only[go_sem,h5,hb,hb2,hx',hy',hxn,hyn,hxy];exact no (nxy fun e=>hxy (by rw[e]))
 simp only[go_sem,h5,hb,hb2,hx',hy',hxn,hyn,hxy];refine W.aQ 9007198717870160 (by rfl) (fun ρ2 Hz=>Hz=Hx/\∃ j:Nat,ρ2 6=aa j/\j<=x.length/\x.take j=y.take j) (fun ρ2 H=>x.length - (iv (ρ2 6)).toNat) ?_ ?_
 ·simp only[go_sem];exact⟨0,rfl,by omega,rfl⟩
 rintro ρ2 Hz ⟨rfl,j,h6,hj,he2⟩;refine ag _ _ _ (by rfl) ?_;by_cases hc:(j:Int)<y.length;rotate_left
 ·simp only[go_sem,h5,h6,hb,hx',hxn,hxy,hc,w1];have hxy2:x=y:=DE he2 (by omega) (by omega);exact⟨⟨k+1,by simp,by omega,DD he hx (by rw[hxy2];exact hy)⟩,by omega⟩
 obtain⟨u,hu⟩:=aw (l:=x) (i:=j) (by omega);obtain⟨v,hv⟩:=aw (l:=y) (i:=j) (by omega);have hun:=aP hu;have hvn:=aP hv;have hc2:(j:Int)<x.length:=by omega
 have w2:=IntWalk.i64_in ((j:Int)+1) (by omega);simp only[go_sem,h5,h6,hb,hx',hxn,hxy,hc];refine W.draw 14 [0,0,3,7,0,31,63,0,0,384,896,0,3968,8064] Tryz.mixed (by kernel_rfl) (by kernel_rfl) ?_;by_cases huv:u=v
 ·subst huv;simp only[go_sem,h5,h6,hb,hb2,hx',hy',hxn,hyn,hxy,hc,hu,hv,hun,hvn,w2];exact⟨⟨j+1,by simp,by omega,DD he2 hu hv⟩,by omega⟩
 ·simp only[go_sem,h5,h6,hb,hb2,hx',hy',hxn,hyn,hxy,hc,hu,hv,hun,hvn,huv];exact no (nxy fun e=>huv (by subst e;rw[hu]at hv;exact Option.some.inj hv))
end Go.Proofs
namespace Go.Proofs
open Go.Hx
structure RatF (S D a b g:Int):Prop where
 g1:1<=g
 n:a*g=S
 d:b*g=D
 b1:1<=b
 cop:Int.gcd a b=1
theorem vu {S D:Int}(hD:1<=D):∃ a b g:Int,fF S D=.agg [.lit (.int .i64 a),.lit (.int .i64 b)]/\RatF S D a b g:=by
 obtain⟨G,hG⟩:∃ G,G=Int.gcd S D:=⟨_,rfl⟩
 have g0:0<G:=by rw[hG];exact Int.gcd_pos_of_ne_zero_right _ (by omega)
 obtain⟨a,ha⟩:(G:Int) ∣ S:=by rw[hG];exact Int.gcd_dvd_left ..
 obtain⟨b,hb⟩:(G:Int) ∣ D:=by rw[hG];exact Int.gcd_dvd_right ..
 have gne:(G:Int)≠0:=by omega
 have hgc:G=G*Int.gcd a b:=by
  have h:=Int.gcd_mul_left (G:Int) a b;rw[<- ha,<- hb,<- hG,Int.natAbs_natCast]at h;exact h
 have hc:Int.gcd a b=1:=by
  have:G*1=G*Int.gcd a b:=by omega
  exact(Nat.eq_of_mul_eq_mul_left g0 this).symm
 have hb1:1<=b:=by
  rcases Int.lt_or_le b 1 with h|h
  ·have:(G:Int)*b<=(G:Int)*0:=Int.mul_le_mul_of_nonneg_left (by omega) (by omega);omega
  ·exact h
 refine⟨a,b,G,?_,by omega,by rw[Int.mul_comm];exact ha.symm,by rw[Int.mul_comm];exact hb.symm,hb1,hc⟩;unfold fF;rw[<- hG];have e1:S.tdiv (G:Int)=a:=by rw[ha];exact Int.mul_tdiv_cancel_left a gne
 have e2:D.tdiv (G:Int)=b:=by rw[hb];exact Int.mul_tdiv_cancel_left b gne
 rw[e1,e2]
theorem RatF.bound {S D a b g:Int}(h:RatF S D a b g):a.natAbs<=S.natAbs/\b<=D:=by
 have h1:S.natAbs=a.natAbs*g.natAbs:=by rw[<- h.n,Int.natAbs_mul]
 have h2:D.natAbs=b.natAbs*g.natAbs:=by rw[<- h.d,Int.natAbs_mul]
 have hg:0<g.natAbs:=by have:=h.g1;omega
 have l1:=Nat.le_mul_of_pos_right a.natAbs hg;have l2:=Nat.le_mul_of_pos_right b.natAbs hg;have l3:b.natAbs<=D.natAbs:=by omega
 have hb:=h.b1;have hD:0<=D:=by rw[<- h.d];exact Int.mul_nonneg (by omega) (by have:=h.g1;omega)
 omega
theorem DF {x y m:Int}(hm:1<=m):R01.cO (x*m) (y*m)=R01.cO x y:=by
 have h1:x*m<y*m↔x<y:=Int.mul_lt_mul_right (by omega);have h2:x*m=y*m↔x=y:=⟨fun h=>Int.eq_of_mul_eq_mul_right (by omega) h,fun h=>by rw[h]⟩
 unfold R01.cO;simp only[h1,h2]
theorem RatF.cmp {S1 S2 D a1 b1 g1 a2 b2 g2:Int}(hD:1<=D)(h1:RatF S1 D a1 b1 g1)(h2:RatF S2 D a2 b2 g2):R01.cO (a1*b2) (a2*b1)=R01.cO S1 S2:=by
 have hg:1<=g1*g2:=by
  have:=Int.mul_le_mul h1.g1 h2.g1 (by omega) (by have:=h1.g1;omega);omega
 rw[<- DF hg,<- DF (x:=S1) (y:=S2) hD];congr 1
 ·rw[<- h1.n,<- h2.d];simp only[Int.mul_assoc,Int.mul_comm,Int.mul_left_comm]
 ·rw[<- h2.n,<- h1.d];simp only[Int.mul_assoc,Int.mul_comm,Int.mul_left_comm]
theorem RatF.check {S D a b g:Int}(h:RatF S D a b g)(hS:S.natAbs<=4611686018427387903)(hD:D<=4611686018427387903):R01.lT a b=0:=by
 have hb:=h.bound;have:=h.b1;unfold R01.lT R01.sT;rw[if_neg (by omega),if_neg (by rw[h.cop];simp)]
theorem yU {x:InfP}(hok:InfOk x):1<=x.grain ^ x.nodes.length/\x.grain ^ x.nodes.length<=167961600000000:=by
 have hg:=hok.net.g1;refine⟨Int.pow_pos (by omega),?_⟩;have h1:=nE (b:=60) (by omega) (l:=List.replicate x.nodes.length x.grain) fun c hc=>by rw[List.eq_of_mem_replicate hc];omega
 rw[List.length_replicate]at h1;have h2:=sE x.nodes.length (by have:=hok.n.n1;omega);have h3:∀ k:Nat,aq (List.replicate k x.grain)=x.grain ^ k:=fun k=>by
  induction k with
  | zero=>rw[List.replicate_zero,ia,Int.pow_zero]
  | succ k ih=>rw[List.replicate_succ,iA,ih,Int.pow_succ,Int.mul_comm]
 rw[h3]at h1;omega
end Go.Proofs
namespace Go.Proofs
open Go.Hx
theorem Qh {S:Nat->Prop}{lo nx:Nat}{H:AHeap}{e1 e0:TypeId}{v:AVal}{ids:List Nat}{p:List (List Int)}(h:OwnM lo H e1 e0 v ids (p.map ints))(hS:∀ i,lo<=i->S i):Fz S H nx v (aK p):=by
 have:=h.fz (S:=S) (nx:=nx) hS fun r hr c hc=>by
  obtain⟨q,_,rfl⟩:=List.mem_map.1 hr;obtain⟨a,_,rfl⟩:=List.mem_map.1 hc;exact .lit _
 rw[List.length_map,List.map_map]at this;have e:(p.map ((fun r:List AVal=>AVal.vec r.length r) ∘ ints))=p.map aj:=List.map_congr_left fun r _=>by
  show AVal.vec (ints r).length (ints r)=aj r;rw[aT];rfl
 rw[e]at this;exact this
def Dr (d:InfP)(lvh:AVal)(tot:Int):List AVal:=[.lit (.int .i64 d.grain),.vec d.nodes.length (aC d.nodes),.lit (.int .u64 (d.decs:Int)),.vec d.utils.length (aV d.utils),lvh,aj (dp d),aj (df d),.lit (.int .i64 tot)]
theorem Ds {d:InfP}{s:Nat}{lvh:AVal}{tot:Int}(hok:InfOk d)(ht:-1000000000000000000<=tot/\tot<=1000000000000000000)(hw:1<=d.grain ^ d.nodes.length/\d.grain ^ d.nodes.length<=1000000000000000000)(H:AHeap)(hs:H.get s=some (.arr 0 130 (Dr d lvh tot)))(hl:s<H.next)(K:ARes->AHeap->Prop)(hK:K (.ret (fF tot (d.grain ^ d.nodes.length))) H):
  ae Tryz.prog G0 48 [.ptr s 0 0] H K:=by
 refine ae.clo ⟨_,Tryz.func48,rfl,rfl⟩ fun hcl=>?_;have n8:=hok.n.n1;have hg:=hok.net.g1;refine ae.d7 (n:=20) (rs:=[.cell 2 41]) Tryz.func48 rfl rfl rfl (by decide) (by simp) ?_;refine W.seq (ag _ _ _ (by rfl) ?_);simp only[go_sem];obtain⟨H1,hH1⟩:∃ H1,H1=ext H [.arr 0 41 [.lit (.int .i64 0),.lit (.int .i64 0)]]:=⟨_,rfl⟩
 have g1:H1.get H.next=some (.arr 0 41 [.lit (.int .i64 0),.lit (.int .i64 0)]):=by rw[hH1];exact bJ
 have o1:Over H H1:=by rw[hH1];exact .ext _ _
 rw[<- hH1];clear hH1;have l1:=af g1;have ls:=af ((o1.old s hl).trans hs);unfold Dr at ls;refine W.seq ?_;refine W.draw 16 [0,1,3,7,0,16,48,112,240,0,512,1536,3584,7680,15872,32752] Tryz.mixed (by kernel_rfl) (by kernel_rfl) ?_;simp only[go_sem,ls];refine⟨_,[],bU.pure fun H2=>CK d.grain d.nodes.length hg (by omega) H2 _ ⟨rfl,rfl⟩,?_⟩;refine aA.clo (CL tot (d.grain ^ d.nodes.length) (by omega) (by omega) H1 _ ⟨trivial,?_⟩);unfold fF at hK ⊢;simp only[go_sem,l1];obtain⟨H2,hH2⟩:∃ H2,H2=H1.upd H.next (.arr 0 41 [.lit (.int .i64 (tot.tdiv (Int.gcd tot (d.grain ^ d.nodes.length):Int))),.lit (.int .i64 ((d.grain ^ d.nodes.length).tdiv (Int.gcd tot (d.grain ^ d.nodes.length):Int)))]):=⟨_,rfl⟩
 have o2:Over H H2:=by rw[hH2];exact Over.upd (id:=H.next) o1 (Nat.le_refl _) _
 have l2:H2.live H.next 0=_:=af (show H2.get H.next=_ by rw[hH2,ah,if_pos rfl]);rw[<- hH2];refine ag _ _ _ (by rfl) ?_;simp only[go_sem,l2];refine au.bG aJ hcl o2 (.agg rfl fun i hi _=>?_) hK
 match i,hi with
 | 0,_=>exact .lit _
 | 1,_=>exact .lit _
theorem Qi {d:InfP}{r:List Nat}{lo s:Nat}{lvh:AVal}{I:Nat->Nat->Nat}{T:TabS}{tot:Int}(hok:InfOk d)(ht:-1000000000000000000<=tot/\tot<=1000000000000000000)(hw:1<=d.grain ^ d.nodes.length/\d.grain ^ d.nodes.length<=1000000000000000000)(H:AHeap)(hS:SolvH d r lo s lvh I T tot H)(K:ARes->AHeap->Prop)(hK:∀ H',Over H H'->K (.ret (fF tot (d.grain ^ d.nodes.length))) H'):
  ae Tryz.prog G0 48 [.ptr s 0 0] H K :=
 Ds hok ht hw H hS.top hS.slo.2 K (hK H (.refl _))
theorem vj (d:InfP)(hf:InfFit d)(h6:d.nodes.length<=6)(H:AHeap)(K:ARes->AHeap->Prop)
  (hE:cU d=4->K (.ret (.tup [.lit (.slice none 0 0),.agg [aa 0,aa 0],aa 210])) H)
  (hE2:cU d≠4->cU d≠0->K (.ret (.tup [.lit (.slice none 0 0),.agg [aa 0,aa 0],aa (cU d)])) H)
  (hK:∀ r,fZ d=some r->InfOk d->OrdR d r->K (.ret (.tup [aK (eA d r),fF (iH d r) (d.grain ^ d.nodes.length),aa 0])) H):
  ae Tryz.prog G0 11 [dD d] H K:=by
 refine ae.clo ⟨_,Tryz.func11,rfl,rfl⟩ fun hcl=>?_;refine ae.d7 (n:=20) (rs:=[.tmp 2,.cell 3 41,.tmp 4]) Tryz.func11 rfl rfl rfl (by decide) (by simp) ?_;refine W.seq (ag _ _ _ (by rfl) ?_);simp only[go_sem,gR,bD];obtain⟨H1,hH1⟩:∃ H1,H1=ext H [.arr 0 38 [.lit (.int .i64 d.grain),.vec d.nodes.length (aC d.nodes),.lit (.int .u64 (d.decs:Int)),.vec d.utils.length (aV d.utils)],.arr 0 41 [.lit (.int .i64 0),.lit (.int .i64 0)]]:=⟨_,rfl⟩
 have g1:H1.get H.next=some (.arr 0 38 [.lit (.int .i64 d.grain),.vec d.nodes.length (aC d.nodes),.lit (.int .u64 (d.decs:Int)),.vec d.utils.length (aV d.utils)]):=by rw[hH1];exact cq ..
 have g2:H1.get (H.next+1)=some (.arr 0 41 [.lit (.int .i64 0),.lit (.int .i64 0)]):=by rw[hH1];exact ba H _ 1 (by simp)
 have n1:H1.next=H.next+2:=by rw[hH1];rfl
 have o1:Over H H1:=by rw[hH1];exact .ext _ _
 rw[<- hH1];clear hH1;have l1:=af g1;refine W.seq (ag _ _ _ (by rfl) ?_);simp only[go_sem,l1];have zero:∀ (H2:AHeap) (e:Int),Over H1 H2->K (.ret (.tup [.lit (.slice none 0 0),.agg [aa 0,aa 0],aa e])) H->au Tryz.prog G0 H K (.tup [.lit (.slice none 0 0),.agg [aa 0,aa 0],aa e]) (H2.upd (H.next+1) (.arr 0 41 [aa 0,aa 0])):=fun H2 e ho hk=>by
  refine au.bG aJ hcl (Over.upd (id:=H.next+1) (o1.trans ho) (Nat.le_succ _) _) (.tup rfl fun i hi _=>?_) hk
  match i,hi with
  | 0,_=>exact .lit _
  | 1,_ =>
   refine .agg rfl fun i hi _=>?_
   match i,hi with
   | 0,_=>exact .lit _
   | 1,_=>exact .lit _
  | 2,_=>exact .lit _
 refine aA.clo (Da d hf h6 H1 _ (fun H2 ho he=>⟨trivial,?_⟩) (fun H2 ho he he2=>⟨trivial,?_⟩) fun r s lvh I H2 hr hok ho hS hnil=>⟨trivial,?_⟩)
 ·have g2':=af ((ho.old _ (by omega)).trans g2);simp only[go_sem];refine W.seq (ag _ _ _ (by rfl) ?_);simp only[go_sem,g2'];exact zero H2 210 ho (hE he)
 ·have g2':=af ((ho.old _ (by omega)).trans g2);simp only[go_sem];refine W.seq (ag _ _ _ (by rfl) ?_);simp only[go_sem,he2,g2'];exact zero H2 (cU d) ho (hE2 he he2)
 simp only[go_sem];refine W.seq (ag _ _ _ (by rfl) ?_);simp only[go_sem];obtain⟨hPo,hT,_⟩:=uR hok (nU hr);have hro:=nU hr;have hrl:r.length<=12:=by
  have h1:=C8 _ _ _ _ hr;have h2:(aO d).length<=d.nodes.length:=mv;simp at h1;omega
 have hb:=uF h6 (eA d r) hok hPo _ (Nat.le_refl _);have hsum:ic (cJ d (fixC (eA d r))) d.utils (bL d.nodes)=iH d r:=by rw[<- hT];exact uw hok hPo
 rw[hsum]at hb;have htot:iZ (ar d r) 0=iH d r:=if_pos (.inr rfl);rw[htot]at hS;have hK:=hK r hr hok hro;have hsl:=hS.slo;refine ag _ _ _ (by rfl) ?_;simp only[go_sem];refine aA.clo (choose_spec hok hro hrl (by omega) H2 hS hnil _ fun v ids T' H3 n3 o3 hS3 hM=>⟨trivial,?_⟩);simp only[go_sem];refine aA.clo (Qi hok hb (by have:=yU hok;omega) H3 hS3 _ fun H4 o4=>⟨trivial,?_⟩);have k4:∀ i,i<H1.next->H4.get i=H1.get i:=fun i h=>by
  rw[o4.old i (by have:=ho.next;omega),o3 i (by have:=ho.next;omega) (by omega) fun k j h1 h2=>by have:=(hS.levs.rng k j h1 h2).1;omega];exact ho.old i h
 have l4:=af ((k4 _ (by omega)).trans g2);unfold fF at hK ⊢;simp only[go_sem,l4];have o5:Over H H4:=⟨by have:=o4.next;have:=ho.next;omega,fun i h=>(k4 i (by omega)).trans (o1.old i h)⟩
 have hM4:=hM.keep (H':=H4) o4.next fun i _ h=>o4.old i h;have hM5:∀ b,OwnM H1.next (H4.upd (H.next+1) b) 46 3 v ids ((eA d r).map ints):=fun b=>hM4.keep (by rw[aD];exact Nat.le_refl _) fun i h _=>by rw[ah,if_neg (by omega)]
 refine au.bG (v':=.tup [aK (eA d r),_,aa 0]) aJ hcl (Over.upd (id:=H.next+1) o5 (Nat.le_succ _) _) (.tup rfl fun i hi _=>?_) hK
 match i,hi with
 | 0,_=>exact Qh (hM5 _) fun i h=>by omega
 | 1,_ =>
  refine .agg rfl fun i hi _=>?_
  match i,hi with
  | 0,_=>exact .lit _
  | 1,_=>exact .lit _
 | 2,_=>exact .lit _
end Go.Proofs
namespace Go.Proofs
open Go.Hx
theorem Qj {S1 S2 D a1 b1 g1 a2 b2 g2:Int}(e1:fF S1 D=.agg [.lit (.int .i64 a1),.lit (.int .i64 b1)])(h1:RatF S1 D a1 b1 g1)(e2:fF S2 D=.agg [.lit (.int .i64 a2),.lit (.int .i64 b2)])(h2:RatF S2 D a2 b2 g2):(a1 == a2 && b1 == b2)=decide (S1=S2):=by
 by_cases h:S1=S2
 ·subst h;rw[e1]at e2;injection e2 with e2
  injection e2 with p q
  injection q with q _
  injection p with p
  injection q with q
  injection p with _ p
  injection q with _ q
  rw[p,q];simp
 ·rw[decide_eq_false h];by_cases ha:a1=a2
  ·by_cases hb:b1=b2
   ·exfalso;subst ha hb;have:b1*g1=b1*g2:=(by rw[h1.d,h2.d]);have:=Int.eq_of_mul_eq_mul_left (by have:=h1.b1;omega) this;exact h (by rw[<- h1.n,<- h2.n,this])
   ·simp [hb]
  ·simp [ha]
theorem yS (d:InfP)(hf:InfFit d)(h6:d.nodes.length<=6)(p:List (List Int))(hp:py p)(H:AHeap)(K:ARes->AHeap->Prop)
  (hE:cU d=4->K (.ret (.tup [.lit (.bool false),aa 210])) H)
  (hE2:cU d≠4->cU d≠0->K (.ret (.tup [.lit (.bool false),aa (cU d)])) H)
  (hP:cU d=0->eG d p≠0->K (.ret (.tup [.lit (.bool false),aa (eG d p)])) H)
  (hK:∀ r,fZ d=some r->InfOk d->OrdR d r->PolOk d p->K (.ret (.tup [.lit (.bool (decide (fG d p=iH d r))),aa 0])) H):
  ae Tryz.prog G0 15 [dD d,aK p] H K:=by
 refine ae.clo ⟨_,Tryz.func15,rfl,rfl⟩ fun hcl=>?_;have two:∀ (b:Bool) (e:Int),Fz (fun id=>H.next<=id) H H.next (.tup [.lit (.bool b),aa e]) (.tup [.lit (.bool b),aa e]):=fun b e=>.tup rfl fun i hi _=>match i,hi with
  | 0,_=>.lit _
  | 1,_=>.lit _
 refine ae.d7 (n:=30) (rs:=[.tmp 4,.tmp 5]) Tryz.func15 rfl rfl rfl (by decide) (by simp) ?_;refine W.seq (ag _ _ _ (by rfl) ?_);simp only[go_sem,gR,bD];obtain⟨H1,hH1⟩:∃ H1,H1=ext H [.arr 0 38 [.lit (.int .i64 d.grain),.vec d.nodes.length (aC d.nodes),.lit (.int .u64 (d.decs:Int)),.vec d.utils.length (aV d.utils)]]:=⟨_,rfl⟩
 have g1:H1.get H.next=some (.arr 0 38 [.lit (.int .i64 d.grain),.vec d.nodes.length (aC d.nodes),.lit (.int .u64 (d.decs:Int)),.vec d.utils.length (aV d.utils)]):=by rw[hH1];exact cq ..
 have n1:H1.next=H.next+1:=by rw[hH1];rfl
 have o1:Over H H1:=by rw[hH1];exact .ext _ _
 rw[<- hH1];clear hH1;have l1:=af g1;have fin:∀ (H2:AHeap) (b:Bool) (e:Int),Over H H2->K (.ret (.tup [.lit (.bool b),aa e])) H->au Tryz.prog G0 H K (.tup [.lit (.bool b),aa e]) H2:=fun H2 b e ho hk=>by
  refine au.bG aJ hcl ho (.tup rfl fun i hi _=>?_) hk
  match i,hi with
  | 0,_=>exact .lit _
  | 1,_=>exact .lit _
 refine W.seq (ag _ _ _ (by rfl) ?_);simp only[go_sem,l1];refine aA.clo (Da d hf h6 H1 _ (fun H2 ho he=>⟨trivial,?_⟩) (fun H2 ho he he2=>⟨trivial,?_⟩) fun r s lvh I H2 hr hok ho hS hnil=>⟨trivial,?_⟩)
 ·simp only[go_sem];refine W.seq (ag _ _ _ (by rfl) ?_);simp only[go_sem];exact fin H2 false 210 (o1.trans ho) (hE he)
 ·simp only[go_sem];refine W.seq (ag _ _ _ (by rfl) ?_);simp only[go_sem,he2];exact fin H2 false (cU d) (o1.trans ho) (hE2 he he2)
 have l2:=af ((ho.old _ (by omega)).trans g1);have hro:=nU hr;have re:cU d=0:=by unfold cU;rw[dM hok,hr];rfl
 simp only[go_sem];refine W.seq (ag _ _ _ (by rfl) ?_);simp only[go_sem];refine W.seq (ag _ _ _ (by rfl) ?_);simp only[go_sem,l2];refine aA.clo (yl d hf p hp (uF h6 p) _ _ ⟨trivial,?_⟩);by_cases hpe:eG d p=0;rotate_left
 ·have hv:mE d p=.agg [.lit (.int .i64 0),.lit (.int .i64 0)]:=if_neg hpe;rw[hv];simp only[go_sem];refine W.seq (ag _ _ _ (by rfl) ?_);simp only[go_sem,hpe];exact fin _ false (eG d p) ((o1.trans ho).trans (.ext _ _)) (hP re hpe)
 have hpo:=(yF.1 hpe).2;have gp:=yU hok;obtain⟨D,hD⟩:∃ D,D=d.grain ^ d.nodes.length:=⟨_,rfl⟩
 rw[<- hD]at gp;obtain⟨ua,ub,ug,hu,huF⟩:=vu (S:=fG d p) (D:=D) gp.1;obtain⟨va,vb,vg,hv,hvF⟩:=vu (S:=iH d r) (D:=D) gp.1;rw[hpe,BZ hok hpo,<- hD,hu];simp only[go_sem];obtain⟨H3,hH3⟩:∃ H3,H3=ext H2 [.arr 0 41 [.lit (.int .i64 ua),.lit (.int .i64 ub)]]:=⟨_,rfl⟩
 have g3:H3.get H2.next=some (.arr 0 41 [.lit (.int .i64 ua),.lit (.int .i64 ub)]):=by rw[hH3];exact bJ
 have o3:Over H2 H3:=by rw[hH3];exact .ext _ _
 rw[<- hH3];clear hH3;have l3:=af g3;have hS3:=hS.keep (H':=H3) o3.next fun i _ h=>o3.old i h;obtain⟨hPo,hT,_⟩:=uR hok hro;have hb:=uF h6 (eA d r) hok hPo _ (Nat.le_refl _);have hsum:ic (cJ d (fixC (eA d r))) d.utils (bL d.nodes)=iH d r:=by rw[<- hT];exact uw hok hPo
 rw[hsum]at hb;have htot:iZ (ar d r) 0=iH d r:=if_pos (.inr rfl);rw[htot]at hS3;have hK:=hK r hr hok hro hpo;rw[<- Qj hu huF hv hvF]at hK;refine W.seq (ag _ _ _ (by rfl) ?_);simp only[go_sem];refine W.seq ?_;refine W.draw 3 [0,0,2] Tryz.mixed (by kernel_rfl) (by kernel_rfl) ?_;simp only[go_sem,l3];refine⟨_,[s],bU.mk (fun i hi=>by obtain rfl:=List.mem_singleton.1 hi;exact hS3.slo.2) fun H4 h4 h4n=>Ds hok hb (by rw[<- hD];omega) H4 ((h4 s (by simp)).trans hS3.top) (by have:=hS3.slo;omega) _ ⟨rfl,rfl⟩,?_⟩;rw[<- hD,hv];simp only[go_sem,xw];refine ag _ _ _ (by rfl) ?_;simp only[go_sem];exact fin _ _ 0 ((o1.trans ho).trans o3) hK
end Go.Proofs
namespace Go.Proofs
open Go.Hx
theorem RB (d : InfP) (hok : InfOk d) (hf : InfFit d) (p : List (List Int)) (hp : PolOk d p) (hpf : py p) (v0 : Nat) (h0 : v0<d.nodes.length) (hb : d.decs.testBit v0=false)
    (H:AHeap) (K:ARes->AHeap->Prop) (hK:K (.ret (.tup [.lit (.slice none 0 0),aa 2])) H):ae Tryz.prog G0 23 [dD d,aK p,aa v0] H K:=by
  refine ae.clo ⟨_,Tryz.func23,rfl,rfl⟩ fun hcl=>?_;have n8:=hok.n.n1;have hD:=hf.decs;refine ae.aU (n:=74) (rs:=[.tmp 6,.tmp 7]) Tryz.func23 rfl rfl rfl (by decide) (by kernel_rfl) (by simp) ?_;simp only[go_sem,gR,bD,aX];refine aA.clo (yE d hf p hpf _ _ ⟨trivial,?_⟩);rw[oX hok hp];have c1:¬ (v0:Int)<0:=by omega
  have c2:¬ (v0:Int) >= d.nodes.length:=by omega
  have s1:=fun t x y=>lV (P:=Tryz.prog) (t:=t) (x:=x) (y:=y) (k':=.i64) (s:=v0) hD;have s2:=fun t x y=>mU (P:=Tryz.prog) (t:=t) (x:=x) (y:=y) (s:=v0) hD;simp only[go_sem,c1,c2,s1,s2,hb,aX];refine au.drop aJ hcl (.tup rfl fun i hi _=>?_) hK
  match i,hi with
  | 0,_=>exact .lit _
  | 1,_=>exact .lit _
theorem q7 {H:AHeap}{n nx:Nat}(hn:n<=H.next){a:List Int}{e1 e0:TypeId}:Fz (fun id=>n<=id) (ext H [.arr 0 e0 (ints a),.arr 0 e1 [.own H.next 0 0 a.length 1]]) nx (.own (H.next+1) 0 0 1 1) (aK [a]) :=
  FzL.own (by omega) (ba H _ 1 (by simp)) rfl (.cons (FzL.own hn (cq ..) (by rw[aT,Nat.mul_one]) (zl a)) .nil)
theorem vO {H:AHeap}{n nx:Nat}(hn:n<=H.next){a b:List Int}{e1 e0:TypeId}:Fz (fun id=>n<=id) (ext H [.arr 0 e0 (ints a),.arr 0 e0 (ints b),.arr 0 e1 [.own H.next 0 0 a.length 1,.own (H.next+1) 0 0 b.length 1]]) nx (.own (H.next+2) 0 0 2 1) (aK [a,b]) :=
  FzL.own (by omega) (ba H _ 2 (by simp)) rfl (.cons (FzL.own hn (cq ..) (by rw[aT,Nat.mul_one]) (zl a)) (.cons (FzL.own (by omega) (ba H _ 1 (by simp)) (by rw[aT,Nat.mul_one]) (zl b)) .nil))
set_option maxHeartbeats 4000000 in
theorem RC (H:AHeap)(K:ARes->AHeap->Prop)(hK:K (.ret (.lit (.bool true))) H):ae Tryz.prog G0 21 [] H K:=by
  refine ae.clo ⟨_,Tryz.func21,rfl,rfl⟩ fun hcl=>?_;have fA:=uE kP;have fE:=uE pF;have fN:=uE DU;have rA:∀ r,fZ dA=some r->[1]=r:=fun r h=>Option.some.inj (zh.symm.trans h);have rE:∀ r,fZ dE=some r->[0,2]=r:=fun r h=>Option.some.inj (zj.symm.trans h);refine ae.d7 (n:=173) (rs:=[.tmp 0]) Tryz.func21 rfl rfl rfl (by decide) (by simp) ?_;refine W.seq (ag _ _ _ (by rfl) ?_);simp only[go_sem,aX];refine W.seq (ag _ _ _ (by rfl) ?_);simp only[go_sem,aX];refine aA.clo (Rz _ _ ⟨trivial,?_⟩);simp only[go_sem,aX];refine aA.clo (RA _ _ ⟨trivial,?_⟩);simp only[go_sem,gR,bD,aX];obtain⟨H1,hH1⟩:∃ H1,H1=ext H [.arr 0 38 [.lit (.int .i64 dA.grain),.vec dA.nodes.length (aC dA.nodes),.lit (.int .u64 (dA.decs:Int)),.vec dA.utils.length (aV dA.utils)],.arr 0 38 [.lit (.int .i64 dE.grain),.vec dE.nodes.length (aC dE.nodes),.lit (.int .u64 (dE.decs:Int)),.vec dE.utils.length (aV dE.utils)]]:=⟨_,rfl⟩
  have g1:H1.get H.next=some (.arr 0 38 [.lit (.int .i64 dA.grain),.vec dA.nodes.length (aC dA.nodes),.lit (.int .u64 (dA.decs:Int)),.vec dA.utils.length (aV dA.utils)]):=by rw[hH1];exact cq ..
  have g2:H1.get (H.next+1)=some (.arr 0 38 [.lit (.int .i64 dE.grain),.vec dE.nodes.length (aC dE.nodes),.lit (.int .u64 (dE.decs:Int)),.vec dE.utils.length (aV dE.utils)]):=by rw[hH1];exact ba H _ 1 (by simp)
  have n1:H1.next=H.next+2:=by rw[hH1];rfl
  have o1:Over H H1:=by rw[hH1];exact .ext _ _
  rw[<- hH1];clear hH1;have l1:=af g1;refine W.seq (ag _ _ _ (by rfl) ?_);simp only[go_sem,l1,aX];refine aA.clo (vj dA fA (by decide) H1 _ (fun he=>absurd (qZ.symm.trans he) (by decide)) (fun _ he=>absurd qZ he) fun r hr _ _=>⟨trivial,?_⟩);rw[<- rA r hr,Rm,zk,Rk];simp only[go_sem,aX];obtain⟨H2,hH2⟩:∃ H2,H2=ext H1 [.arr 0 41 [.lit (.int .i64 33),.lit (.int .i64 4)]]:=⟨_,rfl⟩
  have q1:H2.get H1.next=some (.arr 0 41 [.lit (.int .i64 33),.lit (.int .i64 4)]):=by rw[hH2];exact bJ
  have n2:H2.next=H1.next+1:=by rw[hH2];rfl
  have o2:Over H1 H2:=by rw[hH2];exact .ext _ _
  rw[<- hH2];clear hH2;have l2:=af ((o2.old _ (by omega)).trans g2);refine W.seq (ag _ _ _ (by rfl) ?_);simp only[go_sem,l2,aX];refine aA.clo (vj dE fE (by decide) H2 _ (fun he=>absurd (vM.symm.trans he) (by decide)) (fun _ he=>absurd vM he) fun r hr _ _=>⟨trivial,?_⟩);rw[<- rE r hr,Rn,D0,Rl];simp only[go_sem,aX];obtain⟨H3,hH3⟩:∃ H3,H3=ext H2 [.arr 0 41 [.lit (.int .i64 4),.lit (.int .i64 1)]]:=⟨_,rfl⟩
  have q2:H3.get H2.next=some (.arr 0 41 [.lit (.int .i64 4),.lit (.int .i64 1)]):=by rw[hH3];exact bJ
  have n3:H3.next=H2.next+1:=by rw[hH3];rfl
  have o3:Over H1 H3:=by rw[hH3];exact o2.trans (.ext _ _)
  have q1:H3.get H1.next=some (.arr 0 41 [.lit (.int .i64 33),.lit (.int .i64 4)]):=by rw[hH3,bC (by omega)];exact q1
  rw[<- hH3];clear hH3;have g1:=(o3.old _ (by omega)).trans g1;have g2:=(o3.old _ (by omega)).trans g2;have l1:=af g1;have l2:=af g2;refine W.seq (ag _ _ _ (by rfl) ?_);simp only[go_sem,l1,aX]
  repeat (refine⟨by decide,?_⟩)
  refine aA.ja aJ (.ext H3 _) (.cons (qY dA) (.cons (q7 (a:=[1,0]) (Nat.le_refl _)) .nil)) fun H4 o4=>yS dA fA (by decide) [[1,0]] (nM kP DW) _ _ (fun he=>absurd (qZ.symm.trans he) (by decide)) (fun _ he=>absurd qZ he) (fun _ he=>absurd (oX kP DW) he) fun r hr _ _ _=>⟨trivial,?_⟩
  rw[<- rA r hr,zk,Ro];have l1:=af ((o4.old _ (by omega)).trans g1);simp only[go_sem,aX];refine W.seq (ag _ _ _ (by rfl) ?_);simp only[go_sem,l1,aX]
  repeat (refine⟨by decide,?_⟩)
  refine aA.ja aJ (o4.trans (.ext H4 _)) (.cons (qY dA) (.cons (q7 (a:=[1,1]) o4.next) .nil)) fun H5 o5=>yS dA fA (by decide) [[1,1]] (nM kP DX) _ _ (fun he=>absurd (qZ.symm.trans he) (by decide)) (fun _ he=>absurd qZ he) (fun _ he=>absurd (oX kP DX) he) fun r hr _ _ _=>⟨trivial,?_⟩
  rw[<- rA r hr,zk,decide_eq_false Rp];have l2:=af ((o5.old _ (by omega)).trans g2);simp only[go_sem,aX];refine W.seq (ag _ _ _ (by rfl) ?_);simp only[go_sem,l2,aX]
  repeat (refine⟨by decide,?_⟩)
  refine aA.ja aJ (o5.trans (.ext H5 _)) (.cons (qY dE) (.cons (vO (a:=[1]) (b:=[1,1,1,0]) o5.next) .nil)) fun H6 o6=>yS dE fE (by decide) [[1],[1,1,1,0]] (nM pF DY) _ _ (fun he=>absurd (vM.symm.trans he) (by decide)) (fun _ he=>absurd vM he) (fun _ he=>absurd (oX pF DY) he) fun r hr _ _ _=>⟨trivial,?_⟩
  rw[<- rE r hr,D0,Rq];have l1:=af ((o6.old _ (by omega)).trans g1);simp only[go_sem,aX];refine W.seq (ag _ _ _ (by rfl) ?_);simp only[go_sem,l1,aX]
  repeat (refine⟨by decide,?_⟩)
  refine aA.ja aJ (o6.trans (.ext H6 _)) (.cons (qY dA) (.cons (q7 (a:=[0,0]) o6.next) (.cons (.lit _) .nil))) fun H7 o7=>DO dA kP fA (by decide) [[0,0]] vK (nM kP vK) 1 (by decide) _ _ ⟨trivial,?_⟩;rw[Rs];have l2:=af ((o7.old _ (by omega)).trans g2);simp only[go_sem,aX];refine W.seq (ag _ _ _ (by rfl) ?_);simp only[go_sem,l2,aX]
  repeat (refine⟨by decide,?_⟩)
  refine aA.ja aJ (o7.trans (.ext H7 _)) (.cons (qY dE) (.cons (vO (a:=[1]) (b:=[0,0,1,0]) o7.next) (.cons (.lit _) .nil))) fun H8 o8=>DO dE pF fE (by decide) [[1],[0,0,1,0]] DZ (nM pF DZ) 0 (by decide) _ _ ⟨trivial,?_⟩;rw[Rt];have l1:=af ((o8.old _ (by omega)).trans g1);simp only[go_sem,aX];refine W.seq (ag _ _ _ (by rfl) ?_);simp only[go_sem,l1,aX]
  repeat (refine⟨by decide,?_⟩)
  refine aA.ja aJ (o8.trans (.ext H8 _)) (.cons (qY dA) (.cons (q7 (a:=[0,0]) o8.next) (.cons (.lit _) .nil))) fun H9 o9=>RB dA kP fA [[0,0]] vK (nM kP vK) 0 (by decide) (by decide) _ _ ⟨trivial,?_⟩;simp only[go_sem,aX];refine W.seq (ag _ _ _ (by rfl) ?_);simp only[go_sem,aX]
  repeat (refine⟨by decide,?_⟩)
  refine aA.ja aJ (o9.trans (.ext H9 _)) (.cons (FzL.agg ?_) .nil) fun HA oA=>vj dN fN (by decide) HA _ (fun _=>⟨trivial,?_⟩) (fun he=>absurd Rj he) fun r hr _ _=>absurd (DV.symm.trans hr) (by simp)
  · repeat (first|exact FzL.nil|refine FzL.cons ?_ ?_|exact Fz.lit _|exact Fz.nil|refine FzL.own o9.next (cq ..) rfl ?_)
  have lq1:=af ((oA.old _ (by omega)).trans q1);have lq2:=af ((oA.old _ (by omega)).trans q2);have ev:∀ (a b:Int) o1 o2,bE Tryz.prog .eql 41 o1 o2 (.agg [.lit (.int .i64 a),.lit (.int .i64 b)]) (.agg [.lit (.int .i64 a),.lit (.int .i64 b)])=some (.lit (.bool true)):=fun a b o1 o2=>by rw[xw];simp
  have e1:=ev 33 4;have e2:=ev 4 1;simp only[go_sem,aX];obtain⟨HB,hHB⟩:∃ HB,HB=ext HA [.arr 0 41 [.lit (.int .i64 0),.lit (.int .i64 0)]]:=⟨_,rfl⟩
  have oB:Over H3 HB:=by rw[hHB];exact oA.trans (.ext _ _)
  rw[<- hHB];clear hHB;have lq1:=af ((oB.old _ (by omega)).trans q1);refine W.seq (ag _ _ _ (by rfl) ?_);simp only[go_sem,lq1,e1,aX]
  repeat (refine⟨by decide,?_⟩)
  refine aA.ja aJ (oB.trans (.ext HB _)) (.cons (oY _) (.cons (q7 (a:=[1,0]) oB.next) .nil)) fun HC oC=>sU [[1,0]] [[1,0]] (by decide) (by decide) _ _ ⟨trivial,?_⟩;rw[decide_eq_true (rfl:([[1,0]]:List (List Int))=[[1,0]])];have lq2:=af ((oC.old _ (by omega)).trans q2);simp only[go_sem,lq2,e2,aX]
  repeat (refine⟨by decide,?_⟩)
  refine aA.ja aJ (oC.trans (.ext HC _)) (.cons (oY _) (.cons (vO (a:=[1]) (b:=[0,0,1,0]) oC.next) .nil)) fun HD oD=>sU [[1],[0,0,1,0]] [[1],[0,0,1,0]] (by decide) (by decide) _ _ ⟨trivial,?_⟩;rw[decide_eq_true (rfl:([[1],[0,0,1,0]]:List (List Int))=[[1],[0,0,1,0]])];simp only[go_sem,aX];refine W.seq (ag _ _ _ (by rfl) ?_);simp only[go_sem,aX]
  repeat (refine⟨by decide,?_⟩)
  refine aA.ja aJ (oD.trans (.ext HD _)) (.cons (oY _) (.cons (vO (a:=[0,48]) (b:=[480,264]) oD.next) .nil)) fun HF oF=>sU [[0,48],[480,264]] [[0,48],[480,264]] (by decide) (by decide) _ _ ⟨trivial,?_⟩;rw[decide_eq_true (rfl:([[0,48],[480,264]]:List (List Int))=[[0,48],[480,264]])];simp only[go_sem,aX]
  repeat (refine⟨by decide,?_⟩)
  refine aA.ja aJ (oF.trans (.ext HF _)) (.cons (oY _) (.cons (q7 (a:=[8,32]) oF.next) .nil)) fun HG oG=>sU [[8,32]] [[8,32]] (by decide) (by decide) _ _ ⟨trivial,?_⟩;rw[decide_eq_true (rfl:([[8,32]]:List (List Int))=[[8,32]])];simp only[go_sem,aX];have oK:Over H HG:=o1.trans (o3.trans oG)
  first
  | exact au.bG aJ hcl oK (.lit _) hK
  | (refine ag _ _ _ (by rfl) ?_
     simp only[go_sem,aX];exact au.bG aJ hcl oK (.lit _) hK)
end Go.Proofs
namespace Go.Proofs
open Go.Hx
theorem D1:∀ x:List Int,¬ nA x x
 | []=>fun h=>h
 | a :: l=>fun h=>by
  rcases h with h|⟨_,h⟩
  ·omega
  ·exact D1 l h
theorem D2:∀ {x y:List Int},nA x y->¬ nA y x
 | [],_=>fun h=>h.elim
 | _ :: _,[]=>fun h=>h.elim
 | a :: l,b :: m=>fun h g=>by
  rcases h with h|⟨h,h2⟩
  ·rcases g with g|⟨g,_⟩<;>omega
  ·rcases g with g|⟨_,g2⟩
   ·omega
   ·exact D2 h2 g2
theorem Rv:∀ (l:List (Int × Int)) (p:List (List Int)),x8 l p->bT (cK l) p.flatten:=by
 intro l
 induction l with
 | nil =>
  intro p h;have:p=[]:=List.eq_nil_of_length_eq_zero h.1;subst this;exact⟨rfl,fun k c v h1 _=>by simp [cK]at h1⟩
 | cons a l ih =>
  intro p h;cases p with
  | nil=>have:=h.1;simp at this
  | cons q p =>
   obtain⟨h1,h2⟩:=h.2 0 a q rfl rfl;have hi:=ih p ⟨by have:=h.1;simpa using this,fun k b r e1 e2=>h.2 (k+1) b r (by simpa using e1) (by simpa using e2)⟩;rw[qm,List.flatten_cons];refine⟨by rw[List.length_append,List.length_append,List.length_replicate,hi.1];omega,fun k c v e1 e2=>?_⟩;rcases Nat.lt_or_ge k q.length with hk|hk
   ·rw[List.getElem?_append_left (by rw[List.length_replicate];omega),List.getElem?_replicate,if_pos (by omega)]at e1;rw[List.getElem?_append_left hk]at e2;cases e1;exact h2 v (List.mem_of_getElem? e2)
   ·rw[List.getElem?_append_right (by rw[List.length_replicate];omega),List.length_replicate]at e1;rw[List.getElem?_append_right hk]at e2;refine hi.2 (k - q.length) c v ?_ e2;rw[<- e1];congr 1;omega
theorem Rw:∀ {a b:List (List Int)},a.length=b.length->(∀ (k:Nat) (x y:List Int),a[k]?=some x->b[k]?=some y->x.length=y.length)->a.flatten=b.flatten->a=b:=by
 intro a
 induction a with
 | nil=>intro b h _ _;exact(List.eq_nil_of_length_eq_zero h.symm).symm
 | cons x a ih =>
  intro b h hl he;cases b with
  | nil=>simp at h
  | cons y b =>
   have h0:=hl 0 x y rfl rfl;rw[List.flatten_cons,List.flatten_cons]at he;obtain⟨e1,e2⟩:=List.append_inj he h0;rw[e1,ih (by simpa using h) (fun k u v h1 h2=>hl (k+1) u v (by simpa using h1) (by simpa using h2)) e2]
theorem Rx {d:InfP}(hok:InfOk d){p:List (List Int)}(hp:PolOk d p):∃ i,0<=i/\i<eo d/\di (bZ d) i=p:=by
 have hR:=uD.1 hp;have hf:=Rv _ _ hR;have hr:=lD hf;refine⟨bQ (rU d) p.flatten,hr.1,hr.2,?_⟩;have hq:=uD.1 (rV hok (bQ (rU d) p.flatten));refine Rw (by rw[hq.1,hR.1]) (fun k x y h1 h2=>?_) ?_
 ·obtain⟨a,ha⟩:=aw (l:=bZ d) (i:=k) (by have:=aH h2;rw[hR.1]at this;exact this);have e1:=(hq.2 k a x ha h1).1;have e2:=(hR.2 k a y ha h2).1;omega
 ·rw[xB];exact qp hf
theorem Ry {d:InfP}(hok:InfOk d){r:List Nat}(hr:OrdR d r){b:Int}(hb:0<=b/\b<eo d)(hmax:∀ j,0<=j->j<eo d->fG d (di (bZ d) j)<=fG d (di (bZ d) b))(hfirst:∀ j,0<=j->j<b->fG d (di (bZ d) j)<fG d (di (bZ d) b)):
  di (bZ d) b=eA d r/\fG d (di (bZ d) b)=iH d r:=by
 obtain⟨hP,hT,hall⟩:=uR hok hr;obtain⟨i,i0,i1,hi⟩:=Rx hok hP;have eP:∀ j,fG d (di (bZ d) j)=fh d (fixC (di (bZ d) j)):=fun j=>uw hok (rV hok j);have ei:fG d (di (bZ d) i)=iH d r:=by rw[eP,hi,hT]
 have h1:=hmax i i0 i1;obtain⟨h2,h3⟩:=hall _ (rV hok b);rw[<- eP]at h2 h3;have hS:fG d (di (bZ d) b)=iH d r:=by omega
 refine⟨?_,hS⟩;rcases h3 hS with h|h
 ·exact h
 ·exfalso;rw[<- hi,xB,xB]at h;have hpos:∀ c∈rU d,1<=c:=qj fun p hp=>(qk hok p hp).2.2.1;rcases Int.lt_trichotomy i b with g|g|g
  ·have:=hfirst i i0 g;omega
  ·rw[g]at h;exact D1 _ h
  ·exact D2 h (KV hpos hb.1 g i1)
end Go.Proofs
