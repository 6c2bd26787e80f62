/- Own work: contracts. -/
import Derived.Test.YtcccmbeolcjacaaConC
set_option linter.all false
set_option linter.unusedSimpArgs false
set_option maxRecDepth 100000
namespace Go.Proofs
open Go.Hx
theorem unitRow_get {g card a : Int} (h : 0≤a∧a<card) : (unitRow g card a)[a.toNat]?=some g:=by
 unfold unitRow
 rw [List.getElem?_set_self (by rw [List.length_replicate];omega)]
set_option maxHeartbeats 8000000 in
theorem means_spec (d : D20) (hd : d.Ok) (bs : List Int) (hbl : (bs.length : Int)<2 ^ 63) (hb8 : ∀ x∈bs,U8 x) (H : AHeap) (K : ARes→AHeap→Prop) (hK : ∀ H',H.next≤H'.next→K (.ret (.lit (.bool true))) H') :
  ACall Try.prog G0 7 [.agg d.cells,.vec bs.length (bytesL bs)] H K:=by
 refine ACall.of_body (n:=207) (rs:=[.tmp 4]) Try.func7 rfl rfl rfl (by decide) (by kernel_rfl) (by simp) ?_
 simp only [go_sem,D20.cells,appendA_U]
 refine AApply.clo (works_ok _ _ ⟨trivial,?_⟩)
 obtain ⟨H1,hH1⟩ : ∃ H1,H1=ext H [.arr 0 28 [.lit (.int .u8 d.g),.vec d.ps.length (drC d.ps),.vec d.ord.length (bytesL d.ord),.lit (.int .u8 d.decs),.lit (.bool d.rem),.vec d.us.length (utC d.us)]]:=⟨_,rfl⟩
 have g2 : H1.get H.next=some (.arr 0 28 [.lit (.int .u8 d.g),.vec d.ps.length (drC d.ps),.vec d.ord.length (bytesL d.ord),.lit (.int .u8 d.decs),.lit (.bool d.rem),.vec d.us.length (utC d.us)]):=by rw [hH1];exact get_ext0 ..
 have n1 : H1.next=H.next+1:=by rw [hH1];rfl
 rw [← hH1]
 clear hH1
 have l2:=get_live g2
 try simp only [go_sem,Nat.reduceEqDiff,Nat.reduceAdd,l2,appendA_U]
 refine AApply.clo (influence20_spec d hd _ _ fun x hx=>⟨trivial,?_⟩)
 have hok:=hx.ok
 have hf:=fit_ok hok
 have n8:=hok.n.n1
 simp only [go_sem,Nat.reduceEqDiff,Nat.reduceAdd,infE_eq,infEC,appendA_U]
 obtain ⟨H2,hH2⟩ : ∃ H2,H2=ext H1 [.arr 0 39 [.lit (.int .i64 x.grain),.vec x.nodes.length (nodesE x.nodes),.lit (.int .u64 (x.decs : Int)),.vec x.utils.length (utilsC x.utils)]]:=⟨_,rfl⟩
 have g5 : H2.get H1.next=some (.arr 0 39 [.lit (.int .i64 x.grain),.vec x.nodes.length (nodesE x.nodes),.lit (.int .u64 (x.decs : Int)),.vec x.utils.length (utilsC x.utils)]):=by rw [hH2];exact ext1_get_new
 have n2 : H2.next=H1.next+1:=by rw [hH2];rfl
 rw [← hH2]
 clear hH2
 have l5:=get_live g5
 try simp only [go_sem,Int.reduceToNat,Int.reduceLE,Int.reduceLT,Int.reduceAdd,Int.reduceSub,Int.reduceMul,Int.reduceEq,Int.reduceNe,Nat.reduceEqDiff,Nat.reducePow,Nat.reduceDiv,Nat.reduceMod,Nat.reduceAdd,Nat.reduceMul,Nat.reduceSub,Nat.reduceLT,Nat.reduceLeDiff,reduceIte,reduceCtorEq,l5,appendA_U]
 refine AApply.clo (choose20_spec x hf hok bs hbl hb8 _ _ fun p hp=>⟨trivial,?_⟩)
 have hpf:=polFit_ok hok hp
 have hpe:=polErr_ok hok hp
 try simp only [go_sem,Nat.reduceEqDiff,Nat.reduceAdd,l5,appendA_U]
 refine AApply.clo (ACall.weakArgs (args':=[infV x,vecV p]) G0_ok rfl (fun i hi _=>?_) (fix_spec x hf p hpf _ _ ⟨trivial,?_⟩))
 ·match i,hi with
  | 0,_=>exact fz_infE x
  | 1,_=>exact fz_vecV p
 obtain ⟨nn,hnn⟩ : ∃ nn,nn=fillL x (fixC p):=⟨_,rfl⟩
 have hfix : fixR x p=.agg [.lit (.int .i64 x.grain),.vec nn.length (nodesC nn)]:=by unfold fixR;rw [if_pos hpe,hnn];rfl
 rw [hpe,hfix]
 have hno : NetOk x.grain nn:=by rw [hnn];exact netOk_fill hok (choiceOk_pol hp)
 have hnl : nn.length=x.nodes.length:=by rw [hnn];exact fillL_len _ _
 simp only [go_sem,Nat.reduceEqDiff,Nat.reduceAdd,appendA_U]
 obtain ⟨H3,hH3⟩ : ∃ H3,H3=ext H2 [.arr 0 64 [.lit (.int .i64 x.grain),.vec nn.length (nodesC nn)]]:=⟨_,rfl⟩
 have g7 : H3.get H2.next=some (.arr 0 64 [.lit (.int .i64 x.grain),.vec nn.length (nodesC nn)]):=by rw [hH3];exact ext1_get_new
 have g5' : H3.get H1.next=some (.arr 0 39 [.lit (.int .i64 x.grain),.vec x.nodes.length (nodesE x.nodes),.lit (.int .u64 (x.decs : Int)),.vec x.utils.length (utilsC x.utils)]):=by rw [hH3,ext1_get_old (by omega)];exact g5
 have n3 : H3.next=H2.next+1:=by rw [hH3];rfl
 rw [← hH3]
 clear hH3
 have l5:=get_live g5'
 try simp only [go_sem,Nat.reduceEqDiff,Nat.reduceAdd,l5,appendA_U]
 refine AApply.clo (ACall.weakArgs (args':=[infV x,vecV p]) G0_ok rfl (fun i hi _=>?_) (value_spec x hf p hpf (sumsOk6 (by have:=hx.n5;omega) p) _ _ ⟨trivial,?_⟩))
 ·match i,hi with
  | 0,_=>exact fz_infE x
  | 1,_=>exact fz_vecV p
 obtain ⟨S,hS⟩ : ∃ S,S=sumP x p:=⟨_,rfl⟩
 have hval : valR x p=.agg [.lit (.int .i64 (S.tdiv (Int.gcd S (x.grain ^ x.nodes.length) : Int))),.lit (.int .i64 ((x.grain ^ x.nodes.length).tdiv (Int.gcd S (x.grain ^ x.nodes.length) : Int)))]:=by unfold valR;rw [if_pos hpe,← hS];rfl
 rw [hpe,hval]
 obtain ⟨q1,hq1⟩ : ∃ q1,q1=S.tdiv (Int.gcd S (x.grain ^ x.nodes.length) : Int):=⟨_,rfl⟩
 obtain ⟨q2,hq2⟩ : ∃ q2,q2=(x.grain ^ x.nodes.length).tdiv (Int.gcd S (x.grain ^ x.nodes.length) : Int):=⟨_,rfl⟩
 rw [← hq1,← hq2]
 simp only [go_sem,Nat.reduceEqDiff,Nat.reduceAdd,appendA_U]
 obtain ⟨H4,hH4⟩ : ∃ H4,H4=ext H3 [.arr 0 68 [.lit (.int .i64 q1),.lit (.int .i64 q2)]]:=⟨_,rfl⟩
 have g9 : H4.get H3.next=some (.arr 0 68 [.lit (.int .i64 q1),.lit (.int .i64 q2)]):=by rw [hH4];exact ext1_get_new
 have o4 : Over H3 H4:=by rw [hH4];exact .ext _ _
 have n4 : H4.next=H3.next+1:=by rw [hH4];rfl
 have h5:=(o4.old _ (by omega)).trans g5'
 have h7:=(o4.old _ (by omega)).trans g7
 rw [← hH4]
 clear hH4
 have m5:=get_live h5
 have m7:=get_live h7
 have m9:=get_live g9
 have hnI : (nn.length : Int)=x.nodes.length:=by omega
 simp only [go_sem,Nat.reduceEqDiff,Nat.reduceAdd,m5,m7,hnI,appendA_U]
 refine AApply.clo (right05_spec x.grain nn (by rw [hnn];exact fillL_fit hf hok.n (fixC p)) _ _ ⟨trivial,?_⟩)
 rw [netB_true hno]
 have hlE : (x.nodes.length : Int)=x.nodes.length:=rfl
 simp only [go_sem,Nat.reduceEqDiff,m5,m7,hnI,appendA_U]
 have hgetn : ∀ (v : Nat) (y : NodeP),x.nodes[v]?=some y→nn[v]?=some (fillN x (fixC p) (decL x).length v y):=fun v y hy=>by rw [hnn];exact fillL_get hy
 refine W.postWeak (Q':=fun e s2=>e=.exit 0∧s2.ρ 5=.ptr H1.next 0 0∧s2.ρ 6=vecV p∧s2.ρ 7=.ptr H2.next 0 0∧s2.ρ 9=.ptr H3.next 0 0∧Over H4 s2.H) ?_ ?_
 rotate_left
 ·rintro e s2 ⟨rfl,a5,a6,a7,a9,ov⟩
  refine ⟨s2,.refl _,Nat.le_refl _,trivial,?_⟩
  obtain ⟨ρ2,Hx⟩:=s2
  dsimp only at a5 a6 a7 a9 ov
  have onx:=ov.next
  have x7:=get_live ((ov.old _ (by omega)).trans h7)
  have x5:=get_live ((ov.old _ (by omega)).trans h5)
  have x9:=get_live ((ov.old _ (by omega)).trans g9)
  have hgr:=hno.g1
  have hpw : ∀ k : Nat,k≤8→0≤x.grain ^ k∧x.grain ^ k≤167961600000000:=fun k hk=>by
   have h1:=prodL_le_pow (b:=60) (by omega) (l:=List.replicate k x.grain) fun c hc=>by rw [List.eq_of_mem_replicate hc];omega
   rw [List.length_replicate] at h1
   have h2:=pow_le_pow60 k hk
   have h3 : prodL (List.replicate k x.grain)=x.grain ^ k:=by
    clear h1 h2 hk
    induction k with
    | zero=>rw [List.replicate_zero,prodL_nil,Int.pow_zero]
    | succ k ih=>rw [List.replicate_succ,prodL_cons,ih,Int.pow_succ,Int.mul_comm]
   rw [h3] at h1
   omega
  simp only [go_sem,Nat.reduceEqDiff,a5,a6,a7,a9,x7,appendA_U]
  refine W.loop0 5664389280426778277950072441252683822519156736 (by rfl) (fun ρ Hy=>Hy=Hx∧∃ k : Nat,ρ 145=lin k∧k≤nn.length∧ρ 17=lin (x.grain ^ k)) (fun ρ H=>nn.length - (iv (ρ 145)).toNat) ?_ ?_
  ·simp only [go_sem,Nat.reduceEqDiff,appendA_U]
   exact ⟨0,rfl,by omega,by rw [Int.pow_zero]⟩
  rintro ρ Hy ⟨rfl,k,h145,hk,h17⟩
  refine W.env fun E hE=>?_
  have e5 : E 5=.ptr H1.next 0 0:=by rw [hE];simp only [go_sem,Nat.reduceEqDiff,Nat.reducePow,Nat.reduceDiv,Nat.reduceMod,reduceCtorEq,a5,appendA_U]
  have e7 : E 7=.ptr H2.next 0 0:=by rw [hE];simp only [go_sem,Nat.reduceEqDiff,Nat.reducePow,Nat.reduceDiv,Nat.reduceMod,reduceCtorEq,a7,appendA_U]
  have e9 : E 9=.ptr H3.next 0 0:=by rw [hE];simp only [go_sem,Nat.reduceEqDiff,Nat.reducePow,Nat.reduceDiv,Nat.reduceMod,reduceCtorEq,a9,appendA_U]
  have e16 : E 16=lin 0:=by rw [hE];simp only [go_sem,Nat.reduceEqDiff,Nat.reducePow,Nat.reduceDiv,Nat.reduceMod,reduceCtorEq,appendA_U]
  have e17 : E 17=lin (x.grain ^ k):=by rw [hE];simp only [go_sem,Nat.reduceEqDiff,Nat.reducePow,Nat.reduceDiv,Nat.reduceMod,h17,appendA_U]
  have e144 : E 144=lin nn.length:=by rw [hE];simp only [go_sem,Nat.reduceEqDiff,Nat.reducePow,Nat.reduceDiv,Nat.reduceMod,reduceCtorEq,hnl,appendA_U]
  have e145 : E 145=lin k:=by rw [hE];simp only [go_sem,Nat.reduceEqDiff,Nat.reducePow,Nat.reduceDiv,Nat.reduceMod,h145,appendA_U]
  clear hE
  refine vc_sound _ _ _ (by rfl) ?_
  by_cases hb : (k : Int)<nn.length
  ·have w1:=IntWalk.i64_in ((k : Int)+1) (by omega)
   have hq:=hpw (k+1) (by omega)
   rw [Int.pow_succ] at hq
   have w2:=IntWalk.i64_in (x.grain ^ k*x.grain) (by generalize x.grain ^ k*x.grain=t at hq ⊢;omega)
   simp only [go_sem,Nat.reduceEqDiff,Nat.reducePow,Nat.reduceDiv,Nat.reduceMod,e5,e7,e9,e16,e17,e144,e145,hb,x7,w1,w2,appendA_U]
   exact ⟨⟨k+1,rfl,by omega,by rw [Int.pow_succ]⟩,by rw [h145];simp only [lin,iv_int];omega⟩
  have hke : k=nn.length:=by omega
  simp only [go_sem,Nat.reduceEqDiff,Nat.reducePow,Nat.reduceDiv,Nat.reduceMod,Nat.reduceAdd,e5,e7,e9,e16,e17,e144,e145,hb,x7,appendA_U]
  refine AApply.clo (worlds05_spec x.grain nn hno.n1.2 (fun y hy=>(hno.node y hy).1) _ _ ⟨trivial,?_⟩)
  have hwl:=worlds_le hno
  rw [← hwl.2]
  have hwS : S=sumW nn x.utils (worlds nn):=by rw [hS];unfold sumP;rw [← worlds_fill x (fixC p),← hnn]
  simp only [go_sem,appendA_U]
  refine W.loop0 6427752177035938266204765074006553477513300783208989265297408 (by rfl) (fun ρ2 Hz=>∃ w : Nat,ρ2 154=lin w∧w≤worlds nn∧ρ2 16=lin (sumW nn x.utils w)∧Over Hy Hz) (fun ρ2 H=>worlds nn - (iv (ρ2 154)).toNat) ?_ ?_
  ·simp only [go_sem,Nat.reduceEqDiff,e16,appendA_U]
   exact ⟨0,rfl,by omega,rfl,.refl _⟩
  rintro ρ2 Hz ⟨w,h154,hw,h16,ovz⟩
  refine W.env fun E2 hE2=>?_
  have f5 : E2 5=.ptr H1.next 0 0:=by rw [hE2];simp only [go_sem,Nat.reduceEqDiff,Nat.reducePow,Nat.reduceDiv,Nat.reduceMod,reduceCtorEq,e5,appendA_U]
  have f7 : E2 7=.ptr H2.next 0 0:=by rw [hE2];simp only [go_sem,Nat.reduceEqDiff,Nat.reducePow,Nat.reduceDiv,Nat.reduceMod,reduceCtorEq,e7,appendA_U]
  have f9 : E2 9=.ptr H3.next 0 0:=by rw [hE2];simp only [go_sem,Nat.reduceEqDiff,Nat.reducePow,Nat.reduceDiv,Nat.reduceMod,reduceCtorEq,e9,appendA_U]
  have f16 : E2 16=lin (sumW nn x.utils w):=by rw [hE2];simp only [go_sem,Nat.reduceEqDiff,Nat.reducePow,Nat.reduceDiv,Nat.reduceMod,h16,appendA_U]
  have f17 : E2 17=lin (x.grain ^ x.nodes.length):=by rw [hE2];simp only [go_sem,Nat.reduceEqDiff,Nat.reducePow,Nat.reduceDiv,Nat.reduceMod,reduceCtorEq,e17,hke,hnl,appendA_U]
  have f153 : E2 153=lin (worlds nn):=by rw [hE2];simp only [go_sem,Nat.reduceEqDiff,Nat.reducePow,Nat.reduceDiv,Nat.reduceMod,reduceCtorEq,appendA_U]
  have f154 : E2 154=lin w:=by rw [hE2];simp only [go_sem,Nat.reduceEqDiff,Nat.reducePow,Nat.reduceDiv,Nat.reduceMod,h154,appendA_U]
  clear hE2
  refine vc_sound _ _ _ (by rfl) ?_
  have ozn:=ovz.next
  have z7:=(ovz.live (g:=0) (by omega : H2.next<Hy.next)).trans x7
  have z5:=(ovz.live (g:=0) (by omega : H1.next<Hy.next)).trans x5
  have z9:=(ovz.live (g:=0) (by omega : H3.next<Hy.next)).trans x9
  have hus : ∀ u∈x.utils,UtilOk nn u:=fun u hu=>by rw [hnn];exact utilOk_fill (hok.utils.2 u hu)
  have h6 : nn.length≤6:=by have:=hx.n5;omega
  have sb:=sumW_bound hno h6 hus hok.utils.1
  by_cases hb2 : (w : Int)<worlds nn
  rotate_left
  ·have hwe : w=worlds nn:=by omega
   simp only [go_sem,Nat.reduceEqDiff,Nat.reducePow,Nat.reduceDiv,Nat.reduceMod,f5,f7,f9,f16,f17,f153,f154,hb2,appendA_U]
   refine W.draw 4 [0,0,0,6] Try.mixed (by kernel_rfl) (by kernel_rfl) ?_
   simp only [go_sem,Nat.reduceEqDiff,Nat.reducePow,Nat.reduceDiv,Nat.reduceMod,Nat.reduceAdd,reduceCtorEq,f5,f7,f9,f16,f17,f153,f154,hb2,z9,appendA_U]
   have hSb:=sb (worlds nn)
   have hpg:=hpw x.nodes.length (by omega)
   have hpg1 : 1≤x.grain ^ x.nodes.length:=Int.pow_pos (by omega)
   rw [hwe,← hwS] at *
   refine ⟨.agg [.lit (.int .i64 q1),.lit (.int .i64 q2)],[],PCall.pure fun H2=>by
    have:=R01.of_spec S (x.grain ^ x.nodes.length) (by omega) (by omega) H2 (fun r H3=>r=.ret (.agg [.lit (.int .i64 q1),.lit (.int .i64 q2)])∧H3=H2) ⟨by rw [hq1,hq2];rfl,rfl⟩
    exact this,?_⟩
   simp only [go_sem,Nat.reduceEqDiff,f5,f7,f9,f16,f17,f153,f154,hb2,z9,eqlQ,beq_self_eq_true,Bool.and_self,appendA_U]
   exact FinV.mk (by omega) (hK _ (by omega))
  have hc1 : ∀ c∈cardsL nn,1≤c:=fun c hc=>by
   obtain ⟨y,hy,rfl⟩:=List.mem_map.1 hc
   exact (hno.node y hy).1.1
  obtain ⟨vals,hvals⟩ : ∃ vals,vals=valsL (cardsL nn) w:=⟨_,rfl⟩
  have hfit : FitsC (cardsL nn) vals:=by rw [hvals];exact fits_vals hc1 _
  simp only [go_sem,Nat.reduceEqDiff,Nat.reducePow,Nat.reduceDiv,Nat.reduceMod,Nat.reduceAdd,f5,f7,f9,f16,f17,f153,f154,hb2,z7,appendA_U]
  refine AApply.clo (values05_spec x.grain nn hno.n1.2 (fun y hy=>(hno.node y hy).1) w (by omega) _ _ ⟨trivial,?_⟩)
  rw [← hvals]
  simp only [go_sem,Nat.reduceEqDiff,Nat.reduceAdd,f5,f7,f9,f16,f17,f153,f154,z7,appendA_U]
  refine AApply.clo (weight05_spec x.grain nn hno w (by omega) _ _ ⟨trivial,?_⟩)
  rw [← hvals]
  simp only [go_sem,Nat.reduceEqDiff,f5,f7,f9,f16,f17,f153,f154,z5,appendA_U]
  obtain ⟨wt,hwt⟩ : ∃ wt,wt=weight nn vals:=⟨_,rfl⟩
  have sbw:=sb w
  have hcn : cardsL nn=cardsL x.nodes:=by rw [hnn];exact fillL_card _ _
  have n4u:=hok.utils.1
  have hvl : vals.length=x.nodes.length:=by rw [hfit.1,hcn,cards_len]
  have tb:=fun j=>term_bound hno h6 hus n4u hfit j
  rw [← hwt] at tb ⊢
  refine W.loop0 3213876088424444446294746397917289375750563874307606034055168 (by rfl) (fun ρ3 Hu=>∃ k : Nat,ρ3 166=lin k∧k≤x.utils.length∧ρ3 16=lin (sumW nn x.utils w+wt*utilV nn (x.utils.take k) vals)∧Over Hz Hu) (fun ρ3 H=>x.utils.length - (iv (ρ3 166)).toNat) ?_ ?_
  ·simp only [go_sem,Nat.reduceEqDiff,f16,appendA_U]
   exact ⟨0,rfl,by omega,by simp [utilV],.refl _⟩
  rintro ρ3 Hu ⟨k3,h166,hk3,h16',ovu⟩
  refine W.env fun E3 hE3=>?_
  have k5 : E3 5=.ptr H1.next 0 0:=by rw [hE3];simp only [go_sem,Nat.reduceEqDiff,Nat.reducePow,Nat.reduceDiv,Nat.reduceMod,reduceCtorEq,f5,appendA_U]
  have k7 : E3 7=.ptr H2.next 0 0:=by rw [hE3];simp only [go_sem,Nat.reduceEqDiff,Nat.reducePow,Nat.reduceDiv,Nat.reduceMod,reduceCtorEq,f7,appendA_U]
  have k9 : E3 9=.ptr H3.next 0 0:=by rw [hE3];simp only [go_sem,Nat.reduceEqDiff,Nat.reducePow,Nat.reduceDiv,Nat.reduceMod,reduceCtorEq,f9,appendA_U]
  have k16 : E3 16=lin (sumW nn x.utils w+wt*utilV nn (x.utils.take k3) vals):=by rw [hE3];simp only [go_sem,Nat.reduceEqDiff,Nat.reducePow,Nat.reduceDiv,Nat.reduceMod,h16',appendA_U]
  have k17 : E3 17=lin (x.grain ^ x.nodes.length):=by rw [hE3];simp only [go_sem,Nat.reduceEqDiff,Nat.reducePow,Nat.reduceDiv,Nat.reduceMod,reduceCtorEq,f17,appendA_U]
  have k19 : E3 19=vecI vals:=by rw [hE3];simp only [go_sem,Nat.reduceEqDiff,Nat.reducePow,Nat.reduceDiv,Nat.reduceMod,reduceCtorEq,appendA_U]
  have k20 : E3 20=lin wt:=by rw [hE3];simp only [go_sem,Nat.reduceEqDiff,Nat.reducePow,Nat.reduceDiv,Nat.reduceMod,reduceCtorEq,appendA_U]
  have k153 : E3 153=lin (worlds nn):=by rw [hE3];simp only [go_sem,Nat.reduceEqDiff,Nat.reducePow,Nat.reduceDiv,Nat.reduceMod,reduceCtorEq,f153,appendA_U]
  have k154 : E3 154=lin w:=by rw [hE3];simp only [go_sem,Nat.reduceEqDiff,Nat.reducePow,Nat.reduceDiv,Nat.reduceMod,reduceCtorEq,f154,appendA_U]
  have k164 : E3 164=.vec x.utils.length (utilsC x.utils):=by rw [hE3];simp only [go_sem,Nat.reduceEqDiff,Nat.reducePow,Nat.reduceDiv,Nat.reduceMod,reduceCtorEq,appendA_U]
  have k165 : E3 165=lin x.utils.length:=by rw [hE3];simp only [go_sem,Nat.reduceEqDiff,Nat.reducePow,Nat.reduceDiv,Nat.reduceMod,reduceCtorEq,appendA_U]
  have k166 : E3 166=lin k3:=by rw [hE3];simp only [go_sem,Nat.reduceEqDiff,Nat.reducePow,Nat.reduceDiv,Nat.reduceMod,h166,appendA_U]
  clear hE3
  refine vc_sound _ _ _ (by rfl) ?_
  have oun:=ovu.next
  by_cases hb3 : (k3 : Int)<x.utils.length
  rotate_left
  ·have hke : k3=x.utils.length:=by omega
   have w1:=IntWalk.i64_in ((w : Int)+1) (by omega)
   rw [hke,List.take_of_length_le (Nat.le_refl _),hwt,hvals,← sumW_succ] at k16
   simp only [go_sem,Nat.reduceEqDiff,Nat.reducePow,Nat.reduceDiv,Nat.reduceMod,k5,k7,k9,k16,k17,k153,k154,k165,k166,hb3,w1,appendA_U]
   exact ⟨by omega,⟨w+1,rfl,by omega,rfl,ovz.trans ovu⟩,by rw [h154];simp only [lin,iv_int];omega⟩
  obtain ⟨u,hku⟩:=get_of_lt (l:=x.utils) (i:=k3) (by omega)
  have hum:=List.mem_of_getElem? hku
  obtain ⟨u1,u2,u3⟩:=hus u hum
  have hne:=utilsC_ne hku
  have p0:=utilsC_part hku
  have p1 : k3*2+2≤(utilsC x.utils).length:=by rw [utilsC_len];omega
  have v8:=u1.len
  have hcc : ∀ y∈nn,1≤y.card∧y.card≤4:=fun y hy=>(hno.node y hy).1
  obtain ⟨Hv,hHv⟩ : ∃ Hv,Hv=ext Hu [.arr 0 85 [.vec u.vars.length (ints u.vars),.vec u.w.length (ints u.w)]]:=⟨_,rfl⟩
  have ouv : Over Hu Hv:=by rw [hHv];exact .ext _ _
  have r22:=get_live (show Hv.get Hu.next=some (.arr 0 85 [.vec u.vars.length (ints u.vars),.vec u.w.length (ints u.w)]) by rw [hHv];exact ext1_get_new)
  have r5:=((ovu.trans ouv).live (g:=0) (by omega : H1.next<Hz.next)).trans z5
  have sm:=vars_small hno.n1.2 u1 hcc
  have hin : InRange u.vars nn.length:=fun q hq=>by have:=u1.2 q hq;omega
  have fp : FitsC (atL (cardsL nn) u.vars) (atL vals u.vars):=fits_par (x:=⟨0,u.vars,[]⟩) hin hfit
  have pl : (atL (cardsL nn) u.vars).length=u.vars.length:=atL_len _ _
  have vl : (atL vals u.vars).length=u.vars.length:=atL_len _ _
  have ft : ∀ j,FitsC ((atL (cardsL nn) u.vars).take j) ((atL vals u.vars).take j):=fun j=>⟨by simp [pl,vl],fun i c b h1 h2=>by
   rw [List.getElem?_take] at h1 h2
   split at h1
   ·rename_i hik
    rw [if_pos hik] at h2
    exact fp.2 i c b h1 h2
   ·cases h1⟩
  have hr : ∀ j,0≤hornL ((atL (cardsL nn) u.vars).take j) ((atL vals u.vars).take j)∧hornL ((atL (cardsL nn) u.vars).take j) ((atL vals u.vars).take j)<68719476737:=fun j=>by
   rw [hornL_eq (ft j).1]
   have a:=idxL_range (ft j)
   have b:=(sm.take j).prod
   omega
  simp only [go_sem,Nat.reduceEqDiff,Nat.reducePow,Nat.reduceDiv,Nat.reduceMod,Nat.reduceAdd,k5,k7,k9,k16,k17,k19,k20,k153,k154,k164,k165,k166,hb3,hne,p0,p1,appendA_U]
  rw [← hHv]
  refine W.loop0 3138538895071927367161188787017683596260680700832667140096 (by rfl) (fun ρ4 Hw=>Hw=Hv∧∃ j : Nat,ρ4 173=lin j∧j≤u.vars.length∧ρ4 23=lin (hornL ((atL (cardsL nn) u.vars).take j) ((atL vals u.vars).take j))) (fun ρ4 H=>u.vars.length - (iv (ρ4 173)).toNat) ?_ ?_
  ·simp only [go_sem,Nat.reduceEqDiff,appendA_U]
   exact ⟨0,rfl,by omega,rfl⟩
  rintro ρ4 Hw ⟨rfl,j,h173,hj,h23⟩
  refine vc_sound _ _ _ (by rfl) ?_
  by_cases hb4 : (j : Int)<u.vars.length
  ·obtain ⟨q,hq⟩:=get_of_lt (l:=u.vars) (i:=j) (by omega)
   obtain ⟨i,rfl,y,hy⟩:=get_of_int (l:=x.nodes) (hin q (List.mem_of_getElem? hq)).1 (by have:=(hin q (List.mem_of_getElem? hq)).2;omega)
   have hyc:=cards_get hy
   rw [← hcn] at hyc
   obtain ⟨b,hbv⟩:=get_of_lt (l:=vals) (i:=i) (by rw [hvl];exact get_lt hy)
   have hyb:=hfit.2 i y.card b hyc hbv
   have hy4:=hok.n.card y (List.mem_of_getElem? hy)
   have a1 : (atL (cardsL nn) u.vars)[j]?=some y.card:=by rw [atL_get hq,Int.toNat_natCast,getD_of_get hyc]
   have a2 : (atL vals u.vars)[j]?=some b:=by rw [atL_get hq,Int.toNat_natCast,getD_of_get hbv]
   have hne2:=ne_of_get hq
   have hne3:=ne_of_get hbv
   have hne4:=nodesE_ne hy
   have ey:=nodesE_0 hy
   have hi : (i : Int)<x.nodes.length:=by have:=get_lt hy;omega
   have hi2 : (i : Int)<vals.length:=by omega
   have w1:=IntWalk.i64_in ((j : Int)+1) (by omega)
   have r1:=hr (j+1)
   rw [hornL_snoc a1 a2] at r1
   have r0:=hr j
   have m0 : 0≤hornL ((atL (cardsL nn) u.vars).take j) ((atL vals u.vars).take j)*y.card:=Int.mul_nonneg r0.1 (by omega)
   have w2:=IntWalk.i64_in (hornL ((atL (cardsL nn) u.vars).take j) ((atL vals u.vars).take j)*y.card) (by omega)
   have w3:=IntWalk.i64_in (hornL ((atL (cardsL nn) u.vars).take j) ((atL vals u.vars).take j)*y.card+b) (by omega)
   simp only [go_sem,Nat.reduceEqDiff,Nat.reducePow,Nat.reduceDiv,Nat.reduceMod,reduceCtorEq,h173,hb4,hq,hne2,appendA_U]
   refine W.draw 12 [0,0,2,0,14,30,62,127,0,0,768,1792] Try.mixed (by kernel_rfl) (by kernel_rfl) ?_
   simp only [go_sem,Nat.reduceEqDiff,Nat.reducePow,Nat.reduceDiv,Nat.reduceMod,Nat.reduceAdd,reduceCtorEq,h173,h23,k5,k19,r5,hb4,hq,hne2,hne3,hne4,hi,hi2,hbv,ey,w1,w2,w3,appendA_U]
   exact ⟨⟨j+1,by simp,by omega,by rw [hornL_snoc a1 a2]⟩,by omega⟩
  ·rw [List.take_of_length_le (by omega),List.take_of_length_le (by omega),hornL_eq (by rw [pl,vl])] at h23
   have hxr:=idxL_range fp
   obtain ⟨ix,hix⟩:=Int.eq_ofNat_of_zero_le hxr.1
   obtain ⟨uw,hw'⟩:=get_of_lt (l:=u.w) (i:=ix) (by omega)
   have hwne:=ne_of_get hw'
   have hwl' : (ix : Int)<u.w.length:=by have:=get_lt hw';omega
   have eu : utilU nn vals u=uw:=by unfold utilU;rw [hix,Int.toNat_natCast,getD_of_get hw']
   have us1 : utilV nn (x.utils.take (k3+1)) vals=utilV nn (x.utils.take k3) vals+uw:=by rw [take_succ_get hku];unfold utilV;simp [eu]
   have b1:=tb k3
   have b2:=tb (k3+1)
   rw [us1,Int.mul_add] at b2
   have w1:=IntWalk.i64_in ((k3 : Int)+1) (by omega)
   have w2:=IntWalk.i64_in (wt*uw) (by omega)
   have w3:=IntWalk.i64_in (sumW nn x.utils w+wt*utilV nn (x.utils.take k3) vals+wt*uw) (by omega)
   rw [hix] at h23
   simp only [go_sem,Nat.reduceEqDiff,Nat.reducePow,Nat.reduceDiv,Nat.reduceMod,reduceCtorEq,h173,h23,k5,k16,k19,k20,k165,k166,r22,hb4,hw',hwne,hwl',w1,w2,w3,appendA_U]
   refine ⟨by have:=ouv.next;omega,⟨k3+1,by simp,by omega,by rw [us1,Int.mul_add,Int.add_assoc],ovu.trans ouv⟩,by rw [h166];simp only [lin,iv_int];omega⟩
 refine W.loop0 5575186299632655785346150636299133214849040 (by rfl) (fun ρ Hx=>∃ v : Nat,ρ 75=lin v∧v≤nn.length∧ρ 11=lin (placeD x.decs v)∧Over H4 Hx) (fun ρ H=>nn.length - (iv (ρ 75)).toNat) ?_ ?_
 ·simp only [go_sem,Nat.reduceEqDiff,appendA_U]
  exact ⟨0,rfl,by omega,rfl,.refl _⟩
 rintro ρ Hx ⟨v,h75,hv,h11,ov⟩
 refine W.env fun E hE=>?_
 have e5 : E 5=.ptr H1.next 0 0:=by rw [hE];simp only [go_sem,Nat.reduceEqDiff,Nat.reducePow,Nat.reduceDiv,Nat.reduceMod,reduceCtorEq,appendA_U]
 have e6 : E 6=vecV p:=by rw [hE];simp only [go_sem,Nat.reduceEqDiff,Nat.reducePow,Nat.reduceDiv,Nat.reduceMod,reduceCtorEq,vecV,appendA_U]
 have e7 : E 7=.ptr H2.next 0 0:=by rw [hE];simp only [go_sem,Nat.reduceEqDiff,Nat.reducePow,Nat.reduceDiv,Nat.reduceMod,reduceCtorEq,appendA_U]
 have e9 : E 9=.ptr H3.next 0 0:=by rw [hE];simp only [go_sem,Nat.reduceEqDiff,Nat.reducePow,Nat.reduceDiv,Nat.reduceMod,reduceCtorEq,appendA_U]
 have e11 : E 11=lin (placeD x.decs v):=by rw [hE];simp only [go_sem,Nat.reduceEqDiff,Nat.reducePow,Nat.reduceDiv,Nat.reduceMod,h11,appendA_U]
 have e73 : E 73=nodesV nn:=by rw [hE];simp only [go_sem,Nat.reduceEqDiff,Nat.reducePow,Nat.reduceDiv,Nat.reduceMod,reduceCtorEq,nodesV,appendA_U]
 have e74 : E 74=lin nn.length:=by rw [hE];simp only [go_sem,Nat.reduceEqDiff,Nat.reducePow,Nat.reduceDiv,Nat.reduceMod,reduceCtorEq,hnl,appendA_U]
 have e75 : E 75=lin v:=by rw [hE];simp only [go_sem,Nat.reduceEqDiff,Nat.reducePow,Nat.reduceDiv,Nat.reduceMod,h75,appendA_U]
 clear hE
 refine vc_sound _ _ _ (by rfl) ?_
 have onx:=ov.next
 have x7:=get_live ((ov.old _ (by omega)).trans h7)
 have x5:=get_live ((ov.old _ (by omega)).trans h5)
 by_cases hb : (v : Int)<nn.length
 rotate_left
 ·simp only [go_sem,Nat.reduceEqDiff,Nat.reducePow,Nat.reduceDiv,Nat.reduceMod,e5,e6,e7,e9,e74,e75,hb,vecV,appendA_U]
  exact ov
 obtain ⟨y,hy⟩:=get_of_lt (l:=x.nodes) (i:=v) (by omega)
 have hz:=hgetn v y hy
 obtain ⟨z,hzd⟩ : ∃ z,z=fillN x (fixC p) (decL x).length v y:=⟨_,rfl⟩
 obtain ⟨zc,zp⟩:=fillN_card x (fixC p) (decL x).length v y
 rw [← hzd] at hz zc zp
 have pz:=nodesC_part hz
 have pzl : v*3+3≤(nodesC nn).length:=by rw [nodesC_len];have:=get_lt hz;omega
 have pzn:=nodesC_ne hz
 have py0:=nodesE_0 hy
 have py1:=nodesE_1 hy
 have py2:=nodesE_2 hy
 have pyn:=nodesE_ne hy
 have hvx : (v : Int)<x.nodes.length:=by omega
 have w1:=IntWalk.i64_in ((v : Int)+1) (by omega)
 rw [zc,zp] at pz
 obtain ⟨f1,f2,f3⟩:=hf.nodes.2 y (List.mem_of_getElem? hy)
 have pl8:=placeD_mono (D:=x.decs) (v:=v) (n:=x.nodes.length) (by omega)
 have pl88 : placeD x.decs x.nodes.length≤x.nodes.length:=decK_len
 obtain ⟨H5,hH5⟩ : ∃ H5,H5=ext Hx [.arr 0 83 [.lit (.int .i64 y.card),.vec y.parents.length (ints y.parents),.vec z.rows.length (z.rows.map vecI)]]:=⟨_,rfl⟩
 have o5 : Over Hx H5:=by rw [hH5];exact .ext _ _
 have g13 : H5.get Hx.next=some (.arr 0 83 [.lit (.int .i64 y.card),.vec y.parents.length (ints y.parents),.vec z.rows.length (z.rows.map vecI)]):=by rw [hH5];exact ext1_get_new
 have n5 : H5.next=Hx.next+1:=by rw [hH5];rfl
 have y13:=get_live g13
 have y5:=(o5.live (g:=0) (by omega : H1.next<Hx.next)).trans x5
 have y7:=(o5.live (g:=0) (by omega : H2.next<Hx.next)).trans x7
 simp only [go_sem,Nat.reduceEqDiff,Nat.reducePow,Nat.reduceDiv,Nat.reduceMod,Nat.reduceAdd,e5,e6,e7,e9,e11,e73,e74,e75,hb,nodesV,pz,pzl,pzn,vecV,appendA_U]
 rw [← hH5]
 refine W.draw 18 [0,1,0,4,0,28,60,124,255,511,1023,2047,1023,5119,1023,29695,62463,127999] Try.mixed (by kernel_rfl) (by kernel_rfl) ?_
 simp only [go_sem,Nat.reduceEqDiff,Nat.reducePow,Nat.reduceDiv,Nat.reduceMod,Nat.reduceAdd,reduceCtorEq,e5,e6,e7,e9,e11,e73,e74,e75,hb,y5,y13,py0,py1,pyn,hvx,appendA_U]
 refine AApply.clo (eq_spec y.parents y.parents (by omega) _ _ ⟨trivial,?_⟩)
 rw [decide_eq_true rfl]
 have s1:=fun t a b=>shrB (P:=Try.prog) (t:=t) (x:=a) (y:=b) (k':=.i64) (s:=v) hf.decs
 have s2:=fun t a b=>bit1 (P:=Try.prog) (t:=t) (x:=a) (y:=b) (s:=v) hf.decs
 have xok:=ov.trans o5
 cases hbit : x.decs.testBit v
 ·have hzy : z=y:=by rw [hzd,fillN_no (by rw [hbit];simp)]
  have hre:=rowsE_ne (hx.rows v y hy hbit)
  rw [hre] at py2
  rw [hzy] at y13
  have hpl : placeD x.decs (v+1)=placeD x.decs v:=by rw [placeD_succ,if_neg (by rw [hbit];simp)]
  simp only [go_sem,Nat.reduceEqDiff,e5,e6,e7,e9,e11,e73,e74,e75,hb,y5,y13,py2,pyn,hvx,s1,s2,hbit,appendA_U]
  refine W.draw 8 [0,1,0,4,0,28,60,124] Try.mixed (by kernel_rfl) (by kernel_rfl) ?_
  simp only [go_sem,Nat.reduceEqDiff,Nat.reducePow,Nat.reduceDiv,Nat.reduceMod,Nat.reduceAdd,reduceCtorEq,e5,e6,e7,e9,e11,e73,e74,e75,hb,y5,y13,py2,pyn,hvx,vecV,appendA_U]
  refine AApply.clo (eqf_spec y.rows y.rows (by omega) (fun r hr=>by have:=f3 r hr;omega) _ _ ⟨trivial,?_⟩)
  rw [decide_eq_true rfl]
  simp only [go_sem,Nat.reduceEqDiff,e5,e6,e7,e9,e11,e73,e74,e75,w1,appendA_U]
  exact ⟨by omega,⟨v+1,rfl,by omega,by rw [hpl],xok⟩,by rw [h75];simp only [lin,iv_int];omega⟩
 have hzy : z.rows=decRows x.grain x.nodes (fixC p) (placeD x.decs v) y:=by
  rw [hzd,fillN_dec hy hbit]
  show y.rows++_=_
  rw [(hok.n.dec v y hy hbit).1,List.nil_append]
 have hdp:=dec_place hy hbit
 obtain ⟨l,hl⟩:=get_of_lt (l:=p) (i:=placeD x.decs v) (by rw [hp.len];exact get_lt hdp)
 obtain ⟨l1,l2⟩:=hp.row _ v y l hdp hy hl
 have hrl : z.rows.length=l.length:=by rw [hzy,l1];simp [decRows]
 have hpl : placeD x.decs (v+1)=placeD x.decs v+1:=by rw [placeD_succ,if_pos hbit]
 have hlg : (p.map vecI)[placeD x.decs v]?=some (vecI l):=by rw [List.getElem?_map,hl];rfl
 have hlgn:=ne_of_get hlg
 have hrc:=rcN_rng hok (get_lt hy) hbit
 unfold rcN at hrc
 rw [hy] at hrc
 dsimp only at hrc
 have rowg : ∀ (j : Nat) (a : Int),l[j]?=some a→z.rows[j]?=some (unitRow x.grain y.card a):=fun j a ha=>by
  rw [hzy]
  unfold decRows
  have hj:=get_lt ha
  rw [List.getElem?_map,List.getElem?_range (by omega)]
  rw [Option.map_some]
  unfold fixC
  rw [getD_of_get hl,getD_of_get ha]
 have hplI : (placeD x.decs v : Int)<p.length:=by have:=get_lt hl;omega
 simp only [go_sem,Int.reduceEq,Nat.reduceEqDiff,e5,e6,e7,e9,e11,e73,e74,e75,hb,y5,y13,hvx,s1,s2,hbit,appendA_U]
 refine W.loop0 696896958226086188257118292213201016766480 (by rfl) (fun ρ2 Hy=>Hy=H5∧∃ j : Nat,ρ2 120=lin j∧j≤z.rows.length) (fun ρ2 H=>z.rows.length - (iv (ρ2 120)).toNat) ?_ ?_
 ·simp only [go_sem,Nat.reduceEqDiff,appendA_U]
  exact ⟨0,rfl,by omega⟩
 rintro ρ2 Hy ⟨rfl,j,h120,hj⟩
 refine vc_sound _ _ _ (by rfl) ?_
 by_cases hb2 : (j : Int)<z.rows.length
 ·obtain ⟨a,ha⟩:=get_of_lt (l:=l) (i:=j) (by omega)
  have ha2:=l2 a (List.mem_of_getElem? ha)
  have hr:=rowg j a ha
  obtain ⟨q,rfl⟩:=Int.eq_ofNat_of_zero_le ha2.1
  have hrg : (z.rows.map vecI)[j]?=some (vecI (unitRow x.grain y.card q)):=by rw [List.getElem?_map,hr];rfl
  have hrgn:=ne_of_get hrg
  have hua:=unitRow_get (g:=x.grain) ha2
  rw [Int.toNat_natCast] at hua
  have huan:=ne_of_get hua
  have hul : (q : Int)<(unitRow x.grain y.card q).length:=by rw [unitRow_len];omega
  have hjl : (j : Int)<l.length:=by omega
  have hln:=ne_of_get ha
  have w2:=IntWalk.i64_in ((j : Int)+1) (by omega)
  simp only [go_sem,Nat.reduceEqDiff,Nat.reducePow,Nat.reduceDiv,Nat.reduceMod,reduceCtorEq,h120,hb2,hrg,hrgn,appendA_U]
  refine W.draw 12 [0,0,0,6,14,0,62,126,255,511,0,1024] Try.mixed (by kernel_rfl) (by kernel_rfl) ?_
  simp only [go_sem,Nat.reduceEqDiff,Nat.reducePow,Nat.reduceDiv,Nat.reduceMod,Nat.reduceAdd,reduceCtorEq,e5,e6,e7,e9,e11,e73,e74,e75,h120,vecV,hlg,hlgn,hplI,ha,hln,hjl,hua,huan,hul,y7,w2,appendA_U]
  exact ⟨⟨j+1,rfl,by omega⟩,by omega⟩
 ·have w3:=IntWalk.i64_in ((placeD x.decs v : Int)+1) (by omega)
  simp only [go_sem,Nat.reduceEqDiff,Nat.reducePow,Nat.reduceDiv,Nat.reduceMod,reduceCtorEq,h120,hb2,e5,e6,e7,e9,e11,e73,e74,e75,w1,w3,appendA_U]
  exact ⟨by omega,⟨v+1,rfl,by omega,by rw [hpl];rfl,xok⟩,by rw [h75];simp only [lin,iv_int];omega⟩
end Go.Proofs
