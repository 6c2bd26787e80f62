/- Own work: contracts. -/
import Derived.Test.YtcccmbeolcjacaaConA
set_option linter.all false
set_option linter.unusedSimpArgs false
set_option maxRecDepth 100000
namespace Go.Proofs
open Go.Hx
structure UtilOk (ns : List NodeP) (u : UtilP) : Prop where
 vars : PlacesOk u.vars ns.length
 size : (u.w.length : Int)=prodL (atL (cardsL ns) u.vars)
 w : ∀ x∈u.w,-100≤x∧x≤100
def UtilsOk (d : InfP) : Prop:=d.utils.length≤4∧∀ u∈d.utils,UtilOk d.nodes u
theorem vars_small {ns : List NodeP} {vars : List Int} (h8 : ns.length≤8) (hp : PlacesOk vars ns.length) (hc : ∀ y∈ns,1≤y.card∧y.card≤4) : SmallC (atL (cardsL ns) vars) :=
 parC_small (x:=⟨0,vars,[]⟩) h8 hp hc

set_option maxHeartbeats 2000000 in
theorem rightUtils_spec (d : InfP) (hf : InfFit d) (h8 : d.nodes.length≤8) (hc : ∀ y∈d.nodes,1≤y.card∧y.card≤4) (H : AHeap) (K : ARes→AHeap→Prop) (hK : K (.ret (.lit (.bool (decB (UtilsOk d))))) H) : ACall Try.prog G0 50 [infV d] H K:=by
 refine ACall.clo ⟨_,Try.func50,rfl,rfl⟩ fun hcl=>?_
 have hul:=hf.utils.1
 have no : ¬ UtilsOk d→∀ H',Over H H'→FinV Try.prog G0 H K (.lit (.bool false)) H':=fun h H' ov=>FinV.dropO G0_ok hcl ov (.lit _) (by rw [decB_false h] at hK;exact hK)
 refine ACall.of_body (n:=74) (rs:=[.tmp 2]) Try.func50 rfl rfl rfl (by decide) (by kernel_rfl) (by simp) ?_
 simp only [go_sem,Nat.reduceEqDiff,infV_eq,infC,appendA_U]
 obtain ⟨H1,hH1⟩ : ∃ H1,H1=ext H [.arr 0 39 [.lit (.int .i64 d.grain),.vec d.nodes.length (nodesC d.nodes),.lit (.int .u64 (d.decs : Int)),.vec d.utils.length (utilsC d.utils)]]:=⟨_,rfl⟩
 have l1 : H1.live H.next 0=some (39,[.lit (.int .i64 d.grain),.vec d.nodes.length (nodesC d.nodes),.lit (.int .u64 (d.decs : Int)),.vec d.utils.length (utilsC d.utils)]):=by rw [hH1];exact get_live (get_ext0 ..)
 have n1 : H1.next=H.next+1:=by rw [hH1];rfl
 have o1 : Over H H1:=by rw [hH1];exact .ext _ _
 rw [← hH1]
 refine W.loop0 9444732965739290166632 (by rfl) (fun ρ H'=>∃ k : Nat,ρ 18=lin k∧k≤d.utils.length∧Over H1 H'∧ρ 3=.lit (.bool (decide ((d.utils.length : Int)≤4)))∧(0<k→d.utils.length≤4)∧∀ u∈d.utils.take k,UtilOk d.nodes u) (fun ρ H=>d.utils.length - (iv (ρ 18)).toNat) ?_ ?_
 ·simp only [go_sem,Nat.reduceEqDiff,appendA_U]
  exact ⟨0,rfl,by omega,.refl _,by omega,by simp⟩
 rintro ρ H' ⟨k,h18,hk,ov,h3,hk4,hall⟩
 refine W.env fun E hE=>?_
 have e1 : E 1=.ptr H.next 0 0:=by rw [hE];simp only [go_sem,Nat.reduceEqDiff,Nat.reducePow,Nat.reduceDiv,Nat.reduceMod,reduceCtorEq,appendA_U]
 have e3 : E 3=.lit (.bool (decide ((d.utils.length : Int)≤4))):=by rw [hE];simp only [go_sem,Nat.reduceEqDiff,Nat.reducePow,Nat.reduceDiv,Nat.reduceMod,h3,appendA_U]
 have e16 : E 16=.vec d.utils.length (utilsC d.utils):=by rw [hE];simp only [go_sem,Nat.reduceEqDiff,Nat.reducePow,Nat.reduceDiv,Nat.reduceMod,reduceCtorEq,appendA_U]
 have e17 : E 17=lin d.utils.length:=by rw [hE];simp only [go_sem,Nat.reduceEqDiff,Nat.reducePow,Nat.reduceDiv,Nat.reduceMod,reduceCtorEq,appendA_U]
 have e18 : E 18=lin k:=by rw [hE];simp only [go_sem,Nat.reduceEqDiff,Nat.reducePow,Nat.reduceDiv,Nat.reduceMod,h18,appendA_U]
 clear hE
 refine vc_sound _ _ _ (by rfl) ?_
 have ovn:=ov.next
 have l2:=(ov.live (g:=0) (by omega : H.next<H1.next)).trans l1
 by_cases hb : (k : Int)<d.utils.length
 rotate_left
 ·rw [List.take_of_length_le (by omega)] at hall
  by_cases h4 : (d.utils.length : Int)≤4
  ·simp only [go_sem,Nat.reduceEqDiff,Nat.reducePow,Nat.reduceDiv,Nat.reduceMod,e3,e17,e18,hb,h4,appendA_U]
   rw [decB_true ⟨by omega,hall⟩] at hK
   exact FinV.dropO G0_ok hcl (o1.trans ov) (.lit _) hK
  ·simp only [go_sem,Nat.reduceEqDiff,Nat.reducePow,Nat.reduceDiv,Nat.reduceMod,e3,e17,e18,hb,h4,appendA_U]
   exact no (fun h=>by have:=h.1;omega) _ (o1.trans ov)
 obtain ⟨u,hu⟩:=get_of_lt (l:=d.utils) (i:=k) (by omega)
 have hum:=List.mem_of_getElem? hu
 obtain ⟨f1,f2⟩:=hf.utils.2 u hum
 have hne:=utilsC_ne hu
 have p0:=utilsC_part hu
 have p1 : k*2+2≤(utilsC d.utils).length:=by rw [utilsC_len];omega
 have ove : ∀ L,Over H (ext H' L):=fun L=>(o1.trans ov).trans (.ext _ _)
 by_cases h4 : (d.utils.length : Int)≤4
 rotate_left
 ·simp only [go_sem,Nat.reduceEqDiff,Nat.reducePow,Nat.reduceDiv,Nat.reduceMod,Nat.reduceAdd,reduceCtorEq,e1,e3,e16,e17,e18,hb,h4,hne,p0,p1,guardA_undef,appendA_U]
  exact no (fun h=>by have:=h.1;omega) _ (ove _)
 have l3 : ∀ L,(ext H' L).live H.next 0=_:=fun L=>(ext_live_old (by omega)).trans l2
 simp only [go_sem,Nat.reduceEqDiff,Nat.reducePow,Nat.reduceDiv,Nat.reduceMod,Nat.reduceAdd,e1,e3,e16,e17,e18,hb,h4,hne,p0,p1,l3,guardA_undef,appendA_U]
 obtain ⟨H2,hH2⟩ : ∃ H2,H2=ext H' [.arr 0 85 [.vec u.vars.length (ints u.vars),.vec u.w.length (ints u.w)]]:=⟨_,rfl⟩
 have m1 : H2.live H'.next 0=some (85,[.vec u.vars.length (ints u.vars),.vec u.w.length (ints u.w)]):=by rw [hH2];exact get_live ext1_get_new
 have m2:=l3 [.arr 0 85 [.vec u.vars.length (ints u.vars),.vec u.w.length (ints u.w)]]
 rw [← hH2] at m2
 have n2 : H2.next=H'.next+1:=by rw [hH2];rfl
 have ov2 : Over H H2:=by rw [hH2];exact ove _
 rw [← hH2]
 refine AApply.clo (increasing_spec u.vars d.nodes.length (by omega) _ _ ⟨trivial,?_⟩)
 by_cases c1 : PlacesOk u.vars d.nodes.length
 rotate_left
 ·simp only [go_sem,Nat.reduceEqDiff,reduceCtorEq,c1,appendA_U]
  exact no (fun h=>c1 (h.2 u hum).vars) _ ov2
 have sm:=vars_small h8 c1 hc
 have pl : (atL (cardsL d.nodes) u.vars).length=u.vars.length:=atL_len _ _
 have v8:=c1.len
 simp only [go_sem,Nat.reduceEqDiff,c1,m1,appendA_U]
 refine W.loop0 562881233944896 (by rfl) (fun ρ' H3=>H3=H2∧∃ j : Nat,ρ' 36=lin j∧j≤u.vars.length∧ρ' 6=lin (prodL ((atL (cardsL d.nodes) u.vars).take j))) (fun ρ' H=>u.vars.length - (iv (ρ' 36)).toNat) ?_ ?_
 ·simp only [go_sem,Nat.reduceEqDiff,appendA_U]
  exact ⟨0,rfl,by omega,by simp [prodL_nil]⟩
 rintro ρ' H3 ⟨rfl,j,h36,hj,h6⟩
 refine vc_sound _ _ _ (by rfl) ?_
 by_cases hb2 : (j : Int)<u.vars.length
 ·obtain ⟨q,hq⟩:=get_of_lt (l:=u.vars) (i:=j) (by omega)
  obtain ⟨i,rfl,y,hy⟩:=get_of_int (l:=d.nodes) (c1.2 q (List.mem_of_getElem? hq)).1 (c1.2 q (List.mem_of_getElem? hq)).2
  have hne2:=ne_of_get hq
  have hne3:=nodesC_ne hy
  have ey:=nodesC_0 hy
  have hi : (i : Int)<d.nodes.length:=by have:=get_lt hy;omega
  have pk : (atL (cardsL d.nodes) u.vars)[j]?=some y.card:=by rw [atL_get hq,Int.toNat_natCast,getD_of_get (cards_get hy)]
  have b1:=(sm.take (j+1)).prod
  rw [take_succ_get pk,prodL_snoc] at b1
  have w1:=IntWalk.i64_in ((j : Int)+1) (by omega)
  have w2:=IntWalk.i64_in (prodL ((atL (cardsL d.nodes) u.vars).take j)*y.card) (by omega)
  simp only [go_sem,Nat.reduceEqDiff,Nat.reducePow,Nat.reduceDiv,Nat.reduceMod,reduceCtorEq,h36,h6,e1,m2,hb2,hq,hne2,hne3,hi,ey,w1,w2,appendA_U]
  exact ⟨⟨j+1,by simp,by omega,by rw [take_succ_get pk,prodL_snoc]⟩,by omega⟩
 rw [List.take_of_length_le (by omega)] at h6
 by_cases c2 : (u.w.length : Int)=prodL (atL (cardsL d.nodes) u.vars)
 rotate_left
 ·simp only [go_sem,Nat.reduceEqDiff,Nat.reducePow,Nat.reduceDiv,Nat.reduceMod,reduceCtorEq,h36,h6,m1,hb2,c2,appendA_U]
  exact no (fun h=>c2 (h.2 u hum).size) _ ov2
 simp only [go_sem,Nat.reduceEqDiff,Nat.reducePow,Nat.reduceDiv,Nat.reduceMod,reduceCtorEq,h36,h6,m1,hb2,c2,appendA_U]
 refine W.loop0 4721790022117341791240 (by rfl) (fun ρ2 H4=>H4=H3∧∃ i : Nat,ρ2 59=lin i∧i≤u.w.length∧ρ2 3=.lit (.bool true)∧∀ w∈u.w.take i,-100≤w∧w≤100) (fun ρ2 H=>u.w.length - (iv (ρ2 59)).toNat) ?_ ?_
 ·simp only [go_sem,Nat.reduceEqDiff,Nat.reducePow,Nat.reduceDiv,Nat.reduceMod,reduceCtorEq,appendA_U]
  exact ⟨0,rfl,by omega,by simp⟩
 rintro ρ2 H4 ⟨rfl,i,h59,hi,h3',hw⟩
 refine vc_sound _ _ _ (by rfl) ?_
 have hpr:=sm.prod
 by_cases hb3 : (i : Int)<u.w.length<;>have hb3':=hb3<;>rw [c2] at hb3'
 ·obtain ⟨a,ha⟩:=get_of_lt (l:=u.w) (i:=i) (by omega)
  have ham:=List.mem_of_getElem? ha
  have hane:=ne_of_get ha
  by_cases d1 : a ≥ -100
  rotate_left
  ·simp only [go_sem,Nat.reduceEqDiff,Nat.reducePow,Nat.reduceDiv,Nat.reduceMod,reduceCtorEq,h59,h3',hb3,hb3',ha,hane,d1,guardA_undef,appendA_U]
   exact no (fun h=>by have:=(h.2 u hum).w a ham;omega) _ ov2
  by_cases d2 : a≤100
  rotate_left
  ·simp only [go_sem,Nat.reduceEqDiff,Nat.reducePow,Nat.reduceDiv,Nat.reduceMod,reduceCtorEq,h59,h3',hb3,hb3',ha,hane,d1,d2,guardA_undef,appendA_U]
   exact no (fun h=>by have:=(h.2 u hum).w a ham;omega) _ ov2
  have w1:=IntWalk.i64_in ((i : Int)+1) (by omega)
  simp only [go_sem,Nat.reduceEqDiff,Nat.reducePow,Nat.reduceDiv,Nat.reduceMod,reduceCtorEq,h59,h3',hb3,hb3',ha,hane,d1,d2,w1,guardA_undef,appendA_U]
  refine ⟨⟨i+1,by simp,by omega,fun w hw'=>?_⟩,by omega⟩
  rw [take_succ_get ha] at hw'
  rcases List.mem_append.1 hw' with hw'|hw'
  ·exact hw w hw'
  ·obtain rfl:=List.mem_singleton.1 hw';exact ⟨by omega,by omega⟩
 ·have w1:=IntWalk.i64_in ((k : Int)+1) (by omega)
  rw [List.take_of_length_le (by omega)] at hw
  simp only [go_sem,Nat.reduceEqDiff,Nat.reducePow,Nat.reduceDiv,Nat.reduceMod,reduceCtorEq,h59,h3',e18,hb3,hb3',w1,appendA_U]
  refine ⟨by omega,⟨k+1,by simp,by omega,by rw [hH2];exact ov.trans (.ext _ _),fun _=>by omega,fun y hy=>?_⟩,by rw [h18];simp only [lin,iv_int];omega⟩
  rw [take_succ_get hu] at hy
  rcases List.mem_append.1 hy with hy|hy
  ·exact hall y hy
  ·obtain rfl:=List.mem_singleton.1 hy;exact ⟨c1,c2,hw⟩

/-- A diagram is valid. -/
structure InfOk (d : InfP) : Prop where
 n : RightN d
 net : NetOk d.grain (fillL d fun _ _=>0)
 utils : UtilsOk d
end Go.Proofs
set_option linter.unusedSimpArgs false
set_option maxRecDepth 100000
namespace Go.Proofs
open Go.Hx
theorem unitRow_len (g card x : Int) : (unitRow g card x).length=card.toNat:=by simp [unitRow]
theorem fillL_mem {d : InfP} {c : Nat→Nat→Int} {y : NodeP} (h : y∈fillL d c) : ∃ v x,d.nodes[v]?=some x∧y=fillN d c (decL d).length v x:=by
 obtain ⟨v,hv⟩:=List.mem_iff_getElem?.1 h
 have hl:=get_lt hv
 rw [show (fillL d c).length=d.nodes.length from fillK_len _ _ _] at hl
 obtain ⟨x,hx⟩:=get_of_lt hl
 have:=fillK_get (c:=c) (k:=(decL d).length) hx
 rw [show fillK d c (decL d).length=fillL d c from rfl,hv] at this
 exact ⟨v,x,hx,Option.some.inj this⟩
theorem fillL_fit {d : InfP} (hf : InfFit d) (hR : RightN d) (c : Nat→Nat→Int) : NetFit (fillL d c):=by
 refine ⟨by rw [show (fillL d c).length=d.nodes.length from fillK_len _ _ _];exact hf.nodes.1,fun y hy=>?_⟩
 obtain ⟨v,x,hx,rfl⟩:=fillL_mem hy
 have hxm:=List.mem_of_getElem? hx
 obtain ⟨f1,f2,f3⟩:=hf.nodes.2 x hxm
 unfold fillN
 split
 ·rename_i h
  obtain ⟨x1,x2⟩:=hR.dec v x hx h.1
  have ps:=(parC_small hR.n1.2 x2 hR.card).prod
  have hc:=hR.card x hxm
  refine ⟨f1,?_,fun r hr=>?_⟩
  ·show ((x.rows++decRows d.grain d.nodes c (placeD d.decs v) x).length : Int)<_
   rw [x1]
   simp only [decRows,List.nil_append,List.length_map,List.length_range,rowsN]
   omega
  ·rw [show ({ x with rows:=x.rows++decRows d.grain d.nodes c (placeD d.decs v) x } : NodeP).rows=x.rows++decRows d.grain d.nodes c (placeD d.decs v) x from rfl,x1,List.nil_append] at hr
   obtain ⟨i,_,rfl⟩:=List.mem_map.1 hr
   rw [unitRow_len];omega
 ·exact ⟨f1,f2,f3⟩

theorem infCheck_spec (d : InfP) (hf : InfFit d) (H : AHeap) (K : ARes→AHeap→Prop) (hK : K (.ret (lin (if decB (InfOk d) then 0 else 200))) H) : ACall Try.prog G0 11 [infV d] H K:=by
 refine ACall.clo ⟨_,Try.func11,rfl,rfl⟩ fun hcl=>?_
 have no : ¬ InfOk d→∀ H',Over H H'→FinV Try.prog G0 H K (.lit (.int .i64 200)) H':=fun h H' ov=>FinV.dropO G0_ok hcl ov (.lit _) (by rw [decB_false h] at hK;exact hK)
 have hg : InfOk d→1≤d.grain∧d.grain≤60:=fun h=>h.net.g1
 refine ACall.of_body (n:=25) (rs:=[.tmp 2]) Try.func11 rfl rfl rfl (by decide) (by kernel_rfl) (by simp) ?_
 simp only [go_sem,Nat.reduceEqDiff,infV_eq,infC,appendA_U]
 obtain ⟨H1,hH1⟩ : ∃ H1,H1=ext H [.arr 0 39 [.lit (.int .i64 d.grain),.vec d.nodes.length (nodesC d.nodes),.lit (.int .u64 (d.decs : Int)),.vec d.utils.length (utilsC d.utils)]]:=⟨_,rfl⟩
 have l1 : H1.live H.next 0=some (39,[.lit (.int .i64 d.grain),.vec d.nodes.length (nodesC d.nodes),.lit (.int .u64 (d.decs : Int)),.vec d.utils.length (utilsC d.utils)]):=by rw [hH1];exact get_live (get_ext0 ..)
 have o1 : Over H H1:=by rw [hH1];exact .ext _ _
 rw [← hH1]
 by_cases c1 : d.grain<1
 ·simp only [go_sem,Nat.reduceEqDiff,l1,c1,guardA_undef,appendA_U]
  exact no (fun h=>by have:=hg h;omega) _ o1
 by_cases c2 : d.grain > 60
 ·simp only [go_sem,Nat.reduceEqDiff,l1,c1,c2,guardA_undef,appendA_U]
  exact no (fun h=>by have:=hg h;omega) _ o1
 simp only [go_sem,Nat.reduceEqDiff,Nat.reduceAdd,l1,c1,c2,guardA_undef,appendA_U]
 refine AApply.clo (rightNodes_spec d hf _ _ ⟨trivial,?_⟩)
 by_cases c3 : RightN d
 rotate_left
 ·rw [decB_false c3]
  simp only [go_sem,Nat.reduceEqDiff,appendA_U]
  exact no (fun h=>c3 h.n) _ o1
 rw [decB_true c3]
 simp only [go_sem,Nat.reduceEqDiff,Nat.reduceAdd,l1,appendA_U]
 refine AApply.clo (filled_spec d hf c3 (fun _ _=>0) _ [] _ (fun i h=>by cases h) rfl rfl (fun p r v x H2 _ hx _ _=>⟨⟨Int.le_refl 0,by have:=c3.card x (List.mem_of_getElem? hx);omega⟩,PCall.pure fun H3=>chk1_spec _ _ H3 _ ⟨rfl,rfl⟩⟩) _ ⟨trivial,?_⟩)
 simp only [go_sem,Nat.reduceEqDiff,appendA_U]
 refine AApply.clo (netCheck_spec d.grain _ (fillL_fit hf c3 _) _ _ ⟨trivial,?_⟩)
 by_cases c4 : NetOk d.grain (fillL d fun _ _=>0)
 rotate_left
 ·rw [netB_false c4]
  simp only [go_sem,Int.reduceEq,Nat.reduceEqDiff,guardA_undef,appendA_U]
  exact no (fun h=>c4 h.net) _ o1
 rw [netB_true c4]
 simp only [go_sem,Nat.reduceEqDiff,Nat.reduceAdd,l1,guardA_undef,appendA_U]
 refine AApply.clo (rightUtils_spec d hf c3.n1.2 c3.card _ _ ⟨trivial,?_⟩)
 by_cases c5 : UtilsOk d
 rotate_left
 ·rw [decB_false c5]
  simp only [go_sem,Nat.reduceEqDiff,appendA_U]
  exact no (fun h=>c5 h.utils) _ o1
 rw [decB_true c5]
 simp only [go_sem,Nat.reduceEqDiff,appendA_U]
 rw [decB_true (⟨c3,c4,c5⟩ : InfOk d)] at hK
 exact FinV.dropO G0_ok hcl o1 (.lit _) hK
end Go.Proofs
set_option linter.unusedSimpArgs false
set_option maxRecDepth 100000
namespace Go.Proofs
open Go.Hx
structure PolOk (d : InfP) (p : List (List Int)) : Prop where
 len : p.length=(decL d).length
 row : ∀ (k v : Nat) (x : NodeP) (l : List Int),(decL d)[k]?=some v→d.nodes[v]?=some x→p[k]?=some l→l.length=rowsN d.nodes x∧∀ a∈l,0≤a∧a<x.card
def PolFit (p : List (List Int)) : Prop:=(p.length : Int)<2 ^ 38∧∀ r∈p,(r.length : Int)<2 ^ 38
noncomputable def polErr (d : InfP) (p : List (List Int)) : Int:=if decB (InfOk d) then (if decB (PolOk d p) then 0 else 201) else 200

set_option maxHeartbeats 2000000 in
theorem checkPolicy_spec (d : InfP) (hf : InfFit d) (p : List (List Int)) (hp : PolFit p) (H : AHeap) (K : ARes→AHeap→Prop) (hK : K (.ret (lin (polErr d p))) H) : ACall Try.prog G0 21 [infV d,vecV p] H K:=by
 refine ACall.clo ⟨_,Try.func21,rfl,rfl⟩ fun hcl=>?_
 refine ACall.of_body (n:=64) (rs:=[.cell 4 43]) Try.func21 rfl rfl rfl (by decide) (by kernel_rfl) (by simp) ?_
 simp only [go_sem,Nat.reduceEqDiff,Nat.reduceAdd,infV_eq,infC,appendA_U]
 obtain ⟨H1,hH1⟩ : ∃ H1,H1=ext H [.arr 0 39 (infC d),.arr 0 48 [vecV p],.arr 0 43 [.lit (.int .i64 0)]]:=⟨_,rfl⟩
 have g1 : H1.get H.next=some (.arr 0 39 (infC d)):=by rw [hH1];exact get_ext0 ..
 have g2 : H1.get (H.next+1)=some (.arr 0 48 [vecV p]):=by rw [hH1];exact get_ext H _ 1 (by simp)
 have g3 : H1.get (H.next+2)=some (.arr 0 43 [.lit (.int .i64 0)]):=by rw [hH1];exact get_ext H _ 2 (by simp)
 have l1:=get_live g1
 have l3:=get_live g3
 have n1 : H1.next=H.next+3:=by rw [hH1];rfl
 have o1 : Over H H1:=by rw [hH1];exact .ext _ _
 unfold infC at hH1 l1
 rw [← hH1]
 refine AApply.clo (infCheck_spec d hf _ _ ⟨trivial,?_⟩)
 by_cases hok : InfOk d
 rotate_left
 ·rw [decB_false hok]
  simp only [go_sem,Int.reduceEq,Nat.reduceEqDiff,l3,appendA_U]
  unfold polErr at hK
  rw [decB_false hok] at hK
  exact FinV.dropO G0_ok hcl (o1.upd (by omega) _) (.lit _) hK
 rw [decB_true hok]
 have hR:=hok.n
 have no : ¬ PolOk d p→∀ H',Over H H'→FinV Try.prog G0 H K (.lit (.int .i64 201)) H':=fun h H' ov=>FinV.dropO G0_ok hcl ov (.lit _) (by unfold polErr at hK;rw [decB_true hok,decB_false h] at hK;exact hK)
 have nb0 : H.next≠H1.next:=by omega
 have l1e : ∀ L,(ext H1 L).live H.next 0=_:=fun L=>(ext_live_old (by omega)).trans l1
 simp only [go_sem,Nat.reduceEqDiff,Nat.reduceAdd,l1e,appendA_U]
 refine AApply.clo (dec_clo d _ _ ⟨trivial,?_⟩)
 simp only [go_sem,appendA_U]
 obtain ⟨H2,hH2⟩ : ∃ H2,H2=ext (ext H1 [.arr 0 3 [.lit (.int .i64 0)]]) [infB d]:=⟨_,rfl⟩
 rw [← hH2]
 have o2 : Over H1 H2:=by rw [hH2];exact (Over.ext _ _).trans (.ext _ _)
 have n2 : H2.next=H.next+5:=by rw [hH2,ext_next,ext_next,n1];rfl
 have hbx : H2.get (H.next+4)=some (infB d):=by rw [hH2,show H.next+4=(ext H1 [.arr 0 3 [.lit (.int .i64 0)]]).next by rw [ext_next,n1];rfl];exact ext1_get_new
 have g6 : H2.get (H.next+3)=some (.arr 0 3 [.lit (.int .i64 0)]):=by rw [hH2,get_ext_old _ _ _ (by rw [ext_next,n1];simp),show H.next+3=H1.next by omega];exact ext1_get_new
 have o02:=o1.trans o2
 refine W.env fun E hE=>?_
 have e2 : E 2=.ptr H.next 0 0:=by rw [hE];simp only [go_sem,Nat.reduceEqDiff,appendA_U]
 have e3 : E 3=.ptr (H.next+1) 0 0:=by rw [hE];simp only [go_sem,Nat.reduceEqDiff,appendA_U]
 have e4 : E 4=.ptr (H.next+2) 0 0:=by rw [hE];simp only [go_sem,Nat.reduceEqDiff,appendA_U]
 have e6 : E 6=.ptr (H.next+3) 0 0:=by rw [hE,← n1];simp only [go_sem,Nat.reduceEqDiff,appendA_U]
 have eN : (ext H1 [.arr 0 3 [.lit (.int .i64 0)]]).next=H.next+4:=by rw [ext_next,n1];rfl
 have e17 : E 17=.clo 89 [] [.ptr (H.next+4) 0 0]:=by rw [hE,← eN];rfl
 clear hE
  -- what stays as it is
 let S : AHeap→Prop:=fun Hx=>H2.next≤Hx.next∧∀ id,id<H2.next→id≠H.next+3→id≠H.next+2→Hx.get id=H2.get id
 have ovS : ∀ {Hx},S Hx→Over H Hx:=fun h=>⟨by have:=h.1;omega,fun id hi=>(h.2 id (by omega) (by omega) (by omega)).trans (o02.old id hi)⟩
 refine W.rangeIt (f:=89) (first:=[]) (cap:=[.ptr (H.next+4) 0 0]) (by show E 17=_;exact e17) (dec_it d (by have:=hf.nodes.1;omega) hf.decs (H.next+4))
  (fun k Hx=>S Hx∧Hx.get (H.next+2)=some (.arr 0 43 [.lit (.int .i64 0)])∧Hx.get (H.next+3)=some (.arr 0 3 [.lit (.int .i64 k)])∧∀ j v x,j<k→(decL d)[j]?=some v→d.nodes[v]?=some x→∃ l,p[j]?=some l∧l.length=rowsN d.nodes x∧∀ a∈l,0≤a∧a<x.card)
  (fun c Hx=>c=.ret∧S Hx∧Hx.get (H.next+2)=some (.arr 0 43 [.lit (.int .i64 201)])∧¬ PolOk d p)
  (fun k Hx h=>by rw [h.1.2 _ (by omega) (by omega) (by omega)];exact hbx)
  (fun k Hx b h=>⟨⟨h.1.1,fun id h1 h2 h3=>by rw [upd_get,if_neg (by omega)];exact h.1.2 id h1 h2 h3⟩,by rw [upd_get,if_neg (by omega)];exact h.2.1,by rw [upd_get,if_neg (by omega)];exact h.2.2.1,h.2.2.2⟩)
  (fun c Hx b h=>⟨h.1,⟨h.2.1.1,fun id h1 h2 h3=>by rw [upd_get,if_neg (by omega)];exact h.2.1.2 id h1 h2 h3⟩,by rw [upd_get,if_neg (by omega)];exact h.2.2.1,h.2.2.2⟩)
  (fun b=>⟨⟨by rw [ext_next];omega,fun id h1 h2 h3=>ext1_get_old h1⟩,by rw [ext1_get_old (by omega),o2.old _ (by omega)];exact g3,by rw [ext1_get_old (by omega)];exact g6,fun j v x h=>absurd h (Nat.not_lt_zero _)⟩)
  (by decide) decX_two (fun _ _ _=>trivial) (fun _ _ _=>trivial) (fun k y Hx B Bb hy hj hn hB hBb=>?_) (fun Hx hj hn=>?_) (fun Hx hs hn=>?_) (fun i Hx hs hn=>by cases hs.1)
 ·obtain ⟨v,hv,rfl⟩:=decX_get hy
  obtain ⟨v1,v2,v3⟩:=decK_place hv
  obtain ⟨x,hx⟩:=get_of_lt (l:=d.nodes) (i:=v) v1
  obtain ⟨x1,x2⟩:=hR.dec v x hx v2
  refine vc_sound _ _ _ (by rfl) ?_
  simp only [go_sem,Nat.reduceEqDiff,Nat.reduceLT,setPs,envN,asgIt,List.foldl_cons,List.foldl_nil,List.zip_cons_cons,List.zip_nil_right,hB,appendA_U]
  obtain ⟨H3,hH3⟩ : ∃ H3,H3=Hx.upd H2.next Bb:=⟨_,rfl⟩
  rw [← hH3]
  obtain ⟨st,pd,n',en,ps',as',bo,hBe⟩:=hBb
  have n3 : H3.next=Hx.next:=by rw [hH3];rfl
  have o3 : ∀ id,id≠H2.next→H3.get id=Hx.get id:=fun id h=>by rw [hH3,upd_get,if_neg h]
  have jB : H3.get H2.next=some Bb:=by rw [hH3,upd_get,if_pos rfl]
  have hS3 : S H3:=⟨by rw [n3];exact hj.1.1,fun id h1 h2 h3=>(o3 id (by omega)).trans (hj.1.2 id h1 h2 h3)⟩
  have j1:=get_live ((hS3.2 _ (by omega) (by omega) (by omega)).trans ((o2.old _ (by omega)).trans g1))
  have j2:=get_live ((hS3.2 _ (by omega) (by omega) (by omega)).trans ((o2.old _ (by omega)).trans g2))
  have j4:=get_live ((o3 _ (by omega)).trans hj.2.1)
  have j6:=get_live ((o3 _ (by omega)).trans hj.2.2.1)
  unfold infC at j1
  have ps:=parC_small hR.n1.2 x2 hR.card
  have hin : InRange x.parents d.nodes.length:=fun q hq=>by have:=x2.2 q hq;omega
  have hpp : 1≤prodL (parC d.nodes x):=prodL_pos fun c hc=>(parC_mem hin hR.card c hc).1
  have hpb:=ps.prod
  have hrn : ((rowsN d.nodes x : Nat) : Int)=prodL (parC d.nodes x):=by unfold rowsN;omega
  have hvn : (v : Int)<d.nodes.length:=by omega
  have hne:=nodesC_ne hx
  have ec:=nodesC_0 hx
  have hkl:=get_lt hv
  have hk8 : k<8:=by
   have h1:=decK_len (D:=d.decs) (n:=d.nodes.length)
   have h2:=hR.n1.2
   have h3 : k<(decK d.decs d.nodes.length).length:=hkl
   omega
  refine W.env fun E1 hE1=>?_
  have m2 : E1 2=.ptr H.next 0 0:=by rw [hE1];simp only [go_sem,Nat.reduceEqDiff,Nat.reduceLT,envN,e2,appendA_U]
  have m3 : E1 3=.ptr (H.next+1) 0 0:=by rw [hE1];simp only [go_sem,Nat.reduceEqDiff,Nat.reduceLT,envN,e3,appendA_U]
  have m4 : E1 4=.ptr (H.next+2) 0 0:=by rw [hE1];simp only [go_sem,Nat.reduceEqDiff,Nat.reduceLT,envN,e4,appendA_U]
  have m6 : E1 6=.ptr (H.next+3) 0 0:=by rw [hE1];simp only [go_sem,Nat.reduceEqDiff,Nat.reduceLT,envN,e6,appendA_U]
  have m7 : E1 7=lin k:=by rw [hE1];simp only [go_sem,Nat.reduceEqDiff,Nat.reduceLT,envN,appendA_U]
  have m8 : E1 8=lin v:=by rw [hE1];simp only [go_sem,Nat.reduceEqDiff,Nat.reduceLT,envN,appendA_U]
  clear hE1
  have stop : ¬ PolOk d p→(H3.upd (H.next+2) (Blk.arr 0 43 [.lit (.int .i64 201)])).get H2.next=some Bb∧Hx.next≤(H3.upd (H.next+2) (Blk.arr 0 43 [.lit (.int .i64 201)])).next∧S (H3.upd (H.next+2) (Blk.arr 0 43 [.lit (.int .i64 201)])) ∧
    (H3.upd (H.next+2) (Blk.arr 0 43 [.lit (.int .i64 201)])).get (H.next+2)=some (.arr 0 43 [.lit (.int .i64 201)])∧¬ PolOk d p:=fun h =>
   ⟨by rw [upd_get,if_neg (by omega)];exact jB,by rw [upd_next];omega,⟨by rw [upd_next];exact hS3.1,fun id h1 h2 h3=>by rw [upd_get,if_neg h3];exact hS3.2 id h1 h2 h3⟩,by rw [upd_get,if_pos rfl],h⟩
  refine vc_sound _ _ _ (by rfl) ?_
  simp only [go_sem,appendA_U]
  refine W.draw 14 [0,0,2,7,15,31,31,127,255,511,31,1055,31,7199] Try.mixed (by kernel_rfl) (by kernel_rfl) ?_
  by_cases c1 : (k : Int) ≥ p.length
  ·simp only [go_sem,Nat.reduceEqDiff,Nat.reducePow,Nat.reduceDiv,Nat.reduceMod,Nat.reduceAdd,m2,m3,m4,m7,m8,j1,j2,j4,c1,vecV,guardA_undef,bodyIt,appendA_U]
   exact stop fun h=>by have:=h.len;omega
  obtain ⟨l,hl⟩:=get_of_lt (l:=p) (i:=k) (by omega)
  have hlm:=List.mem_of_getElem? hl
  have hlne:=ne_of_get hl
  have hkp : (k : Int)<p.length:=by omega
  have hll:=hp.2 l hlm
  simp only [go_sem,Nat.reduceEqDiff,Nat.reducePow,Nat.reduceDiv,Nat.reduceMod,Nat.reduceAdd,reduceCtorEq,m2,m3,m4,m7,m8,j1,j2,j4,c1,hkp,hl,hlne,vecV,guardA_undef,appendA_U]
  refine ⟨.lit (.int .i64 (rowsN d.nodes x : Nat)),[],PCall.pure fun H2=>rowsW_spec d.nodes v x hx hin ps H2 _ ⟨by rw [hrn];rfl,rfl⟩,?_⟩
  by_cases c2 : (l.length : Int)=rowsN d.nodes x
  rotate_left
  ·simp only [go_sem,Nat.reduceEqDiff,c2,m4,j4,bodyIt,appendA_U]
   exact stop fun h=>c2 (by have:=(h.row k v x l hv hx hl).1;omega)
  simp only [go_sem,Nat.reduceEqDiff,c2,m3,m7,j2,hkp,hl,hlne,vecV,appendA_U]
  refine W.loop0 288228177128457216 (by rfl) (fun ρ2 H4=>H4=H3∧∃ i : Nat,ρ2 41=lin i∧i≤l.length∧∀ a∈l.take i,0≤a∧a<x.card) (fun ρ2 H=>l.length - (iv (ρ2 41)).toNat) ?_ ?_
  ·simp only [go_sem,Nat.reduceEqDiff,appendA_U]
   exact ⟨0,rfl,by omega,by simp⟩
  rintro ρ2 H4 ⟨rfl,i,h41,hi,hw⟩
  refine vc_sound _ _ _ (by rfl) ?_
  by_cases hb2 : (i : Int)<l.length<;>have hb2':=hb2<;>rw [c2] at hb2'
  ·obtain ⟨a,ha⟩:=get_of_lt (l:=l) (i:=i) (by omega)
   have ham:=List.mem_of_getElem? ha
   have hane:=ne_of_get ha
   by_cases d1 : a<0
   ·simp only [go_sem,Nat.reduceEqDiff,Nat.reducePow,Nat.reduceDiv,Nat.reduceMod,reduceCtorEq,h41,hb2,hb2',ha,hane,d1,m2,m4,m8,j1,j4,guardA_undef,bodyIt,appendA_U]
    exact stop fun h=>by have:=(h.row k v x l hv hx hl).2 a ham;omega
   by_cases d2 : a ≥ x.card
   ·simp only [go_sem,Nat.reduceEqDiff,Nat.reducePow,Nat.reduceDiv,Nat.reduceMod,reduceCtorEq,h41,hb2,hb2',ha,hane,d1,d2,m2,m4,m8,j1,j4,hvn,hne,ec,guardA_undef,bodyIt,appendA_U]
    exact stop fun h=>by have:=(h.row k v x l hv hx hl).2 a ham;omega
   have w1:=IntWalk.i64_in ((i : Int)+1) (by omega)
   simp only [go_sem,Nat.reduceEqDiff,Nat.reducePow,Nat.reduceDiv,Nat.reduceMod,reduceCtorEq,h41,hb2,hb2',ha,hane,d1,d2,w1,m2,m8,j1,hvn,hne,ec,guardA_undef,appendA_U]
   refine ⟨⟨_,_,_,_,_,_,_,by rw [jB,hBe]⟩,⟨i+1,by simp,by omega,fun w hw'=>?_⟩,by omega⟩
   rw [take_succ_get ha] at hw'
   rcases List.mem_append.1 hw' with hw'|hw'
   ·exact hw w hw'
   ·obtain rfl:=List.mem_singleton.1 hw';exact ⟨by omega,by omega⟩
  ·rw [List.take_of_length_le (by omega)] at hw
   have w1:=IntWalk.i64_in ((k : Int)+1) (by omega)
   simp only [go_sem,Nat.reduceEqDiff,Nat.reducePow,Nat.reduceDiv,Nat.reduceMod,reduceCtorEq,h41,hb2,hb2',m6,j6,w1,bodyIt,appendA_U]
   refine ⟨by rw [upd_get,if_neg (by omega)];exact jB,by rw [upd_next];omega,⟨by rw [upd_next];exact hS3.1,fun id h1 h2 h3=>by rw [upd_get,if_neg h2];exact hS3.2 id h1 h2 h3⟩,by rw [upd_get,if_neg (by omega),o3 _ (by omega)];exact hj.2.1,by rw [upd_get,if_pos rfl];simp,fun j u z hj2 hu hz=>?_⟩
   rcases Nat.lt_or_ge j k with hjk|hjk
   ·exact hj.2.2.2 j u z hjk hu hz
   ·obtain rfl : j=k:=by omega
    rw [hv] at hu
    cases hu
    rw [hx] at hz
    cases hz
    exact ⟨l,hl,by omega,hw⟩
 ·rw [decX_len] at hj
  have j2:=get_live ((hj.1.2 _ (by omega) (by omega) (by omega)).trans ((o2.old _ (by omega)).trans g2))
  have j4:=get_live hj.2.1
  have j6:=get_live hj.2.2.1
  by_cases c3 : (p.length : Int)=(decL d).length
  rotate_left
  ·simp only [go_sem,Nat.reduceEqDiff,e3,e4,e6,j2,j4,j6,c3,vecV,appendA_U]
   exact no (fun h=>c3 (by have:=h.len;omega)) _ ((ovS hj.1).upd (by omega) _)
  have hpo : PolOk d p:=⟨by omega,fun k v x l h1 h2 h3=>by
   obtain ⟨l',h4,h5⟩:=hj.2.2.2 k v x (get_lt h1) h1 h2
   rw [h3] at h4
   cases h4
   exact h5⟩
  simp only [go_sem,Nat.reduceEqDiff,e3,e4,e6,j2,j4,j6,c3,vecV,appendA_U]
  unfold polErr at hK
  rw [decB_true hok,decB_true hpo] at hK
  exact FinV.dropO G0_ok hcl ((ovS hj.1).upd (by omega) _) (.lit _) hK
 ·obtain ⟨_,hS,h4,hno⟩:=hs
  have j4:=get_live h4
  simp only [go_sem,e4,j4,appendA_U]
  exact no hno _ (ovS hS)
end Go.Proofs
set_option linter.unusedSimpArgs false
set_option maxRecDepth 100000
namespace Go.Proofs
open Go.Hx
def fixC (p : List (List Int)) (k r : Nat) : Int:=(p.getD k []).getD r 0
theorem fix1_spec (p : List (List Int)) (k r b : Nat) (l : List Int) (a : Int) (hl : p[k]?=some l) (ha : l[r]?=some a) (H : AHeap) (hb : H.get b=some (.arr 0 48 [vecV p])) (K : ARes→AHeap→Prop) (hK : K (.ret (.lit (.int .i64 a))) H) :
  ACall Try.prog G0 62 [.lit (.int .i64 k),.lit (.int .i64 r),.ptr b 0 0] H K:=by
 have l0:=get_live hb
 have h1 : (k : Int)<p.length:=by have:=get_lt hl;omega
 have h2 : (r : Int)<l.length:=by have:=get_lt ha;omega
 have n1:=ne_of_get hl
 have n2:=ne_of_get ha
 refine ACall.of_body (n:=13) (rs:=[.tmp 5]) Try.func62 rfl rfl rfl (by decide) (by kernel_rfl) (by simp) ?_
 simp only [go_sem,Nat.reduceEqDiff,reduceCtorEq,l0,vecV,h1,h2,hl,ha,n1,n2,appendA_U]
 exact FinV.mk (Nat.le_refl _) hK
theorem fix1_pcall (p : List (List Int)) (k r b : Nat) (l : List Int) (a : Int) (hl : p[k]?=some l) (ha : l[r]?=some a) (H : AHeap) (hlt : b<H.next) (hb : H.get b=some (.arr 0 48 [vecV p])) :
  PCall Try.prog G0 (.clo 62 [] [.ptr b 0 0]) [.lit (.int .i64 k),.lit (.int .i64 r)] H (.lit (.int .i64 a)) [b] :=
 PCall.mk (fun i hi=>by obtain rfl:=List.mem_singleton.1 hi;exact hlt) fun H2 h2 _=>fix1_spec p k r b l a hl ha H2 ((h2 b (by simp)).trans hb) _ ⟨rfl,rfl⟩
theorem polOk_get {d : InfP} {p : List (List Int)} (h : PolOk d p) {k v r : Nat} {x : NodeP} (hv : (decL d)[k]?=some v) (hx : d.nodes[v]?=some x) (hr : r<rowsN d.nodes x) :
  ∃ l a,p[k]?=some l∧l[r]?=some a∧fixC p k r=a∧0≤a∧a<x.card:=by
 obtain ⟨l,hl⟩:=get_of_lt (l:=p) (i:=k) (by rw [h.len];exact get_lt hv)
 obtain ⟨h1,h2⟩:=h.row k v x l hv hx hl
 obtain ⟨a,ha⟩:=get_of_lt (l:=l) (i:=r) (by omega)
 exact ⟨l,a,hl,ha,by unfold fixC;rw [getD_of_get hl,getD_of_get ha],h2 a (List.mem_of_getElem? ha)⟩
def netNil : AVal:=.agg [.lit (.int .i64 0),.vec 0 []]
noncomputable def fixR (d : InfP) (p : List (List Int)) : AVal:=if polErr d p=0 then netV d.grain (fillL d (fixC p)) else netNil
theorem polErr_zero {d : InfP} {p : List (List Int)} : polErr d p=0↔InfOk d∧PolOk d p:=by
 unfold polErr
 by_cases h1 : InfOk d
 ·by_cases h2 : PolOk d p
  ·rw [decB_true h1,decB_true h2];exact ⟨fun _=>⟨h1,h2⟩,fun _=>rfl⟩
  ·rw [decB_true h1,decB_false h2];exact ⟨fun h=>by simp at h,fun h=>absurd h.2 h2⟩
 ·rw [decB_false h1];exact ⟨fun h=>by simp at h,fun h=>absurd h.1 h1⟩
theorem fix_spec (d : InfP) (hf : InfFit d) (p : List (List Int)) (hp : PolFit p) (H : AHeap) (K : ARes→AHeap→Prop) (hK : K (.ret (.tup [fixR d p,lin (polErr d p)])) H) : ACall Try.prog G0 22 [infV d,vecV p] H K:=by
 refine ACall.clo ⟨_,Try.func22,rfl,rfl⟩ fun hcl=>?_
 refine ACall.of_body (n:=17) (rs:=[.cell 4 64,.tmp 5]) Try.func22 rfl rfl rfl (by decide) (by kernel_rfl) (by simp) ?_
 simp only [go_sem,Nat.reduceEqDiff,Nat.reduceAdd,Nat.reduceLT,infV_eq,infC,appendA_U]
 obtain ⟨H1,hH1⟩ : ∃ H1,H1=ext H [.arr 0 39 [.lit (.int .i64 d.grain),.vec d.nodes.length (nodesC d.nodes),.lit (.int .u64 (d.decs : Int)),.vec d.utils.length (utilsC d.utils)],.arr 0 48 [vecV p],.arr 0 64 [.lit (.int .i64 0),.lit (.slice none 0 0)]]:=⟨_,rfl⟩
 have g1 : H1.get H.next=some (.arr 0 39 [.lit (.int .i64 d.grain),.vec d.nodes.length (nodesC d.nodes),.lit (.int .u64 (d.decs : Int)),.vec d.utils.length (utilsC d.utils)]):=by rw [hH1];exact get_ext0 ..
 have g2 : H1.get (H.next+1)=some (.arr 0 48 [vecV p]):=by rw [hH1];exact get_ext H _ 1 (by simp)
 have g3 : H1.get (H.next+2)=some (.arr 0 64 [.lit (.int .i64 0),.lit (.slice none 0 0)]):=by rw [hH1];exact get_ext H _ 2 (by simp)
 have l1:=get_live g1
 have l2:=get_live g2
 have l3:=get_live g3
 have n1 : H1.next=H.next+3:=by rw [hH1];rfl
 have o1 : Over H H1:=by rw [hH1];exact .ext _ _
 rw [← hH1]
 refine AApply.clo (checkPolicy_spec d hf p hp _ _ ⟨trivial,?_⟩)
 by_cases hz : polErr d p=0
 rotate_left
 ·have hcell : (AVal.lit (.int .i64 (polErr d p))).cells=[.lit (.int .i64 (polErr d p))]:=rfl
  simp only [go_sem,Nat.reduceEqDiff,Nat.reduceAdd,hz,l3,appendA_U]
  have ef : fixR d p=netNil:=if_neg hz
  rw [ef] at hK
  refine FinV.dropO (v':=.tup [netNil,lin (polErr d p)]) G0_ok hcl (o1.upd (by omega) _) (.tup rfl fun i hi _=>?_) hK
  match i,hi with
  | 0,_ =>
   refine .agg rfl fun i hi _=>?_
   match i,hi with
   | 0,_=>exact .lit _
   | 1,_=>exact .nil
  | 1,_=>exact .lit _
 obtain ⟨hok,hpo⟩:=polErr_zero.1 hz
 rw [hz] at hK ⊢
 simp only [go_sem,Nat.reduceEqDiff,Nat.reduceAdd,l1,appendA_U]
 refine AApply.clo (filled_spec d hf hok.n (fixC p) _ [H.next+1] _ (fun i hi=>by obtain rfl:=List.mem_singleton.1 hi;omega) rfl rfl (fun k r v x H2 hv hx hr ov=>?_) _ ⟨trivial,?_⟩)
 ·obtain ⟨l,a,hl,ha,he,hb⟩:=polOk_get hpo hv hx hr
  rw [he]
  exact ⟨hb,fix1_pcall p k r (H.next+1) l a hl ha H2 (by have:=ov.next;omega) ((ov.old _ (by omega)).trans g2)⟩
 ·simp only [go_sem,Nat.reduceEqDiff,Nat.reduceAdd,l3,netV,nodesV,appendA_U]
  have ef : fixR d p=netV d.grain (fillL d (fixC p)):=if_pos hz
  rw [ef] at hK
  refine FinV.dropO (v':=.tup [netV d.grain (fillL d (fixC p)),lin 0]) G0_ok hcl (o1.upd (by omega) _) (.tup rfl fun i hi _=>?_) hK
  match i,hi with
  | 0,_ =>
   refine .agg rfl fun i hi _=>?_
   match i,hi with
   | 0,_=>exact .lit _
   | 1,_=>exact fz_nodes _
  | 1,_=>exact .lit _
end Go.Proofs
set_option linter.unusedSimpArgs false
set_option maxRecDepth 100000
namespace Go.Hx
variable {P : Program} {G : Nat→Option (List AVal)} {n : Nat} {rd : Option Nat} {Q : AX→St→Prop}

/-- What an iterator does to the heap between two rounds: it writes its own block N, no other. -/
def WrN (N : Nat) (H1 H2 : AHeap) : Prop:=H1.next≤H2.next∧∀ id,id≠N→id<H1.next→H2.get id=H1.get id
/-- What is to be known of an iterator that has a block of its own, which lies at N: at the k-th round S k holds. -/
def ItG (P : Program) (G : Nat→Option (List AVal)) (f : FuncId) (first cap : List AVal) (xs : List (List AVal)) (N : Nat) (S0 : AHeap→Prop) (S : Nat→AHeap→Prop) : Prop :=
 ∀ (idy : Nat) (J : Nat→AHeap→Prop) (Stop : AHeap→Prop) (H : AHeap) (K : ARes→AHeap→Prop),H.next=N →
  (∀ k H1,J k H1→S0 H1)→(∀ k H1 H2,J k H1→WrN N H1 H2→J k H2)→J 0 H →
  (∀ k x H1 K1,xs[k]?=some x→J k H1→S k H1→N<H1.next→(∀ H',J (k+1) H'→S k H'→H1.next≤H'.next→K1 (.ret (.lit (.bool true))) H')→(∀ H',Stop H'→H1.next≤H'.next→K1 (.ret (.lit (.bool false))) H')→AApply P G (.yld idy) x H1 K1) →
  (∀ H',J xs.length H'→N≤H'.next→K (.ret (.tup [])) H') →
  (∀ H',Stop H'→N≤H'.next→K (.ret (.tup [])) H') →
  ACall P G f (first++[.yld idy]++cap) H K

theorem W.rangeItG {g : Operand} {ps : Array Tmp} {asg body : Code} {ρ : Env} {H : AHeap} {f : FuncId} {first cap : List AVal} {xs : List (List AVal)} {S0 : AHeap→Prop} {S : Nat→AHeap→Prop} (hg : evA G ρ g=.clo f first cap)
  (hit : ItG P G f first cap xs (H.next+1) S0 S) (J : Nat→AHeap→Prop) (Stop : AX→AHeap→Prop) (hS : ∀ k H1,J k H1→S0 H1) (hJw : ∀ k H1 H2,J k H1→WrN (H.next+1) H1 H2→J k H2) (hlow : ∀ k H1,J k H1→H.next<H1.next)
  (hJu : ∀ k H1 b,J k H1→J k (H1.upd H.next b)) (hSu : ∀ c H1 b,Stop c H1→Stop c (H1.upd H.next b)) (hSk : ∀ k H1 b,S k H1→S k (H1.upd H.next b))
  (hJ0 : ∀ b,J 0 (ext H [b])) (hps : ps.toList.all (fun t=>decide (t<n))=true) (hxl : ∀ x∈xs,x.length=ps.size)
  (hrd : ∀ k H1,J k H1→RdIn H1 rd) (hrd2 : ∀ c H1,Stop c H1→RdIn H1 rd)
  (hround : ∀ k x H1 B Bb,xs[k]?=some x→J k H1→S k H1→H.next+1<H1.next→H1.get H.next=some B→(∃ st pd n' en ps' as' bo,Bb=Blk.loop st pd n' en ps' as' bo) →
   W P G n (some H.next) asg (asgIt P G n H.next B Bb H1.next body (fun H'=>J (k+1) H'∧S k H') Stop) ⟨setPs (envN ρ n) (ps.toList.zip x),H1⟩)
  (hend : ∀ H',J xs.length H'→H.next+1≤H'.next→Q .normal ⟨ρ,H'⟩)
  (hret : ∀ H',Stop .ret H'→H.next+1≤H'.next→Q .ret ⟨ρ,H'⟩) (hexit : ∀ i H',Stop (.exit i) H'→H.next+1≤H'.next→Q (.exit i) ⟨ρ,H'⟩) :
  W P G n rd (.rangeFunc g ps asg body) Q ⟨ρ,H⟩:=by
 refine W.rangeFunc (s:=⟨ρ,H⟩) hg ⟨_,lay_next _ _,?_⟩
 obtain ⟨B,hB⟩ : ∃ B,B=Blk.loop .ready none n ρ ps asg body:=⟨_,rfl⟩
 obtain ⟨Bb,hBb⟩ : ∃ B,B=Blk.loop .busy none n ρ ps asg body:=⟨_,rfl⟩
 have nx : (ext H [B]).next=H.next+1:=rfl
 show ACall P G f (first++[.yld H.next]++cap) (ext H [Blk.loop .ready none n ρ ps asg body]) (rangeQ rd Q ρ H.next)
 rw [← hB]
 refine hit H.next (fun k H1=>H1.get H.next=some B∧J k H1) (fun H1=>∃ c pend,H1.get H.next=some (.loop .done (some pend) n ρ ps asg body)∧Stop c H1∧((c=.ret∧pend=.ret)∨∃ i,c=.exit i∧pend=.exit i)) _ _ nx
  (fun k H1 h=>hS k H1 h.2) (fun k H1 H2 h hw=>⟨(hw.2 _ (by omega) (hlow _ _ h.2)).trans h.1,hJw _ _ _ h.2 hw⟩) ⟨ext1_get_new,hJ0 B⟩ (fun k x H1 K1 hx hj hs hn hgo hst=>?_) (fun H' hj hn=>?_) (fun H' hj hn=>?_)
 ·have hxm:=hxl x (List.mem_of_getElem? hx)
  refine AApply.yld (hj.1.trans (congrArg some hB)) hxm hps ?_
  refine (hround k x H1 B Bb hx hj.2 hs hn hj.1 ⟨_,_,_,_,_,_,_,hBb⟩).mono fun e s1 h1=>?_
  cases e with
  | normal =>
   obtain ⟨a1,a2⟩:=h1
   refine ⟨Bb,by rw [a1,hB,hBb];rfl,?_⟩
   refine a2.mono fun e2 s2 h2=>?_
   cases e2 with
   | normal =>
    obtain ⟨b1,b2,b3,b4⟩:=h2
    exact ⟨B,by rw [b1,hB,hBb];rfl,hgo _ ⟨by rw [upd_get,if_pos rfl],hJu _ _ _ b3⟩ (hSk _ _ _ b4) b2⟩
   | ret =>
    obtain ⟨b1,b2,b3⟩:=h2
    exact ⟨.loop .done (some .ret) n ρ ps asg body,by rw [b1,hBb];rfl,hst _ ⟨.ret,.ret,by rw [upd_get,if_pos rfl],hSu _ _ _ b3,.inl ⟨rfl,rfl⟩⟩ b2⟩
   | exit i =>
    obtain ⟨b1,b2,b3⟩:=h2
    exact ⟨.loop .done (some (.exit i)) n ρ ps asg body,by rw [b1,hBb];rfl,hst _ ⟨.exit i,.exit i,by rw [upd_get,if_pos rfl],hSu _ _ _ b3,.inr ⟨i,rfl,rfl⟩⟩ b2⟩
   | _=>exact h2.elim
  | _=>exact h1.elim
 ·refine ⟨hrd _ _ hj.2,(none,.loop .exhausted none n ρ ps asg body),by rw [hj.1,hB];rfl,?_⟩
  exact hend _ (hJu _ _ _ hj.2) hn
 ·obtain ⟨c,pend,h1,h2,h3⟩:=hj
  refine ⟨hrd2 _ _ h2,(some pend,.loop .exhausted (some pend) n ρ ps asg body),by rw [h1];rfl,?_⟩
  rcases h3 with ⟨rfl,rfl⟩|⟨i,rfl,rfl⟩
  ·exact hret _ (hSu _ _ _ h2) hn
  ·exact hexit i _ (hSu _ _ _ h2) hn
end Go.Hx
set_option linter.unusedSimpArgs false
set_option maxRecDepth 100000
namespace Go.Proofs
open Go.Hx
theorem succL_at : ∀ {cs vs : List Int} {k : Nat} {c v : Int},vs.length=cs.length→cs[k]?=some c→vs[k]?=some v→v+1<c→(∀ (j : Nat) (a b : Int),k<j→cs[j]?=some a→vs[j]?=some b→b=a - 1) →
  succL cs vs=some (vs.take k++(v+1) :: (cs.drop (k+1)).map fun _=>0):=by
 have none_of : ∀ {cs vs : List Int},vs.length=cs.length→(∀ (j : Nat) (a b : Int),cs[j]?=some a→vs[j]?=some b→b=a - 1)→succL cs vs=none:=by
  intro cs
  induction cs with
  | nil=>intro vs _ _;cases vs<;>rfl
  | cons c cs ih =>
   intro vs hl h
   cases vs with
   | nil=>rfl
   | cons v vs =>
    have h1:=ih (vs:=vs) (by simpa using hl) fun j a b ha hb=>h (j+1) a b (by simpa using ha) (by simpa using hb)
    have h2:=h 0 c v rfl rfl
    simp only [succL,h1]
    rw [if_neg (by omega)]
 intro cs
 induction cs with
 | nil=>intro vs k c v _ h;simp at h
 | cons x cs ih =>
  intro vs k c v hl hc hv hlt hmax
  cases vs with
  | nil=>simp at hv
  | cons y vs =>
   cases k with
   | zero =>
    simp only [List.getElem?_cons_zero,Option.some.injEq] at hc hv
    subst hc;subst hv
    have h1:=none_of (cs:=cs) (vs:=vs) (by simpa using hl) fun j a b ha hb=>hmax (j+1) a b (by omega) (by simpa using ha) (by simpa using hb)
    simp only [succL,h1]
    rw [if_pos hlt]
    simp
   | succ k =>
    have h1:=ih (vs:=vs) (k:=k) (by simpa using hl) (by simpa using hc) (by simpa using hv) hlt fun j a b hj ha hb=>hmax (j+1) a b (by omega) (by simpa using ha) (by simpa using hb)
    simp only [succL,h1]
    simp
theorem succL_none : ∀ {cs vs : List Int},vs.length=cs.length→(∀ (j : Nat) (a b : Int),cs[j]?=some a→vs[j]?=some b→b=a - 1)→succL cs vs=none:=by
 intro cs
 induction cs with
 | nil=>intro vs _ _;cases vs<;>rfl
 | cons c cs ih =>
  intro vs hl h
  cases vs with
  | nil=>rfl
  | cons v vs =>
   have h1:=ih (vs:=vs) (by simpa using hl) fun j a b ha hb=>h (j+1) a b (by simpa using ha) (by simpa using hb)
   have h2:=h 0 c v rfl rfl
   simp only [succL,h1]
   rw [if_neg (by omega)]

def combX (cards : List Int) (N : Nat) : List (List AVal):=(List.range (prodL cards).toNat).map fun (i : Nat)=>[lin (i : Int),.own N 0 0 cards.length 1]
theorem combX_get {cards : List Int} {N k : Nat} {x : List AVal} (h : (combX cards N)[k]?=some x) : k<(prodL cards).toNat∧x=[lin k,.own N 0 0 cards.length 1]:=by
 unfold combX at h
 rw [List.getElem?_map] at h
 have hk : k<(prodL cards).toNat:=by
  rcases Nat.lt_or_ge k (prodL cards).toNat with h1|h1
  ·exact h1
  ·rw [List.getElem?_eq_none (by simpa using h1)] at h;simp at h
 rw [List.getElem?_range hk] at h
 simp at h
 exact ⟨hk,h.symm⟩
theorem combX_of {cards : List Int} {N k : Nat} (h : k<(prodL cards).toNat) : (combX cards N)[k]?=some [lin k,.own N 0 0 cards.length 1]:=by
 unfold combX;rw [List.getElem?_map,List.getElem?_range h];rfl
theorem combX_len (cards : List Int) (N : Nat) : (combX cards N).length=(prodL cards).toNat:=by simp [combX]
def CombS (cards : List Int) (N k : Nat) (H : AHeap) : Prop:=H.get N=some (.arr 0 3 (ints (valsL cards k)))

set_option maxHeartbeats 1000000 in
theorem comb_it (cards : List Int) (hc1 : ∀ c∈cards,1≤c) (hs : SmallC cards) (b N : Nat) (hbN : b<N) :
  ItG Try.prog G0 106 [] [.ptr b 0 0] (combX cards N) N (fun H=>H.get b=some (.arr 0 59 [vecI cards])) (CombS cards N):=by
 intro idy J Stop H K hN hS0 hJw hJ0 hY hK hSt
 have l0:=get_live (hS0 0 H hJ0)
 have h12:=hs.1
 have hpp:=hs.prod
 have hp1:=prodL_pos hc1
 show ACall _ _ _ ([.yld idy]++[.ptr b 0 0]) _ _
 refine ACall.of_body (n:=45) (rs:=[]) Try.func106 rfl rfl rfl (by decide) (by kernel_rfl) (by simp) ?_
 simp only [go_sem,Nat.reduceEqDiff,l0,appendA_U]
 refine ⟨by omega,?_⟩
 have fitI : ∀ i : Nat,FitsC cards (valsL cards i):=fun i=>fits_vals hc1 _
 have idxI : ∀ i : Nat,i<(prodL cards).toNat→idxL cards (valsL cards i)=i:=fun i hi=>idx_vals hc1 (by omega) (by omega)
 subst hN
 refine W.loop0 35184372088368 (by rfl) (fun ρ H'=>∃ i : Nat,ρ 4=lin i∧i<(prodL cards).toNat∧J i H'∧CombS cards H.next i H'∧H.next+1≤H'.next) (fun ρ H=>(prodL cards).toNat - (iv (ρ 4)).toNat) ?_ ?_
 ·simp only [go_sem,Nat.reduceEqDiff,appendA_U]
  refine ⟨0,rfl,by omega,hJw 0 H _ hJ0 ⟨by rw [ext_next];omega,fun id _ h=>get_ext_old _ _ _ h⟩,?_⟩
  show (ext H _).get H.next=_
  rw [get_ext0]
  have : valsL cards ((0 : Nat) : Int)=List.replicate cards.length 0:=by
   rw [show ((0 : Nat) : Int)=0 from rfl,vals_zero hc1];exact List.map_const' ..
  rw [this];simp [ints,lin]
 rintro ρ H' ⟨i,h4,hi,hj,hcs,hn⟩
 refine W.env fun E hE=>?_
 have e1 : E 1=.ptr b 0 0:=by rw [hE];simp only [go_sem,Nat.reduceEqDiff,Nat.reducePow,Nat.reduceDiv,Nat.reduceMod,reduceCtorEq,appendA_U]
 have e0 : E 0=.yld idy:=by rw [hE];simp only [go_sem,Nat.reducePow,Nat.reduceDiv,Nat.reduceMod,reduceCtorEq,appendA_U]
 have e3 : E 3=.own H.next 0 0 cards.length 1:=by rw [hE];simp only [go_sem,Nat.reduceEqDiff,Nat.reducePow,Nat.reduceDiv,Nat.reduceMod,reduceCtorEq,appendA_U]
 have e4 : E 4=lin i:=by rw [hE];simp only [go_sem,Nat.reduceEqDiff,Nat.reducePow,Nat.reduceDiv,Nat.reduceMod,h4,appendA_U]
 clear hE
 refine vc_sound _ _ _ (by rfl) ?_
 simp only [go_sem,Nat.reduceEqDiff,Nat.reducePow,Nat.reduceDiv,Nat.reduceMod,e0,e3,e4,appendA_U]
 refine hY i [lin i,.own H.next 0 0 cards.length 1] H' _ (combX_of hi) hj hcs (by omega) (fun H2 hj2 hcs2 hn2=>⟨trivial,?_⟩) (fun H2 hs2 hn2=>⟨trivial,?_⟩)
 rotate_left
 ·simp only [go_sem,Nat.reduceEqDiff,appendA_U]
  exact FinV.mk (by omega) (hSt H2 hs2 (by omega))
 have hb2:=hS0 _ _ hj2
 have lb:=get_live hb2
 have w0:=IntWalk.i64_in ((cards.length : Int) - 1) (by omega)
 obtain ⟨vs,hvs⟩ : ∃ vs,vs=valsL cards i:=⟨_,rfl⟩
 have hvl : vs.length=cards.length:=by rw [hvs,valsL_len]
 have hfit : FitsC cards vs:=by rw [hvs];exact fitI i
 have hsucc:=succ_vals hfit
 rw [show idxL cards vs=i from by rw [hvs];exact idxI i hi] at hsucc
 simp only [go_sem,Nat.reduceEqDiff,e1,lb,w0,appendA_U]
 refine W.loop0 137438691360 (by rfl) (fun ρ2 H4=>∃ m : Nat,ρ2 5=lin ((m : Int) - 1)∧m≤cards.length∧WrN H.next H2 H4∧H4.get H.next=some (.arr 0 3 (ints (vs.take m++(cards.drop m).map fun _=>0)))∧(∀ (j : Nat) (a b : Int),m≤j→cards[j]?=some a→vs[j]?=some b→b=a - 1))
  (fun ρ2 H=>(iv (ρ2 5)+1).toNat) ?_ ?_
 ·simp only [go_sem,Nat.reduceEqDiff,appendA_U]
  refine ⟨cards.length,rfl,by omega,⟨Nat.le_refl _,fun _ _ _=>rfl⟩,?_,fun j a b hm ha=>?_⟩
  ·have hg : H2.get H.next=_:=hcs2
   rw [← hvs] at hg
   rw [hg,List.take_of_length_le (by omega),List.drop_of_length_le (by omega)];simp
  ·have:=get_lt ha;omega
 rintro ρ2 H4 ⟨m,h5,hm,hw,hg,hmax⟩
 refine W.env fun E2 hE2=>?_
 have f1 : E2 1=.ptr b 0 0:=by rw [hE2];simp only [go_sem,Nat.reduceEqDiff,Nat.reducePow,Nat.reduceDiv,Nat.reduceMod,reduceCtorEq,e1,appendA_U]
 have f3 : E2 3=.own H.next 0 0 cards.length 1:=by rw [hE2];simp only [go_sem,Nat.reduceEqDiff,Nat.reducePow,Nat.reduceDiv,Nat.reduceMod,reduceCtorEq,e3,appendA_U]
 have f4 : E2 4=lin i:=by rw [hE2];simp only [go_sem,Nat.reduceEqDiff,Nat.reducePow,Nat.reduceDiv,Nat.reduceMod,reduceCtorEq,e4,appendA_U]
 have f5 : E2 5=lin ((m : Int) - 1):=by rw [hE2];simp only [go_sem,Nat.reduceEqDiff,Nat.reducePow,Nat.reduceDiv,Nat.reduceMod,h5,appendA_U]
 clear hE2
 refine vc_sound _ _ _ (by rfl) ?_
 have hw1:=hw.1
 have lN:=get_live hg
 have lb4:=get_live ((hw.2 b (by omega) (by omega)).trans hb2)
 have hj4 : J (i+1) H4:=hJw _ _ _ hj2 hw
 have clen : (vs.take m++(cards.drop m).map fun _=>(0 : Int)).length=cards.length:=by simp;omega
 by_cases hm0 : m=0
 ·subst hm0
  have f5' : E2 5=lin (-1):=f5
  have hnone:=succL_none hvl fun j a b ha hb=>hmax j a b (Nat.zero_le _) ha hb
  rw [hnone] at hsucc
  have htot : ¬ (i : Int)+1<prodL cards:=fun h=>by rw [if_pos h] at hsucc;cases hsucc
  have hti : i+1=(combX cards H.next).length:=by rw [combX_len];omega
  simp only [go_sem,Nat.reduceEqDiff,Nat.reducePow,Nat.reduceDiv,Nat.reduceMod,f5',guardA_undef,appendA_U]
  refine W.draw 12 [0,1,3,7,7,31,63,7,7,391,903,1927] Try.mixed (by kernel_rfl) (by kernel_rfl) ?_
  simp only [go_sem,Int.reduceLE,Int.reduceLT,Nat.reduceEqDiff,Nat.reduceAdd,reduceCtorEq,f5',guardA_undef,appendA_U]
  exact FinV.mk (by omega) (hK H4 (by rw [← hti];exact hj4) (by omega))
 obtain ⟨k,rfl⟩ : ∃ k,m=k+1:=⟨m - 1,by omega⟩
 have f5' : E2 5=lin k:=by rw [f5];congr 1;omega
 obtain ⟨c,hck⟩:=get_of_lt (l:=cards) (i:=k) (by omega)
 obtain ⟨v,hvk⟩:=get_of_lt (l:=vs) (i:=k) (by omega)
 have hne:=ne_of_get hck
 have hr:=hfit.2 k c v hck hvk
 have hcs8:=hs.2 c (List.mem_of_getElem? hck)
 have hvk' : (vs.take (k+1)++(cards.drop (k+1)).map fun _=>(0 : Int))[k]?=some v:=by
  rw [List.getElem?_append_left (by simp;omega),List.getElem?_take_of_lt (by omega)];exact hvk
 have hk0 : (k : Int) ≥ 0:=by omega
 have hkc : (k : Int)<cards.length:=by omega
 have w1:=IntWalk.i64_in (c - 1) (by omega)
 have w2:=IntWalk.i64_in ((k : Int) - 1) (by omega)
 have w3:=IntWalk.i64_in (v+1) (by omega)
 have w4:=IntWalk.i64_in ((i : Int)+1) (by omega)
 have hk1 : ¬ (k : Int)<0:=by omega
 by_cases hv : v=c - 1
 ·simp only [go_sem,Nat.reduceEqDiff,Nat.reducePow,Nat.reduceDiv,Nat.reduceMod,appendA_U]
  refine W.draw 12 [0,1,3,7,7,31,63,7,7,391,903,1927] Try.mixed (by kernel_rfl) (by kernel_rfl) ?_
  simp only [go_sem,Nat.reduceEqDiff,Nat.reducePow,Nat.reduceDiv,Nat.reduceMod,Nat.reduceAdd,reduceCtorEq,f1,f3,f5',hk0,hkc,lN,lb4,hvk',hck,hne,w1,w2,hv,guardA_undef,appendA_U]
  refine ⟨by rw [← List.length_append,clen];omega,by rw [upd_next];omega,⟨k,rfl,by omega,⟨by rw [upd_next];exact hw.1,fun id h1 h2=>by rw [upd_get,if_neg h1];exact hw.2 id h1 h2⟩,?_,fun j a b hj ha hb=>?_⟩,?_⟩
  ·rw [upd_get,if_pos rfl,setAt_ints (by rw [clen];omega)]
   congr 3
   rw [take_succ_get hvk,List.append_assoc,List.set_append_right _ _ (by simp;omega),drop_of_get hck]
   simp
   rw [show k - min k vs.length=0 by omega]
   rfl
  ·rcases Nat.lt_or_ge k j with h|h
   ·exact hmax j a b (by omega) ha hb
   ·obtain rfl : j=k:=by omega
    rw [hck] at ha;rw [hvk] at hb
    cases ha;cases hb;exact hv
  ·rw [h5];simp only [lin,iv_int];omega
 ·simp only [go_sem,Nat.reduceEqDiff,Nat.reducePow,Nat.reduceDiv,Nat.reduceMod,appendA_U]
  refine W.draw 12 [0,1,3,7,7,31,63,7,7,391,903,1927] Try.mixed (by kernel_rfl) (by kernel_rfl) ?_
  simp only [go_sem,Nat.reduceEqDiff,Nat.reducePow,Nat.reduceDiv,Nat.reduceMod,Nat.reduceAdd,reduceCtorEq,f1,f3,f4,f5',hk0,hk1,hkc,lN,lb4,hvk',hck,hne,w1,w3,w4,hv,guardA_undef,appendA_U]
  have hat:=succL_at hvl hck hvk (by omega) fun j a b hj ha hb=>hmax j a b (by omega) ha hb
  rw [hat] at hsucc
  have hlt : (i : Int)+1<prodL cards:=by
   refine Classical.byContradiction fun h=>?_
   rw [if_neg h] at hsucc;cases hsucc
  rw [if_pos hlt] at hsucc
  have hw5 : WrN H.next H2 (H4.upd H.next (.arr 0 3 (setAt (ints (vs.take (k+1)++(cards.drop (k+1)).map fun _=>(0 : Int))) k [.lit (.int .i64 (v+1))]))):=⟨by rw [upd_next];exact hw.1,fun id h1 h2=>by rw [upd_get,if_neg h1];exact hw.2 id h1 h2⟩
  refine ⟨by rw [← List.length_append,clen];omega,by rw [upd_next];omega,⟨i+1,by simp,by omega,hJw _ _ _ hj2 hw5,?_,by rw [upd_next];omega⟩,?_⟩
  ·show (H4.upd H.next _).get H.next=_
   rw [upd_get,if_pos rfl,setAt_ints (by rw [clen];omega)]
   congr 3
   have e : valsL cards ((i+1 : Nat) : Int)=vs.take k++(v+1) :: (cards.drop (k+1)).map fun _=>0:=by
    have:=Option.some.inj hsucc
    rw [show ((i+1 : Nat) : Int)=(i : Int)+1 by omega]
    exact this.symm
   rw [e,take_succ_get hvk,List.append_assoc,List.set_append_right _ _ (by simp;omega)]
   simp
   rw [show k - min k vs.length=0 by omega]
   rfl
  ·rw [h4];simp only [lin,iv_int];omega
theorem comb_clo (cards : List Int) (H : AHeap) (K : ARes→AHeap→Prop) (hK : K (.ret (.clo 106 [] [.ptr H.next 0 0])) (ext H [.arr 0 59 [vecI cards]])) :
  ACall Try.prog G0 92 [vecI cards] H K:=by
 refine ACall.of_body (n:=4) (rs:=[.tmp 2]) Try.func92 rfl rfl rfl (by decide) (by kernel_rfl) (by simp) ?_
 simp only [go_sem,Nat.reduceEqDiff,appendA_U]
 exact FinV.mk (by simp [ext_next]) hK
end Go.Proofs
/-
  Weights of worlds, utilities, sums. Plain: no program stands in this text. No conditions.
-/
set_option linter.unusedSimpArgs false
namespace Go.Proofs
open Go.Hx
def rowV (ns : List NodeP) (x : NodeP) (vals : List Int) : List Int:=x.rows.getD (idxL (parC ns x) (atL vals x.parents)).toNat []
def wgtN (ns : List NodeP) (vals : List Int) (v : Nat) : Int:=match ns[v]? with
 | some x=>(rowV ns x vals).getD (vals.getD v 0).toNat 0
 | none=>1
def wgtL (ns : List NodeP) (vals : List Int) : List Int:=(List.range ns.length).map (wgtN ns vals)
def weight (ns : List NodeP) (vals : List Int) : Int:=prodL (wgtL ns vals)
def worlds (ns : List NodeP) : Nat:=(prodL (cardsL ns)).toNat
def wtsL (ns : List NodeP) : List Int:=(List.range (worlds ns)).map fun (i : Nat)=>weight ns (valsL (cardsL ns) (i : Int))
def utilU (ns : List NodeP) (vals : List Int) (u : UtilP) : Int:=u.w.getD (idxL (atL (cardsL ns) u.vars) (atL vals u.vars)).toNat 0
def utilV (ns : List NodeP) (us : List UtilP) (vals : List Int) : Int:=(us.map (utilU ns vals)).sum
def sumW (ns : List NodeP) (us : List UtilP) (k : Nat) : Int:=((List.range k).map fun (i : Nat)=>weight ns (valsL (cardsL ns) i)*utilV ns us (valsL (cardsL ns) i)).sum
theorem sumW_succ (ns : List NodeP) (us : List UtilP) (k : Nat) : sumW ns us (k+1)=sumW ns us k+weight ns (valsL (cardsL ns) k)*utilV ns us (valsL (cardsL ns) k):=by
 unfold sumW;rw [List.range_succ];simp
theorem wgtL_len (ns : List NodeP) (vals : List Int) : (wgtL ns vals).length=ns.length:=by simp [wgtL]
theorem wgtL_get {ns : List NodeP} {vals : List Int} {v : Nat} (h : v<ns.length) : (wgtL ns vals)[v]?=some (wgtN ns vals v):=by
 unfold wgtL;rw [List.getElem?_map,List.getElem?_range h];rfl
end Go.Proofs
set_option linter.unusedSimpArgs false
set_option maxRecDepth 100000
namespace Go.Proofs
open Go.Hx
/-- Where a node's row lies in a world. -/
theorem fits_par {ns : List NodeP} {x : NodeP} {vals : List Int} (hin : InRange x.parents ns.length) (hf : FitsC (cardsL ns) vals) : FitsC (parC ns x) (atL vals x.parents):=by
 refine ⟨by unfold parC;rw [atL_len,atL_len],fun k c v h1 h2=>?_⟩
 obtain ⟨q,hq⟩:=get_of_lt (l:=x.parents) (i:=k) (by have:=get_lt h2;rw [atL_len] at this;exact this)
 obtain ⟨j,rfl,y,hy⟩:=get_of_int (l:=ns) (hin q (List.mem_of_getElem? hq)).1 (hin q (List.mem_of_getElem? hq)).2
 obtain ⟨b,hb⟩:=get_of_lt (l:=vals) (i:=j) (by rw [hf.1,cards_len];exact get_lt hy)
 have e1 : (parC ns x)[k]?=some y.card:=by rw [show (parC ns x)[k]?=_ from atL_get hq,Int.toNat_natCast,getD_of_get (cards_get hy)]
 have e2 : (atL vals x.parents)[k]?=some b:=by rw [atL_get hq,Int.toNat_natCast,getD_of_get hb]
 rw [h1] at e1;rw [h2] at e2
 cases e1;cases e2
 exact hf.2 j y.card _ (cards_get hy) hb
structure RowAtW (g : Int) (ns : List NodeP) (x : NodeP) (vals : List Int) (v : Nat) (i : Nat) (r : List Int) (a w : Int) : Prop where
 idx : idxL (parC ns x) (atL vals x.parents)=i
 row : x.rows[i]?=some r
 val : vals[v]?=some a
 a0 : 0≤a
 hw : r[a.toNat]?=some w
 wb : 0≤w∧w≤g
 eq : wgtN ns vals v=w
 rv : rowV ns x vals=r
 len : (r.length : Int)=x.card
 al : a<r.length
theorem row_at {g : Int} {ns : List NodeP} (h : NetOk g ns) {v : Nat} {x : NodeP} (hx : ns[v]?=some x) {vals : List Int} (hf : FitsC (cardsL ns) vals) : ∃ i r a w,RowAtW g ns x vals v i r a w:=by
 have hxm:=List.mem_of_getElem? hx
 have hin : InRange x.parents ns.length:=fun q hq=>by have:=(h.node x hxm).2.2 q hq;omega
 have hr:=idxL_range (fits_par hin hf)
 obtain ⟨r1,r2⟩:=h.rows x hxm
 obtain ⟨i,hi⟩:=Int.eq_ofNat_of_zero_le hr.1
 obtain ⟨r,hrr⟩:=get_of_lt (l:=x.rows) (i:=i) (by rw [← r1,hi] at hr;omega)
 obtain ⟨s1,s2,s3⟩:=r2 r (List.mem_of_getElem? hrr)
 obtain ⟨a,ha⟩:=get_of_lt (l:=vals) (i:=v) (by rw [hf.1,cards_len];exact get_lt hx)
 have hb:=hf.2 v x.card a (cards_get hx) ha
 obtain ⟨w,hw⟩:=get_of_lt (l:=r) (i:=a.toNat) (by omega)
 have rv : rowV ns x vals=r:=by unfold rowV;rw [hi,Int.toNat_natCast,getD_of_get hrr]
 exact ⟨i,r,a,w,hi,hrr,ha,hb.1,hw,s2 w (List.mem_of_getElem? hw),by unfold wgtN;rw [hx];simp only;rw [rv,getD_of_get ha,getD_of_get hw],rv,s1,by omega⟩
theorem pow_le_pow60 (k : Nat) (h : k≤8) : (60 : Int) ^ k≤167961600000000:=by
 have h1 : (60 : Nat) ^ k≤60 ^ 8:=Nat.pow_le_pow_right (by decide) h
 have h2 : (60 : Nat) ^ 8=167961600000000:=by decide
 rw [h2] at h1
 have h3:=Int.ofNat_le.2 h1
 rw [Int.natCast_pow] at h3
 exact h3
theorem wgt_take {g : Int} {ns : List NodeP} (h : NetOk g ns) {vals : List Int} (hf : FitsC (cardsL ns) vals) (k : Nat) : 0≤prodL ((wgtL ns vals).take k)∧prodL ((wgtL ns vals).take k)≤167961600000000:=by
 have hb : ∀ w∈wgtL ns vals,0≤w∧w≤60:=fun w hw=>by
  obtain ⟨v,hv,rfl⟩:=List.mem_map.1 hw
  obtain ⟨x,hx⟩:=get_of_lt (List.mem_range.1 hv)
  obtain ⟨i,r,a,w,hR⟩:=row_at h hx hf
  rw [hR.eq]
  have:=hR.wb
  have:=h.g1
  omega
 have h1:=prodL_le_pow (b:=60) (by omega) (l:=(wgtL ns vals).take k) fun x hx=>hb x (List.mem_of_mem_take hx)
 have h2:=pow_le_pow60 ((wgtL ns vals).take k).length (by have:=h.n1;rw [List.length_take,wgtL_len];omega)
 omega
theorem rowW_pcall (ns : List NodeP) (v : Nat) (x : NodeP) (vals : List Int) (hx : ns[v]?=some x) (hin : InRange x.parents ns.length) (hs : SmallC (parC ns x)) (hf : FitsC (cardsL ns) vals) (H : AHeap) (N n : Nat) (hN : N<H.next)
  (hg : H.get N=some (.arr 0 3 (ints vals))) (hn : n=vals.length) : PCall Try.prog G0 (.clo 105 [] []) [.vec ns.length (nodesC ns),.lit (.int .i64 v),.own N 0 0 n 1] H (.lit (.int .i64 (idxL (parC ns x) (atL vals x.parents)))) [N]:=by
 subst hn
 refine PCall.mk (fun i hi=>by obtain rfl:=List.mem_singleton.1 hi;exact hN) fun H2 h2 _=>?_
 refine (ACall.frame (H:=H2) (args:=[.vec ns.length (nodesC ns),.lit (.int .i64 v),.own N 0 0 vals.length 1]) (args':=[nodesV ns,.lit (.int .i64 v),vecI vals]) (v':=.lit (.int .i64 (idxL (parC ns x) (atL vals x.parents)))) G0_ok rfl (fun i hi _=>?_) (rowW_spec ns v x vals hx hin hs hf noH _ ⟨_,rfl,.lit _⟩))
 match i,hi with
 | 0,_=>exact fz_nodes _
 | 1,_=>exact .lit _
 | 2,_=>exact Fz.ownRead ((h2 N (by simp)).trans hg) (by rw [ints_length]) fun c hc=>by obtain ⟨z,_,rfl⟩:=List.mem_map.1 hc;exact ⟨_,rfl⟩

set_option maxHeartbeats 2000000 in
theorem weights_spec (g : Int) (ns : List NodeP) (h : NetOk g ns) (H : AHeap) (K : ARes→AHeap→Prop) (hK : K (.ret (vecI (wtsL ns))) H) : ACall Try.prog G0 91 [netV g ns] H K:=by
 refine ACall.clo ⟨_,Try.func91,rfl,rfl⟩ fun hcl=>?_
 have n8:=h.n1
 have hcards : ∀ c∈cardsL ns,1≤c∧c≤4:=fun c hc=>by
  obtain ⟨x,hx,rfl⟩:=List.mem_map.1 hc
  exact (h.node x hx).1
 have sm : SmallC (cardsL ns):=smallC_of (by rw [cards_len];omega) hcards
 have hp:=prodL_pos fun c hc=>(hcards c hc).1
 have hsz:=h.size
 have hw : ((worlds ns : Nat) : Int)=prodL (cardsL ns):=by unfold worlds;omega
 refine ACall.of_body (n:=51) (rs:=[.tmp 2]) Try.func91 rfl rfl rfl (by decide) (by kernel_rfl) (by simp) ?_
 simp only [go_sem,Nat.reduceEqDiff,netV,nodesV,appendA_U]
 refine AApply.clo (cardsW_spec ns (by omega) _ _ ⟨trivial,?_⟩)
 simp only [go_sem,Nat.reduceEqDiff,appendA_U]
 refine AApply.clo (sizeW_spec (cardsL ns) sm _ _ ⟨trivial,?_⟩)
 rw [← hw]
 simp only [go_sem,Int.reduceToNat,Nat.reduceEqDiff,Nat.reduceAdd,Nat.reduceLT,appendA_U]
 refine ⟨by omega,?_⟩
 refine AApply.clo (comb_clo (cardsL ns) _ _ ⟨trivial,?_⟩)
 simp only [go_sem,Nat.reduceAdd,appendA_U]
 obtain ⟨H2,hH2⟩ : ∃ H2,H2=ext (ext H [.arr 0 64 [.lit (.int .i64 g),.vec ns.length (nodesC ns)],.arr 0 3 (List.replicate 0 (.lit (.int .i64 0))),.arr 0 59 [.own (H.next+1) 0 0 0 1]]) [.arr 0 59 [vecI (cardsL ns)]]:=⟨_,rfl⟩
 have n2 : H2.next=H.next+4:=by rw [hH2];rfl
 have o2 : Over H H2:=by rw [hH2];exact (Over.ext _ _).trans (.ext _ _)
 have g0 : H2.get H.next=some (.arr 0 64 [.lit (.int .i64 g),.vec ns.length (nodesC ns)]):=by rw [hH2,ext_ext];exact get_ext H _ 0 (by simp)
 have g1 : H2.get (H.next+1)=some (.arr 0 3 []):=by rw [hH2,ext_ext];exact get_ext H _ 1 (by simp)
 have g2 : H2.get (H.next+2)=some (.arr 0 59 [.own (H.next+1) 0 0 0 1]):=by rw [hH2,ext_ext];exact get_ext H _ 2 (by simp)
 have g3 : H2.get (H.next+3)=some (.arr 0 59 [vecI (cardsL ns)]):=by rw [hH2,ext_ext];exact get_ext H _ 3 (by simp)
 refine W.env fun E hE=>?_
 have e1 : E 1=.ptr H.next 0 0:=by rw [hE];simp only [go_sem,Nat.reduceEqDiff,appendA_U]
 have e4 : E 4=.ptr (H.next+2) 0 0:=by rw [hE];simp only [go_sem,Nat.reduceEqDiff,appendA_U]
 have e17 : E 17=.clo 106 [] [.ptr (H.next+3) 0 0]:=by rw [hE];rfl
 clear hE
 show W _ _ _ _ _ _ ⟨E,ext (ext H [.arr 0 64 [.lit (.int .i64 g),.vec ns.length (nodesC ns)],.arr 0 3 (List.replicate 0 (.lit (.int .i64 0))),.arr 0 59 [.own (H.next+1) 0 0 0 1]]) [.arr 0 59 [vecI (cardsL ns)]]⟩
 rw [← hH2]
 have hit:=comb_it (cardsL ns) (fun c hc=>(hcards c hc).1) sm (H.next+3) (H2.next+1) (by omega)
 refine W.rangeItG (f:=106) (first:=[]) (cap:=[.ptr (H.next+3) 0 0]) (by show E 17=_;exact e17) hit
  (fun k Hx=>H2.next<Hx.next∧(∀ id,id<H2.next→id≠H.next+1→id≠H.next+2→Hx.get id=H2.get id)∧∃ gn,Hx.get (H.next+2)=some (.arr 0 59 [.own (H.next+1) gn 0 k 1])∧Hx.get (H.next+1)=some (.arr gn 3 (ints ((wtsL ns).take k))))
  (fun _ _=>False)
  (fun k Hx h=>(h.2.1 _ (by omega) (by omega) (by omega)).trans g3)
  (fun k H1 H3 h hw=>⟨by have:=hw.1;omega,fun id h1 h2 h3=>(hw.2 _ (by omega) (by have:=h.1;omega)).trans (h.2.1 id h1 h2 h3),by
   obtain ⟨gn,a1,a2⟩:=h.2.2
   exact ⟨gn,(hw.2 _ (by omega) (by have:=h.1;omega)).trans a1,(hw.2 _ (by omega) (by have:=h.1;omega)).trans a2⟩⟩)
  (fun k Hx h=>h.1)
  (fun k H1 b h=>⟨h.1,fun id h1 h2 h3=>by rw [upd_get,if_neg (by omega)];exact h.2.1 id h1 h2 h3,by
   obtain ⟨gn,a1,a2⟩:=h.2.2
   exact ⟨gn,by rw [upd_get,if_neg (by omega)];exact a1,by rw [upd_get,if_neg (by omega)];exact a2⟩⟩)
  (fun _ _ _ h=>h) (fun k H1 b h=>by unfold CombS at h ⊢;rw [upd_get,if_neg (by omega)];exact h)
  (fun b=>⟨by rw [ext_next];simp,fun id h1 h2 h3=>ext1_get_old h1,0,by rw [ext1_get_old (by omega)];exact g2,by rw [ext1_get_old (by omega)];exact g1⟩) (by decide)
  (fun x hx=>by
   obtain ⟨k,hk⟩:=List.mem_iff_getElem?.1 hx
   obtain ⟨_,rfl⟩:=combX_get hk
   rfl) (fun _ _ _=>trivial) (fun _ _ _=>trivial) (fun k y Hx B Bb hy hj hcs hn hB hBb=>?_) (fun Hx hj hn=>?_) (fun _ hs _=>hs.elim) (fun _ _ hs _=>hs.elim)
 ·obtain ⟨hk,rfl⟩:=combX_get hy
  refine vc_sound _ _ _ (by rfl) ?_
  simp only [go_sem,Nat.reduceEqDiff,Nat.reduceLT,setPs,envN,asgIt,List.foldl_cons,List.foldl_nil,List.zip_cons_cons,List.zip_nil_right,hB,appendA_U]
  obtain ⟨H3,hH3⟩ : ∃ H3,H3=Hx.upd H2.next Bb:=⟨_,rfl⟩
  rw [← hH3]
  obtain ⟨st,pd,n',en,ps',as',bo,hBe⟩:=hBb
  have n3 : H3.next=Hx.next:=by rw [hH3];rfl
  have o3 : ∀ id,id≠H2.next→H3.get id=Hx.get id:=fun id h=>by rw [hH3,upd_get,if_neg h]
  have jB : H3.get H2.next=some Bb:=by rw [hH3,upd_get,if_pos rfl]
  obtain ⟨gn,a1,a2⟩:=hj.2.2
  have k0:=(o3 _ (by omega)).trans ((hj.2.1 H.next (by omega) (by omega) (by omega)).trans g0)
  have k1:=(o3 _ (by omega)).trans a2
  have k2:=(o3 _ (by omega)).trans a1
  have kN : H3.get (H2.next+1)=some (.arr 0 3 (ints (valsL (cardsL ns) k))):=(o3 _ (by omega)).trans hcs
  obtain ⟨vals,hvals⟩ : ∃ vals,vals=valsL (cardsL ns) k:=⟨_,rfl⟩
  have hfit : FitsC (cardsL ns) vals:=by rw [hvals];exact fits_vals (fun c hc=>(hcards c hc).1) _
  rw [← hvals] at kN
  have hvl : vals.length=ns.length:=by rw [hfit.1,cards_len]
  refine W.env fun E1 hE1=>?_
  have m1 : E1 1=.ptr H.next 0 0:=by rw [hE1];simp only [go_sem,Nat.reduceEqDiff,Nat.reduceLT,envN,e1,appendA_U]
  have m4 : E1 4=.ptr (H.next+2) 0 0:=by rw [hE1];simp only [go_sem,Nat.reduceEqDiff,Nat.reduceLT,envN,e4,appendA_U]
  have m6 : E1 6=.own (H2.next+1) 0 0 ns.length 1:=by rw [hE1];simp only [go_sem,Nat.reduceEqDiff,Nat.reduceLT,envN,cards_len,appendA_U]
  clear hE1
  have l0:=get_live k0
  refine vc_sound _ _ _ (by rfl) ?_
  simp only [go_sem,Nat.reduceEqDiff,m1,l0,appendA_U]
  refine W.loop0 70368735789952 (by rfl) (fun ρ2 H4=>∃ v : Nat,ρ2 23=lin v∧v≤ns.length∧Over H3 H4∧ρ2 7=lin (prodL ((wgtL ns vals).take v))) (fun ρ2 H=>ns.length - (iv (ρ2 23)).toNat) ?_ ?_
  ·simp only [go_sem,Nat.reduceEqDiff,appendA_U]
   exact ⟨0,rfl,by omega,.refl _,by simp [prodL_nil]⟩
  rintro ρ2 H4 ⟨v,h23,hv,o4,h7⟩
  refine W.env fun E2 hE2=>?_
  have p1 : E2 1=.ptr H.next 0 0:=by rw [hE2];simp only [go_sem,Nat.reduceEqDiff,Nat.reducePow,Nat.reduceDiv,Nat.reduceMod,reduceCtorEq,m1,appendA_U]
  have p4 : E2 4=.ptr (H.next+2) 0 0:=by rw [hE2];simp only [go_sem,Nat.reduceEqDiff,Nat.reducePow,Nat.reduceDiv,Nat.reduceMod,reduceCtorEq,m4,appendA_U]
  have p6 : E2 6=.own (H2.next+1) 0 0 ns.length 1:=by rw [hE2];simp only [go_sem,Nat.reduceEqDiff,Nat.reducePow,Nat.reduceDiv,Nat.reduceMod,reduceCtorEq,m6,appendA_U]
  have p7 : E2 7=lin (prodL ((wgtL ns vals).take v)):=by rw [hE2];simp only [go_sem,Nat.reduceEqDiff,Nat.reducePow,Nat.reduceDiv,Nat.reduceMod,h7,appendA_U]
  have p21 : E2 21=.vec ns.length (nodesC ns):=by rw [hE2];simp only [go_sem,Nat.reduceEqDiff,Nat.reducePow,Nat.reduceDiv,Nat.reduceMod,reduceCtorEq,appendA_U]
  have p22 : E2 22=lin ns.length:=by rw [hE2];simp only [go_sem,Nat.reduceEqDiff,Nat.reducePow,Nat.reduceDiv,Nat.reduceMod,reduceCtorEq,appendA_U]
  have p23 : E2 23=lin v:=by rw [hE2];simp only [go_sem,Nat.reduceEqDiff,Nat.reducePow,Nat.reduceDiv,Nat.reduceMod,h23,appendA_U]
  clear hE2
  have o4n:=o4.next
  have q0:=get_live ((o4.old _ (by omega)).trans k0)
  have q1:=get_live ((o4.old _ (by omega)).trans k1)
  have q2:=get_live ((o4.old _ (by omega)).trans k2)
  have gN4:=(o4.old _ (by omega)).trans kN
  refine vc_sound _ _ _ (by rfl) ?_
  by_cases hb : (v : Int)<ns.length
  ·obtain ⟨x,hx⟩:=get_of_lt (l:=ns) (i:=v) (by omega)
   have hxm:=List.mem_of_getElem? hx
   obtain ⟨i,r,a,w,hR⟩:=row_at h hx hfit
   obtain ⟨a',rfl⟩:=Int.eq_ofNat_of_zero_le hR.a0
   have hin : InRange x.parents ns.length:=fun q hq=>by have:=(h.node x hxm).2.2 q hq;omega
   have hne:=nodesC_ne hx
   have c0:=nodesC_part hx
   have c1 : v*3+3≤(nodesC ns).length:=by rw [nodesC_len];omega
   obtain ⟨H5,hH5⟩ : ∃ H5,H5=ext H4 [.arr 0 83 [.lit (.int .i64 x.card),.vec x.parents.length (ints x.parents),vecV x.rows]]:=⟨_,rfl⟩
   have hpc : PCall Try.prog G0 (.clo 105 [] []) [.vec ns.length (nodesC ns),.lit (.int .i64 v),.own (H2.next+1) 0 0 ns.length 1] H5 (.lit (.int .i64 i)) [H2.next+1]:=by
    have:=rowW_pcall ns v x vals hx hin (parC_small n8.2 (h.node x hxm).2 fun y hy=>(h.node y hy).1) hfit H5 (H2.next+1) ns.length (by rw [hH5,ext_next];omega) (by rw [hH5,get_ext_old _ _ _ (by omega)];exact gN4) hvl.symm
    rw [hR.idx] at this
    exact this
   have f0:=get_live (show H5.get H.next=some (.arr 0 64 [.lit (.int .i64 g),.vec ns.length (nodesC ns)]) by rw [hH5,get_ext_old _ _ _ (by omega)];exact (o4.old _ (by omega)).trans k0)
   have f4:=get_live (show H5.get H4.next=some (.arr 0 83 [.lit (.int .i64 x.card),.vec x.parents.length (ints x.parents),vecV x.rows]) by rw [hH5];exact ext1_get_new)
   have fN:=get_live (show H5.get (H2.next+1)=some (.arr 0 3 (ints vals)) by rw [hH5,get_ext_old _ _ _ (by omega)];exact gN4)
   have hri:=hR.row
   have hrne:=ne_of_get hri
   have hrl : (i : Int)<x.rows.length:=by have:=get_lt hri;omega
   have hva:=hR.val
   have hvne:=ne_of_get hva
   have hra : r[a']?=some w:=by have:=hR.hw;rw [Int.toNat_natCast] at this;exact this
   have hrane:=ne_of_get hra
   have hal:=hR.al
   have wt:=wgt_take h hfit (v+1)
   rw [take_succ_get (wgtL_get (vals:=vals) (v:=v) (by omega)),prodL_snoc,hR.eq] at wt
   have w1:=IntWalk.i64_in ((v : Int)+1) (by omega)
   have w2:=IntWalk.i64_in (prodL ((wgtL ns vals).take v)*w) (by omega)
   simp only [go_sem,Nat.reduceEqDiff,Nat.reducePow,Nat.reduceDiv,Nat.reduceMod,Nat.reduceAdd,p21,p22,p23,hb,hne,c0,c1,appendA_U]
   rw [← hH5]
   refine W.draw 16 [0,0,2,0,8,0,0,120,254,510,0,0,3072,7168,16382,32766] Try.mixed (by kernel_rfl) (by kernel_rfl) ?_
   simp only [go_sem,Nat.reduceEqDiff,Nat.reducePow,Nat.reduceDiv,Nat.reduceMod,Nat.reduceAdd,reduceCtorEq,p1,p6,p7,p23,f0,f4,fN,vecV,appendA_U]
   refine ⟨.lit (.int .i64 i),[H2.next+1],hpc,?_⟩
   have hvn : (v : Int)<ns.length:=hb
   simp only [go_sem,Nat.reduceEqDiff,Nat.reducePow,Nat.reduceDiv,Nat.reduceMod,reduceCtorEq,p1,p6,p7,p23,f0,f4,fN,hri,hrne,hrl,hra,hrane,hva,hal,hvn,w1,w2,appendA_U]
   have n5 : H5.next=H4.next+1:=by rw [hH5];rfl
   exact ⟨by omega,⟨_,_,_,_,_,_,_,by rw [hH5,get_ext_old _ _ _ (by omega),o4.old _ (by omega),jB,hBe]⟩,⟨v+1,by simp,by omega,by rw [hH5];exact o4.trans (.ext _ _),by rw [take_succ_get (wgtL_get (vals:=vals) (v:=v) (by omega)),prodL_snoc,hR.eq]⟩,by rw [h23];simp only [lin,iv_int];omega⟩
  ·rw [List.take_of_length_le (by rw [wgtL_len];omega)] at p7
   have hwk : (wtsL ns)[k]?=some (weight ns vals):=by
    unfold wtsL
    rw [List.getElem?_map,List.getElem?_range (show k<worlds ns from hk),hvals];rfl
   have hkl : ((wtsL ns).take k).length=k:=by
    have : (wtsL ns).length=worlds ns:=by simp [wtsL]
    have : k<worlds ns:=hk
    simp;omega
   have hkw : k<worlds ns:=hk
   have nn : ¬ H.next+1=H4.next:=by omega
   have nn2 : ¬ H.next+2=H4.next:=by omega
   have hbd : (k+1)*8≤2 ^ 46∧k+1≤2 ^ 46:=by omega
   have q1e : ∀ L,(ext H4 L).live (H.next+1) gn=some (3,ints ((wtsL ns).take k)):=fun L=>(ext_live_old (by omega)).trans q1
   have q2e : ∀ L b,((ext H4 L).upd (H.next+1) b).live (H.next+2) 0=some (59,[.own (H.next+1) gn 0 k 1]):=fun L b=>(live_upd_other (by omega)).trans ((ext_live_old (by omega)).trans q2)
   simp only [go_sem,Nat.reduceEqDiff,Nat.reducePow,Nat.reduceDiv,Nat.reduceMod,Nat.reduceLeDiff,reduceCtorEq,p4,p7,p22,p23,hb,q1,q2,q1e,q2e,nn,nn2,hkl,hbd,bodyIt,appendA_U]
   obtain ⟨Hf,hHf⟩ : ∃ Hf,Hf=((ext H4 [.arr 0 3 [.lit (.int .i64 (prodL (wgtL ns vals)))]]).upd (H.next+1) (.arr (gn+1) 3 (ints ((wtsL ns).take k)++[.lit (.int .i64 (prodL (wgtL ns vals)))]))).upd (H.next+2) (.arr 0 59 [.own (H.next+1) (gn+1) 0 (k+1) 1]):=⟨_,rfl⟩
   rw [← hHf]
   have hget : ∀ id,id<H4.next→id≠H.next+1→id≠H.next+2→Hf.get id=H4.get id:=fun id h1 h2 h3=>by rw [hHf,upd_get,if_neg h3,upd_get,if_neg h2,ext1_get_old h1]
   have nf : Hf.next=H4.next+1:=by rw [hHf];rfl
   have eint : ints ((wtsL ns).take (k+1))=ints ((wtsL ns).take k)++[.lit (.int .i64 (prodL (wgtL ns vals)))]:=by rw [take_succ_get hwk];simp [ints,lin,weight]
   refine ⟨by rw [hget _ (by omega) (by omega) (by omega),o4.old _ (by omega)];exact jB,by omega,⟨by omega,fun id h1 h2 h3=>by rw [hget _ (by omega) h2 h3,o4.old _ (by omega),o3 _ (by omega)];exact hj.2.1 id h1 h2 h3,gn+1,by rw [hHf,upd_get,if_pos rfl],by rw [hHf,upd_get,if_neg (by omega),upd_get,if_pos rfl,eint]⟩,?_⟩
   show Hf.get (H2.next+1)=_
   rw [hget _ (by omega) (by omega) (by omega),gN4,hvals]
 ·rw [combX_len] at hj
  obtain ⟨gn,a1,a2⟩:=hj.2.2
  have l2:=get_live a1
  simp only [go_sem,Nat.reduceEqDiff,e4,l2,appendA_U]
  have ovx : Over H Hx:=⟨by omega,fun id hi=>(hj.2.1 id (by omega) (by omega) (by omega)).trans (o2.old id hi)⟩
  have hlen : (wtsL ns).length=(prodL (cardsL ns)).toNat:=by simp [wtsL,worlds]
  rw [List.take_of_length_le (by omega)] at a2
  refine FinV.dropO G0_ok hcl ovx ?_ hK
  show Fz (fun id=>H.next≤id) Hx H.next (.own (H.next+1) gn 0 (prodL (cardsL ns)).toNat 1) (vecI (wtsL ns))
  exact .ints (S:=fun id=>H.next≤id) (o:=0) (by show H.next≤_;omega) a2 hlen.symm fun i hi=>by simp [ints_get,hi]
end Go.Proofs
set_option linter.unusedSimpArgs false
set_option maxRecDepth 100000
namespace Go.Proofs
open Go.Hx
def fixV (g : Int) (ns : List NodeP) (us : List UtilP) : AVal:=.agg [.lit (.int .i64 g),.vec ns.length (nodesC ns),.vec us.length (utilsC us)]
theorem utils_bound {ns : List NodeP} {us : List UtilP} (hu : ∀ u∈us,UtilOk ns u) (h4 : us.length≤4) (vals : List Int) (k : Nat) : -400≤utilV ns (us.take k) vals∧utilV ns (us.take k) vals≤400:=by
 have key : ∀ l : List UtilP,(∀ u∈l,UtilOk ns u)→-(100*l.length : Int)≤utilV ns l vals∧utilV ns l vals≤100*l.length:=by
  intro l
  induction l with
  | nil=>intro _;simp [utilV]
  | cons u l ih =>
   intro h
   have h1:=ih fun u hu=>h u (by simp [hu])
   have h2 : -100≤utilU ns vals u∧utilU ns vals u≤100:=by
    unfold utilU
    rw [List.getD_eq_getElem?_getD]
    cases hg : u.w[(idxL (atL (cardsL ns) u.vars) (atL vals u.vars)).toNat]? with
    | none=>simp
    | some w=>exact (h u (by simp)).w w (List.mem_of_getElem? hg)
   simp only [utilV,List.map_cons,List.sum_cons,List.length_cons] at h1 ⊢
   push_cast
   omega
 have:=key (us.take k) fun u hk=>hu u (List.mem_of_mem_take hk)
 have h5 : (us.take k).length≤4:=by simp;omega
 omega

set_option maxHeartbeats 1000000 in
theorem utility_spec (g : Int) (ns : List NodeP) (us : List UtilP) (vals : List Int) (h8 : ns.length≤8) (hc : ∀ y∈ns,1≤y.card∧y.card≤4) (hu : ∀ u∈us,UtilOk ns u) (h4 : us.length≤4) (hf : FitsC (cardsL ns) vals) (H : AHeap) (K : ARes→AHeap→Prop)
  (hK : K (.ret (lin (utilV ns us vals))) H) : ACall Try.prog G0 65 [fixV g ns us,vecI vals] H K:=by
 refine ACall.clo ⟨_,Try.func65,rfl,rfl⟩ fun hcl=>?_
 have hfl : vals.length=ns.length:=by rw [hf.1,cards_len]
 refine ACall.of_body (n:=49) (rs:=[.tmp 4]) Try.func65 rfl rfl rfl (by decide) (by kernel_rfl) (by simp) ?_
 simp only [go_sem,Nat.reduceEqDiff,fixV,appendA_U]
 obtain ⟨H1,hH1⟩ : ∃ H1,H1=ext H [.arr 0 124 [.lit (.int .i64 g),.vec ns.length (nodesC ns),.vec us.length (utilsC us)]]:=⟨_,rfl⟩
 have l1 : H1.live H.next 0=some (124,[.lit (.int .i64 g),.vec ns.length (nodesC ns),.vec us.length (utilsC us)]):=by rw [hH1];exact get_live (get_ext0 ..)
 have n1 : H1.next=H.next+1:=by rw [hH1];rfl
 have o1 : Over H H1:=by rw [hH1];exact .ext _ _
 rw [← hH1]
 refine W.loop0 281474976695712 (by rfl) (fun ρ H'=>∃ k : Nat,ρ 14=lin k∧k≤us.length∧Over H1 H'∧ρ 5=lin (utilV ns (us.take k) vals)) (fun ρ H=>us.length - (iv (ρ 14)).toNat) ?_ ?_
 ·simp only [go_sem,Nat.reduceEqDiff,appendA_U]
  exact ⟨0,rfl,by omega,.refl _,by simp [utilV]⟩
 rintro ρ H' ⟨k,h14,hk,ov,h5⟩
 refine W.env fun E hE=>?_
 have e1 : E 1=vecI vals:=by rw [hE];simp only [go_sem,Nat.reduceEqDiff,Nat.reducePow,Nat.reduceDiv,Nat.reduceMod,reduceCtorEq,appendA_U]
 have e2 : E 2=.ptr H.next 0 0:=by rw [hE];simp only [go_sem,Nat.reduceEqDiff,Nat.reducePow,Nat.reduceDiv,Nat.reduceMod,reduceCtorEq,appendA_U]
 have e5 : E 5=lin (utilV ns (us.take k) vals):=by rw [hE];simp only [go_sem,Nat.reduceEqDiff,Nat.reducePow,Nat.reduceDiv,Nat.reduceMod,h5,appendA_U]
 have e12 : E 12=.vec us.length (utilsC us):=by rw [hE];simp only [go_sem,Nat.reduceEqDiff,Nat.reducePow,Nat.reduceDiv,Nat.reduceMod,reduceCtorEq,appendA_U]
 have e13 : E 13=lin us.length:=by rw [hE];simp only [go_sem,Nat.reduceEqDiff,Nat.reducePow,Nat.reduceDiv,Nat.reduceMod,reduceCtorEq,appendA_U]
 have e14 : E 14=lin k:=by rw [hE];simp only [go_sem,Nat.reduceEqDiff,Nat.reducePow,Nat.reduceDiv,Nat.reduceMod,h14,appendA_U]
 clear hE
 refine vc_sound _ _ _ (by rfl) ?_
 have ovn:=ov.next
 by_cases hb : (k : Int)<us.length
 rotate_left
 ·simp only [go_sem,Nat.reduceEqDiff,Nat.reducePow,Nat.reduceDiv,Nat.reduceMod,e5,e13,e14,hb,appendA_U]
  rw [List.take_of_length_le (by omega)]
  exact FinV.dropO G0_ok hcl (o1.trans ov) (.lit _) hK
 obtain ⟨u,hku⟩:=get_of_lt (l:=us) (i:=k) (by omega)
 have hum:=List.mem_of_getElem? hku
 obtain ⟨u1,u2,u3⟩:=hu u hum
 have hne:=utilsC_ne hku
 have p0:=utilsC_part hku
 have p1 : k*2+2≤(utilsC us).length:=by rw [utilsC_len];omega
 have v8:=u1.len
 obtain ⟨H2,hH2⟩ : ∃ H2,H2=ext H' [.arr 0 85 [.vec u.vars.length (ints u.vars),.vec u.w.length (ints u.w)]]:=⟨_,rfl⟩
 have m1:=get_live (show H2.get H'.next=some (.arr 0 85 [.vec u.vars.length (ints u.vars),.vec u.w.length (ints u.w)]) by rw [hH2];exact ext1_get_new)
 have m2 : H2.live H.next 0=some (124,[.lit (.int .i64 g),.vec ns.length (nodesC ns),.vec us.length (utilsC us)]):=by rw [hH2];exact (ext_live_old (by omega)).trans ((ov.live (by omega)).trans l1)
 have n2 : H2.next=H'.next+1:=by rw [hH2];rfl
 have sm:=vars_small h8 u1 hc
 have hin : InRange u.vars ns.length:=fun q hq=>by have:=u1.2 q hq;omega
 have fp : FitsC (atL (cardsL ns) u.vars) (atL vals u.vars):=fits_par (x:=⟨0,u.vars,[]⟩) hin hf
 have pl : (atL (cardsL ns) u.vars).length=u.vars.length:=atL_len _ _
 have vl : (atL vals u.vars).length=u.vars.length:=atL_len _ _
 have ft : ∀ j,FitsC ((atL (cardsL ns) u.vars).take j) ((atL vals u.vars).take j):=fun j=>⟨by simp [pl,vl],fun i c b h1 h2=>by
  rw [List.getElem?_take] at h1 h2
  split at h1
  ·rename_i hik
   rw [if_pos hik] at h2
   exact fp.2 i c b h1 h2
  ·cases h1⟩
 have hr : ∀ j,0≤hornL ((atL (cardsL ns) u.vars).take j) ((atL vals u.vars).take j)∧hornL ((atL (cardsL ns) u.vars).take j) ((atL vals u.vars).take j)<68719476737:=fun j=>by
  rw [hornL_eq (ft j).1]
  have a:=idxL_range (ft j)
  have b:=(sm.take j).prod
  omega
 simp only [go_sem,Nat.reduceEqDiff,Nat.reducePow,Nat.reduceDiv,Nat.reduceMod,Nat.reduceAdd,e12,e13,e14,hb,hne,p0,p1,appendA_U]
 rw [← hH2]
 refine W.loop0 1099509531904 (by rfl) (fun ρ2 H3=>H3=H2∧∃ j : Nat,ρ2 21=lin j∧j≤u.vars.length∧ρ2 8=lin (hornL ((atL (cardsL ns) u.vars).take j) ((atL vals u.vars).take j))) (fun ρ2 H=>u.vars.length - (iv (ρ2 21)).toNat) ?_ ?_
 ·simp only [go_sem,Nat.reduceEqDiff,appendA_U]
  exact ⟨0,rfl,by omega,rfl⟩
 rintro ρ2 H3 ⟨rfl,j,h21,hj,h8'⟩
 refine vc_sound _ _ _ (by rfl) ?_
 by_cases hb2 : (j : Int)<u.vars.length
 ·obtain ⟨q,hq⟩:=get_of_lt (l:=u.vars) (i:=j) (by omega)
  obtain ⟨i,rfl,y,hy⟩:=get_of_int (l:=ns) (hin q (List.mem_of_getElem? hq)).1 (hin q (List.mem_of_getElem? hq)).2
  obtain ⟨b,hbv⟩:=get_of_lt (l:=vals) (i:=i) (by rw [hfl];exact get_lt hy)
  have hyb:=hf.2 i y.card b (cards_get hy) hbv
  have a1 : (atL (cardsL ns) u.vars)[j]?=some y.card:=by rw [atL_get hq,Int.toNat_natCast,getD_of_get (cards_get hy)]
  have a2 : (atL vals u.vars)[j]?=some b:=by rw [atL_get hq,Int.toNat_natCast,getD_of_get hbv]
  have hne2:=ne_of_get hq
  have hne3:=ne_of_get hbv
  have hne4:=nodesC_ne hy
  have ey:=nodesC_0 hy
  have hi : (i : Int)<ns.length:=by have:=get_lt hy;omega
  have hi2 : (i : Int)<vals.length:=by omega
  have w1:=IntWalk.i64_in ((j : Int)+1) (by omega)
  have r1:=hr (j+1)
  rw [hornL_snoc a1 a2] at r1
  have r0:=hr j
  have m0 : 0≤hornL ((atL (cardsL ns) u.vars).take j) ((atL vals u.vars).take j)*y.card:=Int.mul_nonneg r0.1 (by omega)
  have w2:=IntWalk.i64_in (hornL ((atL (cardsL ns) u.vars).take j) ((atL vals u.vars).take j)*y.card) (by omega)
  have w3:=IntWalk.i64_in (hornL ((atL (cardsL ns) u.vars).take j) ((atL vals u.vars).take j)*y.card+b) (by omega)
  simp only [go_sem,Nat.reduceEqDiff,Nat.reducePow,Nat.reduceDiv,Nat.reduceMod,reduceCtorEq,h21,hb2,hq,hne2,appendA_U]
  refine W.draw 13 [0,0,2,6,0,30,62,126,255,0,0,1536,3584] Try.mixed (by kernel_rfl) (by kernel_rfl) ?_
  simp only [go_sem,Nat.reduceEqDiff,Nat.reducePow,Nat.reduceDiv,Nat.reduceMod,Nat.reduceAdd,reduceCtorEq,h21,h8',e1,e2,m2,hb2,hq,hne2,hne3,hne4,hi,hi2,hbv,ey,w1,w2,w3,appendA_U]
  exact ⟨⟨j+1,by simp,by omega,by rw [hornL_snoc a1 a2]⟩,by omega⟩
 ·rw [List.take_of_length_le (by omega),List.take_of_length_le (by omega),hornL_eq (by rw [pl,vl])] at h8'
  have hx:=idxL_range fp
  obtain ⟨ix,hix⟩:=Int.eq_ofNat_of_zero_le hx.1
  obtain ⟨w,hw⟩:=get_of_lt (l:=u.w) (i:=ix) (by omega)
  have hwne:=ne_of_get hw
  have hwl : (ix : Int)<u.w.length:=by have:=get_lt hw;omega
  have eu : utilU ns vals u=w:=by unfold utilU;rw [hix,Int.toNat_natCast,getD_of_get hw]
  have us1 : utilV ns (us.take (k+1)) vals=utilV ns (us.take k) vals+w:=by rw [take_succ_get hku];unfold utilV;simp [eu]
  have b1:=utils_bound hu h4 vals k
  have b2:=utils_bound hu h4 vals (k+1)
  rw [us1] at b2
  have w1:=IntWalk.i64_in ((k : Int)+1) (by omega)
  have w2:=IntWalk.i64_in (utilV ns (us.take k) vals+w) (by omega)
  rw [hix] at h8'
  simp only [go_sem,Nat.reduceEqDiff,Nat.reducePow,Nat.reduceDiv,Nat.reduceMod,reduceCtorEq,h21,h8',e5,e14,m1,hb2,hw,hwne,hwl,w1,w2,appendA_U]
  exact ⟨by omega,⟨k+1,by simp,by omega,by rw [hH2];exact ov.trans (.ext _ _),by rw [us1]⟩,by rw [h14];simp only [lin,iv_int];omega⟩
theorem utility_pcall (g : Int) (ns : List NodeP) (us : List UtilP) (vals : List Int) (h8 : ns.length≤8) (hc : ∀ y∈ns,1≤y.card∧y.card≤4) (hu : ∀ u∈us,UtilOk ns u) (h4 : us.length≤4) (hf : FitsC (cardsL ns) vals) (H : AHeap) (N n : Nat) (hN : N<H.next)
  (hg : H.get N=some (.arr 0 3 (ints vals))) (hn : n=vals.length) : PCall Try.prog G0 (.clo 65 [] []) [.agg [.lit (.int .i64 g),.vec ns.length (nodesC ns),.vec us.length (utilsC us)],.own N 0 0 n 1] H (.lit (.int .i64 (utilV ns us vals))) [N]:=by
 subst hn
 refine PCall.mk (fun i hi=>by obtain rfl:=List.mem_singleton.1 hi;exact hN) fun H2 h2 _=>?_
 refine (ACall.frame (H:=H2) (args:=[.agg [.lit (.int .i64 g),.vec ns.length (nodesC ns),.vec us.length (utilsC us)],.own N 0 0 vals.length 1]) (args':=[fixV g ns us,vecI vals]) (v':=.lit (.int .i64 (utilV ns us vals))) G0_ok rfl (fun i hi _=>?_) (utility_spec g ns us vals h8 hc hu h4 hf noH _ ⟨_,rfl,.lit _⟩))
 match i,hi with
 | 0,_ =>
  refine .agg rfl fun i hi _=>?_
  match i,hi with
  | 0,_=>exact .lit _
  | 1,_=>exact fz_nodes _
  | 2,_ =>
   refine .vec rfl fun i hi _=>?_
   have : ∀ c∈utilsC us,Fz (fun _=>True) H2 0 c c:=by
    intro c hc
    unfold utilsC at hc
    obtain ⟨r,hr,hc⟩:=List.mem_flatten.1 hc
    obtain ⟨x,_,rfl⟩:=List.mem_map.1 hr
    unfold UtilP.cells at hc
    simp only [List.mem_cons,List.not_mem_nil,or_false] at hc
    rcases hc with rfl|rfl
    ·exact .keepInts _
    ·exact .keepInts _
   exact this _ (List.getElem_mem _)
 | 1,_=>exact Fz.ownRead ((h2 N (by simp)).trans hg) (by rw [ints_length]) fun c hc=>by obtain ⟨z,_,rfl⟩:=List.mem_map.1 hc;exact ⟨_,rfl⟩

theorem value1_spec (g : Int) (ns : List NodeP) (us : List UtilP) (vals : List Int) (h8 : ns.length≤8) (hc : ∀ y∈ns,1≤y.card∧y.card≤4) (hu : ∀ u∈us,UtilOk ns u) (h4 : us.length≤4) (hf : FitsC (cardsL ns) vals) (w a : Int) (hw : 0≤w∧w≤167961600000000) (ha : -1000000000000000000≤a∧a≤1000000000000000000)
  (H : AHeap) (N n sb fb : Nat) (hg : H.get N=some (.arr 0 3 (ints vals))) (hn : n=vals.length) (hsb : H.get sb=some (.arr 0 3 [.lit (.int .i64 a)])) (hfb : H.get fb=some (.arr 0 124 [.lit (.int .i64 g),.vec ns.length (nodesC ns),.vec us.length (utilsC us)])) (hN : N<H.next) (hNs : N≠sb) (hfs : fb≠sb)
  (K : ARes→AHeap→Prop) (hK : K (.ret (.tup [])) (H.upd sb (.arr 0 3 [.lit (.int .i64 (a+w*utilV ns us vals))]))) : ACall Try.prog G0 64 [.own N 0 0 n 1,.lit (.int .i64 w),.ptr sb 0 0,.ptr fb 0 0] H K:=by
 have ls:=get_live hsb
 have lf:=get_live hfb
 have hpc:=utility_pcall g ns us vals h8 hc hu h4 hf H N n hN hg hn
 have b:=utils_bound hu h4 vals us.length
 rw [List.take_of_length_le (Nat.le_refl _)] at b
 have m1 : -67184640000000000≤w*utilV ns us vals∧w*utilV ns us vals≤67184640000000000:=by
  constructor
  ·have h1 : w*(-400)≤w*utilV ns us vals:=Int.mul_le_mul_of_nonneg_left b.1 hw.1
   omega
  ·have h1 : w*utilV ns us vals≤w*400:=Int.mul_le_mul_of_nonneg_left b.2 hw.1
   omega
 have w1:=IntWalk.i64_in (w*utilV ns us vals) (by omega)
 have w2:=IntWalk.i64_in (a+w*utilV ns us vals) (by omega)
 refine ACall.of_body (n:=13) (rs:=[]) Try.func64 rfl rfl rfl (by decide) (by kernel_rfl) (by simp) ?_
 simp only [go_sem,appendA_U]
 refine W.draw 6 [0,0,0,0,12,30] Try.mixed (by kernel_rfl) (by kernel_rfl) ?_
 simp only [go_sem,Nat.reduceEqDiff,Nat.reducePow,Nat.reduceDiv,Nat.reduceMod,Nat.reduceAdd,reduceCtorEq,ls,lf,appendA_U]
 refine ⟨_,[N],hpc,?_⟩
 simp only [go_sem,Nat.reduceEqDiff,Nat.reducePow,Nat.reduceDiv,Nat.reduceMod,reduceCtorEq,ls,lf,w1,w2,appendA_U]
 exact FinV.mk (Nat.le_refl _) hK
end Go.Proofs
set_option linter.unusedSimpArgs false
set_option maxRecDepth 100000
namespace Go.Proofs
open Go.Hx
theorem wtsL_get {ns : List NodeP} {k : Nat} (h : k<worlds ns) : (wtsL ns)[k]?=some (weight ns (valsL (cardsL ns) k)):=by
 unfold wtsL;rw [List.getElem?_map,List.getElem?_range h];rfl
theorem wtsL_len (ns : List NodeP) : (wtsL ns).length=worlds ns:=by simp [wtsL]
theorem weight_bound {g : Int} {ns : List NodeP} (h : NetOk g ns) {vals : List Int} (hf : FitsC (cardsL ns) vals) : 0≤weight ns vals∧weight ns vals≤167961600000000:=by
 have:=wgt_take h hf ns.length
 rw [List.take_of_length_le (by rw [wgtL_len];omega)] at this
 exact this

set_option maxHeartbeats 1000000 in
theorem each_spec (g : Int) (ns : List NodeP) (us : List UtilP) (h : NetOk g ns) (hu : ∀ u∈us,UtilOk ns u) (h4 : us.length≤4) (hBd : ∀ k,k≤worlds ns→-1000000000000000000≤sumW ns us k∧sumW ns us k≤1000000000000000000)
  (H : AHeap) (sb fb : Nat) (hsb : H.get sb=some (.arr 0 3 [.lit (.int .i64 0)])) (hfb : H.get fb=some (.arr 0 124 [.lit (.int .i64 g),.vec ns.length (nodesC ns),.vec us.length (utilsC us)])) (hlt : sb<H.next) (hltf : fb<H.next) (hfs : fb≠sb)
  (K : ARes→AHeap→Prop) (hK : ∀ H',H.next≤H'.next→(∀ id,id<H.next→id≠sb→H'.get id=H.get id)→H'.get sb=some (.arr 0 3 [.lit (.int .i64 (sumW ns us (worlds ns)))])→K (.ret (.tup [])) H') :
  ACall Try.prog G0 63 [fixV g ns us,.clo 64 [] [.ptr sb 0 0,.ptr fb 0 0]] H K:=by
 have n8:=h.n1
 have hcards : ∀ c∈cardsL ns,1≤c∧c≤4:=fun c hc=>by
  obtain ⟨x,hx,rfl⟩:=List.mem_map.1 hc
  exact (h.node x hx).1
 have sm : SmallC (cardsL ns):=smallC_of (by rw [cards_len];omega) hcards
 have hp:=prodL_pos fun c hc=>(hcards c hc).1
 refine ACall.of_body (n:=24) (rs:=[]) Try.func63 rfl rfl rfl (by decide) (by kernel_rfl) (by simp) ?_
 simp only [go_sem,Nat.reduceEqDiff,Nat.reduceAdd,Nat.reduceLeDiff,fixV,appendA_U]
 refine AApply.clo (weights_spec g ns h _ _ ⟨trivial,?_⟩)
 simp only [go_sem,Nat.reduceEqDiff,Nat.reduceAdd,Nat.reduceLT,appendA_U]
 refine AApply.clo (cardsW_spec ns (by omega) _ _ ⟨trivial,?_⟩)
 simp only [go_sem,Nat.reduceEqDiff,appendA_U]
 refine AApply.clo (comb_clo (cardsL ns) _ _ ⟨trivial,?_⟩)
 simp only [go_sem,Nat.reduceAdd,appendA_U]
 obtain ⟨H2,hH2⟩ : ∃ H2,H2=ext (ext H [.arr 0 124 [.lit (.int .i64 g),.vec ns.length (nodesC ns),.vec us.length (utilsC us)],.arr 0 127 (AVal.clo 64 [] [.ptr sb 0 0,.ptr fb 0 0]).cells,.arr 0 59 [vecI (wtsL ns)]]) [.arr 0 59 [vecI (cardsL ns)]]:=⟨_,rfl⟩
 have n2 : H2.next=H.next+4:=by rw [hH2];rfl
 have o2 : Over H H2:=by rw [hH2];exact (Over.ext _ _).trans (.ext _ _)
 have g1 : H2.get (H.next+1)=some (.arr 0 127 [.clo 64 [] [.ptr sb 0 0,.ptr fb 0 0]]):=by rw [hH2,ext_ext];exact get_ext H _ 1 (by simp)
 have g2 : H2.get (H.next+2)=some (.arr 0 59 [vecI (wtsL ns)]):=by rw [hH2,ext_ext];exact get_ext H _ 2 (by simp)
 have g3 : H2.get (H.next+3)=some (.arr 0 59 [vecI (cardsL ns)]):=by rw [hH2,ext_ext];exact get_ext H _ 3 (by simp)
 have gsb:=(o2.old _ hlt).trans hsb
 have gfb:=(o2.old _ hltf).trans hfb
 refine W.env fun E hE=>?_
 have e3 : E 3=.ptr (H.next+1) 0 0:=by rw [hE];simp only [go_sem,Nat.reduceEqDiff,appendA_U]
 have e4 : E 4=.ptr (H.next+2) 0 0:=by rw [hE];simp only [go_sem,Nat.reduceEqDiff,appendA_U]
 have e14 : E 14=.clo 106 [] [.ptr (H.next+3) 0 0]:=by rw [hE];rfl
 clear hE
 show W _ _ _ _ _ _ ⟨E,ext (ext H [.arr 0 124 [.lit (.int .i64 g),.vec ns.length (nodesC ns),.vec us.length (utilsC us)],.arr 0 127 (AVal.clo 64 [] [.ptr sb 0 0,.ptr fb 0 0]).cells,.arr 0 59 [vecI (wtsL ns)]]) [.arr 0 59 [vecI (cardsL ns)]]⟩
 rw [← hH2]
 have hit:=comb_it (cardsL ns) (fun c hc=>(hcards c hc).1) sm (H.next+3) (H2.next+1) (by omega)
 refine W.rangeItG (f:=106) (first:=[]) (cap:=[.ptr (H.next+3) 0 0]) (by show E 14=_;exact e14) hit
  (fun k Hx=>H2.next<Hx.next∧(∀ id,id<H2.next→id≠sb→Hx.get id=H2.get id)∧Hx.get sb=some (.arr 0 3 [.lit (.int .i64 (sumW ns us k))]))
  (fun _ _=>False)
  (fun k Hx h=>(h.2.1 _ (by omega) (by omega)).trans g3)
  (fun k H1 H3 h hw=>⟨by have:=hw.1;omega,fun id h1 h2=>(hw.2 _ (by omega) (by have:=h.1;omega)).trans (h.2.1 id h1 h2),(hw.2 _ (by omega) (by have:=h.1;omega)).trans h.2.2⟩)
  (fun k Hx h=>h.1)
  (fun k H1 b h=>⟨h.1,fun id h1 h2=>by rw [upd_get,if_neg (by omega)];exact h.2.1 id h1 h2,by rw [upd_get,if_neg (by omega)];exact h.2.2⟩)
  (fun _ _ _ h=>h) (fun k H1 b h=>by unfold CombS at h ⊢;rw [upd_get,if_neg (by omega)];exact h)
  (fun b=>⟨by rw [ext_next];simp,fun id h1 h2=>ext1_get_old h1,by rw [ext1_get_old (by omega)];exact gsb⟩) (by decide)
  (fun x hx=>by
   obtain ⟨k,hk⟩:=List.mem_iff_getElem?.1 hx
   obtain ⟨_,rfl⟩:=combX_get hk
   rfl) (fun _ _ _=>trivial) (fun _ _ _=>trivial) (fun k y Hx B Bb hy hj hcs hn hB hBb=>?_) (fun Hx hj hn=>?_) (fun _ hs _=>hs.elim) (fun _ _ hs _=>hs.elim)
 ·obtain ⟨hk,rfl⟩:=combX_get hy
  refine vc_sound _ _ _ (by rfl) ?_
  simp only [go_sem,Nat.reduceEqDiff,Nat.reduceLT,setPs,envN,asgIt,List.foldl_cons,List.foldl_nil,List.zip_cons_cons,List.zip_nil_right,hB,appendA_U]
  obtain ⟨H3,hH3⟩ : ∃ H3,H3=Hx.upd H2.next Bb:=⟨_,rfl⟩
  rw [← hH3]
  obtain ⟨st,pd,n',en,ps',as',bo,hBe⟩:=hBb
  have n3 : H3.next=Hx.next:=by rw [hH3];rfl
  have o3 : ∀ id,id≠H2.next→H3.get id=Hx.get id:=fun id h=>by rw [hH3,upd_get,if_neg h]
  have jB : H3.get H2.next=some Bb:=by rw [hH3,upd_get,if_pos rfl]
  have k1:=(o3 _ (by omega)).trans ((hj.2.1 (H.next+1) (by omega) (by omega)).trans g1)
  have k2:=(o3 _ (by omega)).trans ((hj.2.1 (H.next+2) (by omega) (by omega)).trans g2)
  have kf:=(o3 _ (by omega)).trans ((hj.2.1 fb (by omega) hfs).trans gfb)
  have ks:=(o3 _ (by omega)).trans hj.2.2
  have kN : H3.get (H2.next+1)=some (.arr 0 3 (ints (valsL (cardsL ns) k))):=(o3 _ (by omega)).trans hcs
  obtain ⟨vals,hvals⟩ : ∃ vals,vals=valsL (cardsL ns) k:=⟨_,rfl⟩
  have hfit : FitsC (cardsL ns) vals:=by rw [hvals];exact fits_vals (fun c hc=>(hcards c hc).1) _
  rw [← hvals] at kN
  have hvl : vals.length=ns.length:=by rw [hfit.1,cards_len]
  refine W.env fun E1 hE1=>?_
  have m3 : E1 3=.ptr (H.next+1) 0 0:=by rw [hE1];simp only [go_sem,Nat.reduceEqDiff,Nat.reduceLT,envN,e3,appendA_U]
  have m4 : E1 4=.ptr (H.next+2) 0 0:=by rw [hE1];simp only [go_sem,Nat.reduceEqDiff,Nat.reduceLT,envN,e4,appendA_U]
  have m5 : E1 5=lin k:=by rw [hE1];simp only [go_sem,Nat.reduceEqDiff,Nat.reduceLT,envN,appendA_U]
  have m6 : E1 6=.own (H2.next+1) 0 0 ns.length 1:=by rw [hE1];simp only [go_sem,Nat.reduceEqDiff,Nat.reduceLT,envN,cards_len,appendA_U]
  clear hE1
  have l1:=get_live k1
  have l2:=get_live k2
  have hkw : k<worlds ns:=hk
  have hwk:=wtsL_get hkw
  rw [← hvals] at hwk
  have hwne:=ne_of_get hwk
  have hkl : (k : Int)<(wtsL ns).length:=by rw [wtsL_len];omega
  have hs1:=sumW_succ ns us k
  rw [← hvals] at hs1
  refine vc_sound _ _ _ (by rfl) ?_
  simp only [go_sem,m3,m4,m5,m6,appendA_U]
  refine W.draw 6 [0,0,0,0,12,28] Try.mixed (by kernel_rfl) (by kernel_rfl) ?_
  simp only [go_sem,Nat.reduceEqDiff,Nat.reducePow,Nat.reduceDiv,Nat.reduceMod,Nat.reduceAdd,reduceCtorEq,m3,m4,m5,m6,l1,l2,hwk,hwne,hkl,appendA_U]
  refine AApply.clo (value1_spec g ns us vals (by omega) (fun y hy=>(h.node y hy).1) hu h4 hfit (weight ns vals) (sumW ns us k) (weight_bound h hfit) (hBd k (by omega)) H3 (H2.next+1) ns.length sb fb kN hvl.symm ks kf (by omega) (by omega) hfs _ ⟨⟨_,_,_,_,_,_,_,by rw [upd_get,if_neg (by omega),jB,hBe]⟩,?_⟩)
  simp only [go_sem,Nat.reduceEqDiff,appendA_U]
  refine ⟨by rw [upd_get,if_neg (by omega)];exact jB,by rw [upd_next];omega,⟨⟨by rw [upd_next];omega,fun id h1 h2=>by rw [upd_get,if_neg h2,o3 _ (by omega)];exact hj.2.1 id h1 h2,by rw [upd_get,if_pos rfl,hs1]⟩,?_⟩⟩
  unfold CombS
  rw [upd_get,if_neg (by omega),kN,hvals]
 ·simp only [go_sem,appendA_U]
  exact FinV.mk (by omega) (hK Hx (by omega) (fun id h1 h2=>(hj.2.1 id (by omega) h2).trans (o2.old _ h1)) (by have:=hj.2.2;rw [combX_len] at this;exact this))
end Go.Proofs
set_option linter.unusedSimpArgs false
set_option maxRecDepth 100000
namespace Go.Proofs
open Go.Hx
theorem gcd_step (x y : Int) (hx : 0≤x) (hy : 0≤y) : Int.gcd y (x % y)=Int.gcd y x:=by
 obtain ⟨a,rfl⟩:=Int.eq_ofNat_of_zero_le hx
 obtain ⟨b,rfl⟩:=Int.eq_ofNat_of_zero_le hy
 rw [← Int.natCast_emod]
 show Nat.gcd b (a % b)=Nat.gcd b a
 rw [Nat.gcd_comm b (a % b),← Nat.gcd_rec]
theorem whole_spec (g : Int) (n : Nat) (hg : 1≤g∧g≤60) (hn : n≤8) (H : AHeap) (K : ARes→AHeap→Prop) (hK : K (.ret (lin (g ^ n))) H) : ACall Try.prog G0 67 [lin g,lin n] H K:=by
 refine ACall.of_body (n:=14) (rs:=[.tmp 4]) Try.func67 rfl rfl rfl (by decide) (by kernel_rfl) (by simp) ?_
 simp only [go_sem,Nat.reduceEqDiff,appendA_U]
 refine W.loop0 8096 (by rfl) (fun ρ H'=>H'=H∧∃ k : Nat,ρ 7=lin k∧k≤n∧ρ 5=lin (g ^ k)) (fun ρ H=>n - (iv (ρ 7)).toNat) ?_ ?_
 ·simp only [go_sem,Nat.reduceEqDiff,appendA_U]
  exact ⟨0,rfl,by omega,by rw [Int.pow_zero]⟩
 rintro ρ H' ⟨rfl,k,h7,hk,h5⟩
 refine vc_sound _ _ _ (by rfl) ?_
 have hpow : ∀ k : Nat,0≤g ^ k∧g ^ k≤60 ^ k:=fun k=>by
  induction k with
  | zero=>simp
  | succ k ih =>
   rw [Int.pow_succ,Int.pow_succ]
   exact ⟨Int.mul_nonneg ih.1 (by omega),Int.mul_le_mul ih.2 hg.2 (by omega) (by have:=Int.pow_pos (n:=60) (m:=k) (by decide);omega)⟩
 by_cases hb : (k : Int)<n
 ·have h1:=hpow (k+1)
  have h2:=pow_le_pow60 (k+1) (by omega)
  rw [Int.pow_succ] at h1
  have w1:=IntWalk.i64_in (g ^ k*g) (by omega)
  have w2:=IntWalk.i64_in ((k : Int)+1) (by omega)
  simp only [go_sem,Nat.reduceEqDiff,Nat.reducePow,Nat.reduceDiv,Nat.reduceMod,reduceCtorEq,h7,h5,hb,w1,w2,appendA_U]
  exact ⟨⟨k+1,rfl,by omega,by rw [Int.pow_succ]⟩,by omega⟩
 ·have e : k=n:=by omega
  subst e
  simp only [go_sem,Nat.reduceEqDiff,Nat.reducePow,Nat.reduceDiv,Nat.reduceMod,reduceCtorEq,h7,h5,hb,appendA_U]
  exact FinV.mk (Nat.le_refl _) hK
/-- A fraction in lowest terms. -/
def ratioV (n d : Int) : AVal:=.agg [.lit (.int .i64 (n.tdiv (Int.gcd n d : Int))),.lit (.int .i64 (d.tdiv (Int.gcd n d : Int)))]

theorem ratio_spec (n d : Int) (hn : -4611686018427387904≤n∧n≤4611686018427387904) (hd : 1≤d∧d≤4611686018427387904) (H : AHeap) (K : ARes→AHeap→Prop) (hK : K (.ret (ratioV n d)) H) : ACall Try.prog G0 66 [lin n,lin d] H K:=by
 refine ACall.clo ⟨_,Try.func66,rfl,rfl⟩ fun hcl=>?_
 have w1:=IntWalk.i64_in (0 - n) (by omega)
 have w2 : (if 0 - n > n then 0 - n else n)=(n.natAbs : Int):=by split<;>omega
 have w3 : (if n<0 - n then 0 - n else n)=(n.natAbs : Int):=w2
 refine ACall.of_body (n:=25) (rs:=[.cell 4 68]) Try.func66 rfl rfl rfl (by decide) (by kernel_rfl) (by simp) ?_
 simp only [go_sem,Nat.reduceEqDiff,reduceCtorEq,w1,w2,w3,appendA_U]
 refine W.loop0 258144 (by rfl) (fun ρ H'=>H'=ext H [.arr 0 68 [.lit (.int .i64 0),.lit (.int .i64 0)]]∧∃ x y : Int,ρ 5=lin x∧ρ 6=lin y∧0≤x∧0≤y∧Int.gcd x y=Int.gcd n d) (fun ρ H=>(iv (ρ 6)).toNat) ?_ ?_
 ·simp only [go_sem,Nat.reduceEqDiff,appendA_U]
  exact ⟨n.natAbs,d,rfl,rfl,by omega,by omega,by simp [Int.gcd]⟩
 rintro ρ H' ⟨rfl,x,y,h5,h6,hx,hy,hg⟩
 refine W.env fun E hE=>?_
 have e0 : E 0=lin n:=by rw [hE];simp only [go_sem,Nat.reducePow,Nat.reduceDiv,Nat.reduceMod,reduceCtorEq,appendA_U]
 have e1 : E 1=lin d:=by rw [hE];simp only [go_sem,Nat.reduceEqDiff,Nat.reducePow,Nat.reduceDiv,Nat.reduceMod,reduceCtorEq,appendA_U]
 have e4 : E 4=.ptr H.next 0 0:=by rw [hE];simp only [go_sem,Nat.reduceEqDiff,Nat.reducePow,Nat.reduceDiv,Nat.reduceMod,reduceCtorEq,appendA_U]
 have e5 : E 5=lin x:=by rw [hE];simp only [go_sem,Nat.reduceEqDiff,Nat.reducePow,Nat.reduceDiv,Nat.reduceMod,h5,appendA_U]
 have e6 : E 6=lin y:=by rw [hE];simp only [go_sem,Nat.reduceEqDiff,Nat.reducePow,Nat.reduceDiv,Nat.reduceMod,h6,appendA_U]
 clear hE
 refine vc_sound _ _ _ (by rfl) ?_
 by_cases hz : y=0
 ·subst hz
  have e : x=(Int.gcd n d : Int):=by rw [← hg,Int.gcd_zero_right];omega
  have g0 : 0<Int.gcd n d:=Int.gcd_pos_of_ne_zero_right _ (by omega)
  have hxz : ¬ x=0:=by omega
  have hgn : (Int.gcd n d : Int)≠0:=by omega
  simp only [go_sem,Nat.reduceEqDiff,Nat.reducePow,Nat.reduceDiv,Nat.reduceMod,e6,appendA_U]
  refine W.draw 6 [0,0,3,0,0,24] Try.mixed (by kernel_rfl) (by kernel_rfl) ?_
  have b1 : -4611686018427387904≤n.tdiv x∧n.tdiv x≤4611686018427387904:=by
   have h2 : (n.tdiv x).natAbs≤n.natAbs:=by rw [Int.natAbs_tdiv];exact Nat.div_le_self _ _
   omega
  have b2 : -4611686018427387904≤d.tdiv x∧d.tdiv x≤4611686018427387904:=by
   have h2 : (d.tdiv x).natAbs≤d.natAbs:=by rw [Int.natAbs_tdiv];exact Nat.div_le_self _ _
   omega
  have u1:=IntWalk.i64_in (n.tdiv x) (by omega)
  have u2:=IntWalk.i64_in (d.tdiv x) (by omega)
  simp only [go_sem,Nat.reduceEqDiff,Nat.reduceAdd,Nat.reduceLeDiff,reduceCtorEq,e0,e1,e4,e5,hxz,u1,u2,appendA_U]
  refine FinV.drop G0_ok hcl (v':=ratioV n d) ?_ hK
  rw [e]
  refine .agg rfl fun i hi _=>?_
  match i,hi with
  | 0,_=>exact .lit _
  | 1,_=>exact .lit _
 ·have m1 : x.tmod y=x % y:=Int.tmod_eq_emod_of_nonneg hx
  have m2:=Int.emod_nonneg x hz
  have m3:=Int.emod_lt_of_pos x (show 0<y by omega)
  simp only [go_sem,Nat.reduceEqDiff,Nat.reducePow,Nat.reduceDiv,Nat.reduceMod,e6,hz,appendA_U]
  refine W.draw 5 [0,0,0,6,3] Try.mixed (by kernel_rfl) (by kernel_rfl) ?_
  simp only [go_sem,Nat.reduceEqDiff,Nat.reduceAdd,e5,e6,hz,m1,appendA_U]
  refine ⟨⟨y,x % y,rfl,rfl,hy,m2,?_⟩,by rw [h6];simp only [lin,iv_int];omega⟩
  rw [← hg,Int.gcd_comm x y]
  exact gcd_step x y hx (by omega)
end Go.Proofs
set_option linter.unusedSimpArgs false
set_option maxRecDepth 100000
namespace Go.Proofs
open Go.Hx
theorem unitRow_ok {g card a : Int} (hg : 0≤g) (ha : 0≤a∧a<card) : RowOk g card (unitRow g card a):=by
 refine ⟨by rw [unitRow_len];omega,fun w hw=>?_,?_⟩
 ·unfold unitRow at hw
  rcases List.mem_or_eq_of_mem_set hw with h|h
  ·have:=List.eq_of_mem_replicate h;omega
  ·omega
 ·unfold unitRow
  have key : ∀ (n i : Nat),i<n→((List.replicate n (0 : Int)).set i g).sum=g:=by
   intro n
   induction n with
   | zero=>intro i h;omega
   | succ n ih =>
    intro i h
    cases i with
    | zero=>simp [List.replicate_succ]
    | succ i=>rw [List.replicate_succ,List.set_cons_succ,List.sum_cons,ih i (by omega)];omega
  exact key _ _ (by omega)
theorem fillL_card (d : InfP) (c : Nat→Nat→Int) : cardsL (fillL d c)=cardsL d.nodes:=fillK_card
theorem fillL_len (d : InfP) (c : Nat→Nat→Int) : (fillL d c).length=d.nodes.length:=fillK_len _ _ _
theorem fillL_get {d : InfP} {c : Nat→Nat→Int} {v : Nat} {x : NodeP} (h : d.nodes[v]?=some x) : (fillL d c)[v]?=some (fillN d c (decL d).length v x):=fillK_get h
theorem parC_fill (d : InfP) (c : Nat→Nat→Int) (x : NodeP) : parC (fillL d c) x=parC d.nodes x:=by unfold parC;rw [fillL_card]
theorem fillL_sets (d : InfP) (c : Nat→Nat→Int) : setsL (fillL d c)=setsL d.nodes:=by
 apply List.ext_getElem?
 intro v
 unfold setsL
 rw [List.getElem?_map,List.getElem?_map]
 rcases Nat.lt_or_ge v d.nodes.length with h|h
 ·obtain ⟨x,hx⟩:=get_of_lt h
  rw [fillL_get hx,hx]
  simp only [Option.map_some,(fillN_card d c _ v x).2]
 ·rw [List.getElem?_eq_none (by rw [fillL_len];exact h),List.getElem?_eq_none h]
theorem dec_place {d : InfP} {v : Nat} {x : NodeP} (hx : d.nodes[v]?=some x) (hb : d.decs.testBit v=true) : (decL d)[placeD d.decs v]?=some v:=decK_get (get_lt hx) hb
theorem fillN_dec {d : InfP} {c : Nat→Nat→Int} {v : Nat} {x : NodeP} (hx : d.nodes[v]?=some x) (hb : d.decs.testBit v=true) : fillN d c (decL d).length v x={ x with rows:=x.rows++decRows d.grain d.nodes c (placeD d.decs v) x } :=
 if_pos ⟨hb,get_lt (dec_place hx hb)⟩
theorem fillN_no {d : InfP} {c : Nat→Nat→Int} {v k : Nat} {x : NodeP} (hb : ¬ d.decs.testBit v=true) : fillN d c k v x=x:=if_neg fun h=>hb h.1
def ChoiceOk (d : InfP) (c : Nat→Nat→Int) : Prop:=∀ (k v r : Nat) (x : NodeP),(decL d)[k]?=some v→d.nodes[v]?=some x→r<rowsN d.nodes x→0≤c k r∧c k r<x.card
theorem netOk_fill {d : InfP} (h : InfOk d) {c : Nat→Nat→Int} (hc : ChoiceOk d c) : NetOk d.grain (fillL d c):=by
 have h0:=h.net
 refine ⟨h0.g1,by rw [fillL_len];exact h.n.n1,fun y hy=>?_,by have:=h0.size;rw [fillL_card] at this ⊢;exact this,by have:=h0.acyc;rw [fillL_sets] at this ⊢;exact this,fun y hy=>?_⟩
 ·obtain ⟨v,x,hx,rfl⟩:=fillL_mem hy
  have:=h0.node _ (List.mem_of_getElem? (fillL_get (c:=fun _ _=>0) hx))
  rw [(fillN_card ..).1,(fillN_card ..).2,fillL_len] at this ⊢
  exact this
 ·obtain ⟨v,x,hx,rfl⟩:=fillL_mem hy
  have h1:=h0.rows _ (List.mem_of_getElem? (fillL_get (c:=fun _ _=>0) hx))
  unfold NodeOk at h1 ⊢
  rw [parC_fill] at h1 ⊢
  by_cases hb : d.decs.testBit v=true
  ·rw [fillN_dec hx hb] at h1 ⊢
   have x1:=(h.n.dec v x hx hb).1
   refine ⟨?_,fun r hr=>?_⟩
   ·have:=h1.1
    rw [show ({ x with rows:=x.rows++decRows d.grain d.nodes (fun _ _=>0) (placeD d.decs v) x } : NodeP).rows.length=rowsN d.nodes x by simp [x1,decRows]] at this
    rw [show ({ x with rows:=x.rows++decRows d.grain d.nodes c (placeD d.decs v) x } : NodeP).rows.length=rowsN d.nodes x by simp [x1,decRows]]
    exact this
   ·rw [show ({ x with rows:=x.rows++decRows d.grain d.nodes c (placeD d.decs v) x } : NodeP).rows=x.rows++decRows d.grain d.nodes c (placeD d.decs v) x from rfl,x1,List.nil_append] at hr
    unfold decRows at hr
    obtain ⟨i,hi,rfl⟩:=List.mem_map.1 hr
    have:=h0.g1
    exact unitRow_ok (by omega) (hc _ _ _ x (dec_place hx hb) hx (List.mem_range.1 hi))
  ·rw [fillN_no hb] at h1 ⊢
   exact h1
theorem utilOk_fill {d : InfP} {c : Nat→Nat→Int} {u : UtilP} (h : UtilOk d.nodes u) : UtilOk (fillL d c) u:=⟨by rw [fillL_len];exact h.vars,by rw [fillL_card];exact h.size,h.w⟩
theorem choiceOk_pol {d : InfP} {p : List (List Int)} (h : PolOk d p) : ChoiceOk d (fixC p):=fun k v r x hv hx hr=>by
 obtain ⟨l,a,hl,ha,he,hb⟩:=polOk_get h hv hx hr
 rw [he];exact hb

/-- The value of a policy. -/
def sumP (d : InfP) (p : List (List Int)) : Int:=sumW (fillL d (fixC p)) d.utils (worlds d.nodes)
noncomputable def valR (d : InfP) (p : List (List Int)) : AVal:=if polErr d p=0 then ratioV (sumP d p) (d.grain ^ d.nodes.length) else .agg [.lit (.int .i64 0),.lit (.int .i64 0)]
theorem worlds_fill (d : InfP) (c : Nat→Nat→Int) : worlds (fillL d c)=worlds d.nodes:=by unfold worlds;rw [fillL_card]
def SumsOk (d : InfP) (p : List (List Int)) : Prop:=InfOk d→PolOk d p→∀ k,k≤worlds d.nodes→-1000000000000000000≤sumW (fillL d (fixC p)) d.utils k∧sumW (fillL d (fixC p)) d.utils k≤1000000000000000000

set_option maxHeartbeats 1000000 in
theorem value_spec (d : InfP) (hf : InfFit d) (p : List (List Int)) (hp : PolFit p) (hs : SumsOk d p) (H : AHeap) (K : ARes→AHeap→Prop) (hK : K (.ret (.tup [valR d p,lin (polErr d p)])) H) : ACall Try.prog G0 23 [infV d,vecV p] H K:=by
 refine ACall.clo ⟨_,Try.func23,rfl,rfl⟩ fun hcl=>?_
 refine ACall.of_body (n:=37) (rs:=[.cell 4 68,.tmp 5]) Try.func23 rfl rfl rfl (by decide) (by kernel_rfl) (by simp) ?_
 simp only [go_sem,Nat.reduceEqDiff,Nat.reduceAdd,infV_eq,infC,appendA_U]
 obtain ⟨H1,hH1⟩ : ∃ H1,H1=ext H [.arr 0 39 [.lit (.int .i64 d.grain),.vec d.nodes.length (nodesC d.nodes),.lit (.int .u64 (d.decs : Int)),.vec d.utils.length (utilsC d.utils)],.arr 0 68 [.lit (.int .i64 0),.lit (.int .i64 0)]]:=⟨_,rfl⟩
 have g1 : H1.get H.next=some (.arr 0 39 [.lit (.int .i64 d.grain),.vec d.nodes.length (nodesC d.nodes),.lit (.int .u64 (d.decs : Int)),.vec d.utils.length (utilsC d.utils)]):=by rw [hH1];exact get_ext0 ..
 have g2 : H1.get (H.next+1)=some (.arr 0 68 [.lit (.int .i64 0),.lit (.int .i64 0)]):=by rw [hH1];exact get_ext H _ 1 (by simp)
 have l1:=get_live g1
 have l2:=get_live g2
 have n1 : H1.next=H.next+2:=by rw [hH1];rfl
 have o1 : Over H H1:=by rw [hH1];exact .ext _ _
 rw [← hH1]
 refine AApply.clo (fix_spec d hf p hp _ _ ⟨trivial,?_⟩)
 by_cases hz : polErr d p=0
 rotate_left
 ·have hcell : (AVal.lit (.int .i64 (polErr d p))).cells=[.lit (.int .i64 (polErr d p))]:=rfl
  have ef : fixR d p=netNil:=if_neg hz
  have ev : valR d p=.agg [.lit (.int .i64 0),.lit (.int .i64 0)]:=if_neg hz
  have l2':=get_live (show (ext H1 [.arr 0 64 [.lit (.int .i64 0),.vec 0 []]]).get (H.next+1)=some (.arr 0 68 [.lit (.int .i64 0),.lit (.int .i64 0)]) by rw [get_ext_old _ _ _ (by omega)];exact g2)
  rw [ef]
  simp only [go_sem,Nat.reduceEqDiff,Nat.reduceAdd,hz,l2',netNil,appendA_U]
  rw [ev] at hK
  refine FinV.dropO (v':=.tup [.agg [.lit (.int .i64 0),.lit (.int .i64 0)],lin (polErr d p)]) G0_ok hcl (Over.upd (id:=H.next+1) (o1.trans (.ext _ _)) (Nat.le_succ _) _) (.tup rfl fun i hi _=>?_) hK
  match i,hi with
  | 0,_ =>
   refine .agg rfl fun i hi _=>?_
   match i,hi with
   | 0,_=>exact .lit _
   | 1,_=>exact .lit _
  | 1,_=>exact .lit _
 obtain ⟨hok,hpo⟩:=polErr_zero.1 hz
 have ef : fixR d p=netV d.grain (fillL d (fixC p)):=if_pos hz
 have ev : valR d p=ratioV (sumP d p) (d.grain ^ d.nodes.length):=if_pos hz
 rw [hz,ef,netV,nodesV]
 rw [hz,ev] at hK
 have hnet:=netOk_fill hok (choiceOk_pol hpo)
 have hsum:=hs hok hpo
 have hw:=worlds_fill d (fixC p)
 have hfl:=fillL_len d (fixC p)
 obtain ⟨ns,hns⟩ : ∃ ns,ns=fillL d (fixC p):=⟨_,rfl⟩
 rw [← hns] at hnet hsum hw hfl ⊢
 obtain ⟨H2,hH2⟩ : ∃ H2,H2=ext H1 [.arr 0 64 [.lit (.int .i64 d.grain),.vec ns.length (nodesC ns)]]:=⟨_,rfl⟩
 have n2 : H2.next=H1.next+1:=by rw [hH2];rfl
 have o2 : Over H1 H2:=by rw [hH2];exact .ext _ _
 have q1:=get_live ((o2.old _ (by omega)).trans g1)
 have q3:=get_live (show H2.get H1.next=some (.arr 0 64 [.lit (.int .i64 d.grain),.vec ns.length (nodesC ns)]) by rw [hH2];exact ext1_get_new)
 rw [hH2] at q1 q3
 simp only [go_sem,Nat.reduceEqDiff,Nat.reduceAdd,Nat.reduceLT,Nat.reduceLeDiff,q1,q3,appendA_U]
 obtain ⟨H3,hH3⟩ : ∃ H3,H3=ext H1 [.arr 0 64 [.lit (.int .i64 d.grain),.vec ns.length (nodesC ns)],.arr 0 124 [.lit (.int .i64 d.grain),.vec ns.length (nodesC ns),.vec d.utils.length (utilsC d.utils)],.arr 0 3 [.lit (.int .i64 0)]]:=⟨_,rfl⟩
 have n3 : H3.next=H1.next+3:=by rw [hH3];rfl
 have o3 : Over H H3:=by rw [hH3];exact o1.trans (.ext _ _)
 have r1 : H3.get (H1.next+1)=some (.arr 0 124 [.lit (.int .i64 d.grain),.vec ns.length (nodesC ns),.vec d.utils.length (utilsC d.utils)]):=by rw [hH3];exact get_ext H1 _ 1 (by simp)
 have r2 : H3.get (H1.next+2)=some (.arr 0 3 [.lit (.int .i64 0)]):=by rw [hH3];exact get_ext H1 _ 2 (by simp)
 have r0 : H3.get (H.next+1)=some (.arr 0 68 [.lit (.int .i64 0),.lit (.int .i64 0)]):=by rw [hH3,get_ext_old _ _ _ (by omega)];exact g2
 rw [← hH3]
 refine AApply.clo (each_spec d.grain ns d.utils hnet (fun u hu=>by rw [hns];exact utilOk_fill (hok.utils.2 u hu)) hok.utils.1 (fun k hk=>hsum k (by omega)) H3 (H1.next+2) (H1.next+1) r2 r1 (by omega) (by omega) (by omega) _ fun H4 h4 old hsb=>⟨trivial,?_⟩)
 have s1:=get_live ((old (H1.next+1) (by omega) (by omega)).trans r1)
 have s2:=get_live hsb
 have s0:=get_live ((old (H.next+1) (by omega) (by omega)).trans r0)
 rw [hw] at s2
 simp only [go_sem,q1,q3,appendA_U]
 refine W.draw 9 [0,0,2,6,0,16,48,112,254] Try.mixed (by kernel_rfl) (by kernel_rfl) ?_
 simp only [go_sem,Nat.reduceEqDiff,Nat.reducePow,Nat.reduceDiv,Nat.reduceMod,Nat.reduceAdd,reduceCtorEq,s0,s1,s2,appendA_U]
 have gp:=hok.net.g1
 have gn:=hok.n.n1
 have pw0 : 1≤d.grain ^ ns.length:=Int.pow_pos (by omega)
 have pw1 : d.grain ^ ns.length≤167961600000000:=by
  have key : ∀ k : Nat,d.grain ^ k≤60 ^ k:=fun k=>by
   induction k with
   | zero=>simp
   | succ k ih =>
    rw [Int.pow_succ,Int.pow_succ]
    exact Int.mul_le_mul ih gp.2 (by omega) (by have:=Int.pow_pos (n:=60) (m:=k) (by decide);omega)
  have:=key ns.length
  have:=pow_le_pow60 ns.length (by omega)
  omega
 have hsw:=hsum (worlds d.nodes) (Nat.le_refl _)
 refine ⟨lin (d.grain ^ ns.length),[],PCall.pure (fun H2=>whole_spec d.grain ns.length gp (by omega) H2 _ ⟨rfl,rfl⟩),?_⟩
 refine AApply.clo (ratio_spec _ _ (by omega) (by omega) _ _ ⟨trivial,?_⟩)
 simp only [go_sem,Nat.reduceEqDiff,Nat.reduceAdd,s0,s1,s2,ratioV,appendA_U]
 have o4 : Over H H4:=⟨by have:=o3.next;omega,fun id h=>(old id (by omega) (by omega)).trans (o3.old id h)⟩
 refine FinV.dropO (v':=.tup [ratioV (sumP d p) (d.grain ^ d.nodes.length),lin 0]) G0_ok hcl (Over.upd (id:=H.next+1) o4 (Nat.le_succ _) _) (.tup rfl fun i hi _=>?_) hK
 match i,hi with
 | 0,_ =>
  unfold sumP ratioV
  rw [← hns,hfl]
  refine .agg rfl fun i hi _=>?_
  match i,hi with
  | 0,_=>exact .lit _
  | 1,_=>exact .lit _
 | 1,_=>exact .lit _
end Go.Proofs
set_option linter.unusedSimpArgs false
set_option maxRecDepth 100000
namespace Go.Proofs
open Go.Hx
set_option maxHeartbeats 1000000 in
theorem values02_spec (cs : List Int) (h1 : ∀ c∈cs,1≤c) (hs : SmallC cs) (i0 : Int) (hi : 0≤i0∧i0≤4611686018427387904) (H : AHeap) (K : ARes→AHeap→Prop) (hK : K (.ret (vecI (valsL cs i0))) H) : ACall Try.prog G0 78 [vecI cs,lin i0] H K:=by
 refine ACall.clo ⟨_,Try.func78,rfl,rfl⟩ fun hcl=>?_
 have h12:=hs.1
 have w0:=IntWalk.i64_in ((cs.length : Int) - 1) (by omega)
 refine ACall.of_body (n:=33) (rs:=[.tmp 4]) Try.func78 rfl rfl rfl (by decide) (by kernel_rfl) (by simp) ?_
 simp only [go_sem,Nat.reduceEqDiff,reduceCtorEq,w0,appendA_U]
 refine ⟨by omega,?_⟩
 refine W.loop0 4294959170 (by rfl) (fun ρ H'=>∃ m : Nat,ρ 6=lin ((m : Int) - 1)∧m≤cs.length∧OwnI H H' H.next (List.replicate m 0++valsL (cs.drop m) i0)∧ρ 1=lin (i0 / prodL (cs.drop m))) (fun ρ H=>(iv (ρ 6)+1).toNat) ?_ ?_
 ·simp only [go_sem,Nat.reduceEqDiff,appendA_U]
  refine ⟨cs.length,rfl,by omega,?_,?_⟩
  ·rw [List.drop_length,show valsL [] i0=[] from rfl,List.append_nil]
   exact .new [] _
  ·rw [List.drop_length,prodL_nil,Int.ediv_one]
 rintro ρ H' ⟨m,h6,hm,ho,h1'⟩
 refine W.env fun E hE=>?_
 have e0 : E 0=.vec cs.length (ints cs):=by rw [hE];simp only [go_sem,Nat.reducePow,Nat.reduceDiv,Nat.reduceMod,reduceCtorEq,appendA_U]
 have e1 : E 1=lin (i0 / prodL (cs.drop m)):=by rw [hE];simp only [go_sem,Nat.reduceEqDiff,Nat.reducePow,Nat.reduceDiv,Nat.reduceMod,h1',appendA_U]
 have e5 : E 5=.own H.next 0 0 cs.length 1:=by rw [hE];simp only [go_sem,Nat.reduceEqDiff,Nat.reducePow,Nat.reduceDiv,Nat.reduceMod,reduceCtorEq,appendA_U]
 have e6 : E 6=lin ((m : Int) - 1):=by rw [hE];simp only [go_sem,Nat.reduceEqDiff,Nat.reducePow,Nat.reduceDiv,Nat.reduceMod,h6,appendA_U]
 clear hE
 refine vc_sound _ _ _ (by rfl) ?_
 have lN:=ho.live
 have clen : (List.replicate m 0++valsL (cs.drop m) i0).length=cs.length:=by simp [valsL_len];omega
 by_cases hm0 : m=0
 ·subst hm0
  have e6' : E 6=lin (-1):=e6
  simp only [go_sem,Int.reduceLE,Nat.reduceEqDiff,Nat.reducePow,Nat.reduceDiv,Nat.reduceMod,e6',e5,appendA_U]
  exact ho.fin hcl clen.symm hK
 ·obtain ⟨k,rfl⟩ : ∃ k,m=k+1:=⟨m - 1,by omega⟩
  have e6' : E 6=lin k:=by rw [e6];congr 1;omega
  obtain ⟨c,hck⟩:=get_of_lt (l:=cs) (i:=k) (by omega)
  have hne:=ne_of_get hck
  have c1:=h1 c (List.mem_of_getElem? hck)
  have hcz : ¬ c=0:=by omega
  have hk0 : (k : Int) ≥ 0:=by omega
  have hkc : (k : Int)<cs.length:=by omega
  have pp : 1≤prodL (cs.drop (k+1)):=prodL_pos fun c hc=>h1 c (List.mem_of_mem_drop hc)
  have q0 : 0≤i0 / prodL (cs.drop (k+1)):=Int.ediv_nonneg hi.1 (by omega)
  have q1 : i0 / prodL (cs.drop (k+1))≤i0:=Int.ediv_le_self _ hi.1
  have m1 : (i0 / prodL (cs.drop (k+1))).tmod c=i0 / prodL (cs.drop (k+1)) % c:=Int.tmod_eq_emod_of_nonneg q0
  have m2 : (i0 / prodL (cs.drop (k+1))).tdiv c=i0 / prodL (cs.drop (k+1)) / c:=Int.tdiv_eq_ediv_of_nonneg q0
  have m3 : 0≤i0 / prodL (cs.drop (k+1)) / c:=Int.ediv_nonneg q0 (by omega)
  have m4 : i0 / prodL (cs.drop (k+1)) / c≤i0 / prodL (cs.drop (k+1)):=Int.ediv_le_self _ q0
  have w1:=IntWalk.i64_in ((k : Int) - 1) (by omega)
  have w2:=IntWalk.i64_in (i0 / prodL (cs.drop (k+1)) / c) (by omega)
  simp only [go_sem,Nat.reduceEqDiff,Nat.reducePow,Nat.reduceDiv,Nat.reduceMod,reduceCtorEq,e0,e1,e5,e6',hk0,hkc,lN,hck,hne,hcz,m1,m2,w1,w2,appendA_U]
  refine ⟨by rw [← List.length_append,clen];omega,by have:=ho.hi;rw [upd_next];omega,⟨k,rfl,by omega,?_,?_⟩,by rw [h6];simp only [lin,iv_int];omega⟩
  ·have:=ho.store (k:=k) (by rw [clen];omega) (i0 / prodL (cs.drop (k+1)) % c)
   rw [show (List.replicate (k+1) (0 : Int)++valsL (cs.drop (k+1)) i0).set k (i0 / prodL (cs.drop (k+1)) % c)=List.replicate k 0++valsL (cs.drop k) i0 by
    rw [valsL_drop hck,List.replicate_succ',List.append_assoc,List.set_append_right _ _ (by simp)]
    simp] at this
   exact this
  ·rw [drop_of_get hck,prodL_cons,Int.mul_comm c,Int.ediv_ediv_of_nonneg (by omega)]

theorem values05_spec (g : Int) (ns : List NodeP) (h8 : ns.length≤8) (hc : ∀ y∈ns,1≤y.card∧y.card≤4) (i0 : Int) (hi : 0≤i0∧i0≤4611686018427387904) (H : AHeap) (K : ARes→AHeap→Prop) (hK : K (.ret (vecI (valsL (cardsL ns) i0))) H) : ACall Try.prog G0 35 [netV g ns,lin i0] H K:=by
 refine ACall.clo ⟨_,Try.func35,rfl,rfl⟩ fun hcl=>?_
 have hcards : ∀ c∈cardsL ns,1≤c∧c≤4:=fun c h=>by
  obtain ⟨x,hx,rfl⟩:=List.mem_map.1 h
  exact hc x hx
 have sm : SmallC (cardsL ns):=smallC_of (by rw [cards_len];omega) hcards
 refine ACall.of_body (n:=9) (rs:=[.tmp 4]) Try.func35 rfl rfl rfl (by decide) (by kernel_rfl) (by simp) ?_
 simp only [go_sem,Nat.reduceEqDiff,Nat.reduceAdd,netV,nodesV,appendA_U]
 refine AApply.clo (cards05_spec g ns (by omega) _ _ ⟨trivial,?_⟩)
 simp only [go_sem,Nat.reduceEqDiff,appendA_U]
 refine AApply.clo (values02_spec (cardsL ns) (fun c h=>(hcards c h).1) sm i0 hi _ _ ⟨trivial,?_⟩)
 simp only [go_sem,Nat.reduceEqDiff,appendA_U]
 exact FinV.drop G0_ok hcl (.keepInts _) hK
theorem worlds05_spec (g : Int) (ns : List NodeP) (h8 : ns.length≤8) (hc : ∀ y∈ns,1≤y.card∧y.card≤4) (H : AHeap) (K : ARes→AHeap→Prop) (hK : K (.ret (lin (prodL (cardsL ns)))) H) : ACall Try.prog G0 34 [netV g ns] H K:=by
 refine ACall.clo ⟨_,Try.func34,rfl,rfl⟩ fun hcl=>?_
 have hcards : ∀ c∈cardsL ns,1≤c∧c≤4:=fun c h=>by
  obtain ⟨x,hx,rfl⟩:=List.mem_map.1 h
  exact hc x hx
 have sm : SmallC (cardsL ns):=smallC_of (by rw [cards_len];omega) hcards
 refine ACall.of_body (n:=6) (rs:=[.tmp 2]) Try.func34 rfl rfl rfl (by decide) (by kernel_rfl) (by simp) ?_
 simp only [go_sem,Nat.reduceEqDiff,Nat.reduceAdd,netV,nodesV,appendA_U]
 refine AApply.clo (cards05_spec g ns (by omega) _ _ ⟨trivial,?_⟩)
 simp only [go_sem,Nat.reduceEqDiff,appendA_U]
 refine AApply.clo (size02_spec (cardsL ns) sm _ _ ⟨trivial,?_⟩)
 simp only [go_sem,Nat.reduceEqDiff,appendA_U]
 exact FinV.drop G0_ok hcl (.lit _) hK
end Go.Proofs
set_option linter.unusedSimpArgs false
set_option maxRecDepth 100000
namespace Go.Proofs
open Go.Hx
set_option maxHeartbeats 1000000 in
theorem row05_spec (g : Int) (ns : List NodeP) (h : NetOk g ns) (vals : List Int) (hf : FitsC (cardsL ns) vals) (v : Nat) (x : NodeP) (hx : ns[v]?=some x) (H : AHeap) (K : ARes→AHeap→Prop) (hK : K (.ret (vecI (rowV ns x vals))) H) : ACall Try.prog G0 79 [netV g ns,lin v,vecI vals] H K:=by
 refine ACall.clo ⟨_,Try.func79,rfl,rfl⟩ fun hcl=>?_
 have n8:=h.n1
 have hxm:=List.mem_of_getElem? hx
 have hin : InRange x.parents ns.length:=fun q hq=>by have:=(h.node x hxm).2.2 q hq;omega
 have sm:=parC_small n8.2 (h.node x hxm).2 fun y hy=>(h.node y hy).1
 have pl : (parC ns x).length=x.parents.length:=atL_len _ _
 have p12:=sm.1
 have hfp:=fits_par hin hf
 obtain ⟨i,r,a,w,hR⟩:=row_at h hx hf
 have hne:=nodesC_ne hx
 have e1:=nodesC_1 hx
 have e2:=nodesC_2 hx
 have hv : (v : Int)<ns.length:=by have:=get_lt hx;omega
 have hvl : vals.length=ns.length:=by rw [hf.1,cards_len]
 have hri:=hR.row
 have hrne:=ne_of_get hri
 have hrl : (i : Int)<x.rows.length:=by have:=get_lt hri;omega
 have hidx:=hR.idx
 rw [hR.rv] at hK
 have hin' : ∀ q∈x.parents,0≤q∧q<(vals.length : Int):=fun q hq=>by rw [hvl];exact hin q hq
 refine ACall.of_body (n:=27) (rs:=[.tmp 6]) Try.func79 rfl rfl rfl (by decide) (by kernel_rfl) (by simp) ?_
 simp only [go_sem,netV,nodesV,appendA_U]
 refine W.draw 18 [0,1,0,7,15,31,0,0,192,0,0,1024,0,7168,15360,31744,65472,131008] Try.mixed (by kernel_rfl) (by kernel_rfl) ?_
 simp only [go_sem,Nat.reduceEqDiff,Nat.reducePow,Nat.reduceDiv,Nat.reduceMod,Nat.reduceAdd,reduceCtorEq,hv,hne,e1,e2,appendA_U]
 refine ⟨vecI (parC ns x),[],PCall.pure (fun H2=>parentCards_spec g ns v x hx (by omega) (by omega) hin H2 _ ⟨rfl,rfl⟩),?_⟩
 simp only [go_sem,Nat.reducePow,Nat.reduceDiv,Nat.reduceMod,reduceCtorEq,hv,hne,e1,e2,appendA_U]
 refine ⟨vecI (atL vals x.parents),[],PCall.pure (fun H2=>at02_spec vals x.parents (by omega) (by omega) hin' H2 _ ⟨rfl,rfl⟩),?_⟩
 simp only [go_sem,Nat.reducePow,Nat.reduceDiv,Nat.reduceMod,reduceCtorEq,hv,hne,e1,e2,appendA_U]
 refine ⟨lin i,[],PCall.pure (fun H2=>index02_spec (parC ns x) (atL vals x.parents) sm hfp H2 _ ⟨by rw [hidx],rfl⟩),?_⟩
 simp only [go_sem,Nat.reduceEqDiff,hv,hne,e1,e2,hrl,vecV,hri,hrne,appendA_U]
 exact FinV.drop G0_ok hcl (.keepInts _) hK
set_option maxHeartbeats 1000000 in
theorem weight05_spec (g : Int) (ns : List NodeP) (h : NetOk g ns) (i0 : Int) (hi : 0≤i0∧i0≤4611686018427387904) (H : AHeap) (K : ARes→AHeap→Prop) (hK : K (.ret (lin (weight ns (valsL (cardsL ns) i0)))) H) : ACall Try.prog G0 36 [netV g ns,lin i0] H K:=by
 refine ACall.clo ⟨_,Try.func36,rfl,rfl⟩ fun hcl=>?_
 have n8:=h.n1
 have hcards : ∀ c∈cardsL ns,1≤c∧c≤4:=fun c hc=>by
  obtain ⟨x,hx,rfl⟩:=List.mem_map.1 hc
  exact (h.node x hx).1
 refine ACall.of_body (n:=31) (rs:=[.tmp 4]) Try.func36 rfl rfl rfl (by decide) (by kernel_rfl) (by simp) ?_
 simp only [go_sem,Nat.reduceEqDiff,Nat.reduceAdd,netV,nodesV,appendA_U]
 obtain ⟨H1,hH1⟩ : ∃ H1,H1=ext H [.arr 0 64 [.lit (.int .i64 g),.vec ns.length (nodesC ns)]]:=⟨_,rfl⟩
 have l1 : H1.live H.next 0=some (64,[.lit (.int .i64 g),.vec ns.length (nodesC ns)]):=by rw [hH1];exact get_live (get_ext0 ..)
 have o1 : Over H H1:=by rw [hH1];exact .ext _ _
 rw [← hH1]
 refine AApply.clo (values05_spec g ns n8.2 (fun y hy=>(h.node y hy).1) i0 hi _ _ ⟨trivial,?_⟩)
 obtain ⟨vals,hvals⟩ : ∃ vals,vals=valsL (cardsL ns) i0:=⟨_,rfl⟩
 have hfit : FitsC (cardsL ns) vals:=by rw [hvals];exact fits_vals (fun c hc=>(hcards c hc).1) _
 have hvl : vals.length=ns.length:=by rw [hfit.1,cards_len]
 rw [← hvals] at hK ⊢
 simp only [go_sem,Nat.reduceEqDiff,l1,appendA_U]
 refine W.loop0 1073739968 (by rfl) (fun ρ H'=>H'=H1∧∃ v : Nat,ρ 7=lin v∧v≤ns.length∧ρ 6=lin (prodL ((wgtL ns vals).take v))) (fun ρ H=>ns.length - (iv (ρ 7)).toNat) ?_ ?_
 ·simp only [go_sem,Nat.reduceEqDiff,appendA_U]
  exact ⟨0,rfl,by omega,by simp [prodL_nil]⟩
 rintro ρ H' ⟨rfl,v,h7,hv,h6⟩
 refine W.env fun E hE=>?_
 have e2 : E 2=.ptr H.next 0 0:=by rw [hE];simp only [go_sem,Nat.reduceEqDiff,Nat.reducePow,Nat.reduceDiv,Nat.reduceMod,reduceCtorEq,appendA_U]
 have e5 : E 5=vecI vals:=by rw [hE];simp only [go_sem,Nat.reduceEqDiff,Nat.reducePow,Nat.reduceDiv,Nat.reduceMod,reduceCtorEq,appendA_U]
 have e6 : E 6=lin (prodL ((wgtL ns vals).take v)):=by rw [hE];simp only [go_sem,Nat.reduceEqDiff,Nat.reducePow,Nat.reduceDiv,Nat.reduceMod,h6,appendA_U]
 have e7 : E 7=lin v:=by rw [hE];simp only [go_sem,Nat.reduceEqDiff,Nat.reducePow,Nat.reduceDiv,Nat.reduceMod,h7,appendA_U]
 clear hE
 refine vc_sound _ _ _ (by rfl) ?_
 by_cases hb : (v : Int)<ns.length
 ·obtain ⟨x,hx⟩:=get_of_lt (l:=ns) (i:=v) (by omega)
  obtain ⟨i,r,a,w,hR⟩:=row_at h hx hfit
  obtain ⟨a',rfl⟩:=Int.eq_ofNat_of_zero_le hR.a0
  have hva:=hR.val
  have hvne:=ne_of_get hva
  have hvv : (v : Int)<vals.length:=by omega
  have hra : r[a']?=some w:=by have:=hR.hw;rw [Int.toNat_natCast] at this;exact this
  have hrane:=ne_of_get hra
  have hal:=hR.al
  have wt:=wgt_take h hfit (v+1)
  rw [take_succ_get (wgtL_get (vals:=vals) (v:=v) (by omega)),prodL_snoc,hR.eq] at wt
  have w1:=IntWalk.i64_in ((v : Int)+1) (by omega)
  have w2:=IntWalk.i64_in (prodL ((wgtL ns vals).take v)*w) (by omega)
  simp only [go_sem,Nat.reduceEqDiff,Nat.reducePow,Nat.reduceDiv,Nat.reduceMod,l1,e2,e5,e6,e7,hb,appendA_U]
  refine W.draw 11 [0,0,0,0,14,0,0,96,224,510,1022] Try.mixed (by kernel_rfl) (by kernel_rfl) ?_
  simp only [go_sem,Nat.reduceEqDiff,Nat.reducePow,Nat.reduceDiv,Nat.reduceMod,Nat.reduceAdd,l1,e2,e5,e6,e7,hb,appendA_U]
  refine ⟨vecI r,[],PCall.pure (fun H2=>row05_spec g ns h vals hfit v x hx H2 _ ⟨by rw [hR.rv],rfl⟩),?_⟩
  simp only [go_sem,Nat.reduceEqDiff,Nat.reducePow,Nat.reduceDiv,Nat.reduceMod,reduceCtorEq,l1,e2,e5,e6,e7,hva,hvne,hvv,hra,hrane,hal,w1,w2,appendA_U]
  refine ⟨⟨v+1,rfl,by omega,?_⟩,by rw [h7];simp only [lin,iv_int];omega⟩
  rw [take_succ_get (wgtL_get (vals:=vals) (v:=v) (by omega)),prodL_snoc,hR.eq]
 ·have e : v=ns.length:=by omega
  subst e
  simp only [go_sem,Nat.reduceEqDiff,Nat.reducePow,Nat.reduceDiv,Nat.reduceMod,l1,e2,e6,e7,hb,appendA_U]
  rw [List.take_of_length_le (by rw [wgtL_len];omega)]
  exact FinV.dropO G0_ok hcl o1 (.lit _) hK
end Go.Proofs
set_option linter.unusedSimpArgs false
set_option maxRecDepth 100000
namespace Go.Proofs.R01
open Go.Hx
section
variable {P : Program} {t : TypeId} {x y : Operand} {k k' : IntKind} {a b : Int}
theorem pureRun_bind {α β : Type} {s : Sem α} {f : α→Sem β} {a : α} (h : pureRun P s=some a) : pureRun P (s >>= f)=pureRun P (f a):=by
 induction s with
 | pure b=>simp only [pureRun,Option.some.injEq] at h;subst h;rfl
 | program k ih=>exact ih P h
 | mark m k ih=>exact ih h
 | _=>simp [pureRun] at h
theorem equalIn_bool {t : TypeId} {a b : Bool} (n : Nat) (ht : P.underlying t=some .bool) : pureRun P (Op.equalIn (n+1) t (.bool a) (.bool b))=some (a == b):=by
 unfold Op.equalIn
 simp [underlying,program,ht,pureRun,bind,Sem.bind,pure]
theorem bin_neq_bool {t : TypeId} {x y : Operand} {a b : Bool} (ht : P.underlying t=some .bool) : binA P .neq t x y (.lit (.bool a)) (.lit (.bool b))=some (.lit (.bool (!(a == b)))):=by
 have h1 : (do eqGuard .neq t x y (.bool a) (.bool b);binOp .neq t (.bool a) (.bool b))=(Op.equalIn (9999+1) t (.bool a) (.bool b) >>= fun r=>pure (Value.bool (!r))):=rfl
 show (pureRun P _).map _=_
 rw [h1,pureRun_bind (equalIn_bool 9999 ht)]
 rfl
end
section
variable {P : Program} {G : Nat→Option (List AVal)}
theorem below_mono {n m : Nat} {v : AVal} (h : Below n v) (hm : n≤m) : Below m v:=by
 induction h with
 | lit v=>exact .lit v
 | vec h ih=>exact .vec ih
 | vptr h ih=>exact .vptr ih
 | agg h ih=>exact .agg ih
 | tup h ih=>exact .tup ih
 | clo h1 h2 ih1 ih2=>exact .clo ih1 ih2
 | own h=>exact .own (by omega)
 | ptr h=>exact .ptr (by omega)
 | yld h=>exact .yld (by omega)
theorem belowB_mono {n m : Nat} {b : Blk} (h : BelowB n b) (hm : n≤m) : BelowB m b:=by
 cases b with
 | arr g e cells=>exact fun i hi=>below_mono (h i hi) hm
 | loop st pend n env ps asg body=>exact fun t ht=>below_mono (h t ht) hm
 | rsv=>trivial
 | mp=>exact h
theorem clo_ext {H : AHeap} (hc : Clo H) {L : List Blk} (h : ∀ b,b∈L→BelowB (H.next+L.length) b) : Clo (ext H L):=by
 have key : ∀ id b,(ext H L).get id=some b→(id<H.next∧H.get id=some b)∨(id<H.next+L.length∧b∈L):=by
  intro id b hb
  by_cases h1 : id<H.next
  ·rw [get_ext_old _ _ _ h1] at hb;exact .inl ⟨h1,hb⟩
  ·by_cases h2 : id<H.next+L.length
   ·have:=get_ext H L (id - H.next) (by omega)
    rw [show H.next+(id - H.next)=id by omega,hb] at this
    exact .inr ⟨h2,List.mem_of_getElem? this.symm⟩
   ·have : (ext H L).get id=H.get id:=by unfold ext;simp only;rw [if_neg (by omega)]
    rw [this] at hb
    exact absurd (hc.lt _ _ hb) h1
 refine ⟨fun id b hb=>?_,fun id b hb=>?_⟩
 ·rw [ext_next];rcases key id b hb with ⟨h1,_⟩|⟨h1,_⟩<;>omega
 ·rw [ext_next]
  rcases key id b hb with ⟨_,h1⟩|⟨_,h1⟩
  ·exact belowB_mono (hc.below _ _ h1) (by omega)
  ·exact h b h1
theorem belowB_lits {n g : Nat} {e : TypeId} {cells : List AVal} (h : ∀ c,c∈cells→∃ v,c=.lit v) : BelowB n (.arr g e cells):=fun i hi=>by
 obtain ⟨v,hv⟩:=h _ (List.getElem_mem hi)
 rw [hv];exact .lit v
end
def qV (n d : Int) : AVal:=.agg [.lit (.int .i64 n),.lit (.int .i64 d)]
def sgnB (a c : Int) : Bool:=!(decide (a<0) == decide (c<0))
def cmpI (p q : Int) : Int:=if p<q then -1 else if p=q then 0 else 1
theorem fz_lits {S : Nat→Prop} {H : AHeap} {nx : Nat} (n d : Int) : Fz S H nx (.agg [.lit (.int .i64 n),.lit (.int .i64 d)]) (qV n d) :=
 .agg rfl fun i hi _=>match i,hi with
  | 0,_=>.lit _
  | 1,_=>.lit _
end Go.Proofs.R01
set_option linter.unusedSimpArgs false
set_option maxRecDepth 100000
namespace Go.Proofs.R01
open Go.Hx
def val : List Int → Nat
  | [] => 0
  | a :: l => a.toNat + 10000 * val l
def dig (n : Nat) : List Int := if h : n = 0 then [] else ((n % 10000 : Nat) : Int) :: dig (n / 10000)
termination_by n
decreasing_by omega
theorem dig_zero : dig 0 = [] := by rw [dig]; rfl
theorem dig_pos {n : Nat} (h : n ≠ 0) : dig n = ((n % 10000 : Nat) : Int) :: dig (n / 10000) := by
  conv => lhs; rw [dig]
  rw [dif_neg h]
theorem val_dig : ∀ n : Nat, val (dig n) = n := by
  intro n
  induction n using Nat.strongRecOn with
  | _ n ih =>
    by_cases h : n = 0
    · subst h; rw [dig_zero]; rfl
    · rw [dig_pos h, val, ih _ (by omega)]
      omega
/-- Digits. -/
def Dg (l : List Int) : Prop := ∀ c, c ∈ l → 0 ≤ c ∧ c ≤ 9999
theorem dg_dig : ∀ n : Nat, Dg (dig n) := by
  intro n
  induction n using Nat.strongRecOn with
  | _ n ih =>
    by_cases h : n = 0
    · subst h; rw [dig_zero]; intro c hc; cases hc
    · rw [dig_pos h]
      intro c hc
      rcases List.mem_cons.1 hc with rfl | hc
      · omega
      · exact ih _ (by omega) c hc
theorem val_append : ∀ (l m : List Int), val (l ++ m) = val l + 10000 ^ l.length * val m
  | [], m => by simp [val]
  | a :: l, m => by
    simp only [List.cons_append, val, val_append l m, List.length_cons, Nat.pow_succ, Nat.mul_add]
    rw [show 10000 * (10000 ^ l.length * val m) = 10000 ^ l.length * 10000 * val m by ac_rfl]
    omega
theorem val_lt : ∀ {l : List Int}, Dg l → val l < 10000 ^ l.length
  | [], _ => by simp [val]
  | a :: l, h => by
    have ih := val_lt (l := l) fun c hc => h c (by simp [hc])
    have ha := h a (by simp)
    simp only [val, List.length_cons, Nat.pow_succ]
    omega
theorem dig_len {n k : Nat} (h : n < 10000 ^ k) : (dig n).length ≤ k := by
  induction k generalizing n with
  | zero => have : n = 0 := by simpa using h
            subst this; rw [dig_zero]; simp
  | succ k ih =>
    by_cases h0 : n = 0
    · subst h0; rw [dig_zero]; simp
    · rw [dig_pos h0, List.length_cons]
      have : n / 10000 < 10000 ^ k := by
        rw [Nat.pow_succ] at h
        exact Nat.div_lt_of_lt_mul (by rw [Nat.mul_comm]; exact h)
      have := ih this
      omega
/-- The zeros at the end, removed. -/
theorem dig_of : ∀ {l : List Int}, Dg l → (∀ a, l.getLast? = some a → a ≠ 0) → dig (val l) = l
  | [], _, _ => dig_zero
  | a :: l, h, hl => by
    have ha := h a (by simp)
    have hd : Dg l := fun c hc => h c (by simp [hc])
    have ih := dig_of (l := l) hd fun b hb => hl b (by
      cases l with
      | nil => cases hb
      | cons c l => simpa [List.getLast?_cons_cons] using hb)
    by_cases h0 : val (a :: l) = 0
    · exfalso
      simp only [val] at h0
      have a0 : a = 0 := by omega
      have v0 : val l = 0 := by omega
      rw [v0, dig_zero] at ih
      exact hl a (by rw [← ih]; rfl) a0
    · rw [dig_pos h0]
      have e1 : val (a :: l) % 10000 = a.toNat := by simp only [val]; omega
      have e2 : val (a :: l) / 10000 = val l := by simp only [val]; omega
      rw [e1, e2, ih]
      congr 1
      omega
theorem val_zeros (k : Nat) : val (List.replicate k 0) = 0 := by
  induction k with
  | zero => rfl
  | succ k ih => simp [List.replicate_succ, val, ih]
theorem dig_nil {n : Nat} : dig n = [] ↔ n = 0 := by
  constructor
  · intro h
    have := val_dig n
    rw [h] at this
    exact this.symm
  · rintro rfl; exact dig_zero
theorem dig_lb (b : Nat) : b ≠ 0 → 10000 ^ ((dig b).length - 1) ≤ b := by
  induction b using Nat.strongRecOn with
  | _ b ih =>
    intro hb
    rw [dig_pos hb, List.length_cons, Nat.add_sub_cancel]
    by_cases h1 : b / 10000 = 0
    · rw [h1, dig_zero]; simp; omega
    · have := ih _ (by omega) h1
      have hl : (dig (b / 10000)).length ≠ 0 := by
        intro h
        exact h1 (dig_nil.1 (List.eq_nil_of_length_eq_zero h))
      obtain ⟨k, hk⟩ : ∃ k, (dig (b / 10000)).length = k + 1 := ⟨_, (Nat.succ_pred_eq_of_ne_zero hl).symm⟩
      rw [hk] at this ⊢
      rw [Nat.add_sub_cancel] at this
      rw [Nat.pow_succ]
      omega
/-- Longer lists of digits are greater numbers. -/
theorem dig_lt_len {a b : Nat} (h : (dig a).length < (dig b).length) : a < b := by
  rcases Nat.lt_or_ge a b with h1 | h1
  · exact h1
  · exfalso
    have h2 := dig_lb b (by intro h0; rw [h0, dig_zero] at h; simp at h)
    have h3 := val_lt (dg_dig a)
    rw [val_dig] at h3
    have h4 : 10000 ^ (dig a).length ≤ 10000 ^ ((dig b).length - 1) := Nat.pow_le_pow_right (by decide) (by omega)
    omega
end Go.Proofs.R01
set_option linter.unusedSimpArgs false
set_option maxRecDepth 100000
namespace Go.Proofs.R01
open Go.Hx
theorem take_succ_of {α : Type} {l : List α} {i : Nat} {a : α} (h : l[i]? = some a) : l.take (i + 1) = l.take i ++ [a] := by
  rw [List.take_add_one, h]; rfl
theorem over_app {H H' H2 : AHeap} {v : AVal} {cs : List AVal} {e : TypeId} (ov : Over H H') (h : OwnG H.next H' e v cs) (hn : H'.next ≤ H2.next) (hp : ∀ k, k < H'.next → (∀ g n, v ≠ .own k g 0 n 1) → H2.get k = H'.get k) : Over H H2 :=
  ⟨by have := ov.next; omega, fun id hid => by
    rw [hp id (by have := ov.next; omega) fun g n he => ?_, ov.old id hid]
    rcases h with ⟨h, _⟩ | ⟨i2, g2, a1, _, h, _⟩
    · rw [h] at he; cases he
    · rw [h] at he; have := AVal.own.inj he; omega⟩
theorem digits_spec (n : Int) (hn : -9223372036854775808 ≤ n ∧ n ≤ 9223372036854775807) (H : AHeap) (K : ARes → AHeap → Prop) (hK : K (.ret (vecI (dig n.natAbs))) H) : ACall Try.prog G0 99 [.lit (.int .i64 n)] H K := by
  refine ACall.clo ⟨_, Try.func99, rfl, rfl⟩ fun hcl => ?_
  refine ACall.of_body (n := 19) (rs := [.tmp 2]) Try.func99 rfl rfl rfl (by decide) (by kernel_rfl) (by simp) ?_
  simp only [go_sem, appendA_U]
  refine W.loop0 262137 (by rfl) (fun ρ H' => ∃ (c : Int) (done : List Int), ρ 0 = lin c ∧ Over H H' ∧ OwnG H.next H' 3 (ρ 3) (ints done) ∧ dig n.natAbs = done ++ dig c.natAbs ∧ c.natAbs ≤ n.natAbs) (fun ρ H => (iv (ρ 0)).natAbs) ?_ ?_
  · simp only [go_sem, Nat.reduceEqDiff, reduceCtorEq, appendA_U]
    exact ⟨n, [], rfl, .refl _, .nil, by simp, by omega⟩
  rintro ρ H' ⟨c, done, h0, ov, h3, hd, hc⟩
  refine vc_sound _ _ _ (by rfl) ?_
  by_cases hz : c = 0
  · subst hz
    simp only [go_sem, Nat.reduceEqDiff, Nat.reducePow, Nat.reduceDiv, Nat.reduceMod, reduceCtorEq, h0, appendA_U]
    rw [show (0 : Int).natAbs = 0 from rfl, dig_zero, List.append_nil] at hd
    rw [hd] at hK
    exact FinV.dropO G0_ok hcl ov (h3.fzI fun i hi => hi) hK
  · have hq : (c.tdiv 10000).natAbs = c.natAbs / 10000 := by rw [Int.natAbs_tdiv]; rfl
    have hr : (c.tmod 10000).natAbs = c.natAbs % 10000 := by rw [Int.natAbs_tmod]; rfl
    have w1 := IntWalk.i64_in (c.tmod 10000) (by omega)
    have w2 := IntWalk.i64_in (0 - c.tmod 10000) (by omega)
    have w3 := IntWalk.i64_in (c.tdiv 10000) (by omega)
    have hmax : (if 0 - c.tmod 10000 > c.tmod 10000 then 0 - c.tmod 10000 else c.tmod 10000) = ((c.natAbs % 10000 : Nat) : Int) := by split <;> omega
    have h5 : (dig n.natAbs).length ≤ 5 := dig_len (by have : (10000 : Nat) ^ 5 = 100000000000000000000 := by decide
                                                       omega)
    have hlen : done.length ≤ 5 := by rw [hd, List.length_append] at h5; omega
    have hdc := dig_pos (n := c.natAbs) (by omega)
    obtain ⟨v', H2, hA, hO, hn2, hp⟩ := app_oneG (P := Try.prog) (H := H') (t := 59) (x := lin (c.natAbs % 10000 : Nat)) (n := H'.next + 1) Try.underlying59 Try.cells3 Try.zero3 rfl (by rw [Try.bytes3, ints_length]; omega) h3 ov.next rfl
    simp only [lin] at hA
    simp only [go_sem, Int.reduceEq, Nat.reduceEqDiff, Nat.reducePow, Nat.reduceDiv, Nat.reduceMod, Nat.reduceLeDiff, reduceCtorEq, h0, hz, w1, w2, w3, hmax, hA]
    have ov2 : Over H H2 := over_app ov h3 hn2 hp
    refine ⟨ov2.next, ⟨c.tdiv 10000, done ++ [((c.natAbs % 10000 : Nat) : Int)], rfl, ov2, ?_, ?_, by omega⟩, by omega⟩
    · simpa [ints, lin] using hO
    · rw [hd, hdc, hq]; simp
theorem cut_spec (l : List Int) (hl : Dg l) (hn : (l.length : Int) < 2 ^ 40) (H : AHeap) (K : ARes → AHeap → Prop) (hK : K (.ret (vecI (dig (val l)))) H) : ACall Try.prog G0 111 [vecI l] H K := by
  refine ACall.of_body (n := 21) (rs := [.tmp 2]) Try.func111 rfl rfl rfl (by decide) (by kernel_rfl) (by simp) ?_
  simp only [go_sem, appendA_U]
  refine W.loop0 1048569 (by rfl) (fun ρ H' => H = H' ∧ ∃ (m : List Int), ρ 0 = vecI m ∧ Dg m ∧ val m = val l ∧ m.length ≤ l.length) (fun ρ H => (match ρ 0 with | .vec n _ => n | _ => 0)) ?_ ?_
  · simp only [go_sem, reduceCtorEq, appendA_U]
    exact ⟨l, rfl, hl, rfl, Nat.le_refl _⟩
  rintro ρ H' ⟨rfl, m, h0, hd, hv, hm⟩
  refine vc_sound _ _ _ (by rfl) ?_
  unfold vecI at h0
  by_cases hz : m.length = 0
  · have hm0 : m = [] := List.eq_nil_of_length_eq_zero hz
    subst hm0
    have z1 : ¬ (0 : Int) < ((0 : Nat) : Int) := by omega
    simp only [go_sem, Int.reduceLT, Nat.reduceEqDiff, Nat.reducePow, Nat.reduceDiv, Nat.reduceMod, reduceCtorEq, h0, guardA_undef, List.length_nil, appendA_U]
    rw [← hv] at hK
    have : dig (val []) = [] := dig_zero
    rw [this] at hK
    exact FinV.mk (Nat.le_refl _) hK
  · obtain ⟨a, ha⟩ : ∃ a, m[m.length - 1]? = some a := ⟨_, List.getElem?_eq_getElem (by omega)⟩
    have hmn : ¬ m = [] := by rintro rfl; simp at hz
    have z1 : (0 : Int) < (m.length : Int) := by omega
    have w1 : IntKind.i64.wrap ((m.length : Int) - 1) = ((m.length - 1 : Nat) : Int) := by rw [IntWalk.i64_in _ (by omega)]; omega
    have b1 : ((m.length - 1 : Nat) : Int) < (m.length : Int) := by omega
    have b2 : ((m.length - 1 : Nat) : Int) ≤ (m.length : Int) := by omega
    by_cases h0a : a = 0
    · subst h0a
      simp only [go_sem, Nat.reduceEqDiff, Nat.reducePow, Nat.reduceDiv, Nat.reduceMod, reduceCtorEq, h0, z1, w1, b1, b2, ha, hmn, appendA_U]
      have hs : m.take (m.length - 1) ++ [0] = m := by
        have h := take_succ_of ha
        rw [Nat.sub_add_cancel (by omega), List.take_length] at h
        exact h.symm
      refine ⟨⟨m.take (m.length - 1), ?_, fun c hc => hd c (List.mem_of_mem_take hc), ?_, by simp; omega⟩, by omega⟩
      · simp only [List.length_take, ints_take]; congr 1; omega
      · rw [← hv]
        conv => rhs; rw [← hs]
        rw [val_append]; simp [val]
    · simp only [go_sem, Nat.reduceEqDiff, Nat.reducePow, Nat.reduceDiv, Nat.reduceMod, reduceCtorEq, h0, z1, w1, b1, b2, ha, hmn, h0a, appendA_U]
      have hlast : m.getLast? = some a := by rw [List.getLast?_eq_getElem?]; exact ha
      have := dig_of hd fun b hb => by rw [hlast] at hb; cases hb; exact h0a
      rw [← hv, this] at hK
      exact FinV.mk (Nat.le_refl _) hK
/-- Lists of digits, compared from the end. -/
theorem val_cmp {x y : List Int} (hx : Dg x) (hy : Dg y) (hl : x.length = y.length) {k : Nat} {a b : Int} (ha : x[k]? = some a) (hb : y[k]? = some b) (he : ∀ j, k < j → x[j]? = y[j]?) (hab : a < b) : val x < val y := by
  have sp : ∀ {l : List Int} {c : Int}, l[k]? = some c → l = l.take k ++ c :: l.drop (k + 1) := fun {l c} h => by
    have hk := (List.getElem?_eq_some_iff.1 h).1
    have h2 := (List.getElem?_eq_some_iff.1 h).2
    conv => lhs; rw [← List.take_append_drop k l]
    rw [List.drop_eq_getElem_cons hk, h2]
  have e1 : x.drop (k + 1) = y.drop (k + 1) := by
    apply List.ext_getElem?
    intro i
    rw [List.getElem?_drop, List.getElem?_drop]
    exact he _ (by omega)
  have hk := (List.getElem?_eq_some_iff.1 ha).1
  have hk2 := (List.getElem?_eq_some_iff.1 hb).1
  rw [sp ha, sp hb, val_append, val_append, e1]
  have l1 : (x.take k).length = k := by simp; omega
  have l2 : (y.take k).length = k := by simp; omega
  rw [l1, l2]
  have v1 := val_lt (l := x.take k) fun c hc => hx c (List.mem_of_mem_take hc)
  have v2 : 0 ≤ val (y.take k) := Nat.zero_le _
  rw [l1] at v1
  have pa := hx a (List.mem_of_getElem? ha)
  have pb := hy b (List.mem_of_getElem? hb)
  simp only [val]
  have h3 : 10000 ^ k * (a.toNat + 10000 * val (y.drop (k + 1))) + 10000 ^ k ≤ 10000 ^ k * (b.toNat + 10000 * val (y.drop (k + 1))) := by
    have : a.toNat + 10000 * val (y.drop (k + 1)) + 1 ≤ b.toNat + 10000 * val (y.drop (k + 1)) := by omega
    calc _ = 10000 ^ k * (a.toNat + 10000 * val (y.drop (k + 1)) + 1) := (Nat.mul_succ _ _).symm
      _ ≤ _ := Nat.mul_le_mul_left _ this
  omega
theorem compare_spec (x y : Nat) (hx : ((dig x).length : Int) < 2 ^ 40) (H : AHeap) (K : ARes → AHeap → Prop) (hK : K (.ret (.lit (.int .i64 (cmpI x y)))) H) : ACall Try.prog G0 112 [vecI (dig x), vecI (dig y)] H K := by
  obtain ⟨p, hp⟩ : ∃ p, p = dig x := ⟨_, rfl⟩
  obtain ⟨q, hq⟩ : ∃ q, q = dig y := ⟨_, rfl⟩
  have dx := dg_dig x
  have dy := dg_dig y
  have vx := val_dig x
  have vy := val_dig y
  have lt1 : p.length < q.length → x < y := fun h => dig_lt_len (by rw [← hp, ← hq]; exact h)
  have lt2 : q.length < p.length → y < x := fun h => dig_lt_len (by rw [← hp, ← hq]; exact h)
  rw [← hp] at hx dx vx ⊢
  rw [← hq] at dy vy ⊢
  refine ACall.of_body (n := 41) (rs := [.tmp 4]) Try.func112 rfl rfl rfl (by decide) (by kernel_rfl) (by simp) ?_
  by_cases hl : (p.length : Int) = q.length
  rotate_left
  · by_cases hl2 : (p.length : Int) < q.length
    · have : cmpI x y = -1 := by unfold cmpI; rw [if_pos (by have := lt1 (by omega); omega)]
      rw [this] at hK
      simp only [go_sem, Nat.reduceEqDiff, reduceCtorEq, hl, hl2, appendA_U]
      exact FinV.mk (Nat.le_refl _) hK
    · have := lt2 (by omega)
      have : cmpI x y = 1 := by unfold cmpI; rw [if_neg (by omega), if_neg (by omega)]
      rw [this] at hK
      simp only [go_sem, Nat.reduceEqDiff, reduceCtorEq, hl, hl2, appendA_U]
      exact FinV.mk (Nat.le_refl _) hK
  have hln : p.length = q.length := by omega
  have w0 := IntWalk.i64_in ((p.length : Int) - 1) (by omega)
  simp only [go_sem, Nat.reduceEqDiff, reduceCtorEq, hl, w0, appendA_U]
  rw [← hl, w0]
  refine W.loop0 2199022731312 (by rfl) (fun ρ H' => H = H' ∧ ∃ (k : Nat), ρ 5 = lin ((k : Int) - 1) ∧ k ≤ p.length ∧ ∀ j, k ≤ j → p[j]? = q[j]?) (fun ρ H => (iv (ρ 5) + 1).toNat) ?_ ?_
  · simp only [go_sem, Nat.reduceEqDiff, appendA_U]
    exact ⟨p.length, by simp, Nat.le_refl _, fun j hj => by rw [List.getElem?_eq_none hj, List.getElem?_eq_none (by omega)]⟩
  rintro ρ H' ⟨rfl, k, h5, hk, he⟩
  refine vc_sound _ _ _ (by rfl) ?_
  by_cases hz : k = 0
  · subst hz
    have z1 : ¬ (0 : Int) ≤ ((0 : Nat) : Int) - 1 := by omega
    have e0 : p = q := List.ext_getElem? fun j => he j (Nat.zero_le _)
    have : x = y := by rw [← vx, ← vy, e0]
    have : cmpI x y = 0 := by unfold cmpI; rw [if_neg (by omega), if_pos (by omega)]
    rw [this] at hK
    simp only [go_sem, Int.reduceToNat, Int.reduceLE, Int.reduceAdd, Int.reduceSub, Nat.reduceEqDiff, Nat.reducePow, Nat.reduceDiv, Nat.reduceMod, h5, z1, appendA_U]
    exact FinV.mk (Nat.le_refl _) hK
  · obtain ⟨j, rfl⟩ : ∃ j, k = j + 1 := ⟨k - 1, by omega⟩
    obtain ⟨a, ha⟩ : ∃ a, p[j]? = some a := ⟨_, List.getElem?_eq_getElem (by omega)⟩
    obtain ⟨b, hb⟩ : ∃ b, q[j]? = some b := ⟨_, List.getElem?_eq_getElem (by omega)⟩
    have hpn : ¬ p = [] := by rintro rfl; simp at ha
    have hqn : ¬ q = [] := by rintro rfl; simp at hb
    have ej : ((j + 1 : Nat) : Int) - 1 = (j : Int) := by omega
    rw [ej] at h5
    have z1 : (0 : Int) ≤ (j : Int) := by omega
    have b1 : (j : Int) < p.length := by omega
    have b2 : (j : Int) < q.length := by omega
    have w2 := IntWalk.i64_in ((j : Int) - 1) (by omega)
    simp only [go_sem, Nat.reduceEqDiff, Nat.reducePow, Nat.reduceDiv, Nat.reduceMod, h5, z1, appendA_U]
    refine W.draw 8 [0, 0, 3, 7, 0, 0, 48, 112] Try.mixed (by kernel_rfl) (by kernel_rfl) ?_
    by_cases hab : a = b
    · subst hab
      simp only [go_sem, Nat.reduceEqDiff, Nat.reducePow, Nat.reduceDiv, Nat.reduceMod, Nat.reduceAdd, reduceCtorEq, h5, z1, b1, b2, ha, hb, hpn, hqn, w2, appendA_U]
      exact ⟨⟨j, rfl, by omega, fun i hi => by
        rcases Nat.lt_or_ge j i with h | h
        · exact he i (by omega)
        · obtain rfl : i = j := by omega
          rw [ha, hb]⟩, by omega⟩
    · simp only [go_sem, Nat.reduceEqDiff, Nat.reducePow, Nat.reduceDiv, Nat.reduceMod, Nat.reduceAdd, reduceCtorEq, h5, z1, b1, b2, ha, hb, hpn, hqn, hab, appendA_U]
      refine W.draw 8 [0, 0, 3, 7, 0, 0, 48, 112] Try.mixed (by kernel_rfl) (by kernel_rfl) ?_
      by_cases hlt : a < b
      · have h1 := val_cmp dx dy hln ha hb (fun i hi => he i (by omega)) hlt
        rw [vx, vy] at h1
        have : cmpI x y = -1 := by unfold cmpI; rw [if_pos (by omega)]
        rw [this] at hK
        simp only [go_sem, Nat.reduceEqDiff, Nat.reducePow, Nat.reduceDiv, Nat.reduceMod, Nat.reduceAdd, reduceCtorEq, h5, z1, b1, b2, ha, hb, hpn, hqn, hlt, appendA_U]
        exact FinV.mk (Nat.le_refl _) hK
      · have h1 := val_cmp dy dx hln.symm hb ha (fun i hi => (he i (by omega)).symm) (by omega)
        rw [vx, vy] at h1
        have : cmpI x y = 1 := by unfold cmpI; rw [if_neg (by omega), if_neg (by omega)]
        rw [this] at hK
        simp only [go_sem, Nat.reduceEqDiff, Nat.reducePow, Nat.reduceDiv, Nat.reduceMod, Nat.reduceAdd, reduceCtorEq, h5, z1, b1, b2, ha, hb, hpn, hqn, hlt, appendA_U]
        exact FinV.mk (Nat.le_refl _) hK
end Go.Proofs.R01
set_option linter.unusedSimpArgs false
set_option maxRecDepth 100000
namespace Go.Proofs.R01
open Go.Hx
theorem dig_get {l : List Int} {i X : Nat} (h : l.drop i=dig X) : (i<l.length↔X≠0)∧(X≠0→l[i]?=some ((X % 10000 : Nat) : Int))∧l.drop (i+1)=dig (X / 10000):=by
 have hl : l.length - i=(dig X).length:=by rw [← h,List.length_drop]
 by_cases h0 : X=0
 ·subst h0
  rw [dig_zero] at h hl
  simp only [List.length_nil] at hl
  refine ⟨⟨fun h=>by omega,fun h=>absurd rfl h⟩,fun h=>absurd rfl h,?_⟩
  rw [dig_zero,List.drop_eq_nil_iff.2 (by omega)]
 ·rw [dig_pos h0] at h hl
  simp only [List.length_cons] at hl
  refine ⟨⟨fun _=>h0,fun _=>by omega⟩,fun _=>?_,?_⟩
  ·have:=congrArg (fun m=>m[0]?) h
   simpa [List.getElem?_drop] using this
  ·have:=congrArg List.tail h
   simpa [List.tail_drop] using this
theorem len_of_dig {n : Nat} {k : Nat} (h : (dig n).length≤k) : n<10000 ^ k:=by
 have:=val_lt (dg_dig n)
 rw [val_dig] at this
 exact Nat.lt_of_lt_of_le this (Nat.pow_le_pow_right (by decide) h)
set_option maxHeartbeats 1000000 in
theorem minus_spec (x y : Nat) (hxy : y≤x) (hx : (dig x).length≤200) (H : AHeap) (K : ARes→AHeap→Prop) (hK : K (.ret (vecI (dig (x - y)))) H) : ACall Try.prog G0 114 [vecI (dig x),vecI (dig y)] H K:=by
 refine ACall.clo ⟨_,Try.func114,rfl,rfl⟩ fun hcl=>?_
 have vx:=val_dig x
 obtain ⟨p,hp⟩ : ∃ p,p=dig x:=⟨_,rfl⟩
 obtain ⟨q,hq⟩ : ∃ q,q=dig y:=⟨_,rfl⟩
 rw [← hp] at hx vx ⊢
 rw [← hq]
 refine ACall.of_body (n:=41) (rs:=[.tmp 4]) Try.func114 rfl rfl rfl (by decide) (by kernel_rfl) (by simp) ?_
 simp only [go_sem,appendA_U]
 refine W.loop0 549755813856 (by rfl) (fun ρ H'=>∃ (i c X Y : Nat) (done : List Int),ρ 7=lin i∧ρ 6=lin c∧c≤1∧i≤p.length∧Over H H'∧OwnG H.next H' 3 (ρ 5) (ints done)∧done.length=i∧Dg done∧p.drop i=dig X∧q.drop i=dig Y∧val done+10000 ^ i*X=(x - y)+10000 ^ i*(Y+c)) (fun ρ H=>p.length - (iv (ρ 7)).toNat) ?_ ?_
 ·simp only [go_sem,Nat.reduceEqDiff,appendA_U]
  exact ⟨0,0,x,y,[],rfl,rfl,by omega,by omega,.refl _,.nil,rfl,(fun c hc=>by cases hc),by simpa using hp,by simpa using hq,by simp [val];omega⟩
 rintro ρ H' ⟨i,c,X,Y,done,h7,h6,hc,hi,ov,h5,hl,hdg,hX,hY,he⟩
 refine vc_sound _ _ _ (by rfl) ?_
 obtain ⟨a1,a2,a3⟩:=dig_get hX
 obtain ⟨b1,b2,b3⟩:=dig_get hY
 by_cases hb : (i : Int)<p.length
 rotate_left
 ·simp only [go_sem,Nat.reduceEqDiff,Nat.reducePow,Nat.reduceDiv,Nat.reduceMod,reduceCtorEq,h7,hb,appendA_U]
  have hX0 : X=0:=by
   rcases Nat.eq_zero_or_pos X with h|h
   ·exact h
   ·have:=a1.2 (by omega);omega
  have hv:=val_lt hdg
  rw [hl] at hv
  have hYc : Y+c=0:=by
   rcases Nat.eq_zero_or_pos (Y+c) with h|h
   ·exact h
   ·have : 10000 ^ i*1≤10000 ^ i*(Y+c):=Nat.mul_le_mul_left _ h
    rw [hX0] at he
    omega
  have hvd : val done=x - y:=by rw [hX0,hYc] at he;omega
  refine AApply.cutArgs H.next (args':=[vecI done]) G0_ok rfl (fun j hj _=>match j,hj with|0,_=>h5.fzI fun i hi=>hi) (cut_spec done hdg (by omega) _ _ ⟨trivial,?_⟩)
  rw [hvd]
  have ov3 : Over H (H'.cut H.next):=ov.cutO (Nat.le_refl _)
  simp only [go_sem,Nat.reduceEqDiff,Nat.reducePow,Nat.reduceDiv,Nat.reduceMod,reduceCtorEq,appendA_U]
  exact FinV.dropO G0_ok hcl ov3 (.keepInts _) hK
 have hx0 : X≠0:=a1.1 (by omega)
 have g1:=a2 hx0
 have pn : ¬ p=[]:=by rintro rfl;simp at hb;omega
 have w3:=IntWalk.i64_in ((i : Int)+1) (by omega)
 obtain ⟨d,c',hd,hd2,hc'⟩ : ∃ d c' : Nat,(d : Int)=((X % 10000 : Nat) : Int) - c - ((Y % 10000 : Nat) : Int)+10000*(c' : Int)∧d≤9999∧c'≤1:=by
  by_cases h : ((X % 10000 : Nat) : Int) - c - ((Y % 10000 : Nat) : Int)<0
  ·exact ⟨(((X % 10000 : Nat) : Int) - c - ((Y % 10000 : Nat) : Int)+10000).toNat,1,by omega,by omega,by omega⟩
  ·exact ⟨(((X % 10000 : Nat) : Int) - c - ((Y % 10000 : Nat) : Int)).toNat,0,by omega,by omega,by omega⟩
 obtain ⟨v',H2,hA,hO,hn2,hpr⟩:=app_oneG (P:=Try.prog) (H:=H') (t:=59) (x:=lin (d : Nat)) (n:=H'.next+1) Try.underlying59 Try.cells3 Try.zero3 rfl (by rw [Try.bytes3,ints_length];omega) h5 ov.next rfl
 simp only [lin] at hA
 have ov2 : Over H H2:=over_app ov h5 hn2 hpr
 have fin : ∃ (i' c'' X' Y' : Nat) (done' : List Int),AVal.lit (.int .i64 ((i : Int)+1))=lin i'∧AVal.lit (.int .i64 (c' : Int))=lin c''∧c''≤1∧i'≤p.length∧Over H H2∧OwnG H.next H2 3 v' (ints done')∧done'.length=i'∧Dg done'∧p.drop i'=dig X'∧q.drop i'=dig Y'∧val done'+10000 ^ i'*X'=(x - y)+10000 ^ i'*(Y'+c''):=by
  refine ⟨i+1,c',X / 10000,Y / 10000,done++[(d : Int)],by simp [lin],rfl,hc',by omega,ov2,by simpa [ints,lin] using hO,by simp [hl],fun z hz=>?_,a3,b3,?_⟩
  ·rcases List.mem_append.1 hz with hz|hz
   ·exact hdg z hz
   ·obtain rfl:=List.mem_singleton.1 hz;omega
  ·rw [val_append,hl,Nat.pow_succ]
   have e : d+10000*(X / 10000)+(Y+c)=X+10000*(Y / 10000+c'):=by omega
   have e2:=congrArg (10000 ^ i*·) e
   simp only [Nat.mul_add,val,Int.toNat_natCast,Nat.mul_zero,Nat.add_zero,Nat.mul_assoc] at e2 he ⊢
   generalize 10000 ^ i*d=P1 at *
   generalize 10000 ^ i*(10000*(X / 10000))=P2 at *
   generalize 10000 ^ i*Y=P3 at *
   generalize 10000 ^ i*c=P4 at *
   generalize 10000 ^ i*X=P5 at *
   generalize 10000 ^ i*(10000*(Y / 10000))=P6 at *
   generalize 10000 ^ i*(10000*c')=P7 at *
   omega
 have w4:=IntWalk.i64_in (((X % 10000 : Nat) : Int) - (c : Int)) (by omega)
 have w5:=IntWalk.i64_in (((X % 10000 : Nat) : Int) - (c : Int) - ((Y % 10000 : Nat) : Int)) (by omega)
 by_cases hy0 : Y=0
 ·have n2 : ¬ (i : Int)<q.length:=by have:=fun h=>b1.1 h;omega
  by_cases hneg : ((X % 10000 : Nat) : Int) - (c : Int)<0
  ·obtain rfl : c'=1:=by omega
   have ed : ((X % 10000 : Nat) : Int) - (c : Int)+10000=(d : Int):=by omega
   have w6:=IntWalk.i64_in (d : Int) (by omega)
   simp only [go_sem,Nat.reduceEqDiff,Nat.reducePow,Nat.reduceDiv,Nat.reduceMod,Nat.reduceLeDiff,reduceCtorEq,h7,h6,hb,n2,g1,pn,w4,hneg,ed,w6,w3,hA]
   exact ⟨ov2.next,fin,by omega⟩
  ·obtain rfl : c'=0:=by omega
   have ed : ((X % 10000 : Nat) : Int) - (c : Int)=(d : Int):=by omega
   rw [ed] at hneg w4
   simp only [go_sem,Nat.reduceEqDiff,Nat.reducePow,Nat.reduceDiv,Nat.reduceMod,Nat.reduceLeDiff,reduceCtorEq,h7,h6,hb,n2,g1,pn,ed,w4,hneg,w3,hA]
   exact ⟨ov2.next,fin,by omega⟩
 ·have n2 : (i : Int)<q.length:=by have:=b1.2 hy0;omega
  have g2:=b2 hy0
  have qn : ¬ q=[]:=by rintro rfl;simp at n2;omega
  by_cases hneg : ((X % 10000 : Nat) : Int) - (c : Int) - ((Y % 10000 : Nat) : Int)<0
  ·obtain rfl : c'=1:=by omega
   have ed : ((X % 10000 : Nat) : Int) - (c : Int) - ((Y % 10000 : Nat) : Int)+10000=(d : Int):=by omega
   have w6:=IntWalk.i64_in (d : Int) (by omega)
   simp only [go_sem,Nat.reduceEqDiff,Nat.reducePow,Nat.reduceDiv,Nat.reduceMod,Nat.reduceLeDiff,reduceCtorEq,h7,h6,hb,n2,g1,g2,pn,qn,w4,w5,hneg,ed,w6,w3,hA]
   exact ⟨ov2.next,fin,by omega⟩
  ·obtain rfl : c'=0:=by omega
   have ed : ((X % 10000 : Nat) : Int) - (c : Int) - ((Y % 10000 : Nat) : Int)=(d : Int):=by omega
   rw [ed] at hneg w5
   simp only [go_sem,Nat.reduceEqDiff,Nat.reducePow,Nat.reduceDiv,Nat.reduceMod,Nat.reduceLeDiff,reduceCtorEq,h7,h6,hb,n2,g1,g2,pn,qn,w4,ed,w5,hneg,w3,hA]
   exact ⟨ov2.next,fin,by omega⟩
end Go.Proofs.R01
set_option linter.unusedSimpArgs false
set_option maxRecDepth 100000
namespace Go.Proofs.R01
open Go.Hx
theorem setAt_ints {l : List Int} {k : Nat} (v : Int) (h : k<l.length) : setAt (ints l) k [.lit (.int .i64 v)]=ints (l.set k v):=by
 unfold setAt ints
 rw [List.map_set,List.set_eq_take_append_cons_drop,if_pos (by simpa using h)]
 simp [lin]
theorem val_set : ∀ {l : List Int} {j : Nat} {a : Int} (v : Int),l[j]?=some a→val (l.set j v)+10000 ^ j*a.toNat=val l+10000 ^ j*v.toNat
 | b :: l,0,a,v,h=>by
  simp only [List.getElem?_cons_zero,Option.some.injEq] at h
  subst h
  simp only [List.set_cons_zero,val,Nat.pow_zero,Nat.one_mul]
  omega
 | b :: l,j+1,a,v,h=>by
  simp only [List.getElem?_cons_succ] at h
  have ih:=val_set (l:=l) v h
  simp only [List.set_cons_succ,val,Nat.pow_succ]
  have e1 : 10000 ^ j*10000*a.toNat=10000*(10000 ^ j*a.toNat):=by ac_rfl
  have e2 : 10000 ^ j*10000*v.toNat=10000*(10000 ^ j*v.toNat):=by ac_rfl
  rw [e1,e2]
  omega
theorem val_take_succ {l : List Int} {i : Nat} {a : Int} (h : l[i]?=some a) : val (l.take (i+1))=val (l.take i)+10000 ^ i*a.toNat:=by
 have hi:=(List.getElem?_eq_some_iff.1 h).1
 rw [take_succ_of h,val_append,List.length_take,Nat.min_eq_left (by omega)]
 simp [val]
set_option maxHeartbeats 2000000 in
theorem dtimes_spec (p q : List Int) (hp : Dg p) (hq : ∀ c,c∈q→0≤c∧c≤10000) (hqv : val q≤10000 ^ q.length) (lp : p.length≤200) (lq : q.length≤200) (H : AHeap) (K : ARes→AHeap→Prop) (hK : K (.ret (vecI (dig (val p*val q)))) H) : ACall Try.prog G0 113 [vecI p,vecI q] H K:=by
 refine ACall.clo ⟨_,Try.func113,rfl,rfl⟩ fun hcl=>?_
 have w0:=IntWalk.i64_in ((p.length : Int)+(q.length : Int)) (by omega)
 refine ACall.of_body (n:=65) (rs:=[.tmp 4]) Try.func113 rfl rfl rfl (by decide) (by kernel_rfl) (by simp) ?_
 simp only [go_sem,Nat.reduceEqDiff,reduceCtorEq,w0,appendA_U]
 obtain ⟨L,hL⟩ : ∃ L,L=p.length+q.length:=⟨_,rfl⟩
 have eL : ((p.length : Int)+(q.length : Int)).toNat=L:=by omega
 have eL2 : (p.length : Int)+(q.length : Int)=(L : Int):=by omega
 rw [eL,eL2]
 have eR : List.replicate L (AVal.lit (.int .i64 0))=ints (List.replicate L 0):=by simp [ints,lin]
 rw [eR]
 refine ⟨⟨by omega,by omega,by omega⟩,?_⟩
 have dr : Dg (List.replicate L 0):=fun c hc=>by obtain ⟨_,rfl⟩:=List.mem_replicate.1 hc;omega
 refine W.loop0 9223372036854743488 (by rfl) (fun ρ H'=>∃ (i : Nat) (o : List Int),ρ 6=lin i∧i≤p.length∧H'=ext H [.arr 0 3 (ints o)]∧Dg o∧o.length=L∧val o=val (p.take i)*val q) (fun ρ H=>p.length - (iv (ρ 6)).toNat) ?_ ?_
 ·simp only [go_sem,Nat.reduceEqDiff,appendA_U]
  exact ⟨0,_,rfl,by omega,rfl,dr,by simp,by simp [val_zeros,val]⟩
 rintro ρ H' ⟨i,o,h6,hi,rfl,ho,hol,hv⟩
 refine vc_sound _ _ _ (by rfl) ?_
 by_cases hb : (i : Int)<p.length
 rotate_left
 ·simp only [go_sem,Nat.reduceEqDiff,Nat.reducePow,Nat.reduceDiv,Nat.reduceMod,reduceCtorEq,h6,hb,appendA_U]
  have hO : OwnG H.next (ext H [.arr 0 3 (ints o)]) 3 (.own H.next 0 0 L 1) (ints o):=.inr ⟨H.next,0,Nat.le_refl _,by simp [ext_next],by rw [ints_length,hol],get_ext0 _ _ _⟩
  refine AApply.cutArgs H.next (args':=[vecI o]) G0_ok rfl (fun j hj _=>match j,hj with|0,_=>hO.fzI fun i hi=>hi) (cut_spec o ho (by omega) _ _ ⟨trivial,?_⟩)
  rw [hv,List.take_of_length_le (by omega)]
  have ov3 : Over H ((ext H [.arr 0 3 (ints o)]).cut H.next):=(Over.ext _ _).cutO (Nat.le_refl _)
  simp only [go_sem,Nat.reduceEqDiff,Nat.reducePow,Nat.reduceDiv,Nat.reduceMod,reduceCtorEq,appendA_U]
  exact FinV.dropO G0_ok hcl ov3 (.keepInts _) hK
 obtain ⟨a,ha⟩ : ∃ a,p[i]?=some a:=⟨_,List.getElem?_eq_getElem (by omega)⟩
 have ha9:=hp a (List.mem_of_getElem? ha)
 obtain ⟨A,rfl⟩:=Int.eq_ofNat_of_zero_le ha9.1
 have pn : ¬ p=[]:=by rintro rfl;simp at ha
 have vt:=val_take_succ ha
 rw [Int.toNat_natCast] at vt
 have w1:=IntWalk.i64_in ((i : Int)+1) (by omega)
 simp only [go_sem,Nat.reduceEqDiff,Nat.reducePow,Nat.reduceDiv,Nat.reduceMod,reduceCtorEq,h6,hb,appendA_U]
 refine W.loop0 9223372036852679040 (by rfl) (fun ρ' H'=>∃ (k c : Nat) (o2 : List Int),ρ' 8=lin k∧ρ' 7=lin c∧c≤10000∧k≤L∧H'=ext H [.arr 0 3 (ints o2)]∧Dg o2∧o2.length=L∧val o2+10000 ^ (i+k)*c=val (p.take i)*val q+10000 ^ i*(A*val (q.take k))) (fun ρ' H=>L - (iv (ρ' 8)).toNat) ?_ ?_
 ·simp only [go_sem,Nat.reduceEqDiff,Nat.reducePow,Nat.reduceDiv,Nat.reduceMod,appendA_U]
  exact ⟨0,0,o,rfl,rfl,by omega,by omega,rfl,ho,hol,by simp [val,hv]⟩
 rintro ρ' H' ⟨k,c,o2,h8,h7,hc,hk,rfl,ho2,hol2,hv2⟩
 refine vc_sound _ _ _ (by rfl) ?_
 by_cases hend : ¬ k<q.length∧c=0
 ·obtain ⟨hk2,rfl⟩:=hend
  have n1 : ¬ (k : Int)<q.length:=by omega
  have n2 : ¬ (0 : Int)<((0 : Nat) : Int):=by omega
  simp only [go_sem,Int.reduceLT,Nat.reduceEqDiff,Nat.reducePow,Nat.reduceDiv,Nat.reduceMod,reduceCtorEq,h8,h7,n1,n2,h6,w1,appendA_U]
  refine ⟨⟨i+1,o2,by simp,by omega,rfl,ho2,hol2,?_⟩,by omega⟩
  rw [List.take_of_length_le (l:=q) (i:=k) (by omega)] at hv2
  rw [vt,Nat.add_mul]
  simp only [Nat.mul_zero,Nat.add_zero] at hv2
  rw [hv2,Nat.mul_assoc]
 have hik : i+k<L:=by
  by_cases hkq : k<q.length
  ·omega
  ·have hc1 : 1≤c:=by omega
   rw [List.take_of_length_le (l:=q) (i:=k) (by omega)] at hv2
   have e : val (p.take i)*val q+10000 ^ i*(A*val q)=val (p.take (i+1))*val q:=by rw [vt,Nat.add_mul,Nat.mul_assoc]
   rw [e] at hv2
   have b1 : val (p.take (i+1))<10000 ^ (i+1):=by
    have:=val_lt (l:=p.take (i+1)) fun c hc=>hp c (List.mem_of_mem_take hc)
    rwa [List.length_take,Nat.min_eq_left (by omega)] at this
   have b2 : val (p.take (i+1))*val q<10000 ^ (i+1)*10000 ^ q.length:=by
    have p0 : 0<10000 ^ q.length:=Nat.pow_pos (by decide)
    calc val (p.take (i+1))*val q≤val (p.take (i+1))*10000 ^ q.length:=Nat.mul_le_mul_left _ hqv
     _<10000 ^ (i+1)*10000 ^ q.length:=Nat.mul_lt_mul_of_pos_right b1 p0
   rw [← Nat.pow_add] at b2
   have b3 : 10000 ^ (i+k)*1≤10000 ^ (i+k)*c:=Nat.mul_le_mul_left _ hc1
   have b4 : 10000 ^ (i+k)<10000 ^ (i+1+q.length):=by omega
   have:=(Nat.pow_lt_pow_iff_right (by decide : 1<10000)).1 b4
   omega
 obtain ⟨b,hbk⟩ : ∃ b,o2[i+k]?=some b:=⟨_,List.getElem?_eq_getElem (by omega)⟩
 have hb9:=ho2 b (List.mem_of_getElem? hbk)
 obtain ⟨B,rfl⟩:=Int.eq_ofNat_of_zero_le hb9.1
 have o2n : ¬ o2=[]:=by rintro rfl;simp at hbk
 have w2:=IntWalk.i64_in ((i : Int)+(k : Int)) (by omega)
 have w3:=IntWalk.i64_in ((k : Int)+1) (by omega)
 have eik : (i : Int)+(k : Int)=((i+k : Nat) : Int):=by omega
 rw [eik] at w2
 have bik : ((i+k : Nat) : Int)<(L : Int):=by omega
 have w4:=IntWalk.i64_in ((c : Int)+(B : Int)) (by omega)
 by_cases hkq : k<q.length
 ·obtain ⟨d,hdk⟩ : ∃ d,q[k]?=some d:=⟨_,List.getElem?_eq_getElem (by omega)⟩
  have hd9:=hq d (List.mem_of_getElem? hdk)
  obtain ⟨D,rfl⟩:=Int.eq_ofNat_of_zero_le hd9.1
  have qn : ¬ q=[]:=by rintro rfl;simp at hdk
  have n1 : (k : Int)<q.length:=by omega
  have mAD : A*D≤9999*10000:=Nat.mul_le_mul (by omega) (by omega)
  have cAD : (A : Int)*(D : Int)=((A*D : Nat) : Int):=(Int.natCast_mul _ _).symm
  obtain ⟨t,ht⟩ : ∃ t,t=c+B+A*D:=⟨_,rfl⟩
  have et : (c : Int)+(B : Int)+((A*D : Nat) : Int)=(t : Int):=by omega
  have w5:=IntWalk.i64_in ((A*D : Nat) : Int) (by omega)
  have w6:=IntWalk.i64_in (t : Int) (by omega)
  have tm : ((t : Int)).tmod 10000=((t % 10000 : Nat) : Int):=by rw [Int.tmod_eq_emod_of_nonneg (by omega)];rfl
  have td : ((t : Int)).tdiv 10000=((t / 10000 : Nat) : Int):=by rw [Int.tdiv_eq_ediv_of_nonneg (by omega)];rfl
  have w7:=IntWalk.i64_in ((t % 10000 : Nat) : Int) (by omega)
  have w8:=IntWalk.i64_in ((t / 10000 : Nat) : Int) (by omega)
  have hs:=val_set ((t % 10000 : Nat) : Int) hbk
  rw [Int.toNat_natCast,Int.toNat_natCast] at hs
  have vq:=val_take_succ hdk
  rw [Int.toNat_natCast] at vq
  have fin : ∃ (k' c' : Nat) (o3 : List Int),AVal.lit (.int .i64 ((k : Int)+1))=lin k'∧AVal.lit (.int .i64 ((t / 10000 : Nat) : Int))=lin c'∧c'≤10000∧k'≤L∧ext H [.arr 0 3 (ints (o2.set (i+k) ((t % 10000 : Nat) : Int)))]=ext H [.arr 0 3 (ints o3)]∧Dg o3∧o3.length=L∧val o3+10000 ^ (i+k')*c'=val (p.take i)*val q+10000 ^ i*(A*val (q.take k')):=by
   refine ⟨k+1,t / 10000,_,by simp [lin],rfl,by omega,by omega,rfl,fun z hz=>?_,by simp [hol2],?_⟩
   ·rcases List.mem_or_eq_of_mem_set hz with h|h
    ·exact ho2 z h
    ·omega
   ·rw [vq,← Nat.add_assoc,Nat.pow_succ]
    have e1 : t=t % 10000+10000*(t / 10000):=by omega
    have e2:=congrArg (10000 ^ (i+k)*·) (show c+B+A*D=t % 10000+10000*(t / 10000) by omega)
    have e3 : 10000 ^ i*(A*(val (q.take k)+10000 ^ k*D))=10000 ^ i*(A*val (q.take k))+10000 ^ (i+k)*(A*D):=by
     rw [Nat.mul_add,Nat.mul_add,Nat.pow_add]
     congr 1
     ac_rfl
    rw [e3]
    simp only [Nat.mul_add,Nat.mul_assoc] at e2 hv2 hs ⊢
    omega
  simp only [go_sem,Nat.reduceEqDiff,Nat.reducePow,Nat.reduceDiv,Nat.reduceMod,reduceCtorEq,h8,h7,n1,h6,w2,w4,eik,bik,hbk,o2n,appendA_U]
  refine W.draw 10 [0,0,0,6,14,0,0,96,224,510] Try.mixed (by kernel_rfl) (by kernel_rfl) ?_
  simp only [go_sem,Int.reduceEq,Nat.reduceEqDiff,Nat.reducePow,Nat.reduceDiv,Nat.reduceMod,Nat.reduceAdd,reduceCtorEq,h8,h7,n1,h6,w2,w4,eik,bik,hbk,o2n,ha,hdk,pn,qn,hb,cAD,w5,et,w6,appendA_U]
  rw [w3,td,w8,tm,setAt_ints _ (by omega)]
  exact ⟨by omega,fin,by omega⟩
 ·have n1 : ¬ (k : Int)<q.length:=by omega
  have n2 : (0 : Int)<(c : Int):=by omega
  obtain ⟨t,ht⟩ : ∃ t,t=c+B:=⟨_,rfl⟩
  have et : (c : Int)+(B : Int)=(t : Int):=by omega
  have w6:=IntWalk.i64_in (t : Int) (by omega)
  have tm : ((t : Int)).tmod 10000=((t % 10000 : Nat) : Int):=by rw [Int.tmod_eq_emod_of_nonneg (by omega)];rfl
  have td : ((t : Int)).tdiv 10000=((t / 10000 : Nat) : Int):=by rw [Int.tdiv_eq_ediv_of_nonneg (by omega)];rfl
  have w7:=IntWalk.i64_in ((t % 10000 : Nat) : Int) (by omega)
  have w8:=IntWalk.i64_in ((t / 10000 : Nat) : Int) (by omega)
  have hs:=val_set ((t % 10000 : Nat) : Int) hbk
  rw [Int.toNat_natCast,Int.toNat_natCast] at hs
  have fin : ∃ (k' c' : Nat) (o3 : List Int),AVal.lit (.int .i64 ((k : Int)+1))=lin k'∧AVal.lit (.int .i64 ((t / 10000 : Nat) : Int))=lin c'∧c'≤10000∧k'≤L∧ext H [.arr 0 3 (ints (o2.set (i+k) ((t % 10000 : Nat) : Int)))]=ext H [.arr 0 3 (ints o3)]∧Dg o3∧o3.length=L∧val o3+10000 ^ (i+k')*c'=val (p.take i)*val q+10000 ^ i*(A*val (q.take k')):=by
   refine ⟨k+1,t / 10000,_,by simp [lin],rfl,by omega,by omega,rfl,fun z hz=>?_,by simp [hol2],?_⟩
   ·rcases List.mem_or_eq_of_mem_set hz with h|h
    ·exact ho2 z h
    ·omega
   ·rw [List.take_of_length_le (l:=q) (i:=k) (by omega)] at hv2
    rw [List.take_of_length_le (l:=q) (i:=k+1) (by omega),← Nat.add_assoc,Nat.pow_succ]
    have e2:=congrArg (10000 ^ (i+k)*·) (show c+B=t % 10000+10000*(t / 10000) by omega)
    simp only [Nat.mul_add,Nat.mul_assoc] at e2 hv2 hs ⊢
    omega
  simp only [go_sem,Int.reduceEq,Nat.reduceEqDiff,Nat.reducePow,Nat.reduceDiv,Nat.reduceMod,reduceCtorEq,h8,h7,n1,n2,h6,w2,eik,bik,hbk,o2n,et,w6,hol2,appendA_U]
  rw [w3,td,w8,tm,setAt_ints _ (by omega)]
  exact ⟨by omega,fin,by omega⟩
end Go.Proofs.R01
set_option linter.unusedSimpArgs false
set_option maxRecDepth 100000
namespace Go.Proofs.R01
open Go.Hx
theorem dtimes_dig (x y : Nat) (hx : (dig x).length≤200) (hy : (dig y).length≤200) (H : AHeap) (K : ARes→AHeap→Prop) (hK : K (.ret (vecI (dig (x*y)))) H) : ACall Try.prog G0 113 [vecI (dig x),vecI (dig y)] H K :=
 dtimes_spec (dig x) (dig y) (dg_dig x) (fun c hc=>by have:=dg_dig y c hc;omega) (Nat.le_of_lt (val_lt (dg_dig y))) hx hy H K (by rw [val_dig,val_dig];exact hK)
theorem dtimes_one (x d : Nat) (hd : d≤10000) (hx : (dig x).length≤200) (H : AHeap) (K : ARes→AHeap→Prop) (hK : K (.ret (vecI (dig (x*d)))) H) : ACall Try.prog G0 113 [vecI (dig x),vecI [(d : Int)]] H K:=by
 have e : val [(d : Int)]=d:=by simp [val]
 refine dtimes_spec (dig x) [(d : Int)] (dg_dig x) (fun c hc=>?_) (by rw [e];simpa using hd) hx (by simp) H K (by rw [val_dig,e];exact hK)
 obtain rfl:=List.mem_singleton.1 hc
 omega
theorem dig_drop (n : Nat) : ∀ k : Nat,(dig n).drop k=dig (n / 10000 ^ k)
 | 0=>by simp
 | k+1=>by
  have h:=(dig_get (dig_drop n k)).2.2
  rw [h,Nat.pow_succ,Nat.div_div_eq_div_mul]
theorem dig_nth {n k : Nat} (h : k<(dig n).length) : (dig n)[k]?=some ((n / 10000 ^ k % 10000 : Nat) : Int):=(dig_get (dig_drop n k)).2.1 ((dig_get (dig_drop n k)).1.1 h)
theorem dig_out {n k : Nat} (h : ¬ k<(dig n).length) : n / 10000 ^ k=0:=by
 rcases Nat.eq_zero_or_pos (n / 10000 ^ k) with h0|h0
 ·exact h0
 ·exact absurd ((dig_get (dig_drop n k)).1.2 (by omega)) h
/-- What the first digits tell of a quotient. -/
theorem quo_hi {N y P : Nat} (hP : 0<P) (ht : 0<y / P) : N / y≤N / P / (y / P):=by
 rw [Nat.le_div_iff_mul_le ht,Nat.le_div_iff_mul_le hP]
 calc N / y*(y / P)*P=N / y*(y / P*P):=Nat.mul_assoc ..
  _≤N / y*y:=Nat.mul_le_mul_left _ (Nat.div_mul_le_self _ _)
  _≤N:=Nat.div_mul_le_self _ _
theorem quo_lo {N y P : Nat} (hP : 0<P) (hy : 0<y) : N / P / (y / P+1)≤N / y:=by
 rw [Nat.le_div_iff_mul_le hy]
 have h1 : y≤(y / P+1)*P:=by
  have:=Nat.lt_mul_div_succ y hP
  rw [Nat.mul_comm] at this
  omega
 calc N / P / (y / P+1)*y≤N / P / (y / P+1)*((y / P+1)*P):=Nat.mul_le_mul_left _ h1
  _=N / P / (y / P+1)*(y / P+1)*P:=(Nat.mul_assoc ..).symm
  _≤N / P*P:=Nat.mul_le_mul_right _ (Nat.div_mul_le_self _ _)
  _≤N:=Nat.div_mul_le_self _ _
theorem quo_cap {N y n : Nat} (hN : N<10000*y) (hy : 10000 ^ n≤y) : N / 10000 ^ (n - 1) / (y / 10000 ^ (n - 1))≤10000:=by
 have hP : 0<10000 ^ (n - 1):=Nat.pow_pos (by decide)
 rcases Nat.eq_zero_or_pos n with h0|h0
 ·subst h0
  have hy0 : 0<y:=by simp at hy;omega
  simp only [Nat.zero_sub,Nat.pow_zero,Nat.div_one]
  exact Nat.le_of_lt (Nat.div_lt_of_lt_mul (by rw [Nat.mul_comm];exact hN))
 ·have ht : 10000≤y / 10000 ^ (n - 1):=by
   rw [Nat.le_div_iff_mul_le hP]
   have : 10000*10000 ^ (n - 1)=10000 ^ n:=by rw [Nat.mul_comm,← Nat.pow_succ];congr 1;omega
   omega
  generalize 10000 ^ (n - 1)=P at *
  refine Nat.le_of_lt_succ (Nat.div_lt_of_lt_mul ?_)
  refine Nat.div_lt_of_lt_mul ?_
  have h1:=Nat.lt_mul_div_succ y hP
  generalize y / P=T at *
  have h2 : P*(T+1)*10000≤P*(T*10001):=by
   rw [Nat.mul_assoc]
   exact Nat.mul_le_mul_left _ (by omega)
  have h3 : y<P*(T+1):=h1
  generalize P*(T+1)=Z at *
  generalize hW : P*(T*10001)=W at *
  have h4 : N<W:=by omega
  first|exact h4|(rw [← hW] at h4;simpa [Nat.mul_comm,Nat.mul_left_comm,Nat.mul_assoc] using h4)
/-- One step of the division. -/
theorem quo_step {X a y Q R : Nat} (hX : X=y*Q+R) (hR : R<y) : (a+10000*X) / y=10000*Q+(a+10000*R) / y∧(a+10000*X) % y=(a+10000*R) % y:=by
 have e : a+10000*X=(a+10000*R)+y*(10000*Q):=by
  rw [hX,Nat.mul_add]
  have : 10000*(y*Q)=y*(10000*Q):=by ac_rfl
  omega
 rw [e,Nat.add_mul_div_left _ _ (by omega),Nat.add_mul_mod_self_left]
 exact ⟨Nat.add_comm _ _,rfl⟩
end Go.Proofs.R01
set_option linter.unusedSimpArgs false
set_option maxRecDepth 100000
namespace Go.Proofs.R01
open Go.Hx
theorem cmpI_le {a b : Int} (h : a≤b) : cmpI a b≤0:=by
 unfold cmpI
 split
 ·omega
 ·split<;>omega
theorem cmpI_gt {a b : Int} (h : b<a) : ¬ cmpI a b≤0:=by
 unfold cmpI
 split
 ·omega
 ·split<;>omega
set_option maxHeartbeats 4000000 in
theorem divide_spec (x y : Nat) (hy : y≠0) (hx : (dig x).length≤100) (hyl : (dig y).length≤100) (H : AHeap) (K : ARes→AHeap→Prop) (hK : K (.ret (.tup [vecI (dig (x / y)),vecI (dig (x % y))])) H) : ACall Try.prog G0 108 [vecI (dig x),vecI (dig y)] H K:=by
 refine ACall.argsBelow ⟨_,Try.func108,rfl,rfl⟩ fun hcl hbel=>?_
 obtain ⟨p,hp⟩ : ∃ p,p=dig x:=⟨_,rfl⟩
 obtain ⟨q,hq⟩ : ∃ q,q=dig y:=⟨_,rfl⟩
 have hqn : q.length≠0:=by intro h;exact hy (dig_nil.1 (by rw [← hq];exact List.eq_nil_of_length_eq_zero h))
 obtain ⟨n,hn⟩ : ∃ n,q.length=n+1:=⟨q.length - 1,by omega⟩
 have ylb:=dig_lb y hy
 have yub:=len_of_dig (n:=y) (k:=n+1) (by rw [← hq,hn];exact Nat.le_refl _)
 rw [← hq,hn,Nat.add_sub_cancel] at ylb
 have hx1:=hx
 have hy1:=hyl
 rw [← hp] at hx
 rw [← hq] at hyl
 have w1:=IntWalk.i64_in ((q.length : Int) - 1) (by omega)
 have en : (q.length : Int) - 1=(n : Int):=by omega
 rw [en] at w1
 rw [← hp,← hq] at hbel ⊢
 have rep0 : ∀ v : AVal,List.replicate 0 v=[]:=fun _=>rfl
 refine ACall.of_body (n:=124) (rs:=[.tmp 4,.tmp 5]) Try.func108 rfl rfl rfl (by decide) (by kernel_rfl) (by simp) ?_
 by_cases hs : (p.length : Int)≤(n : Int)
 ·have hlt : x<y:=dig_lt_len (by rw [← hp,← hq];omega)
  rw [Nat.div_eq_of_lt hlt,Nat.mod_eq_of_lt hlt,dig_zero,← hp] at hK
  obtain ⟨v',H3,hA,hO,hn3,hpr⟩:=app_vecG (P:=Try.prog) (H:=ext H [.arr 0 3 []]) (t:=59) (lo:=H.next) (n:=H.next+1) (v:=.own H.next 0 0 0 1) (cs:=[]) (src:=ints p) Try.underlying59 Try.cells3 Try.zero3 (all_one_ints p) (by rw [Try.bytes3,ints_length];simp;omega) (.inr ⟨H.next,0,Nat.le_refl _,by simp [ext_next],rfl,get_ext0 _ _ _⟩) (by simp [ext_next]) (by simp [ext_next])
  rw [ints_length] at hA
  have ov3 : Over H H3:=⟨by simp only [ext_next] at hn3;omega,fun id hid=>by
   rw [hpr id (by simp only [ext_next];omega) fun g n he=>by have:=AVal.own.inj he;omega,ext1_get_old hid]⟩
  simp only [go_sem,Nat.reduceEqDiff,Nat.reducePow,Nat.reduceLeDiff,reduceCtorEq,en,w1,hs,rep0,hA]
  refine FinV.dropO (v':=.tup [vecI [],vecI p]) G0_ok hcl ov3 (.tup rfl fun i hi _=>?_) hK
  match i,hi with
  | 0,_=>exact .nil
  | 1,_=>exact hO.fzI fun i hi=>hi
 ·have w2:=IntWalk.i64_in ((p.length : Int) - (n : Int)) (by omega)
  obtain ⟨m,hm⟩ : ∃ m,p.length=n+m∧1≤m:=⟨p.length - n,by omega,by omega⟩
  have em : (p.length : Int) - (n : Int)=(m : Int):=by omega
  rw [em] at w2
  have w3:=IntWalk.i64_in ((m : Int) - 1) (by omega)
  have esub : p.length - m=n:=by omega
  have ede : List.take n (List.drop m (ints p))=ints (p.drop m):=by rw [ints_drop];exact List.take_of_length_le (by rw [ints_length,List.length_drop];omega)
  have mle : (m : Int)≤(p.length : Int):=by omega
  have dl : (p.drop m).length=n:=by simp;omega
  have eR : List.replicate m (AVal.lit (.int .i64 0))=ints (List.replicate m 0):=by simp [ints,lin]
  obtain ⟨v',H3,hA,hO,hn3,hpr⟩:=app_vecG (P:=Try.prog) (H:=ext H [.arr 0 3 (ints (List.replicate m 0)),.arr 0 3 []]) (t:=59) (lo:=H.next+1) (n:=H.next+2) (v:=.own (H.next+1) 0 0 0 1) (cs:=[]) (src:=ints (p.drop m)) Try.underlying59 Try.cells3 Try.zero3 (all_one_ints _) (by rw [Try.bytes3,ints_length];simp;omega) (.inr ⟨H.next+1,0,Nat.le_refl _,by simp [ext_next],rfl,get_ext H _ 1 (by simp)⟩) (by show H.next+1≤H.next+2;omega) rfl
  rw [ints_length,dl] at hA
  simp only [ext_next,List.length_cons,List.length_nil] at hn3 hpr
  obtain ⟨Hq,hHq⟩ : ∃ Hq,Hq=ext H [.arr 0 3 (ints (List.replicate m 0))]:=⟨_,rfl⟩
  have nq : Hq.next=H.next+1:=by rw [hHq];rfl
  have clq : Clo Hq:=by
   rw [hHq]
   refine clo_ext hcl fun b hb=>?_
   obtain rfl:=List.mem_singleton.1 hb
   exact belowB_lits fun c hc=>by obtain ⟨x,_,rfl⟩:=List.mem_map.1 hc;exact ⟨_,rfl⟩
  have gq : Hq.get H.next=some (.arr 0 3 (ints (List.replicate m 0))):=by rw [hHq];exact get_ext0 _ _ _
  have ovq : Over H Hq:=by rw [hHq];exact Over.ext _ _
  have ov3 : Over Hq H3:=⟨by omega,fun id hid=>by
   rw [hpr id (by omega) fun g n he=>by have:=AVal.own.inj he;omega]
   by_cases h : id=H.next
   ·subst h;rw [gq,get_ext0]
   ·rw [get_ext_old _ _ _ (by omega),ovq.old _ (by omega)]⟩
  have n3:=ov3.next
  have hvF : Fz (fun id=>Hq.next≤id) H3 H3.next v' (vecI (p.drop m)):=hO.fzI fun i hi=>by omega
  have hbq : ∀ v,v∈[vecI p,vecI q]→Below Hq.next v:=fun v hv=>(hbel v hv).mono (by omega)
  have h37 : Fz (fun id=>Hq.next≤id) H3 H3.next (.vec n (ints (p.drop m))) (.vec n (ints (p.drop m))):=by rw [← dl];exact .keepInts _
  have gq3:=(ov3.old H.next (by omega)).trans gq
  have lq3:=get_live gq3
  simp only [go_sem,Nat.reduceEqDiff,Nat.reducePow,Nat.reduceAdd,Nat.reduceLeDiff,reduceCtorEq,en,w1,hs,em,w2,rep0,mle,esub,ede,eR,hA,w3,lq3]
  refine ⟨⟨by omega,by omega⟩,?_⟩
  apply W.letGo (H:=Hq) G0_ok clq ov3
  ·repeat first|exact Fz.envOld hbq (by omega)|(apply Fz.put';· first|exact .lit _|assumption|exact .keepInts _|exact .ptr (by omega) (by omega)|exact .own (by omega) (by omega)|exact .deadOwn (by omega) (by show Hq.next≤_;omega))
  ·trivial
  obtain ⟨Hg,hHg⟩ : ∃ Hg,Hg=gap Hq (H3.next - Hq.next):=⟨_,rfl⟩
  rw [← hHg]
  have hog : Over Hq Hg:=by rw [hHg];exact .gap _ _
  have ng:=hog.next
  have hgg:=(hog.old H.next (by omega)).trans gq
  have pdm : p.drop m=dig (x / 10000 ^ m):=by rw [hp];exact dig_drop x m
  have xlt : x / 10000 ^ m<y:=dig_lt_len (by rw [← pdm,dl,← hq];omega)
  refine W.env fun E hE=>?_
  have e0 : E 0=vecI p:=by rw [hE];rfl
  have e1 : E 1=vecI q:=by rw [hE];rfl
  have e6 : E 6=lin n:=by rw [hE];rfl
  have e7 : E 7=.own H.next 0 0 m 1:=by rw [hE];rfl
  have e8 : E 8=vecI (p.drop m):=by rw [hE];rfl
  have e9 : E 9=lin ((m : Int) - 1):=by rw [hE];rfl
  clear hE
  refine W.loop0 2658455991569831745807609722514243328 (by rfl) (fun ρ H'=>∃ (j : Nat) (qs : List Int),ρ 9=lin ((j : Int) - 1)∧j≤m∧Over H H'∧Hg.next≤H'.next∧H'.get H.next=some (.arr 0 3 (ints qs))∧qs.length=m∧Dg qs∧val (qs.drop j)=x / 10000 ^ j / y∧ρ 8=vecI (dig (x / 10000 ^ j % y))) (fun ρ H=>(iv (ρ 9)+1).toNat) ?_ ?_
  ·simp only [go_sem,e9,e8,appendA_U]
   refine ⟨m,List.replicate m 0,by simp,by omega,ovq.trans hog,hgg,by simp,fun c hc=>by obtain ⟨_,rfl⟩:=List.mem_replicate.1 hc;omega,?_,?_⟩
   ·rw [Nat.div_eq_of_lt xlt,List.drop_eq_nil_iff.2 (by simp)];rfl
   ·rw [Nat.mod_eq_of_lt xlt,← pdm]
  rintro ρ H' ⟨j,qs,h9,hj,ov,hnx,hg,hql,hqd,hv,h8⟩
  refine vc_sound _ _ _ (by rfl) ?_
  have lq:=get_live hg
  by_cases hz : j=0
  ·subst hz
   have z1 : ¬ (0 : Int)≤((0 : Nat) : Int) - 1:=by omega
   simp only [Nat.pow_zero,Nat.div_one,List.drop_zero] at hv h8
   simp only [go_sem,Int.reduceToNat,Int.reduceLE,Int.reduceAdd,Int.reduceSub,Nat.reduceEqDiff,Nat.reducePow,Nat.reduceDiv,Nat.reduceMod,reduceCtorEq,h9,z1,e7,appendA_U]
   have hO2 : OwnG H.next H' 3 (.own H.next 0 0 m 1) (ints qs):=.inr ⟨H.next,0,Nat.le_refl _,by omega,by rw [ints_length,hql],hg⟩
   refine AApply.cutArgs H.next (args':=[vecI qs]) G0_ok rfl (fun j hj _=>match j,hj with|0,_=>hO2.fzI fun i hi=>hi) (cut_spec qs hqd (by omega) _ _ ⟨trivial,?_⟩)
   rw [hv]
   simp only [go_sem,Nat.reduceEqDiff,Nat.reducePow,Nat.reduceDiv,Nat.reduceMod,reduceCtorEq,h8,appendA_U]
   have ovc : Over H (H'.cut H.next):=ov.cutO (Nat.le_refl _)
   refine FinV.dropO (v':=.tup [vecI (dig (x / y)),vecI (dig (x % y))]) G0_ok hcl ovc (.tup rfl fun i hi _=>?_) hK
   match i,hi with
   | 0,_=>exact .keepInts _
   | 1,_=>exact .keepInts _
  obtain ⟨i,rfl⟩ : ∃ i,j=i+1:=⟨j - 1,by omega⟩
  have ei : ((i+1 : Nat) : Int) - 1=(i : Int):=by omega
  rw [ei] at h9
  have z1 : (0 : Int)≤(i : Int):=by omega
  obtain ⟨R,hR⟩ : ∃ R,R=x / 10000 ^ (i+1) % y:=⟨_,rfl⟩
  rw [← hR] at h8
  have hRy : R<y:=by rw [hR];exact Nat.mod_lt _ (by omega)
  have hil : i<p.length:=by omega
  obtain ⟨a,ha⟩ : ∃ a,a=x / 10000 ^ i % 10000:=⟨_,rfl⟩
  have hpi : p[i]?=some ((a : Nat) : Int):=by rw [ha,hp];exact dig_nth (by rw [← hp];exact hil)
  have pn : ¬ p=[]:=by rintro rfl;simp at hil
  have bil : (i : Int)<p.length:=by omega
  obtain ⟨N,hN⟩ : ∃ N,N=a+10000*R:=⟨_,rfl⟩
  have yup : y<10000 ^ (n+1):=yub
  have rlen : (dig R).length≤n+1:=dig_len (by omega)
  have hNy : N<10000*y:=by omega
  have hN2 : N<10000 ^ (n+2):=by
   have : 10000 ^ (n+2)=10000*10000 ^ (n+1):=by rw [Nat.pow_succ,Nat.mul_comm]
   omega
  have nlen : (dig N).length≤n+2:=dig_len hN2
  obtain ⟨v',H3,hA,hO,hn3,hpr⟩:=app_vecG (P:=Try.prog) (H:=ext H' [.arr 0 3 [.lit (.int .i64 (a : Int))]]) (t:=59) (lo:=H'.next) (n:=H'.next+1) (v:=.own H'.next 0 0 1 1) (cs:=ints [(a : Int)]) (src:=ints (dig R)) Try.underlying59 Try.cells3 Try.zero3 (all_one_ints _) (by rw [Try.bytes3,ints_length,ints_length,List.length_singleton];omega) (.inr ⟨H'.next,0,Nat.le_refl _,by simp [ext_next],rfl,get_ext0 _ _ _⟩) (by simp [ext_next]) (by simp [ext_next])
  rw [ints_length] at hA
  have ov3 : Over H' H3:=⟨by simp only [ext_next] at hn3;omega,fun id hid=>by
   rw [hpr id (by simp only [ext_next];omega) fun g n he=>by have:=AVal.own.inj he;omega,ext1_get_old hid]⟩
  have hcd : Dg ((a : Int) :: dig R):=fun c hc=>by
   rcases List.mem_cons.1 hc with rfl|hc
   ·omega
   ·exact dg_dig R c hc
  have hcv : val ((a : Int) :: dig R)=N:=by rw [val,val_dig,hN];simp
  simp only [go_sem,Nat.reduceEqDiff,Nat.reducePow,Nat.reduceDiv,Nat.reduceMod,Nat.reduceLeDiff,reduceCtorEq,h9,z1,h8,e0,hpi,pn,bil,hA]
  refine AApply.cutArgs H'.next (args':=[vecI ((a : Int) :: dig R)]) G0_ok rfl (fun j hj _=>match j,hj with|0,_=>hO.fzI fun i hi=>hi) (cut_spec _ hcd (by rw [List.length_cons];omega) _ _ ⟨trivial,?_⟩)
  rw [hcv]
  have ovc : Over H' (H3.cut H'.next):=ov3.cut
  obtain ⟨Hc,hHc⟩ : ∃ Hc,Hc=H3.cut H'.next:=⟨_,rfl⟩
  rw [← hHc] at ovc ⊢
  clear hHc
  have w4:=IntWalk.i64_in ((n : Int)+1) (by omega)
  simp only [go_sem,Nat.reduceEqDiff,Nat.reducePow,Nat.reduceDiv,Nat.reduceMod,reduceCtorEq,e6,w4,appendA_U]
  have gqc:=(ovc.old H.next (by omega)).trans hg
  have nc:=ovc.next
  refine W.env fun E2 hE2=>?_
  have f0 : E2 0=vecI p:=by rw [hE2];exact e0
  have f1 : E2 1=vecI q:=by rw [hE2];exact e1
  have f6 : E2 6=lin n:=by rw [hE2];exact e6
  have f7 : E2 7=.own H.next 0 0 m 1:=by rw [hE2];exact e7
  have f8 : E2 8=vecI (dig N):=by rw [hE2];rfl
  have f9 : E2 9=lin (i : Int):=by rw [hE2];exact h9
  have f10 : E2 10=lin 0:=by rw [hE2];rfl
  have f11 : E2 11=lin 0:=by rw [hE2];rfl
  have f12 : E2 12=lin ((n : Int)+1):=by rw [hE2];rfl
  clear hE2
  have hqy : q=dig y:=hq
  have emax : (if (n : Int) - 1 > 0 then (n : Int) - 1 else 0)=((n - 1 : Nat) : Int):=by split<;>omega
  have w5:=IntWalk.i64_in ((n : Int) - 1) (by omega)
  have yk2 : y / 10000 ^ (n+2)=0:=Nat.div_eq_of_lt (by rw [Nat.pow_succ];omega)
  have Nk2 : N / 10000 ^ (n+2)=0:=Nat.div_eq_of_lt hN2
  have cube : ∀ z k : Nat,z<10000 ^ (n+2)→n - 1≤k→z / 10000 ^ k<1000000000000:=fun z k hz hk=>by
   refine Nat.div_lt_of_lt_mul (Nat.lt_of_lt_of_le hz ?_)
   rw [show (1000000000000 : Nat)=10000 ^ 3 by decide,← Nat.pow_add]
   exact Nat.pow_le_pow_right (by decide) (by omega)
  have hy2 : y<10000 ^ (n+2):=by rw [Nat.pow_succ];omega
  refine W.loop0 38685626155610539552676864 (by rfl) (fun ρ' H2=>∃ k F T : Nat,ρ' 12=lin ((k : Int) - 1)∧n - 1≤k∧k≤n+2∧H2=Hc∧ρ' 11=lin F∧ρ' 10=lin T∧F=N / 10000 ^ k∧T=y / 10000 ^ k) (fun ρ' H=>(iv (ρ' 12)+1).toNat) ?_ ?_
  ·simp only [go_sem,f12,f11,f10,appendA_U]
   exact ⟨n+2,0,0,by simp;omega,by omega,by omega,rfl,rfl,Nk2.symm,yk2.symm⟩
  rintro ρ' H2 ⟨k,F,T,g12,hk1,hk2,rfl,g11,g10,hF,hT⟩
  refine vc_sound _ _ _ (by rfl) ?_
  by_cases hke : k=n - 1
  ·have z2 : ¬ ((n - 1 : Nat) : Int)≤((n - 1 : Nat) : Int) - 1:=by omega
   rw [hke] at g12
   simp only [go_sem,Nat.reduceEqDiff,Nat.reducePow,Nat.reduceDiv,Nat.reduceMod,reduceCtorEq,g12,f6,w5,emax,z2,appendA_U]
   rw [hke] at hF hT
   have hP : 0<10000 ^ (n - 1):=Nat.pow_pos (by decide)
   have hT0 : 0<T:=by
    rw [hT]
    refine Nat.div_pos ?_ hP
    exact Nat.le_trans (Nat.pow_le_pow_right (by decide) (by omega)) ylb
   have cF:=cube N (n - 1) hN2 (by omega)
   have cT:=cube y (n - 1) hy2 (by omega)
   have qhi : N / y≤F / T:=by rw [hF,hT];exact quo_hi hP (by rw [← hT];exact hT0)
   have qlo : F / (T+1)≤N / y:=by rw [hF,hT];exact quo_lo hP (by omega)
   have qcap : F / T≤10000:=by rw [hF,hT];exact quo_cap hNy ylb
   rw [← hF] at cF
   rw [← hT] at cT
   have w6:=IntWalk.i64_in ((T : Int)+1) (by omega)
   obtain ⟨lo,hlo⟩ : ∃ lo,lo=F / (T+1):=⟨_,rfl⟩
   obtain ⟨hi,hhi⟩ : ∃ hi,hi=F / T:=⟨_,rfl⟩
   have t1 : ((F : Int)).tdiv ((T : Int)+1)=(lo : Int):=by rw [Int.tdiv_eq_ediv_of_nonneg (by omega),hlo];rfl
   have t2 : ((F : Int)).tdiv (T : Int)=(hi : Int):=by rw [Int.tdiv_eq_ediv_of_nonneg (by omega),hhi];rfl
   rw [← hlo] at qlo
   rw [← hhi] at qhi qcap
   have w7:=IntWalk.i64_in (lo : Int) (by omega)
   have w8:=IntWalk.i64_in (hi : Int) (by omega)
   have n1 : ¬ (T : Int)+1=0:=by omega
   have n2 : ¬ (T : Int)=0:=by omega
   refine W.env fun E3 hE3=>?_
   have k0 : E3 0=vecI p:=by rw [hE3];exact f0
   have k1 : E3 1=vecI q:=by rw [hE3];exact f1
   have k6 : E3 6=lin n:=by rw [hE3];exact f6
   have k7 : E3 7=.own H.next 0 0 m 1:=by rw [hE3];exact f7
   have k8 : E3 8=vecI (dig N):=by rw [hE3];exact f8
   have k9 : E3 9=lin (i : Int):=by rw [hE3];exact f9
   have k10 : E3 10=lin T:=by rw [hE3];exact g10
   have k11 : E3 11=lin F:=by rw [hE3];exact g11
   clear hE3
   refine W.draw 8 [0,0,2,7,0,0,48,15] Try.mixed (by kernel_rfl) (by kernel_rfl) ?_
   simp only [go_sem,Nat.reduceEqDiff,Nat.reduceAdd,k11,k10,w6,t1,t2,w7,w8,n1,n2,appendA_U]
   have gq2 : H2.get H.next=some (.arr 0 3 (ints qs)):=gqc
   obtain ⟨Q,hQ⟩ : ∃ Q,Q=N / y:=⟨_,rfl⟩
   rw [← hQ] at qlo qhi
   have hyl2 : (dig y).length≤100:=hy1
   refine W.env fun E4 hE4=>?_
   have l1 : E4 1=vecI q:=by rw [hE4];exact k1
   have l7 : E4 7=.own H.next 0 0 m 1:=by rw [hE4];exact k7
   have l8 : E4 8=vecI (dig N):=by rw [hE4];exact k8
   have l9 : E4 9=lin (i : Int):=by rw [hE4];exact k9
   have l13 : E4 13=lin (lo : Int):=by rw [hE4];rfl
   have l14 : E4 14=lin (hi : Int):=by rw [hE4];rfl
   clear hE4
   have Nl : ((dig N).length : Int)<2 ^ 40:=by omega
   refine W.loop0 1298069262873549765611524485865472 (by rfl) (fun ρ2 H3=>∃ L U : Nat,ρ2 13=lin L∧ρ2 14=lin U∧L≤Q∧Q≤U∧U≤10000∧Over H2 H3) (fun ρ2 H=>(iv (ρ2 14) - iv (ρ2 13)).toNat) ?_ ?_
   ·simp only [go_sem,l13,l14,appendA_U]
    exact ⟨lo,hi,rfl,rfl,qlo,qhi,qcap,.refl _⟩
   rintro ρ2 H4 ⟨L,U,m13,m14,hL,hU,hU2,ov4⟩
   refine vc_sound _ _ _ (by rfl) ?_
   have n4:=ov4.next
   by_cases hLU : (L : Int)<(U : Int)
   ·obtain ⟨M,hM⟩ : ∃ M,M=(L+U+1) / 2:=⟨_,rfl⟩
    have eLU : (L : Int)+(U : Int)=((L+U : Nat) : Int):=by omega
    have eLU1 : ((L+U : Nat) : Int)+1=((L+U+1 : Nat) : Int):=by omega
    have v1:=IntWalk.i64_in ((L+U : Nat) : Int) (by omega)
    have v2:=IntWalk.i64_in ((L+U+1 : Nat) : Int) (by omega)
    have v3 : (((L+U+1 : Nat) : Int)).tdiv 2=(M : Int):=by rw [Int.tdiv_eq_ediv_of_nonneg (by omega),hM];rfl
    have v4:=IntWalk.i64_in (M : Int) (by omega)
    have v5:=IntWalk.i64_in ((M : Int) - 1) (by omega)
    simp only [go_sem,Int.reduceEq,Nat.reduceEqDiff,Nat.reducePow,Nat.reduceDiv,Nat.reduceMod,Nat.reduceLeDiff,reduceCtorEq,m13,m14,hLU,eLU,eLU1,v1,v2,v3,v4,l1,appendA_U]
    have hO4 : OwnG H4.next (ext H4 [.arr 0 3 [.lit (.int .i64 (M : Int))]]) 3 (.own H4.next 0 0 1 1) (ints [(M : Int)]):=.inr ⟨H4.next,0,Nat.le_refl _,by simp [ext_next],rfl,get_ext0 _ _ _⟩
    rw [hqy]
    refine AApply.cutArgs H4.next (args':=[vecI (dig y),vecI [(M : Int)]]) G0_ok rfl (fun j hj _=>match j,hj with|0,_=>.keepInts _|1,_=>hO4.fzI fun i hi=>hi) (dtimes_one y M (by omega) (by omega) _ _ ⟨trivial,?_⟩)
    have ylen : (dig (y*M)).length≤n+2:=dig_len (by
     have h1 : y*M≤y*10000:=Nat.mul_le_mul_left _ (by omega)
     rw [Nat.pow_succ];omega)
    have ov5 : Over H2 ((ext H4 [.arr 0 3 [.lit (.int .i64 (M : Int))]]).cut H4.next):=ov4.trans ((Over.ext _ _).cut)
    simp only [go_sem,Nat.reduceEqDiff,Nat.reducePow,Nat.reduceDiv,Nat.reduceMod,reduceCtorEq,l8,appendA_U]
    refine AApply.clo (compare_spec (y*M) N (by omega) _ _ ⟨trivial,?_⟩)
    by_cases hc : y*M≤N
    ·have hc1 : cmpI ((y*M : Nat) : Int) (N : Int)≤0:=cmpI_le (by omega)
     have hMQ : M≤Q:=by rw [hQ,Nat.le_div_iff_mul_le (by omega),Nat.mul_comm];exact hc
     simp only [go_sem,Nat.reduceEqDiff,Nat.reducePow,Nat.reduceDiv,Nat.reduceMod,hc1,appendA_U]
     exact ⟨ov5.next,⟨M,U,rfl,m14,hMQ,hU,hU2,ov5⟩,by rw [m14];simp only [lin,iv];omega⟩
    ·have hc1 : ¬ cmpI ((y*M : Nat) : Int) (N : Int)≤0:=cmpI_gt (by omega)
     have hMQ : Q<M:=by rw [hQ,Nat.div_lt_iff_lt_mul (by omega),Nat.mul_comm];omega
     simp only [go_sem,Nat.reduceEqDiff,Nat.reducePow,Nat.reduceDiv,Nat.reduceMod,hc1,v5,appendA_U]
     exact ⟨ov5.next,⟨L,M - 1,m13,by simp;omega,hL,by omega,by omega,ov5⟩,by rw [m13];simp only [lin,iv];omega⟩
   ·have LQ : L=Q:=by omega
    subst LQ
    have g4:=(ov4.old H.next (by omega)).trans gq2
    have lq4:=get_live g4
    have him : i<m:=by omega
    have zi : (i : Int)<(m : Int):=by omega
    have Q9 : L<10000:=by rw [hQ];exact Nat.div_lt_of_lt_mul (by omega)
    simp only [go_sem,Nat.reduceEqDiff,Nat.reducePow,Nat.reduceDiv,Nat.reduceMod,Nat.reduceLeDiff,reduceCtorEq,m13,m14,hLU,l7,l9,zi,lq4,appendA_U]
    rw [setAt_ints _ (by omega)]
    obtain ⟨H5,hH5⟩ : ∃ H5,H5=H4.upd H.next (.arr 0 3 (ints (qs.set i (L : Int)))):=⟨_,rfl⟩
    rw [← hH5]
    have g5 : H5.get H.next=some (.arr 0 3 (ints (qs.set i (L : Int)))):=by rw [hH5,upd_get,if_pos rfl]
    have n5 : H5.next=H4.next:=by rw [hH5];rfl
    have ov5 : Over H H5:=⟨by have:=ov.next;omega,fun id hid=>by
     rw [hH5,upd_get,if_neg (by omega),ov4.old _ (by omega),ovc.old _ (by omega),ov.old _ hid]⟩
    clear hH5
    refine ⟨by omega,?_⟩
    have dgL : Dg [(L : Int)]:=fun c hc=>by obtain rfl:=List.mem_singleton.1 hc;omega
    have vL : val [(L : Int)]=L:=by simp [val]
    have hO5 : OwnG H5.next (ext H5 [.arr 0 3 [.lit (.int .i64 (L : Int))]]) 3 (.own H5.next 0 0 1 1) (ints [(L : Int)]):=.inr ⟨H5.next,0,Nat.le_refl _,by simp [ext_next],rfl,get_ext0 _ _ _⟩
    refine AApply.cutArgs H5.next (args':=[vecI [(L : Int)]]) G0_ok rfl (fun j hj _=>match j,hj with|0,_=>hO5.fzI fun i hi=>hi) (cut_spec _ dgL (by simp) _ _ ⟨trivial,?_⟩)
    rw [vL]
    have ov6 : Over H5 ((ext H5 [.arr 0 3 [.lit (.int .i64 (L : Int))]]).cut H5.next):=(Over.ext _ _).cut
    obtain ⟨H6,hH6⟩ : ∃ H6,H6=(ext H5 [.arr 0 3 [.lit (.int .i64 (L : Int))]]).cut H5.next:=⟨_,rfl⟩
    rw [← hH6] at ov6 ⊢
    clear hH6
    have n6:=ov6.next
    have lenL : (dig L).length≤1:=dig_len (by omega)
    have hmul : y*L≤N:=by rw [hQ];exact Nat.mul_div_le N y
    simp only [go_sem,Nat.reduceEqDiff,Nat.reducePow,Nat.reduceDiv,Nat.reduceMod,reduceCtorEq,l1,l8,appendA_U]
    rw [hqy]
    refine AApply.clo (dtimes_dig y L (by omega) (by omega) _ _ ⟨trivial,?_⟩)
    simp only [go_sem,Nat.reduceEqDiff,Nat.reducePow,Nat.reduceDiv,Nat.reduceMod,reduceCtorEq,appendA_U]
    refine AApply.clo (minus_spec N (y*L) hmul (by omega) _ _ ⟨trivial,?_⟩)
    have wi:=IntWalk.i64_in ((i : Int) - 1) (by omega)
    simp only [go_sem,Nat.reduceEqDiff,Nat.reducePow,Nat.reduceDiv,Nat.reduceMod,reduceCtorEq,l9,wi,appendA_U]
    have eX:=Nat.div_add_mod (x / 10000 ^ (i+1)) y
    have eS : x / 10000 ^ i=a+10000*(x / 10000 ^ (i+1)):=by
     rw [Nat.pow_succ,← Nat.div_div_eq_div_mul,ha];omega
    have qs2:=quo_step (X:=x / 10000 ^ (i+1)) (a:=a) (y:=y) (Q:=x / 10000 ^ (i+1) / y) (R:=R) (by rw [hR];exact eX.symm) hRy
    rw [← eS,← hN] at qs2
    have eRN : N - y*L=x / 10000 ^ i % y:=by rw [qs2.2,hQ];have:=Nat.div_add_mod N y;omega
    rw [eRN]
    refine ⟨by omega,⟨i,qs.set i (L : Int),rfl,by omega,ov5.trans ov6,by omega,(ov6.old _ (by omega)).trans g5,by simp [hql],fun c hc=>?_,?_,rfl⟩,by omega⟩
    ·rcases List.mem_or_eq_of_mem_set hc with h|h
     ·exact hqd c h
     ·omega
    ·rw [List.drop_eq_getElem_cons (by simp;omega),val,List.getElem_set_self,Int.toNat_natCast,List.drop_set_of_lt (by omega),hv,qs2.1,hQ]
     omega
  obtain ⟨j,rfl⟩ : ∃ j,k=j+1:=⟨k - 1,by omega⟩
  have ej : ((j+1 : Nat) : Int) - 1=(j : Int):=by omega
  rw [ej] at g12
  have z2 : ((n - 1 : Nat) : Int)≤(j : Int):=by omega
  have cF:=cube N j hN2 (by omega)
  have cT:=cube y j hy2 (by omega)
  rw [Nat.pow_succ,← Nat.div_div_eq_div_mul] at hF hT
  have nF : N / 10000 ^ j=0∨j<(dig N).length:=by
   by_cases h : j<(dig N).length
   ·exact .inr h
   ·exact .inl (dig_out h)
  have nT : y / 10000 ^ j=0∨j≤n:=by
   by_cases h : j≤n
   ·exact .inr h
   ·exact .inl (dig_out (by rw [← hqy,hn];omega))
  have dF : j<(dig N).length→(dig N)[j]?=some ((N / 10000 ^ j % 10000 : Nat) : Int):=fun h=>dig_nth h
  have dT : j≤n→q[j]?=some ((y / 10000 ^ j % 10000 : Nat) : Int):=fun h=>by rw [hqy];exact dig_nth (by rw [← hqy,hn];omega)
  obtain ⟨F',hF'⟩ : ∃ F',F'=N / 10000 ^ j:=⟨_,rfl⟩
  obtain ⟨T',hT'⟩ : ∃ T',T'=y / 10000 ^ j:=⟨_,rfl⟩
  rw [← hF'] at cF hF nF dF
  rw [← hT'] at cT hT nT dT
  obtain ⟨cf,hcf⟩ : ∃ cf,cf=F' % 10000:=⟨_,rfl⟩
  obtain ⟨ct,hct⟩ : ∃ ct,ct=T' % 10000:=⟨_,rfl⟩
  rw [← hcf] at dF
  rw [← hct] at dT
  have w6:=IntWalk.i64_in ((F : Int)*10000) (by omega)
  have w7:=IntWalk.i64_in ((F : Int)*10000+(cf : Int)) (by omega)
  have w8:=IntWalk.i64_in ((T : Int)*10000) (by omega)
  have w9:=IntWalk.i64_in ((T : Int)*10000+(ct : Int)) (by omega)
  have wj:=IntWalk.i64_in ((j : Int) - 1) (by omega)
  by_cases hjl : j<(dig N).length
  ·have dF1:=dF hjl
   have Nn : ¬ dig N=[]:=by intro h;rw [h] at hjl;simp at hjl
   have z3 : (j : Int)<(dig N).length:=by omega
   by_cases hjn : j≤n
   ·have dT1:=dT hjn
    have qn : ¬ q=[]:=by intro h;rw [h] at hn;simp at hn
    have z4 : (j : Int)≤(n : Int):=by omega
    have z5 : (j : Int)<q.length:=by omega
    simp only [go_sem,Nat.reduceEqDiff,Nat.reducePow,Nat.reduceDiv,Nat.reduceMod,reduceCtorEq,g12,f6,w5,emax,z2,g11,w6,f8,z3,Nn,dF1,w7,z4,z5,f1,dT1,qn,g10,w8,w9,wj,appendA_U]
    exact ⟨⟨j,F',T',rfl,by omega,by omega,by simp;omega,by simp;omega,hF',hT'⟩,by omega⟩
   ·have z4 : ¬ (j : Int)≤(n : Int):=by omega
    simp only [go_sem,Nat.reduceEqDiff,Nat.reducePow,Nat.reduceDiv,Nat.reduceMod,reduceCtorEq,g12,f6,w5,emax,z2,g11,w6,f8,z3,Nn,dF1,w7,z4,wj,appendA_U]
    exact ⟨⟨j,F',T',rfl,by omega,by omega,by simp;omega,by rw [g10,lin];simp;omega,hF',hT'⟩,by omega⟩
  ·have z3 : ¬ (j : Int)<(dig N).length:=by omega
   by_cases hjn : j≤n
   ·have dT1:=dT hjn
    have qn : ¬ q=[]:=by intro h;rw [h] at hn;simp at hn
    have z4 : (j : Int)≤(n : Int):=by omega
    have z5 : (j : Int)<q.length:=by omega
    simp only [go_sem,Nat.reduceEqDiff,Nat.reducePow,Nat.reduceDiv,Nat.reduceMod,reduceCtorEq,g12,f6,w5,emax,z2,g11,w6,f8,z3,z4,z5,f1,dT1,qn,g10,w8,w9,wj,appendA_U]
    exact ⟨⟨j,F',T',rfl,by omega,by omega,by simp;omega,by simp;omega,hF',hT'⟩,by omega⟩
   ·have z4 : ¬ (j : Int)≤(n : Int):=by omega
    simp only [go_sem,Nat.reduceEqDiff,Nat.reducePow,Nat.reduceDiv,Nat.reduceMod,reduceCtorEq,g12,f6,w5,emax,z2,g11,w6,f8,z3,z4,wj,appendA_U]
    exact ⟨⟨j,F',T',rfl,by omega,by omega,by simp;omega,by rw [g10,lin];simp;omega,hF',hT'⟩,by omega⟩
end Go.Proofs.R01
set_option linter.unusedSimpArgs false
set_option maxRecDepth 100000
namespace Go.Proofs.R01
open Go.Hx
def vn : AVal→Nat
 | .vec _ l=>val (l.map iv)
 | _=>0
theorem vn_dig (n : Nat) : vn (vecI (dig n))=n:=by
 have : (ints (dig n)).map iv=dig n:=by simp [ints,lin,iv,Function.comp_def]
 show val ((ints (dig n)).map iv)=n
 rw [this,val_dig]
theorem rgcd_spec (x y : Nat) (hx : (dig x).length≤100) (hy : (dig y).length≤100) (H : AHeap) (K : ARes→AHeap→Prop) (hK : K (.ret (vecI (dig (Nat.gcd x y)))) H) : ACall Try.prog G0 107 [vecI (dig x),vecI (dig y)] H K:=by
 refine ACall.clo ⟨_,Try.func107,rfl,rfl⟩ fun hcl=>?_
 refine ACall.of_body (n:=19) (rs:=[.tmp 4]) Try.func107 rfl rfl rfl (by decide) (by kernel_rfl) (by simp) ?_
 simp only [go_sem,appendA_U]
 refine W.loop0 262115 (by rfl) (fun ρ H'=>∃ X Y : Nat,ρ 0=vecI (dig X)∧ρ 1=vecI (dig Y)∧(dig X).length≤100∧(dig Y).length≤100∧H'=H∧Nat.gcd X Y=Nat.gcd x y) (fun ρ H=>vn (ρ 1)) ?_ ?_
 ·simp only [go_sem,Nat.reduceEqDiff,reduceCtorEq,appendA_U]
  exact ⟨x,y,rfl,rfl,hx,hy,rfl⟩
 rintro ρ H' ⟨X,Y,h0,h1,hX,hY,rfl,hg⟩
 refine vc_sound _ _ _ (by rfl) ?_
 by_cases hz : Y=0
 ·subst hz
  have z1 : ¬ (0 : Int)<(dig 0).length:=by rw [dig_zero];simp
  rw [Nat.gcd_zero_right] at hg
  simp only [go_sem,Nat.reduceEqDiff,Nat.reducePow,Nat.reduceDiv,Nat.reduceMod,reduceCtorEq,h0,h1,z1,appendA_U]
  rw [← hg] at hK
  exact FinV.dropO G0_ok hcl (.refl _) (.keepInts _) hK
 have z1 : (0 : Int)<(dig Y).length:=by
  have : (dig Y).length≠0:=fun h=>hz (dig_nil.1 (List.eq_nil_of_length_eq_zero h))
  omega
 simp only [go_sem,Nat.reduceEqDiff,Nat.reducePow,Nat.reduceDiv,Nat.reduceMod,reduceCtorEq,h0,h1,z1,appendA_U]
 refine AApply.clo (divide_spec X Y hz hX hY _ _ ⟨trivial,?_⟩)
 have hlt : X % Y<Y:=Nat.mod_lt _ (by omega)
 have hl : (dig (X % Y)).length≤100:=by
  rcases Nat.lt_or_ge (dig Y).length (dig (X % Y)).length with h|h
  ·exact absurd (dig_lt_len h) (by omega)
  ·omega
 simp only [go_sem,Nat.reduceEqDiff,Nat.reducePow,Nat.reduceDiv,Nat.reduceMod,reduceCtorEq,h1,appendA_U]
 refine ⟨⟨Y,X % Y,rfl,rfl,hY,hl,?_⟩,?_⟩
 ·rw [← hg,Nat.gcd_comm Y,← Nat.gcd_rec,Nat.gcd_comm]
 ·have e1:=vn_dig (X % Y)
  have e2:=vn_dig Y
  rw [show AVal.vec (dig (X % Y)).length (ints (dig (X % Y)))=vecI (dig (X % Y)) from rfl,show AVal.vec (dig Y).length (ints (dig Y))=vecI (dig Y) from rfl,e1,e2]
  exact hlt
theorem fz_tb {S : Nat→Prop} {H : AHeap} {nx : Nat} {n : Int} {b : Bool} : Fz S H nx (.tup [.lit (.int .i64 n),.lit (.bool b)]) (.tup [lin n,.lit (.bool b)]):=.tup rfl fun i hi _=>match i,hi with
 | 0,_=>.lit _
 | 1,_=>.lit _
def valR (n : Nat) : AVal:=if n≤4611686018427387903 then .tup [lin n,.lit (.bool true)] else .tup [lin 0,.lit (.bool false)]
theorem value_spec (n : Nat) (hn : (dig n).length≤100) (H : AHeap) (K : ARes→AHeap→Prop) (hK : K (.ret (valR n)) H) : ACall Try.prog G0 109 [vecI (dig n)] H K:=by
 refine ACall.clo ⟨_,Try.func109,rfl,rfl⟩ fun hcl=>?_
 obtain ⟨p,hp⟩ : ∃ p,p=dig n:=⟨_,rfl⟩
 refine ACall.of_body (n:=25) (rs:=[.tmp 2,.tmp 3]) Try.func109 rfl rfl rfl (by decide) (by kernel_rfl) (by simp) ?_
 simp only [go_sem,reduceCtorEq,appendA_U]
 refine AApply.clo (digits_spec 4611686018427387903 (by omega) _ _ ⟨trivial,?_⟩)
 simp only [go_sem,Nat.reduceEqDiff,appendA_U]
 refine AApply.clo (compare_spec n 4611686018427387903 (by omega) _ _ ⟨trivial,?_⟩)
 unfold valR at hK
 by_cases hb : n≤4611686018427387903
 rotate_left
 ·have c1 : 0<cmpI (n : Int) 4611686018427387903:=by have:=cmpI_gt (a:=(n : Int)) (b:=4611686018427387903) (by omega);omega
  rw [if_neg hb] at hK
  simp only [go_sem,Nat.reduceEqDiff,c1,appendA_U]
  exact FinV.dropO G0_ok hcl (.refl _) fz_tb hK
 have c1 : ¬ 0<cmpI (n : Int) 4611686018427387903:=by have:=cmpI_le (a:=(n : Int)) (b:=4611686018427387903) (by omega);omega
 rw [if_pos hb] at hK
 have w1:=IntWalk.i64_in (((dig n).length : Int) - 1) (by omega)
 simp only [go_sem,Nat.reduceEqDiff,reduceCtorEq,c1,w1,appendA_U]
 refine W.loop0 16769072 (by rfl) (fun ρ H'=>∃ k X : Nat,ρ 5=lin ((k : Int) - 1)∧ρ 4=lin X∧X=n / 10000 ^ k∧k≤(dig n).length∧H'=H) (fun ρ H=>(iv (ρ 5)+1).toNat) ?_ ?_
 ·simp only [go_sem,Nat.reduceEqDiff,appendA_U]
  refine ⟨(dig n).length,0,rfl,rfl,?_,by omega⟩
  exact (Nat.div_eq_of_lt (by have:=val_lt (dg_dig n);rwa [val_dig] at this)).symm
 rintro ρ H' ⟨k,X,h5,h4,hX,hk,rfl⟩
 refine vc_sound _ _ _ (by rfl) ?_
 by_cases hz : k=0
 ·subst hz
  have z1 : ¬ (0 : Int)≤((0 : Nat) : Int) - 1:=by omega
  simp only [Nat.pow_zero,Nat.div_one] at hX
  subst hX
  simp only [go_sem,Int.reduceToNat,Int.reduceLE,Int.reduceAdd,Int.reduceSub,Nat.reduceEqDiff,Nat.reducePow,Nat.reduceDiv,Nat.reduceMod,reduceCtorEq,h5,h4,z1,appendA_U]
  exact FinV.dropO G0_ok hcl (.refl _) fz_tb hK
 obtain ⟨j,rfl⟩ : ∃ j,k=j+1:=⟨k - 1,by omega⟩
 have ej : ((j+1 : Nat) : Int) - 1=(j : Int):=by omega
 rw [ej] at h5
 have z1 : (0 : Int)≤(j : Int):=by omega
 have hd:=dig_nth (n:=n) (k:=j) (by omega)
 rw [Nat.pow_succ,← Nat.div_div_eq_div_mul] at hX
 have hle : n / 10000 ^ j≤n:=Nat.div_le_self _ _
 obtain ⟨Y,hY⟩ : ∃ Y,Y=n / 10000 ^ j:=⟨_,rfl⟩
 rw [← hY] at hd hX hle
 obtain ⟨c,hc⟩ : ∃ c,c=Y % 10000:=⟨_,rfl⟩
 rw [← hc] at hd
 have w2:=IntWalk.i64_in (10000*(X : Int)) (by omega)
 have w3:=IntWalk.i64_in (10000*(X : Int)+(c : Int)) (by omega)
 have w4:=IntWalk.i64_in ((j : Int) - 1) (by omega)
 have dn : ¬ dig n=[]:=by intro h;rw [h] at hd;simp at hd
 have z2 : (j : Int)<(dig n).length:=by omega
 simp only [go_sem,Nat.reduceEqDiff,Nat.reducePow,Nat.reduceDiv,Nat.reduceMod,reduceCtorEq,h5,h4,z1,w2,hd,dn,z2,w3,w4,appendA_U]
 exact ⟨⟨j,Y,rfl,by simp;omega,hY,by omega⟩,by omega⟩
/-- A fraction in lowest terms. -/
def madeR (neg : Bool) (N D : Nat) : AVal :=
 if N / Nat.gcd N D≤4611686018427387903∧D / Nat.gcd N D≤4611686018427387903 then .tup [qV (if neg=true then -((N / Nat.gcd N D : Nat) : Int) else ((N / Nat.gcd N D : Nat) : Int)) ((D / Nat.gcd N D : Nat) : Int),.lit (.bool true)] else .tup [qV 0 0,.lit (.bool false)]
theorem fz_qb {S : Nat→Prop} {H : AHeap} {nx : Nat} {x y : Int} {b : Bool} : Fz S H nx (.tup [.agg [.lit (.int .i64 x),.lit (.int .i64 y)],.lit (.bool b)]) (.tup [qV x y,.lit (.bool b)]):=.tup rfl fun i hi _=>match i,hi with
 | 0,_=>fz_lits _ _
 | 1,_=>.lit _
theorem dig_mono {a b : Nat} (h : a≤b) : (dig a).length≤(dig b).length:=by
 rcases Nat.lt_or_ge (dig b).length (dig a).length with h1|h1
 ·exact absurd (dig_lt_len h1) (by omega)
 ·exact h1
set_option maxHeartbeats 1000000 in
theorem made_spec (neg : Bool) (N D : Nat) (hD : D≠0) (hN : (dig N).length≤100) (hDl : (dig D).length≤100) (H : AHeap) (K : ARes→AHeap→Prop) (hK : K (.ret (madeR neg N D)) H) : ACall Try.prog G0 98 [.lit (.bool neg),vecI (dig N),vecI (dig D)] H K:=by
 refine ACall.clo ⟨_,Try.func98,rfl,rfl⟩ fun hcl=>?_
 have g0 : 0<Nat.gcd N D:=Nat.gcd_pos_of_pos_right _ (by omega)
 have gl : (dig (Nat.gcd N D)).length≤100:=Nat.le_trans (dig_mono (Nat.le_of_dvd (by omega) (Nat.gcd_dvd_right N D))) hDl
 have gc : ∀ H K,K (ARes.ret (vecI (dig (Nat.gcd N D)))) H→ACall Try.prog G0 107 [vecI (dig N),vecI (dig D)] H K:=fun H K h=>rgcd_spec N D hN hDl H K h
 unfold madeR at hK
 generalize Nat.gcd N D=g at *
 have l1 : (dig (N / g)).length≤100:=Nat.le_trans (dig_mono (Nat.div_le_self _ _)) hN
 have l2 : (dig (D / g)).length≤100:=Nat.le_trans (dig_mono (Nat.div_le_self _ _)) hDl
 have d1 : ∀ H K,K (ARes.ret (.tup [vecI (dig (N / g)),vecI (dig (N % g))])) H→ACall Try.prog G0 108 [vecI (dig N),vecI (dig g)] H K:=fun H K h=>divide_spec N g (by omega) hN gl H K h
 have d2 : ∀ H K,K (ARes.ret (.tup [vecI (dig (D / g)),vecI (dig (D % g))])) H→ACall Try.prog G0 108 [vecI (dig D),vecI (dig g)] H K:=fun H K h=>divide_spec D g (by omega) hDl gl H K h
 generalize N / g=p at *
 generalize D / g=q at *
 generalize N % g=r1 at *
 generalize D % g=r2 at *
 refine ACall.of_body (n:=51) (rs:=[.cell 6 68,.tmp 7]) Try.func98 rfl rfl rfl (by decide) (by kernel_rfl) (by simp) ?_
 simp only [go_sem,Nat.reduceEqDiff,appendA_U]
 refine AApply.clo (gc _ _ ⟨trivial,?_⟩)
 simp only [go_sem,Nat.reduceEqDiff,appendA_U]
 refine AApply.clo (d1 _ _ ⟨trivial,?_⟩)
 simp only [go_sem,Nat.reduceEqDiff,appendA_U]
 refine AApply.clo (d2 _ _ ⟨trivial,?_⟩)
 simp only [go_sem,Nat.reduceEqDiff,appendA_U]
 refine AApply.clo (value_spec p l1 _ _ ⟨trivial,?_⟩)
 unfold valR
 by_cases hp : p≤4611686018427387903
 ·have wp:=IntWalk.i64_in (0 - (p : Int)) (by omega)
  rw [if_pos hp]
  simp only [go_sem,Nat.reduceEqDiff,appendA_U]
  refine AApply.clo (value_spec q l2 _ _ ⟨trivial,?_⟩)
  unfold valR
  by_cases hq : q≤4611686018427387903
  ·rw [if_pos ⟨hp,hq⟩] at hK
   rw [if_pos hq]
   cases neg with
   | false =>
    simp only [go_sem,Nat.reduceEqDiff,Nat.reduceAdd,Nat.reduceLeDiff,reduceCtorEq,appendA_U]
    exact FinV.drop G0_ok hcl fz_qb (by simpa using hK)
   | true =>
    simp only [go_sem,Nat.reduceEqDiff,Nat.reduceAdd,Nat.reduceLeDiff,reduceCtorEq,appendA_U]
    exact FinV.drop G0_ok hcl fz_qb (by rw [wp,Int.zero_sub];simpa using hK)
  ·rw [if_neg (fun h=>hq h.2)] at hK
   rw [if_neg hq]
   simp only [go_sem,Nat.reduceEqDiff,Nat.reduceAdd,appendA_U]
   exact FinV.drop G0_ok hcl fz_qb hK
 ·rw [if_neg (fun h=>hp h.1)] at hK
  rw [if_neg hp]
  simp only [go_sem,Nat.reduceEqDiff,appendA_U]
  refine AApply.clo (value_spec q l2 _ _ ⟨trivial,?_⟩)
  unfold valR
  by_cases hq : q≤4611686018427387903
  ·rw [if_pos hq]
   simp only [go_sem,Nat.reduceEqDiff,Nat.reduceAdd,appendA_U]
   exact FinV.drop G0_ok hcl fz_qb hK
  ·rw [if_neg hq]
   simp only [go_sem,Nat.reduceEqDiff,Nat.reduceAdd,appendA_U]
   exact FinV.drop G0_ok hcl fz_qb hK
end Go.Proofs.R01
set_option linter.unusedSimpArgs false
set_option maxRecDepth 100000
namespace Go.Proofs.R01
open Go.Hx
abbrev I64 (n : Int) : Prop:=-9223372036854775808≤n∧n≤9223372036854775807
theorem dl5 {n : Int} (h : I64 n) : (dig n.natAbs).length≤5:=dig_len (by
 have : (10000 : Nat) ^ 5=100000000000000000000:=by decide
 have:=h.1
 have:=h.2
 omega)
theorem madeR_form (neg : Bool) (N D : Nat) : ∃ x y b,madeR neg N D=.tup [qV x y,.lit (.bool b)]:=by
 unfold madeR;split
 ·exact ⟨_,_,_,rfl⟩
 ·exact ⟨_,_,_,rfl⟩
theorem rMake_spec (n d : Int) (hn : I64 n) (hd : I64 d) (hd0 : d≠0) (H : AHeap) (K : ARes→AHeap→Prop) (hK : K (.ret (madeR (sgnB n d) n.natAbs d.natAbs)) H) : ACall Try.prog G0 80 [.lit (.int .i64 n),.lit (.int .i64 d)] H K:=by
 refine ACall.clo ⟨_,Try.func80,rfl,rfl⟩ fun hcl=>?_
 refine ACall.of_body (n:=18) (rs:=[.cell 4 68,.tmp 5]) Try.func80 rfl rfl rfl (by decide) (by kernel_rfl) (by simp) ?_
 simp only [go_sem,Nat.reduceEqDiff,reduceCtorEq,bin_neq_bool Try.underlying4,appendA_U]
 refine AApply.clo (digits_spec n hn _ _ ⟨trivial,?_⟩)
 simp only [go_sem,Nat.reduceEqDiff,appendA_U]
 refine AApply.clo (digits_spec d hd _ _ ⟨trivial,?_⟩)
 simp only [go_sem,Nat.reduceEqDiff,appendA_U]
 have l1:=dl5 hn
 have l2:=dl5 hd
 refine AApply.clo (made_spec _ _ _ (by omega) (by omega) (by omega) _ _ ⟨trivial,?_⟩)
 unfold sgnB at hK
 obtain ⟨x,y,b,e⟩:=madeR_form (!(decide (n<0) == decide (d<0))) n.natAbs d.natAbs
 rw [e] at hK ⊢
 simp only [go_sem,Nat.reduceEqDiff,Nat.reduceAdd,qV,appendA_U]
 exact FinV.drop G0_ok hcl fz_qb hK
theorem made_ratio {n d : Int} (hn : -4611686018427387903≤n∧n≤4611686018427387903) (hd : 1≤d∧d≤4611686018427387903) : madeR (sgnB n d) n.natAbs d.natAbs=.tup [ratioV n d,.lit (.bool true)]:=by
 have g0 : 0<Int.gcd n d:=Int.gcd_pos_of_ne_zero_right _ (by omega)
 have hg : Nat.gcd n.natAbs d.natAbs=Int.gcd n d:=rfl
 have hs : sgnB n d=decide (n<0):=by
  unfold sgnB
  rw [decide_eq_false (show ¬ d<0 by omega)]
  cases decide (n<0)<;>rfl
 have l1 : n.natAbs / Int.gcd n d≤n.natAbs:=Nat.div_le_self _ _
 have l2 : d.natAbs / Int.gcd n d≤d.natAbs:=Nat.div_le_self _ _
 unfold madeR ratioV qV
 rw [hg,if_pos ⟨by omega,by omega⟩,hs]
 have e2 : d.tdiv (Int.gcd n d : Int)=((d.natAbs / Int.gcd n d : Nat) : Int):=by
  rw [Int.tdiv_eq_ediv_of_nonneg (by omega),Int.natCast_ediv]
  congr 1;omega
 have e1 : n.tdiv (Int.gcd n d : Int)=if decide (n<0)=true then -((n.natAbs / Int.gcd n d : Nat) : Int) else ((n.natAbs / Int.gcd n d : Nat) : Int):=by
  by_cases h : n<0
  ·rw [decide_eq_true h,if_pos rfl]
   have : n=-(n.natAbs : Int):=by omega
   conv=>lhs;rw [this]
   rw [Int.neg_tdiv,Int.tdiv_eq_ediv_of_nonneg (by omega),Int.natCast_ediv]
   congr 3
   all_goals (try rw [← this])
  ·rw [decide_eq_false h,if_neg (by decide)]
   rw [Int.tdiv_eq_ediv_of_nonneg (by omega),Int.natCast_ediv]
   congr 1;omega
 rw [e1,e2]
theorem of_spec (n d : Int) (hn : -4611686018427387903≤n∧n≤4611686018427387903) (hd : 1≤d∧d≤4611686018427387903) (H : AHeap) (K : ARes→AHeap→Prop) (hK : K (.ret (ratioV n d)) H) : ACall Try.prog G0 37 [.lit (.int .i64 n),.lit (.int .i64 d)] H K:=by
 refine ACall.clo ⟨_,Try.func37,rfl,rfl⟩ fun hcl=>?_
 refine ACall.of_body (n:=14) (rs:=[.cell 4 68]) Try.func37 rfl rfl rfl (by decide) (by kernel_rfl) (by simp) ?_
 simp only [go_sem,Nat.reduceEqDiff,reduceCtorEq,appendA_U]
 refine AApply.clo (rMake_spec n d (by unfold I64;omega) (by unfold I64;omega) (by omega) _ _ ⟨trivial,?_⟩)
 rw [made_ratio hn hd]
 simp only [go_sem,Nat.reduceEqDiff,Nat.reduceAdd,Nat.reduceLT,ratioV,appendA_U]
 refine FinV.drop G0_ok hcl (v':=ratioV n d) ?_ hK
 exact .agg rfl fun i hi _=>match i,hi with
  | 0,_=>.lit _
  | 1,_=>.lit _
end Go.Proofs.R01
set_option linter.unusedSimpArgs false
set_option maxRecDepth 100000
namespace Go.Hx
variable {P : Program} {H H' : AHeap}
/-- What a source holds, appended to a slice of one's own. -/
theorem app_srcG {t e : TypeId} {lo n m : Nat} {v x : AVal} {cs src : List AVal} {z : List AVal} (ht : P.underlying t=some (.slice e)) (hz : P.cellsOf e=1) (hzero : zeroA P e=some z) (hsrc : sourceA H 1 x=some (m,src)) (hm : src.length=m) (hx : src.all AVal.one=true)
  (hb : (cs.length+m)*P.bytesOf e≤2 ^ 46∧cs.length+m≤2 ^ 46) (ho : OwnG lo H e v cs) (hlo : lo≤H.next) (hn : n=H.next) :
  ∃ v' H',appendA P H n t t v x=some (v',H')∧OwnG lo H' e v' (cs++src)∧H.next≤H'.next∧(∀ k,k<H.next→(∀ g n,v≠.own k g 0 n 1)→H'.get k=H.get k):=by
 subst hm
 obtain ⟨v',H',hA,h2⟩:=app_vecG (H:=H) (n:=n) ht hz hzero hx hb ho hlo hn
 refine ⟨v',H',?_,h2⟩
 rw [← hA]
 have e2 : sourceA H 1 (.vec src.length src)=some (src.length,src):=by unfold sourceA;simp
 unfold appendA
 rw [ht]
 simp only [hz,hsrc,e2]
end Go.Hx
namespace Go.Proofs
open Go.Hx
def bytesL (l : List Int) : List AVal:=l.map fun n=>.lit (.int .u8 n)
def U8 (n : Int) : Prop:=0≤n∧n<256
theorem bytesL_get {l : List Int} {k : Nat} {a : Int} (h : l[k]?=some a) : (bytesL l)[k]?=some (.lit (.int .u8 a)):=by unfold bytesL;rw [List.getElem?_map,h];rfl
theorem cardsD_spec (n : Nat) (hn : n≤5) (ord : List Int) (H : AHeap) (K : ARes→AHeap→Prop) (hK : K (.ret (vecI (List.replicate n 1))) H) :
  ACall Try.prog G0 101 [.agg [.vec n (bytesL (List.replicate n 0)),(.lit (.int .u16 0)),.vec ord.length (bytesL ord)]] H K:=by
 refine ACall.clo ⟨_,Try.func101,rfl,rfl⟩ fun hcl=>?_
 refine ACall.of_body (n:=28) (rs:=[.tmp 2]) Try.func101 rfl rfl rfl (by decide) (by kernel_rfl) (by simp) ?_
 simp only [go_sem,appendA_U]
 obtain ⟨H1,hH1⟩ : ∃ H1,H1=ext H [.arr 0 139 [.vec n (bytesL (List.replicate n 0)),.lit (.int .u16 0),.vec ord.length (bytesL ord)]]:=⟨_,rfl⟩
 have l1:=get_live (show H1.get H.next=some (.arr 0 139 [.vec n (bytesL (List.replicate n 0)),.lit (.int .u16 0),.vec ord.length (bytesL ord)]) by rw [hH1];exact get_ext0 ..)
 have n1 : H1.next=H.next+1:=by rw [hH1];rfl
 have o1 : Over H H1:=by rw [hH1];exact .ext _ _
 rw [← hH1]
 refine W.loop0 134217720 (by rfl) (fun ρ H'=>∃ k : Nat,ρ 4=lin k∧k≤n∧Over H1 H'∧OwnG H1.next H' 3 (ρ 3) (ints (List.replicate k 1))) (fun ρ H=>n - (iv (ρ 4)).toNat) ?_ ?_
 ·simp only [go_sem,Nat.reduceEqDiff,appendA_U]
  exact ⟨0,rfl,by omega,.refl _,.nil⟩
 rintro ρ H' ⟨k,h4,hk,ov,h3⟩
 refine W.env fun E hE=>?_
 have e1 : E 1=.ptr H.next 0 0:=by rw [hE];simp only [go_sem,Nat.reduceEqDiff,Nat.reducePow,Nat.reduceDiv,Nat.reduceMod,reduceCtorEq,appendA_U]
 have e3 : E 3=ρ 3:=by rw [hE];simp only [go_sem,Nat.reduceEqDiff,Nat.reducePow,Nat.reduceDiv,Nat.reduceMod,appendA_U]
 have e4 : E 4=lin k:=by rw [hE];simp only [go_sem,Nat.reduceEqDiff,Nat.reducePow,Nat.reduceDiv,Nat.reduceMod,h4,appendA_U]
 clear hE
 refine vc_sound _ _ _ (by rfl) ?_
 have l2:=(ov.live (g:=0) (by omega : H.next<H1.next)).trans l1
 by_cases hb : (k : Int)<n
 ·have h5 : (k : Int)<5:=by omega
  have hg : (bytesL (List.replicate n 0))[k]?=some (.lit (.int .u8 0)):=bytesL_get (by rw [List.getElem?_replicate,if_pos (by omega)])
  have hne:=ne_of_get hg
  obtain ⟨v',H2,hA,ov2,hO,hn2,_⟩:=app_int 1 ov h3 (by simp;omega)
  have w1:=IntWalk.i64_in ((k : Int)+1) (by omega)
  have hk0 : (k : Int) ≥ 0:=by omega
  have w5 : IntKind.i64.wrap (1+IntKind.i64.wrap (Int.tmod 0 4))=1:=by decide
  simp only [go_sem,Int.reduceEq,Nat.reduceEqDiff,Nat.reducePow,Nat.reduceDiv,Nat.reduceMod,Nat.reduceLeDiff,e1,e3,e4,l2,hb,h5,hk0,hg,hne,w1,w5,hA]
  refine ⟨by have:=ov2.next;omega,⟨k+1,rfl,by omega,ov2,?_⟩,by rw [h4];simp only [lin,iv_int];omega⟩
  rw [List.replicate_succ']
  exact hO
 ·simp only [go_sem,Nat.reduceEqDiff,Nat.reducePow,Nat.reduceDiv,Nat.reduceMod,e1,e3,e4,l2,hb,guardA_undef,appendA_U]
  obtain rfl : k=n:=by omega
  exact FinV.dropO G0_ok hcl (o1.trans ov) (h3.fzI fun i hi=>by omega) hK

/-- A permutation of the numbers below n. -/
structure IsPerm (n : Nat) (p : List Int) : Prop where
 len : p.length=n
 nd : p.Nodup
 rng : ∀ x∈p,0≤x∧x<n
theorem isPerm_ins {n : Nat} {p : List Int} (h : IsPerm n p) (at' : Nat) (ha : at'≤n) : IsPerm (n+1) (p.take at'++(n : Int) :: p.drop at'):=by
 have hperm : (p.take at'++(n : Int) :: p.drop at').Perm ((n : Int) :: p):=by
  have:=List.perm_middle (a:=(n : Int)) (l₁:=p.take at') (l₂:=p.drop at')
  rwa [List.take_append_drop] at this
 refine ⟨by rw [hperm.length_eq];simp [h.len],(hperm.nodup_iff).2 (List.nodup_cons.2 ⟨fun hm=>?_,h.nd⟩),fun x hx=>?_⟩
 ·have:=h.rng _ hm;omega
 ·rcases List.mem_cons.1 (hperm.mem_iff.1 hx) with rfl|h2
  ·omega
  ·have:=h.rng x h2;omega

def permAt (ord : List Int) (k : Nat) : Nat:=if k<ord.length then (ord.getD k 0 % ((k : Int)+1)).toNat else 0
/-- A drafted permutation. -/
def permF (ord : List Int) : Nat→List Int
 | 0=>[]
 | k+1=>(permF ord k).take (permAt ord k)++(k : Int) :: (permF ord k).drop (permAt ord k)
theorem permAt_le (ord : List Int) (k : Nat) : permAt ord k≤k:=by
 unfold permAt
 split
 ·have:=Int.emod_lt_of_pos (ord.getD k 0) (show 0<(k : Int)+1 by omega)
  omega
 ·omega
theorem permF_ok (ord : List Int) : ∀ n : Nat,IsPerm n (permF ord n)
 | 0=>⟨rfl,by simp [permF],by simp [permF]⟩
 | n+1=>isPerm_ins (permF_ok ord n) _ (permAt_le ord n)
set_option maxHeartbeats 1000000 in
theorem perm_spec (n : Nat) (hn : n≤5) (ord : List Int) (hol : (ord.length : Int)<2 ^ 63) (ho8 : ∀ x∈ord,U8 x) (H : AHeap) (K : ARes→AHeap→Prop) (hK : ∀ v H',Over H H'→OwnG H.next H' 3 v (ints (permF ord n))→K (.ret v) H') :
  ACall Try.prog G0 83 [.agg [.vec n (bytesL (List.replicate n 0)),.lit (.int .u16 0),.vec ord.length (bytesL ord)]] H K:=by
 refine ACall.clo ⟨_,Try.func83,rfl,rfl⟩ fun hcl=>?_
 refine ACall.of_body (n:=42) (rs:=[.tmp 2]) Try.func83 rfl rfl rfl (by decide) (by kernel_rfl) (by simp) ?_
 simp only [go_sem,appendA_U]
 obtain ⟨H1,hH1⟩ : ∃ H1,H1=ext H [.arr 0 139 [.vec n (bytesL (List.replicate n 0)),.lit (.int .u16 0),.vec ord.length (bytesL ord)]]:=⟨_,rfl⟩
 have l1:=get_live (show H1.get H.next=some (.arr 0 139 [.vec n (bytesL (List.replicate n 0)),.lit (.int .u16 0),.vec ord.length (bytesL ord)]) by rw [hH1];exact get_ext0 ..)
 have n1 : H1.next=H.next+1:=by rw [hH1];rfl
 have o1 : Over H H1:=by rw [hH1];exact .ext _ _
 rw [← hH1]
 refine W.loop0 2199023255544 (by rfl) (fun ρ H'=>∃ (k : Nat) (p : List Int),ρ 4=lin k∧k≤n∧p=permF ord k∧Over H1 H'∧OwnG H1.next H' 3 (ρ 3) (ints p)) (fun ρ H=>n - (iv (ρ 4)).toNat) ?_ ?_
 ·simp only [go_sem,Nat.reduceEqDiff,appendA_U]
  exact ⟨0,[],rfl,by omega,rfl,.refl _,.nil⟩
 rintro ρ H' ⟨k,p,h4,hk,hpe,ov,h3⟩
 have hp : IsPerm k p:=by rw [hpe];exact permF_ok ord k
 refine W.env fun E hE=>?_
 have e1 : E 1=.ptr H.next 0 0:=by rw [hE];simp only [go_sem,Nat.reduceEqDiff,Nat.reducePow,Nat.reduceDiv,Nat.reduceMod,reduceCtorEq,appendA_U]
 have e3 : E 3=ρ 3:=by rw [hE];simp only [go_sem,Nat.reduceEqDiff,Nat.reducePow,Nat.reduceDiv,Nat.reduceMod,appendA_U]
 have e4 : E 4=lin k:=by rw [hE];simp only [go_sem,Nat.reduceEqDiff,Nat.reducePow,Nat.reduceDiv,Nat.reduceMod,h4,appendA_U]
 clear hE
 refine vc_sound _ _ _ (by rfl) ?_
 have l2:=(ov.live (g:=0) (by omega : H.next<H1.next)).trans l1
 simp only [go_sem,Nat.reduceEqDiff,Nat.reducePow,Nat.reduceDiv,Nat.reduceMod,Nat.reduceAdd,e1,l2,appendA_U]
 refine AApply.clo (cardsD_spec n hn ord _ _ ⟨trivial,?_⟩)
 by_cases hb : (k : Int)<n
 rotate_left
 ·simp only [go_sem,Nat.reduceEqDiff,List.length_replicate,e1,e3,e4,l2,hb,appendA_U]
  obtain rfl : k=n:=by omega
  exact FinV.mk (o1.trans ov).next (hK _ _ (o1.trans ov) (by rw [← hpe];exact h3.keep (by omega) (Nat.le_refl _) fun _ _ _ _ _ _=>rfl))
  -- the place
 rcases h3 with ⟨h3n,hpn⟩|⟨oi,og,hoi1,hoi2,h3o,hog⟩
 ·have p0 : p=[]:=by cases p with
   | nil=>rfl
   | cons a l=>simp [ints] at hpn
  have pl:=hp.len
  rw [p0] at pl
  obtain rfl : k=0:=by simpa using pl.symm
  rw [h3n] at e3
  have e4' : E 4=lin 0:=e4
  have hb' : (0 : Int)<n:=hb
  by_cases ho : (0 : Int)<ord.length
  ·obtain ⟨b,hbg⟩:=get_of_lt (l:=ord) (i:=0) (by omega)
   have b8:=ho8 b (List.mem_of_getElem? hbg)
   have hbg':=bytesL_get hbg
   have hbne:=ne_of_get hbg'
   have w2 : IntKind.i64.wrap b=b:=IntWalk.i64_in b (by have:=b8.1;have:=b8.2;omega)
   have w1 : IntKind.i64.wrap 1=1:=by decide
   have m1 : b.tmod 1=0:=by simp
   obtain ⟨v2,Hb,hA2,ovB,hO2,hn2,hp2⟩:=app_int (H:=H') (H':=H') (l:=[]) (v:=.lit (.slice none 0 0)) (0 : Int) (.refl _) OwnG.nil (by simp)
   obtain ⟨v3,Hc,hA3,hO3,hn3,hp3⟩:=app_srcG (P:=Try.prog) (H:=Hb) (t:=59) (n:=Hb.next) (m:=0) (v:=v2) (x:=.lit (.slice none 0 0)) (src:=[]) Try.underlying59 Try.cells3 Try.zero3 rfl rfl rfl (by rw [Try.bytes3];exact ⟨by decide,by decide⟩) hO2 ovB.next rfl
   have ovC : Over H' Hc:=over_app ovB hO2 hn3 hp3
   have hA1 : appendA Try.prog H' H'.next 59 59 (.lit (.slice none 0 0)) (.lit (.slice none 0 0))=some (.lit (.slice none 0 0),H'):=by
    unfold appendA;rw [Try.underlying59]
    simp only [Try.zero3,Try.cells3,Option.bind_some,sourceA_nil,if_true]
   have hO3' : OwnG H1.next Hc 3 v3 (ints [0]):=by
    rw [List.append_nil] at hO3
    exact hO3.keep ov.next (Nat.le_refl _) fun _ _ _ _ _ _=>rfl
   simp only [go_sem,Int.reduceToNat,Int.reduceAdd,Int.reduceEq,Nat.reduceEqDiff,Nat.reducePow,Nat.reduceLeDiff,List.length_replicate,e1,e3,e4',l2,hb',ho,hbg',hbne,w1,w2,m1,hA1,hA2,hA3]
   refine ⟨by have:=ovC.next;have:=ov.next;omega,⟨1,[0],rfl,by omega,by simp [permF],ov.trans ovC,hO3'⟩,by rw [h4];simp only [lin,iv_int];omega⟩
  ·have w1 : IntKind.i64.wrap 1=1:=by decide
   obtain ⟨v2,Hb,hA2,ovB,hO2,hn2,hp2⟩:=app_int (H:=H') (H':=H') (l:=[]) (v:=.lit (.slice none 0 0)) (0 : Int) (.refl _) OwnG.nil (by simp)
   obtain ⟨v3,Hc,hA3,hO3,hn3,hp3⟩:=app_srcG (P:=Try.prog) (H:=Hb) (t:=59) (n:=Hb.next) (m:=0) (v:=v2) (x:=.lit (.slice none 0 0)) (src:=[]) Try.underlying59 Try.cells3 Try.zero3 rfl rfl rfl (by rw [Try.bytes3];exact ⟨by decide,by decide⟩) hO2 ovB.next rfl
   have ovC : Over H' Hc:=over_app ovB hO2 hn3 hp3
   have hA1 : appendA Try.prog H' H'.next 59 59 (.lit (.slice none 0 0)) (.lit (.slice none 0 0))=some (.lit (.slice none 0 0),H'):=by
    unfold appendA;rw [Try.underlying59]
    simp only [Try.zero3,Try.cells3,Option.bind_some,sourceA_nil,if_true]
   have hO3' : OwnG H1.next Hc 3 v3 (ints [0]):=by
    rw [List.append_nil] at hO3
    exact hO3.keep ov.next (Nat.le_refl _) fun _ _ _ _ _ _=>rfl
   simp only [go_sem,Int.reduceToNat,Int.reduceAdd,Nat.reduceEqDiff,Nat.reducePow,Nat.reduceLeDiff,List.length_replicate,e1,e3,e4',l2,hb',ho,w1,hA1,hA2,hA3]
   refine ⟨by have:=ovC.next;have:=ov.next;omega,⟨1,[0],rfl,by omega,by simp [permF],ov.trans ovC,hO3'⟩,by rw [h4];simp only [lin,iv_int];omega⟩
 rw [h3o] at e3
 have lo:=get_live hog
 by_cases ho : (k : Int)<ord.length
 ·obtain ⟨b,hbg⟩:=get_of_lt (l:=ord) (i:=k) (by omega)
  have b8:=ho8 b (List.mem_of_getElem? hbg)
  have hbg':=bytesL_get hbg
  have hbne:=ne_of_get hbg'
  have w0:=IntWalk.i64_in ((k : Int)+1) (by omega)
  have w1:=w0
  have w2 : IntKind.i64.wrap b=b:=IntWalk.i64_in b (by have:=b8.1;have:=b8.2;omega)
  have m1 : b.tmod ((k : Int)+1)=b % ((k : Int)+1):=Int.tmod_eq_emod_of_nonneg b8.1
  have m2:=Int.emod_nonneg b (show (k : Int)+1≠0 by omega)
  have m3:=Int.emod_lt_of_pos b (show 0<(k : Int)+1 by omega)
  have hz : ¬ (k : Int)+1=0:=by omega
  obtain ⟨a,hat⟩:=Int.eq_ofNat_of_zero_le m2
  have ha : a≤k:=by omega
  have hac : (0 : Int)≤(a : Int):=by omega
  have hap : (a : Int)≤(p.length : Int):=by rw [hp.len];omega
  have hak : (0 : Int)≤(a : Int)∧(a : Int)≤(p.length : Int):=⟨hac,hap⟩
  have pl : p.length=k:=hp.len
  obtain ⟨v1,Ha,hA1,hO1,hn1,hp1⟩:=app_srcG (P:=Try.prog) (H:=H') (t:=59) (n:=H'.next) (m:=a) (v:=.lit (.slice none 0 0)) (x:=.own oi og 0 a 1) (src:=(ints p).take a) Try.underlying59 Try.cells3 Try.zero3
   (by rw [sourceA_own,if_pos rfl,lo];simp) (by simp [ints_length]<;>omega) (List.all_eq_true.2 fun c hc=>by
    obtain ⟨z,_,rfl⟩:=List.mem_map.1 (List.mem_of_mem_take hc);rfl) (by rw [Try.bytes3];simp<;>omega) OwnG.nil (Nat.le_refl _) rfl
  have ovA : Over H' Ha:=⟨hn1,fun id hi=>hp1 id hi fun g n h=>by cases h⟩
  rw [List.nil_append,ints_take] at hO1
  obtain ⟨v2,Hb,hA2,ovB,hO2,hn2,hp2⟩:=app_int (k : Int) ovA hO1 (by simp<;>omega)
  have hcl2 : (ints (p.take a++[(k : Int)])).length≤k+1:=by rw [ints_length,List.length_append,List.length_take];simp<;>omega
  have hlb : Hb.live oi og=some (3,ints p):=(ovB.live hoi2).trans lo
  obtain ⟨v3,Hc,hA3,hO3,hn3,hp3⟩:=app_srcG (P:=Try.prog) (H:=Hb) (t:=59) (n:=Hb.next) (m:=p.length - a) (v:=v2) (x:=.own oi og a (p.length - a) 1) (src:=(ints p).drop a) Try.underlying59 Try.cells3 Try.zero3
   (by rw [sourceA_own,if_pos rfl,hlb];simp [List.take_of_length_le,ints_length]) (by simp [ints_length]) (List.all_eq_true.2 fun c hc=>by
    obtain ⟨z,_,rfl⟩:=List.mem_map.1 (List.mem_of_mem_drop hc);rfl) (by rw [Try.bytes3];omega) hO2 ovB.next rfl
  have ovC : Over H' Hc:=over_app ovB hO2 hn3 hp3
  have hla : Ha.live oi og=some (3,ints p):=(ovA.live hoi2).trans lo
  rw [ints_drop] at hO3
  have hO3' : OwnG H1.next Hc 3 v3 (ints (p.take a++(k : Int) :: p.drop a)):=by
   have : ints (p.take a++[(k : Int)])++ints (p.drop a)=ints (p.take a++(k : Int) :: p.drop a):=by simp [ints]
   rw [this] at hO3
   exact hO3.keep ov.next (Nat.le_refl _) fun _ _ _ _ _ _=>rfl
  simp only [go_sem,Nat.reduceEqDiff,Nat.reducePow,Nat.reduceLeDiff,List.length_replicate,e1,e3,e4,l2,hb,ho,hbg',hbne,w0,w1,w2,m1,hz,hat,hac,hap,hak,Int.toNat_natCast,lo,hlb,hA1,hA2,hA3]
  refine ⟨by have:=ovC.next;omega,⟨k+1,_,rfl,by omega,by rw [permF,← hpe,show permAt ord k=a by unfold permAt;rw [if_pos (by omega),getD_of_get hbg,hat];rfl],ov.trans ovC,hO3'⟩,by rw [h4];simp only [lin,iv_int];omega⟩
 ·have w0:=IntWalk.i64_in ((k : Int)+1) (by omega)
  have pl : p.length=k:=hp.len
  obtain ⟨v1,Ha,hA1,hO1,hn1,hp1⟩:=app_srcG (P:=Try.prog) (H:=H') (t:=59) (n:=H'.next) (m:=0) (v:=.lit (.slice none 0 0)) (x:=.own oi og 0 0 1) (src:=(ints p).take 0) Try.underlying59 Try.cells3 Try.zero3
   (by rw [sourceA_own,if_pos rfl,lo];simp) (by simp [ints_length]<;>omega) (List.all_eq_true.2 fun c hc=>by
    obtain ⟨z,_,rfl⟩:=List.mem_map.1 (List.mem_of_mem_take hc);rfl) (by rw [Try.bytes3];simp<;>omega) OwnG.nil (Nat.le_refl _) rfl
  have ovA : Over H' Ha:=⟨hn1,fun id hi=>hp1 id hi fun g n h=>by cases h⟩
  rw [List.nil_append,ints_take] at hO1
  obtain ⟨v2,Hb,hA2,ovB,hO2,hn2,hp2⟩:=app_int (k : Int) ovA hO1 (by simp<;>omega)
  have hcl2 : (ints (p.take 0++[(k : Int)])).length≤k+1:=by rw [ints_length,List.length_append,List.length_take];simp<;>omega
  have hlb : Hb.live oi og=some (3,ints p):=(ovB.live hoi2).trans lo
  obtain ⟨v3,Hc,hA3,hO3,hn3,hp3⟩:=app_srcG (P:=Try.prog) (H:=Hb) (t:=59) (n:=Hb.next) (m:=p.length) (v:=v2) (x:=.own oi og 0 (p.length) 1) (src:=(ints p).drop 0) Try.underlying59 Try.cells3 Try.zero3
   (by rw [sourceA_own,if_pos rfl,hlb];simp [List.take_of_length_le,ints_length]) (by simp [ints_length]) (List.all_eq_true.2 fun c hc=>by
    obtain ⟨z,_,rfl⟩:=List.mem_map.1 (List.mem_of_mem_drop hc);rfl) (by rw [Try.bytes3];omega) hO2 ovB.next rfl
  have ovC : Over H' Hc:=over_app ovB hO2 hn3 hp3
  have hla : Ha.live oi og=some (3,ints p):=(ovA.live hoi2).trans lo
  rw [ints_drop] at hO3
  have hO3' : OwnG H1.next Hc 3 v3 (ints (p.take 0++(k : Int) :: p.drop 0)):=by
   have : ints (p.take 0++[(k : Int)])++ints (p.drop 0)=ints (p.take 0++(k : Int) :: p.drop 0):=by simp [ints]
   rw [this] at hO3
   exact hO3.keep ov.next (Nat.le_refl _) fun _ _ _ _ _ _=>rfl
  simp only [go_sem,Int.reduceToNat,Nat.reduceEqDiff,Nat.reducePow,Nat.reduceLeDiff,List.length_replicate,e1,e3,e4,l2,hb,ho,w0,lo,hlb,hA1,hA2,hA3]
  refine ⟨by have:=ovC.next;omega,⟨k+1,_,rfl,by omega,by rw [permF,← hpe,show permAt ord k=0 by unfold permAt;rw [if_neg (by omega)]],ov.trans ovC,hO3'⟩,by rw [h4];simp only [lin,iv_int];omega⟩
end Go.Proofs
set_option linter.unusedSimpArgs false
set_option maxRecDepth 100000
namespace Go.Proofs
open Go.Hx
theorem sum_nonneg {l : List Int} (h : ∀ x∈l,0≤x) : 0≤l.sum:=by
 induction l with
 | nil=>simp
 | cons a l ih =>
  rw [List.sum_cons]
  have:=h a (by simp)
  have:=ih fun x hx=>h x (by simp [hx])
  omega
theorem sum_set {l : List Int} {i : Nat} {a b : Int} (h : l[i]?=some a) : (l.set i b).sum=l.sum - a+b:=by
 induction l generalizing i with
 | nil=>simp at h
 | cons x l ih =>
  cases i with
  | zero=>simp at h;subst h;simp only [List.set_cons_zero,List.sum_cons];omega
  | succ i =>
   simp only [List.set_cons_succ,List.sum_cons]
   rw [ih (by simpa using h)];omega
theorem sum_bound {l : List Int} {b : Int} (h : ∀ x∈l,0≤x∧x≤b) : l.sum≤b*l.length:=by
 induction l with
 | nil=>simp
 | cons a l ih =>
  rw [List.sum_cons,List.length_cons]
  have:=(h a (by simp)).2
  have:=ih fun x hx=>h x (by simp [hx])
  rw [show b*((l.length+1 : Nat) : Int)=b*l.length+b by rw [Int.natCast_add,Int.mul_add];simp]
  omega

/-- The numbers a row is drafted from. -/
def wF (n : Nat) (bs : List Int) (from' : Int) : List Int:=(List.range n).map fun (k : Nat)=>if bs.length=0 then 0 else bs.getD ((from'+(k : Int)) % (bs.length : Int)).toNat 0 % 8
theorem wF_len (n : Nat) (bs : List Int) (from' : Int) : (wF n bs from').length=n:=by simp [wF]
theorem wF_get {n : Nat} (bs : List Int) (from' : Int) {k : Nat} (h : k<n) : (wF n bs from')[k]?=some (if bs.length=0 then 0 else bs.getD ((from'+(k : Int)) % (bs.length : Int)).toNat 0 % 8):=by
 unfold wF;rw [List.getElem?_map,List.getElem?_range h];rfl
theorem wF_rng (n : Nat) (bs : List Int) (from' : Int) : ∀ x∈wF n bs from',0≤x∧x≤7:=fun x hx=>by
 unfold wF at hx
 obtain ⟨k,_,rfl⟩:=List.mem_map.1 hx
 split<;>omega
def rstep (g s : Int) (st : List Int × Nat) (m : Nat) : List Int × Nat:=if 0<st.1.getD m 0 then (st.1.set m (g*st.1.getD m 0 / s),m) else st
def rfold (g : Int) (c : List Int) (m : Nat) : List Int × Nat:=(List.range m).foldl (rstep g c.sum) (c,0)
theorem rfold_succ (g : Int) (c : List Int) (m : Nat) : rfold g c (m+1)=rstep g c.sum (rfold g c m) m:=by unfold rfold;rw [List.range_succ,List.foldl_append];rfl
/-- A drafted row. -/
def rowF (g : Int) (n : Nat) (bs : List Int) (from' : Int) : List Int:=(rfold g (wF n bs from') n).1.set (rfold g (wF n bs from') n).2 ((rfold g (wF n bs from') n).1.getD (rfold g (wF n bs from') n).2 0+(g - (rfold g (wF n bs from') n).1.sum))
structure RInv (g : Int) (c : List Int) (m : Nat) (d : List Int) (last : Nat) : Prop where
 dl : d.length=c.length
 d0 : ∀ x∈d,0≤x
 dd : d.drop m=c.drop m
 dg : (d.take m).sum≤g
 ds : c.sum*(d.take m).sum≤g*(c.take m).sum
 la : last<c.length
theorem rinv {g : Int} {c : List Int} (hg : 1≤g) (hc : ∀ x∈c,0≤x) (hl : 0<c.length) : ∀ m,m≤c.length→RInv g c m (rfold g c m).1 (rfold g c m).2:=by
 intro m
 induction m with
 | zero=>intro _;exact ⟨rfl,hc,rfl,by simp;omega,by simp,hl⟩
 | succ m ih =>
  intro hm
  obtain ⟨hdl,hd0,hdd,hdg,hds,hla⟩:=ih (by omega)
  rw [rfold_succ]
  generalize rfold g c m=st at *
  obtain ⟨d,last⟩:=st
  simp only at hdl hd0 hdd hdg hds hla
  obtain ⟨x,hcx⟩:=get_of_lt (l:=c) (i:=m) (by omega)
  have hx0:=hc x (List.mem_of_getElem? hcx)
  have hdx : d[m]?=some x:=by
   have h1 : (d.drop m)[0]?=d[m]?:=by rw [List.getElem?_drop];rfl
   have h2 : (c.drop m)[0]?=c[m]?:=by rw [List.getElem?_drop];rfl
   rw [← h1,hdd,h2,hcx]
  have hdd' : d.drop (m+1)=c.drop (m+1):=by
   have:=congrArg (List.drop 1) hdd
   rwa [List.drop_drop,List.drop_drop] at this
  have hct : (c.take (m+1)).sum=(c.take m).sum+x:=by rw [take_succ_get hcx];simp
  have hcs : (c.take (m+1)).sum+(c.drop (m+1)).sum=c.sum:=by rw [← List.sum_append,List.take_append_drop]
  have hcd0:=sum_nonneg (l:=c.drop (m+1)) fun y hy=>hc y (List.mem_of_mem_drop hy)
  have hc00:=sum_nonneg (l:=c.take m) fun y hy=>hc y (List.mem_of_mem_take hy)
  have hd00:=sum_nonneg (l:=d.take m) fun y hy=>hd0 y (List.mem_of_mem_take hy)
  unfold rstep
  rw [getD_of_get hdx]
  by_cases hx : 0<x
  ·rw [if_pos hx]
   have gx : 0≤g*x:=Int.mul_nonneg (by omega) hx0
   have y0 : 0≤g*x / c.sum:=Int.ediv_nonneg gx (by omega)
   have y2 : c.sum*(g*x / c.sum)≤g*x:=Int.mul_ediv_self_le (by omega)
   have dt : ((d.set m (g*x / c.sum)).take (m+1)).sum=(d.take m).sum+g*x / c.sum:=by
    rw [take_succ_get (List.getElem?_set_self (by omega)),List.take_set_of_le (Nat.le_refl _)];simp
   have hs2 : c.sum*((d.take m).sum+g*x / c.sum)≤g*(c.take (m+1)).sum:=by
    rw [Int.mul_add,hct,Int.mul_add];omega
   have hle : (d.take m).sum+g*x / c.sum≤g:=by
    have h1 : g*(c.take (m+1)).sum≤g*c.sum:=Int.mul_le_mul_of_nonneg_left (by omega) (by omega)
    have h2 : c.sum*((d.take m).sum+g*x / c.sum)≤c.sum*g:=by rw [Int.mul_comm c.sum g];omega
    exact Int.le_of_mul_le_mul_left h2 (by omega)
   refine ⟨by simp [hdl],fun y hy=>?_,?_,by dsimp only;rw [dt];exact hle,by dsimp only;rw [dt];exact hs2,by dsimp only;omega⟩
   ·rcases List.mem_or_eq_of_mem_set hy with h|h
    ·exact hd0 y h
    ·omega
   ·rw [← hdd',List.drop_set_of_lt (by omega)]
  ·rw [if_neg hx]
   have x0 : x=0:=by omega
   have dt : (d.take (m+1)).sum=(d.take m).sum:=by rw [take_succ_get hdx,x0];simp
   rw [x0,Int.add_zero] at hct
   exact ⟨hdl,hd0,hdd',by dsimp only;rw [dt];exact hdg,by dsimp only;rw [dt,hct];exact hds,hla⟩
theorem rowF_ok {g : Int} {n : Nat} (hg : 1≤g) (hn : 1≤n) (bs : List Int) (from' : Int) : RowOk g n (rowF g n bs from'):=by
 have hw:=wF_len n bs from'
 have I:=rinv (g:=g) (c:=wF n bs from') hg (fun x hx=>(wF_rng n bs from' x hx).1) (by omega) n (by omega)
 unfold rowF
 generalize rfold g (wF n bs from') n=st at *
 obtain ⟨d,last⟩:=st
 obtain ⟨hdl,hd0,hdd,hdg,hds,hla⟩:=I
 dsimp only at hdl hd0 hdd hdg hds hla ⊢
 obtain ⟨y,hy⟩:=get_of_lt (l:=d) (i:=last) (by omega)
 have y0:=hd0 y (List.mem_of_getElem? hy)
 rw [getD_of_get hy]
 rw [List.take_of_length_le (by omega)] at hdg
 have hs : (d.set last (y+(g - d.sum))).sum=g:=by rw [sum_set hy];omega
 have h0 : ∀ w∈d.set last (y+(g - d.sum)),0≤w:=fun w hw=>by
  rcases List.mem_or_eq_of_mem_set hw with h|h
  ·exact hd0 w h
  ·omega
 exact ⟨by simp [hdl,hw],fun w hw=>⟨h0 w hw,by have:=mem_le_sum h0 w hw;omega⟩,hs⟩

set_option maxHeartbeats 2000000 in
theorem rowD_spec (g : Int) (n : Nat) (hg : 1≤g∧g≤60) (hn : 1≤n∧n≤4) (bs : List Int) (hbl : (bs.length : Int)<2 ^ 63) (hb8 : ∀ x∈bs,U8 x) (from' : Int) (hf : 0≤from'∧from'≤1000000) (H : AHeap) (K : ARes→AHeap→Prop) (hK : ∀ v H',Over H H'→OwnG H.next H' 3 v (ints (rowF g n bs from'))→K (.ret v) H') :
  ACall Try.prog G0 84 [lin g,lin n,.vec bs.length (bytesL bs),lin from'] H K:=by
 refine ACall.clo ⟨_,Try.func84,rfl,rfl⟩ fun hcl=>?_
 refine ACall.of_body (n:=84) (rs:=[.tmp 8]) Try.func84 rfl rfl rfl (by decide) (by kernel_rfl) (by simp) ?_
 simp only [go_sem,Nat.reduceEqDiff,appendA_U]
 refine ⟨by omega,?_⟩
 refine W.loop0 35184371960832 (by rfl) (fun ρ H'=>∃ (k : Nat) (c : List Int),ρ 11=lin k∧k≤n∧c.length=n∧(∀ x∈c,0≤x∧x≤7)∧(∀ j x,k≤j→c[j]?=some x→x=0)∧(∀ j,j<k→c[j]?=(wF n bs from')[j]?)∧ρ 10=lin c.sum∧OwnI H H' H.next c) (fun ρ H=>n - (iv (ρ 11)).toNat) ?_ ?_
 ·simp only [go_sem,Nat.reduceEqDiff,appendA_U]
  refine ⟨0,List.replicate n 0,rfl,by omega,by simp,fun x hx=>?_,fun j x _ hx=>?_,fun j hj=>by omega,by simp,?_⟩
  ·have:=List.eq_of_mem_replicate hx;omega
  ·exact List.eq_of_mem_replicate (List.mem_of_getElem? hx)
  ·exact .new [] _
 rintro ρ H' ⟨k,c,h11,hk,hcl',hc7,hc0,hcw,h10,ho⟩
 refine W.env fun E hE=>?_
 have e0 : E 0=lin g:=by rw [hE];simp only [go_sem,Nat.reducePow,Nat.reduceDiv,Nat.reduceMod,reduceCtorEq,appendA_U]
 have e1 : E 1=lin n:=by rw [hE];simp only [go_sem,Nat.reduceEqDiff,Nat.reducePow,Nat.reduceDiv,Nat.reduceMod,reduceCtorEq,appendA_U]
 have e2 : E 2=.vec bs.length (bytesL bs):=by rw [hE];simp only [go_sem,Nat.reduceEqDiff,Nat.reducePow,Nat.reduceDiv,Nat.reduceMod,reduceCtorEq,appendA_U]
 have e3 : E 3=lin from':=by rw [hE];simp only [go_sem,Nat.reduceEqDiff,Nat.reducePow,Nat.reduceDiv,Nat.reduceMod,reduceCtorEq,appendA_U]
 have e9 : E 9=.own H.next 0 0 n 1:=by rw [hE];simp only [go_sem,Nat.reduceEqDiff,Nat.reducePow,Nat.reduceDiv,Nat.reduceMod,reduceCtorEq,appendA_U]
 have e10 : E 10=lin c.sum:=by rw [hE];simp only [go_sem,Nat.reduceEqDiff,Nat.reducePow,Nat.reduceDiv,Nat.reduceMod,h10,appendA_U]
 have e11 : E 11=lin k:=by rw [hE];simp only [go_sem,Nat.reduceEqDiff,Nat.reducePow,Nat.reduceDiv,Nat.reduceMod,h11,appendA_U]
 clear hE
 refine vc_sound _ _ _ (by rfl) ?_
 have lN:=ho.live
 have hs0:=sum_nonneg fun x hx=>(hc7 x hx).1
 have hs1:=sum_bound hc7
 by_cases hb : (k : Int)<n
 ·have hck : c[k]?=some 0:=by
   obtain ⟨a,ha⟩:=get_of_lt (l:=c) (i:=k) (by omega)
   rw [ha,hc0 k a (Nat.le_refl _) ha]
  have hcne:=ne_of_get hck
  have hk0 : (k : Int) ≥ 0:=by omega
  have w1:=IntWalk.i64_in ((k : Int)+1) (by omega)
  by_cases hz : (0 : Int)<bs.length
  ·have hzn : ¬ (bs.length : Int)=0:=by omega
   have w2:=IntWalk.i64_in (from'+k) (by omega)
   have m1 : (from'+(k : Int)).tmod bs.length=(from'+k) % bs.length:=Int.tmod_eq_emod_of_nonneg (by omega)
   have m2:=Int.emod_nonneg (from'+k) hzn
   have m3:=Int.emod_lt_of_pos (from'+k) hz
   obtain ⟨q,hq⟩:=Int.eq_ofNat_of_zero_le m2
   have hq0 : (q : Int) ≥ 0:=by omega
   have hql : (q : Int)<bs.length:=by omega
   obtain ⟨b,hbg⟩:=get_of_lt (l:=bs) (i:=q) (by omega)
   have b8:=hb8 b (List.mem_of_getElem? hbg)
   have hbg':=bytesL_get hbg
   have hbne:=ne_of_get hbg'
   have t1 : b.tmod 8=b % 8:=Int.tmod_eq_emod_of_nonneg b8.1
   have w3 : IntKind.u8.wrap (b % 8)=b % 8:=IntWalk.u8_in _ (by omega)
   have w4 : IntKind.i64.wrap (b % 8)=b % 8:=IntWalk.i64_in _ (by omega)
   have w5:=IntWalk.i64_in (c.sum+b % 8) (by omega)
   have hsg : (setAt (ints c) k [.lit (.int .i64 (b % 8))])[k]?=some (.lit (.int .i64 (b % 8))):=by
    rw [setAt_ints (by omega),ints_get,List.getElem?_set_self (by omega)];rfl
   simp only [go_sem,Int.reduceEq,Nat.reduceEqDiff,Nat.reducePow,Nat.reduceDiv,Nat.reduceMod,hsg,e1,e2,e3,e9,e10,e11,hb,hz,hzn,w1,w2,m1,hq,hq0,hql,hbg',hbne,t1,w3,w4,w5,hk0,hck,hcne,lN,appendA_U]
   refine ⟨by omega,by have:=ho.hi;rw [upd_next];omega,⟨k+1,c.set k (b % 8),rfl,by omega,by simp [hcl'],fun x hx=>?_,fun j x hj hx=>?_,fun j hj=>?_,by rw [sum_set hck,Int.sub_zero],ho.store (by omega) _⟩,by rw [h11];simp only [lin,iv_int];omega⟩
   ·rcases List.mem_or_eq_of_mem_set hx with h|h
    ·exact hc7 x h
    ·omega
   ·rw [List.getElem?_set_ne (by omega)] at hx
    exact hc0 j x (by omega) hx
   ·by_cases hjk : j=k
    ·subst hjk
     rw [List.getElem?_set_self (by omega),wF_get bs from' (by omega),if_neg (by omega),hq,Int.toNat_natCast,getD_of_get hbg]
    ·rw [List.getElem?_set_ne (by omega)]
     exact hcw j (by omega)
  ·have w5:=IntWalk.i64_in (c.sum+0) (by omega)
   rw [Int.add_zero] at w5
   simp only [go_sem,Nat.reduceEqDiff,Nat.reducePow,Nat.reduceDiv,Nat.reduceMod,e1,e2,e3,e9,e10,e11,hb,hz,w1,w5,Int.add_zero,hk0,hck,hcne,lN,appendA_U]
   refine ⟨by have:=ho.hi;omega,⟨k+1,c,rfl,by omega,hcl',hc7,fun j x hj hx=>hc0 j x (by omega) hx,fun j hj=>by
    by_cases hjk : j=k
    ·subst hjk
     rw [hck,wF_get bs from' (by omega),if_pos (by omega)]
    ·exact hcw j (by omega),rfl,ho⟩,by rw [h11];simp only [lin,iv_int];omega⟩
 ·obtain rfl : k=n:=by omega
  simp only [go_sem,Nat.reduceEqDiff,Nat.reducePow,Nat.reduceDiv,Nat.reduceMod,reduceCtorEq,e1,e11,hb,appendA_U]
  have hcwF : c=wF k bs from':=by
   apply List.ext_getElem?
   intro j
   rcases Nat.lt_or_ge j k with h|h
   ·exact hcw j h
   ·rw [List.getElem?_eq_none (by omega),List.getElem?_eq_none (by rw [wF_len];exact h)]
  have hRI:=fun m (hm : m≤k)=>rinv (g:=g) (c:=c) hg.1 (fun x hx=>(hc7 x hx).1) (by omega) m (by omega)
  refine W.loop0 18889465861109836705792 (by rfl) (fun ρ H2=>∃ (m last : Nat) (d : List Int),ρ 14=lin m∧m≤k∧rfold g c m=(d,last)∧ρ 12=lin (g - (d.take m).sum)∧ρ 13=lin last∧H'.next≤H2.next∧OwnI H H2 H.next d) (fun ρ H=>k - (iv (ρ 14)).toNat) ?_ ?_
  ·simp only [go_sem,Nat.reduceEqDiff,e0,appendA_U]
   exact ⟨0,0,c,rfl,by omega,rfl,by simp,rfl,ho⟩
  rintro ρ2 H2 ⟨m,last,d,h14,hm,hrf,h12,h13,hnn,hod⟩
  obtain ⟨hdl,hd0,hdd,hdg,hds,hlast⟩ : RInv g c m d last:=by have:=hRI m hm;rw [hrf] at this;exact this
  rw [hcl'] at hdl hlast
  have hrs:=rfold_succ g c m
  rw [hrf] at hrs
  unfold rstep at hrs
  dsimp only at hrs
  refine W.env fun E2 hE2=>?_
  have f0 : E2 0=lin g:=by rw [hE2];simp only [go_sem,Nat.reducePow,Nat.reduceDiv,Nat.reduceMod,reduceCtorEq,e0,appendA_U]
  have f1 : E2 1=lin k:=by rw [hE2];simp only [go_sem,Nat.reduceEqDiff,Nat.reducePow,Nat.reduceDiv,Nat.reduceMod,reduceCtorEq,e1,appendA_U]
  have f9 : E2 9=.own H.next 0 0 k 1:=by rw [hE2];simp only [go_sem,Nat.reduceEqDiff,Nat.reducePow,Nat.reduceDiv,Nat.reduceMod,reduceCtorEq,e9,appendA_U]
  have f10 : E2 10=lin c.sum:=by rw [hE2];simp only [go_sem,Nat.reduceEqDiff,Nat.reducePow,Nat.reduceDiv,Nat.reduceMod,reduceCtorEq,e10,appendA_U]
  have f12 : E2 12=lin (g - (d.take m).sum):=by rw [hE2];simp only [go_sem,Nat.reduceEqDiff,Nat.reducePow,Nat.reduceDiv,Nat.reduceMod,h12,appendA_U]
  have f13 : E2 13=lin last:=by rw [hE2];simp only [go_sem,Nat.reduceEqDiff,Nat.reducePow,Nat.reduceDiv,Nat.reduceMod,h13,appendA_U]
  have f14 : E2 14=lin m:=by rw [hE2];simp only [go_sem,Nat.reduceEqDiff,Nat.reducePow,Nat.reduceDiv,Nat.reduceMod,h14,appendA_U]
  clear hE2
  refine vc_sound _ _ _ (by rfl) ?_
  have lN2:=hod.live
  by_cases hb2 : (m : Int)<k
  ·obtain ⟨x,hcx⟩:=get_of_lt (l:=c) (i:=m) (by omega)
   have hx7:=hc7 x (List.mem_of_getElem? hcx)
   have hdx : d[m]?=some x:=by
    have h1 : (d.drop m)[0]?=d[m]?:=by rw [List.getElem?_drop];rfl
    have h2 : (c.drop m)[0]?=c[m]?:=by rw [List.getElem?_drop];rfl
    rw [← h1,hdd,h2,hcx]
   have hdne:=ne_of_get hdx
   have hm0 : (m : Int) ≥ 0:=by omega
   have w1:=IntWalk.i64_in ((m : Int)+1) (by omega)
   have hdd' : d.drop (m+1)=c.drop (m+1):=by
    have:=congrArg (List.drop 1) hdd
    rwa [List.drop_drop,List.drop_drop] at this
   have hct : (c.take (m+1)).sum=(c.take m).sum+x:=by rw [take_succ_get hcx];simp
   have hcs : (c.take (m+1)).sum+(c.drop (m+1)).sum=c.sum:=by rw [← List.sum_append,List.take_append_drop]
   have hcd0:=sum_nonneg (l:=c.drop (m+1)) fun y hy=>(hc7 y (List.mem_of_mem_drop hy)).1
   have hc00:=sum_nonneg (l:=c.take m) fun y hy=>(hc7 y (List.mem_of_mem_take hy)).1
   have hd00:=sum_nonneg (l:=d.take m) fun y hy=>hd0 y (List.mem_of_mem_take hy)
   by_cases hx : 0<x
   ·have hsz : ¬ c.sum=0:=by omega
    have gx : 0≤g*x:=Int.mul_nonneg (by omega) hx7.1
    have gx2 : g*x≤60*7:=Int.mul_le_mul hg.2 hx7.2 hx7.1 (by omega)
    have w2:=IntWalk.i64_in (g*x) (by omega)
    have t1 : (g*x).tdiv c.sum=g*x / c.sum:=Int.tdiv_eq_ediv_of_nonneg gx
    have y0 : 0≤g*x / c.sum:=Int.ediv_nonneg gx hs0
    have y1 : g*x / c.sum≤g*x:=Int.ediv_le_self _ gx
    have y2 : c.sum*(g*x / c.sum)≤g*x:=Int.mul_ediv_self_le (by omega)
    have w3:=IntWalk.i64_in (g*x / c.sum) (by omega)
    have w4:=IntWalk.i64_in (g - (d.take m).sum - g*x / c.sum) (by omega)
    have hsg : (setAt (ints d) m [.lit (.int .i64 (g*x / c.sum))])[m]?=some (.lit (.int .i64 (g*x / c.sum))):=by
     rw [setAt_ints (by omega),ints_get,List.getElem?_set_self (by omega)];rfl
    have dt : ((d.set m (g*x / c.sum)).take (m+1)).sum=(d.take m).sum+g*x / c.sum:=by
     rw [take_succ_get (List.getElem?_set_self (by omega)),List.take_set_of_le (Nat.le_refl _)];simp
    have hs2 : c.sum*((d.take m).sum+g*x / c.sum)≤g*(c.take (m+1)).sum:=by
     rw [Int.mul_add,hct,Int.mul_add];omega
    have hle : (d.take m).sum+g*x / c.sum≤g:=by
     have h1 : g*(c.take (m+1)).sum≤g*c.sum:=Int.mul_le_mul_of_nonneg_left (by omega) (by omega)
     have h2 : c.sum*((d.take m).sum+g*x / c.sum)≤c.sum*g:=by rw [Int.mul_comm c.sum g];omega
     exact Int.le_of_mul_le_mul_left h2 (by omega)
    simp only [go_sem,Nat.reduceEqDiff,Nat.reducePow,Nat.reduceDiv,Nat.reduceMod,reduceCtorEq,hsg,f0,f1,f9,f10,f12,f13,f14,hb2,hx,hsz,w1,w2,t1,w3,w4,hm0,hdx,hdne,lN2,appendA_U]
    rw [getD_of_get hdx,if_pos hx] at hrs
    exact ⟨by omega,by rw [upd_next];exact hnn,⟨m+1,m,d.set m (g*x / c.sum),rfl,by omega,hrs,by rw [dt];congr 2;omega,rfl,by rw [upd_next];exact hnn,hod.store (by omega) _⟩,by rw [h14];simp only [lin,iv_int];omega⟩
   ·have x0 : x=0:=by omega
    have w4:=IntWalk.i64_in (g - (d.take m).sum) (by omega)
    simp only [go_sem,Int.reduceLT,Nat.reduceEqDiff,Nat.reducePow,Nat.reduceDiv,Nat.reduceMod,f0,f1,f9,f10,f12,f13,f14,hb2,hx,x0,w1,w4,hm0,hdx,hdne,Int.sub_zero,lN2,appendA_U]
    have dt : (d.take (m+1)).sum=(d.take m).sum:=by rw [take_succ_get hdx,x0];simp
    rw [x0,Int.add_zero] at hct
    rw [getD_of_get hdx,if_neg hx] at hrs
    exact ⟨hnn,⟨m+1,last,d,rfl,by omega,hrs,by rw [dt],rfl,hnn,hod⟩,by rw [h14];simp only [lin,iv_int];omega⟩
  ·obtain rfl : m=k:=by omega
   obtain ⟨y,hy⟩:=get_of_lt (l:=d) (i:=last) (by omega)
   have hyne:=ne_of_get hy
   have hl0 : (last : Int) ≥ 0:=by omega
   have hlk : (last : Int)<m:=by omega
   have y0:=hd0 y (List.mem_of_getElem? hy)
   rw [List.take_of_length_le (by omega)] at hdg hds h12 f12
   have hyle:=mem_le_sum hd0 y (List.mem_of_getElem? hy)
   have w1:=IntWalk.i64_in (y+(g - d.sum)) (by omega)
   have hle : last+1≤d.length:=by omega
   simp only [go_sem,Nat.reduceEqDiff,Nat.reducePow,Nat.reduceDiv,Nat.reduceMod,f1,f9,f12,f13,f14,hb2,hl0,hlk,hy,hyne,lN2,w1,appendA_U]
   refine ⟨hle,?_⟩
   have hrow : rowF g m bs from'=d.set last (y+(g - d.sum)):=by
    unfold rowF
    rw [← hcwF,hrf]
    dsimp only
    rw [getD_of_get hy]
   rw [hrow] at hK
   have ho2:=hod.store (k:=last) (by omega) (y+(g - d.sum))
   refine FinV.mk ho2.ov.next (hK _ _ ho2.ov (.inr ⟨_,0,ho2.lo,ho2.hi,?_,ho2.get⟩))
   rw [ints_length,List.length_set,hdl]
end Go.Proofs
