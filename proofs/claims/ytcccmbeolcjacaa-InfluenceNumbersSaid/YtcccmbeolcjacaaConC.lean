/- Own work: contracts. -/
import Derived.Test.YtcccmbeolcjacaaConB
import Derived.WalkKit
import Derived.OwnWalk
import Derived.Lib.Walk
import Derived.Lib.SliceRun
import Derived.Lib.AppendZerosOnto
set_option linter.all false
set_option linter.unusedSimpArgs false
set_option maxRecDepth 100000
namespace Go.Proofs
open Go.Hx
theorem prodL_suf {l r : List Int} (h : ∀ c∈l,1≤c) (hr : 0≤prodL r) : prodL r≤prodL (l++r):=by
 rw [prodL_app]
 have h1:=prodL_pos h
 have h2 : 1*prodL r≤prodL l*prodL r:=Int.mul_le_mul_of_nonneg_right h1 hr
 omega
noncomputable def polE (d : InfP) (i : Int) : Int:=if cntE d=0 then (if 0≤i∧i<polN d then 0 else 2) else cntE d
noncomputable def polV (d : InfP) (i : Int) : List (List Int):=if polE d i=0 then polI (rcL d) i else []
/-- A row while its choices are being read off. -/
def rowJ (n : Nat) (v : List Int) (j : Nat) : List Int:=v.take j++List.replicate (n - j) 0
theorem rowJ_zero (n : Nat) (v : List Int) : rowJ n v 0=List.replicate n 0:=by simp [rowJ]
theorem rowJ_full {n : Nat} {v : List Int} (h : v.length=n) : rowJ n v n=v:=by simp [rowJ,← h]
theorem rowJ_len {n : Nat} {v : List Int} (h : v.length=n) {j : Nat} (hj : j≤n) : (rowJ n v j).length=n:=by simp [rowJ];omega
theorem rowJ_set {n : Nat} {v : List Int} (h : v.length=n) {j : Nat} {a : Int} (ha : v[j]?=some a) : (rowJ n v j).set j a=rowJ n v (j+1):=by
 have hj:=get_lt ha
 unfold rowJ
 rw [List.set_append_right _ _ (by rw [List.length_take];omega),take_succ_get ha]
 have e : n - j=(n - (j+1))+1:=by omega
 rw [e,List.replicate_succ]
 simp [List.length_take,Nat.min_eq_left (Nat.le_of_lt hj)]
/-- The numbers of one step of the reading off. -/
theorem digit_step {i M c : Int} (hM : 1≤M) (hc : 1≤c) : (i % (M*c)) / M=i / M % c∧(i % (M*c)) % M=i % M:=by
 have h:=emod_mul_nn i M c (by omega) (by omega)
 have h0:=Int.emod_nonneg i (show M≠0 by omega)
 have h1:=Int.emod_lt_of_pos i (show 0<M by omega)
 rw [h]
 constructor
 ·rw [Int.add_mul_ediv_left _ _ (by omega),Int.ediv_eq_zero_of_lt h0 h1,Int.zero_add]
 ·rw [Int.add_mul_emod_self_left,Int.emod_emod_of_dvd _ (Int.dvd_refl M)]

set_option maxHeartbeats 4000000 in
theorem policy_spec (d : InfP) (hf : InfFit d) (i0 : Int) (hi0 : -9223372036854775808≤i0∧i0≤9223372036854775807) (H : AHeap) (K : ARes→AHeap→Prop) (hK : K (.ret (.tup [vecV (polV d i0),lin (polE d i0)])) H) : ACall Try.prog G0 14 [infV d,lin i0] H K:=by
 refine ACall.clo ⟨_,Try.func14,rfl,rfl⟩ fun hcl=>?_
 refine ACall.of_body (n:=75) (rs:=[.tmp 4,.tmp 5]) Try.func14 rfl rfl rfl (by decide) (by kernel_rfl) (by simp) ?_
 simp only [go_sem,Nat.reduceEqDiff,Nat.reduceAdd,infV_eq,infC,appendA_U]
 obtain ⟨H1,hH1⟩ : ∃ H1,H1=ext H [.arr 0 39 (infC d),.arr 0 3 [.lit (.int .i64 i0)]]:=⟨_,rfl⟩
 have g1 : H1.get H.next=some (.arr 0 39 (infC d)):=by rw [hH1];exact get_ext0 ..
 have g2 : H1.get (H.next+1)=some (.arr 0 3 [.lit (.int .i64 i0)]):=by rw [hH1];exact get_ext H _ 1 (by simp)
 have n1 : H1.next=H.next+2:=by rw [hH1];rfl
 have o1 : Over H H1:=by rw [hH1];exact .ext _ _
 unfold infC at hH1
 rw [← hH1]
 refine AApply.clo (count_spec d hf _ _ ⟨trivial,?_⟩)
 simp only [go_sem,Nat.reduceEqDiff,appendA_U]
 obtain ⟨H2,hH2⟩ : ∃ H2,H2=ext H1 [.arr 0 3 [.lit (.int .i64 (cntV d))]]:=⟨_,rfl⟩
 have g3 : H2.get (H.next+2)=some (.arr 0 3 [.lit (.int .i64 (cntV d))]):=by rw [hH2,← n1];exact ext1_get_new
 have o2 : Over H1 H2:=by rw [hH2];exact .ext _ _
 have n2 : H2.next=H.next+3:=by rw [hH2,ext_next,n1];rfl
 rw [← hH2]
 have nilF : ∀ {Hx : AHeap} (e : Int),polE d i0=e→e≠0→Over H Hx→FinV Try.prog G0 H K (.tup [.lit (.slice none 0 0),.lit (.int .i64 e)]) Hx:=fun {Hx} e he h0 ov=>by
  have ev : polV d i0=[]:=by unfold polV;rw [he,if_neg h0]
  rw [ev,he] at hK
  refine FinV.dropO G0_ok hcl ov ?_ hK
  exact .tup rfl fun i hi _=>match i,hi with
   | 0,_=>.nil
   | 1,_=>.lit _
 by_cases hc0 : cntE d=0
 rotate_left
 ·simp only [go_sem,Nat.reduceEqDiff,hc0,n1,appendA_U]
  exact nilF _ (by unfold polE;rw [if_neg hc0]) hc0 (o1.trans o2)
 have hcv : cntV d=polN d:=by unfold cntV;rw [if_pos hc0]
 have hok : InfOk d:=by
  refine Classical.byContradiction fun h=>?_
  unfold cntE at hc0
  rw [decB_false h] at hc0
  cases hc0
 have hpn : polN d≤4096:=by
  refine Classical.byContradiction fun h=>?_
  unfold cntE at hc0
  rw [decB_true hok,if_pos rfl,if_neg h] at hc0
  cases hc0
 rw [hcv] at g3
 have l2:=get_live ((o2.old _ (by omega)).trans g2)
 have l3:=get_live g3
 have n1' : H1.next=H.next+2:=n1
 by_cases hi1 : i0<0
 ·simp only [go_sem,Nat.reduceEqDiff,hc0,n1,l2,hi1,guardA_undef,appendA_U]
  exact nilF 2 (by unfold polE;rw [if_pos hc0,if_neg (by omega)]) (by decide) (o1.trans o2)
 by_cases hi2 : i0 ≥ polN d
 ·simp only [go_sem,Nat.reduceEqDiff,hc0,n1,l2,l3,hi1,hi2,appendA_U]
  exact nilF 2 (by unfold polE;rw [if_pos hc0,if_neg (by omega)]) (by decide) (o1.trans o2)
 have hpe : polE d i0=0:=by unfold polE;rw [if_pos hc0,if_pos (by omega)]
 have hpv : polV d i0=polI (rcL d) i0:=by unfold polV;rw [if_pos hpe]
 rw [hpe,hpv] at hK
 have m1:=get_live ((o2.old _ (by omega)).trans g1)
 unfold infC at m1
 have m1e : ∀ L,(ext H2 L).live H.next 0=_:=fun L=>(ext_live_old (by omega)).trans m1
 simp only [go_sem,Nat.reduceEqDiff,Nat.reduceAdd,hc0,n1,l2,l3,hi1,hi2,m1e,appendA_U]
 refine AApply.clo (dec_clo d _ _ ⟨trivial,?_⟩)
 simp only [go_sem,appendA_U]
 obtain ⟨R,hR'⟩ : ∃ R,R=ext (ext H2 [.arr 0 48 [.lit (.slice none 0 0)]]) [infB d]:=⟨_,rfl⟩
 rw [← hR']
 have nR : R.next=H.next+5:=by rw [hR',ext_next,ext_next,n2];rfl
 have oR : Over H2 R:=by rw [hR'];exact (Over.ext _ _).trans (.ext _ _)
 have e4n : (ext H2 [.arr 0 48 [.lit (.slice none 0 0)]]).next=H.next+4:=by rw [ext_next,n2];rfl
 have gbx : R.get (H.next+4)=some (infB d):=by rw [hR',← e4n];exact ext1_get_new
 have g8 : R.get (H.next+3)=some (.arr 0 48 [.lit (.slice none 0 0)]):=by rw [hR',get_ext_old _ _ _ (by omega),show H.next+3=H2.next by omega];exact ext1_get_new
 refine W.env fun E hE=>?_
 have e2 : E 2=.ptr H.next 0 0:=by rw [hE];simp only [go_sem,Nat.reduceEqDiff,appendA_U]
 have e3 : E 3=.ptr (H.next+1) 0 0:=by rw [hE];simp only [go_sem,Nat.reduceEqDiff,appendA_U]
 have e6 : E 6=.ptr (H.next+2) 0 0:=by rw [hE,← n1];simp only [go_sem,Nat.reduceEqDiff,appendA_U]
 have e8 : E 8=.ptr (H.next+3) 0 0:=by rw [hE,← n2];simp only [go_sem,Nat.reduceEqDiff,appendA_U]
 have e30 : E 30=.clo 89 [] [.ptr (H.next+4) 0 0]:=by rw [hE,← e4n];rfl
 clear hE
 have hRn:=hok.n
 have hrng:=rcL_rng hok
 obtain ⟨L,hL⟩ : ∃ L,L=rcL d:=⟨_,rfl⟩
 have hLl : L.length=(decL d).length:=by rw [hL];exact rcL_len d
 have dl8 : (decL d).length≤d.nodes.length:=decK_len
 have hn8:=hRn.n1.2
 rw [← hL] at hrng hK
 let zr : Int × Int→List AVal:=fun p=>ints (List.replicate p.1.toNat 0)
 let S : AHeap→Prop:=fun Hx=>R.next≤Hx.next∧∀ id,id<R.next→id≠H.next+3→Hx.get id=R.get id
 refine W.rangeIt (f:=89) (first:=[]) (cap:=[.ptr (H.next+4) 0 0]) (by show E 30=_;exact e30) (dec_it d (by have:=hf.nodes.1;omega) hf.decs (H.next+4))
  (fun k Hx=>S Hx∧R.next+1≤Hx.next∧∃ pv ids,Hx.get (H.next+3)=some (.arr 0 48 [pv])∧OwnM (R.next+1) Hx 59 3 pv ids ((L.take k).map zr))
  (fun c Hx=>False)
  (fun k Hx h=>by rw [h.1.2 _ (by omega) (by omega)];exact gbx)
  (fun k Hx b h=>⟨⟨h.1.1,fun id h1 h2=>by rw [upd_get,if_neg (by omega)];exact h.1.2 id h1 h2⟩,h.2.1,by
   obtain ⟨pv,ids,a,b'⟩:=h.2.2
   exact ⟨pv,ids,by rw [upd_get,if_neg (by omega)];exact a,b'.keep (by rw [upd_next];exact Nat.le_refl _) fun id h1 _=>by rw [upd_get,if_neg (by omega)]⟩⟩)
  (fun c Hx b h=>h)
  (fun b=>⟨⟨by rw [ext_next];omega,fun id h1 h2=>ext1_get_old h1⟩,by rw [ext_next];exact Nat.le_refl _,_,[],by rw [ext1_get_old (by omega)];exact g8,.nil⟩)
  (by decide) decX_two (fun _ _ _=>trivial) (fun _ _ _=>trivial) (fun k y Hx B Bb hy hj hn hB hBb=>?_) (fun Hx hj hn=>?_) (fun Hx hs hn=>hs.elim) (fun i Hx hs hn=>hs.elim)
 ·obtain ⟨v,hv,rfl⟩:=decX_get hy
  obtain ⟨v1,v2,v3⟩:=decK_place hv
  obtain ⟨x,hx⟩:=get_of_lt (l:=d.nodes) (i:=v) v1
  obtain ⟨x1,x2⟩:=hRn.dec v x hx v2
  have hrk : L[k]?=some (rcN d v):=by rw [hL];exact rcL_get hv
  have hrc : rcN d v=((rowsN d.nodes x : Int),x.card):=by unfold rcN;rw [hx]
  have hrr:=hrng _ (List.mem_of_getElem? hrk)
  rw [hrc] at hrk hrr
  dsimp only at hrr
  obtain ⟨hS,hnx,pv,ids,h8,hM⟩:=hj
  refine vc_sound _ _ _ (by rfl) ?_
  simp only [go_sem,Nat.reduceEqDiff,Nat.reduceLT,setPs,envN,asgIt,List.foldl_cons,List.foldl_nil,List.zip_cons_cons,List.zip_nil_right,hB,appendA_U]
  obtain ⟨H3,hH3⟩ : ∃ H3,H3=Hx.upd R.next Bb:=⟨_,rfl⟩
  rw [← hH3]
  obtain ⟨st,pd,n',en,ps',as',bo,hBe⟩:=hBb
  have n3 : H3.next=Hx.next:=by rw [hH3];rfl
  have o3 : ∀ id,id≠R.next→H3.get id=Hx.get id:=fun id h=>by rw [hH3,upd_get,if_neg h]
  have jB : H3.get R.next=some Bb:=by rw [hH3,upd_get,if_pos rfl]
  have hM3 : OwnM (R.next+1) H3 59 3 pv ids ((L.take k).map zr):=hM.keep (by omega) fun id h1 _=>o3 id (by omega)
  have ps:=parC_small hn8 x2 hRn.card
  have hin : InRange x.parents d.nodes.length:=fun q hq=>by have:=x2.2 q hq;omega
  have hrn : ((rowsN d.nodes x : Nat) : Int)=prodL (parC d.nodes x):=by have:=ps.prod;unfold rowsN;omega
  refine W.env fun E1 hE1=>?_
  have m2 : E1 2=.ptr H.next 0 0:=by rw [hE1];simp only [go_sem,Nat.reduceEqDiff,Nat.reduceLT,envN,e2,appendA_U]
  have m8 : E1 8=.ptr (H.next+3) 0 0:=by rw [hE1];simp only [go_sem,Nat.reduceEqDiff,Nat.reduceLT,envN,e8,appendA_U]
  have m10 : E1 10=lin v:=by rw [hE1];simp only [go_sem,Nat.reduceEqDiff,Nat.reduceLT,envN,appendA_U]
  clear hE1
  have j1:=get_live ((o3 _ (by omega)).trans ((hS.2 _ (by omega) (by omega)).trans ((oR.old _ (by omega)).trans ((o2.old _ (by omega)).trans g1))))
  unfold infC at j1
  have j8:=get_live ((o3 _ (by omega)).trans h8)
  obtain ⟨rn,hrnn⟩ : ∃ rn,rn=rowsN d.nodes x:=⟨_,rfl⟩
  obtain ⟨pv',Hj,hA,hO',hnj,hpj⟩:=OwnM.app (P:=Try.prog) (H:=H3) (n:=H3.next+1+1) (t:=48) (r:=ints (List.replicate rn 0)) Try.underlying48 Try.cells59 Try.zero59 Try.bytes59 (by decide) (by simp;omega) hM3 (by omega) rfl
  rw [ints_length,List.length_replicate] at hA
  have j8j : Hj.live (H.next+3) 0=_:=get_live ((hpj _ (by omega) (by omega)).trans ((o3 _ (by omega)).trans h8))
  have hrep : List.replicate rn (AVal.lit (.int .i64 0))=ints (List.replicate rn 0):=by simp [ints,lin]
  have tc:=hO'.top.cells
  have to:=hO'.top.one
  have rn0 : (rn : Int) ≥ 0:=by omega
  refine vc_sound _ _ _ (by rfl) ?_
  simp only [go_sem,appendA_U]
  refine W.draw 7 [0,0,2,0,14,30,62] Try.mixed (by kernel_rfl) (by kernel_rfl) ?_
  simp only [go_sem,Nat.reduceEqDiff,Nat.reducePow,Nat.reduceDiv,Nat.reduceMod,Nat.reduceAdd,Nat.reduceLeDiff,reduceCtorEq,m2,m8,m10,j1,j8]
  refine ⟨.lit (.int .i64 rn),[],PCall.pure fun H2=>rowsW_spec d.nodes v x hx hin ps H2 _ ⟨by rw [← hrn,hrnn];rfl,rfl⟩,?_⟩
  simp only [go_sem,Nat.reduceEqDiff,Nat.reducePow,Nat.reduceDiv,Nat.reduceMod,Nat.reduceAdd,reduceCtorEq,m2,m8,m10,j1,j8,rn0,hrep,hA,j8j,tc,to,bodyIt]
  refine ⟨⟨by omega,by omega⟩,fun _ h=>by omega,fun _ h=>by omega,by rw [upd_get,if_neg (by omega),hpj _ (by omega) (by omega)];exact jB,by rw [upd_next];omega,⟨by rw [upd_next];have:=hS.1;omega,fun id h1 h2=>by rw [upd_get,if_neg h2,hpj _ (by omega) (by omega),o3 _ (by omega)];exact hS.2 id h1 h2⟩,by rw [upd_next];omega,pv',ids++[H3.next],by rw [upd_get,if_pos rfl],?_⟩
  rw [take_succ_get hrk,List.map_append,List.map_singleton]
  have hzr : zr ((rowsN d.nodes x : Int),x.card)=ints (List.replicate rn 0):=by rw [hrnn];rfl
  rw [hzr]
  exact hO'.keep (by rw [upd_next];exact Nat.le_refl _) fun id h1 _=>by rw [upd_get,if_neg (by omega)]
 ·obtain ⟨hS,hnx,pv,ids,h8,hM⟩:=hj
  rw [decX_len,← hLl,List.take_of_length_le (Nat.le_refl _)] at hM
  have x1:=get_live ((hS.2 _ (by omega) (by omega)).trans ((oR.old _ (by omega)).trans ((o2.old _ (by omega)).trans g1)))
  unfold infC at x1
  simp only [go_sem,Nat.reduceAdd,e2,x1,appendA_U]
  refine AApply.clo (dec_clo d _ _ ⟨trivial,?_⟩)
  simp only [go_sem,appendA_U]
  obtain ⟨R2,hR2⟩ : ∃ R2,R2=ext Hx [infB d]:=⟨_,rfl⟩
  rw [← hR2]
  have nR2 : R2.next=Hx.next+1:=by rw [hR2];rfl
  have oR2 : Over Hx R2:=by rw [hR2];exact .ext _ _
  have gb2 : R2.get Hx.next=some (infB d):=by rw [hR2];exact ext1_get_new
  refine W.env fun E2 hE2=>?_
  have f2 : E2 2=.ptr H.next 0 0:=by rw [hE2];simp only [go_sem,Nat.reduceEqDiff,e2,appendA_U]
  have f3 : E2 3=.ptr (H.next+1) 0 0:=by rw [hE2];simp only [go_sem,Nat.reduceEqDiff,e3,appendA_U]
  have f6 : E2 6=.ptr (H.next+2) 0 0:=by rw [hE2];simp only [go_sem,Nat.reduceEqDiff,e6,appendA_U]
  have f8 : E2 8=.ptr (H.next+3) 0 0:=by rw [hE2];simp only [go_sem,Nat.reduceEqDiff,e8,appendA_U]
  have f42 : E2 42=.clo 89 [] [.ptr Hx.next 0 0]:=by rw [hE2];rfl
  clear hE2
  have hMr:=hM.rng
  have cpos : ∀ k,∀ c∈chOf (L.drop k),1≤c:=fun k=>chOf_pos fun p hp=>(hrng p (List.mem_of_mem_drop hp)).2.2.1
  have hPL : prodL (chOf L)≤4096:=by rw [hL];exact hpn
  have hPs : ∀ (k : Nat) (l r : List Int),chOf (L.drop k)=l++r→1≤prodL r∧prodL r≤4096:=fun k l r he=>by
   have hr:=prodL_pos (l:=r) fun c hc=>cpos k c (by rw [he];simp [hc])
   refine ⟨hr,?_⟩
   have h1:=prodL_suf (l:=l) (r:=r) (fun c hc=>cpos k c (by rw [he];simp [hc])) (by omega)
   rw [← he] at h1
   have h2 : prodL (chOf (L.drop k))≤prodL (chOf L):=by
    conv=>rhs;rw [← List.take_append_drop k L,chOf_app]
    exact prodL_suf (chOf_pos fun p hp=>(hrng p (List.mem_of_mem_take hp)).2.2.1) (by omega)
   omega
  let pr : Nat→Int × Int→List Int:=fun k p=>(valsL (chOf (L.drop k)) i0).take p.1.toNat
  have prl : ∀ (k : Nat) (p : Int × Int),L[k]?=some p→(pr k p).length=p.1.toNat:=fun k p hp=>by
   show ((valsL (chOf (L.drop k)) i0).take p.1.toNat).length=_
   rw [List.length_take,valsL_len,drop_of_get hp,chOf_cons,List.length_append,List.length_replicate]
   omega
  let rowA : Nat→Nat→Int × Int→List AVal:=fun k k' p=>if k'<k then ints (pr k' p) else ints (List.replicate p.1.toNat 0)
  refine W.rangeIt (f:=89) (first:=[]) (cap:=[.ptr Hx.next 0 0]) (by show E2 42=_;exact f42) (dec_it d (by have:=hf.nodes.1;omega) hf.decs Hx.next)
   (fun k Hy=>R2.next≤Hy.next∧(∀ id,id<R2.next→id ∉ ids→id≠H.next+1→id≠H.next+2→Hy.get id=R2.get id)∧Hy.get (H.next+2)=some (.arr 0 3 [.lit (.int .i64 (prodL (chOf (L.drop k))))])∧Hy.get (H.next+1)=some (.arr 0 3 [.lit (.int .i64 (i0 % prodL (chOf (L.drop k))))])∧∀ (k' id : Nat) (p : Int × Int),ids[k']?=some id→L[k']?=some p→Hy.get id=some (.arr 0 3 (rowA k k' p)))
   (fun c Hy=>False)
   (fun k Hy h=>by rw [h.2.1 _ (by omega) (fun hm=>by have:=hMr _ hm;omega) (by omega) (by omega)];exact gb2)
   (fun k Hy b h=>⟨h.1,fun id h1 h2 h3 h4=>by rw [upd_get,if_neg (by omega)];exact h.2.1 id h1 h2 h3 h4,by rw [upd_get,if_neg (by omega)];exact h.2.2.1,by rw [upd_get,if_neg (by omega)];exact h.2.2.2.1,fun k' id p h1 h2=>by rw [upd_get,if_neg (by have:=hMr _ (List.mem_of_getElem? h1);omega)];exact h.2.2.2.2 k' id p h1 h2⟩)
   (fun c Hy b h=>h)
   (fun b=>⟨by rw [ext_next];omega,fun id h1 h2 h3 h4=>ext1_get_old h1,?_,?_,fun k' id p h1 h2=>?_⟩)
   (by decide) decX_two (fun _ _ _=>trivial) (fun _ _ _=>trivial) (fun k y Hy B Bb hy hj hn hB hBb=>?_) (fun Hy hj hn=>?_) (fun Hy hs hn=>hs.elim) (fun i Hy hs hn=>hs.elim)
  ·rw [ext1_get_old (by omega),oR2.old _ (by omega),hS.2 _ (by omega) (by omega),oR.old _ (by omega),List.drop_zero,hL]
   exact g3
  ·rw [ext1_get_old (by omega),oR2.old _ (by omega),hS.2 _ (by omega) (by omega),oR.old _ (by omega),o2.old _ (by omega),List.drop_zero,hL,Int.emod_eq_of_lt (by omega) (by show i0<polN d;omega)]
   exact g2
  ·have:=hMr _ (List.mem_of_getElem? h1)
   rw [ext1_get_old (by omega),oR2.old _ (by omega)]
   exact hM.row k' id _ h1 (by rw [List.getElem?_map,h2];rfl)
  ·obtain ⟨v,hv,rfl⟩:=decX_get hy
   obtain ⟨v1,v2,v3⟩:=decK_place hv
   obtain ⟨x,hx⟩:=get_of_lt (l:=d.nodes) (i:=v) v1
   have hrk : L[k]?=some (rcN d v):=by rw [hL];exact rcL_get hv
   have hrc : rcN d v=((rowsN d.nodes x : Int),x.card):=by unfold rcN;rw [hx]
   have hrr:=hrng _ (List.mem_of_getElem? hrk)
   rw [hrc] at hrk hrr
   dsimp only at hrr
   obtain ⟨hyn,hyo,hy6,hy3,hyr⟩:=hj
   refine vc_sound _ _ _ (by rfl) ?_
   simp only [go_sem,Nat.reduceEqDiff,Nat.reduceLT,setPs,envN,asgIt,List.foldl_cons,List.foldl_nil,List.zip_cons_cons,List.zip_nil_right,hB,appendA_U]
   obtain ⟨H3,hH3⟩ : ∃ H3,H3=Hy.upd R2.next Bb:=⟨_,rfl⟩
   rw [← hH3]
   obtain ⟨st,pd,n',en,ps',as',bo,hBe⟩:=hBb
   have n3 : H3.next=Hy.next:=by rw [hH3];rfl
   have o3 : ∀ id,id≠R2.next→H3.get id=Hy.get id:=fun id h=>by rw [hH3,upd_get,if_neg h]
   have jB : H3.get R2.next=some Bb:=by rw [hH3,upd_get,if_pos rfl]
   obtain ⟨rn,hrnn⟩ : ∃ rn,rn=rowsN d.nodes x:=⟨_,rfl⟩
   rw [← hrnn] at hrk hrr
   have hid : k<ids.length:=by rw [hM.len,List.length_map];exact get_lt hrk
   obtain ⟨id,hidg⟩:=get_of_lt hid
   have hidr:=hMr _ (List.mem_of_getElem? hidg)
   have hL0 : L≠[]:=fun h=>by rw [h] at hrk;simp at hrk
   obtain ⟨pb,pg,pb1,pb2,hpv,hpb,hpni⟩:=hM.topB (by simpa using hL0)
   have hpni:=hpni (by decide)
   rw [List.length_map] at hpv
   have hkL : (k : Int)<L.length:=by have:=get_lt hrk;omega
   obtain ⟨hs,hhs⟩ : ∃ hs,hs=List.zipWith (fun i n=>AVal.own i 0 0 n 1) ids ((L.map zr).map List.length):=⟨_,rfl⟩
   rw [← hhs] at hpb
   have hhk : hs[k]?=some (.own id 0 0 rn 1):=by
    rw [hhs,List.getElem?_zipWith,hidg,List.getElem?_map,List.getElem?_map,hrk]
    show some (AVal.own id 0 0 (zr ((rn : Int),x.card)).length 1)=_
    congr 2
    show (ints (List.replicate ((rn : Int)).toNat 0)).length=rn
    rw [ints_length,List.length_replicate,Int.toNat_natCast]
   have hhn:=ne_of_get hhk
   have hvn : (v : Int)<d.nodes.length:=by omega
   have hne:=nodesC_ne hx
   have ec:=nodesC_0 hx
   refine W.env fun E1 hE1=>?_
   have m2 : E1 2=.ptr H.next 0 0:=by rw [hE1];simp only [go_sem,Nat.reduceEqDiff,Nat.reduceLT,envN,f2,appendA_U]
   have m3 : E1 3=.ptr (H.next+1) 0 0:=by rw [hE1];simp only [go_sem,Nat.reduceEqDiff,Nat.reduceLT,envN,f3,appendA_U]
   have m6 : E1 6=.ptr (H.next+2) 0 0:=by rw [hE1];simp only [go_sem,Nat.reduceEqDiff,Nat.reduceLT,envN,f6,appendA_U]
   have m8 : E1 8=.ptr (H.next+3) 0 0:=by rw [hE1];simp only [go_sem,Nat.reduceEqDiff,Nat.reduceLT,envN,f8,appendA_U]
   have m11 : E1 11=lin k:=by rw [hE1];simp only [go_sem,Nat.reduceEqDiff,Nat.reduceLT,envN,appendA_U]
   have m12 : E1 12=lin v:=by rw [hE1];simp only [go_sem,Nat.reduceEqDiff,Nat.reduceLT,envN,appendA_U]
   clear hE1
      -- what stays as it is
   have old : ∀ {Hz : AHeap},(∀ id,id<R2.next→id ∉ ids→id≠H.next+1→id≠H.next+2→Hz.get id=R2.get id)→Hz.live H.next 0=some (39,infC d)∧Hz.live (H.next+3) 0=some (48,[pv])∧Hz.get pb=some (.arr pg 59 hs):=fun h=>by
    refine ⟨get_live ?_,get_live ?_,?_⟩
    ·rw [h _ (by omega) (fun hm=>by have:=hMr _ hm;omega) (by omega) (by omega),oR2.old _ (by omega),hS.2 _ (by omega) (by omega),oR.old _ (by omega),o2.old _ (by omega)];exact g1
    ·rw [h _ (by omega) (fun hm=>by have:=hMr _ hm;omega) (by omega) (by omega),oR2.old _ (by omega)];exact h8
    ·rw [h _ (by omega) hpni (by omega) (by omega),oR2.old _ (by omega)];exact hpb
   have hy3o : ∀ id,id<R2.next→id ∉ ids→id≠H.next+1→id≠H.next+2→H3.get id=R2.get id:=fun id h1 h2 h3 h4=>by rw [o3 _ (by omega)];exact hyo id h1 h2 h3 h4
   obtain ⟨y1,y8,ypb⟩:=old hy3o
   have ypl:=get_live ypb
   unfold infC at y1
   refine vc_sound _ _ _ (by rfl) ?_
   obtain ⟨c,hc⟩ : ∃ c,c=x.card:=⟨_,rfl⟩
   rw [← hc] at hrk hrr ec
   obtain ⟨Rr,hRr⟩ : ∃ Rr,Rr=chOf (L.drop (k+1)):=⟨_,rfl⟩
   have hck : chOf (L.drop k)=List.replicate rn c++Rr:=by rw [drop_of_get hrk,chOf_cons,hRr];rfl
   obtain ⟨pw,hpw⟩ : ∃ pw,pw=pr k ((rn : Int),c):=⟨_,rfl⟩
   have hpwl : pw.length=rn:=by rw [hpw,prl k _ hrk];rfl
   have hyid : Hy.get id=some (.arr 0 3 (ints (rowJ rn pw 0))):=by
    rw [hyr k id _ hidg hrk,rowJ_zero]
    show some (Blk.arr 0 _ (if k<k then _ else ints (List.replicate ((rn : Int)).toNat 0)))=_
    rw [if_neg (by omega),Int.toNat_natCast]
   have hidne : id≠R2.next∧id≠H.next+1∧id≠H.next+2∧id≠pb:=⟨by omega,by omega,by omega,fun e=>hpni (e ▸ List.mem_of_getElem? hidg)⟩
   have yid:=get_live ((o3 _ hidne.1).trans hyid)
   simp only [go_sem,Nat.reduceEqDiff,m2,m3,m6,m8,m11,m12,y1,y8,hpv,ypl,hkL,hhk,hhn,yid,appendA_U]
   refine W.loop0 18889464805578674020352 (by rfl) (fun ρ2 Hz=>∃ j : Nat,ρ2 50=lin j∧j≤rn∧H3.next≤Hz.next∧Hz.get R2.next=some Bb∧(∀ id,id<R2.next→id ∉ ids→id≠H.next+1→id≠H.next+2→Hz.get id=R2.get id)∧Hz.get (H.next+2)=some (.arr 0 3 [.lit (.int .i64 (prodL (List.replicate (rn - j) c++Rr)))]) ∧
    Hz.get (H.next+1)=some (.arr 0 3 [.lit (.int .i64 (i0 % prodL (List.replicate (rn - j) c++Rr)))])∧Hz.get id=some (.arr 0 3 (ints (rowJ rn pw j)))∧∀ (k' id' : Nat) (p : Int × Int),k'≠k→ids[k']?=some id'→L[k']?=some p→Hz.get id'=some (.arr 0 3 (rowA k k' p))) (fun ρ2 H=>rn - (iv (ρ2 50)).toNat) ?_ ?_
   ·simp only [go_sem,Nat.reduceEqDiff,appendA_U]
    exact ⟨0,rfl,by omega,jB,hy3o,by rw [Nat.sub_zero,← hck];exact (o3 _ (by omega)).trans hy6,by rw [Nat.sub_zero,← hck];exact (o3 _ (by omega)).trans hy3,(o3 _ hidne.1).trans hyid,fun k' id' p h0 h1 h2=>by
     rw [o3 _ (by have:=hMr _ (List.mem_of_getElem? h1);omega)]
     exact hyr k' id' p h1 h2⟩
   rintro ρ2 Hz ⟨j,h50,hj,hzn,hzB,hzo,hz6,hz3,hzid,hzr⟩
   refine W.env fun E3 hE3=>?_
   have p2 : E3 2=.ptr H.next 0 0:=by rw [hE3];simp only [go_sem,Nat.reduceEqDiff,Nat.reducePow,Nat.reduceDiv,Nat.reduceMod,reduceCtorEq,m2,appendA_U]
   have p3 : E3 3=.ptr (H.next+1) 0 0:=by rw [hE3];simp only [go_sem,Nat.reduceEqDiff,Nat.reducePow,Nat.reduceDiv,Nat.reduceMod,reduceCtorEq,m3,appendA_U]
   have p6 : E3 6=.ptr (H.next+2) 0 0:=by rw [hE3];simp only [go_sem,Nat.reduceEqDiff,Nat.reducePow,Nat.reduceDiv,Nat.reduceMod,reduceCtorEq,m6,appendA_U]
   have p8 : E3 8=.ptr (H.next+3) 0 0:=by rw [hE3];simp only [go_sem,Nat.reduceEqDiff,Nat.reducePow,Nat.reduceDiv,Nat.reduceMod,reduceCtorEq,m8,appendA_U]
   have p11 : E3 11=lin k:=by rw [hE3];simp only [go_sem,Nat.reduceEqDiff,Nat.reducePow,Nat.reduceDiv,Nat.reduceMod,reduceCtorEq,m11,appendA_U]
   have p12 : E3 12=lin v:=by rw [hE3];simp only [go_sem,Nat.reduceEqDiff,Nat.reducePow,Nat.reduceDiv,Nat.reduceMod,reduceCtorEq,m12,appendA_U]
   have p49 : E3 49=lin rn:=by rw [hE3];simp only [go_sem,Nat.reduceEqDiff,Nat.reducePow,Nat.reduceDiv,Nat.reduceMod,reduceCtorEq,appendA_U]
   have p50 : E3 50=lin j:=by rw [hE3];simp only [go_sem,Nat.reduceEqDiff,Nat.reducePow,Nat.reduceDiv,Nat.reduceMod,h50,appendA_U]
   clear hE3
   refine vc_sound _ _ _ (by rfl) ?_
   obtain ⟨z1,z8,zpb⟩:=old hzo
   have zpl:=get_live zpb
   unfold infC at z1
   have z6:=get_live hz6
   have z3:=get_live hz3
   have zid:=get_live hzid
   by_cases hb2 : (j : Int)<rn
   ·have hsplit : List.replicate (rn - j) c++Rr=c :: (List.replicate (rn - (j+1)) c++Rr):=by
     have e : rn - j=(rn - (j+1))+1:=by omega
     rw [e,List.replicate_succ];rfl
    obtain ⟨M,hMM⟩ : ∃ M,M=prodL (List.replicate (rn - (j+1)) c++Rr):=⟨_,rfl⟩
    have hMb:=hPs k (List.replicate (j+1) c) (List.replicate (rn - (j+1)) c++Rr) (by
     rw [hck,← List.append_assoc,List.replicate_append_replicate]
     congr 2
     omega)
    have hp1 : prodL (List.replicate (rn - j) c++Rr)=c*M:=by rw [hsplit,prodL_cons,hMM]
    rw [← hMM] at hMb
    rw [hp1] at z6 z3
    have hcM : 0≤c*M∧c*M≤4*4096:=⟨Int.mul_nonneg (by omega) (by omega),Int.mul_le_mul hrr.2.2.2 hMb.2 (by omega) (by omega)⟩
    have cM1 : 1≤c*M:=by have:=Int.mul_le_mul hrr.2.2.1 hMb.1 (by omega) (by omega);omega
    obtain ⟨ds1,ds2⟩:=digit_step (i:=i0) hMb.1 hrr.2.2.1
    rw [Int.mul_comm M c] at ds1 ds2
    have hm0:=Int.emod_nonneg i0 (show c*M≠0 by omega)
    have hm1:=Int.emod_lt_of_pos i0 (show 0<c*M by omega)
    have q1 : (c*M).tdiv c=M:=by rw [Int.mul_comm];exact Int.mul_tdiv_cancel _ (by omega)
    have q2 : (i0 % (c*M)).tdiv M=i0 / M % c:=by rw [Int.tdiv_eq_ediv_of_nonneg hm0,ds1]
    have q3 : (i0 % (c*M)).tmod M=i0 % M:=by rw [Int.tmod_eq_emod_of_nonneg hm0,ds2]
    have c0 : ¬ c=0:=by omega
    have M0 : ¬ M=0:=by omega
    have d0:=Int.emod_nonneg (i0 / M) (show c≠0 by omega)
    have d1:=Int.emod_lt_of_pos (i0 / M) (show 0<c by omega)
    have r0:=Int.emod_nonneg i0 (show M≠0 by omega)
    have r1:=Int.emod_lt_of_pos i0 (show 0<M by omega)
    have w1:=IntWalk.i64_in ((j : Int)+1) (by omega)
    have w2:=IntWalk.i64_in M (by omega)
    have w3:=IntWalk.i64_in (i0 / M % c) (by omega)
    have w4:=IntWalk.i64_in (i0 % M) (by omega)
    have hpj : pw[j]?=some (i0 / M % c):=by
     rw [hpw]
     show ((valsL (chOf (L.drop k)) i0).take ((rn : Int)).toNat)[j]?=_
     rw [List.getElem?_take_of_lt (by omega),hck,valsL_get (c:=c) (by rw [List.getElem?_append_left (by simp;omega),List.getElem?_replicate,if_pos (by omega)]),List.drop_append_of_le_length (by simp;omega),List.drop_replicate,hMM]
    have hset:=rowJ_set hpwl hpj
    have hst : setAt (ints (rowJ rn pw j)) j [.lit (.int .i64 (i0 / M % c))]=ints (rowJ rn pw (j+1)):=by rw [setAt_ints (by rw [rowJ_len hpwl hj];omega),hset]
    have hrl : (rowJ rn pw j).length=rn:=rowJ_len hpwl hj
    have hjj : ¬ ints (rowJ rn pw j)=[]:=fun h=>by have:=congrArg List.length h;rw [ints_length,hrl] at this;simp at this;omega
    simp only [go_sem,Nat.reduceEqDiff,Nat.reducePow,Nat.reduceDiv,Nat.reduceMod,p50,p49,hb2,appendA_U]
    refine W.draw 7 [0,0,2,0,14,30,62] Try.mixed (by kernel_rfl) (by kernel_rfl) ?_
    simp only [go_sem,Nat.reduceEqDiff,Nat.reducePow,Nat.reduceDiv,Nat.reduceMod,Nat.reduceAdd,reduceCtorEq,p2,p6,p12,z1,z6,hvn,hne,ec,q1,w2,c0,appendA_U]
    have u8 : ∀ b,(Hz.upd (H.next+2) b).live (H.next+3) 0=_:=fun b=>(live_upd_other (by omega)).trans z8
    have upl : ∀ b,(Hz.upd (H.next+2) b).live pb pg=_:=fun b=>(live_upd_other (by omega)).trans zpl
    have u3 : ∀ b,(Hz.upd (H.next+2) b).live (H.next+1) 0=_:=fun b=>(live_upd_other (by omega)).trans z3
    have uid : ∀ b,(Hz.upd (H.next+2) b).live id 0=_:=fun b=>(live_upd_other hidne.2.2.1).trans zid
    have uu3 : ∀ b b',((Hz.upd (H.next+2) b).upd id b').live (H.next+1) 0=_:=fun b b'=>(live_upd_other (fun e=>hidne.2.1 e.symm)).trans (u3 b)
    have uu6 : ∀ b',((Hz.upd (H.next+2) (.arr 0 3 [.lit (.int .i64 M)])).upd id b').live (H.next+2) 0=some (3,[.lit (.int .i64 M)]):=fun b'=>(live_upd_other (fun e=>hidne.2.2.1 e.symm)).trans live_upd_same
    refine W.draw 8 [0,0,3,7,0,0,0,96] Try.mixed (by kernel_rfl) (by kernel_rfl) ?_
    simp only [go_sem,Nat.reduceEqDiff,Nat.reducePow,Nat.reduceDiv,Nat.reduceMod,Nat.reduceAdd,reduceCtorEq,p3,p6,p8,p11,u8,upl,u3,uid,uu3,uu6,hpv,hkL,hhk,hhn,q2,q3,w1,w3,w4,M0,hst,hb2,hjj,ints_length,hrl,p50,appendA_U]
    have ge : ∀ i,(((Hz.upd (H.next+2) (.arr 0 3 [.lit (.int .i64 M)])).upd id (.arr 0 3 (ints (rowJ rn pw (j+1))))).upd (H.next+1) (.arr 0 3 [.lit (.int .i64 (i0 % M))])).get i=if i=H.next+1 then some (.arr 0 3 [.lit (.int .i64 (i0 % M))]) else if i=id then some (.arr 0 3 (ints (rowJ rn pw (j+1)))) else if i=H.next+2 then some (.arr 0 3 [.lit (.int .i64 M)]) else Hz.get i:=fun i=>by simp only [upd_get]
    have hBB : (((Hz.upd (H.next+2) (.arr 0 3 [.lit (.int .i64 M)])).upd id (.arr 0 3 (ints (rowJ rn pw (j+1))))).upd (H.next+1) (.arr 0 3 [.lit (.int .i64 (i0 % M))])).get R2.next=some Bb:=by
     rw [ge,if_neg (by omega),if_neg (fun e=>hidne.1 e.symm),if_neg (by omega)];exact hzB
    refine ⟨by omega,by simp only [upd_next];omega,⟨st,pd,n',en,ps',as',bo,by rw [hBB,hBe]⟩,⟨j+1,rfl,by omega,by simp only [upd_next];omega,hBB,fun i h1 h2 h3 h4=>?_,?_,?_,?_,fun k' id' p h0 h1 h2=>?_⟩,by rw [h50];simp only [lin,iv_int];omega⟩
    ·rw [ge,if_neg h3,if_neg (fun e=>h2 (by rw [e];exact List.mem_of_getElem? hidg)),if_neg h4]
     exact hzo i h1 h2 h3 h4
    ·rw [ge,if_neg (by omega),if_neg (fun e=>hidne.2.2.1 e.symm),if_pos rfl,hMM]
    ·rw [ge,if_pos rfl,hMM]
    ·rw [ge,if_neg hidne.2.1,if_pos rfl]
    ·have hr':=hMr _ (List.mem_of_getElem? h1)
     have hne' : id'≠id:=fun e=>by
      subst e
      exact h0 ((List.getElem?_inj (List.getElem?_eq_some_iff.1 h1).1 hM.nd).1 (by rw [h1,hidg]))
     rw [ge,if_neg (by omega),if_neg hne',if_neg (by omega)]
     exact hzr k' id' p h0 h1 h2
   ·have hje : j=rn:=by omega
    simp only [go_sem,Nat.reduceEqDiff,Nat.reducePow,Nat.reduceDiv,Nat.reduceMod,p49,p50,hb2,bodyIt,appendA_U]
    rw [hje,Nat.sub_self,List.replicate_zero,List.nil_append,hRr] at hz6 hz3
    rw [hje,rowJ_full hpwl] at hzid
    refine ⟨hzB,by omega,by omega,hzo,hz6,hz3,fun k' id' p h1 h2=>?_⟩
    by_cases hkk : k'=k
    ·subst hkk
     rw [hidg] at h1
     rw [hrk] at h2
     cases h1
     cases h2
     rw [hzid,hpw]
     show _=some (Blk.arr 0 _ (if k'<k'+1 then _ else _))
     rw [if_pos (by omega)]
    ·rw [hzr k' id' p hkk h1 h2]
     show some (Blk.arr 0 _ (if k'<k then _ else _))=some (Blk.arr 0 _ (if k'<k+1 then _ else _))
     by_cases hlt : k'<k
     ·rw [if_pos hlt,if_pos (by omega)]
     ·rw [if_neg hlt,if_neg (by omega)]
  ·obtain ⟨hyn,hyo,hy6,hy3,hyr⟩:=hj
   rw [decX_len,← hLl] at hyr
   have y8 : Hy.live (H.next+3) 0=some (48,[pv]):=get_live (by
    rw [hyo _ (by omega) (fun hm=>by have:=hMr _ hm;omega) (by omega) (by omega),oR2.old _ (by omega)];exact h8)
   have pvc:=hM.top.cells
   have pvo:=hM.top.one
   simp only [go_sem,Nat.reduceEqDiff,f2,f3,f6,f8,y8,pvc,pvo,appendA_U]
   have hpoly : (polI L i0).length=L.length:=polI_len L i0
   have hM2 : OwnM (R.next+1) Hy 59 3 pv ids ((polI L i0).map ints):=by
    have hlens : ((polI L i0).map ints).map List.length=(L.map zr).map List.length:=by
     apply List.ext_getElem?
     intro k
     rw [List.getElem?_map,List.getElem?_map,List.getElem?_map,List.getElem?_map]
     cases hk : L[k]? with
     | none=>rw [List.getElem?_eq_none (by rw [hpoly];exact List.getElem?_eq_none_iff.1 hk)];rfl
     | some p =>
      rw [polI_get i0 hk]
      simp only [Option.map_some]
      congr 1
      show (ints (pr k p)).length=(ints (List.replicate p.1.toNat 0)).length
      rw [ints_length,ints_length,prl k p hk,List.length_replicate]
    refine ⟨by rw [hM.len,List.length_map,List.length_map,hpoly],hM.nd,fun i hi=>by have:=hMr i hi;omega,?_,fun k' id r h1 h2=>?_⟩
    ·rw [hlens]
     refine hM.top.keep (Nat.le_refl _) (by omega) fun i g a b c e=>?_
     have hni : i ∉ ids:=fun hm=>by
      obtain ⟨k',hk'⟩:=List.mem_iff_getElem?.1 hm
      have hkl : k'<(L.map zr).length:=by rw [← hM.len];exact (List.getElem?_eq_some_iff.1 hk').1
      have:=hM.row k' i _ hk' (List.getElem?_eq_getElem hkl)
      rw [c] at this
      exact absurd (Blk.arr.inj (Option.some.inj this)).2.1 (by decide)
     rw [hyo i (by omega) hni (by omega) (by omega),oR2.old _ (by omega)]
    ·rw [List.getElem?_map] at h2
     obtain ⟨q,hq,rfl⟩:=Option.map_eq_some_iff.1 h2
     obtain ⟨p,hp⟩:=get_of_lt (l:=L) (i:=k') (by rw [← hpoly];exact get_lt hq)
     rw [hyr k' id p h1 hp]
     rw [polI_get i0 hp] at hq
     cases hq
     show some (Blk.arr 0 _ (if k'<L.length then _ else _))=_
     rw [if_pos (get_lt hp)]
   refine FinV.dropO (v':=.tup [vecV (polI L i0),lin 0]) G0_ok hcl ⟨by omega,fun id h=>?_⟩ (.tup rfl fun i hi _=>?_) hK
   ·rw [hyo id (by omega) (fun hm=>by have:=hMr _ hm;omega) (by omega) (by omega),oR2.old _ (by omega),hS.2 _ (by omega) (by omega),oR.old _ (by omega),o2.old _ (by omega)]
    exact o1.old id h
   ·match i,hi with
    | 1,_=>exact .lit _
    | 0,_ =>
     have:=hM2.fz (S:=fun id=>H.next≤id) (nx:=H.next) (fun i h=>by omega) fun r hr c hc=>by
      obtain ⟨q,_,rfl⟩:=List.mem_map.1 hr
      unfold ints at hc
      obtain ⟨z,_,rfl⟩:=List.mem_map.1 hc
      exact .lit _
     rw [List.length_map,List.map_map] at this
     have e : (polI L i0).map ((fun r : List AVal=>AVal.vec r.length r) ∘ ints)=(polI L i0).map vecI:=List.map_congr_left fun z _=>by simp [Function.comp,vecI,ints_length]
     rw [e] at this
     exact this
end Go.Proofs
set_option linter.unusedSimpArgs false
set_option linter.unusedVariables false
namespace Go.Proofs
open Go.Hx Go.RowKit Go.Lib
theorem Try.info3 : (Try.prog.info? 3).map (fun i=>(i.zero,i.size,i.bytes))=some (some (.int .i64 0),1,8):=by kernel_rfl
set_option maxHeartbeats 4000000 in
set_option maxRecDepth 100000 in
theorem grow_calls (n : Nat) (h0 : 0<n) (hn : n≤1073741824) (w : World) : Calls Try.prog 82 #[.slice none 0 0,.int .i64 n] w fun e w' =>
  e=.returned (.slice (some ⟨w.heap.size,0,none⟩) 0 (grownCap w n 0 3)) ∧
   w'=w.drew.alloc (.cells (#[]++Builtin.zeroCells #[.int .i64 0] n++Builtin.zeroCells #[.int .i64 0] (grownCap w n 0 3 - n)) 3):=by
 have h1 : ¬ ((n : Int)<0):=by omega
 have h2 : wrap64 ((0 : Int) - (0 : Int))=0:=by unfold wrap64;omega
 have h3 : wrap64 ((n : Int) - 0)=(n : Int):=by unfold wrap64;omega
 have h4 : (n : Int) > 0:=by omega
 cases hi : Try.prog.info? 3 with
 | none=>have:=Try.info3;rw [hi] at this;cases this
 | some i0 =>
 have hi3:=Try.info3
 rw [hi] at hi3
 simp only [Option.map_some,Option.some.injEq,Prod.mk.injEq] at hi3
 obtain ⟨hz0,hs0,hb0⟩:=hi3
 have hold : (Builtin.firstCells i0.size 0 (.slice none 0 0)).run Try.prog w.drew=.ok ([] : List Value).toArray w.drew:=run_firstCells_none w.drew i0.size 0 0 0
 have hrz : ∀ ty,(Builtin.append_ #[59,3] ty #[.slice none 0 0,.int .i64 (n : Int)]).run Try.prog w =
   .ok (.slice (some ⟨w.heap.size,0,none⟩) n (grownCap w n 0 3)) (w.drew.alloc (.cells (#[]++Builtin.zeroCells #[.int .i64 0] n++Builtin.zeroCells #[.int .i64 0] (grownCap w n 0 3 - n)) 3)):=fun ty=>by
  have h:=Lib.run_append_grow_zeros w 59 3 ty 3 i0 (.int .i64 0) .i64 .i64 Try.underlying59 Try.underlying3 hi hz0 none 0 0 [] hold n h0 (by omega) (by omega) (by omega)
   (by rw [hb0];omega) (by rw [hb0];exact growslice_fits (by omega) (by omega))
  rw [Nat.zero_add] at h
  exact h
 have hGn : n≤grownCap w n 0 3:=grownCap_ge w _ _ _
 obtain ⟨G,hG⟩ : ∃ G,G=grownCap w n 0 3:=⟨_,rfl⟩
 rw [← hG] at hrz hGn ⊢
 have hG63 : G≤9223372036854775807:=by
  have:=grownCap_le_maxLen w n 0 3 (by unfold maxLen;omega)
  rw [← hG] at this
  unfold maxLen at this
  omega
 clear hold hG
 go_enter Try.func82,Try.ntmps82
 go_wp2_with (at_builtin;refine Lib.wpList_append_run _ rfl _ _ _ _ rfl _ _ rfl rfl _ _ (hrz _) ?_)
 all_goals (go_ret;exact ⟨rfl,rfl⟩)
theorem rel_lit {P : Program} {Γ : Gam} {H : AHeap} {w : World} {v cv : Value} (h : RelV P Γ H w (.lit v) cv) : cv=v:=by cases h;rfl
theorem zeroCells_one (n : Nat) : (Builtin.zeroCells #[Value.int .i64 0] n).size=n:=by
 rw [size_zeroCells];simp
theorem grow_spec (n : Nat) (h0 : 0<n) (hn : n≤1073741824) (H : AHeap) (K : ARes→AHeap→Prop) (hK : K (.ret (.own H.next 0 0 0 1)) (ext H [.arr 0 3 []])) : ACall Try.prog G0 82 [.lit (.slice none 0 0),.lit (.int .i64 n)] H K:=by
 refine ⟨⟨_,Try.func82,rfl,rfl⟩,fun Γ w cargs R hr=>?_⟩
 have hc : cargs=#[.slice none 0 0,.int .i64 n]:=by
  obtain ⟨hs,hr⟩:=hr
  have h1:=rel_lit (hr 0 (by simp) (by rw [hs];simp))
  have h2:=rel_lit (hr 1 (by simp) (by rw [hs];simp))
  apply Array.ext
  ·simpa using hs
  ·intro i hi1 hi2
   simp only [List.size_toArray,List.length_cons,List.length_nil] at hi2
   match i,hi2 with
   | 0,_=>exact h1
   | 1,_=>exact h2
 rw [hc]
 refine (callsIn_wide.2 (grow_calls n h0 hn w)).mono ?_
 rintro e w' ⟨rfl,rfl⟩
 have hG:=grownCap_ge w n 0 3
 obtain ⟨G,hGe⟩ : ∃ G,G=grownCap w n 0 3:=⟨_,rfl⟩
 rw [← hGe] at hG ⊢
 obtain ⟨c,hcc⟩ : ∃ c,c=#[]++Builtin.zeroCells #[Value.int .i64 0] n++Builtin.zeroCells #[Value.int .i64 0] (G - n):=⟨_,rfl⟩
 have hcs : c.size=G:=by rw [hcc];simp [zeroCells_one];omega
 rw [← hcc]
 have R1:=R.drew (w.drawn+1)
 obtain ⟨E,hn2,R'⟩:=lay_sound (c:=c) R1 (lay_next H (.arr 0 3 [])) (by simp) (fun i h=>absurd h (Nat.not_lt_zero _))
 refine ⟨.ret (.own H.next 0 0 0 1),ext H [.arr 0 3 []],_,?_,hK,R',(drew_evo Γ H w (w.drawn+1)).trans (Nat.le_refl _) E,hn2⟩
 refine .own ⟨by simp [ext_next],rfl,by rw [get_ext0];simp,fun g e cells hg=>?_⟩
 rw [get_ext0] at hg
 cases hg
 refine ⟨Nat.le_refl _,fun _=>?_⟩
 rw [Gam.upd_same]
 exact ⟨⟨w.heap.size,0,none⟩,G,rfl,Nat.zero_le _,by simp,.inl ⟨rfl,by rw [hcs];omega⟩⟩
end Go.Proofs
set_option maxRecDepth 100000
namespace Go.Proofs
open Go.Hx
theorem nan_spec (a : Int) (H : AHeap) (K : ARes→AHeap→Prop) (hK : K (.ret (.lit (.bool false))) H) : ACall Try.prog G0 100 [.lit (.int .i64 a)] H K:=by
 refine ACall.of_body (n:=6) (rs:=[.tmp 2]) Try.func100 rfl rfl rfl (by decide) (by kernel_rfl) (by simp) ?_
 simp only [go_sem,Nat.reduceEqDiff,reduceCtorEq,appendA_U]
 exact FinV.mk (Nat.le_refl _) hK
theorem cmp_spec (a b : Int) (H : AHeap) (K : ARes→AHeap→Prop) (hK : K (.ret (.lit (.int .i64 (if a<b then -1 else if b<a then 1 else 0)))) H) : ACall Try.prog G0 81 [.lit (.int .i64 a),.lit (.int .i64 b)] H K:=by
 refine ACall.of_body (n:=20) (rs:=[.tmp 4]) Try.func81 rfl rfl rfl (by decide) (by kernel_rfl) (by simp) ?_
 simp only [go_sem,Nat.reduceEqDiff,reduceCtorEq,appendA_U]
 refine AApply.clo (nan_spec a _ _ ⟨trivial,?_⟩)
 simp only [go_sem,Nat.reduceEqDiff,appendA_U]
 refine AApply.clo (nan_spec b _ _ ⟨trivial,?_⟩)
 by_cases h1 : a<b
 ·rw [if_pos h1] at hK
  simp only [go_sem,Nat.reduceEqDiff,reduceCtorEq,h1,appendA_U]
  exact FinV.mk (Nat.le_refl _) hK
 ·rw [if_neg h1] at hK
  by_cases h2 : b<a
  ·rw [if_pos h2] at hK
   simp only [go_sem,Nat.reduceEqDiff,reduceCtorEq,h1,h2,appendA_U]
   exact FinV.mk (Nat.le_refl _) hK
  ·rw [if_neg h2] at hK
   simp only [go_sem,Nat.reduceEqDiff,reduceCtorEq,h1,h2,appendA_U]
   exact FinV.mk (Nat.le_refl _) hK
def ltL : List Int→List Int→Prop
 | a :: l,b :: m=>a<b∨(a=b∧ltL l m)
 | _,_=>False
theorem ltL_at : ∀ {x y : List Int},ltL x y→∃ (i : Nat) (a b : Int),x[i]?=some a∧y[i]?=some b∧a<b∧∀ j,j<i→x[j]?=y[j]?
 | a :: l,b :: m,h=>by
  rcases h with h|⟨h,h2⟩
  ·exact ⟨0,a,b,rfl,rfl,h,fun j hj=>absurd hj (Nat.not_lt_zero _)⟩
  ·obtain ⟨i,c,d,h3,h4,h5,h6⟩:=ltL_at h2
   refine ⟨i+1,c,d,by simpa using h3,by simpa using h4,h5,fun j hj=>?_⟩
   cases j with
   | zero=>simp [h]
   | succ j=>simpa using h6 j (by omega)
theorem compare_lt {x y : List Int} (h : ltL x y) (hx : (x.length : Int)<2 ^ 40) (H : AHeap) (K : ARes→AHeap→Prop) (hK : K (.ret (.lit (.int .i64 (-1)))) H) : ACall Try.prog G0 38 [vecI x,vecI y] H K:=by
 obtain ⟨i,a,b,h1,h2,h3,h4⟩:=ltL_at h
 have hi : i<x.length:=(List.getElem?_eq_some_iff.1 h1).1
 have hi2 : i<y.length:=(List.getElem?_eq_some_iff.1 h2).1
 have hxn : ¬ x=[]:=by rintro rfl;simp at hi
 have hyn : ¬ y=[]:=by rintro rfl;simp at hi2
 refine ACall.of_body (n:=36) (rs:=[.tmp 4]) Try.func38 rfl rfl rfl (by decide) (by kernel_rfl) (by simp) ?_
 simp only [go_sem,Nat.reduceEqDiff,reduceCtorEq,appendA_U]
 refine W.loop0 2147482096 (by rfl) (fun ρ H'=>H'=H∧∃ k : Nat,ρ 11=lin k∧k≤i) (fun ρ H=>x.length - (iv (ρ 11)).toNat) ?_ ?_
 ·simp only [go_sem,Nat.reduceEqDiff,appendA_U]
  exact ⟨0,rfl,by omega⟩
 rintro ρ H' ⟨rfl,k,h11,hk⟩
 refine vc_sound _ _ _ (by rfl) ?_
 have b1 : (k : Int)<x.length:=by omega
 have b2 : ¬ (y.length : Int)≤k:=by omega
 have b3 : (k : Int)<y.length:=by omega
 have w1:=IntWalk.i64_in ((k : Int)+1) (by omega)
 by_cases hki : k=i
 ·subst hki
  simp only [go_sem,Nat.reduceEqDiff,Nat.reducePow,Nat.reduceDiv,Nat.reduceMod,reduceCtorEq,h11,b1,b2,b3,h1,h2,hxn,hyn,appendA_U]
  refine AApply.clo (cmp_spec a b _ _ ⟨trivial,?_⟩)
  rw [if_pos h3]
  simp only [go_sem,Nat.reduceEqDiff,Nat.reducePow,Nat.reduceDiv,Nat.reduceMod,reduceCtorEq,appendA_U]
  exact FinV.mk (Nat.le_refl _) hK
 ·have e:=h4 k (by omega)
  obtain ⟨c,hc⟩ : ∃ c,x[k]?=some c:=⟨_,List.getElem?_eq_getElem (by omega)⟩
  rw [hc] at e
  simp only [go_sem,Nat.reduceEqDiff,Nat.reducePow,Nat.reduceDiv,Nat.reduceMod,reduceCtorEq,h11,b1,b2,b3,hc,← e,hxn,hyn,appendA_U]
  refine AApply.clo (cmp_spec c c _ _ ⟨trivial,?_⟩)
  have hcc : ¬ c<c:=by omega
  rw [if_neg hcc,if_neg hcc]
  simp only [go_sem,Nat.reduceEqDiff,Nat.reducePow,Nat.reduceDiv,Nat.reduceMod,w1,h11,appendA_U]
  exact ⟨⟨k+1,by simp,by omega⟩,by omega⟩
def lens (t : List (List Int)) : Nat:=(t.map List.length).sum
theorem lens_flat : ∀ t : List (List Int),t.flatten.length=lens t
 | []=>rfl
 | r :: t=>by simp [lens]
theorem lens_take {t : List (List Int)} {k : Nat} {r : List Int} (h : t[k]?=some r) : lens (t.take (k+1))=lens (t.take k)+r.length:=by
 unfold lens
 rw [take_succ_get h]
 simp
theorem concat_spec (t : List (List Int)) (ht : t.length≤8) (hr : ∀ r,r∈t→r.length≤1024) (h0 : 0<lens t) (H : AHeap) (K : ARes→AHeap→Prop) (hK : K (.ret (vecI t.flatten)) H) : ACall Try.prog G0 39 [vecV t] H K:=by
 refine ACall.clo ⟨_,Try.func39,rfl,rfl⟩ fun hcl=>?_
 have hle : ∀ k,lens (t.take k)≤1024*k:=fun k=>by
  induction k with
  | zero=>simp [lens]
  | succ k ih =>
   cases hk : t[k]? with
   | none =>
    have h1 : t.length≤k:=by simpa using hk
    rw [List.take_of_length_le (by omega)]
    rw [List.take_of_length_le h1] at ih
    omega
   | some r =>
    rw [lens_take hk]
    have:=hr r (List.mem_of_getElem? hk)
    omega
 have htl : lens t≤8192:=by have:=hle t.length;rw [List.take_length] at this;omega
 have hne : ¬ t=[]:=by rintro rfl;simp [lens] at h0
 refine ACall.of_body (n:=36) (rs:=[.tmp 2]) Try.func39 rfl rfl rfl (by decide) (by kernel_rfl) (by simp) ?_
 simp only [go_sem,Nat.reduceEqDiff,reduceCtorEq,vecV,appendA_U]
 refine W.loop0 8386600 (by rfl) (fun ρ H'=>H=H'∧∃ k : Nat,ρ 11=lin k∧k≤t.length∧ρ 3=lin (lens (t.take k) : Nat)) (fun ρ H=>t.length - (iv (ρ 11)).toNat) ?_ ?_
 ·simp only [go_sem,Nat.reduceEqDiff,appendA_U]
  exact ⟨0,rfl,by omega,rfl⟩
 rintro ρ H' ⟨rfl,k,h11,hk,h3⟩
 refine vc_sound _ _ _ (by rfl) ?_
 by_cases hb : (k : Int)<t.length
 ·obtain ⟨r,hrk⟩ : ∃ r,t[k]?=some r:=⟨_,List.getElem?_eq_getElem (by omega)⟩
  have e:=lens_take hrk
  have l1:=hle k
  have l2:=hr r (List.mem_of_getElem? hrk)
  have w1:=IntWalk.i64_in ((k : Int)+1) (by omega)
  have w2:=IntWalk.i64_in ((lens (t.take k) : Int)+(r.length : Int)) (by omega)
  have z1 : ¬ (lens (t.take k) : Int)+(r.length : Int)<0:=by omega
  simp only [go_sem,Nat.reduceEqDiff,Nat.reducePow,Nat.reduceDiv,Nat.reduceMod,reduceCtorEq,h11,hb,hrk,hne,h3,w1,w2,z1,appendA_U]
  exact ⟨⟨k+1,by simp,by omega,by rw [e];simp⟩,by omega⟩
 ·rw [List.take_of_length_le (by omega)] at h3
  simp only [go_sem,Nat.reduceEqDiff,Nat.reducePow,Nat.reduceDiv,Nat.reduceMod,reduceCtorEq,h11,hb,h3,appendA_U]
  refine AApply.clo (grow_spec (lens t) h0 (by omega) _ _ ⟨trivial,?_⟩)
  simp only [go_sem,Nat.reduceEqDiff,Nat.reducePow,Nat.reduceDiv,Nat.reduceMod,reduceCtorEq,h11,hb,h3,appendA_U]
  refine W.loop0 34225520960 (by rfl) (fun ρ H'=>Over H H'∧H.next+1≤H'.next∧∃ k : Nat,ρ 27=lin k∧k≤t.length∧OwnG H.next H' 3 (ρ 6) (ints (t.take k).flatten)) (fun ρ H=>t.length - (iv (ρ 27)).toNat) ?_ ?_
  ·simp only [go_sem,Nat.reduceEqDiff,Nat.reducePow,Nat.reduceDiv,Nat.reduceMod,reduceCtorEq,appendA_U]
   exact ⟨Over.ext _ _,0,rfl,by omega,.inr ⟨H.next,0,Nat.le_refl _,by simp [ext_next],rfl,get_ext0 _ _ _⟩⟩
  rintro ρ2 H2 ⟨ov,on,j,h27,hj,h6⟩
  refine vc_sound _ _ _ (by rfl) ?_
  by_cases hb2 : (j : Int)<t.length
  ·obtain ⟨r,hrj⟩ : ∃ r,t[j]?=some r:=⟨_,List.getElem?_eq_getElem (by omega)⟩
   have w1:=IntWalk.i64_in ((j : Int)+1) (by omega)
   have e : (t.take (j+1)).flatten=(t.take j).flatten++r:=by rw [take_succ_get hrj];simp
   have l0:=hle j
   have l2:=hr r (List.mem_of_getElem? hrj)
   have l3:=lens_flat (t.take j)
   obtain ⟨v',H3,hA,hO,hn3,hp⟩:=app_vecG (P:=Try.prog) (H:=H2) (t:=59) (n:=H2.next) (src:=ints r) Try.underlying59 Try.cells3 Try.zero3 (all_one_ints r) (by rw [Try.bytes3,ints_length,ints_length,l3];omega) h6 ov.next rfl
   rw [ints_length] at hA
   simp only [go_sem,Nat.reduceEqDiff,Nat.reducePow,Nat.reduceDiv,Nat.reduceMod,reduceCtorEq,h27,hb2,hrj,hne,hA,w1]
   have ov3 : Over H H3:=⟨by have:=ov.next;omega,fun id hid=>by
    rw [hp id (by have:=ov.next;omega) fun g n he=>?_,ov.old id hid]
    rcases h6 with ⟨h6,_⟩|⟨i2,g2,a1,_,h6,_⟩
    ·rw [h6] at he;cases he
    ·rw [h6] at he;have:=AVal.own.inj he;omega⟩
   refine ⟨by omega,⟨ov3,by omega,j+1,by simp,by omega,?_⟩,by omega⟩
   rw [e]
   simpa [ints] using hO
  ·rw [List.take_of_length_le (by omega)] at h6
   simp only [go_sem,Nat.reduceEqDiff,Nat.reducePow,Nat.reduceDiv,Nat.reduceMod,reduceCtorEq,h27,hb2,appendA_U]
   exact FinV.dropO G0_ok hcl ov (h6.fzI fun i hi=>hi) hK
end Go.Proofs
set_option linter.unusedSimpArgs false
set_option maxRecDepth 100000
namespace Go.Proofs
open Go.Hx
def parN (d : InfP) (v : Nat) : Nat:=match d.nodes[v]? with
 | some x=>setN x.parents
 | none=>0
def recOk (d : InfP) (need v : Nat) : Prop:=need.testBit v=false∧parN d v &&& need=need∧parN d v &&& d.decs=need &&& d.decs
instance (d : InfP) (need v : Nat) : Decidable (recOk d need v):=by unfold recOk;infer_instance
def recNext (d : InfP) (need : Nat) : Option Nat:=(decL d).find? fun v=>decide (recOk d need v)
def recGo (d : InfP) : Nat→Nat→List Nat→Option (List Nat)
 | 0,need,out=>if need &&& d.decs=d.decs then some out else none
 | f+1,need,out=>if need &&& d.decs=d.decs then some out else match recNext d need with
  | none=>none
  | some v=>recGo d f (need ||| (parN d v ||| 2 ^ v)) (out++[v])
def recL (d : InfP) : Option (List Nat):=recGo d (decL d).length 0 []
theorem set_spec (l : List Int) (hl : (l.length : Int)<2 ^ 39) (hp : ∀ q∈l,0≤q∧q<64) (H : AHeap) (K : ARes→AHeap→Prop) (hK : K (.ret (bitV (setN l))) H) : ACall Try.prog G0 72 [vecI l] H K:=by
 refine ACall.of_body (n:=18) (rs:=[.tmp 2]) Try.func72 rfl rfl rfl (by decide) (by kernel_rfl) (by simp) ?_
 simp only [go_sem,Nat.reduceEqDiff,reduceCtorEq,appendA_U]
 refine W.loop0 130856 (by rfl) (fun ρ Hx=>Hx=H∧∃ j : Nat,ρ 8=lin j∧j≤l.length∧ρ 3=bitV (setN (l.take j))) (fun ρ H=>l.length - (iv (ρ 8)).toNat) ?_ ?_
 ·simp only [go_sem,Nat.reduceEqDiff,appendA_U]
  exact ⟨0,rfl,by omega,rfl⟩
 rintro ρ Hx ⟨rfl,j,h8,hj,h3⟩
 refine vc_sound _ _ _ (by rfl) ?_
 by_cases hb : (j : Int)<l.length
 ·obtain ⟨q,hq⟩:=get_of_lt (l:=l) (i:=j) (by omega)
  obtain ⟨q0,q1⟩:=hp q (List.mem_of_getElem? hq)
  obtain ⟨u,rfl⟩:=Int.eq_ofNat_of_zero_le q0
  have hne:=ne_of_get hq
  have w1:=IntWalk.i64_in ((j : Int)+1) (by omega)
  have b1 : setN (l.take j)<2 ^ 64:=setN_lt fun p h=>by have:=hp p (List.mem_of_mem_take h);omega
  have s1:=fun t x y=>shlB (P:=Try.prog) (t:=t) (x:=x) (y:=y) (k':=.i64) (s:=u) (by omega)
  have s2:=fun t x y=>orB (P:=Try.prog) (t:=t) (x:=x) (y:=y) (b:=2 ^ u) b1 (Nat.pow_lt_pow_right (by decide) (by omega))
  simp only [go_sem,Nat.reduceEqDiff,Nat.reducePow,Nat.reduceDiv,Nat.reduceMod,reduceCtorEq,h8,h3,hb,hq,hne,w1,s1,s2,appendA_U]
  exact ⟨⟨j+1,rfl,by omega,by rw [take_succ_get hq,setN_snoc];rfl⟩,by omega⟩
 ·simp only [go_sem,Nat.reduceEqDiff,Nat.reducePow,Nat.reduceDiv,Nat.reduceMod,reduceCtorEq,h8,h3,hb,appendA_U]
  rw [List.take_of_length_le (by omega)]
  exact FinV.mk (Nat.le_refl _) hK
noncomputable def recE (d : InfP) : Int:=if decB (InfOk d) then (if (recL d).isSome then 0 else 4) else 200
noncomputable def recV (d : InfP) : List Nat:=if recE d=0 then (recL d).getD [] else []
theorem nat_ne {a b : Nat} (h : ¬ a=b) : ¬ (a : Int)=(b : Int):=by omega
theorem recNext_some {d : InfP} {need v : Nat} (h : recNext d need=some v) : v∈decL d∧recOk d need v:=by
 unfold recNext at h
 exact ⟨List.mem_of_find?_eq_some h,of_decide_eq_true (List.find?_some (p:=fun v=>decide (recOk d need v)) h)⟩

theorem nodup_sub_len {l : List Nat} : ∀ {m : List Nat},l.Nodup→(∀ x∈l,x∈m)→l.length≤m.length:=by
 induction l with
 | nil=>intro m _ _;simp
 | cons a l ih =>
  intro m hd hs
  obtain ⟨h1,h2⟩:=List.nodup_cons.1 hd
  have ha:=hs a (by simp)
  have:=ih (m:=m.erase a) h2 fun x hx=>(List.mem_erase_of_ne (by rintro rfl;exact h1 hx)).2 (hs x (by simp [hx]))
  rw [List.length_erase_of_mem ha] at this
  have hm : 0<m.length:=List.length_pos_of_mem ha
  simp only [List.length_cons]
  omega
theorem find_at {p : Nat→Bool} : ∀ {l : List Nat} {k v : Nat},l[k]?=some v→p v=true→(∀ j w,j<k→l[j]?=some w→p w=false)→l.find? p=some v:=by
 intro l
 induction l with
 | nil=>intro k v h;simp at h
 | cons a l ih =>
  intro k v h hp hno
  cases k with
  | zero =>
   simp only [List.getElem?_cons_zero,Option.some.injEq] at h
   subst h
   rw [List.find?_cons_of_pos hp]
  | succ k =>
   have h0:=hno 0 a (by omega) rfl
   rw [List.find?_cons_of_neg (by rw [h0];simp)]
   exact ih (by simpa using h) hp fun j w hj hw=>hno (j+1) w (by omega) (by simpa using hw)
theorem mem_decL {d : InfP} {v : Nat} : v∈decL d↔v<d.nodes.length∧d.decs.testBit v=true:=mem_decK
theorem and_decs {d : InfP} (hR : RightN d) {need : Nat} : need &&& d.decs=d.decs↔∀ v∈decL d,need.testBit v=true:=by
 constructor
 ·intro h v hv
  have hb:=(mem_decL.1 hv).2
  rw [← h,Nat.testBit_and] at hb
  simp only [Bool.and_eq_true] at hb
  exact hb.1
 ·intro h
  refine Nat.eq_of_testBit_eq fun i=>?_
  rw [Nat.testBit_and]
  cases hb : d.decs.testBit i with
  | false=>simp
  | true=>rw [h i (mem_decL.2 ⟨bit_lt (decs_lt hR) hb,hb⟩)];rfl

set_option maxHeartbeats 4000000 in
theorem recall_spec (d : InfP) (hf : InfFit d) (H : AHeap) (K : ARes→AHeap→Prop) (hK : K (.ret (.tup [vecI (natsI (recV d)),lin (recE d)])) H) : ACall Try.prog G0 28 [infV d] H K:=by
 refine ACall.clo ⟨_,Try.func28,rfl,rfl⟩ fun hcl=>?_
 refine ACall.of_body (n:=77) (rs:=[.tmp 2,.tmp 3]) Try.func28 rfl rfl rfl (by decide) (by kernel_rfl) (by simp) ?_
 simp only [go_sem,Nat.reduceEqDiff,Nat.reduceAdd,infV_eq,infC,appendA_U]
 obtain ⟨H1,hH1⟩ : ∃ H1,H1=ext H [.arr 0 39 (infC d)]:=⟨_,rfl⟩
 have g1 : H1.get H.next=some (.arr 0 39 (infC d)):=by rw [hH1];exact get_ext0 ..
 have n1 : H1.next=H.next+1:=by rw [hH1];rfl
 have o1 : Over H H1:=by rw [hH1];exact .ext _ _
 unfold infC at hH1
 rw [← hH1]
 refine AApply.clo (infCheck_spec d hf _ _ ⟨trivial,?_⟩)
 have nilF : ∀ {Hx : AHeap} (e : Int),recE d=e→e≠0→Over H Hx→FinV Try.prog G0 H K (.tup [.lit (.slice none 0 0),.lit (.int .i64 e)]) Hx:=fun {Hx} e he h0 ov=>by
  have ev : recV d=[]:=by unfold recV;rw [he,if_neg h0]
  rw [ev,he] at hK
  refine FinV.dropO G0_ok hcl ov ?_ hK
  exact .tup rfl fun i hi _=>match i,hi with
   | 0,_=>.nil
   | 1,_=>.lit _
 by_cases hok : InfOk d
 rotate_left
 ·rw [decB_false hok]
  simp only [go_sem,Int.reduceEq,Nat.reduceEqDiff,appendA_U]
  exact nilF 200 (by unfold recE;rw [decB_false hok];rfl) (by decide) o1
 rw [decB_true hok]
 have hRn:=hok.n
 have hn8:=hRn.n1.2
 have hD:=hf.decs
 simp only [go_sem,Nat.reduceEqDiff,appendA_U]
 obtain ⟨R,hR⟩ : ∃ R,R=ext H1 [.arr 0 36 [.lit (.int .u64 0)]]:=⟨_,rfl⟩
 have nR : R.next=H.next+2:=by rw [hR,ext_next,n1];rfl
 have oR : Over H1 R:=by rw [hR];exact .ext _ _
 have g6 : R.get (H.next+1)=some (.arr 0 36 [.lit (.int .u64 ((0 : Nat) : Int))]):=by rw [hR,← n1];exact ext1_get_new
 rw [← hR]
 have hdl : decK d.decs d.nodes.length=decL d:=rfl
 have dl8 : (decL d).length≤d.nodes.length:=decK_len
 have parb : ∀ v x,d.nodes[v]?=some x→d.decs.testBit v=true→(∀ q∈x.parents,0≤q∧q<64)∧(x.parents.length : Int)<2 ^ 39:=fun v x hx hb=>by
  obtain ⟨x1,x2⟩:=hRn.dec v x hx hb
  have:=len_atL hn8 x2 hRn.card
  exact ⟨fun q hq=>by have:=x2.2 q hq;omega,by omega⟩
 refine W.loop0 75557575495538205196460 (by rfl) (fun ρ Hx=>∃ (f need : Nat) (out : List Nat),need<2 ^ 64∧R.next≤Hx.next∧(∀ id,id<R.next→id≠H.next+1→Hx.get id=R.get id)∧Hx.get (H.next+1)=some (.arr 0 36 [.lit (.int .u64 (need : Int))])∧OwnG R.next Hx 3 (ρ 5) (ints (natsI out))∧out.length+f=(decL d).length∧recGo d f need out=recL d∧out.Nodup∧∀ v∈out,v∈decL d∧need.testBit v=true) (fun ρ H=>(decL d).length - ownLen (ρ 5)) ?_ ?_
 ·simp only [go_sem,Nat.reduceEqDiff,Nat.reducePow,appendA_U]
  exact ⟨(decL d).length,0,[],by decide,g6,.nil,by simp,rfl,by simp,fun v h=>by cases h⟩
 rintro ρ Hx ⟨f,need,out,hnd,hnx,hold,hg6,hO,hfl,hgo,hond,hom⟩
 obtain ⟨ov,hov⟩ : ∃ ov,ov=ρ 5:=⟨_,rfl⟩
 rw [← hov] at hO
 refine W.env fun E hE=>?_
 have e1 : E 1=.ptr H.next 0 0:=by rw [hE];simp only [go_sem,Nat.reduceEqDiff,Nat.reducePow,Nat.reduceDiv,Nat.reduceMod,reduceCtorEq,appendA_U]
 have e5 : E 5=ov:=by rw [hE];simp only [go_sem,Nat.reduceEqDiff,Nat.reducePow,Nat.reduceDiv,Nat.reduceMod,hov,appendA_U]
 have e6 : E 6=.ptr (H.next+1) 0 0:=by rw [hE,← n1];simp only [go_sem,Nat.reduceEqDiff,Nat.reducePow,Nat.reduceDiv,Nat.reduceMod,reduceCtorEq,appendA_U]
 clear hE
 refine vc_sound _ _ _ (by rfl) ?_
 have x1:=get_live ((hold H.next (by omega) (by omega)).trans ((oR.old _ (by omega)).trans g1))
 have x6:=get_live hg6
 unfold infC at x1
 have a1:=fun t x y=>andB (P:=Try.prog) (t:=t) (x:=x) (y:=y) hnd hD
 by_cases hdone : need &&& d.decs=d.decs
 ·have hdi : ((need &&& d.decs : Nat) : Int)=(d.decs : Int):=by rw [hdone]
  have hrl : recL d=some out:=by
   rw [← hgo]
   cases f with
   | zero=>unfold recGo;rw [if_pos hdone]
   | succ f=>unfold recGo;rw [if_pos hdone]
  simp only [go_sem,Nat.reduceEqDiff,Nat.reducePow,Nat.reduceDiv,Nat.reduceMod,e1,e5,e6,x1,x6,a1,hdi,appendA_U]
  have re : recE d=0:=by unfold recE;rw [decB_true hok,hrl];rfl
  have rv : recV d=out:=by unfold recV;rw [if_pos re,hrl];rfl
  rw [re,rv] at hK
  refine FinV.dropO (v':=.tup [vecI (natsI out),lin 0]) G0_ok hcl ⟨by omega,fun id h=>by rw [hold id (by omega) (by omega),oR.old _ (by omega)];exact o1.old id h⟩ (.tup rfl fun i hi _=>?_) hK
  match i,hi with
  | 0,_=>exact hO.fzI fun i h=>by omega
  | 1,_=>exact .lit _
 have hdi : ¬ ((need &&& d.decs : Nat) : Int)=(d.decs : Int):=nat_ne hdone
 obtain ⟨f,rfl⟩ : ∃ g,f=g+1:=by
  cases f with
  | succ g=>exact ⟨g,rfl⟩
  | zero =>
   exfalso
   refine hdone ((and_decs hRn).2 fun v hv=>?_)
   refine Classical.byContradiction fun hno=>?_
   have hvo : v ∉ out:=fun hm=>hno (hom v hm).2
   have:=nodup_sub_len (l:=v :: out) (m:=decL d) (List.nodup_cons.2 ⟨hvo,hond⟩) fun x hx=>by
    rcases List.mem_cons.1 hx with rfl|hx
    ·exact hv
    ·exact (hom x hx).1
   simp at this
   omega
 have x1e : ∀ L,(ext Hx L).live H.next 0=_:=fun L=>(ext_live_old (by omega)).trans x1
 simp only [go_sem,Nat.reduceEqDiff,Nat.reducePow,Nat.reduceDiv,Nat.reduceMod,Nat.reduceAdd,e1,e5,e6,x1,x6,a1,hdi,x1e,appendA_U]
 refine AApply.clo (dec_clo d _ _ ⟨trivial,?_⟩)
 simp only [go_sem,appendA_U]
 obtain ⟨Q0,hQ0⟩ : ∃ Q0,Q0=ext (ext Hx [.arr 0 3 [.lit (.int .i64 (-1))]]) [infB d]:=⟨_,rfl⟩
 rw [← hQ0]
 have nQ : Q0.next=Hx.next+2:=by rw [hQ0,ext_next,ext_next];rfl
 have oQ : Over Hx Q0:=by rw [hQ0];exact (Over.ext _ _).trans (.ext _ _)
 have e1n : (ext Hx [.arr 0 3 [.lit (.int .i64 (-1))]]).next=Hx.next+1:=rfl
 have gbx : Q0.get (Hx.next+1)=some (infB d):=by rw [hQ0,← e1n];exact ext1_get_new
 have g7 : Q0.get Hx.next=some (.arr 0 3 [.lit (.int .i64 (-1))]):=by rw [hQ0,get_ext_old _ _ _ (by omega)];exact ext1_get_new
 refine W.env fun E2 hE2=>?_
 have f1 : E2 1=.ptr H.next 0 0:=by rw [hE2];simp only [go_sem,Nat.reduceEqDiff,e1,appendA_U]
 have f5 : E2 5=ov:=by rw [hE2];simp only [go_sem,Nat.reduceEqDiff,e5,appendA_U]
 have f6 : E2 6=.ptr (H.next+1) 0 0:=by rw [hE2];simp only [go_sem,Nat.reduceEqDiff,e6,appendA_U]
 have f7 : E2 7=.ptr Hx.next 0 0:=by rw [hE2];simp only [go_sem,Nat.reduceEqDiff,appendA_U]
 have f24 : E2 24=.clo 89 [] [.ptr (Hx.next+1) 0 0]:=by rw [hE2,← e1n];rfl
 clear hE2
 have x6' : ∀ {Hy : AHeap},(∀ id,id<Q0.next→id≠Hx.next→Hy.get id=Q0.get id)→Hy.live H.next 0=some (39,infC d)∧Hy.live (H.next+1) 0=some (36,[.lit (.int .u64 (need : Int))]):=fun h=>by
  refine ⟨get_live ?_,get_live ?_⟩
  ·rw [h _ (by omega) (by omega),oQ.old _ (by omega),hold _ (by omega) (by omega),oR.old _ (by omega)];exact g1
  ·rw [h _ (by omega) (by omega),oQ.old _ (by omega)];exact hg6
 refine W.rangeIt (f:=89) (first:=[]) (cap:=[.ptr (Hx.next+1) 0 0]) (by show E2 24=_;exact f24) (dec_it d (by have:=hf.nodes.1;omega) hD (Hx.next+1))
  (fun k Hy=>Q0.next≤Hy.next∧(∀ id,id<Q0.next→Hy.get id=Q0.get id)∧∀ j v,j<k→(decL d)[j]?=some v→¬ recOk d need v)
  (fun c Hy=>c=.exit 2∧Q0.next≤Hy.next∧(∀ id,id<Q0.next→id≠Hx.next→Hy.get id=Q0.get id)∧∃ v : Nat,recNext d need=some v∧Hy.get Hx.next=some (.arr 0 3 [.lit (.int .i64 (v : Int))]))
  (fun k Hy h=>by rw [h.2.1 _ (by omega)];exact gbx)
  (fun k Hy b h=>⟨h.1,fun id h1=>by rw [upd_get,if_neg (by omega)];exact h.2.1 id h1,h.2.2⟩)
  (fun c Hy b h=>⟨h.1,h.2.1,fun id h1 h2=>by rw [upd_get,if_neg (by omega)];exact h.2.2.1 id h1 h2,by
   obtain ⟨v,hv,hg⟩:=h.2.2.2
   exact ⟨v,hv,by rw [upd_get,if_neg (by omega)];exact hg⟩⟩)
  (fun b=>⟨by rw [ext_next];omega,fun id h1=>ext1_get_old h1,fun j v h=>absurd h (Nat.not_lt_zero _)⟩)
  (by decide) decX_two (fun _ _ _=>trivial) (fun _ _ _=>trivial) (fun k y Hy B Bb hy hj hn hB hBb=>?_) (fun Hy hj hn=>?_) (fun Hy hs hn=>by cases hs.1) (fun i Hy hs hn=>?_)
 ·obtain ⟨v,hv,rfl⟩:=decX_get hy
  obtain ⟨v1,v2,v3⟩:=decK_place hv
  obtain ⟨x,hx⟩:=get_of_lt (l:=d.nodes) (i:=v) v1
  have hpb:=parb v x hx v2
  have hpv : setN x.parents=parN d v:=by unfold parN;rw [hx]
  have hp64 : parN d v<2 ^ 64:=by rw [← hpv];exact setN_lt hpb.1
  have hne:=nodesC_ne hx
  have ec:=nodesC_1 hx
  have hvn : (v : Int)<d.nodes.length:=by omega
  obtain ⟨hyn,hyo,hyno⟩:=hj
  refine vc_sound _ _ _ (by rfl) ?_
  simp only [go_sem,Nat.reduceEqDiff,Nat.reduceLT,setPs,envN,asgIt,List.foldl_cons,List.foldl_nil,List.zip_cons_cons,List.zip_nil_right,hB,appendA_U]
  obtain ⟨H3,hH3⟩ : ∃ H3,H3=Hy.upd Q0.next Bb:=⟨_,rfl⟩
  rw [← hH3]
  obtain ⟨st,pd,n',en,ps',as',bo,hBe⟩:=hBb
  have n3 : H3.next=Hy.next:=by rw [hH3];rfl
  have o3 : ∀ id,id<Q0.next→H3.get id=Q0.get id:=fun id h=>by rw [hH3,upd_get,if_neg (by omega)];exact hyo id h
  have jB : H3.get Q0.next=some Bb:=by rw [hH3,upd_get,if_pos rfl]
  obtain ⟨y1,y6⟩:=x6' (Hy:=H3) fun id h1 _=>o3 id h1
  have y7:=get_live ((o3 Hx.next (by omega)).trans g7)
  unfold infC at y1
  refine W.env fun E1 hE1=>?_
  have m1 : E1 1=.ptr H.next 0 0:=by rw [hE1];simp only [go_sem,Nat.reduceEqDiff,Nat.reduceLT,envN,f1,appendA_U]
  have m6 : E1 6=.ptr (H.next+1) 0 0:=by rw [hE1];simp only [go_sem,Nat.reduceEqDiff,Nat.reduceLT,envN,f6,appendA_U]
  have m7 : E1 7=.ptr Hx.next 0 0:=by rw [hE1];simp only [go_sem,Nat.reduceEqDiff,Nat.reduceLT,envN,f7,appendA_U]
  have m9 : E1 9=lin v:=by rw [hE1];simp only [go_sem,Nat.reduceEqDiff,Nat.reduceLT,envN,appendA_U]
  clear hE1
  have go : recOk d need v∨¬ recOk d need v:=Classical.em _
  have s1:=fun t x y=>shrB (P:=Try.prog) (t:=t) (x:=x) (y:=y) (k':=.i64) (s:=v) hnd
  have s2:=fun t x y=>bit1 (P:=Try.prog) (t:=t) (x:=x) (y:=y) (s:=v) hnd
  have s3:=fun t x y=>andB (P:=Try.prog) (t:=t) (x:=x) (y:=y) hp64 hnd
  have s4:=fun t x y=>andB (P:=Try.prog) (t:=t) (x:=x) (y:=y) hp64 hD
  have fin : ¬ recOk d need v→H3.get Q0.next=some Bb∧Hy.next≤H3.next∧Q0.next≤H3.next∧(∀ id,id<Q0.next→H3.get id=Q0.get id)∧∀ j w,j<k+1→(decL d)[j]?=some w→¬ recOk d need w:=fun h =>
   ⟨jB,by omega,by omega,o3,fun j w hj hw=>by
    rcases Nat.lt_or_ge j k with h'|h'
    ·exact hyno j w h' hw
    ·obtain rfl : j=k:=by omega
     rw [hv] at hw
     cases hw
     exact h⟩
  refine vc_sound _ _ _ (by rfl) ?_
  simp only [go_sem,Nat.reduceEqDiff,m1,m9,y1,hvn,hne,ec,appendA_U]
  refine AApply.clo (set_spec x.parents hpb.2 hpb.1 _ _ ⟨⟨st,pd,n',en,ps',as',bo,by rw [jB,hBe]⟩,?_⟩)
  rw [hpv]
  cases c1 : need.testBit v
  rotate_left
  ·simp only [go_sem,Int.reduceEq,Nat.reduceEqDiff,m1,m6,m7,m9,y1,y6,y7,s1,s2,c1,guardA_undef,bodyIt,appendA_U]
   exact fin fun h=>by have:=h.1;rw [c1] at this;cases this
  by_cases c2 : parN d v &&& need=need
  rotate_left
  ·have c2i:=nat_ne c2
   simp only [go_sem,Nat.reduceEqDiff,m1,m6,m7,m9,y1,y6,y7,s1,s2,s3,c1,c2i,guardA_undef,bodyIt,appendA_U]
   exact fin fun h=>c2 h.2.1
  have c2i : ((parN d v &&& need : Nat) : Int)=(need : Int):=by rw [c2]
  by_cases c3 : parN d v &&& d.decs=need &&& d.decs
  rotate_left
  ·have c3i:=nat_ne c3
   simp only [go_sem,Nat.reduceEqDiff,m1,m6,m7,m9,y1,y6,y7,s1,s2,s3,s4,a1,c1,c2i,c3i,guardA_undef,bodyIt,appendA_U]
   exact fin fun h=>c3 h.2.2
  have c3i : ((parN d v &&& d.decs : Nat) : Int)=((need &&& d.decs : Nat) : Int):=by rw [c3]
  simp only [go_sem,Nat.reduceEqDiff,m1,m6,m7,m9,y1,y6,y7,s1,s2,s3,s4,a1,c1,c2i,c3i,guardA_undef,bodyIt,appendA_U]
  have hnx : recNext d need=some v:=find_at hv (decide_eq_true ⟨c1,c2,c3⟩) fun j w hj hw=>decide_eq_false (hyno j w hj hw)
  exact ⟨by rw [upd_get,if_neg (by omega)];exact jB,by rw [upd_next];omega,by rw [upd_next];omega,fun id h1 h2=>by rw [upd_get,if_neg h2];exact o3 id h1,v,hnx,by rw [upd_get,if_pos rfl]⟩
 ·obtain ⟨hyn,hyo,hyno⟩:=hj
  rw [decX_len] at hyno
  have hnone : recNext d need=none:=by
   unfold recNext
   rw [List.find?_eq_none]
   intro v hv
   obtain ⟨j,hj⟩:=List.mem_iff_getElem?.1 hv
   have:=hyno j v (get_lt hj) hj
   simpa using this
  have hrl : recL d=none:=by rw [← hgo];unfold recGo;rw [if_neg hdone,hnone]
  have y7:=get_live ((hyo Hx.next (by omega)).trans g7)
  simp only [go_sem,Int.reduceLT,Nat.reduceEqDiff,f7,y7,appendA_U]
  exact nilF 4 (by unfold recE;rw [decB_true hok,hrl];rfl) (by decide) ⟨by omega,fun id h=>by rw [hyo id (by omega),oQ.old _ (by omega),hold _ (by omega) (by omega),oR.old _ (by omega)];exact o1.old id h⟩
 ·obtain ⟨hc,hyn,hyo,v,hv,hg7⟩:=hs
  cases hc
  obtain ⟨hvm,hrk⟩:=recNext_some hv
  obtain ⟨v1,v2⟩:=mem_decL.1 hvm
  obtain ⟨x,hx⟩:=get_of_lt v1
  have hpb:=parb v x hx v2
  have hpv : setN x.parents=parN d v:=by unfold parN;rw [hx]
  have hp64 : parN d v<2 ^ 64:=by rw [← hpv];exact setN_lt hpb.1
  have hne:=nodesC_ne hx
  have ec:=nodesC_1 hx
  have hvn : (v : Int)<d.nodes.length:=by omega
  have v0 : ¬ (v : Int)<0:=by omega
  obtain ⟨y1,y6⟩:=x6' hyo
  have y7:=get_live hg7
  unfold infC at y1
  have oxy : ∀ id,id<Hx.next→Hy.get id=Hx.get id:=fun id h=>by rw [hyo id (by omega) (by omega)];exact oQ.old id h
  have hOy : OwnG R.next Hy 3 ov (ints (natsI out)):=hO.keep (Nat.le_refl _) (by omega) fun id g a b _ _=>oxy id b
  have hol:=own_ownLen hOy
  have nl : (natsI out).length=out.length:=by simp [natsI]
  rw [ints_length,nl] at hol
  obtain ⟨ov',Hj,hA,hO',hnj,hpj⟩:=app_oneG (P:=Try.prog) (H:=Hy) (t:=59) (x:=lin v) (n:=Hy.next+1) Try.underlying59 Try.cells3 Try.zero3 rfl (by rw [Try.bytes3,ints_length,nl];omega) hOy (by omega) rfl
  simp only [lin] at hA
  have keep : ∀ id,id<R.next→Hj.get id=Hy.get id:=fun id h=>hpj id (by omega) (hOy.ne h)
  have keep7 : Hj.get Hx.next=Hy.get Hx.next:=hpj _ (by omega) fun g n he=>by
   rcases hO with ⟨h,_⟩|⟨i,g2,a1,a2,h,_⟩
   ·rw [h] at he;cases he
   ·rw [h] at he;have:=(AVal.own.inj he).1;omega
  have j1 : Hj.live H.next 0=some (39,infC d):=get_live (by rw [keep _ (by omega),oxy _ (by omega),hold _ (by omega) (by omega),oR.old _ (by omega)];exact g1)
  unfold infC at j1
  have j6 : Hj.live (H.next+1) 0=_:=get_live (by rw [keep _ (by omega),oxy _ (by omega)];exact hg6)
  have j7 : Hj.live Hx.next 0=_:=get_live (keep7.trans hg7)
  have b2v : (2 : Nat) ^ v<2 ^ 64:=Nat.pow_lt_pow_right (by decide) (by omega)
  have s1:=fun t x y=>shlB (P:=Try.prog) (t:=t) (x:=x) (y:=y) (k':=.i64) (s:=v) (by omega)
  have s2:=fun t x y=>orB (P:=Try.prog) (t:=t) (x:=x) (y:=y) hp64 b2v
  have s3:=fun t x y=>orB (P:=Try.prog) (t:=t) (x:=x) (y:=y) hnd (Nat.or_lt_two_pow hp64 b2v)
  simp only [go_sem,Nat.reduceEqDiff,Nat.reducePow,Nat.reduceLeDiff,reduceCtorEq,f1,f5,f6,f7,y1,y6,y7,v0,hA]
  refine W.draw 11 [0,0,2,0,14,30,62,126,0,256,1022] Try.mixed (by kernel_rfl) (by kernel_rfl) ?_
  simp only [go_sem,Nat.reduceEqDiff,Nat.reducePow,Nat.reduceDiv,Nat.reduceMod,Nat.reduceAdd,reduceCtorEq,f1,f5,f6,f7,j1,j6,j7,hvn,hne,ec,v0,appendA_U]
  refine ⟨bitV (parN d v),[],PCall.pure fun H2=>by
   have:=set_spec x.parents hpb.2 hpb.1 H2 (fun r H3=>r=.ret (bitV (parN d v))∧H3=H2) ⟨by rw [hpv],rfl⟩
   exact this,?_⟩
  simp only [go_sem,Nat.reduceEqDiff,Nat.reducePow,Nat.reduceDiv,Nat.reduceMod,reduceCtorEq,f1,f5,f6,f7,j1,j6,j7,s1,s2,s3,appendA_U]
  have hO2 : OwnG R.next Hj 3 ov' (ints (natsI (out++[v]))):=by
   have e : natsI (out++[v])=natsI out++[(v : Int)]:=by simp [natsI]
   rw [e]
   simpa [ints,lin] using hO'
  have hol':=own_ownLen hO2
  have nl' : (natsI (out++[v])).length=out.length+1:=by simp [natsI]
  rw [ints_length,nl'] at hol'
  have hvo : v ∉ out:=fun hm=>by have:=(hom v hm).2;rw [hrk.1] at this;cases this
  refine ⟨by rw [upd_next];omega,⟨f,need ||| (parN d v ||| 2 ^ v),out++[v],Nat.or_lt_two_pow hnd (Nat.or_lt_two_pow hp64 b2v),by rw [upd_next];omega,fun id h1 h2=>by rw [upd_get,if_neg h2,keep _ h1,oxy _ (by omega)];exact hold id h1 h2,by rw [upd_get,if_pos rfl],hO2.keep (Nat.le_refl _) (by rw [upd_next];exact Nat.le_refl _) fun id g a _ _ _=>by rw [upd_get,if_neg (by omega)],by rw [List.length_append,List.length_singleton];omega,?_,List.nodup_append.2 ⟨hond,by simp,fun a ha b hb=>by obtain rfl:=List.mem_singleton.1 hb;rintro rfl;exact hvo ha⟩,fun w hw=>?_⟩,by rw [← hov,hol,hol'];omega⟩
  ·rw [← hgo]
   conv=>rhs;unfold recGo
   rw [if_neg hdone,hv]
  ·rcases List.mem_append.1 hw with h|h
   ·exact ⟨(hom w h).1,by rw [Nat.testBit_or,(hom w h).2];rfl⟩
   ·obtain rfl:=List.mem_singleton.1 h
    exact ⟨hvm,by rw [Nat.testBit_or,Nat.testBit_or,Nat.testBit_two_pow_self];simp⟩
end Go.Proofs
set_option linter.unusedSimpArgs false
set_option maxRecDepth 100000
namespace Go.Proofs
open Go.Hx
theorem valsL_app (a b : List Int) (i : Int) : (valsL (a++b) i).take a.length++valsL b i=valsL (a++b) i:=by
 induction a with
 | nil=>simp
 | cons c a ih =>
  show ((i / prodL (a++b) % c) :: valsL (a++b) i).take (a.length+1)++valsL b i=_
  rw [List.take_succ_cons,List.cons_append,ih]
  rfl
theorem polI_flat (l : List (Int × Int)) (i : Int) : (polI l i).flatten=valsL (chOf l) i:=by
 induction l with
 | nil=>rfl
 | cons p l ih =>
  simp only [polI,List.flatten_cons,ih,chOf_cons]
  have h:=valsL_app (List.replicate p.1.toNat p.2) (chOf l) i
  rw [List.length_replicate] at h
  exact h
theorem valsL_mod {cs : List Int} (h : ∀ c∈cs,1≤c) : ∀ i : Int,valsL cs (i % prodL cs)=valsL cs i:=by
 induction cs with
 | nil=>intro i;rfl
 | cons c cs ih =>
  intro i
  have hp:=prodL_pos (l:=cs) fun x hx=>h x (by simp [hx])
  have hc:=h c (by simp)
  have ih':=ih fun x hx=>h x (by simp [hx])
  show ((i % prodL (c :: cs)) / prodL cs % c) :: valsL cs (i % prodL (c :: cs))=(i / prodL cs % c) :: valsL cs i
  rw [prodL_cons,Int.mul_comm]
  obtain ⟨d1,d2⟩:=digit_step (i:=i) hp hc
  rw [d1,Int.emod_emod_of_dvd _ (Int.dvd_refl c),← ih' (i % (prodL cs*c)),d2,ih']
theorem valsL_lt {cs : List Int} (h : ∀ c∈cs,1≤c) : ∀ {i j : Int},0≤i→i<j→j<prodL cs→ltL (valsL cs i) (valsL cs j):=by
 induction cs with
 | nil=>intro i j h0 h1 h2;rw [prodL_nil] at h2;omega
 | cons c cs ih =>
  intro i j h0 h1 h2
  have hc' : ∀ x∈cs,1≤x:=fun x hx=>h x (by simp [hx])
  have hp:=prodL_pos hc'
  have hc:=h c (by simp)
  rw [prodL_cons] at h2
  have q0:=Int.ediv_nonneg h0 (show 0≤prodL cs by omega)
  have q1 : i / prodL cs≤j / prodL cs:=Int.ediv_le_ediv (by omega) (by omega)
  have q2 : j / prodL cs<c:=Int.ediv_lt_of_lt_mul (by omega) h2
  have e1 : i / prodL cs % c=i / prodL cs:=Int.emod_eq_of_lt q0 (by omega)
  have e2 : j / prodL cs % c=j / prodL cs:=Int.emod_eq_of_lt (by omega) q2
  show i / prodL cs % c<j / prodL cs % c∨(i / prodL cs % c=j / prodL cs % c∧ltL (valsL cs i) (valsL cs j))
  rw [e1,e2]
  rcases Int.lt_or_eq_of_le q1 with hlt|heq
  ·exact .inl hlt
  ·refine .inr ⟨heq,?_⟩
   have m1:=Int.emod_add_mul_ediv i (prodL cs)
   have m2:=Int.emod_add_mul_ediv j (prodL cs)
   rw [heq] at m1
   have:=ih hc' (i:=i % prodL cs) (j:=j % prodL cs) (Int.emod_nonneg _ (by omega)) (by omega) (Int.emod_lt_of_pos _ (by omega))
   rwa [valsL_mod hc',valsL_mod hc'] at this
theorem polI_polOk {d : InfP} (h : InfOk d) (i : Int) : PolOk d (polI (rcL d) i) :=
 polOk_rows.2 (polI_ok (fun p hp=>⟨(rcL_rng h p hp).1,(rcL_rng h p hp).2.2.1⟩) i)

def needL (d : InfP) (l : List Nat) : Nat:=l.foldl (fun n v=>n ||| (parN d v ||| 2 ^ v)) 0
def allL (l : List Nat) : Nat:=l.foldl (fun n v=>n ||| 2 ^ v) 0
theorem needL_snoc (d : InfP) (l : List Nat) (v : Nat) : needL d (l++[v])=needL d l ||| (parN d v ||| 2 ^ v):=by unfold needL;rw [List.foldl_append];rfl
theorem allL_snoc (l : List Nat) (v : Nat) : allL (l++[v])=allL l ||| 2 ^ v:=by unfold allL;rw [List.foldl_append];rfl
/-- An order of decisions. -/
def RecR (d : InfP) (r : List Nat) : Prop:=∀ (i v : Nat),r[i]?=some v→v∈decL d∧recOk d (needL d (r.take i)) v
theorem recGo_facts {d : InfP} : ∀ (f need : Nat) (out r : List Nat),recGo d f need out=some r→need=needL d out→RecR d out→RecR d r∧needL d r &&& d.decs=d.decs:=by
 intro f
 induction f with
 | zero =>
  intro need out r h hn ho
  unfold recGo at h
  split at h
  ·rename_i hd
   cases h
   exact ⟨ho,by rw [← hn];exact hd⟩
  ·cases h
 | succ f ih =>
  intro need out r h hn ho
  unfold recGo at h
  split at h
  ·rename_i hd
   cases h
   exact ⟨ho,by rw [← hn];exact hd⟩
  ·split at h
   ·cases h
   ·rename_i v hv
    obtain ⟨h1,h2⟩:=recNext_some hv
    refine ih _ _ r h (by rw [needL_snoc,hn]) fun i w hw=>?_
    have hl:=get_lt hw
    rw [List.length_append,List.length_singleton] at hl
    rcases Nat.lt_or_ge i out.length with hi|hi
    ·rw [List.getElem?_append_left hi] at hw
     rw [List.take_append_of_le_length (by omega)]
     exact ho i w hw
    ·obtain rfl : i=out.length:=by omega
     simp only [List.getElem?_concat_length,Option.some.injEq] at hw
     subst hw
     rw [List.take_append_of_le_length (Nat.le_refl _),List.take_of_length_le (Nat.le_refl _),← hn]
     exact ⟨h1,h2⟩
theorem recL_facts {d : InfP} {r : List Nat} (h : recL d=some r) : RecR d r∧needL d r &&& d.decs=d.decs :=
 recGo_facts _ 0 [] r h rfl fun i v hv=>by simp at hv
theorem pow_and_decs {d : InfP} {v : Nat} (hv : v∈decL d) : 2 ^ v &&& d.decs=2 ^ v:=by
 refine Nat.eq_of_testBit_eq fun i=>?_
 rw [Nat.testBit_and,Nat.testBit_two_pow]
 by_cases h : v=i
 ·subst h;rw [(mem_decL.1 hv).2];simp
 ·simp [h]
theorem and_or (a b c : Nat) : (a ||| b) &&& c=(a &&& c) ||| (b &&& c):=by
 refine Nat.eq_of_testBit_eq fun i=>?_
 simp only [Nat.testBit_and,Nat.testBit_or]
 cases a.testBit i<;>cases b.testBit i<;>cases c.testBit i<;>rfl
theorem RecR.all {d : InfP} {r : List Nat} (h : RecR d r) : ∀ k,k≤r.length→needL d (r.take k) &&& d.decs=allL (r.take k):=by
 intro k
 induction k with
 | zero=>intro _;simp [needL,allL]
 | succ k ih =>
  intro hk
  obtain ⟨v,hv⟩:=get_of_lt (l:=r) (i:=k) (by omega)
  obtain ⟨h1,h2,h3,h4⟩:=h k v hv
  rw [take_succ_get hv,needL_snoc,allL_snoc,and_or,and_or,h4,pow_and_decs h1,ih (by omega)]
  refine Nat.eq_of_testBit_eq fun i=>?_
  simp only [Nat.testBit_or]
  cases (allL (r.take k)).testBit i<;>simp
theorem RecR.end' {d : InfP} {r : List Nat} (h : RecR d r) (hd : needL d r &&& d.decs=d.decs) : allL r=d.decs:=by
 have:=h.all r.length (Nat.le_refl _)
 rw [List.take_of_length_le (Nat.le_refl _),hd] at this
 exact this.symm
theorem RecR.new {d : InfP} {r : List Nat} (h : RecR d r) {k v : Nat} (hv : r[k]?=some v) : (allL (r.take k)).testBit v=false:=by
 obtain ⟨h1,h2,_⟩:=h k v hv
 rw [← h.all k (by have:=get_lt hv;omega),Nat.testBit_and,h2]
 rfl
theorem sub_of_and {a b : Nat} (h : a &&& b=b) : Sub b a:=fun i hi=>by
 rw [← h,Nat.testBit_and] at hi
 simp only [Bool.and_eq_true] at hi
 exact hi.1
theorem needL_lt {d : InfP} (hR : RightN d) {l : List Nat} (hl : ∀ v∈l,v∈decL d) : needL d l<2 ^ d.nodes.length:=by
 have key : ∀ (l : List Nat) (n : Nat),n<2 ^ d.nodes.length→(∀ v∈l,v∈decL d)→l.foldl (fun n v=>n ||| (parN d v ||| 2 ^ v)) n<2 ^ d.nodes.length:=by
  intro l
  induction l with
  | nil=>exact fun n h _=>h
  | cons v l ih =>
   intro n h hv
   obtain ⟨v1,v2⟩:=mem_decL.1 (hv v (by simp))
   obtain ⟨x,hx⟩:=get_of_lt v1
   have hp : parN d v<2 ^ d.nodes.length:=by unfold parN;rw [hx];exact setN_lt fun p hp=>(hR.dec v x hx v2).2.2 p hp
   exact ih _ (Nat.or_lt_two_pow h (Nat.or_lt_two_pow hp (Nat.pow_lt_pow_right (by decide) v1))) fun w hw=>hv w (by simp [hw])
 exact key l 0 (Nat.two_pow_pos _) hl
theorem needL_bit {d : InfP} {l : List Nat} {i : Nat} : (needL d l).testBit i=true↔∃ v∈l,(parN d v ||| 2 ^ v).testBit i=true:=by
 have key : ∀ (l : List Nat) (n : Nat),(l.foldl (fun n v=>n ||| (parN d v ||| 2 ^ v)) n).testBit i=true↔n.testBit i=true∨∃ v∈l,(parN d v ||| 2 ^ v).testBit i=true:=by
  intro l
  induction l with
  | nil=>intro n;simp
  | cons v l ih =>
   intro n
   rw [List.foldl_cons,ih,Nat.testBit_or,Bool.or_eq_true]
   simp only [List.mem_cons,exists_eq_or_imp]
   exact or_assoc
 have:=key l 0
 simpa [needL] using this

/-- Who remembers has an order. -/
theorem recall_some {d : InfP} (h : DrI true d) : (recL d).isSome=true:=by
 have hok:=h.ok
 have hR:=hok.n
 have hn8:=hR.n1.2
 obtain ⟨os,ho3,hom,hop⟩:=h.os
 have hop:=hop rfl
 have hsl : (setsL d.nodes).length=d.nodes.length:=by simp [setsL]
 have hpl : ∀ x∈d.nodes,∀ q∈x.parents,0≤q∧q<(d.nodes.length : Int):=fun x hx=>by
  obtain ⟨v,hv⟩:=List.mem_iff_getElem?.1 hx
  have:=(hok.net.node _ (List.mem_of_getElem? (fillL_get (c:=fun _ _=>0) hv))).2.2
  rw [(fillN_card ..).2,fillL_len] at this
  exact this
 have hs8 : ∀ p∈setsL d.nodes,p<2 ^ (setsL d.nodes).length:=by rw [hsl];exact setsL_lt hpl
 have hac : AcycB (setsL d.nodes):=by have:=hok.net.acyc;rwa [fillL_sets] at this
 obtain ⟨r,hr⟩:=Option.isSome_iff_exists.1 ((topo_iff hs8 (by omega)).2 hac)
 have hT:=topoR (fun p hp=>Nat.lt_of_lt_of_le (hs8 p hp) (Nat.pow_le_pow_right (by decide) (by omega))) hr
 have hcov : ∀ v,v<d.nodes.length→∃ i,r[i]?=some v:=fun v hv=>by
  refine List.mem_iff_getElem?.1 (Classical.byContradiction fun hno=>?_)
  have:=nodup_len d.nodes.length (v :: r) (List.nodup_cons.2 ⟨hno,hT.nd⟩) fun u hu=>by
   rcases List.mem_cons.1 hu with rfl|hu
   ·exact hv
   ·have:=hT.rng u hu;omega
  rw [List.length_cons,hT.len] at this
  omega
 have hpn : ∀ v,v<d.nodes.length→parN d v=(setsL d.nodes).getD v 0:=fun v hv=>by
  obtain ⟨x,hx⟩:=get_of_lt hv
  unfold parN
  rw [hx,getD_of_get (setsL_get hx)]
 have step : ∀ (i u v : Nat),v<d.nodes.length→r[i]?=some v→(parN d v).testBit u=true→∃ j,j<i∧r[j]?=some u:=fun i u v hv hi hu=>hT.rk i v hi u (by rw [← hpn v hv];exact hu)
 have noself : ∀ v,v<d.nodes.length→(parN d v).testBit v=false:=fun v hv=>by
  cases hb : (parN d v).testBit v with
  | false=>rfl
  | true =>
   obtain ⟨i,hi⟩:=hcov v hv
   obtain ⟨j,h1,h2⟩:=step i v v hv hi hb
   have : j=i:=(List.getElem?_inj (get_lt h2) hT.nd).1 (by rw [h2,hi])
   omega
 have nocyc : ∀ u v,u<d.nodes.length→v<d.nodes.length→(parN d v).testBit u=true→(parN d u).testBit v=false:=fun u v hu hv h1=>by
  cases hb : (parN d u).testBit v with
  | false=>rfl
  | true =>
   obtain ⟨i,hi⟩:=hcov v hv
   obtain ⟨j,j1,j2⟩:=step i u v hv hi h1
   obtain ⟨k,k1,k2⟩:=step j v u hu j2 hb
   have : k=i:=(List.getElem?_inj (get_lt k2) hT.nd).1 (by rw [k2,hi])
   omega
 have hol : ∀ v∈os,v<d.nodes.length∧v∈decL d:=fun v hv=>by
  have hb:=(hom v).1 hv
  have:=bit_lt (decs_lt hR) hb
  exact ⟨this,mem_decL.2 ⟨this,hb⟩⟩
 have hbef : ∀ (i j u v : Nat),i<j→os[i]?=some u→os[j]?=some v→Sub (parN d u ||| 2 ^ u) (parN d v):=fun i j u v hij hu hv=>by
  have hi:=get_lt hu
  have hj:=get_lt hv
  obtain ⟨x,hx⟩:=get_of_lt (hol u (List.mem_of_getElem? hu)).1
  obtain ⟨y,hy⟩:=get_of_lt (hol v (List.mem_of_getElem? hv)).1
  have:=List.pairwise_iff_getElem.1 hop i j hi hj hij
  rw [List.getElem?_eq_getElem hi] at hu
  rw [List.getElem?_eq_getElem hj] at hv
  rw [Option.some.inj hu,Option.some.inj hv] at this
  have:=this x y hx hy
  unfold parN
  rw [hx,hy]
  exact this
 have hnd : os.Nodup:=by
  refine List.pairwise_iff_getElem.2 fun i j hi hj hij e=>?_
  have h1:=hbef i j os[i] os[j] hij (List.getElem?_eq_getElem hi) (List.getElem?_eq_getElem hj)
  have h2:=h1 os[i] (by rw [Nat.testBit_or,Nat.testBit_two_pow_self];simp)
  rw [← e,noself _ (hol _ (List.getElem_mem hi)).1] at h2
  cases h2
 have hlen : (decL d).length=os.length:=by
  refine Nat.le_antisymm (nodup_sub_len ?_ fun v hv=>(hom v).2 (mem_decL.1 hv).2) (nodup_sub_len hnd fun v hv=>(hol v hv).2)
  exact List.nodup_range.filter _
  -- the next decision
 have nx : ∀ (k v : Nat),os[k]?=some v→recNext d (needL d (os.take k))=some v:=fun k v hv=>by
  have hvm:=hol v (List.mem_of_getElem? hv)
  have tk : ∀ u,u∈os.take k→∃ i,i<k∧os[i]?=some u:=fun u hu=>by
   obtain ⟨i,hi⟩:=List.mem_iff_getElem?.1 hu
   have:=get_lt hi
   rw [List.length_take] at this
   rw [List.getElem?_take_of_lt (by omega)] at hi
   exact ⟨i,by omega,hi⟩
  have notin : (needL d (os.take k)).testBit v=false:=by
   cases hb : (needL d (os.take k)).testBit v with
   | false=>rfl
   | true =>
    exfalso
    obtain ⟨u,hu,hb⟩:=needL_bit.1 hb
    obtain ⟨i,hi,hiu⟩:=tk u hu
    have hum:=(hol u (List.mem_of_getElem? hiu)).1
    have huv:=hbef i k u v hi hiu hv u (by rw [Nat.testBit_or,Nat.testBit_two_pow_self];simp)
    rw [Nat.testBit_or,Nat.testBit_two_pow,Bool.or_eq_true,decide_eq_true_eq] at hb
    rcases hb with hb|rfl
    ·rw [nocyc u v hum hvm.1 huv] at hb;cases hb
    ·have : i=k:=(List.getElem?_inj (get_lt hiu) hnd).1 (by rw [hiu,hv])
     omega
  have hsub : Sub (needL d (os.take k)) (parN d v):=fun i hi=>by
   obtain ⟨u,hu,hb⟩:=needL_bit.1 hi
   obtain ⟨j,hj,hju⟩:=tk u hu
   exact hbef j k u v hj hju hv i hb
  have hdec : ∀ w,(parN d v).testBit w=true→d.decs.testBit w=true→(needL d (os.take k)).testBit w=true:=fun w hw hd=>by
   obtain ⟨j,hj⟩:=List.mem_iff_getElem?.1 ((hom w).2 hd)
   have hwm:=(hol w (List.mem_of_getElem? hj)).1
   rcases Nat.lt_trichotomy j k with hlt|heq|hgt
   ·exact needL_bit.2 ⟨w,List.mem_iff_getElem?.2 ⟨j,by rw [List.getElem?_take_of_lt hlt];exact hj⟩,by rw [Nat.testBit_or,Nat.testBit_two_pow_self];simp⟩
   ·subst heq
    rw [hv] at hj
    cases hj
    rw [noself _ hvm.1] at hw;cases hw
   ·have:=hbef k j v w hgt hv hj v (by rw [Nat.testBit_or,Nat.testBit_two_pow_self];simp)
    rw [nocyc w v hwm hvm.1 hw] at this;cases this
  have hok' : recOk d (needL d (os.take k)) v:=⟨notin,Nat.eq_of_testBit_eq fun i=>by
    rw [Nat.testBit_and]
    cases hb : (needL d (os.take k)).testBit i with
    | false=>simp
    | true=>rw [hsub i hb];rfl,Nat.eq_of_testBit_eq fun i=>by
    rw [Nat.testBit_and,Nat.testBit_and]
    cases hd : d.decs.testBit i with
    | false=>simp
    | true =>
     cases hb : (needL d (os.take k)).testBit i with
     | true=>rw [hsub i hb]
     | false =>
      cases hp : (parN d v).testBit i with
      | false=>rfl
      | true=>rw [hdec i hp hd] at hb;cases hb⟩
  have huniq : ∀ w,w∈decL d→recOk d (needL d (os.take k)) w→w=v:=fun w hw hwk=>by
   obtain ⟨j,hj⟩:=List.mem_iff_getElem?.1 ((hom w).2 (mem_decL.1 hw).2)
   rcases Nat.lt_trichotomy j k with hlt|heq|hgt
   ·have:=(needL_bit (d:=d) (l:=os.take k) (i:=w)).2 ⟨w,List.mem_iff_getElem?.2 ⟨j,by rw [List.getElem?_take_of_lt hlt];exact hj⟩,by rw [Nat.testBit_or,Nat.testBit_two_pow_self];simp⟩
    rw [hwk.1] at this;cases this
   ·subst heq
    rw [hv] at hj
    exact (Option.some.inj hj).symm
   ·have h1:=hbef k j v w hgt hv hj v (by rw [Nat.testBit_or,Nat.testBit_two_pow_self];simp)
    have h2:=congrArg (fun n=>n.testBit v) hwk.2.2
    simp only [Nat.testBit_and] at h2
    rw [h1,(mem_decL.1 hvm.2).2,notin] at h2
    cases h2
  cases hf : recNext d (needL d (os.take k)) with
  | none =>
   unfold recNext at hf
   rw [List.find?_eq_none] at hf
   exact absurd (decide_eq_true hok') (hf v hvm.2)
  | some w =>
   obtain ⟨w1,w2⟩:=recNext_some hf
   rw [huniq w w1 w2]
 have go : ∀ (f k : Nat),k+f=os.length→(recGo d f (needL d (os.take k)) (os.take k)).isSome=true:=by
  intro f
  induction f with
  | zero =>
   intro k hk
   unfold recGo
   rw [if_pos]
   ·rfl
   ·refine (and_decs hR).2 fun v hv=>needL_bit.2 ⟨v,?_,by rw [Nat.testBit_or,Nat.testBit_two_pow_self];simp⟩
    rw [List.take_of_length_le (by omega)]
    exact (hom v).2 (mem_decL.1 hv).2
  | succ f ih =>
   intro k hk
   unfold recGo
   split
   ·rfl
   ·obtain ⟨v,hv⟩:=get_of_lt (l:=os) (i:=k) (by omega)
    rw [nx k v hv]
    have:=ih (k+1) (by omega)
    rw [take_succ_get hv,needL_snoc] at this
    exact this
 have:=go os.length 0 (by omega)
 unfold recL
 rw [hlen]
 exact this
end Go.Proofs
set_option linter.unusedSimpArgs false
set_option maxRecDepth 100000
namespace Go.Hx
variable {P : Program} {G : Nat→Option (List AVal)}
/-- A stated middle. -/
theorem W.mid {n : Nat} {rd : Option Nat} {Q : AX→St→Prop} {s : St} {x y : Code} (Φ : St→Prop) (h : W P G n rd x (fun ax s'=>ax=.normal∧Φ s') s) (h2 : ∀ s',Φ s'→W P G n rd y Q s') : W P G n rd (.seq x y) Q s :=
 W.seq (h.mono fun ax s' ⟨e,hp⟩=>by subst e;exact h2 s' hp)
end Go.Hx
namespace Go.Proofs
open Go.Hx
theorem polN_pos {d : InfP} (h : InfOk d) : 1≤polN d:=prodL_pos (chOf_pos fun p hp=>(rcL_rng h p hp).2.2.1)
theorem cnt_ok {d : InfP} (h : InfOk d) (hp : polN d≤4096) : cntE d=0∧cntV d=polN d:=by
 have e : cntE d=0:=by unfold cntE;rw [decB_true h,if_pos hp];rfl
 exact ⟨e,by unfold cntV;rw [if_pos e]⟩
theorem cnt_big {d : InfP} (h : InfOk d) (hp : ¬ polN d≤4096) : cntE d=6∧cntV d=0:=by
 have e : cntE d=6:=by unfold cntE;rw [decB_true h,if_neg hp];rfl
 exact ⟨e,by unfold cntV;rw [e];rfl⟩
theorem pol_ok {d : InfP} (h : InfOk d) (hp : polN d≤4096) {i : Int} (hi : 0≤i∧i<polN d) : polE d i=0∧polV d i=polI (rcL d) i:=by
 have e : polE d i=0:=by unfold polE;rw [if_pos (cnt_ok h hp).1,if_pos hi]
 exact ⟨e,by unfold polV;rw [if_pos e]⟩
theorem weakE {f : FuncId} {H : AHeap} {K : ARes→AHeap→Prop} (d : InfP) (h : ACall Try.prog G0 f [infV d] H K) : ACall Try.prog G0 f [infE d] H K :=
 ACall.weakArgs (args':=[infV d]) G0_ok rfl (fun i hi _=>match i,hi with|0,_=>fz_infE d) h
theorem weakE1 {f : FuncId} {H : AHeap} {K : ARes→AHeap→Prop} (d : InfP) (a : Int) (h : ACall Try.prog G0 f [infV d,lin a] H K) : ACall Try.prog G0 f [infE d,lin a] H K :=
 ACall.weakArgs (args':=[infV d,lin a]) G0_ok rfl (fun i hi _=>match i,hi with|0,_=>fz_infE d|1,_=>.lit _) h
theorem weakE2 {f : FuncId} {H : AHeap} {K : ARes→AHeap→Prop} (d : InfP) (p : List (List Int)) (h : ACall Try.prog G0 f [infV d,vecV p] H K) : ACall Try.prog G0 f [infE d,vecV p] H K :=
 ACall.weakArgs (args':=[infV d,vecV p]) G0_ok rfl (fun i hi _=>match i,hi with|0,_=>fz_infE d|1,_=>fz_vecV p) h
theorem concat_pol {d : InfP} (h : InfOk d) (i : Int) (hL : rcL d≠[]) (H : AHeap) (K : ARes→AHeap→Prop) (hK : K (.ret (vecI (valsL (chL d) i))) H) : ACall Try.prog G0 39 [vecV (polI (rcL d) i)] H K:=by
 have hf:=polI_flat (rcL d) i
 have hr:=polI_ok (fun p hp=>⟨(rcL_rng h p hp).1,(rcL_rng h p hp).2.2.1⟩) i
 have hlen : ∀ r,r∈polI (rcL d) i→1≤r.length∧r.length≤1024:=fun r hr'=>by
  obtain ⟨k,hk⟩:=List.mem_iff_getElem?.1 hr'
  obtain ⟨p,hp⟩:=get_of_lt (l:=rcL d) (i:=k) (by have:=get_lt hk;rw [polI_len] at this;exact this)
  have h1:=(hr.2 k p r hp hk).1
  have h2:=rcL_rng h p (List.mem_of_getElem? hp)
  omega
 refine concat_spec (polI (rcL d) i) (by rw [polI_len,rcL_len];have:=decK_len (D:=d.decs) (n:=d.nodes.length);have:=h.n.n1.2;unfold decL;omega) (fun r hr=>(hlen r hr).2) ?_ H K (by rw [hf];exact hK)
 cases hq : polI (rcL d) i with
 | nil =>
  have:=polI_len (rcL d) i
  rw [hq] at this
  exact absurd (List.eq_nil_of_length_eq_zero this.symm) hL
 | cons r l =>
  have:=(hlen r (by rw [hq];simp)).1
  unfold lens
  simp only [List.map_cons,List.sum_cons]
  omega

theorem lens_le {d : InfP} (h : InfOk d) : (chL d).length≤8192:=by
 have hl : (rcL d).length≤8:=by rw [rcL_len];have:=decK_len (D:=d.decs) (n:=d.nodes.length);have:=h.n.n1.2;unfold decL;omega
 have key : ∀ l : List (Int × Int),(∀ p∈l,1≤p.1∧p.1≤1024)→(chOf l).length≤1024*l.length:=by
  intro l
  induction l with
  | nil=>intro _;simp [chOf]
  | cons p l ih =>
   intro hp
   have h1:=ih fun q hq=>hp q (by simp [hq])
   have h2:=hp p (by simp)
   rw [chOf_cons,List.length_append,List.length_replicate,List.length_cons]
   omega
 have:=key (rcL d) fun p hp=>⟨(rcL_rng h p hp).1,(rcL_rng h p hp).2.1⟩
 unfold chL
 omega

theorem recGo_len {d : InfP} : ∀ (f need : Nat) (out r : List Nat),recGo d f need out=some r→r.length≤out.length+f:=by
 intro f
 induction f with
 | zero =>
  intro need out r h
  unfold recGo at h
  split at h
  ·cases h;omega
  ·cases h
 | succ f ih =>
  intro need out r h
  unfold recGo at h
  split at h
  ·cases h;omega
  ·split at h
   ·cases h
   ·have:=ih _ _ r h
    rw [List.length_append,List.length_singleton] at this
    omega

set_option maxHeartbeats 8000000 in
theorem numbers_spec (d : D20) (hd : d.Ok) (k : Int) (hk : 0≤k∧k<65536) (H : AHeap) (K : ARes→AHeap→Prop) (hK : ∀ H',H.next≤H'.next→K (.ret (.lit (.bool true))) H') :
  ACall Try.prog G0 8 [.agg d.cells,.lit (.int .u16 k)] H K:=by
 refine ACall.of_bodyW (n:=155) (rs:=[.tmp 4]) Try.func8 rfl rfl rfl (by decide) (by simp) ?_
 refine W.seq (vc_sound _ _ _ (by rfl) ?_)
 simp only [go_sem,D20.cells,appendA_U]
 obtain ⟨H1,hH1⟩ : ∃ H1,H1=ext H [.arr 0 28 [.lit (.int .u8 d.g),.vec d.ps.length (drC d.ps),.vec d.ord.length (bytesL d.ord),.lit (.int .u8 d.decs),.lit (.bool d.rem),.vec d.us.length (utC d.us)]]:=⟨_,rfl⟩
 have g2 : H1.get H.next=some (.arr 0 28 [.lit (.int .u8 d.g),.vec d.ps.length (drC d.ps),.vec d.ord.length (bytesL d.ord),.lit (.int .u8 d.decs),.lit (.bool d.rem),.vec d.us.length (utC d.us)]):=by rw [hH1];exact get_ext0 ..
 have n1 : H1.next=H.next+1:=by rw [hH1];rfl
 rw [← hH1]
 clear hH1
 have l2:=get_live g2
 refine W.seq (vc_sound _ _ _ (by rfl) ?_)
 simp only [go_sem,appendA_U]
 refine AApply.clo (works_ok _ _ ⟨trivial,?_⟩)
 simp only [go_sem,Nat.reduceEqDiff,appendA_U]
 refine W.seq (vc_sound _ _ _ (by rfl) ?_)
 simp only [go_sem,Nat.reduceEqDiff,Nat.reduceAdd,l2,appendA_U]
 refine AApply.clo (influence20_spec d hd _ _ fun x hx=>⟨trivial,?_⟩)
 have hok:=hx.ok
 have hf:=fit_ok hok
 have n8:=hok.n.n1
 have hpos:=polN_pos hok
 simp only [go_sem,Nat.reduceEqDiff,Nat.reduceAdd,infE_eq,infEC,appendA_U]
 obtain ⟨H2,hH2⟩ : ∃ H2,H2=ext H1 [.arr 0 39 [.lit (.int .i64 x.grain),.vec x.nodes.length (nodesE x.nodes),.lit (.int .u64 (x.decs : Int)),.vec x.utils.length (utilsC x.utils)]]:=⟨_,rfl⟩
 have g5 : H2.get H1.next=some (.arr 0 39 [.lit (.int .i64 x.grain),.vec x.nodes.length (nodesE x.nodes),.lit (.int .u64 (x.decs : Int)),.vec x.utils.length (utilsC x.utils)]):=by rw [hH2];exact ext1_get_new
 have g2':=(show H2.get H.next=H1.get H.next by rw [hH2,ext1_get_old (by omega)]).trans g2
 have n2 : H2.next=H1.next+1:=by rw [hH2];rfl
 rw [← hH2]
 clear hH2
 have l5:=get_live g5
 have l2:=get_live g2'
 refine W.seq (vc_sound _ _ _ (by rfl) ?_)
 simp only [go_sem,Nat.reduceEqDiff,Nat.reduceAdd,l5,appendA_U]
 refine AApply.clo (weakE x (count_spec x hf _ _ ⟨trivial,?_⟩))
 simp only [go_sem,Nat.reduceEqDiff,appendA_U]
 refine W.env fun E hE=>?_
 have e1 : E 1=.lit (.int .u16 k):=by rw [hE];simp only [go_sem,Nat.reduceEqDiff,appendA_U]
 have e2 : E 2=.ptr H.next 0 0:=by rw [hE];simp only [go_sem,Nat.reduceEqDiff,appendA_U]
 have e5 : E 5=.ptr H1.next 0 0:=by rw [hE];simp only [go_sem,Nat.reduceEqDiff,appendA_U]
 have e6 : E 6=lin (cntV x):=by rw [hE];simp only [go_sem,Nat.reduceEqDiff,appendA_U]
 have e7 : E 7=lin (cntE x):=by rw [hE];simp only [go_sem,Nat.reduceEqDiff,appendA_U]
 clear hE
 refine W.mid (fun s'=>s'.H=H2∧s'.ρ 2=.ptr H.next 0 0∧s'.ρ 5=.ptr H1.next 0 0) ?_ ?_
 ·refine vc_sound _ _ _ (by rfl) ?_
  by_cases hbig : polN x≤4096
  rotate_left
  ·obtain ⟨c1,c2⟩:=cnt_big hok hbig
   rw [c1] at e7
   simp only [go_sem,Int.reduceEq,Nat.reduceEqDiff,e2,e5,e7,appendA_U]
  obtain ⟨c1,c2⟩:=cnt_ok hok hbig
  rw [c1] at e7
  rw [c2] at e6
  obtain ⟨N,hN⟩ : ∃ N,N=polN x:=⟨_,rfl⟩
  rw [← hN] at hpos hbig e6
  have hmx : (if N > 1 then N else 1)=N:=by split<;>omega
  have hN0 : ¬ N=0:=by omega
  have hi0 : k.tmod N=k % N:=Int.tmod_eq_emod_of_nonneg hk.1
  have hi1:=Int.emod_nonneg k hN0
  have hi2:=Int.emod_lt_of_pos k (show 0<N by omega)
  have w1 : IntKind.i64.wrap k=k:=IntWalk.i64_in _ (by omega)
  have w2 : IntKind.i64.wrap (k % N)=k % N:=IntWalk.i64_in _ (by omega)
  have w3:=IntWalk.i64_in (k % N+1) (by omega)
  obtain ⟨p1,p2⟩:=pol_ok hok (by omega) (i:=k % N) (by omega)
  have hN1 : ¬ N<1:=by omega
  simp only [go_sem,Nat.reduceEqDiff,Nat.reduceAdd,e1,e2,e5,e6,e7,hmx,hN0,hi0,w1,w2,l5,appendA_U]
  refine AApply.clo (weakE1 x (k % N) (policy_spec x hf (k % N) (by omega) _ _ ⟨trivial,?_⟩))
  rw [p1,p2]
  simp only [go_sem,Nat.reduceEqDiff,Nat.reduceAdd,e5,e6,hN1,l5,appendA_U]
  have hpk:=polI_polOk hok (k % N)
  refine AApply.clo (weakE2 x _ (checkPolicy_spec x hf _ (polFit_ok hok hpk) _ _ ⟨trivial,?_⟩))
  rw [polErr_ok hok hpk]
  by_cases hlt : k % N+1<N
  rotate_left
  ·simp only [go_sem,Nat.reduceEqDiff,e2,e5,e6,w3,hlt,appendA_U]
  obtain ⟨p3,p4⟩:=pol_ok hok (by omega) (i:=k % N+1) (by omega)
  simp only [go_sem,Nat.reduceEqDiff,Nat.reduceAdd,e5,e6,w3,hlt,l5,appendA_U]
  refine AApply.clo (weakE1 x (k % N+1) (policy_spec x hf (k % N+1) (by omega) _ _ ⟨trivial,?_⟩))
  rw [p3,p4]
  have hL : rcL x≠[]:=fun h=>by
   have : polN x=1:=by unfold polN chL;rw [h];rfl
   omega
  have hlx : ltL (valsL (chL x) (k % N)) (valsL (chL x) (k % N+1)):=valsL_lt (chOf_pos fun p hp=>(rcL_rng hok p hp).2.2.1) hi1 (by omega) (by show _<polN x;omega)
  simp only [go_sem,Nat.reduceEqDiff,appendA_U]
  refine AApply.clo (concat_pol hok _ hL _ _ ⟨trivial,?_⟩)
  simp only [go_sem,Nat.reduceEqDiff,appendA_U]
  refine AApply.clo (concat_pol hok _ hL _ _ ⟨trivial,?_⟩)
  simp only [go_sem,Nat.reduceEqDiff,appendA_U]
  refine AApply.clo (compare_lt hlx (by
   rw [valsL_len]
   have h1:=lens_le hok
   omega) _ _ ⟨trivial,?_⟩)
  simp only [go_sem,Int.reduceLE,Nat.reduceEqDiff,e2,e5,appendA_U]
 rintro ⟨ρ2,Hx⟩ ⟨hHx,a2,a5⟩
 dsimp only at hHx a2 a5
 subst hHx
 refine W.seq (vc_sound _ _ _ (by rfl) ?_)
 simp only [go_sem,Nat.reduceAdd,a2,a5,l5,appendA_U]
 refine AApply.clo (weakE x (recall_spec x hf _ _ ⟨trivial,?_⟩))
 simp only [go_sem,Nat.reduceEqDiff,appendA_U]
 have nx1 : H1.next≤Hx.next:=by omega
 cases hrl : recL x with
 | none =>
  have re : recE x=4:=by unfold recE;rw [decB_true hok,hrl];rfl
  have rv : recV x=[]:=by unfold recV;rw [re];rfl
  have hrem : d.rem=false:=by
   cases hr : d.rem with
   | false=>rfl
   | true =>
    rw [hr] at hx
    have:=recall_some hx
    rw [hrl] at this
    cases this
  rw [re,rv]
  refine W.seq (vc_sound _ _ _ (by rfl) ?_)
  simp only [go_sem,Int.reduceEq,Nat.reduceEqDiff,a2,l2,hrem,natsI,List.map_nil,List.length_nil,appendA_U]
  exact FinV.mk (by omega) (hK _ (by omega))
 | some r =>
  have re : recE x=0:=by unfold recE;rw [decB_true hok,hrl];rfl
  have rv : recV x=r:=by unfold recV;rw [re,hrl];rfl
  obtain ⟨hR,hRd⟩:=recL_facts hrl
  rw [re,rv]
  refine W.seq (vc_sound _ _ _ (by rfl) ?_)
  simp only [go_sem,Nat.reduceEqDiff,appendA_U]
  refine W.seq (vc_sound _ _ _ (by rfl) ?_)
  simp only [go_sem,appendA_U]
  have hrl2 : (natsI r).length=r.length:=by simp [natsI]
  have hr8:=recGo_len _ _ _ _ hrl
  have dk8 : (decL x).length≤x.nodes.length:=decK_len
  rw [List.length_nil] at hr8
  refine W.env fun E2 hE2=>?_
  have f2 : E2 2=.ptr H.next 0 0:=by rw [hE2];simp only [go_sem,Nat.reduceEqDiff,a2,appendA_U]
  have f5 : E2 5=.ptr H1.next 0 0:=by rw [hE2];simp only [go_sem,Nat.reduceEqDiff,a5,appendA_U]
  have f13 : E2 13=vecI (natsI r):=by rw [hE2];simp only [go_sem,Nat.reduceEqDiff,appendA_U]
  have f15 : E2 15=bitV 0:=by rw [hE2];simp only [go_sem,Nat.reduceEqDiff,appendA_U]
  have f16 : E2 16=bitV 0:=by rw [hE2];simp only [go_sem,Nat.reduceEqDiff,appendA_U]
  clear hE2
  have hrm : ∀ v∈r,v<x.nodes.length∧v∈decL x:=fun v hv=>by
   obtain ⟨i,hi⟩:=List.mem_iff_getElem?.1 hv
   have:=(hR i v hi).1
   exact ⟨(mem_decL.1 this).1,this⟩
  have nd64 : ∀ {s : Nat},s<2 ^ x.nodes.length→s<2 ^ 64:=fun h=>Nat.lt_of_lt_of_le h (Nat.pow_le_pow_right (by decide) (by omega))
  have nl64 : ∀ i,needL x (r.take i)<2 ^ 64:=fun i=>nd64 (needL_lt hok.n fun v hv=>(hrm v (List.mem_of_mem_take hv)).2)
  have al64 : ∀ i,i≤r.length→allL (r.take i)<2 ^ 64:=fun i hi=>by rw [← hR.all i hi];exact Nat.lt_of_le_of_lt Nat.and_le_left (nl64 i)
  refine W.seq (vc_sound _ _ _ (by rfl) ?_)
  simp only [go_sem,f13,hrl2,appendA_U]
  refine W.loop0 2854495385411918494465971710669588776065269776 (by rfl) (fun ρ Hy=>Hy=Hx∧∃ i : Nat,ρ 100=lin i∧i≤r.length∧ρ 15=bitV (needL x (r.take i))∧ρ 16=bitV (allL (r.take i))) (fun ρ H=>r.length - (iv (ρ 100)).toNat) ?_ ?_
  ·simp only [go_sem,Nat.reduceEqDiff,f15,f16,appendA_U]
   exact ⟨0,rfl,by omega,rfl,rfl⟩
  rintro ρ Hy ⟨rfl,i,h100,hi,h15,h16⟩
  refine W.env fun E3 hE3=>?_
  have k2 : E3 2=.ptr H.next 0 0:=by rw [hE3];simp only [go_sem,Nat.reduceEqDiff,Nat.reducePow,Nat.reduceDiv,Nat.reduceMod,reduceCtorEq,f2,appendA_U]
  have k5 : E3 5=.ptr H1.next 0 0:=by rw [hE3];simp only [go_sem,Nat.reduceEqDiff,Nat.reducePow,Nat.reduceDiv,Nat.reduceMod,reduceCtorEq,f5,appendA_U]
  have k15 : E3 15=bitV (needL x (r.take i)):=by rw [hE3];simp only [go_sem,Nat.reduceEqDiff,Nat.reducePow,Nat.reduceDiv,Nat.reduceMod,h15,appendA_U]
  have k16 : E3 16=bitV (allL (r.take i)):=by rw [hE3];simp only [go_sem,Nat.reduceEqDiff,Nat.reducePow,Nat.reduceDiv,Nat.reduceMod,h16,appendA_U]
  have k98 : E3 98=.vec r.length (ints (natsI r)):=by rw [hE3];simp only [go_sem,Nat.reduceEqDiff,Nat.reducePow,Nat.reduceDiv,Nat.reduceMod,reduceCtorEq,hrl2,appendA_U]
  have k99 : E3 99=lin r.length:=by rw [hE3];simp only [go_sem,Nat.reduceEqDiff,Nat.reducePow,Nat.reduceDiv,Nat.reduceMod,reduceCtorEq,hrl2,appendA_U]
  have k100 : E3 100=lin i:=by rw [hE3];simp only [go_sem,Nat.reduceEqDiff,Nat.reducePow,Nat.reduceDiv,Nat.reduceMod,h100,appendA_U]
  clear hE3
  refine vc_sound _ _ _ (by rfl) ?_
  by_cases hb : (i : Int)<r.length
  rotate_left
  ·have hie : i=r.length:=by omega
   have hall:=hR.end' hRd
   rw [hie,List.take_of_length_le (Nat.le_refl _),hall] at k16
   simp only [go_sem,Nat.reduceEqDiff,Nat.reducePow,Nat.reduceDiv,Nat.reduceMod,k2,k5,k16,k99,k100,hb,appendA_U]
   refine W.seq (vc_sound _ _ _ (by rfl) ?_)
   simp only [go_sem,Nat.reduceEqDiff,k5,k16,l5,appendA_U]
   refine vc_sound _ _ _ (by rfl) ?_
   simp only [go_sem,Nat.reduceEqDiff,appendA_U]
   exact FinV.mk (by omega) (hK _ (by omega))
  obtain ⟨v,hv⟩:=get_of_lt (l:=r) (i:=i) (by omega)
  obtain ⟨hvd,hro⟩:=hR i v hv
  obtain ⟨v1,v2⟩:=mem_decL.1 hvd
  obtain ⟨y,hy⟩:=get_of_lt v1
  have hvi : (natsI r)[i]?=some (v : Int):=by unfold natsI;rw [List.getElem?_map,hv];rfl
  have hvne:=ne_of_get hvi
  have v0 : ¬ (v : Int)<0:=by omega
  have vl : ¬ (v : Int) ≥ x.nodes.length:=by omega
  have vl' : (v : Int)<x.nodes.length:=by omega
  have hpv : setN y.parents=parN x v:=by unfold parN;rw [hy]
  have hpl:=(hok.n.dec v y hy v2).2
  have hp64 : ∀ p∈y.parents,0≤p∧p<64:=fun p hp=>by have:=hpl.2 p hp;omega
  have hpp : parN x v<2 ^ 64:=by rw [← hpv];exact setN_lt hp64
  have hpl12:=len_atL n8.2 hpl hok.n.card
  have hnew:=hR.new hv
  have yne:=nodesE_ne hy
  have y1:=nodesE_1 hy
  have w1:=IntWalk.i64_in ((i : Int)+1) (by omega)
  have b2v : (2 : Nat) ^ v<2 ^ 64:=Nat.pow_lt_pow_right (by decide) (by omega)
  have s1:=fun t a b=>shrB (P:=Try.prog) (t:=t) (x:=a) (y:=b) (k':=.i64) (s:=v) (al64 i hi)
  have s2:=fun t a b=>bit1 (P:=Try.prog) (t:=t) (x:=a) (y:=b) (s:=v) (al64 i hi)
  have s3:=fun t a b=>subB (P:=Try.prog) (t:=t) (x:=a) (y:=b) (a:=needL x (r.take i)) (b:=parN x v)
  have hsub : subN (needL x (r.take i)) (parN x v)=0:=(subN_zero (nl64 i)).2 (sub_of_and hro.2.1)
  have s4:=fun t a b=>shlB (P:=Try.prog) (t:=t) (x:=a) (y:=b) (k':=.i64) (s:=v) (by omega)
  have s5:=fun t a b=>orB (P:=Try.prog) (t:=t) (x:=a) (y:=b) hpp b2v
  have s6:=fun t a b=>orB (P:=Try.prog) (t:=t) (x:=a) (y:=b) (nl64 i) (Nat.or_lt_two_pow hpp b2v)
  have s7:=fun t a b=>orB (P:=Try.prog) (t:=t) (x:=a) (y:=b) (al64 i hi) b2v
  simp only [go_sem,Int.reduceEq,Nat.reduceEqDiff,Nat.reducePow,Nat.reduceDiv,Nat.reduceMod,k2,k5,k15,k16,k98,k99,k100,hb,hvi,hvne,v0,vl,vl',l5,s1,s2,hnew,yne,y1,appendA_U]
  refine W.loop0 86942144748299777414892212198816780648448 (by rfl) (fun ρ2 Hz=>Hz=Hy∧∃ j : Nat,ρ2 127=lin j∧j≤y.parents.length∧ρ2 19=bitV (setN (y.parents.take j))) (fun ρ2 H=>y.parents.length - (iv (ρ2 127)).toNat) ?_ ?_
  ·simp only [go_sem,Nat.reduceEqDiff,appendA_U]
   exact ⟨0,rfl,by omega,rfl⟩
  rintro ρ2 Hz ⟨rfl,j,h127,hj,h19⟩
  refine vc_sound _ _ _ (by rfl) ?_
  by_cases hb2 : (j : Int)<y.parents.length
  ·obtain ⟨q,hq⟩:=get_of_lt (l:=y.parents) (i:=j) (by omega)
   obtain ⟨q0,q1⟩:=hp64 q (List.mem_of_getElem? hq)
   obtain ⟨u,rfl⟩:=Int.eq_ofNat_of_zero_le q0
   have hne:=ne_of_get hq
   have w2:=IntWalk.i64_in ((j : Int)+1) (by omega)
   have b1 : setN (y.parents.take j)<2 ^ 64:=setN_lt fun p h=>hp64 p (List.mem_of_mem_take h)
   have t1:=fun t a b=>shlB (P:=Try.prog) (t:=t) (x:=a) (y:=b) (k':=.i64) (s:=u) (by omega)
   have t2:=fun t a b=>orB (P:=Try.prog) (t:=t) (x:=a) (y:=b) (b:=2 ^ u) b1 (Nat.pow_lt_pow_right (by decide) (by omega))
   simp only [go_sem,Nat.reduceEqDiff,Nat.reducePow,Nat.reduceDiv,Nat.reduceMod,reduceCtorEq,h127,h19,hb2,hq,hne,w2,t1,t2,appendA_U]
   exact ⟨⟨j+1,rfl,by omega,by rw [take_succ_get hq,setN_snoc];rfl⟩,by omega⟩
  ·rw [List.take_of_length_le (by omega),hpv] at h19
   simp only [go_sem,Nat.reduceEqDiff,Nat.reducePow,Nat.reduceDiv,Nat.reduceMod,reduceCtorEq,h127,h19,k2,k5,k15,k16,k98,k99,k100,hb2,s3,s4,s5,s6,s7,hsub,w1,appendA_U]
   exact ⟨⟨i+1,rfl,by omega,by rw [take_succ_get hv,needL_snoc],by rw [take_succ_get hv,allL_snoc]⟩,by rw [h100];simp only [lin,iv_int];omega⟩
end Go.Proofs
