/- Own work: contracts. -/
import Derived.Test.YtcccmbeolcjacaaConB
import Derived.Test.YtcccmbeolcjacaaRows
import Derived.Test.YtcccmbeolcjacaaLibD
import Derived.ProofKit
import Derived.Test.YtcccmbeolcjacaaConA
import Derived.Test.YtcccmbeolcjacaaProg
import Derived.Test.YtcccmbeolcjacaaLibC
set_option linter.all false
set_option linter.unusedSimpArgs false
set_option maxRecDepth 100000
namespace Go.Proofs
open Go.Hx
/-- A piece of a drafted network. -/
structure DrP where
 card : Int
 par : Int
 w : List Int
def DrP.cells (x : DrP) : List AVal:=[.lit (.int .u8 x.card),.lit (.int .u8 x.par),.vec x.w.length (bytesL x.w)]
def drC (l : List DrP) : List AVal:=(l.map DrP.cells).flatten
def DrP.Ok (x : DrP) : Prop:=U8 x.card∧U8 x.par∧(x.w.length : Int)<2 ^ 63∧∀ b∈x.w,U8 b
def draft05V (g : Int) (ps : List DrP) (ord : List Int) : AVal:=.agg [.lit (.int .u8 g),.vec ps.length (drC ps),.vec ord.length (bytesL ord)]
theorem drC_part {l : List DrP} {i : Nat} {x : DrP} (h : l[i]?=some x) : ((drC l).drop (i*3)).take 3=[.lit (.int .u8 x.card),.lit (.int .u8 x.par),.vec x.w.length (bytesL x.w)]:=flat_part (f:=DrP.cells) (z:=3) (fun _=>rfl) l i x h
theorem drC_len (l : List DrP) : (drC l).length=l.length*3:=flat_len (f:=DrP.cells) (fun _=>rfl) l
/-- A node's cells while a network is drafted: without rows it has not begun. -/
def NodeP.cellsZ (x : NodeP) : List AVal:=if x.rows=[] then [lin x.card,.lit (.slice none 0 0),.lit (.slice none 0 0)] else [lin x.card,vecI x.parents,vecV x.rows]
def nodesZ (l : List NodeP) : List AVal:=(l.map NodeP.cellsZ).flatten
theorem cellsZ_len (x : NodeP) : x.cellsZ.length=3:=by unfold NodeP.cellsZ;split<;>rfl
theorem nodesZ_len (l : List NodeP) : (nodesZ l).length=l.length*3:=flat_len (f:=NodeP.cellsZ) cellsZ_len l
theorem nodesZ_0 {l : List NodeP} {i : Nat} {x : NodeP} (h : l[i]?=some x) : (nodesZ l)[i*3]?=some (lin x.card):=by
 have:=flat_get (f:=NodeP.cellsZ) (z:=3) cellsZ_len l i 0 x h (by omega)
 rw [Nat.add_zero] at this
 rw [show (nodesZ l)[i*3]?=_ from this]
 unfold NodeP.cellsZ;split<;>rfl
theorem nodesZ_eq {l : List NodeP} (h : ∀ x∈l,x.rows≠[]) : nodesZ l=nodesC l:=by
 unfold nodesZ nodesC
 congr 1
 exact List.map_congr_left fun x hx=>if_neg (h x hx)
theorem flat_set {α : Type} {f : α→List AVal} {z : Nat} (hz : ∀ a,(f a).length=z) : ∀ (l : List α) (i : Nat) (a : α),i<l.length→((l.set i a).map f).flatten=((l.map f).flatten).take (i*z)++f a++((l.map f).flatten).drop (i*z+z):=by
 intro l
 induction l with
 | nil=>intro i a h;simp at h
 | cons b l ih =>
  intro i a h
  cases i with
  | zero=>simp [hz]
  | succ i =>
   have hb:=hz b
   simp only [List.set_cons_succ,List.map_cons,List.flatten_cons]
   rw [ih i a (by simpa using h),show (i+1)*z=z+i*z by rw [Nat.add_mul];omega,List.take_append,List.drop_append,hb]
   rw [List.take_of_length_le (l:=f b) (i:=z+i*z) (by omega),List.drop_of_length_le (l:=f b) (i:=z+i*z+z) (by omega),show z+i*z - z=i*z by omega,show z+i*z+z - z=i*z+z by omega]
   simp
theorem fzl_set {S : Nat→Prop} {H : AHeap} {nx : Nat} {A B : List AVal} {i : Nat} {a b : AVal} (h : ∀ j (h : j<A.length) (h' : j<B.length),Fz S H nx A[j] B[j]) (hab : Fz S H nx a b) : ∀ j (h : j<(A.set i a).length) (h' : j<(B.set i b).length),Fz S H nx (A.set i a)[j] (B.set i b)[j]:=by
 intro j h1 h2
 rw [List.getElem_set,List.getElem_set]
 split
 ·exact hab
 ·exact h j (by simpa using h1) (by simpa using h2)
theorem fz_vecV {S : Nat→Prop} {H : AHeap} {nx : Nat} (l : List (List Int)) : Fz S H nx (vecV l) (vecV l):=.vec rfl fun i hi _=>by simp only [List.getElem_map];exact .keepInts _
theorem fz_cellsZ {S : Nat→Prop} {H : AHeap} {nx : Nat} (x : NodeP) : ∀ c∈x.cellsZ,Fz S H nx c c:=by
 intro c hc
 unfold NodeP.cellsZ at hc
 split at hc
 ·simp only [List.mem_cons,List.not_mem_nil,or_false] at hc
  rcases hc with rfl|rfl|rfl<;>exact .lit _
 ·simp only [List.mem_cons,List.not_mem_nil,or_false] at hc
  rcases hc with rfl|rfl|rfl
  ·exact .lit _
  ·exact .keepInts _
  ·exact fz_vecV _
theorem fz_nodesZ' {S : Nat→Prop} {H : AHeap} {nx : Nat} (l : List NodeP) : ∀ c∈nodesZ l,Fz S H nx c c:=by
 intro c hc
 unfold nodesZ at hc
 obtain ⟨r,hr,hc⟩:=List.mem_flatten.1 hc
 obtain ⟨x,_,rfl⟩:=List.mem_map.1 hr
 exact fz_cellsZ x c hc
/-- The cells of a network under way, read as a network. -/
theorem fz_nodesZ {S : Nat→Prop} {H : AHeap} {nx : Nat} : ∀ (l : List NodeP),(∀ x∈l,x.rows=[]→x.parents=[])→∀ (i : Nat) (h : i<(nodesZ l).length) (h' : i<(nodesC l).length),Fz S H nx (nodesZ l)[i] (nodesC l)[i]:=by
 intro l
 induction l with
 | nil=>intro _ i h;simp [nodesZ] at h
 | cons x l ih =>
  intro hx i h h'
  have e1 : nodesZ (x :: l)=x.cellsZ++nodesZ l:=by simp [nodesZ]
  have e2 : nodesC (x :: l)=x.cells++nodesC l:=by simp [nodesC]
  have l1:=cellsZ_len x
  have l2 : x.cells.length=3:=rfl
  have hc : ∀ (i : Nat) (h : i<x.cellsZ.length) (h' : i<x.cells.length),Fz S H nx x.cellsZ[i] x.cells[i]:=by
   intro i h h'
   by_cases hr : x.rows=[]
   ·have hp:=hx x (by simp) hr
    have ez : x.cellsZ=[lin x.card,.lit (.slice none 0 0),.lit (.slice none 0 0)]:=if_pos hr
    have ec : x.cells=[lin x.card,vecI [],vecV []]:=by unfold NodeP.cells;rw [hr,hp]
    simp only [ez,ec]
    match i,h' with
    | 0,_=>exact .lit _
    | 1,_=>exact .nil
    | 2,_=>exact .nil
   ·have ez : x.cellsZ=x.cells:=if_neg hr
    simp only [ez]
    match i,h' with
    | 0,_=>exact .lit _
    | 1,_=>exact .keepInts _
    | 2,_=>exact fz_vecV _
  simp only [e1,e2]
  by_cases hi : i<3
  ·rw [List.getElem_append_left (by omega),List.getElem_append_left (by omega)]
   exact hc i (by omega) (by omega)
  ·rw [List.getElem_append_right (by omega),List.getElem_append_right (by omega)]
   simp only [l1,l2]
   exact ih (fun y hy=>hx y (by simp [hy])) (i - 3) _ _
theorem nodesC_set {l : List NodeP} {i : Nat} {x y : NodeP} (h : l[i]?=some x) (hy : y.card=x.card) : nodesC (l.set i y)=((nodesC l).set (i*3+1) (vecI y.parents)).set (i*3+2) (vecV y.rows):=by
 have hl:=get_lt h
 have h1:=flat_set (f:=NodeP.cells) (z:=3) (fun _=>rfl) l i y hl
 have h2:=flat_part (f:=NodeP.cells) (z:=3) (fun _=>rfl) l i x h
 unfold nodesC
 rw [h1]
 have h3 : (l.map NodeP.cells).flatten=((l.map NodeP.cells).flatten).take (i*3)++(x.cells++((l.map NodeP.cells).flatten).drop (i*3+3)):=by
  rw [← h2,← List.drop_drop,List.take_append_drop,List.take_append_drop]
 have hlen : (((l.map NodeP.cells).flatten).take (i*3)).length=i*3:=by
  rw [List.length_take,flat_len (f:=NodeP.cells) (z:=3) (fun _=>rfl)];omega
 conv=>rhs;rw [h3]
 rw [List.set_append_right _ _ (by omega),List.set_append_right _ _ (by omega),hlen,show i*3+1 - i*3=1 by omega,show i*3+2 - i*3=2 by omega]
 unfold NodeP.cells
 simp [hy]
theorem own_len {lo : Nat} {H : AHeap} {e : TypeId} {v : AVal} {cs : List AVal} (h : OwnG lo H e v cs) {d : Option TypeDesc} {t : TypeId} (hd : d=some (.slice t)) : lenU d H v=some (.lit (.int .i64 cs.length)):=by
 subst hd
 rcases h with ⟨rfl,rfl⟩|⟨id,g,_,_,rfl,h4⟩
 ·rfl
 ·rw [lenU_slice,lenS_own,get_live h4];rfl
theorem at02_own (l p : List Int) (hl : (l.length : Int)<2 ^ 40) (hp : (p.length : Int)<2 ^ 39) (hin : ∀ q∈p,0≤q∧q<l.length) (H : AHeap) (K : ARes→AHeap→Prop) (hK : ∀ v H',Over H H'→OwnG H.next H' 3 v (ints (atL l p))→K (.ret v) H') : ACall Try.prog G0 90 [vecI l,vecI p] H K:=by
 refine ACall.clo ⟨_,Try.func90,rfl,rfl⟩ fun hcl=>?_
 refine ACall.of_body (n:=24) (rs:=[.tmp 4]) Try.func90 rfl rfl rfl (by decide) (by kernel_rfl) (by simp) ?_
 simp only [go_sem,appendA_U]
 refine W.loop0 8388576 (by rfl) (fun ρ H'=>∃ k : Nat,ρ 6=lin k∧k≤p.length∧Over H H'∧OwnG H.next H' 3 (ρ 5) (ints (atL l (p.take k)))) (fun ρ H=>p.length - (iv (ρ 6)).toNat) ?_ ?_
 ·simp only [go_sem,Nat.reduceEqDiff,appendA_U]
  exact ⟨0,rfl,by omega,.refl _,.nil⟩
 rintro ρ H' ⟨k,h6,hk,ov,h5⟩
 refine vc_sound _ _ _ (by rfl) ?_
 by_cases hb : (k : Int)<p.length
 ·obtain ⟨q,hq⟩:=get_of_lt (l:=p) (i:=k) (by omega)
  obtain ⟨j,rfl,a,ha⟩:=get_of_int (hin q (List.mem_of_getElem? hq)).1 (hin q (List.mem_of_getElem? hq)).2
  have hne:=ne_of_get hq
  have hne2:=ne_of_get ha
  have hj:=get_lt ha
  have hj' : (j : Int)<l.length:=by omega
  obtain ⟨v',H2,hA,ov2,hO,hn2,_⟩:=app_int a ov h5 (by simp [atL];omega)
  have w1:=IntWalk.i64_in ((k : Int)+1) (by omega)
  simp only [go_sem,Nat.reduceEqDiff,Nat.reducePow,Nat.reduceDiv,Nat.reduceMod,Nat.reduceLeDiff,reduceCtorEq,h6,hb,hq,hne,ha,hne2,hj',w1,hA]
  refine ⟨by have:=ov2.next;omega,⟨k+1,by simp,by omega,ov2,?_⟩,by omega⟩
  rw [atL_take hq,Int.toNat_natCast,getD_of_get ha]
  exact hO
 ·simp only [go_sem,Nat.reduceEqDiff,Nat.reducePow,Nat.reduceDiv,Nat.reduceMod,reduceCtorEq,h6,hb,appendA_U]
  rw [List.take_of_length_le (by omega)] at h5
  exact FinV.mk ov.next (hK _ _ ov h5)

theorem parentCards_own (g : Int) (ns : List NodeP) (v : Nat) (x : NodeP) (hx : ns[v]?=some x) (hl : (ns.length : Int)<2 ^ 39) (hp : (x.parents.length : Int)<2 ^ 39) (hin : InRange x.parents ns.length) (H : AHeap) (K : ARes→AHeap→Prop)
  (hK : ∀ v H',Over H H'→OwnG H.next H' 3 v (ints (parC ns x))→K (.ret v) H') : ACall Try.prog G0 77 [netV g ns,lin v] H K:=by
 refine ACall.clo ⟨_,Try.func77,rfl,rfl⟩ fun hcl=>?_
 have hne:=nodesC_ne hx
 have e1:=nodesC_1 hx
 have hv : (v : Int)<ns.length:=by have:=get_lt hx;omega
 refine ACall.of_body (n:=14) (rs:=[.tmp 4]) Try.func77 rfl rfl rfl (by decide) (by kernel_rfl) (by simp) ?_
 simp only [go_sem,netV,nodesV,appendA_U]
 refine W.draw 8 [0,1,0,4,0,28,60,124] Try.mixed (by kernel_rfl) (by kernel_rfl) ?_
 simp only [go_sem,Nat.reduceEqDiff,Nat.reducePow,Nat.reduceDiv,Nat.reduceMod,Nat.reduceAdd,appendA_U]
 refine ⟨vecI (cardsL ns),[],PCall.pure fun H2=>cards05_spec g ns hl H2 _ ⟨rfl,rfl⟩,?_⟩
 simp only [go_sem,Nat.reduceEqDiff,Nat.reducePow,Nat.reduceDiv,Nat.reduceMod,reduceCtorEq,hv,hne,e1,appendA_U]
 refine AApply.clo (at02_own (cardsL ns) x.parents (by rw [cards_len];omega) hp (by rw [cards_len];exact hin) _ _ fun w H3 ov ho=>⟨trivial,?_⟩)
 simp only [go_sem,Nat.reduceEqDiff,appendA_U]
 have o1 : Over H H3:=(Over.ext _ _).trans ov
 exact FinV.mk o1.next (hK _ _ o1 (ho.keep (by simp [ext_next]) (Nat.le_refl _) fun _ _ _ _ _ _=>rfl))
theorem acyc_of_order {ns : List NodeP} {P : List Int} (hP : IsPerm ns.length P) (hall : ∀ v : Nat,v<ns.length→(v : Int)∈P) (hr : ∀ (j v : Nat) (x : NodeP),P[j]?=some (v : Int)→ns[v]?=some x→∀ q∈x.parents,0≤q∧∃ k,k<j∧P[k]?=some q) : AcycB (setsL ns):=by
 intro v hv
 have hl : (setsL ns).length=ns.length:=by simp [setsL]
 rw [hl] at hv
 obtain ⟨j,hj⟩:=List.mem_iff_getElem?.1 (hall v hv)
 have h0 : ∀ p∈P.take j,0≤p:=fun p hp=>(hP.rng p (List.mem_of_mem_take hp)).1
 have sub : ∀ (k u : Nat) (x : NodeP),k≤j→P[k]?=some (u : Int)→ns[u]?=some x→Sub ((setsL ns).getD u 0) (setN (P.take j)):=fun k u x hk hu hx i hi=>by
  rw [getD_of_get (setsL_get hx)] at hi
  have hp0 : ∀ p∈x.parents,0≤p:=fun p hp=>(hr k u x hu hx p hp).1
  rw [setN_bit hp0] at hi
  obtain ⟨_,k',hk',hq⟩:=hr k u x hu hx _ (of_decide_eq_true hi)
  rw [setN_bit h0]
  refine decide_eq_true ?_
  exact List.mem_iff_getElem?.2 ⟨k',by rw [List.getElem?_take_of_lt (by omega)];exact hq⟩
 have hcl : Closed (setsL ns) (setN (P.take j)):=fun u hu ht=>by
  rw [hl] at hu
  rw [setN_bit h0] at ht
  obtain ⟨k,hk⟩:=List.mem_iff_getElem?.1 (of_decide_eq_true ht)
  have hkl:=get_lt hk
  rw [List.length_take] at hkl
  rw [List.getElem?_take_of_lt (by omega)] at hk
  obtain ⟨x,hx⟩:=get_of_lt hu
  exact sub k u x (by omega) hk hx
 obtain ⟨x,hx⟩:=get_of_lt hv
 have h1:=upN_closed hcl (setsL ns).length (sub j v x (Nat.le_refl _) hj hx)
 cases hb : (upL (setsL ns) ((setsL ns).getD v 0)).testBit v with
 | false=>rfl
 | true =>
  exfalso
  have h2:=h1 v hb
  rw [setN_bit h0] at h2
  obtain ⟨k,hk⟩:=List.mem_iff_getElem?.1 (of_decide_eq_true h2)
  have hkl:=get_lt hk
  rw [List.length_take] at hkl
  rw [List.getElem?_take_of_lt (by omega)] at hk
  have e : P[k]?=P[j]?:=by rw [hk,hj]
  have:=(List.getElem?_inj (get_lt hk) hP.nd).1 e
  omega
end Go.Proofs
set_option linter.unusedSimpArgs false
set_option maxRecDepth 100000
namespace Go.Proofs
open Go.Hx
/-- The heap while a network is drafted: one block turns. -/
def FrN (H1 H' : AHeap) (N : Nat) (cs : List AVal) : Prop:=H1.next≤H'.next∧(∀ id,id<H1.next→id≠N→H'.get id=H1.get id)∧H'.get N=some (.arr 0 83 cs)
theorem nodesZ_set0 {l : List NodeP} {i : Nat} {x y : NodeP} (h : l[i]?=some x) (hr : x.rows=[]) (hy : y.rows=[]) : nodesZ (l.set i y)=(nodesZ l).set (i*3) (lin y.card):=by
 have hl:=get_lt h
 have h1:=flat_set (f:=NodeP.cellsZ) (z:=3) cellsZ_len l i y hl
 have h2:=flat_part (f:=NodeP.cellsZ) (z:=3) cellsZ_len l i x h
 have e1 : x.cellsZ=[lin x.card,.lit (.slice none 0 0),.lit (.slice none 0 0)]:=if_pos hr
 have e2 : y.cellsZ=[lin y.card,.lit (.slice none 0 0),.lit (.slice none 0 0)]:=if_pos hy
 unfold nodesZ
 rw [h1,e2]
 rw [e1] at h2
 have h3 : (l.map NodeP.cellsZ).flatten=((l.map NodeP.cellsZ).flatten).take (i*3)++([lin x.card,.lit (.slice none 0 0),.lit (.slice none 0 0)]++((l.map NodeP.cellsZ).flatten).drop (i*3+3)):=by
  rw [← h2,← List.drop_drop,List.take_append_drop,List.take_append_drop]
 have hlen : (((l.map NodeP.cellsZ).flatten).take (i*3)).length=i*3:=by
  rw [List.length_take,flat_len (f:=NodeP.cellsZ) (z:=3) cellsZ_len];omega
 conv=>rhs;rw [h3]
 rw [List.set_append_right _ _ (by omega),hlen]
 simp
theorem permF_mem (ord : List Int) : ∀ (n v : Nat),v<n→(v : Int)∈permF ord n
 | 0,v,h=>by omega
 | n+1,v,h=>by
  unfold permF
  by_cases hv : v=n
  ·subst hv;simp
  ·have:=permF_mem ord n v (by omega)
   rw [← List.take_append_drop (permAt ord n) (permF ord n)] at this
   rcases List.mem_append.1 this with h|h
   ·exact List.mem_append_left _ h
   ·exact List.mem_append_right _ (List.mem_cons_of_mem _ h)
structure DoneN (g : Int) (cs P : List Int) (n j : Nat) (x : NodeP) : Prop where
 pl : PlacesOk x.parents n
 p3 : x.parents.length≤3
 rk : ∀ q∈x.parents,∃ k,k<j∧P[k]?=some q
 rl : (x.rows.length : Int)=prodL (atL cs x.parents)
 ro : ∀ r∈x.rows,RowOk g x.card r
 ne : x.rows≠[]
structure LoopN (g : Int) (cs P : List Int) (n i : Nat) (ns : List NodeP) : Prop where
 len : ns.length=n
 cards : cardsL ns=cs
 todo : ∀ (j v : Nat) (x : NodeP),i≤j→P[j]?=some (v : Int)→ns[v]?=some x→x.rows=[]∧x.parents=[]
 done : ∀ (j v : Nat) (x : NodeP),j<i→P[j]?=some (v : Int)→ns[v]?=some x→DoneN g cs P n j x
theorem nodesZ_set {l : List NodeP} {i : Nat} {x y : NodeP} (h : l[i]?=some x) (hy : y.card=x.card) (hr : y.rows≠[]) : nodesZ (l.set i y)=((nodesZ l).set (i*3+1) (vecI y.parents)).set (i*3+2) (vecV y.rows):=by
 have hl:=get_lt h
 have h1:=flat_set (f:=NodeP.cellsZ) (z:=3) cellsZ_len l i y hl
 have h2:=flat_part (f:=NodeP.cellsZ) (z:=3) cellsZ_len l i x h
 unfold nodesZ
 rw [h1]
 have h3 : (l.map NodeP.cellsZ).flatten=((l.map NodeP.cellsZ).flatten).take (i*3)++(x.cellsZ++((l.map NodeP.cellsZ).flatten).drop (i*3+3)):=by
  rw [← h2,← List.drop_drop,List.take_append_drop,List.take_append_drop]
 have hlen : (((l.map NodeP.cellsZ).flatten).take (i*3)).length=i*3:=by
  rw [List.length_take,flat_len (f:=NodeP.cellsZ) (z:=3) cellsZ_len];omega
 have ex : ∃ b c,x.cellsZ=[lin x.card,b,c]:=by unfold NodeP.cellsZ;split<;>exact ⟨_,_,rfl⟩
 obtain ⟨b,c,ex⟩:=ex
 have ey : y.cellsZ=[lin y.card,vecI y.parents,vecV y.rows]:=if_neg hr
 conv=>rhs;rw [h3]
 rw [List.set_append_right _ _ (by omega),List.set_append_right _ _ (by omega),hlen,show i*3+1 - i*3=1 by omega,show i*3+2 - i*3=2 by omega,ex,ey]
 simp [hy]
/-- A node's parents while they are drafted. -/
structure ParU (P : List Int) (i u k : Nat) (l : List Int) : Prop where
 pw : l.Pairwise (·<·)
 rng : ∀ q∈l,0≤q∧(q<u∨(q=u∧∃ k',k'<k∧P[k']?=some q))
 p3 : l.length≤3
 rk : ∀ q∈l,∃ k',k'<i∧P[k']?=some q
theorem ParU.skip {P : List Int} {i u k : Nat} {l : List Int} (h : ParU P i u k l) : ParU P i u (k+1) l:=⟨h.pw,fun q hq=>⟨(h.rng q hq).1,(h.rng q hq).2.imp id fun ⟨a,k',b,c⟩=>⟨a,k',by omega,c⟩⟩,h.p3,h.rk⟩
theorem ParU.next {P : List Int} {i u k : Nat} {l : List Int} (h : ParU P i u k l) : ParU P i (u+1) 0 l:=⟨h.pw,fun q hq=>⟨(h.rng q hq).1,.inl (by rcases (h.rng q hq).2 with h1|h1<;>omega)⟩,h.p3,h.rk⟩
theorem ParU.add {P : List Int} {n i u k : Nat} {l : List Int} (hP : IsPerm n P) (h : ParU P i u k l) (hk : k<i) (hu : P[k]?=some (u : Int)) (h3 : l.length<3) : ParU P i u (k+1) (l++[(u : Int)]):=by
 have lt : ∀ q∈l,q<u:=fun q hq=>by
  rcases (h.rng q hq).2 with h1|⟨h1,k',h2,h4⟩
  ·exact h1
  ·exfalso
   have e : P[k']?=P[k]?:=by rw [h4,hu,h1]
   have:=(List.getElem?_inj (get_lt h4) hP.nd).1 e
   omega
 refine ⟨List.pairwise_append.2 ⟨h.pw,by simp,fun a ha b hb=>by obtain rfl:=List.mem_singleton.1 hb;exact lt a ha⟩,fun q hq=>?_,by simp;omega,fun q hq=>?_⟩
 ·rcases List.mem_append.1 hq with h1|h1
  ·exact ⟨(h.rng q h1).1,.inl (lt q h1)⟩
  ·obtain rfl:=List.mem_singleton.1 h1
   exact ⟨by omega,.inr ⟨rfl,k,by omega,hu⟩⟩
 ·rcases List.mem_append.1 hq with h1|h1
  ·exact h.rk q h1
  ·obtain rfl:=List.mem_singleton.1 h1
   exact ⟨k,hk,hu⟩
def PSt (Hz Hx : AHeap) (N at' : Nat) (C : List AVal) (pv : AVal) (l : List Int) : Prop:=FrN Hz Hx N (C.set at' pv)∧OwnG Hz.next Hx 3 pv (ints l)
set_option maxHeartbeats 4000000 in
theorem net05_spec (g0 : Int) (ps : List DrP) (ord : List Int) (hg0 : U8 g0) (hps : ∀ x∈ps,x.Ok) (hpl : (ps.length : Int)<2 ^ 63) (hol : (ord.length : Int)<2 ^ 63) (ho8 : ∀ x∈ord,U8 x) (H : AHeap) (K : ARes→AHeap→Prop)
  (hK : ∀ g ns N H',Over H H'→H.next≤N→N<H'.next→H'.get N=some (.arr 0 83 (nodesC ns))→NetOk g ns→ns.length≤5→(∀ x∈ns,x.parents.length≤3)→K (.ret (.agg [lin g,.own N 0 0 ns.length 3])) H') :
  ACall Try.prog G0 40 [draft05V g0 ps ord] H K:=by
 refine ACall.of_body (n:=187) (rs:=[.cell 2 64]) Try.func40 rfl rfl rfl (by decide) (by kernel_rfl) (by simp) ?_
 obtain ⟨n,hn⟩ : ∃ n : Nat,min (max ps.length 1) 5=n:=⟨_,rfl⟩
 have h51 : 1≤n∧n≤5:=by omega
 have hmn : (if 5<(if (1 : Int) > ps.length then 1 else (ps.length : Int)) then 5 else (if (1 : Int) > ps.length then 1 else (ps.length : Int)))=(n : Int):=by split<;>split<;>omega
 have t0 : g0.tmod 60=g0 % 60:=Int.tmod_eq_emod_of_nonneg hg0.1
 have w0 : IntKind.u8.wrap (g0 % 60)=g0 % 60:=IntWalk.u8_in _ (by omega)
 have w1 : IntKind.i64.wrap (g0 % 60)=g0 % 60:=IntWalk.i64_in _ (by omega)
 have w2:=IntWalk.i64_in (1+g0 % 60) (by omega)
 obtain ⟨g,hg⟩ : ∃ g,1+g0 % 60=g:=⟨_,rfl⟩
 have hg1 : 1≤g∧g≤60:=by omega
 rw [hg] at w2
 simp only [go_sem,Nat.reduceEqDiff,Nat.reduceAdd,draft05V,appendA_U]
 refine W.draw 9 [0,1,3,7,15,0,32,127,0] Try.mixed (by kernel_rfl) (by kernel_rfl) ?_
 simp only [go_sem,Int.reduceEq,Nat.reduceEqDiff,Nat.reducePow,Nat.reduceDiv,Nat.reduceMod,Nat.reduceAdd,Nat.reduceLeDiff,reduceCtorEq,hmn,t0,w0,w1,hg,w2,appendA_U]
 refine ⟨by omega,⟨⟨by omega,by omega⟩,⟨by omega,by omega⟩,?_⟩⟩
 obtain ⟨H1,hH1⟩ : ∃ H1,H1=ext (ext H [.arr 0 25 [.lit (.int .u8 g0),.vec ps.length (drC ps),.vec ord.length (bytesL ord)],.arr 0 64 [.lit (.int .i64 0),.lit (.slice none 0 0)],.arr 0 83 (List.replicate n [AVal.lit (.int .i64 0),.lit (.slice none 0 0),.lit (.slice none 0 0)]).flatten]) [.arr 0 64 [.lit (.int .i64 g),.own (H.next+2) 0 0 n 3]]:=⟨_,rfl⟩
 refine W.env fun E hE=>?_
 have e1 : E 1=.ptr H.next 0 0:=by rw [hE];simp only [go_sem,Nat.reduceEqDiff,appendA_U]
 have e2 : E 2=.ptr (H.next+1) 0 0:=by rw [hE];simp only [go_sem,Nat.reduceEqDiff,appendA_U]
 have e3 : E 3=lin n:=by rw [hE];simp only [go_sem,Nat.reduceEqDiff,appendA_U]
 have e4 : E 4=.ptr (H.next+3) 0 0:=by rw [hE];simp only [go_sem,Nat.reduceEqDiff,appendA_U]
 clear hE
 show W _ _ _ _ _ _ ⟨E,ext (ext H [.arr 0 25 [.lit (.int .u8 g0),.vec ps.length (drC ps),.vec ord.length (bytesL ord)],.arr 0 64 [.lit (.int .i64 0),.lit (.slice none 0 0)],.arr 0 83 (List.replicate n [AVal.lit (.int .i64 0),.lit (.slice none 0 0),.lit (.slice none 0 0)]).flatten]) [.arr 0 64 [.lit (.int .i64 g),.own (H.next+2) 0 0 n 3]]⟩
 rw [← hH1]
 have n1 : H1.next=H.next+4:=by rw [hH1];rfl
 have o1 : Over H H1:=by rw [hH1];exact (Over.ext _ _).trans (.ext _ _)
 have g0' : H1.get H.next=some (.arr 0 25 [.lit (.int .u8 g0),.vec ps.length (drC ps),.vec ord.length (bytesL ord)]):=by rw [hH1,ext_ext];exact get_ext0 ..
 have g1' : H1.get (H.next+1)=some (.arr 0 64 [.lit (.int .i64 0),.lit (.slice none 0 0)]):=by rw [hH1,ext_ext];exact get_ext H _ 1 (by simp)
 have g2' : H1.get (H.next+2)=some (.arr 0 83 (nodesZ (List.replicate n ⟨0,[],[]⟩))):=by
  rw [hH1,ext_ext,show nodesZ (List.replicate n ⟨0,[],[]⟩)=(List.replicate n [AVal.lit (.int .i64 0),.lit (.slice none 0 0),.lit (.slice none 0 0)]).flatten by unfold nodesZ;rw [List.map_replicate];rfl]
  exact get_ext H _ 2 (by simp)
 have g3' : H1.get (H.next+3)=some (.arr 0 64 [.lit (.int .i64 g),.own (H.next+2) 0 0 n 3]):=by rw [hH1,ext_ext];exact get_ext H _ 3 (by simp)
 clear hH1
 have l0:=get_live g0'
 have l1:=get_live (show (ext H1 [.arr 0 5 (List.replicate n (.lit (.int .u8 0)))]).get H.next=some (.arr 0 25 [.lit (.int .u8 g0),.vec ps.length (drC ps),.vec ord.length (bytesL ord)]) by rw [get_ext_old _ _ _ (by omega)];exact g0')
 refine W.draw 4 [0,1,0,4] Try.mixed (by kernel_rfl) (by kernel_rfl) ?_
 simp only [go_sem,Nat.reduceEqDiff,Nat.reducePow,Nat.reduceDiv,Nat.reduceMod,Nat.reduceAdd,Nat.reduceLeDiff,reduceCtorEq,e1,e3,l0,l1,appendA_U]
 refine ⟨⟨by omega,by omega⟩,by omega,by omega,?_⟩
 obtain ⟨H2,hH2⟩ : ∃ H2,H2=ext H1 [.arr 0 5 (List.replicate n (.lit (.int .u8 0)))]:=⟨_,rfl⟩
 have gb : H2.get H1.next=some (.arr 0 5 (List.replicate n (.lit (.int .u8 0)))):=by rw [hH2];exact ext1_get_new
 rw [← hH2]
 refine AApply.clo ((ACall.frame (H:=H2) (args:=[.agg [.own H1.next 0 0 n 1,.lit (.int .u16 0),.vec ord.length (bytesL ord)]]) (args':=[.agg [.vec n (bytesL (List.replicate n 0)),.lit (.int .u16 0),.vec ord.length (bytesL ord)]]) (v':=vecI (permF ord n)) G0_ok rfl (fun i hi _=>?_) (perm_spec n h51.2 ord hol ho8 noH _ fun v H' _ ho=>⟨_,rfl,ho.freshI⟩)).mono fun r H' hr=>?_)
 ·match i,hi with
  | 0,_ =>
   refine .agg rfl fun i hi _=>?_
   match i,hi with
   | 0,_ =>
    have : bytesL (List.replicate n 0)=List.replicate n (.lit (.int .u8 0)):=by unfold bytesL;rw [List.map_replicate]
    rw [this]
    exact Fz.ownRead gb (by simp) fun c hc=>⟨_,List.eq_of_mem_replicate hc⟩
   | 1,_=>exact .lit _
   | 2,_=>exact .vec rfl fun i hi _=>by simp only [bytesL,List.getElem_map];exact .lit _
 obtain ⟨rfl,rfl⟩:=hr
 refine ⟨trivial,?_⟩
 have hperm:=permF_ok ord n
 obtain ⟨P,hP⟩ : ∃ P,P=permF ord n:=⟨_,rfl⟩
 rw [← hP] at hperm ⊢
 have n2 : H'.next=H1.next+1:=by rw [hH2];rfl
 have F0 : FrN H1 H' (H.next+2) (nodesZ (List.replicate n ⟨0,[],[]⟩)):=by
  rw [hH2]
  exact ⟨by simp [ext_next],fun id h _=>get_ext_old _ _ _ h,by rw [get_ext_old _ _ _ (by omega)];exact g2'⟩
 clear hH2 gb
 simp only [go_sem,Nat.reduceEqDiff,e3,appendA_U]
 have bs : ∀ k : Nat,k≤5→(3 : Int) ^ k≤243:=fun k hk=>by
  have : (3 : Nat) ^ k≤3 ^ 5:=Nat.pow_le_pow_right (by decide) hk
  have h2 : ((3 ^ k : Nat) : Int)≤((3 ^ 5 : Nat) : Int):=by exact_mod_cast this
  push_cast at h2
  exact h2
 refine W.loop0 151115727451794287100864 (by rfl) (fun ρ Hx=>∃ (i : Nat) (ns : List NodeP) (Wd : Int),ρ 7=lin i∧i≤n∧ns.length=n∧(∀ x∈ns,x.rows=[]∧x.parents=[])∧(∀ j v : Nat,j<i→P[j]?=some (v : Int)→∃ x,ns[v]?=some x∧2≤x.card∧x.card≤3)∧ρ 6=lin Wd∧1≤Wd∧Wd≤3 ^ i∧H'.next≤Hx.next∧FrN H1 Hx (H.next+2) (nodesZ ns)) (fun ρ H=>n - (iv (ρ 7)).toNat) ?_ ?_
 ·simp only [go_sem,Nat.reduceEqDiff,appendA_U]
  exact ⟨0,_,1,rfl,by omega,by simp,fun x hx=>by obtain rfl:=List.eq_of_mem_replicate hx;exact ⟨rfl,rfl⟩,fun j v hj=>by omega,rfl,by omega,by simp,F0⟩
 rintro ρ Hx ⟨i,ns,Wd,h7,hi,hnl,hnz,hnc,h6,hW1,hW3,hnx,hF⟩
 refine W.env fun E2 hE2=>?_
 have f1 : E2 1=.ptr H.next 0 0:=by rw [hE2];simp only [go_sem,Nat.reduceEqDiff,Nat.reducePow,Nat.reduceDiv,Nat.reduceMod,reduceCtorEq,e1,appendA_U]
 have f2 : E2 2=.ptr (H.next+1) 0 0:=by rw [hE2];simp only [go_sem,Nat.reduceEqDiff,Nat.reducePow,Nat.reduceDiv,Nat.reduceMod,reduceCtorEq,e2,appendA_U]
 have f3 : E2 3=lin n:=by rw [hE2];simp only [go_sem,Nat.reduceEqDiff,Nat.reducePow,Nat.reduceDiv,Nat.reduceMod,reduceCtorEq,e3,appendA_U]
 have f4 : E2 4=.ptr (H.next+3) 0 0:=by rw [hE2];simp only [go_sem,Nat.reduceEqDiff,Nat.reducePow,Nat.reduceDiv,Nat.reduceMod,reduceCtorEq,e4,appendA_U]
 have f5 : E2 5=vecI P:=by rw [hE2];simp only [go_sem,Nat.reduceEqDiff,Nat.reducePow,Nat.reduceDiv,Nat.reduceMod,reduceCtorEq,appendA_U]
 have f6 : E2 6=lin Wd:=by rw [hE2];simp only [go_sem,Nat.reduceEqDiff,Nat.reducePow,Nat.reduceDiv,Nat.reduceMod,h6,appendA_U]
 have f7 : E2 7=lin i:=by rw [hE2];simp only [go_sem,Nat.reduceEqDiff,Nat.reducePow,Nat.reduceDiv,Nat.reduceMod,h7,appendA_U]
 clear hE2
 refine vc_sound _ _ _ (by rfl) ?_
 have hPl:=hperm.len
 have hFn:=hF.1
 have m0:=get_live ((hF.2.1 H.next (by omega) (by omega)).trans g0')
 have m3:=get_live ((hF.2.1 (H.next+3) (by omega) (by omega)).trans g3')
 have mN:=get_live hF.2.2
 have m0' : ∀ L,(ext Hx L).live H.next 0=some (25,[.lit (.int .u8 g0),.vec ps.length (drC ps),.vec ord.length (bytesL ord)]):=fun L=>(ext_live_old (by omega)).trans m0
 have m3' : ∀ L,(ext Hx L).live (H.next+3) 0=some (64,[.lit (.int .i64 g),.own (H.next+2) 0 0 n 3]):=fun L=>(ext_live_old (by omega)).trans m3
 have mN' : ∀ L,(ext Hx L).live (H.next+2) 0=some (83,nodesZ ns):=fun L=>(ext_live_old (by omega)).trans mN
 by_cases hb : (i : Int)<n
 ·obtain ⟨pv,hpv⟩:=get_of_lt (l:=P) (i:=i) (by omega)
  have hpr:=hperm.rng pv (List.mem_of_getElem? hpv)
  obtain ⟨v,rfl⟩:=Int.eq_ofNat_of_zero_le hpr.1
  obtain ⟨x,hx⟩:=get_of_lt (l:=ns) (i:=v) (by omega)
  have hpne:=ne_of_get hpv
  have hz0:=nodesZ_0 hx
  have hzne:=ne_of_get hz0
  have hzl:=nodesZ_len ns
  have hv : (v : Int)<n:=hpr.2
  have hv0 : (v : Int) ≥ 0:=hpr.1
  have hiP : (i : Int)<P.length:=by omega
  have w3:=bs i (by omega)
  have i1:=IntWalk.i64_in ((i : Int)+1) (by omega)
  have i2:=IntWalk.i64_in ((n : Int) - 1) (by omega)
  have i3:=IntWalk.i64_in ((n : Int) - 1 - i) (by omega)
  have i4:=IntWalk.u64_in ((n : Int) - 1 - i) (by omega)
  have fin : ∀ (c : Int) (B : Blk),2≤c∧c≤3→v*3+1≤(nodesZ ns).length∧H'.next≤((ext Hx [B]).upd (H.next+2) (.arr 0 83 (setAt (nodesZ ns) (v*3) [.lit (.int .i64 c)]))).next ∧
    (∃ (i_1 : Nat) (ns_1 : List NodeP) (Wd_1 : Int),AVal.lit (.int .i64 ((i : Int)+1))=.lit (.int .i64 i_1)∧i_1≤n∧ns_1.length=n∧(∀ x∈ns_1,x.rows=[]∧x.parents=[])∧(∀ j v : Nat,j<i_1→P[j]?=some (v : Int)→∃ x,ns_1[v]?=some x∧2≤x.card∧x.card≤3) ∧
     AVal.lit (.int .i64 (Wd*c))=.lit (.int .i64 Wd_1)∧1≤Wd_1∧Wd_1≤3 ^ i_1∧H'.next≤((ext Hx [B]).upd (H.next+2) (.arr 0 83 (setAt (nodesZ ns) (v*3) [.lit (.int .i64 c)]))).next∧FrN H1 ((ext Hx [B]).upd (H.next+2) (.arr 0 83 (setAt (nodesZ ns) (v*3) [.lit (.int .i64 c)]))) (H.next+2) (nodesZ ns_1)) ∧
    n - ((i : Int)+1).toNat<n - (iv (ρ 7)).toNat:=by
   intro c B c23
   have p1 : 2≤Wd*c∧Wd*c≤3 ^ i*3:=by
    constructor
    ·have:=Int.mul_le_mul hW1 c23.1 (by omega) (by omega);omega
    ·exact Int.mul_le_mul hW3 c23.2 (by omega) (by omega)
   have nn : ((ext Hx [B]).upd (H.next+2) (.arr 0 83 (setAt (nodesZ ns) (v*3) [.lit (.int .i64 c)]))).next=Hx.next+1:=rfl
   refine ⟨by rw [hzl];have:=get_lt hx;omega,by rw [nn];omega,⟨i+1,ns.set v ⟨c,[],[]⟩,Wd*c,rfl,by omega,by simp [hnl],fun z hz=>?_,fun j u hj hu=>?_,rfl,by omega,by rw [Int.pow_succ];omega,by rw [nn];omega,?_⟩,by rw [h7];simp only [lin,iv_int];omega⟩
   ·rcases List.mem_or_eq_of_mem_set hz with h|h
    ·exact hnz z h
    ·rw [h];exact ⟨rfl,rfl⟩
   ·by_cases huv : u=v
    ·subst huv
     exact ⟨_,List.getElem?_set_self (get_lt hx),by dsimp only;omega,by dsimp only;omega⟩
    ·rw [List.getElem?_set_ne (by omega)]
     refine hnc j u ?_ hu
     rcases Nat.lt_or_ge j i with h|h
     ·exact h
     ·obtain rfl : j=i:=by omega
      rw [hpv] at hu
      exact absurd (by have:=Option.some.inj hu;omega) huv
   ·refine ⟨by rw [nn];omega,fun id h1 h2=>by rw [upd_get,if_neg h2,get_ext_old _ _ _ (by omega)];exact hF.2.1 id h1 h2,?_⟩
    rw [upd_get,if_pos rfl,nodesZ_set0 hx (hnz x (List.mem_of_getElem? hx)).1 rfl]
    congr 2
    exact setAt_one (by rw [hzl];have:=get_lt hx;omega)
  by_cases hp : (i : Int)<ps.length
  ·obtain ⟨y,hy⟩:=get_of_lt (l:=ps) (i:=i) (by omega)
   have hyo:=hps y (List.mem_of_getElem? hy)
   have hc0:=drC_part hy
   have hc1 : i*3+3≤(drC ps).length:=by rw [drC_len];omega
   have hcne : ¬ drC ps=[]:=fun h=>by rw [h] at hc1;simp at hc1
   have c8:=hyo.1
   have t1 : y.card.tmod 2=y.card % 2:=Int.tmod_eq_emod_of_nonneg c8.1
   have i5:=IntWalk.u8_in (y.card % 2) (by omega)
   have i6:=IntWalk.i64_in (y.card % 2) (by omega)
   have i7:=IntWalk.i64_in (2+y.card % 2) (by omega)
   have c23 : 2≤(2+y.card % 2)∧(2+y.card % 2)≤3:=by omega
   have p1 : 2≤Wd*(2+y.card % 2)∧Wd*(2+y.card % 2)≤3 ^ i*3:=by
    constructor
    ·have:=Int.mul_le_mul hW1 c23.1 (by omega) (by omega);omega
    ·exact Int.mul_le_mul hW3 c23.2 (by omega) (by omega)
   have p2 : 2≤Wd*2∧Wd*2≤3 ^ i*3:=by omega
   have j1:=IntWalk.i64_in (Wd*(2+y.card % 2)) (by omega)
   have j2:=IntWalk.i64_in (Wd*2) (by omega)
   obtain ⟨q,hq⟩ : ∃ q,IntKind.i64.wrap (Wd*(2+y.card % 2)*2 ^ (min ((n : Int) - 1 - i).toNat IntKind.i64.bits))=q:=⟨_,rfl⟩
   have hsh : ∀ t o1 o2,binA Try.prog .shl t o1 o2 (.lit (.int .i64 (Wd*(2+y.card % 2)))) (.lit (.int .u64 ((n : Int) - 1 - i)))=some (.lit (.int .i64 q)):=fun t o1 o2=>by rw [bin_shl (by omega),hq]
   by_cases hq1 : q > 100
   ·simp only [go_sem,Int.reduceEq,Nat.reduceEqDiff,Nat.reducePow,Nat.reduceDiv,Nat.reduceMod,Nat.reduceAdd,f1,f3,f4,f5,f6,f7,m0',m3',mN',hb,hp,i1,i2,i3,i4,j1,j2,hsh,hpv,hpne,hv,hv0,hiP,hz0,hzne,hc0,hc1,hcne,t1,i5,i6,i7,hq1,appendA_U]
    refine W.draw 7 [0,1,0,0,12,28,0] Try.mixed (by kernel_rfl) (by kernel_rfl) ?_
    simp only [go_sem,Nat.reduceEqDiff,Nat.reducePow,Nat.reduceDiv,Nat.reduceMod,Nat.reduceAdd,reduceCtorEq,f1,f3,f4,f5,f6,f7,m0',m3',mN',hb,hp,i1,i2,i3,i4,j1,j2,hsh,hpv,hpne,hv,hv0,hiP,hz0,hzne,hc0,hc1,hcne,t1,i5,i6,i7,hq1,appendA_U]
    exact fin 2 _ (by omega)
   ·simp only [go_sem,Int.reduceEq,Nat.reduceEqDiff,Nat.reducePow,Nat.reduceDiv,Nat.reduceMod,Nat.reduceAdd,f1,f3,f4,f5,f6,f7,m0',m3',mN',hb,hp,i1,i2,i3,i4,j1,j2,hsh,hpv,hpne,hv,hv0,hiP,hz0,hzne,hc0,hc1,hcne,t1,i5,i6,i7,hq1,appendA_U]
    refine W.draw 7 [0,1,0,0,12,28,0] Try.mixed (by kernel_rfl) (by kernel_rfl) ?_
    simp only [go_sem,Nat.reduceEqDiff,Nat.reducePow,Nat.reduceDiv,Nat.reduceMod,Nat.reduceAdd,reduceCtorEq,f1,f3,f4,f5,f6,f7,m0',m3',mN',hb,hp,i1,i2,i3,i4,j1,j2,hsh,hpv,hpne,hv,hv0,hiP,hz0,hzne,hc0,hc1,hcne,t1,i5,i6,i7,hq1,appendA_U]
    exact fin (2+y.card % 2) _ c23
  ·have p2 : 2≤Wd*2∧Wd*2≤3 ^ i*3:=by omega
   have i5 : IntKind.i64.wrap (2+IntKind.i64.wrap (Int.tmod 0 2))=2:=by decide
   have j2:=IntWalk.i64_in (Wd*2) (by omega)
   obtain ⟨q,hq⟩ : ∃ q,IntKind.i64.wrap (Wd*2*2 ^ (min ((n : Int) - 1 - i).toNat IntKind.i64.bits))=q:=⟨_,rfl⟩
   have hsh : ∀ t o1 o2,binA Try.prog .shl t o1 o2 (.lit (.int .i64 (Wd*2))) (.lit (.int .u64 ((n : Int) - 1 - i)))=some (.lit (.int .i64 q)):=fun t o1 o2=>by rw [bin_shl (by omega),hq]
   by_cases hq1 : q > 100
   ·simp only [go_sem,Int.reduceEq,Nat.reduceEqDiff,Nat.reducePow,Nat.reduceDiv,Nat.reduceMod,f1,f3,f4,f5,f6,f7,m0',m3',mN',hb,hp,i1,i2,i3,i4,j2,hsh,hpv,hpne,hv,hv0,hiP,hz0,hzne,i5,hq1,appendA_U]
    refine W.draw 7 [0,1,0,0,12,28,0] Try.mixed (by kernel_rfl) (by kernel_rfl) ?_
    simp only [go_sem,Nat.reduceEqDiff,Nat.reducePow,Nat.reduceDiv,Nat.reduceMod,Nat.reduceAdd,reduceCtorEq,f1,f3,f4,f5,f6,f7,m0',m3',mN',hb,hp,i1,i2,i3,i4,j2,hsh,hpv,hpne,hv,hv0,hiP,hz0,hzne,i5,hq1,appendA_U]
    exact fin 2 _ (by omega)
   ·simp only [go_sem,Int.reduceEq,Nat.reduceEqDiff,Nat.reducePow,Nat.reduceDiv,Nat.reduceMod,f1,f3,f4,f5,f6,f7,m0',m3',mN',hb,hp,i1,i2,i3,i4,j2,hsh,hpv,hpne,hv,hv0,hiP,hz0,hzne,i5,hq1,appendA_U]
    refine W.draw 7 [0,1,0,0,12,28,0] Try.mixed (by kernel_rfl) (by kernel_rfl) ?_
    simp only [go_sem,Nat.reduceEqDiff,Nat.reducePow,Nat.reduceDiv,Nat.reduceMod,Nat.reduceAdd,reduceCtorEq,f1,f3,f4,f5,f6,f7,m0',m3',mN',hb,hp,i1,i2,i3,i4,j2,hsh,hpv,hpne,hv,hv0,hiP,hz0,hzne,i5,hq1,appendA_U]
    exact fin 2 _ (by omega)
 ·obtain rfl : n=i:=by omega
  clear bs hW1 hW3 h6 f6
  simp only [go_sem,Nat.reduceEqDiff,Nat.reducePow,Nat.reduceDiv,Nat.reduceMod,f3,f7,hb,appendA_U]
  obtain ⟨cs,hcs⟩ : ∃ cs,cs=cardsL ns:=⟨_,rfl⟩
  have csl : cs.length=n:=by rw [hcs,cards_len,hnl]
  have hc23 : ∀ c∈cs,2≤c∧c≤3:=fun c hc=>by
   obtain ⟨v,hv⟩:=List.mem_iff_getElem?.1 hc
   have hvn:=get_lt hv
   have hm:=permF_mem ord n v (by omega)
   rw [← hP] at hm
   obtain ⟨j,hj⟩:=List.mem_iff_getElem?.1 hm
   obtain ⟨x,hx,h2,h3⟩:=hnc j v (by have:=get_lt hj;omega) hj
   rw [hcs,cards_get hx] at hv
   cases hv
   exact ⟨h2,h3⟩
  have L0 : LoopN g cs P n 0 ns:=⟨hnl,hcs.symm,fun j v x _ _ hx=>hnz x (List.mem_of_getElem? hx),fun j v x h=>by omega⟩
  clear hnc hnz h7
  refine W.loop0 98079714615416886934934209737619636635871851991103765504 (by rfl) (fun ρ Hy=>∃ (i : Nat) (ns : List NodeP),ρ 10=lin i∧i≤n∧LoopN g cs P n i ns∧Hx.next≤Hy.next∧FrN H1 Hy (H.next+2) (nodesZ ns)) (fun ρ H=>n - (iv (ρ 10)).toNat) ?_ ?_
  ·simp only [go_sem,Nat.reduceEqDiff,appendA_U]
   exact ⟨0,ns,rfl,by omega,L0,hF⟩
  clear L0 hF m0 m3 mN m0' m3' mN' hFn hnl hcs f7
  rintro ρ Hy ⟨i,ns,h10,hi,L,hny,hF⟩
  refine W.env fun E hE=>?_
  have e1 : E 1=.ptr H.next 0 0:=by rw [hE];simp only [go_sem,Nat.reduceEqDiff,Nat.reducePow,Nat.reduceDiv,Nat.reduceMod,reduceCtorEq,f1,appendA_U]
  have e2 : E 2=.ptr (H.next+1) 0 0:=by rw [hE];simp only [go_sem,Nat.reduceEqDiff,Nat.reducePow,Nat.reduceDiv,Nat.reduceMod,reduceCtorEq,f2,appendA_U]
  have e3 : E 3=lin n:=by rw [hE];simp only [go_sem,Nat.reduceEqDiff,Nat.reducePow,Nat.reduceDiv,Nat.reduceMod,reduceCtorEq,f3,appendA_U]
  have e4 : E 4=.ptr (H.next+3) 0 0:=by rw [hE];simp only [go_sem,Nat.reduceEqDiff,Nat.reducePow,Nat.reduceDiv,Nat.reduceMod,reduceCtorEq,f4,appendA_U]
  have e5 : E 5=vecI P:=by rw [hE];simp only [go_sem,Nat.reduceEqDiff,Nat.reducePow,Nat.reduceDiv,Nat.reduceMod,reduceCtorEq,f5,appendA_U]
  have e10 : E 10=lin i:=by rw [hE];simp only [go_sem,Nat.reduceEqDiff,Nat.reducePow,Nat.reduceDiv,Nat.reduceMod,h10,appendA_U]
  clear hE
  refine vc_sound _ _ _ (by rfl) ?_
  have hFn:=hF.1
  have m0:=get_live ((hF.2.1 H.next (by omega) (by omega)).trans g0')
  have m1:=get_live ((hF.2.1 (H.next+1) (by omega) (by omega)).trans g1')
  have m3:=get_live ((hF.2.1 (H.next+3) (by omega) (by omega)).trans g3')
  have m0' : ∀ L,(ext Hy L).live H.next 0=some (25,[.lit (.int .u8 g0),.vec ps.length (drC ps),.vec ord.length (bytesL ord)]):=fun L=>(ext_live_old (by omega)).trans m0
  by_cases hb : (i : Int)<n
  ·obtain ⟨pv,hpv⟩:=get_of_lt (l:=P) (i:=i) (by omega)
   have hpr:=hperm.rng pv (List.mem_of_getElem? hpv)
   obtain ⟨v,rfl⟩:=Int.eq_ofNat_of_zero_le hpr.1
   have hnl:=L.len
   obtain ⟨x,hx⟩:=get_of_lt (l:=ns) (i:=v) (by omega)
   have hpne:=ne_of_get hpv
   have hiP : (i : Int)<P.length:=by omega
   have hP1 : ∀ k : Nat,k<n→∃ u : Nat,P[k]?=some (u : Int)∧u<n:=fun k hk=>by
    obtain ⟨q,hq⟩:=get_of_lt (l:=P) (i:=k) (by omega)
    have:=hperm.rng q (List.mem_of_getElem? hq)
    obtain ⟨u,rfl⟩:=Int.eq_ofNat_of_zero_le this.1
    exact ⟨u,hq,by omega⟩
   have hpc : ∀ (B : List AVal),B=(if (i : Int)<ps.length then (drC ps).drop (i*3) |>.take 3 else [.lit (.int .u8 0),.lit (.int .u8 0),.lit (.slice none 0 0)])→∃ (pc par : Int) (bs : List Int) (wv : AVal),B=[.lit (.int .u8 pc),.lit (.int .u8 par),wv]∧U8 par∧(∀ b∈bs,U8 b)∧(bs.length : Int)<2 ^ 63∧wv.one=true∧wv.cells=[wv]∧∀ H0,Fz (fun _=>True) H0 0 wv (.vec bs.length (bytesL bs)):=by
    rintro B rfl
    by_cases hp : (i : Int)<ps.length
    ·obtain ⟨y,hy⟩:=get_of_lt (l:=ps) (i:=i) (by omega)
     have hyo:=hps y (List.mem_of_getElem? hy)
     rw [if_pos hp,drC_part hy]
     exact ⟨y.card,y.par,y.w,_,rfl,hyo.2.1,hyo.2.2.2,hyo.2.2.1,rfl,rfl,fun H0=>.vec rfl fun i hi _=>by simp only [bytesL,List.getElem_map];exact .lit _⟩
    ·rw [if_neg hp]
     exact ⟨0,0,[],_,rfl,by unfold U8;omega,by simp,by simp,rfl,rfl,fun H0=>.nil⟩
   by_cases hp : (i : Int)<ps.length
   case' pos =>
    have hc1 : i*3+3≤(drC ps).length:=by rw [drC_len];omega
    have hcne : ¬ drC ps=[]:=fun h=>by rw [h] at hc1;simp at hc1
    rw [if_pos hp] at hpc
    obtain ⟨pc,par,bs,wv,hc0,hpar,hbs,hbl,hwo,hwc,hwf⟩:=hpc _ rfl
    simp only [go_sem,Nat.reduceEqDiff,Nat.reducePow,Nat.reduceDiv,Nat.reduceMod,Nat.reduceAdd,e1,e3,e4,e5,e10,m0',hb,hp,hc0,hc1,hcne,hpv,hpne,hiP,hwo,hwc,Bool.and_true,appendA_U]
    obtain ⟨Hz,hHz⟩ : ∃ Hz,Hz=ext Hy [.arr 0 142 [.lit (.int .u8 pc),.lit (.int .u8 par),wv]]:=⟨_,rfl⟩
    clear hpc hc0 hc1 hcne hp
   case' neg =>
    rw [if_neg hp] at hpc
    obtain ⟨pc,par,bs,wv,hc0,hpar,hbs,hbl,hwo,hwc,hwf⟩:=hpc _ rfl
    simp only [go_sem,Nat.reduceEqDiff,Nat.reducePow,Nat.reduceDiv,Nat.reduceMod,e1,e3,e4,e5,e10,m0',hb,hp,hpv,hpne,hiP,appendA_U]
    rw [hc0]
    obtain ⟨Hz,hHz⟩ : ∃ Hz,Hz=ext Hy [.arr 0 142 [.lit (.int .u8 pc),.lit (.int .u8 par),wv]]:=⟨_,rfl⟩
    clear hpc hc0 hp
   all_goals
    rw [← hHz]
    refine W.env fun E3 hE3=>?_
    have k1 : E3 1=.ptr H.next 0 0:=by rw [hE3];simp only [go_sem,Nat.reduceEqDiff,e1,appendA_U]
    have k2 : E3 2=.ptr (H.next+1) 0 0:=by rw [hE3];simp only [go_sem,Nat.reduceEqDiff,e2,appendA_U]
    have k3 : E3 3=lin n:=by rw [hE3];simp only [go_sem,Nat.reduceEqDiff,e3,appendA_U]
    have k4 : E3 4=.ptr (H.next+3) 0 0:=by rw [hE3];simp only [go_sem,Nat.reduceEqDiff,e4,appendA_U]
    have k5 : E3 5=vecI P:=by rw [hE3];simp only [go_sem,Nat.reduceEqDiff,e5,appendA_U]
    have k10 : E3 10=lin i:=by rw [hE3];simp only [go_sem,Nat.reduceEqDiff,e10,appendA_U]
    have k11 : E3 11=.ptr Hy.next 0 0:=by rw [hE3];simp only [go_sem,Nat.reduceEqDiff,appendA_U]
    have k12 : E3 12=lin v:=by rw [hE3];simp only [go_sem,Nat.reduceEqDiff,appendA_U]
    have k13 : E3 13=lin 0:=by rw [hE3];simp only [go_sem,Nat.reduceEqDiff,appendA_U]
    clear hE3
    have nz : Hz.next=Hy.next+1:=by rw [hHz];rfl
    have z3 : Hz.get (H.next+3)=some (.arr 0 64 [.lit (.int .i64 g),.own (H.next+2) 0 0 n 3]):=by rw [hHz,get_ext_old _ _ _ (by omega)];exact (hF.2.1 (H.next+3) (by omega) (by omega)).trans g3'
    have zP : Hz.get Hy.next=some (.arr 0 142 [.lit (.int .u8 pc),.lit (.int .u8 par),wv]):=by rw [hHz];exact ext1_get_new
    have zN : Hz.get (H.next+2)=some (.arr 0 83 (nodesZ ns)):=by rw [hHz,get_ext_old _ _ _ (by omega)];exact hF.2.2
    have zO : ∀ id,id<H1.next→id≠H.next+2→Hz.get id=H1.get id:=fun id h1 h2=>by rw [hHz,get_ext_old _ _ _ (by omega)];exact hF.2.1 id h1 h2
    obtain ⟨xr,xp⟩:=L.todo i v x (Nat.le_refl _) hpv hx
    have hzl:=nodesZ_len ns
    have hvn:=get_lt hx
    have hcx : (nodesZ ns)[v*3+1]?=some (.lit (.slice none 0 0)):=by
     have:=flat_get (f:=NodeP.cellsZ) (z:=3) cellsZ_len ns v 1 x hx (by omega)
     rw [show (nodesZ ns)[v*3+1]?=_ from this]
     unfold NodeP.cellsZ;rw [if_pos xr];rfl
    clear hHz e1 e2 e3 e4 e5 e10 f1 f2 f3 f4 f5 m0' m0 m1 m3
    have vlt : (v : Int)<n:=hpr.2
    have v0 : (v : Int) ≥ 0:=hpr.1
    have hset : ∀ pv pv',setAt ((nodesZ ns).set (v*3+1) pv) (v*3+1) [pv']=(nodesZ ns).set (v*3+1) pv':=fun pv pv'=>by rw [setAt_one (by rw [List.length_set];omega),List.set_set]
    have hgetc : ∀ pv,((nodesZ ns).set (v*3+1) pv)[v*3+1]?=some pv:=fun pv=>List.getElem?_set_self (by omega)
    refine W.postWeak (Q':=fun e s2=>e=.exit 4∧∃ pv l,s2.ρ 1=.ptr H.next 0 0∧s2.ρ 2=.ptr (H.next+1) 0 0∧s2.ρ 3=lin n∧s2.ρ 4=.ptr (H.next+3) 0 0∧s2.ρ 5=vecI P∧s2.ρ 10=lin i∧s2.ρ 11=.ptr Hy.next 0 0∧s2.ρ 12=lin v∧PSt Hz s2.H (H.next+2) (v*3+1) (nodesZ ns) pv l∧ParU P i n 0 l) ?_ ?_
    ·refine W.loop0 44601490397061167054908922280959129468035072 (by rfl) (fun ρ Hu=>∃ (u : Nat) (pv : AVal) (l : List Int),ρ 13=lin u∧u≤n∧PSt Hz Hu (H.next+2) (v*3+1) (nodesZ ns) pv l∧ParU P i u 0 l) (fun ρ H=>n - (iv (ρ 13)).toNat) ?_ ?_
     ·simp only [go_sem,k13,appendA_U]
      refine ⟨0,.lit (.slice none 0 0),[],rfl,by omega,⟨⟨Nat.le_refl _,fun _ _ _=>rfl,?_⟩,.nil⟩,⟨by simp,by simp,by simp,by simp⟩⟩
      rw [zN,set_get_self hcx]
     rintro ρu Hu ⟨u,pv,l,h13,hu,hS,hL⟩
     refine W.env fun E4 hE4=>?_
     have q3 : E4 3=lin n:=by rw [hE4];simp only [go_sem,Nat.reducePow,Nat.reduceDiv,Nat.reduceMod,reduceCtorEq,k3,appendA_U]
     have q4 : E4 4=.ptr (H.next+3) 0 0:=by rw [hE4];simp only [go_sem,Nat.reducePow,Nat.reduceDiv,Nat.reduceMod,reduceCtorEq,k4,appendA_U]
     have q5 : E4 5=vecI P:=by rw [hE4];simp only [go_sem,Nat.reducePow,Nat.reduceDiv,Nat.reduceMod,reduceCtorEq,k5,appendA_U]
     have q10 : E4 10=lin i:=by rw [hE4];simp only [go_sem,Nat.reducePow,Nat.reduceDiv,Nat.reduceMod,reduceCtorEq,k10,appendA_U]
     have q11 : E4 11=.ptr Hy.next 0 0:=by rw [hE4];simp only [go_sem,Nat.reducePow,Nat.reduceDiv,Nat.reduceMod,reduceCtorEq,k11,appendA_U]
     have q12 : E4 12=lin v:=by rw [hE4];simp only [go_sem,Nat.reducePow,Nat.reduceDiv,Nat.reduceMod,reduceCtorEq,k12,appendA_U]
     have q13 : E4 13=lin u:=by rw [hE4];simp only [go_sem,Nat.reducePow,Nat.reduceDiv,Nat.reduceMod,h13,appendA_U]
     have q1 : E4 1=.ptr H.next 0 0:=by rw [hE4];simp only [go_sem,Nat.reducePow,Nat.reduceDiv,Nat.reduceMod,reduceCtorEq,k1,appendA_U]
     have q2 : E4 2=.ptr (H.next+1) 0 0:=by rw [hE4];simp only [go_sem,Nat.reducePow,Nat.reduceDiv,Nat.reduceMod,reduceCtorEq,k2,appendA_U]
     clear hE4
     refine vc_sound _ _ _ (by rfl) ?_
     by_cases hub : (u : Int)<n
     ·have u1:=IntWalk.i64_in ((u : Int)+1) (by omega)
      simp only [go_sem,Nat.reduceEqDiff,Nat.reducePow,Nat.reduceDiv,Nat.reduceMod,q3,q13,hub,appendA_U]
      refine W.loop0 44601490397058710981870980086493729605566464 (by rfl) (fun ρ Hk=>∃ (k : Nat) (pv : AVal) (l : List Int),ρ 14=lin k∧k≤i∧Hu.next≤Hk.next∧PSt Hz Hk (H.next+2) (v*3+1) (nodesZ ns) pv l∧ParU P i u k l) (fun ρ H=>i - (iv (ρ 14)).toNat) ?_ ?_
      ·simp only [go_sem,Nat.reduceEqDiff,appendA_U]
       exact ⟨0,pv,l,rfl,by omega,hS,hL⟩
      clear hS hL
      rintro ρk Hk ⟨k,pv,l,h14,hk,hnk,hS,hL⟩
      refine W.env fun E5 hE5=>?_
      have r4 : E5 4=.ptr (H.next+3) 0 0:=by rw [hE5];simp only [go_sem,Nat.reduceEqDiff,Nat.reducePow,Nat.reduceDiv,Nat.reduceMod,reduceCtorEq,q4,appendA_U]
      have r5 : E5 5=vecI P:=by rw [hE5];simp only [go_sem,Nat.reduceEqDiff,Nat.reducePow,Nat.reduceDiv,Nat.reduceMod,reduceCtorEq,q5,appendA_U]
      have r10 : E5 10=lin i:=by rw [hE5];simp only [go_sem,Nat.reduceEqDiff,Nat.reducePow,Nat.reduceDiv,Nat.reduceMod,reduceCtorEq,q10,appendA_U]
      have r11 : E5 11=.ptr Hy.next 0 0:=by rw [hE5];simp only [go_sem,Nat.reduceEqDiff,Nat.reducePow,Nat.reduceDiv,Nat.reduceMod,reduceCtorEq,q11,appendA_U]
      have r12 : E5 12=lin v:=by rw [hE5];simp only [go_sem,Nat.reduceEqDiff,Nat.reducePow,Nat.reduceDiv,Nat.reduceMod,reduceCtorEq,q12,appendA_U]
      have r13 : E5 13=lin u:=by rw [hE5];simp only [go_sem,Nat.reduceEqDiff,Nat.reducePow,Nat.reduceDiv,Nat.reduceMod,reduceCtorEq,q13,appendA_U]
      have r14 : E5 14=lin k:=by rw [hE5];simp only [go_sem,Nat.reduceEqDiff,Nat.reducePow,Nat.reduceDiv,Nat.reduceMod,h14,appendA_U]
      clear hE5
      refine vc_sound _ _ _ (by rfl) ?_
      by_cases hki : (k : Int)<i
      ·obtain ⟨hFz,hOz⟩:=hS
       have hFz1:=hFz.1
       obtain ⟨a,ha,han⟩:=hP1 k (by omega)
       have hane:=ne_of_get ha
       have hkP : (k : Int)<P.length:=by omega
       have s1:=IntWalk.i64_in ((k : Int)+1) (by omega)
       have s2:=IntWalk.u64_in (k : Int) (by omega)
       have y3:=get_live ((hFz.2.1 (H.next+3) (by omega) (by omega)).trans z3)
       have yP:=get_live ((hFz.2.1 Hy.next (by omega) (by omega)).trans zP)
       have yN:=get_live hFz.2.2
       have hgc:=hgetc pv
       have hcne2:=ne_of_get hgc
       obtain ⟨r1,hr1⟩ : ∃ r1,∀ t o1 o2,binA Try.prog .shr t o1 o2 (.lit (.int .u8 par)) (.lit (.int .u64 (k : Int)))=some (.lit (.int .u8 r1)):=⟨_,fun _ _ _=>bin_shr (by omega)⟩
       obtain ⟨r2,hr2⟩ : ∃ r2,∀ t o1 o2,binA Try.prog .and t o1 o2 (.lit (.int .u8 r1)) (.lit (.int .u8 1))=some (.lit (.int .u8 r2)):=⟨_,fun _ _ _=>bin_and⟩
       have hlen:=own_len hOz (d:=some (.slice 3)) rfl
       rw [lenU_slice,ints_length] at hlen
       by_cases hau : (a : Int)=u
       ·have hau' : a=u:=by omega
        by_cases hr : r2=1
        ·by_cases hl3 : (l.length : Int)<3
         ·simp only [go_sem,Nat.reduceEqDiff,Nat.reducePow,Nat.reduceDiv,Nat.reduceMod,r4,r5,r10,r11,r12,r13,r14,hki,ha,hane,hkP,s1,s2,y3,yP,yN,hgc,hcne2,hr1,hr2,hlen,hau,hr,hl3,vlt,v0,appendA_U]
          obtain ⟨pv',Hj,hA,hO',hn',hpr'⟩:=app_oneG (P:=Try.prog) (H:=Hk) (t:=59) (x:=lin u) (n:=Hk.next+1) Try.underlying59 Try.cells3 Try.zero3 rfl (by rw [Try.bytes3,ints_length];omega) hOz hFz1 rfl
          simp only [lin] at hA
          have keep : ∀ id,id<Hz.next→Hj.get id=Hk.get id:=fun id h=>hpr' id (by omega) (hOz.ne h)
          have y3j:=get_live ((keep _ (by omega)).trans ((hFz.2.1 (H.next+3) (by omega) (by omega)).trans z3))
          have yNj:=get_live ((keep _ (by omega)).trans hFz.2.2)
          refine W.draw 12 [0,1,0,0,8,0,56,120,248,0,512,2040] Try.mixed (by kernel_rfl) (by kernel_rfl) ?_
          simp only [go_sem,Nat.reduceEqDiff,Nat.reducePow,Nat.reduceDiv,Nat.reduceMod,Nat.reduceAdd,Nat.reduceLeDiff,reduceCtorEq,r4,r5,r10,r11,r12,r13,r14,y3,y3j,yN,yNj,hgc,hcne2,vlt,v0,hA,s1]
          have hdj : djF (if isOwn pv=true then { eff:=idsV pv,rs:=idsV pv++[Hk.next] } else { eff:=[Hk.next+1],rs:=[Hk.next] }) { eff:=[],rs:=[H.next+3] }:=by
           rcases hOz with ⟨hO1,_⟩|⟨id,gg,hO1,hO2,hO3,_⟩
           ·rw [hO1]
            show djF { eff:=[Hk.next+1],rs:=[Hk.next] } _
            exact ⟨fun a ha=>by (obtain rfl : a=Hk.next+1:=by simpa using ha);simp;omega,fun a ha=>by simp at ha⟩
           ·rw [hO3]
            show djF { eff:=[id],rs:=[id]++[Hk.next] } _
            exact ⟨fun a ha=>by (obtain rfl : a=id:=by simpa using ha);simp;omega,fun a ha=>by simp at ha⟩
          have hpc1:=hO'.cells
          rw [hpc1]
          refine ⟨⟨by omega,by omega,by omega,by omega,by omega,by omega,by omega⟩,⟨hdj,hdj⟩,⟨rfl,by simp [hO'.one],by rw [List.length_set];simp;omega⟩,by rw [upd_next];omega,⟨k+1,pv',l++[(u : Int)],rfl,by omega,by rw [upd_next];omega,⟨⟨by rw [upd_next];omega,fun id h1 h2=>by rw [upd_get,if_neg h2,keep _ h1];exact hFz.2.1 id h1 h2,?_⟩,?_⟩,hL.add hperm (by omega) (by rw [ha,hau]) (by omega)⟩,by rw [h14];simp only [lin,iv_int];omega⟩
          ·rw [upd_get,if_pos rfl,hset]
          ·have:=hO'.keep (lo':=Hz.next) (H':=Hj.upd (H.next+2) (.arr 0 83 (setAt ((nodesZ ns).set (v*3+1) pv) (v*3+1) [pv']))) (Nat.le_refl _) (Nat.le_refl _) fun id _ h1 _ _ _=>by rw [upd_get,if_neg (by omega)]
           simpa [ints,lin] using this
         ·simp only [go_sem,Nat.reduceEqDiff,Nat.reducePow,Nat.reduceDiv,Nat.reduceMod,r4,r5,r10,r11,r12,r13,r14,hki,ha,hane,hkP,s1,s2,y3,yP,yN,hgc,hcne2,hr1,hr2,hlen,hau,hr,hl3,vlt,v0,guardA_undef,appendA_U]
          exact ⟨hnk,⟨k+1,pv,l,rfl,by omega,hnk,⟨hFz,hOz⟩,hL.skip⟩,by rw [h14];simp only [lin,iv_int];omega⟩
        ·simp only [go_sem,Nat.reduceEqDiff,Nat.reducePow,Nat.reduceDiv,Nat.reduceMod,r4,r5,r10,r11,r12,r13,r14,hki,ha,hane,hkP,s1,s2,y3,yP,yN,hgc,hcne2,hr1,hr2,hlen,hau,hr,vlt,v0,guardA_undef,appendA_U]
         exact ⟨hnk,⟨k+1,pv,l,rfl,by omega,hnk,⟨hFz,hOz⟩,hL.skip⟩,by rw [h14];simp only [lin,iv_int];omega⟩
       ·simp only [go_sem,Nat.reduceEqDiff,Nat.reducePow,Nat.reduceDiv,Nat.reduceMod,r4,r5,r10,r11,r12,r13,r14,hki,ha,hane,hkP,s1,s2,y3,yP,yN,hgc,hcne2,hr1,hr2,hlen,hau,vlt,v0,guardA_undef,appendA_U]
        exact ⟨hnk,⟨k+1,pv,l,rfl,by omega,hnk,⟨hFz,hOz⟩,hL.skip⟩,by rw [h14];simp only [lin,iv_int];omega⟩
      ·obtain rfl : k=i:=by omega
       simp only [go_sem,Nat.reduceEqDiff,Nat.reducePow,Nat.reduceDiv,Nat.reduceMod,r10,r13,r14,hki,u1,appendA_U]
       exact ⟨by have:=hS.1.1;omega,⟨u+1,pv,l,rfl,by omega,hS,hL.next⟩,by rw [h13];simp only [lin,iv_int];omega⟩
     ·obtain rfl : u=n:=by omega
      simp only [go_sem,Nat.reduceEqDiff,Nat.reducePow,Nat.reduceDiv,Nat.reduceMod,q1,q2,q3,q4,q5,q10,q11,q12,q13,hub,appendA_U]
      exact ⟨pv,l,hS,hL⟩
    ·rintro e s2 ⟨rfl,pv,l,a1,a2,a3,a4,a5,a10,a11,a12,⟨hFz,hOz⟩,hL⟩
     have hFz1:=hFz.1
     obtain ⟨rk,hrk,hfz⟩ : ∃ rk,Hz.next≤rk∧Fz (fun id=>id=rk) s2.H s2.H.next pv (vecI l):=by
      rcases hOz with ⟨hO1,hO2⟩|⟨id,gg,hO1,hO2,hO3,hO4⟩
      ·have : l=[]:=by cases l with
        | nil=>rfl
        | cons b l=>simp [ints] at hO2
       rw [hO1,this]
       exact ⟨s2.H.next,hFz1,.nil⟩
      ·refine ⟨id,hO1,?_⟩
       rw [hO3,ints_length]
       refine .frz rfl hO4 (by rw [Nat.mul_one,ints_length]) fun j hj h2 h'=>?_
       simp only [Nat.zero_add,ints,List.getElem_map]
       exact .lit _
     have hne2 : H.next+2≠rk:=by omega
     refine ⟨⟨s2.ρ,s2.H.melt rk (H.next+2) (.arr 0 83 ((nodesZ ns).set (v*3+1) (vecI l)))⟩,WeakS.melt G0_ok hFz.2.2 hne2 (by simp) (fz_set (fz_nodesZ' ns) hfz),Nat.le_refl _,trivial,?_⟩
     obtain ⟨Hm,hHm⟩ : ∃ Hm,Hm=s2.H.melt rk (H.next+2) (.arr 0 83 ((nodesZ ns).set (v*3+1) (vecI l))):=⟨_,rfl⟩
     rw [← hHm]
     have hFm : FrN Hz Hm (H.next+2) ((nodesZ ns).set (v*3+1) (vecI l)):=by
      rw [hHm]
      exact ⟨hFz1,fun id h1 h2=>(melt_other (by omega) h2).trans (hFz.2.1 id h1 h2),melt_ob hne2⟩
     clear hFz hOz hfz hHm hne2 hrk
     simp only [go_sem,Nat.reduceEqDiff,appendA_U]
     refine W.env fun E6 hE6=>?_
     have y1 : E6 1=.ptr H.next 0 0:=by rw [hE6];simp only [go_sem,Nat.reduceEqDiff,a1,appendA_U]
     have y2 : E6 2=.ptr (H.next+1) 0 0:=by rw [hE6];simp only [go_sem,Nat.reduceEqDiff,a2,appendA_U]
     have y3 : E6 3=lin n:=by rw [hE6];simp only [go_sem,Nat.reduceEqDiff,a3,appendA_U]
     have y4 : E6 4=.ptr (H.next+3) 0 0:=by rw [hE6];simp only [go_sem,Nat.reduceEqDiff,a4,appendA_U]
     have y5 : E6 5=vecI P:=by rw [hE6];simp only [go_sem,Nat.reduceEqDiff,a5,appendA_U]
     have y10 : E6 10=lin i:=by rw [hE6];simp only [go_sem,Nat.reduceEqDiff,a10,appendA_U]
     have y11 : E6 11=.ptr Hy.next 0 0:=by rw [hE6];simp only [go_sem,Nat.reduceEqDiff,a11,appendA_U]
     have y12 : E6 12=lin v:=by rw [hE6];simp only [go_sem,Nat.reduceEqDiff,a12,appendA_U]
     have y15 : E6 15=lin 0:=by rw [hE6];simp only [go_sem,appendA_U]
     clear hE6 a1 a2 a3 a4 a5 a10 a11 a12
     have lsm : SmallC (atL cs l):=smallC_of (by rw [atL_len];have:=hL.p3;omega) fun c hc=>by
      unfold atL at hc
      obtain ⟨q,hq,rfl⟩:=List.mem_map.1 hc
      have hqr:=hL.rng q hq
      obtain ⟨c,hc⟩:=get_of_lt (l:=cs) (i:=q.toNat) (by rw [csl];rcases hqr.2 with h|⟨_,k',h,_⟩<;>omega)
      rw [getD_of_get hc]
      have:=hc23 c (List.mem_of_getElem? hc)
      omega
     have lpos : 0<prodL (atL cs l)∧prodL (atL cs l)≤27:=by
      have c3 : ∀ c∈atL cs l,1≤c∧c≤3:=fun c hc=>by
       unfold atL at hc
       obtain ⟨q,hq,rfl⟩:=List.mem_map.1 hc
       have hqr:=hL.rng q hq
       obtain ⟨c,hc⟩:=get_of_lt (l:=cs) (i:=q.toNat) (by rw [csl];rcases hqr.2 with h|⟨_,k',h,_⟩<;>omega)
       rw [getD_of_get hc]
       have:=hc23 c (List.mem_of_getElem? hc)
       omega
      have h1:=prodL_pos fun c hc=>(c3 c hc).1
      have h2:=(prodL_le_pow (b:=3) (by omega) fun c hc=>⟨by have:=(c3 c hc).1;omega,(c3 c hc).2⟩).2
      have h3 : (3 : Int) ^ (atL cs l).length≤3 ^ 3:=by
       have : (3 : Nat) ^ (atL cs l).length≤3 ^ 3:=Nat.pow_le_pow_right (by decide) (by rw [atL_len];exact hL.p3)
       exact_mod_cast this
      omega
     obtain ⟨R,hR⟩:=Int.eq_ofNat_of_zero_le (show 0≤prodL (atL cs l) by omega)
     have hxc : 2≤x.card∧x.card≤3:=hc23 x.card (by rw [← L.cards];exact List.mem_of_getElem? (cards_get hx))
     have hFm1:=hFm.1
     have w3 : Hm.get (H.next+3)=some (.arr 0 64 [.lit (.int .i64 g),.own (H.next+2) 0 0 n 3]):=(hFm.2.1 _ (by omega) (by omega)).trans z3
     have wP : Hm.get Hy.next=some (.arr 0 142 [.lit (.int .u8 pc),.lit (.int .u8 par),wv]):=(hFm.2.1 _ (by omega) (by omega)).trans zP
     obtain ⟨C1,hC1⟩ : ∃ C1,C1=(nodesZ ns).set (v*3+1) (vecI l):=⟨_,rfl⟩
     have c1l : C1.length=ns.length*3:=by rw [hC1,List.length_set,hzl]
     have hcx2 : C1[v*3+2]?=some (.lit (.slice none 0 0)):=by
      have:=flat_get (f:=NodeP.cellsZ) (z:=3) cellsZ_len ns v 2 x hx (by omega)
      rw [hC1,List.getElem?_set_ne (by omega),show (nodesZ ns)[v*3+2]?=_ from this]
      unfold NodeP.cellsZ;rw [if_pos xr];rfl
     have hcx0 : C1[v*3]?=some (lin x.card):=by rw [hC1,List.getElem?_set_ne (by omega)];exact nodesZ_0 hx
     rw [← hC1] at hFm
     have hset2 : ∀ rv rv',setAt (C1.set (v*3+2) rv) (v*3+2) [rv']=C1.set (v*3+2) rv':=fun rv rv'=>by rw [setAt_one (by rw [List.length_set];omega),List.set_set]
     have hgc2 : ∀ rv,(C1.set (v*3+2) rv)[v*3+2]?=some rv:=fun rv=>List.getElem?_set_self (by omega)
     have hgc0 : ∀ rv,(C1.set (v*3+2) rv)[v*3]?=some (lin x.card):=fun rv=>by rw [List.getElem?_set_ne (by omega)];exact hcx0
     refine W.postWeak (Q':=fun e s2=>e=.exit 8∧∃ (rv : AVal) (rows : List (List Int)),s2.ρ 1=.ptr H.next 0 0∧s2.ρ 2=.ptr (H.next+1) 0 0∧s2.ρ 3=lin n∧s2.ρ 4=.ptr (H.next+3) 0 0∧s2.ρ 5=vecI P∧s2.ρ 10=lin i∧rows.length=R∧(∀ r∈rows,RowOk g x.card r)∧FrN Hm s2.H (H.next+2) (C1.set (v*3+2) rv)∧OwnG Hm.next s2.H 59 rv (rows.map vecI)) ?_ ?_
     ·refine W.loop0 98079714615372285444537148491336716315054007096738611200 (by rfl) (fun ρ Hr=>∃ (r : Nat) (rv : AVal) (rows : List (List Int)),ρ 15=lin r∧r≤R∧rows.length=r∧(∀ r∈rows,RowOk g x.card r)∧FrN Hm Hr (H.next+2) (C1.set (v*3+2) rv)∧OwnG Hm.next Hr 59 rv (rows.map vecI)) (fun ρ H=>R - (iv (ρ 15)).toNat) ?_ ?_
      ·simp only [go_sem,y15,appendA_U]
       refine ⟨0,.lit (.slice none 0 0),[],rfl,by omega,rfl,by simp,⟨Nat.le_refl _,fun _ _ _=>rfl,?_⟩,.nil⟩
       rw [hFm.2.2,set_get_self hcx2]
      rintro ρr Hr ⟨r,rv,rows,h15,hr,hrl,hrows,hFr,hOr⟩
      refine W.env fun E7 hE7=>?_
      have b1 : E7 1=.ptr H.next 0 0:=by rw [hE7];simp only [go_sem,Nat.reducePow,Nat.reduceDiv,Nat.reduceMod,reduceCtorEq,y1,appendA_U]
      have b2 : E7 2=.ptr (H.next+1) 0 0:=by rw [hE7];simp only [go_sem,Nat.reducePow,Nat.reduceDiv,Nat.reduceMod,reduceCtorEq,y2,appendA_U]
      have b3 : E7 3=lin n:=by rw [hE7];simp only [go_sem,Nat.reducePow,Nat.reduceDiv,Nat.reduceMod,reduceCtorEq,y3,appendA_U]
      have b4 : E7 4=.ptr (H.next+3) 0 0:=by rw [hE7];simp only [go_sem,Nat.reducePow,Nat.reduceDiv,Nat.reduceMod,reduceCtorEq,y4,appendA_U]
      have b5 : E7 5=vecI P:=by rw [hE7];simp only [go_sem,Nat.reducePow,Nat.reduceDiv,Nat.reduceMod,reduceCtorEq,y5,appendA_U]
      have b10 : E7 10=lin i:=by rw [hE7];simp only [go_sem,Nat.reducePow,Nat.reduceDiv,Nat.reduceMod,reduceCtorEq,y10,appendA_U]
      have b11 : E7 11=.ptr Hy.next 0 0:=by rw [hE7];simp only [go_sem,Nat.reducePow,Nat.reduceDiv,Nat.reduceMod,reduceCtorEq,y11,appendA_U]
      have b12 : E7 12=lin v:=by rw [hE7];simp only [go_sem,Nat.reducePow,Nat.reduceDiv,Nat.reduceMod,reduceCtorEq,y12,appendA_U]
      have b15 : E7 15=lin r:=by rw [hE7];simp only [go_sem,Nat.reducePow,Nat.reduceDiv,Nat.reduceMod,h15,appendA_U]
      clear hE7
      refine vc_sound _ _ _ (by rfl) ?_
      have hFr1:=hFr.1
      have v3:=get_live ((hFr.2.1 (H.next+3) (by omega) (by omega)).trans w3)
      have vP:=get_live ((hFr.2.1 Hy.next (by omega) (by omega)).trans wP)
      have vN:=get_live hFr.2.2
      have hzp : ∀ z∈ns,z.rows=[]→z.parents=[]:=fun z hz hz0=>by
       obtain ⟨u,hu⟩:=List.mem_iff_getElem?.1 hz
       have hm:=permF_mem ord n u (by have:=get_lt hu;omega)
       rw [← hP] at hm
       obtain ⟨j,hj⟩:=List.mem_iff_getElem?.1 hm
       rcases Nat.lt_or_ge j i with h|h
       ·exact absurd hz0 (L.done j u z h hj hu).ne
       ·exact (L.todo j u z h hj hu).2
      have hcard : cardsL (ns.set v ⟨x.card,l,rows⟩)=cs:=by
       have h1 : cardsL (ns.set v ⟨x.card,l,rows⟩)=(cardsL ns).set v x.card:=by unfold cardsL;rw [List.map_set]
       rw [h1,set_get_self (cards_get hx),L.cards]
      have hpar : parC (ns.set v ⟨x.card,l,rows⟩) ⟨x.card,l,rows⟩=atL cs l:=by unfold parC;rw [hcard]
      have fzN : Fz (fun _=>True) Hr 0 (.agg [lin g,.own (H.next+2) 0 0 n 3]) (netV g (ns.set v ⟨x.card,l,rows⟩)):=by
       refine .agg rfl fun i hi _=>?_
       match i,hi with
       | 0,_=>exact .lit _
       | 1,_ =>
        show Fz _ _ _ _ (.vec (ns.set v ⟨x.card,l,rows⟩).length (nodesC (ns.set v ⟨x.card,l,rows⟩)))
        rw [List.length_set,hnl,nodesC_set (y:=⟨x.card,l,rows⟩) hx rfl]
        refine .frz trivial hFr.2.2 (by rw [List.length_set,List.length_set,nodesC_len];omega) fun j hj h2 h'=>?_
        simp only [Nat.zero_add]
        refine fzl_set (A:=C1) (B:=(nodesC ns).set (v*3+1) (vecI l)) ?_ ?_ j _ _
        ·rw [hC1]
         exact fzl_set (fz_nodesZ ns hzp) (.keepInts _)
        ·have:=hOr.fz (S:=fun _=>True) (nx:=0) (cs':=rows.map vecI) (fun _ _=>trivial) rfl fun i hi _=>by simp only [List.getElem_map];exact .keepInts _
         rw [List.length_map] at this
         exact this
      simp only [go_sem,Nat.reduceEqDiff,Nat.reducePow,Nat.reduceDiv,Nat.reduceMod,Nat.reduceAdd,b4,b12,b15,v3,appendA_U]
      refine AApply.clo ((ACall.frame (H:=Hr) (args:=[.agg [lin g,.own (H.next+2) 0 0 n 3],lin v]) (args':=[netV g (ns.set v ⟨x.card,l,rows⟩),lin v]) (v':=vecI (atL cs l)) G0_ok rfl (fun i hi _=>?_) (parentCards_own g (ns.set v ⟨x.card,l,rows⟩) v ⟨x.card,l,rows⟩ (List.getElem?_set_self hvn) (by rw [List.length_set];omega) (by show (l.length : Int)<_;have:=hL.p3;omega) (fun q hq=>by
        have hqr:=hL.rng q hq
        rw [List.length_set]
        rcases hqr.2 with h|⟨_,k',h,_⟩<;>omega) noH _ fun w Hq _ ho=>⟨_,rfl,by rw [hpar] at ho;exact ho.freshI⟩)).mono fun r1 H1' hr1=>?_)
      ·match i,hi with
       | 0,_=>exact fzN
       | 1,_=>exact .lit _
      obtain ⟨rfl,rfl⟩:=hr1
      refine ⟨trivial,?_⟩
      simp only [go_sem,Nat.reduceEqDiff,appendA_U]
      refine AApply.clo (size02_spec (atL cs l) lsm _ _ ⟨trivial,?_⟩)
      rw [hR]
      by_cases hrR : (r : Int)<R
      ·simp only [go_sem,Nat.reduceEqDiff,b4,b12,b15,hrR,appendA_U]
       obtain ⟨xn,hxn⟩:=Int.eq_ofNat_of_zero_le (show 0≤x.card by omega)
       have rc : 0≤(r : Int)*(x.card+1)∧(r : Int)*(x.card+1)≤27*4:=⟨Int.mul_nonneg (by omega) (by omega),Int.mul_le_mul (by omega) (by omega) (by omega) (by omega)⟩
       have c1:=IntWalk.i64_in (x.card+1) (by omega)
       have c2:=IntWalk.i64_in ((r : Int)*(x.card+1)) (by omega)
       have c3:=IntWalk.i64_in ((r : Int)+1) (by omega)
       have hg2:=hgc2 rv
       have hg0':=hgc0 rv
       have hg2n:=ne_of_get hg2
       obtain ⟨row,hrow⟩ : ∃ row,row=rowF g xn bs ((r : Int)*(x.card+1)):=⟨_,rfl⟩
       have hrok : RowOk g x.card row:=by rw [hrow,hxn];exact rowF_ok hg1.1 (by omega) _ _
       have hpc84 : ∀ Hq,PCall Try.prog G0 (.clo 84 [] []) [lin g,lin x.card,wv,lin ((r : Int)*(x.card+1))] Hq (vecI row) []:=fun Hq=>by
        refine PCall.mk (fun i hi=>by cases hi) fun H2 _ _=>?_
        refine ACall.frame (H:=H2) (args:=[lin g,lin x.card,wv,lin ((r : Int)*(x.card+1))]) (args':=[lin g,lin xn,.vec bs.length (bytesL bs),lin ((r : Int)*(x.card+1))]) (v':=vecI row) G0_ok rfl (fun i hi _=>?_) (rowD_spec g xn hg1 (by omega) bs hbl hbs _ (by omega) noH _ fun w Hw _ ho=>⟨_,rfl,by rw [hrow];exact ho.freshI⟩)
        match i,hi with
        | 0,_=>exact .lit _
        | 1,_=>rw [hxn];exact .lit _
        | 2,_=>exact hwf _
        | 3,_=>exact .lit _
       obtain ⟨rv',Hj,hA,hO',hn',hpr'⟩:=app_oneG (P:=Try.prog) (H:=H1') (t:=48) (x:=vecI row) (n:=H1'.next+1) Try.underlying48 Try.cells59 Try.zero59 rfl (by rw [Try.bytes59,List.length_map];omega) hOr hFr1 rfl
       have keep : ∀ id,id<Hm.next→Hj.get id=H1'.get id:=fun id h=>hpr' id (by omega) (hOr.ne h)
       have v3j:=get_live ((keep _ (by omega)).trans ((hFr.2.1 (H.next+3) (by omega) (by omega)).trans w3))
       have vNj:=get_live ((keep _ (by omega)).trans hFr.2.2)
       have hA' : appendA Try.prog (ext H1' [.arr 0 59 [.vec row.length (ints row)]]) (H1'.next+1) 48 48 rv (.own H1'.next 0 0 1 1)=some (rv',Hj):=hA
       refine W.draw 31 [0,1,0,0,8,0,56,120,248,0,512,0,2048,0,14336,30720,63488,0,131072,0,0,1048576,0,7340032,15728640,32505856,66060288,133693440,268434944,536870400,1073741816] Try.mixed (by kernel_rfl) (by kernel_rfl) ?_
       simp only [go_sem,Nat.reduceEqDiff,Nat.reducePow,Nat.reduceDiv,Nat.reduceMod,Nat.reduceAdd,Nat.reduceLeDiff,reduceCtorEq,b4,b11,b12,b15,v3,v3j,vP,vN,vNj,hg2,hg0',hg2n,vlt,v0,c1,c2]
       refine ⟨vecI row,[],hpc84 _,?_⟩
       simp only [go_sem,Nat.reduceEqDiff,Nat.reducePow,Nat.reduceDiv,Nat.reduceMod,reduceCtorEq,b4,b11,b12,b15,v3,v3j,vP,vN,vNj,hg2,hg0',hg2n,vlt,v0,c1,c2,c3,hA']
       have hdj : djF (if isOwn rv=true then { eff:=idsV rv,rs:=idsV rv++[H1'.next] } else { eff:=[H1'.next+1],rs:=[H1'.next] }) { eff:=[],rs:=[H.next+3] }:=by
        rcases hOr with ⟨hO1,_⟩|⟨id,gg,hO1,hO2,hO3,_⟩
        ·rw [hO1]
         show djF { eff:=[H1'.next+1],rs:=[H1'.next] } _
         exact ⟨fun a ha=>by (obtain rfl : a=H1'.next+1:=by simpa using ha);simp;omega,fun a ha=>by simp at ha⟩
        ·rw [hO3]
         show djF { eff:=[id],rs:=[id]++[H1'.next] } _
         exact ⟨fun a ha=>by (obtain rfl : a=id:=by simpa using ha);simp;omega,fun a ha=>by simp at ha⟩
       rw [hO'.cells]
       refine ⟨⟨by omega,by omega,by omega,by omega,by omega,by omega,by omega⟩,⟨hdj,hdj⟩,⟨rfl,by simp [hO'.one],by rw [List.length_set,c1l];simp;omega⟩,by rw [upd_next];omega,⟨r+1,rv',rows++[row],rfl,by omega,by simp [hrl],fun q hq=>?_,⟨by rw [upd_next];omega,fun id h1 h2=>by rw [upd_get,if_neg h2,keep _ h1];exact hFr.2.1 id h1 h2,?_⟩,?_⟩,by rw [h15];simp only [lin,iv_int];omega⟩
       ·rcases List.mem_append.1 hq with h|h
        ·exact hrows q h
        ·obtain rfl:=List.mem_singleton.1 h;exact hrok
       ·rw [upd_get,if_pos rfl,hset2]
       ·have:=hO'.keep (lo':=Hm.next) (H':=Hj.upd (H.next+2) (.arr 0 83 (setAt (C1.set (v*3+2) rv) (v*3+2) [rv']))) (Nat.le_refl _) (Nat.le_refl _) fun id _ h1 _ _ _=>by rw [upd_get,if_neg (by omega)]
        simpa using this
      ·simp only [go_sem,Nat.reduceEqDiff,b1,b2,b3,b4,b5,b10,b12,b15,hrR,appendA_U]
       exact ⟨rv,rows,by omega,hrows,hFr,hOr⟩
     ·rintro e s3 ⟨rfl,rv,rows,a1,a2,a3,a4,a5,a10,hrl,hrows,hFr,hOr⟩
      have hFr1:=hFr.1
      obtain ⟨rk,hrk,hfz⟩ : ∃ rk,Hm.next≤rk∧Fz (fun id=>id=rk) s3.H s3.H.next rv (vecV rows):=by
       rcases hOr with ⟨hO1,hO2⟩|⟨id,gg,hO1,hO2,hO3,hO4⟩
       ·have : rows=[]:=by cases rows with
         | nil=>rfl
         | cons b l=>simp at hO2
        rw [hO1,this]
        exact ⟨s3.H.next,hFr1,.nil⟩
       ·refine ⟨id,hO1,?_⟩
        rw [hO3,List.length_map]
        refine .frz rfl hO4 (by rw [Nat.mul_one,List.length_map]) fun j hj h2 h'=>?_
        simp only [Nat.zero_add,List.getElem_map]
        exact .keepInts _
      have hne2 : H.next+2≠rk:=by omega
      have hC1z : ∀ c∈C1,Fz (fun id=>id=rk) s3.H s3.H.next c c:=fun c hc=>by
       rw [hC1] at hc
       rcases List.mem_or_eq_of_mem_set hc with h|h
       ·exact fz_nodesZ' ns c h
       ·rw [h];exact .keepInts _
      refine ⟨⟨s3.ρ,s3.H.melt rk (H.next+2) (.arr 0 83 (C1.set (v*3+2) (vecV rows)))⟩,WeakS.melt G0_ok hFr.2.2 hne2 (by simp) (fz_set hC1z hfz),Nat.le_refl _,trivial,?_⟩
      obtain ⟨He,hHe⟩ : ∃ He,He=s3.H.melt rk (H.next+2) (.arr 0 83 (C1.set (v*3+2) (vecV rows))):=⟨_,rfl⟩
      rw [← hHe]
      have hFe : FrN Hm He (H.next+2) (C1.set (v*3+2) (vecV rows)):=by
       rw [hHe]
       exact ⟨hFr1,fun id h1 h2=>(melt_other (by omega) h2).trans (hFr.2.1 id h1 h2),melt_ob hne2⟩
      clear hFr hOr hfz hHe hne2 hrk
      have hFe1:=hFe.1
      have i1:=IntWalk.i64_in ((i : Int)+1) (by omega)
      simp only [go_sem,Nat.reduceEqDiff,a10,i1,appendA_U]
      have hiv : ∀ j u : Nat,P[j]?=some (u : Int)→u=v→j=i:=fun j u h1 h2=>by
       subst h2
       exact (List.getElem?_inj (get_lt h1) hperm.nd).1 (by rw [h1,hpv])
      have hrne : rows≠[]:=fun h=>by rw [h] at hrl;simp at hrl;omega
      have hdone : DoneN g cs P n i ⟨x.card,l,rows⟩:=⟨⟨hL.pw,fun q hq=>⟨(hL.rng q hq).1,by rcases (hL.rng q hq).2 with h|⟨_,k',h,_⟩<;>omega⟩⟩,hL.p3,hL.rk,by show (rows.length : Int)=_;rw [hrl,hR],hrows,hrne⟩
      refine ⟨by omega,⟨i+1,ns.set v ⟨x.card,l,rows⟩,rfl,by omega,⟨by rw [List.length_set];exact hnl,?_,fun j u z hj hu hz=>?_,fun j u z hj hu hz=>?_⟩,by omega,by omega,fun id h1 h2=>?_,?_⟩,by rw [h10];simp only [lin,iv_int];omega⟩
      ·have h1 : cardsL (ns.set v ⟨x.card,l,rows⟩)=(cardsL ns).set v x.card:=by unfold cardsL;rw [List.map_set]
       rw [h1,set_get_self (cards_get hx),L.cards]
      ·have huv : ¬ u=v:=fun h=>by have:=hiv j u hu h;omega
       rw [List.getElem?_set_ne (by omega)] at hz
       exact L.todo j u z (by omega) hu hz
      ·by_cases huv : u=v
       ·obtain rfl:=hiv j u hu huv
        rw [huv,List.getElem?_set_self hvn] at hz
        cases hz
        exact hdone
       ·rw [List.getElem?_set_ne (by omega)] at hz
        have : j≠i:=fun h=>by
         rw [h,hpv] at hu
         exact huv (by have:=Option.some.inj hu;omega)
        exact L.done j u z (by omega) hu hz
      ·rw [hFe.2.1 id (by omega) h2,hFm.2.1 id (by omega) h2]
       exact zO id h1 h2
      ·rw [hFe.2.2,nodesZ_set (y:=⟨x.card,l,rows⟩) hx rfl hrne,hC1]
  ·obtain rfl : i=n:=by omega
   simp only [go_sem,Nat.reduceEqDiff,Nat.reducePow,Nat.reduceDiv,Nat.reduceMod,Nat.reduceAdd,e2,e3,e4,e10,hb,m1,m3,appendA_U]
   have hnl:=L.len
   have hall : ∀ v : Nat,v<ns.length→(v : Int)∈P:=fun v hv=>by rw [hP];exact permF_mem ord i v (by omega)
   have hdn : ∀ (v : Nat) (x : NodeP),ns[v]?=some x→∃ j,DoneN g cs P i j x:=fun v x hx=>by
    obtain ⟨j,hj⟩:=List.mem_iff_getElem?.1 (hall v (get_lt hx))
    exact ⟨j,L.done j v x (by have:=get_lt hj;have:=hperm.len;omega) hj hx⟩
   have hdm : ∀ x∈ns,∃ j,DoneN g cs P i j x:=fun x hx=>by
    obtain ⟨v,hv⟩:=List.mem_iff_getElem?.1 hx
    exact hdn v x hv
   have ov : Over H (Hy.upd (H.next+1) (.arr 0 64 [.lit (.int .i64 g),.own (H.next+2) 0 0 i 3])):=⟨by rw [upd_next];omega,fun id h=>by rw [upd_get,if_neg (by omega),hF.2.1 id (by omega) (by omega)];exact o1.old id h⟩
   have hz : nodesZ ns=nodesC ns:=nodesZ_eq fun x hx=>(hdm x hx).elim fun j hj=>hj.ne
   have hcl8 : ∀ x∈ns,2≤x.card∧x.card≤3:=fun x hx=>hc23 x.card (by rw [← L.cards];exact List.mem_map.2 ⟨x,hx,rfl⟩)
   have hnet : NetOk g ns:=by
    refine ⟨hg1,by omega,fun x hx=>?_,?_,acyc_of_order (P:=P) (by rw [hnl];exact hperm) hall fun j v x hj hx q hq=>?_,fun x hx=>?_⟩
    ·obtain ⟨j,hj⟩:=hdm x hx
     have:=hcl8 x hx
     exact ⟨by omega,by rw [hnl];exact hj.pl⟩
    ·have h2:=(prodL_le_pow (b:=3) (by omega) (l:=cardsL ns) fun c hc=>by have:=hc23 c (by rw [← L.cards];exact hc);omega).2
     have h3 : (3 : Int) ^ (cardsL ns).length≤3 ^ 5:=by
      have : (3 : Nat) ^ (cardsL ns).length≤3 ^ 5:=Nat.pow_le_pow_right (by decide) (by rw [cards_len];omega)
      exact_mod_cast this
     omega
    ·have hd:=L.done j v x (by have:=get_lt hj;have:=hperm.len;omega) hj hx
     exact ⟨(hd.pl.2 q hq).1,hd.rk q hq⟩
    ·obtain ⟨j,hj⟩:=hdm x hx
     unfold NodeOk parC
     rw [L.cards]
     exact ⟨hj.rl,hj.ro⟩
   rw [← hnl]
   rw [← hnl] at ov
   refine FinV.mk ov.next (hK g ns (H.next+2) _ ov (by omega) (by rw [upd_next];omega) ?_ hnet (by omega) fun x hx=>?_)
   ·rw [upd_get,if_neg (by omega),hF.2.2,hz]
   ·obtain ⟨j,hj⟩:=hdm x hx
    exact hj.p3
end Go.Proofs
set_option linter.unusedSimpArgs false
set_option maxRecDepth 100000
namespace Go.Proofs
open Go.Hx
theorem in20_spec (s v : Nat) (hs : s<2 ^ 64) (H : AHeap) (K : ARes→AHeap→Prop) (hK : K (.ret (.lit (.bool (s.testBit v)))) H) : ACall Try.prog G0 53 [bitV s,lin v] H K:=by
 refine ACall.of_body (n:=10) (rs:=[.tmp 4]) Try.func53 rfl rfl rfl (by decide) (by kernel_rfl) (by simp) ?_
 have s1:=fun t x y=>shrB (P:=Try.prog) (t:=t) (x:=x) (y:=y) (k':=.i64) (s:=v) hs
 have s2:=fun t x y=>bit1 (P:=Try.prog) (t:=t) (x:=x) (y:=y) (s:=v) hs
 cases hb : s.testBit v
 ·rw [hb] at hK
  simp only [go_sem,Int.reduceEq,Nat.reduceEqDiff,reduceCtorEq,s1,s2,hb,appendA_U]
  exact FinV.mk (Nat.le_refl _) hK
 ·rw [hb] at hK
  simp only [go_sem,Nat.reduceEqDiff,reduceCtorEq,s1,s2,hb,appendA_U]
  exact FinV.mk (Nat.le_refl _) hK
/-- The members of a set, in order. -/
def bitsL (s n : Nat) : List Int:=((List.range n).filter fun v=>s.testBit v).map fun (v : Nat)=>(v : Int)
theorem bitsL_succ (s n : Nat) : bitsL s (n+1)=if s.testBit n=true then bitsL s n++[(n : Int)] else bitsL s n:=by
 unfold bitsL
 rw [List.range_succ,List.filter_append,List.map_append]
 by_cases h : s.testBit n=true
 ·rw [if_pos h];simp [h]
 ·rw [if_neg h];simp [h]
theorem mem_bitsL {s n : Nat} {q : Int} : q∈bitsL s n↔∃ v : Nat,q=v∧v<n∧s.testBit v=true:=by
 unfold bitsL
 simp only [List.mem_map,List.mem_filter,List.mem_range]
 exact ⟨fun ⟨v,⟨h1,h2⟩,h3⟩=>⟨v,h3.symm,h1,h2⟩,fun ⟨v,h1,h2,h3⟩=>⟨v,⟨h2,h3⟩,h1.symm⟩⟩
theorem bitsL_pw (s n : Nat) : (bitsL s n).Pairwise (·<·):=by
 unfold bitsL
 refine List.Pairwise.map _ (R:=(·<·)) (fun a b h=>by omega) ?_
 exact List.Pairwise.filter _ List.pairwise_lt_range
theorem bitsL_len (s n : Nat) : (bitsL s n).length≤n:=by
 unfold bitsL
 rw [List.length_map]
 exact Nat.le_trans (List.length_filter_le _ _) (by simp)

theorem list20_spec (s : Nat) (hs : s<2 ^ 64) (H : AHeap) (K : ARes→AHeap→Prop) (hK : K (.ret (vecI (bitsL s 8))) H) : ACall Try.prog G0 43 [bitV s] H K:=by
 refine ACall.clo ⟨_,Try.func43,rfl,rfl⟩ fun hcl=>?_
 refine ACall.of_body (n:=17) (rs:=[.tmp 2]) Try.func43 rfl rfl rfl (by decide) (by kernel_rfl) (by simp) ?_
 simp only [go_sem,appendA_U]
 refine W.loop0 65528 (by rfl) (fun ρ H'=>∃ k : Nat,ρ 4=lin k∧k≤8∧Over H H'∧OwnG H.next H' 3 (ρ 3) (ints (bitsL s k))) (fun ρ H=>8 - (iv (ρ 4)).toNat) ?_ ?_
 ·simp only [go_sem,Nat.reduceEqDiff,appendA_U]
  exact ⟨0,rfl,by omega,.refl _,.nil⟩
 rintro ρ H' ⟨k,h4,hk,ov,h3⟩
 refine W.env fun E hE=>?_
 have e0 : E 0=bitV s:=by rw [hE];simp only [go_sem,Nat.reducePow,Nat.reduceDiv,Nat.reduceMod,reduceCtorEq,appendA_U]
 have e3 : E 3=ρ 3:=by rw [hE];simp only [go_sem,Nat.reduceEqDiff,Nat.reducePow,Nat.reduceDiv,Nat.reduceMod,appendA_U]
 have e4 : E 4=lin k:=by rw [hE];simp only [go_sem,Nat.reduceEqDiff,Nat.reducePow,Nat.reduceDiv,Nat.reduceMod,h4,appendA_U]
 clear hE
 refine vc_sound _ _ _ (by rfl) ?_
 by_cases hb : (k : Int)<8
 ·have w1:=IntWalk.i64_in ((k : Int)+1) (by omega)
  have hbl:=bitsL_len s k
  have hsu:=bitsL_succ s k
  simp only [go_sem,Nat.reduceEqDiff,Nat.reducePow,Nat.reduceDiv,Nat.reduceMod,reduceCtorEq,e0,e3,e4,hb,appendA_U]
  refine AApply.clo (in20_spec s k hs _ _ ⟨trivial,?_⟩)
  by_cases hbit : s.testBit k=true
  ·obtain ⟨v',H2,hA,ov2,hO,hn2,_⟩:=app_int (k : Int) ov h3 (by omega)
   rw [if_pos hbit] at hsu
   simp only [go_sem,Nat.reduceEqDiff,Nat.reducePow,Nat.reduceLeDiff,e0,e3,e4,hbit,w1,hA]
   exact ⟨by have:=ov2.next;omega,⟨k+1,rfl,by omega,ov2,by rw [hsu];exact hO⟩,by rw [h4];simp only [lin,iv_int];omega⟩
  ·rw [if_neg hbit] at hsu
   have hbf : s.testBit k=false:=by simpa using hbit
   simp only [go_sem,Nat.reduceEqDiff,e0,e3,e4,hbf,w1,appendA_U]
   exact ⟨ov.next,⟨k+1,rfl,by omega,ov,by rw [hsu];exact h3⟩,by rw [h4];simp only [lin,iv_int];omega⟩
 ·obtain rfl : k=8:=by omega
  simp only [go_sem,Int.reduceLT,Nat.reduceEqDiff,Nat.reducePow,Nat.reduceDiv,Nat.reduceMod,e3,e4,hb,appendA_U]
  exact FinV.dropO G0_ok hcl ov (h3.fzI fun i hi=>hi) hK
end Go.Proofs
set_option linter.unusedSimpArgs false
set_option maxRecDepth 100000
namespace Go.Proofs
open Go.Hx
def ownLen : AVal→Nat
 | .own _ _ _ n _=>n
 | _=>0
theorem own_ownLen {lo : Nat} {H : AHeap} {e : TypeId} {v : AVal} {cs : List AVal} (h : OwnG lo H e v cs) : ownLen v=cs.length:=by
 rcases h with ⟨rfl,rfl⟩|⟨_,_,_,_,rfl,_⟩<;>rfl
end Go.Proofs
set_option linter.unusedSimpArgs false
set_option maxRecDepth 100000
namespace Go.Proofs
open Go.Hx
/-- A diagram as the drafts make it: a node without rows has the literal nil. -/
def infEC (d : InfP) : List AVal:=[.lit (.int .i64 d.grain),.vec d.nodes.length (nodesE d.nodes),.lit (.int .u64 (d.decs : Int)),.vec d.utils.length (utilsC d.utils)]
def infE (d : InfP) : AVal:=.agg (infEC d)
theorem infE_eq (d : InfP) : infE d=.agg (infEC d):=rfl

theorem decisions20_spec (d : InfP) (hd : d.decs<2 ^ 64) (hl : (d.nodes.length : Int)<2 ^ 39) (H : AHeap) (K : ARes→AHeap→Prop) (hK : K (.ret (vecI (natsI (decL d)))) H) : ACall Try.prog G0 68 [infE d] H K:=by
 refine ACall.clo ⟨_,Try.func68,rfl,rfl⟩ fun hcl=>?_
 refine ACall.of_body (n:=21) (rs:=[.tmp 2]) Try.func68 rfl rfl rfl (by decide) (by kernel_rfl) (by simp) ?_
 simp only [go_sem,infE_eq,infEC,appendA_U]
 obtain ⟨H1,hH1⟩ : ∃ H1,H1=ext H [.arr 0 39 [.lit (.int .i64 d.grain),.vec d.nodes.length (nodesE d.nodes),.lit (.int .u64 (d.decs : Int)),.vec d.utils.length (utilsC d.utils)]]:=⟨_,rfl⟩
 have l1:=get_live (show H1.get H.next=some (.arr 0 39 [.lit (.int .i64 d.grain),.vec d.nodes.length (nodesE d.nodes),.lit (.int .u64 (d.decs : Int)),.vec d.utils.length (utilsC d.utils)]) by rw [hH1];exact get_ext0 ..)
 have n1 : H1.next=H.next+1:=by rw [hH1];rfl
 have o1 : Over H H1:=by rw [hH1];exact .ext _ _
 rw [← hH1]
 refine W.loop0 1048568 (by rfl) (fun ρ H'=>∃ k : Nat,ρ 4=lin k∧k≤d.nodes.length∧Over H1 H'∧OwnG H1.next H' 3 (ρ 3) (ints (natsI (decK d.decs k)))) (fun ρ H=>d.nodes.length - (iv (ρ 4)).toNat) ?_ ?_
 ·simp only [go_sem,Nat.reduceEqDiff,appendA_U]
  exact ⟨0,rfl,by omega,.refl _,.nil⟩
 rintro ρ H' ⟨k,h4,hk,ov,h3⟩
 refine W.env fun E hE=>?_
 have e1 : E 1=.ptr H.next 0 0:=by rw [hE];simp only [go_sem,Nat.reduceEqDiff,Nat.reducePow,Nat.reduceDiv,Nat.reduceMod,reduceCtorEq,appendA_U]
 have e3 : E 3=ρ 3:=by rw [hE];simp only [go_sem,Nat.reduceEqDiff,Nat.reducePow,Nat.reduceDiv,Nat.reduceMod,appendA_U]
 have e4 : E 4=lin k:=by rw [hE];simp only [go_sem,Nat.reduceEqDiff,Nat.reducePow,Nat.reduceDiv,Nat.reduceMod,h4,appendA_U]
 clear hE
 refine vc_sound _ _ _ (by rfl) ?_
 have l2:=(ov.live (g:=0) (by omega : H.next<H1.next)).trans l1
 by_cases hb : (k : Int)<d.nodes.length
 ·have w1:=IntWalk.i64_in ((k : Int)+1) (by omega)
  have hbl : (natsI (decK d.decs k)).length≤k:=by simp only [natsI,List.length_map];exact decK_len
  have hsu:=decK_succ d.decs k
  simp only [go_sem,Nat.reduceEqDiff,Nat.reducePow,Nat.reduceDiv,Nat.reduceMod,e1,e3,e4,l2,hb,appendA_U]
  refine AApply.clo (in20_spec d.decs k hd _ _ ⟨trivial,?_⟩)
  by_cases hbit : d.decs.testBit k=true
  ·obtain ⟨v',H2,hA,ov2,hO,hn2,_⟩:=app_int (k : Int) ov h3 (by omega)
   rw [if_pos hbit] at hsu
   simp only [go_sem,Nat.reduceEqDiff,Nat.reducePow,Nat.reduceLeDiff,e1,e3,e4,hbit,w1,hA]
   exact ⟨ov2.next,⟨k+1,rfl,by omega,ov2,by rw [hsu,show natsI (decK d.decs k++[k])=natsI (decK d.decs k)++[(k : Int)] by simp [natsI]];exact hO⟩,by rw [h4];simp only [lin,iv_int];omega⟩
  ·rw [if_neg hbit] at hsu
   have hbf : d.decs.testBit k=false:=by simpa using hbit
   simp only [go_sem,Nat.reduceEqDiff,e1,e3,e4,hbf,w1,appendA_U]
   exact ⟨ov.next,⟨k+1,rfl,by omega,ov,by rw [hsu];exact h3⟩,by rw [h4];simp only [lin,iv_int];omega⟩
 ·have hke : k=d.nodes.length:=by omega
  rw [hke] at h3
  simp only [go_sem,Nat.reduceEqDiff,Nat.reducePow,Nat.reduceDiv,Nat.reduceMod,e1,e3,e4,l2,hb,appendA_U]
  exact FinV.dropO G0_ok hcl (o1.trans ov) (h3.fzI fun i hi=>by omega) hK
end Go.Proofs
set_option linter.unusedSimpArgs false
set_option maxRecDepth 100000
namespace Go.Proofs
open Go.Hx
set_option maxHeartbeats 1000000 in
theorem parentSets_own (g : Int) (ns : List NodeP) (hl : (ns.length : Int)<2 ^ 39) (hp : ∀ x∈ns,(x.parents.length : Int)<2 ^ 39∧∀ q∈x.parents,0≤q∧q<64) (H : AHeap) (K : ARes→AHeap→Prop)
  (hK : ∀ v H',Over H H'→OwnG H.next H' 36 v ((setsL ns).map bitV)→K (.ret v) H') : ACall Try.prog G0 42 [netV g ns] H K:=by
 refine ACall.clo ⟨_,Try.func42,rfl,rfl⟩ fun hcl=>?_
 refine ACall.of_body (n:=43) (rs:=[.tmp 2]) Try.func42 rfl rfl rfl (by decide) (by kernel_rfl) (by simp) ?_
 simp only [go_sem,netV,nodesV,appendA_U]
 obtain ⟨H1,hH1⟩ : ∃ H1,H1=ext H [.arr 0 64 [.lit (.int .i64 g),.vec ns.length (nodesC ns)]]:=⟨_,rfl⟩
 have l1 : H1.live H.next 0=some (64,[.lit (.int .i64 g),.vec ns.length (nodesC ns)]):=by rw [hH1];exact get_live (get_ext0 ..)
 have n1 : H1.next=H.next+1:=by rw [hH1];rfl
 have o1 : Over H H1:=by rw [hH1];exact .ext _ _
 rw [← hH1]
 refine W.loop0 4398046511096 (by rfl) (fun ρ H'=>∃ k : Nat,ρ 4=lin k∧k≤ns.length∧ρ 1=.ptr H.next 0 0∧Over H1 H'∧OwnG H1.next H' 36 (ρ 3) (((setsL ns).take k).map bitV)) (fun ρ H=>ns.length - (iv (ρ 4)).toNat) ?_ ?_
 ·simp only [go_sem,Nat.reduceEqDiff,appendA_U]
  exact ⟨0,rfl,by omega,.refl _,.nil⟩
 rintro ρ H' ⟨k,h4,hk,h1,ov,h3⟩
 refine vc_sound _ _ _ (by rfl) ?_
 have l2:=(ov.live (g:=0) (by omega : H.next<H1.next)).trans l1
 by_cases hb : (k : Int)<ns.length
 ·obtain ⟨x,hx⟩:=get_of_lt (l:=ns) (i:=k) (by omega)
  have hne:=nodesC_ne hx
  have e1:=nodesC_1 hx
  obtain ⟨xl,xr⟩:=hp x (List.mem_of_getElem? hx)
  simp only [go_sem,Nat.reduceEqDiff,Nat.reducePow,Nat.reduceDiv,Nat.reduceMod,reduceCtorEq,h4,h1,l2,hb,appendA_U]
  refine W.loop0 274877890656 (by rfl) (fun ρ' H2=>H2=H'∧∃ j : Nat,ρ' 6=lin j∧j≤x.parents.length∧ρ' 5=bitV (setN (x.parents.take j))) (fun ρ' H=>x.parents.length - (iv (ρ' 6)).toNat) ?_ ?_
  ·simp only [go_sem,Nat.reduceEqDiff,Nat.reducePow,Nat.reduceDiv,Nat.reduceMod,appendA_U]
   exact ⟨0,rfl,by omega,rfl⟩
  rintro ρ' H2 ⟨rfl,j,h6,hj,h5⟩
  refine vc_sound _ _ _ (by rfl) ?_
  by_cases hb2 : (j : Int)<x.parents.length
  ·obtain ⟨q,hq⟩:=get_of_lt (l:=x.parents) (i:=j) (by omega)
   obtain ⟨q0,q1⟩:=xr q (List.mem_of_getElem? hq)
   obtain ⟨u,rfl⟩:=Int.eq_ofNat_of_zero_le q0
   have hne2:=ne_of_get hq
   have w1:=IntWalk.u64_in (u : Int) (by omega)
   have w2:=IntWalk.i64_in ((j : Int)+1) (by omega)
   have b1 : setN (x.parents.take j)<2 ^ 64:=setN_lt fun p hp=>by have:=xr p (List.mem_of_mem_take hp);omega
   have s1:=fun t x y=>shlB (P:=Try.prog) (t:=t) (x:=x) (y:=y) (k':=.u64) (s:=u) (by omega)
   have s2:=fun t x y=>orB (P:=Try.prog) (t:=t) (x:=x) (y:=y) (b:=2 ^ u) b1 (Nat.pow_lt_pow_right (by decide) (by omega))
   simp only [go_sem,Nat.reduceEqDiff,Nat.reducePow,Nat.reduceDiv,Nat.reduceMod,reduceCtorEq,h4,h1,l2,hb,hne,e1,h6,h5,hb2,hq,hne2,w1,w2,s1,s2,appendA_U]
   exact ⟨⟨j+1,by simp,by omega,by rw [take_succ_get hq,setN_snoc];rfl⟩,by omega⟩
  ·obtain ⟨v',H3,hA,ov2,hO,hn2,_⟩:=app_bits (setN x.parents) ov h3 (by simp [setsL];omega)
   have w1:=IntWalk.i64_in ((k : Int)+1) (by omega)
   rw [List.take_of_length_le (by omega)] at h5
   simp only [go_sem,Nat.reduceEqDiff,Nat.reducePow,Nat.reduceDiv,Nat.reduceMod,Nat.reduceLeDiff,reduceCtorEq,h4,h1,l2,hb,hne,e1,h6,h5,hb2,w1,hA]
   refine ⟨by have:=ov2.next;omega,⟨k+1,by simp,by omega,ov2,?_⟩,by omega⟩
   rw [take_succ_get (setsL_get hx)]
   exact hO
 ·simp only [go_sem,Nat.reduceEqDiff,Nat.reducePow,Nat.reduceDiv,Nat.reduceMod,reduceCtorEq,h4,h1,l2,hb,appendA_U]
  rw [List.take_of_length_le (by simp [setsL];omega)] at h3
  exact FinV.mk (o1.trans ov).next (hK _ _ (o1.trans ov) (h3.keep (by omega) (Nat.le_refl _) fun _ _ _ _ _ _=>rfl))
set_option maxHeartbeats 1000000 in
theorem order05_own (ps : List Nat) (hl : ps.length≤60) (hp : ∀ p∈ps,p<2 ^ 64) (r : List Nat) (htp : topo ps=some r) (H : AHeap) (K : ARes→AHeap→Prop) (hK : ∀ v H',Over H H'→OwnG H.next H' 3 v (ints (natsI r))→K (.ret v) H') : ACall Try.prog G0 85 [vecB ps] H K:=by
 refine ACall.clo ⟨_,Try.func85,rfl,rfl⟩ fun hcl=>?_
 refine ACall.of_body (n:=40) (rs:=[.tmp 2]) Try.func85 rfl rfl rfl (by decide) (by kernel_rfl) (by simp) ?_
 simp only [go_sem,appendA_U]
 refine W.loop0 549755813880 (by rfl) (fun ρ H'=>∃ (out : List Nat) (done : Nat),ρ 4=bitV done∧done<2 ^ 64∧out.length≤ps.length∧Over H H'∧OwnG H.next H' 3 (ρ 3) (ints (natsI out))∧topoGo ps (ps.length - out.length) out done=some r) (fun ρ H=>ps.length - ownLen (ρ 3)) ?_ ?_
 ·simp only [go_sem,Nat.reduceEqDiff,Nat.reducePow,appendA_U]
  exact ⟨[],0,rfl,by decide,by simp,.refl _,.nil,htp⟩
 rintro ρ H' ⟨out,done,h4,hd,ho,ov,h3,ht⟩
 refine W.env fun E hE=>?_
 have e0 : E 0=vecB ps:=by rw [hE];simp only [go_sem,Nat.reducePow,Nat.reduceDiv,Nat.reduceMod,reduceCtorEq,appendA_U]
 have e3 : E 3=ρ 3:=by rw [hE];simp only [go_sem,Nat.reduceEqDiff,Nat.reducePow,Nat.reduceDiv,Nat.reduceMod,appendA_U]
 have e4 : E 4=bitV done:=by rw [hE];simp only [go_sem,Nat.reduceEqDiff,Nat.reducePow,Nat.reduceDiv,Nat.reduceMod,h4,appendA_U]
 clear hE
 refine vc_sound _ _ _ (by rfl) ?_
 have hlen:=own_len h3 (d:=some (.slice 3)) rfl
 have hol:=own_ownLen h3
 have nl : (natsI out).length=out.length:=by simp [natsI]
 rw [lenU_slice,ints_length,nl] at hlen
 rw [ints_length,nl] at hol
 by_cases hb : (out.length : Int)<ps.length
 ·simp only [go_sem,Nat.reduceEqDiff,Nat.reducePow,Nat.reduceDiv,Nat.reduceMod,reduceCtorEq,e0,e3,e4,hlen,hb,appendA_U]
  have hk1 : ps.length - out.length=(ps.length - (out.length+1))+1:=by omega
  refine W.loop0 549755811896 (by rfl) (fun ρ2 H2=>H2=H'∧∃ j : Nat,ρ2 5=lin j∧j≤ps.length∧ρ2 3=ρ 3∧ρ2 4=bitV done∧∀ v,v<j→freeB ps done v=false) (fun ρ2 H=>ps.length - (iv (ρ2 5)).toNat) ?_ ?_
  ·simp only [go_sem,Nat.reduceEqDiff,e3,e4,appendA_U]
   exact ⟨0,rfl,by omega,fun v h=>absurd h (Nat.not_lt_zero _)⟩
  rintro ρ2 H2 ⟨rfl,j,h5,hj,h3',h4',hno⟩
  refine W.env fun E2 hE2=>?_
  have f0 : E2 0=vecB ps:=by rw [hE2];simp only [go_sem,Nat.reducePow,Nat.reduceDiv,Nat.reduceMod,reduceCtorEq,e0,appendA_U]
  have f3 : E2 3=ρ 3:=by rw [hE2];simp only [go_sem,Nat.reduceEqDiff,Nat.reducePow,Nat.reduceDiv,Nat.reduceMod,h3',appendA_U]
  have f4 : E2 4=bitV done:=by rw [hE2];simp only [go_sem,Nat.reduceEqDiff,Nat.reducePow,Nat.reduceDiv,Nat.reduceMod,h4',appendA_U]
  have f5 : E2 5=lin j:=by rw [hE2];simp only [go_sem,Nat.reduceEqDiff,Nat.reducePow,Nat.reduceDiv,Nat.reduceMod,h5,appendA_U]
  clear hE2
  refine vc_sound _ _ _ (by rfl) ?_
  by_cases hb2 : (j : Int)<ps.length
  ·obtain ⟨p,hpj⟩:=get_of_lt (l:=ps) (i:=j) (by omega)
   have hpj' : (ps.map bitV)[j]?=some (bitV p):=by rw [List.getElem?_map,hpj];rfl
   have hne:=ne_of_get hpj'
   have s3:=fun t x y=>subB (P:=Try.prog) (t:=t) (x:=x) (y:=y) (a:=p) (b:=done)
   have w1:=IntWalk.i64_in ((j : Int)+1) (by omega)
   have w2:=IntWalk.u64_in (j : Int) (by omega)
   have cont : freeB ps done j=false→∀ v,v<j+1→freeB ps done v=false:=fun h v hv=>by
    rcases Nat.lt_or_ge v j with h'|h'
    ·exact hno v h'
    ·obtain rfl : v=j:=by omega
     exact h
   have fe : freeB ps done j=(!done.testBit j && decide (subN p done=0)):=by unfold freeB;rw [getD_of_get hpj]
   simp only [go_sem,Nat.reduceEqDiff,Nat.reducePow,Nat.reduceDiv,Nat.reduceMod,reduceCtorEq,f0,f3,f4,f5,hb2,appendA_U]
   refine AApply.clo (in05_spec done j hd (by omega) _ _ ⟨trivial,?_⟩)
   cases hbit : done.testBit j
   rotate_left
   ·simp only [go_sem,Nat.reduceEqDiff,f0,f3,f4,f5,hbit,guardA_undef,w1,appendA_U]
    exact ⟨⟨j+1,rfl,by omega,cont (by rw [fe,hbit];rfl)⟩,by rw [h5];simp only [lin,iv_int];omega⟩
   by_cases hz : subN p done=0
   rotate_left
   ·have hz' : ¬ ((subN p done : Nat) : Int)=0:=by omega
    simp only [go_sem,Nat.reduceEqDiff,reduceCtorEq,f0,f3,f4,f5,hb2,hpj',hpj,hne,s3,hbit,hz',guardA_undef,w1,appendA_U]
    exact ⟨⟨j+1,rfl,by omega,cont (by rw [fe,hbit];simp [hz])⟩,by rw [h5];simp only [lin,iv_int];omega⟩
   have hz' : ((subN p done : Nat) : Int)=0:=by omega
   have hnx : nextT ps done=some j:=find_range (by omega) hno (by rw [fe,hbit];simp [hz])
   obtain ⟨v',H3,hA,ov2,hO,hn2,_⟩:=app_int (j : Int) ov h3 (by simp [natsI];omega)
   have b2 : (2 : Nat) ^ j<2 ^ 64:=Nat.pow_lt_pow_right (by decide) (by omega)
   have s4:=fun t x y=>shlB (P:=Try.prog) (t:=t) (x:=x) (y:=y) (k':=.u64) (s:=j) (by omega)
   have s5:=fun t x y=>orB (P:=Try.prog) (t:=t) (x:=x) (y:=y) hd b2
   simp only [go_sem,Nat.reduceEqDiff,Nat.reducePow,Nat.reduceLeDiff,reduceCtorEq,f0,f3,f4,f5,hb2,hpj',hpj,hne,s3,s4,s5,hbit,hz',w2,guardA_undef,hA]
   have hO' : OwnG H.next H3 3 v' (ints (natsI (out++[j]))):=by
    have e : natsI (out++[j])=natsI out++[(j : Int)]:=by simp [natsI]
    rw [e];exact hO
   have hol':=own_ownLen hO'
   have nl' : (natsI (out++[j])).length=out.length+1:=by simp [natsI]
   rw [ints_length,nl'] at hol'
   refine ⟨ov2.next,⟨out++[j],done ||| 2 ^ j,rfl,Nat.or_lt_two_pow hd b2,by simp;omega,ov2,hO',?_⟩,by rw [hol,hol'];omega⟩
   rw [← ht,hk1]
   conv=>rhs;unfold topoGo
   rw [hnx,List.length_append]
   rfl
  ·have hnn : nextT ps done=none:=find_range_none fun v hv=>hno v (by omega)
   rw [hk1] at ht
   unfold topoGo at ht
   rw [hnn] at ht
   cases ht
 ·simp only [go_sem,Nat.reduceEqDiff,Nat.reducePow,Nat.reduceDiv,Nat.reduceMod,reduceCtorEq,e0,e3,e4,hlen,hb,appendA_U]
  have e : ps.length - out.length=0:=by omega
  rw [e] at ht
  unfold topoGo at ht
  cases ht
  exact FinV.mk ov.next (hK _ _ ov h3)

theorem freshB {lo : Nat} {H : AHeap} {e : TypeId} {v : AVal} {l : List Nat} (h : OwnG lo H e v (l.map bitV)) : Fresh H v (vecB l):=by
 rcases h with ⟨rfl,h⟩|⟨id,g,h1,h2,rfl,h4⟩
 ·have : l=[]:=by cases l with
   | nil=>rfl
   | cons a l=>simp at h
  subst this
  exact .nil
 ·have e : vecB l=.vec (l.map bitV).length (l.map bitV):=by rw [List.length_map];rfl
  rw [e]
  refine .own h4 (by simp) fun j hj h2 h'=>?_
  simp only [Nat.zero_add,List.getElem_map]
  exact .lit _
theorem order20_own (g : Int) (ns : List NodeP) (hl : ns.length≤8) (hp : ∀ x∈ns,(x.parents.length : Int)<2 ^ 39∧∀ q∈x.parents,0≤q∧q<(ns.length : Int)) (r : List Nat) (htp : topo (setsL ns)=some r) (H : AHeap) (K : ARes→AHeap→Prop)
  (hK : ∀ v H',Over H H'→OwnG H.next H' 3 v (ints (natsI r))→K (.ret v) H') : ACall Try.prog G0 41 [netV g ns] H K:=by
 have hsl : (setsL ns).length=ns.length:=by simp [setsL]
 have hs64 : ∀ p∈setsL ns,p<2 ^ 64:=fun p h=>Nat.lt_of_lt_of_le (setsL_lt (n:=ns.length) (fun x hx q hq=>(hp x hx).2 q hq) p h) (Nat.pow_le_pow_right (by decide) (by omega))
 refine ACall.of_body (n:=6) (rs:=[.tmp 2]) Try.func41 rfl rfl rfl (by decide) (by kernel_rfl) (by simp) ?_
 simp only [go_sem,Nat.reduceEqDiff,Nat.reduceAdd,netV,nodesV,appendA_U]
 refine AApply.clo (parentSets_spec g ns (by omega) (fun x hx=>⟨(hp x hx).1,fun q hq=>by have:=(hp x hx).2 q hq;omega⟩) _ _ ⟨trivial,?_⟩)
 simp only [go_sem,Nat.reduceEqDiff,appendA_U]
 refine AApply.clo (order05_own (setsL ns) (by omega) hs64 r htp _ _ fun v H' ov ho=>⟨trivial,?_⟩)
 simp only [go_sem,Nat.reduceEqDiff,appendA_U]
 have o1 : Over H H':=(Over.ext _ _).trans ov
 exact FinV.mk o1.next (hK _ _ o1 (ho.keep (by simp [ext_next]) (Nat.le_refl _) fun _ _ _ _ _ _=>rfl))
end Go.Proofs
set_option linter.unusedSimpArgs false
set_option maxRecDepth 100000
namespace Go.Proofs
open Go.Hx
/-- A piece of a drafted diagram: the nodes of a utility (bits) and its numbers. -/
structure UtD where
 vars : Int
 w : List Int
def I8 (n : Int) : Prop:=-128≤n∧n<128
def i8L (l : List Int) : List AVal:=l.map fun n=>.lit (.int .i8 n)
theorem i8L_get {l : List Int} {k : Nat} {a : Int} (h : l[k]?=some a) : (i8L l)[k]?=some (.lit (.int .i8 a)):=by unfold i8L;rw [List.getElem?_map,h];rfl
def UtD.cells (x : UtD) : List AVal:=[.lit (.int .u8 x.vars),.vec x.w.length (i8L x.w)]
def UtD.Ok (x : UtD) : Prop:=U8 x.vars∧(x.w.length : Int)<2 ^ 63∧∀ b∈x.w,I8 b

/-- A bit of a byte, as the program reads it. -/
def bit8 (p : Int) (k : Nat) : Bool:=decide (IntKind.u8.wrap (((BitVec.ofInt IntKind.u8.bits (p.fdiv (2 ^ (min ((k : Int)).toNat IntKind.u8.bits))) &&& BitVec.ofInt IntKind.u8.bits 1).toNat : Nat) : Int)=1)
def utVars (p : Int) : Nat→List Int
 | 0=>[]
 | v+1=>if bit8 p v=true∧(utVars p v).length<3 then utVars p v++[(v : Int)] else utVars p v
theorem utVars_ok (p : Int) : ∀ n : Nat,(utVars p n).Pairwise (·<·)∧(∀ q∈utVars p n,0≤q∧q<n)∧(utVars p n).length≤3
 | 0=>⟨by simp [utVars],by simp [utVars],by simp [utVars]⟩
 | n+1=>by
  obtain ⟨h1,h2,h3⟩:=utVars_ok p n
  unfold utVars
  split
  ·rename_i h
   refine ⟨List.pairwise_append.2 ⟨h1,by simp,fun a ha b hb=>by obtain rfl:=List.mem_singleton.1 hb;exact (h2 a ha).2⟩,fun q hq=>?_,by simp;omega⟩
   rcases List.mem_append.1 hq with h4|h4
   ·have:=h2 q h4;omega
   ·obtain rfl:=List.mem_singleton.1 h4;omega
  ·exact ⟨h1,fun q hq=>by have:=h2 q hq;omega,h3⟩
/-- A drafted utility. -/
def utilF (p : UtD) (ns : List NodeP) : UtilP:=⟨utVars p.vars ns.length,(List.range (prodL (atL (cardsL ns) (utVars p.vars ns.length))).toNat).map fun (i : Nat)=>if p.w.length=0 then 0 else (p.w.getD (i % p.w.length) 0).tmod 101⟩
theorem utilF_ok (p : UtD) (ns : List NodeP) (hc : ∀ x∈ns,1≤x.card) : UtilOk ns (utilF p ns):=by
 obtain ⟨h1,h2,h3⟩:=utVars_ok p.vars ns.length
 refine ⟨⟨h1,h2⟩,?_,fun x hx=>?_⟩
 ·have hp : 1≤prodL (atL (cardsL ns) (utVars p.vars ns.length)):=prodL_pos fun c h=>by
   unfold atL at h
   obtain ⟨q,hq,rfl⟩:=List.mem_map.1 h
   have:=h2 q hq
   obtain ⟨x,hx⟩:=get_of_lt (l:=ns) (i:=q.toNat) (by omega)
   rw [getD_of_get (cards_get hx)]
   exact hc x (List.mem_of_getElem? hx)
  show ((List.map _ _).length : Int)=prodL (atL (cardsL ns) (utVars p.vars ns.length))
  rw [List.length_map,List.length_range]
  omega
 ·unfold utilF at hx
  obtain ⟨i,_,rfl⟩:=List.mem_map.1 hx
  split
  ·omega
  ·have h:=Int.natAbs_tmod (p.w.getD (i % p.w.length) 0) 101
   have h2:=Nat.mod_lt (p.w.getD (i % p.w.length) 0).natAbs (show (101 : Int).natAbs > 0 by decide)
   have h3 : (101 : Int).natAbs=101:=rfl
   rw [h3] at h h2
   omega
end Go.Proofs
set_option linter.unusedSimpArgs false
set_option maxRecDepth 100000
namespace Go.Proofs
open Go.Hx
set_option maxHeartbeats 1000000 in
theorem pieceOf_own (p : UtD) (hp : p.Ok) (g : Int) (ns : List NodeP) (h5 : 1≤ns.length∧ns.length≤8) (hc : ∀ x∈ns,1≤x.card∧x.card≤4) (H : AHeap) (K : ARes→AHeap→Prop)
  (hK : ∀ v1 v2 H',Over H H'→OwnG H.next H' 3 v1 (ints (utilF p ns).vars)→OwnG H.next H' 3 v2 (ints (utilF p ns).w)→K (.ret (.agg [v1,v2])) H') : ACall Try.prog G0 44 [.agg p.cells,netV g ns] H K:=by
 refine ACall.of_body (n:=70) (rs:=[.cell 4 85]) Try.func44 rfl rfl rfl (by decide) (by kernel_rfl) (by simp) ?_
 simp only [go_sem,Nat.reduceEqDiff,Nat.reduceAdd,netV,nodesV,UtD.cells,appendA_U]
 obtain ⟨H1,hH1⟩ : ∃ H1,H1=ext H [.arr 0 103 [.lit (.int .u8 p.vars),.vec p.w.length (i8L p.w)],.arr 0 64 [.lit (.int .i64 g),.vec ns.length (nodesC ns)],.arr 0 85 [.lit (.slice none 0 0),.lit (.slice none 0 0)],.arr 0 85 [.lit (.slice none 0 0),.lit (.slice none 0 0)]]:=⟨_,rfl⟩
 have g0 : H1.get H.next=some (.arr 0 103 [.lit (.int .u8 p.vars),.vec p.w.length (i8L p.w)]):=by rw [hH1];exact get_ext0 ..
 have g1 : H1.get (H.next+1)=some (.arr 0 64 [.lit (.int .i64 g),.vec ns.length (nodesC ns)]):=by rw [hH1];exact get_ext H _ 1 (by simp)
 have g2 : H1.get (H.next+2)=some (.arr 0 85 [.lit (.slice none 0 0),.lit (.slice none 0 0)]):=by rw [hH1];exact get_ext H _ 2 (by simp)
 have g3 : H1.get (H.next+3)=some (.arr 0 85 [.lit (.slice none 0 0),.lit (.slice none 0 0)]):=by rw [hH1];exact get_ext H _ 3 (by simp)
 have n1 : H1.next=H.next+4:=by rw [hH1];rfl
 have o1 : Over H H1:=by rw [hH1];exact .ext _ _
 rw [← hH1]
 clear hH1
 obtain ⟨cs,hcs⟩ : ∃ cs,cs=cardsL ns:=⟨_,rfl⟩
 have smk : ∀ k,k≤ns.length→SmallC (atL cs (utVars p.vars k)):=fun k hk=>by
  obtain ⟨h1,h2,h3⟩:=utVars_ok p.vars k
  refine smallC_of (by rw [atL_len];omega) fun c h=>?_
  unfold atL at h
  obtain ⟨q,hq,rfl⟩:=List.mem_map.1 h
  have:=h2 q hq
  obtain ⟨x,hx⟩:=get_of_lt (l:=ns) (i:=q.toNat) (by omega)
  rw [hcs,getD_of_get (cards_get hx)]
  exact hc x (List.mem_of_getElem? hx)
 refine W.loop0 8796093021376 (by rfl) (fun ρ Hx=>∃ (k : Nat) (v1 : AVal),ρ 7=lin k∧k≤ns.length∧ρ 6=lin (prodL (atL cs (utVars p.vars k)))∧H1.next≤Hx.next∧(∀ id,id<H1.next→id≠H.next+3→Hx.get id=H1.get id)∧Hx.get (H.next+3)=some (.arr 0 85 [v1,.lit (.slice none 0 0)])∧OwnG H1.next Hx 3 v1 (ints (utVars p.vars k))) (fun ρ H=>ns.length - (iv (ρ 7)).toNat) ?_ ?_
 ·simp only [go_sem,Nat.reduceEqDiff,appendA_U]
  exact ⟨0,_,rfl,by omega,rfl,g3,.nil⟩
 rintro ρ Hx ⟨k,v1,h7,hk,h6,hnx,hold,hu,hO⟩
 refine W.env fun E hE=>?_
 have e2 : E 2=.ptr H.next 0 0:=by rw [hE];simp only [go_sem,Nat.reduceEqDiff,Nat.reducePow,Nat.reduceDiv,Nat.reduceMod,reduceCtorEq,appendA_U]
 have e3 : E 3=.ptr (H.next+1) 0 0:=by rw [hE];simp only [go_sem,Nat.reduceEqDiff,Nat.reducePow,Nat.reduceDiv,Nat.reduceMod,reduceCtorEq,appendA_U]
 have e4 : E 4=.ptr (H.next+2) 0 0:=by rw [hE];simp only [go_sem,Nat.reduceEqDiff,Nat.reducePow,Nat.reduceDiv,Nat.reduceMod,reduceCtorEq,appendA_U]
 have e5 : E 5=.ptr (H.next+3) 0 0:=by rw [hE];simp only [go_sem,Nat.reduceEqDiff,Nat.reducePow,Nat.reduceDiv,Nat.reduceMod,reduceCtorEq,appendA_U]
 have e6 : E 6=lin (prodL (atL cs (utVars p.vars k))):=by rw [hE];simp only [go_sem,Nat.reduceEqDiff,Nat.reducePow,Nat.reduceDiv,Nat.reduceMod,h6,appendA_U]
 have e7 : E 7=lin k:=by rw [hE];simp only [go_sem,Nat.reduceEqDiff,Nat.reducePow,Nat.reduceDiv,Nat.reduceMod,h7,appendA_U]
 clear hE
 refine vc_sound _ _ _ (by rfl) ?_
 have l0:=get_live ((hold _ (by omega) (by omega)).trans g0)
 have l1:=get_live ((hold _ (by omega) (by omega)).trans g1)
 have l3:=get_live hu
 by_cases hb : (k : Int)<ns.length
 ·obtain ⟨x,hx⟩:=get_of_lt (l:=ns) (i:=k) (by omega)
  have hne:=nodesC_ne hx
  have c0:=nodesC_0 hx
  have w1:=IntWalk.i64_in ((k : Int)+1) (by omega)
  obtain ⟨r1,hr1⟩ : ∃ r1,p.vars.fdiv (2 ^ (min ((k : Int)).toNat IntKind.u8.bits))=r1:=⟨_,rfl⟩
  obtain ⟨r2,hr2⟩ : ∃ r2,IntKind.u8.wrap (((BitVec.ofInt IntKind.u8.bits r1 &&& BitVec.ofInt IntKind.u8.bits 1).toNat : Nat) : Int)=r2:=⟨_,rfl⟩
  have s1 : ∀ t o1 o2,binA Try.prog .shr t o1 o2 (.lit (.int .u8 p.vars)) (.lit (.int .i64 (k : Int)))=some (.lit (.int .u8 r1)):=fun t o1 o2=>by rw [bin_shr (by omega),hr1]
  have s2 : ∀ t o1 o2,binA Try.prog .and t o1 o2 (.lit (.int .u8 r1)) (.lit (.int .u8 1))=some (.lit (.int .u8 r2)):=fun t o1 o2=>by rw [bin_and,hr2]
  have hb8 : bit8 p.vars k=decide (r2=1):=by unfold bit8;rw [hr1,hr2]
  have hlen:=own_len hO (d:=some (.slice 3)) rfl
  rw [lenU_slice,ints_length] at hlen
  obtain ⟨u1,u2,u3⟩:=utVars_ok p.vars k
  have hstep : utVars p.vars (k+1)=if bit8 p.vars k=true∧(utVars p.vars k).length<3 then utVars p.vars k++[(k : Int)] else utVars p.vars k:=rfl
  by_cases hr : r2=1
  ·by_cases h3 : ((utVars p.vars k).length : Int)<3
   ·rw [if_pos ⟨by rw [hb8,decide_eq_true hr],by omega⟩] at hstep
    obtain ⟨v',H3,hA,hO3,hn3,hp3⟩:=app_oneG (P:=Try.prog) (H:=Hx) (t:=59) (x:=lin k) (n:=Hx.next+1) Try.underlying59 Try.cells3 Try.zero3 rfl (by rw [Try.bytes3,ints_length];omega) hO hnx rfl
    simp only [lin] at hA
    have keep : ∀ id,id<H1.next→H3.get id=Hx.get id:=fun id h=>hp3 id (by omega) (hO.ne h)
    have l1j:=get_live ((keep _ (by omega)).trans ((hold _ (by omega) (by omega)).trans g1))
    have l3j:=get_live ((keep _ (by omega)).trans hu)
    have hvc:=hO3.cells
    have hvo:=hO3.one
    have l1u : ∀ b,(H3.upd (H.next+3) b).live (H.next+1) 0=some (64,[.lit (.int .i64 g),.vec ns.length (nodesC ns)]):=fun b=>(live_upd_other (by omega)).trans l1j
    have hpr : prodL (atL cs (utVars p.vars (k+1)))=prodL (atL cs (utVars p.vars k))*x.card:=by
     rw [hstep]
     unfold atL
     rw [List.map_append,hcs]
     show prodL (_++[(cardsL ns).getD ((k : Int)).toNat 0])=_
     rw [prodL_snoc,Int.toNat_natCast,getD_of_get (cards_get hx)]
    have hps:=(smk (k+1) (by omega)).prod
    rw [hpr] at hps
    have w2:=IntWalk.i64_in (prodL (atL cs (utVars p.vars k))*x.card) (by omega)
    simp only [go_sem,Nat.reduceEqDiff,Nat.reducePow,Nat.reduceDiv,Nat.reduceMod,Nat.reduceAdd,Nat.reduceLeDiff,e2,e3,e4,e5,e6,e7,l0,l1,l3,l1j,l3j,hb,s1,s2,hr,hlen,h3,w1,w2,hne,c0,hA,hvc,hvo,l1u]
    refine ⟨by rw [upd_next];omega,⟨k+1,v',rfl,by omega,by rw [hpr],by rw [upd_next];omega,fun id h1 h2=>by rw [upd_get,if_neg h2,keep _ h1];exact hold id h1 h2,by rw [upd_get,if_pos rfl],?_⟩,by rw [h7];simp only [lin,iv_int];omega⟩
    rw [hstep]
    have:=hO3.keep (lo':=H1.next) (H':=H3.upd (H.next+3) (.arr 0 85 [v',.lit (.slice none 0 0)])) (Nat.le_refl _) (Nat.le_refl _) fun id _ h1 _ _ _=>by rw [upd_get,if_neg (by omega)]
    simpa [ints,lin] using this
   ·rw [if_neg (by omega)] at hstep
    simp only [go_sem,Nat.reduceEqDiff,Nat.reducePow,Nat.reduceDiv,Nat.reduceMod,e2,e3,e4,e5,e6,e7,l0,l1,l3,hb,s1,s2,hr,hlen,h3,w1,guardA_undef,appendA_U]
    exact ⟨hnx,⟨k+1,v1,rfl,by omega,by rw [hstep],hnx,hold,hu,by rw [hstep];exact hO⟩,by rw [h7];simp only [lin,iv_int];omega⟩
  ·rw [if_neg (by rw [hb8,decide_eq_false hr];simp)] at hstep
   simp only [go_sem,Nat.reduceEqDiff,Nat.reducePow,Nat.reduceDiv,Nat.reduceMod,e2,e3,e4,e5,e6,e7,l0,l1,l3,hb,s1,s2,hr,hlen,w1,guardA_undef,appendA_U]
   exact ⟨hnx,⟨k+1,v1,rfl,by omega,by rw [hstep],hnx,hold,hu,by rw [hstep];exact hO⟩,by rw [h7];simp only [lin,iv_int];omega⟩
 ·have hke : k=ns.length:=by omega
  simp only [go_sem,Nat.reduceEqDiff,Nat.reducePow,Nat.reduceDiv,Nat.reduceMod,e2,e3,e4,e5,e6,e7,l0,l1,l3,hb,appendA_U]
  rw [hke] at hO e6
  obtain ⟨R,hR⟩:=Int.eq_ofNat_of_zero_le (smk ns.length (by omega)).prod.1
  have hR2:=(smk ns.length (by omega)).prod.2
  rw [hR] at e6 hR2
  have hwl : (utilF p ns).w=(List.range R).map fun (i : Nat)=>if p.w.length=0 then 0 else (p.w.getD (i % p.w.length) 0).tmod 101:=by
   unfold utilF
   rw [← hcs,hR]
   rfl
  have wget : ∀ (i : Nat) (x : Int),i<R→(if p.w.length=0 then 0 else (p.w.getD (i % p.w.length) 0).tmod 101)=x→(utilF p ns).w[i]?=some x:=fun i x hi hx=>by
   rw [hwl,List.getElem?_map,List.getElem?_range hi,Option.map_some,hx]
  have wlen : (utilF p ns).w.length=R:=by rw [hwl];simp
  refine W.loop0 590295801562612630272 (by rfl) (fun ρ H2=>∃ (i : Nat) (v2 : AVal),ρ 8=lin i∧i≤R∧Hx.next≤H2.next∧(∀ id,id<Hx.next→id≠H.next+3→H2.get id=Hx.get id)∧H2.get (H.next+3)=some (.arr 0 85 [v1,v2])∧OwnG Hx.next H2 3 v2 (ints ((utilF p ns).w.take i))) (fun ρ H=>R - (iv (ρ 8)).toNat) ?_ ?_
  ·simp only [go_sem,Nat.reduceEqDiff,appendA_U]
   exact ⟨0,_,rfl,by omega,hu,.nil⟩
  rintro ρ2 H2 ⟨i,v2,h8,hi,hn2,hold2,hu2,hO2⟩
  refine W.env fun E2 hE2=>?_
  have f2 : E2 2=.ptr H.next 0 0:=by rw [hE2];simp only [go_sem,Nat.reduceEqDiff,Nat.reducePow,Nat.reduceDiv,Nat.reduceMod,reduceCtorEq,e2,appendA_U]
  have f4 : E2 4=.ptr (H.next+2) 0 0:=by rw [hE2];simp only [go_sem,Nat.reduceEqDiff,Nat.reducePow,Nat.reduceDiv,Nat.reduceMod,reduceCtorEq,e4,appendA_U]
  have f5 : E2 5=.ptr (H.next+3) 0 0:=by rw [hE2];simp only [go_sem,Nat.reduceEqDiff,Nat.reducePow,Nat.reduceDiv,Nat.reduceMod,reduceCtorEq,e5,appendA_U]
  have f6 : E2 6=lin R:=by rw [hE2];simp only [go_sem,Nat.reduceEqDiff,Nat.reducePow,Nat.reduceDiv,Nat.reduceMod,reduceCtorEq,e6,appendA_U]
  have f8 : E2 8=lin i:=by rw [hE2];simp only [go_sem,Nat.reduceEqDiff,Nat.reducePow,Nat.reduceDiv,Nat.reduceMod,h8,appendA_U]
  clear hE2
  refine vc_sound _ _ _ (by rfl) ?_
  have o02 : ∀ id,id<H1.next→id≠H.next+3→H2.get id=H1.get id:=fun id h1 h2=>(hold2 id (by omega) h2).trans (hold id h1 h2)
  have m0:=get_live ((o02 _ (by omega) (by omega)).trans g0)
  have m3:=get_live hu2
  by_cases hb2 : (i : Int)<R
  ·have w1:=IntWalk.i64_in ((i : Int)+1) (by omega)
   have hlen:=own_len hO2 (d:=some (.slice 3)) rfl
   rw [lenU_slice,ints_length] at hlen
   have tl : ((utilF p ns).w.take i).length=i:=by rw [List.length_take,wlen];omega
   have app : ∀ x : Int,(utilF p ns).w[i]?=some x→∃ v' H3,appendA Try.prog (ext H2 [.arr 0 3 [.lit (.int .i64 x)]]) (H2.next+1) 59 59 v2 (.own H2.next 0 0 1 1)=some (v',H3)∧v'.cells=[v']∧v'.one=true∧H3.live (H.next+3) 0=some (85,[v1,v2])∧H2.next≤H3.next ∧
     ∀ b,b=.arr 0 85 [v1,v']→(∀ id,id<Hx.next→id≠H.next+3→(H3.upd (H.next+3) b).get id=Hx.get id)∧(H3.upd (H.next+3) b).get (H.next+3)=some (.arr 0 85 [v1,v'])∧OwnG Hx.next (H3.upd (H.next+3) b) 3 v' (ints ((utilF p ns).w.take (i+1))):=fun x hx=>by
    obtain ⟨v',H3,hA,hO3,hn3,hp3⟩:=app_oneG (P:=Try.prog) (H:=H2) (t:=59) (x:=lin x) (n:=H2.next+1) Try.underlying59 Try.cells3 Try.zero3 rfl (by rw [Try.bytes3,ints_length];omega) hO2 hn2 rfl
    simp only [lin] at hA
    have keep : ∀ id,id<Hx.next→H3.get id=H2.get id:=fun id h=>hp3 id (by omega) (hO2.ne h)
    refine ⟨v',H3,hA,hO3.cells,hO3.one,get_live ((keep _ (by omega)).trans hu2),hn3,fun b hb=>⟨fun id h1 h2=>by rw [upd_get,if_neg h2,keep _ h1];exact hold2 id h1 h2,by rw [upd_get,if_pos rfl,hb],?_⟩⟩
    rw [take_succ_get hx]
    have:=hO3.keep (lo':=Hx.next) (H':=H3.upd (H.next+3) b) (Nat.le_refl _) (Nat.le_refl _) fun id _ h1 _ _ _=>by rw [upd_get,if_neg (by omega)]
    simpa [ints,lin] using this
   by_cases hz : (0 : Int)<p.w.length
   ·have hzn : ¬ (p.w.length : Int)=0:=by omega
    have m1 : (i : Int).tmod p.w.length=((i % p.w.length : Nat) : Int):=by rw [Int.tmod_eq_emod_of_nonneg (by omega)];rfl
    have m2:=Nat.mod_lt i (show p.w.length > 0 by omega)
    obtain ⟨q,hq⟩ : ∃ q,q=i % p.w.length:=⟨_,rfl⟩
    rw [← hq] at m1 m2
    have hq0 : (q : Int) ≥ 0:=by omega
    have hql : (q : Int)<p.w.length:=by omega
    obtain ⟨b,hbg⟩:=get_of_lt (l:=p.w) (i:=q) m2
    have b8:=hp.2.2 b (List.mem_of_getElem? hbg)
    have hbg':=i8L_get hbg
    have hbne:=ne_of_get hbg'
    unfold I8 at b8
    have w4 : IntKind.i64.wrap b=b:=IntWalk.i64_in _ (by omega)
    have tb : -9223372036854775808≤b.tmod 101∧b.tmod 101<9223372036854775808:=by
     have h:=Int.natAbs_tmod b 101
     have h2:=Nat.mod_lt b.natAbs (show (101 : Int).natAbs > 0 by decide)
     have h3 : (101 : Int).natAbs=101:=rfl
     rw [h3] at h h2
     omega
    have w5 : IntKind.i64.wrap (b.tmod 101)=b.tmod 101:=IntWalk.i64_in _ (by omega)
    obtain ⟨v',H3,hA,hvc,hvo,l3,hn3,fin⟩:=app (b.tmod 101) (wget i _ (by omega) (by rw [if_neg (by omega),← hq,getD_of_get hbg]))
    simp only [go_sem,Nat.reduceEqDiff,Nat.reducePow,Nat.reduceDiv,Nat.reduceMod,f2,f4,f5,f6,f8,m0,m3,hb2,hz,appendA_U]
    refine W.draw 7 [0,1,0,0,8,24,60] Try.mixed (by kernel_rfl) (by kernel_rfl) ?_
    simp only [go_sem,Int.reduceEq,Nat.reduceEqDiff,Nat.reducePow,Nat.reduceDiv,Nat.reduceMod,Nat.reduceAdd,Nat.reduceLeDiff,reduceCtorEq,f2,f4,f5,f6,f8,m0,m3,hb2,hz,hzn,m1,hq0,hql,hbg',hbne,w1,w4,w5,hlen,hA,hvc,hvo,l3]
    refine ⟨by rw [upd_next];omega,⟨i+1,v',rfl,by omega,by rw [upd_next];omega,(fin _ rfl).1,(fin _ rfl).2.1,(fin _ rfl).2.2⟩,by rw [h8];simp only [lin,iv_int];omega⟩
   ·have hzn : p.w.length=0:=by omega
    obtain ⟨v',H3,hA,hvc,hvo,l3,hn3,fin⟩:=app 0 (wget i _ (by omega) (by rw [if_pos hzn]))
    simp only [go_sem,Nat.reduceEqDiff,Nat.reducePow,Nat.reduceDiv,Nat.reduceMod,Nat.reduceAdd,Nat.reduceLeDiff,f2,f4,f5,f6,f8,m0,m3,hb2,hz,w1,hlen,hA,hvc,hvo,l3]
    refine ⟨by rw [upd_next];omega,⟨i+1,v',rfl,by omega,by rw [upd_next];omega,(fin _ rfl).1,(fin _ rfl).2.1,(fin _ rfl).2.2⟩,by rw [h8];simp only [lin,iv_int];omega⟩
  ·have hie : i=R:=by omega
   have m2:=get_live ((o02 _ (by omega) (by omega)).trans g2)
   have hO1 : OwnG H1.next H2 3 v1 (ints (utVars p.vars ns.length)):=hO.keep (Nat.le_refl _) hn2 fun id _ h1 h3 _ _=>hold2 id h3 (by omega)
   have v1o:=hO1.one
   have v2o:=hO2.one
   have v1c:=hO1.cells
   have v2c:=hO2.cells
   rw [List.take_of_length_le (by omega)] at hO2
   simp only [go_sem,Nat.reduceEqDiff,Nat.reducePow,Nat.reduceDiv,Nat.reduceMod,Nat.reduceAdd,f2,f4,f5,f6,f8,m0,m2,m3,hb2,v1o,v2o,v1c,v2c,appendA_U]
   have k1:=hO1.keep (lo':=H.next) (H':=H2.upd (H.next+2) (.arr 0 85 [v1,v2])) (by omega) (by rw [upd_next];omega) fun id _ h1 _ _ _=>by rw [upd_get,if_neg (by omega)]
   have k2:=hO2.keep (lo':=H.next) (H':=H2.upd (H.next+2) (.arr 0 85 [v1,v2])) (by omega) (by rw [upd_next];omega) fun id _ h1 _ _ _=>by rw [upd_get,if_neg (by omega)]
   refine FinV.mk (by rw [upd_next];omega) (hK v1 v2 _ ⟨by rw [upd_next];omega,fun id h=>?_⟩ k1 k2)
   rw [upd_get,if_neg (by omega),o02 id (by omega) (by omega)]
   exact o1.old id h
end Go.Proofs
set_option linter.unusedSimpArgs false
set_option maxRecDepth 100000
namespace Go.Proofs
open Go.Hx
structure TopoR (ps : List Nat) (r : List Nat) : Prop where
 len : r.length=ps.length
 nd : r.Nodup
 rng : ∀ v∈r,v<ps.length
 rk : ∀ (i v : Nat),r[i]?=some v→∀ u,(ps.getD v 0).testBit u=true→∃ j,j<i∧r[j]?=some u
theorem topoGo_R {ps : List Nat} (hp : ∀ p∈ps,p<2 ^ 64) : ∀ (k : Nat) (out : List Nat) (done : Nat) (r : List Nat),topoGo ps k out done=some r→(∀ i,done.testBit i=true↔i∈out)→out.Nodup→(∀ v∈out,v<ps.length)→(∀ (i v : Nat),out[i]?=some v→∀ u,(ps.getD v 0).testBit u=true→∃ j,j<i∧out[j]?=some u) →
  r.length=out.length+k∧r.Nodup∧(∀ v∈r,v<ps.length)∧(∀ (i v : Nat),r[i]?=some v→∀ u,(ps.getD v 0).testBit u=true→∃ j,j<i∧r[j]?=some u):=by
 intro k
 induction k with
 | zero =>
  intro out done r h h1 h2 h3 h4
  unfold topoGo at h
  cases h
  exact ⟨rfl,h2,h3,h4⟩
 | succ k ih =>
  intro out done r h h1 h2 h3 h4
  unfold topoGo at h
  cases hn : nextT ps done with
  | none=>rw [hn] at h;cases h
  | some v =>
   rw [hn] at h
   obtain ⟨a,b,c⟩:=nextT_some hp hn
   have hvo : v ∉ out:=fun hm=>by rw [(h1 v).2 hm] at b;cases b
   obtain ⟨e1,e2,e3,e4⟩:=ih (out++[v]) (done ||| 2 ^ v) r h (fun i=>by
    rw [or_pow_bit,List.mem_append,List.mem_singleton,Bool.or_eq_true,h1,decide_eq_true_eq]
    exact or_congr Iff.rfl eq_comm) (List.nodup_append.2 ⟨h2,by simp,fun x hx y hy=>by obtain rfl:=List.mem_singleton.1 hy;rintro rfl;exact hvo hx⟩) (fun x hx=>by
    rcases List.mem_append.1 hx with hx|hx
    ·exact h3 x hx
    ·obtain rfl:=List.mem_singleton.1 hx;exact a) (fun i x hx u hu=>by
    have hl:=get_lt hx
    rw [List.length_append,List.length_singleton] at hl
    rcases Nat.lt_or_ge i out.length with hi|hi
    ·rw [List.getElem?_append_left hi] at hx
     obtain ⟨j,j1,j2⟩:=h4 i x hx u hu
     exact ⟨j,j1,by rw [List.getElem?_append_left (by omega)];exact j2⟩
    ·obtain rfl : i=out.length:=by omega
     simp only [List.getElem?_concat_length,Option.some.injEq] at hx
     subst hx
     obtain ⟨j,hj⟩:=List.mem_iff_getElem?.1 ((h1 u).1 (c u hu))
     exact ⟨j,get_lt hj,by rw [List.getElem?_append_left (get_lt hj)];exact hj⟩)
   exact ⟨by rw [e1,List.length_append,List.length_singleton];omega,e2,e3,e4⟩
theorem topoR {ps : List Nat} (hp : ∀ p∈ps,p<2 ^ 64) {r : List Nat} (h : topo ps=some r) : TopoR ps r:=by
 obtain ⟨e1,e2,e3,e4⟩:=topoGo_R hp ps.length [] 0 r h (fun i=>by simp) (by simp) (by simp) (by simp)
 exact ⟨by simpa using e1,e2,e3,e4⟩

theorem nodup_len : ∀ (n : Nat) (l : List Nat),l.Nodup→(∀ v∈l,v<n)→l.length≤n:=by
 intro n
 induction n with
 | zero=>intro l _ h;cases l with
  | nil=>simp
  | cons a l=>exact absurd (h a (by simp)) (Nat.not_lt_zero _)
 | succ n ih =>
  intro l hd h
  have h1:=ih (l.erase n) (hd.erase n) fun v hv=>by
   have h2:=(hd.mem_erase_iff).1 hv
   have:=h v h2.2
   omega
  have h3:=List.length_erase (a:=n) (l:=l)
  split at h3<;>omega
def Bef (r : List Nat) (i v : Nat) : Prop:=∃ j,j<i∧r[j]?=some v
theorem Bef.up {r : List Nat} {i k v : Nat} (h : Bef r i v) (hk : i≤k) : Bef r k v:=h.imp fun j hj=>⟨by omega,hj.2⟩
/-- The nodes of a draft when the first nodes of the order have been looked at. -/
structure DrD (ns : List NodeP) (r : List Nat) (rem : Bool) (i known decs : Nat) (os : List Nat) (ms : List NodeP) : Prop where
 card : cardsL ms=cardsL ns
 old : ∀ v,decs.testBit v=false→ms[v]?=ns[v]?
 dec : ∀ v x,ms[v]?=some x→decs.testBit v=true→x.rows=[]∧∃ s j,x.parents=bitsL s 8∧j<i∧r[j]?=some v∧∀ u,s.testBit u=true→Bef r j u
 decsb : ∀ v,decs.testBit v=true→Bef r i v
 knownb : ∀ v,known.testBit v=true→Bef r i v
 os3 : os.length≤3
 osm : ∀ v,v∈os↔decs.testBit v=true
 osp : rem=true→os.Pairwise fun u v=>∀ x y,ms[u]?=some x→ms[v]?=some y→Sub (setN x.parents ||| 2 ^ u) (setN y.parents)
 osk : rem=true→∀ u∈os,∀ x,ms[u]?=some x→Sub (setN x.parents ||| 2 ^ u) known
theorem DrD.len {ns ms : List NodeP} {r os : List Nat} {rem : Bool} {i known decs : Nat} (h : DrD ns r rem i known decs os ms) : ms.length=ns.length:=by
 have:=congrArg List.length h.card
 simpa [cardsL] using this
theorem DrD.start (ns : List NodeP) (r : List Nat) (rem : Bool) : DrD ns r rem 0 0 0 [] ns :=
 ⟨rfl,fun _ _=>rfl,fun v x _ h=>by simp at h,fun v h=>by simp at h,fun v h=>by simp at h,by simp,fun v=>by simp,fun _=>.nil,fun _ u hu=>by cases hu⟩
theorem DrD.skip {ns ms : List NodeP} {r os : List Nat} {rem : Bool} {i known decs : Nat} (h : DrD ns r rem i known decs os ms) : DrD ns r rem (i+1) known decs os ms :=
 ⟨h.card,h.old,fun v x hx hb=>by
  obtain ⟨a,s,j,b,c,d⟩:=h.dec v x hx hb
  exact ⟨a,s,j,b,by omega,d⟩,fun v hb=>(h.decsb v hb).up (by omega),fun v hb=>(h.knownb v hb).up (by omega),h.os3,h.osm,h.osp,h.osk⟩
theorem setN_bitsL {s : Nat} (h : s<2 ^ 8) : setN (bitsL s 8)=s:=by
 have h0 : ∀ p∈bitsL s 8,0≤p:=fun p hp=>by obtain ⟨v,rfl,_⟩:=mem_bitsL.1 hp;omega
 refine Nat.eq_of_testBit_eq fun i=>?_
 rw [setN_bit h0]
 cases hb : s.testBit i with
 | true=>exact decide_eq_true (mem_bitsL.2 ⟨i,rfl,bit_lt h hb,hb⟩)
 | false =>
  refine decide_eq_false fun hm=>?_
  obtain ⟨v,e,_,hv⟩:=mem_bitsL.1 hm
  obtain rfl : i=v:=by omega
  rw [hb] at hv;cases hv
theorem bef_lt {r : List Nat} {n i v : Nat} (hr : ∀ v∈r,v<n) (h : Bef r i v) : v<n:=h.elim fun _ hj=>hr v (List.mem_of_getElem? hj.2)
theorem befs_lt {r : List Nat} {n i s : Nat} (hr : ∀ v∈r,v<n) (h : ∀ v,s.testBit v=true→Bef r i v) : s<2 ^ n:=lt_two_pow_of_bits fun v hv=>bef_lt hr (h v hv)
theorem DrD.step {ns ms : List NodeP} {r os : List Nat} {rem : Bool} {i known decs : Nat} (h : DrD ns r rem i known decs os ms) (hr : TopoR (setsL ns) r) (h8 : ns.length≤8) (ho : os.length<3) {v : Nat} (hv : r[i]?=some v) {x : NodeP} (hx : ns[v]?=some x) {s : Nat} (hs : Sub s (setN x.parents)) :
  decs.testBit v=false∧v<ns.length∧(if rem then s ||| known else s)<2 ^ ns.length ∧
  DrD ns r rem (i+1) (known ||| (if rem then s ||| known else s) ||| 2 ^ v) (decs ||| 2 ^ v) (os++[v]) (ms.set v ⟨x.card,bitsL (if rem then s ||| known else s) 8,[]⟩):=by
 obtain ⟨s',hs'⟩ : ∃ s',s'=(if rem then s ||| known else s):=⟨_,rfl⟩
 rw [← hs']
 have hsl : (setsL ns).length=ns.length:=by simp [setsL]
 have hrng:=hr.rng
 rw [hsl] at hrng
 have hvn:=hrng v (List.mem_of_getElem? hv)
 have hml:=h.len
 have inj : ∀ j,r[j]?=some v→j=i:=fun j hj=>(List.getElem?_inj (get_lt hj) hr.nd).1 (by rw [hj,hv])
 have hdv : decs.testBit v=false:=by
  cases hb : decs.testBit v with
  | false=>rfl
  | true =>
   obtain ⟨j,j1,j2⟩:=h.decsb v hb
   have:=inj j j2
   omega
 have sb : ∀ u,s.testBit u=true→Bef r i u:=fun u hu=>hr.rk i v hv u (by rw [getD_of_get (setsL_get hx)];exact hs u hu)
 have sb' : ∀ u,s'.testBit u=true→Bef r i u:=fun u hu=>by
  rw [hs'] at hu
  cases rem with
  | false=>exact sb u hu
  | true =>
   rw [if_pos rfl,Nat.testBit_or,Bool.or_eq_true] at hu
   exact hu.elim (sb u) (h.knownb u)
 have hlt:=befs_lt hrng sb'
 have hlt8 : s'<2 ^ 8:=Nat.lt_of_lt_of_le hlt (Nat.pow_le_pow_right (by decide) h8)
 have selfv : (ms.set v ⟨x.card,bitsL s' 8,[]⟩)[v]?=some ⟨x.card,bitsL s' 8,[]⟩:=List.getElem?_set_self (by omega)
 have othv : ∀ u,u≠v→(ms.set v ⟨x.card,bitsL s' 8,[]⟩)[u]?=ms[u]?:=fun u hu=>List.getElem?_set_ne (fun e=>hu e.symm)
 have osv : v ∉ os:=fun hm=>by rw [(h.osm v).1 hm] at hdv;cases hdv
 refine ⟨hdv,hvn,hlt,⟨?_,fun u hu=>?_,fun u y hy hu=>?_,fun u hu=>?_,fun u hu=>?_,by simp;omega,fun u=>?_,fun hrem=>?_,fun hrem u hu y hy=>?_⟩⟩
 ·rw [← h.card]
  unfold cardsL
  rw [List.map_set]
  apply List.ext_getElem?
  intro k
  rw [List.getElem?_set]
  split
  ·rename_i e
   subst e
   have:=h.card
   have h1 : (cardsL ms)[v]?=(cardsL ns)[v]?:=by rw [this]
   rw [if_pos (by rw [List.length_map];omega)]
   rw [cards_get hx] at h1
   exact h1.symm
  ·rfl
 ·rw [or_pow_bit,Bool.or_eq_false_iff,decide_eq_false_iff_not] at hu
  rw [othv u (fun e=>hu.2 e.symm)]
  exact h.old u hu.1
 ·by_cases e : u=v
  ·subst e
   rw [selfv] at hy
   cases hy
   exact ⟨rfl,s',i,rfl,by omega,hv,sb'⟩
  ·rw [othv u e] at hy
   rw [or_pow_bit,Bool.or_eq_true,decide_eq_true_eq] at hu
   obtain ⟨a,s2,j,b,c,d⟩:=h.dec u y hy (hu.resolve_right fun e'=>e e'.symm)
   exact ⟨a,s2,j,b,by omega,d⟩
 ·rw [or_pow_bit,Bool.or_eq_true,decide_eq_true_eq] at hu
  rcases hu with hu|rfl
  ·exact (h.decsb u hu).up (by omega)
  ·exact ⟨i,by omega,hv⟩
 ·rw [or_pow_bit,Nat.testBit_or,Bool.or_eq_true,Bool.or_eq_true,decide_eq_true_eq] at hu
  rcases hu with (hu|hu)|rfl
  ·exact (h.knownb u hu).up (by omega)
  ·exact (sb' u hu).up (by omega)
  ·exact ⟨i,by omega,hv⟩
 ·rw [or_pow_bit,List.mem_append,List.mem_singleton,h.osm,Bool.or_eq_true,decide_eq_true_eq]
  exact or_congr Iff.rfl eq_comm
 ·refine List.pairwise_append.2 ⟨(h.osp hrem).imp_of_mem fun {a b} ha hb hab p q hp hq=>?_,by simp,fun a ha b hb p q hp hq=>?_⟩
  ·rw [othv a (fun e=>osv (e ▸ ha))] at hp
   rw [othv b (fun e=>osv (e ▸ hb))] at hq
   exact hab p q hp hq
  ·obtain rfl:=List.mem_singleton.1 hb
   rw [othv a (fun e=>osv (e ▸ ha))] at hp
   rw [selfv] at hq
   cases hq
   rw [show setN (⟨x.card,bitsL s' 8,[]⟩ : NodeP).parents=s' from setN_bitsL hlt8,hs',if_pos hrem]
   exact (h.osk hrem a ha p hp).trans (Sub.right _ _)
 ·rcases List.mem_append.1 hu with hu|hu
  ·rw [othv u (fun e=>osv (e ▸ hu))] at hy
   exact ((h.osk hrem u hu y hy).trans (Sub.left _ _)).trans (Sub.left _ _)
  ·obtain rfl:=List.mem_singleton.1 hu
   rw [selfv] at hy
   cases hy
   rw [show setN (⟨x.card,bitsL s' 8,[]⟩ : NodeP).parents=s' from setN_bitsL hlt8]
   exact Sub.or ((Sub.right known s').trans (Sub.left _ _)) (Sub.right _ _)

/-- What is known of a draft's diagram. -/
structure DrI (rem : Bool) (d : InfP) : Prop where
 ok : InfOk d
 n5 : d.nodes.length≤5
 rows : ∀ v x,d.nodes[v]?=some x→d.decs.testBit v=false→x.rows≠[]
 os : ∃ os : List Nat,os.length≤3∧(∀ v,v∈os↔d.decs.testBit v=true)∧(rem=true→os.Pairwise fun u v=>∀ x y,d.nodes[u]?=some x→d.nodes[v]?=some y→Sub (setN x.parents ||| 2 ^ u) (setN y.parents))
theorem rows_ne {g : Int} {ns : List NodeP} (h : NetOk g ns) : ∀ x∈ns,x.rows≠[]:=fun x hx he=>by
 have h1:=(h.rows x hx).1
 have h2:=prodL_pos (l:=parC ns x) fun c hc=>(parC_mem (fun q hq=>by have:=(h.node x hx).2.2 q hq;omega) (fun y hy=>(h.node y hy).1) c hc).1
 rw [he] at h1
 simp at h1
 omega
theorem DrD.fin {g : Int} {ns ms : List NodeP} {r os : List Nat} {rem : Bool} {i known decs : Nat} (h : DrD ns r rem i known decs os ms) (hn : NetOk g ns) (hr : TopoR (setsL ns) r) (h5 : ns.length≤5) {us : List UtilP} (hul : us.length≤4) (hus : ∀ u∈us,UtilOk ns u) :
  DrI rem ⟨g,ms,decs,us⟩:=by
 have hsl : (setsL ns).length=ns.length:=by simp [setsL]
 have hrng:=hr.rng
 rw [hsl] at hrng
 have hml:=h.len
 have hdl : decs<2 ^ ns.length:=befs_lt hrng h.decsb
 have getN : ∀ (v : Nat) (x : NodeP),ms[v]?=some x→∃ y,ns[v]?=some y∧y.card=x.card:=fun v x hx=>by
  obtain ⟨y,hy⟩:=get_of_lt (l:=ns) (i:=v) (by have:=get_lt hx;omega)
  refine ⟨y,hy,?_⟩
  have h1 : (cardsL ms)[v]?=(cardsL ns)[v]?:=by rw [h.card]
  rw [cards_get hx,cards_get hy] at h1
  exact (Option.some.inj h1).symm
 have hcard : ∀ x∈ms,1≤x.card∧x.card≤4:=fun x hx=>by
  obtain ⟨v,hv⟩:=List.mem_iff_getElem?.1 hx
  obtain ⟨y,hy,e⟩:=getN v x hv
  rw [← e]
  exact (hn.node y (List.mem_of_getElem? hy)).1
 have hpl : ∀ (v : Nat) (x : NodeP),ms[v]?=some x→PlacesOk x.parents ms.length:=fun v x hx=>by
  cases hb : decs.testBit v with
  | false =>
   rw [h.old v hb] at hx
   have:=(hn.node x (List.mem_of_getElem? hx)).2
   rw [hml];exact this
  | true =>
   obtain ⟨_,s,j,e,_,_,hs⟩:=h.dec v x hx hb
   rw [e]
   refine ⟨bitsL_pw _ _,fun q hq=>?_⟩
   obtain ⟨u,rfl,_,hu⟩:=mem_bitsL.1 hq
   have:=bef_lt hrng (hs u hu)
   rw [hml]
   omega
 have hR : RightN ⟨g,ms,decs,us⟩:=⟨by show 1≤ms.length∧ms.length≤8;rw [hml];exact hn.n1,by show decs >>> ms.length=0;rw [hml,Nat.shiftRight_eq_div_pow];exact Nat.div_eq_of_lt hdl,hcard,fun v x hx hb=>⟨(h.dec v x hx hb).1,hpl v x hx⟩⟩
 have hperm : IsPerm ns.length (natsI r):=⟨by rw [show (natsI r).length=r.length by simp [natsI],hr.len,hsl],by
  unfold natsI
  exact List.Pairwise.map _ (R:=(·≠·)) (fun a b h e=>h (by omega)) hr.nd,fun q hq=>by
  obtain ⟨v,hv,rfl⟩:=List.mem_map.1 hq
  have:=hrng v hv
  omega⟩
 have natg : ∀ (j v : Nat),(natsI r)[j]?=some (v : Int)↔r[j]?=some v:=fun j v=>by
  unfold natsI
  rw [List.getElem?_map,Option.map_eq_some_iff]
  exact ⟨fun ⟨a,h1,h2⟩=>by rw [h1];congr 1;omega,fun h1=>⟨v,h1,rfl⟩⟩
 have hacy : AcycB (setsL ms):=by
  refine acyc_of_order (P:=natsI r) (by rw [hml];exact hperm) (fun v hv=>?_) fun j v x hj hx q hq=>?_
  ·refine Classical.byContradiction fun hno=>?_
   rw [hml] at hv
   have hsub : (v :: r).length≤ns.length:=by
    have hnd : (v :: r).Nodup:=List.nodup_cons.2 ⟨fun hm=>hno (List.mem_map.2 ⟨v,hm,rfl⟩),hr.nd⟩
    exact nodup_len ns.length _ hnd fun u hu=>by
     rcases List.mem_cons.1 hu with rfl|hu
     ·exact hv
     ·exact hrng u hu
   rw [List.length_cons,hr.len,hsl] at hsub
   omega
  ·have q0:=((hpl v x hx).2 q hq).1
   refine ⟨q0,?_⟩
   have hj':=(natg j v).1 hj
   obtain ⟨u,rfl⟩:=Int.eq_ofNat_of_zero_le q0
   cases hb : decs.testBit v with
   | false =>
    rw [h.old v hb] at hx
    obtain ⟨k,k1,k2⟩:=hr.rk j v hj' u (by
     rw [getD_of_get (setsL_get hx),setN_bit fun p hp=>((hn.node x (List.mem_of_getElem? hx)).2.2 p hp).1]
     exact decide_eq_true hq)
    exact ⟨k,k1,(natg k u).2 k2⟩
   | true =>
    obtain ⟨_,s,j',e,_,hj2,hs⟩:=h.dec v x hx hb
    rw [e] at hq
    obtain ⟨u',eu,_,hu⟩:=mem_bitsL.1 hq
    obtain rfl : u=u':=by omega
    obtain rfl : j'=j:=(List.getElem?_inj (get_lt hj2) hr.nd).1 (by rw [hj2,hj'])
    obtain ⟨k,k1,k2⟩:=hs u hu
    exact ⟨k,k1,(natg k u).2 k2⟩
 have hpc : ∀ x,parC ms x=parC ns x:=fun x=>by unfold parC;rw [h.card]
 refine ⟨⟨hR,⟨hn.g1,by rw [fillL_len];exact hR.n1,fun y hy=>?_,?_,by rw [fillL_sets];exact hacy,fun y hy=>?_⟩,hul,fun u hu=>?_⟩,by show ms.length≤5;omega,fun v x hx hb=>?_,os,h.os3,h.osm,h.osp⟩
 ·obtain ⟨v,x,hx,rfl⟩:=fillL_mem hy
  rw [(fillN_card ..).1,(fillN_card ..).2,fillL_len]
  exact ⟨hcard x (List.mem_of_getElem? hx),hpl v x hx⟩
 ·rw [fillL_card]
  show prodL (cardsL ms)≤1024
  rw [h.card]
  exact hn.size
 ·obtain ⟨v,x,hx,rfl⟩:=fillL_mem hy
  have hcx:=hcard x (List.mem_of_getElem? hx)
  have hx' : ms[v]?=some x:=hx
  unfold NodeOk
  rw [parC_fill]
  by_cases hb : decs.testBit v=true
  ·rw [fillN_dec hx hb]
   have x1:=(hR.dec v x hx hb).1
   have hsm:=(parC_small (x:=x) (ns:=ms) hR.n1.2 (hpl v x hx) hcard).prod
   refine ⟨?_,fun q hq=>?_⟩
   ·show ((x.rows++decRows g ms (fun _ _=>0) _ x).length : Int)=prodL (parC ms x)
    rw [x1]
    simp only [decRows,List.nil_append,List.length_map,List.length_range,rowsN]
    omega
   ·rw [show ({ x with rows:=x.rows++decRows g ms (fun _ _=>0) (placeD decs v) x } : NodeP).rows=x.rows++decRows g ms (fun _ _=>0) (placeD decs v) x from rfl,x1,List.nil_append] at hq
    unfold decRows at hq
    obtain ⟨i,hi,rfl⟩:=List.mem_map.1 hq
    have:=hn.g1
    exact unitRow_ok (by show 0≤g;omega) ⟨Int.le_refl 0,by show (0 : Int)<x.card;omega⟩
  ·rw [fillN_no hb]
   have hb' : decs.testBit v=false:=by simpa using hb
   rw [h.old v hb'] at hx'
   have:=hn.rows x (List.mem_of_getElem? hx')
   unfold NodeOk at this
   show (x.rows.length : Int)=prodL (parC ms x)∧_
   rw [hpc]
   exact this
 ·have:=hus u hu
  exact ⟨by show PlacesOk u.vars ms.length;rw [hml];exact this.vars,by show _=prodL (atL (cardsL ms) u.vars);rw [h.card];exact this.size,this.w⟩
 ·have hx' : ms[v]?=some x:=hx
  rw [h.old v hb] at hx'
  exact rows_ne hn x (List.mem_of_getElem? hx')
end Go.Proofs
set_option linter.unusedSimpArgs false
set_option maxRecDepth 100000
namespace Go.Proofs
open Go.Hx
/-- The draft of a diagram. -/
structure D20 where
 g : Int
 ps : List DrP
 ord : List Int
 decs : Int
 rem : Bool
 us : List UtD
structure D20.Ok (d : D20) : Prop where
 g : U8 d.g
 ps : ∀ x∈d.ps,x.Ok
 pl : (d.ps.length : Int)<2 ^ 63
 ol : (d.ord.length : Int)<2 ^ 63
 o8 : ∀ x∈d.ord,U8 x
 decs : U8 d.decs
 us : ∀ u∈d.us,u.Ok
 ul : (d.us.length : Int)<2 ^ 63
def utC (us : List UtD) : List AVal:=(us.map UtD.cells).flatten
def D20.cells (d : D20) : List AVal:=[.lit (.int .u8 d.g),.vec d.ps.length (drC d.ps),.vec d.ord.length (bytesL d.ord),.lit (.int .u8 d.decs),.lit (.bool d.rem),.vec d.us.length (utC d.us)]
theorem utC_part {l : List UtD} {i : Nat} {x : UtD} (h : l[i]?=some x) : ((utC l).drop (i*2)).take 2=[.lit (.int .u8 x.vars),.vec x.w.length (i8L x.w)]:=flat_part (f:=UtD.cells) (z:=2) (fun _=>rfl) l i x h
theorem utC_0 {l : List UtD} {i : Nat} {x : UtD} (h : l[i]?=some x) : (utC l)[i*2]?=some (.lit (.int .u8 x.vars)):=flat_get (f:=UtD.cells) (z:=2) (fun _=>rfl) l i 0 x h (by omega)
theorem utC_ne {l : List UtD} {i : Nat} {x : UtD} (h : l[i]?=some x) : ¬ utC l=[]:=fun e=>by
 have:=utC_0 h;rw [e] at this;simp at this
/-- A node's parents and rows set anew. -/
theorem nodesE_two {l : List NodeP} {i : Nat} {x : NodeP} (p : List Int) (h : l[i]?=some x) : ((nodesE l).set (i*3+1) (vecI p)).set (i*3+2) (.lit (.slice none 0 0))=nodesE (l.set i ⟨x.card,p,[]⟩):=by
 have hl:=get_lt h
 have h1:=flat_set (f:=NodeP.cellsE) (z:=3) (fun _=>rfl) l i ⟨x.card,p,[]⟩ hl
 have h2:=flat_part (f:=NodeP.cellsE) (z:=3) (fun _=>rfl) l i x h
 unfold nodesE
 rw [h1]
 have h3 : (l.map NodeP.cellsE).flatten=((l.map NodeP.cellsE).flatten).take (i*3)++(x.cellsE++((l.map NodeP.cellsE).flatten).drop (i*3+3)):=by
  rw [← h2,← List.drop_drop,List.take_append_drop,List.take_append_drop]
 have hlen : (((l.map NodeP.cellsE).flatten).take (i*3)).length=i*3:=by
  rw [List.length_take,flat_len (f:=NodeP.cellsE) (z:=3) (fun _=>rfl)];omega
 conv=>lhs;rw [h3]
 rw [List.set_append_right _ _ (by omega),List.set_append_right _ _ (by omega),hlen,show i*3+1 - i*3=1 by omega,show i*3+2 - i*3=2 by omega]
 simp [NodeP.cellsE,rowsE]
theorem nodesE_eq {l : List NodeP} (h : ∀ x∈l,x.rows≠[]) : nodesE l=nodesC l:=by
 unfold nodesE nodesC
 congr 1
 exact List.map_congr_left fun x hx=>by unfold NodeP.cellsE NodeP.cells;rw [rowsE_ne (h x hx)]

theorem fzNet {H : AHeap} {nx N : Nat} {e : TypeId} {g : Int} {ms : List NodeP} (h : H.get N=some (.arr 0 e (nodesE ms))) : Fz (fun _=>True) H nx (.agg [lin g,.own N 0 0 ms.length 3]) (netV g ms):=by
 refine .agg rfl fun i hi _=>?_
 match i,hi with
 | 0,_=>exact .lit _
 | 1,_ =>
  refine .frz trivial h (nodesC_len ms) fun j hj h2 h'=>?_
  have e0 : (0 : Nat)+j=j:=Nat.zero_add j
  have h3 : j<(nodesE ms).length:=by omega
  have:=fz_nodesE (S:=fun _=>True) (H:=H) (nx:=nx) ms j h3 h'
  simpa only [e0] using this
theorem fz_utilsC {S : Nat→Prop} {H : AHeap} {nx : Nat} (l : List UtilP) : ∀ c∈utilsC l,Fz S H nx c c:=by
 intro c hc
 unfold utilsC at hc
 obtain ⟨r,hr,hc⟩:=List.mem_flatten.1 hc
 obtain ⟨x,_,rfl⟩:=List.mem_map.1 hr
 unfold UtilP.cells at hc
 simp only [List.mem_cons,List.not_mem_nil,or_false] at hc
 rcases hc with rfl|rfl<;>exact .keepInts _

set_option maxHeartbeats 4000000 in
theorem influence20_spec (d : D20) (hd : d.Ok) (H : AHeap) (K : ARes→AHeap→Prop) (hK : ∀ x,DrI d.rem x→K (.ret (infE x)) H) : ACall Try.prog G0 9 [.agg d.cells] H K:=by
 refine ACall.clo ⟨_,Try.func9,rfl,rfl⟩ fun hcl=>?_
 refine ACall.of_body (n:=128) (rs:=[.cell 2 39]) Try.func9 rfl rfl rfl (by decide) (by kernel_rfl) (by simp) ?_
 simp only [go_sem,Nat.reduceEqDiff,Nat.reduceAdd,Nat.reduceLeDiff,D20.cells,appendA_U]
 obtain ⟨H0,hH0⟩ : ∃ H0,H0=ext H [.arr 0 28 [.lit (.int .u8 d.g),.vec d.ps.length (drC d.ps),.vec d.ord.length (bytesL d.ord),.lit (.int .u8 d.decs),.lit (.bool d.rem),.vec d.us.length (utC d.us)],.arr 0 39 [.lit (.int .i64 0),.lit (.slice none 0 0),.lit (.int .u64 0),.lit (.slice none 0 0)]]:=⟨_,rfl⟩
 have g00 : H0.get H.next=some (.arr 0 28 [.lit (.int .u8 d.g),.vec d.ps.length (drC d.ps),.vec d.ord.length (bytesL d.ord),.lit (.int .u8 d.decs),.lit (.bool d.rem),.vec d.us.length (utC d.us)]):=by rw [hH0];exact get_ext0 ..
 have g01 : H0.get (H.next+1)=some (.arr 0 39 [.lit (.int .i64 0),.lit (.slice none 0 0),.lit (.int .u64 0),.lit (.slice none 0 0)]):=by rw [hH0];exact get_ext H _ 1 (by simp)
 have n0 : H0.next=H.next+2:=by rw [hH0];rfl
 have o0 : Over H H0:=by rw [hH0];exact .ext _ _
 rw [← hH0]
 clear hH0
 refine AApply.clo (net05_spec d.g d.ps d.ord hd.g hd.ps hd.pl hd.ol hd.o8 _ _ fun g ns N H' ov hN1 hN2 hget hnet h5 hp3=>⟨trivial,?_⟩)
 simp only [go_sem,Nat.reduceEqDiff,Nat.reduceAdd,Nat.reduceLT,Nat.reduceLeDiff,appendA_U]
 obtain ⟨B,hB⟩ : ∃ B,B=H'.next:=⟨_,rfl⟩
 rw [← hB]
 obtain ⟨H1,hH1⟩ : ∃ H1,H1=ext H' [.arr 0 64 [.lit (.int .i64 g),.own N 0 0 ns.length 3],.arr 0 39 [.lit (.int .i64 g),.own N 0 0 ns.length 3,.lit (.int .u64 0),.lit (.slice none 0 0)]]:=⟨_,rfl⟩
 have n1 : H1.next=B+2:=by rw [hH1,hB];rfl
 have ovn:=ov.next
 have g10 : H1.get H.next=some (.arr 0 28 [.lit (.int .u8 d.g),.vec d.ps.length (drC d.ps),.vec d.ord.length (bytesL d.ord),.lit (.int .u8 d.decs),.lit (.bool d.rem),.vec d.us.length (utC d.us)]):=by rw [hH1,get_ext_old _ _ _ (by omega),ov.old _ (by omega)];exact g00
 have g11 : H1.get (H.next+1)=some (.arr 0 39 [.lit (.int .i64 0),.lit (.slice none 0 0),.lit (.int .u64 0),.lit (.slice none 0 0)]):=by rw [hH1,get_ext_old _ _ _ (by omega),ov.old _ (by omega)];exact g01
 have gN : H1.get N=some (.arr 0 83 (nodesE ns)):=by rw [hH1,get_ext_old _ _ _ (by omega),nodesE_eq (rows_ne hnet)];exact hget
 have gB : H1.get B=some (.arr 0 64 [.lit (.int .i64 g),.own N 0 0 ns.length 3]):=by rw [hH1,hB];exact get_ext0 ..
 have gB1 : H1.get (B+1)=some (.arr 0 39 [.lit (.int .i64 g),.own N 0 0 ns.length 3,.lit (.int .u64 ((0 : Nat) : Int)),.lit (.slice none 0 0)]):=by rw [hH1,hB];exact get_ext H' _ 1 (by simp)
 have o1 : Over H H1:=by rw [hH1];exact (o0.trans ov).trans (.ext _ _)
 rw [← hH1]
 clear hH1 hget
 have hsl : (setsL ns).length=ns.length:=by simp [setsL]
 have hpr : ∀ x∈ns,(x.parents.length : Int)<2 ^ 39∧∀ q∈x.parents,0≤q∧q<(ns.length : Int):=fun x hx=>⟨by have:=hp3 x hx;omega,(hnet.node x hx).2.2⟩
 have hs8 : ∀ p∈setsL ns,p<2 ^ (setsL ns).length:=by rw [hsl];exact setsL_lt fun x hx=>(hpr x hx).2
 obtain ⟨r,hr⟩:=Option.isSome_iff_exists.1 ((topo_iff hs8 (by omega)).2 hnet.acyc)
 have hTR:=topoR (fun p h=>Nat.lt_of_lt_of_le (hs8 p h) (Nat.pow_le_pow_right (by decide) (by omega))) hr
 have hrl:=hTR.len
 rw [hsl] at hrl
 refine AApply.clo ((ACall.frame (H:=H1) (args:=[.agg [lin g,.own N 0 0 ns.length 3]]) (args':=[netV g ns]) (v':=vecI (natsI r)) G0_ok rfl (fun i hi _=>?_) (order20_own g ns (by omega) hpr r hr noH _ fun v H' _ ho=>⟨_,rfl,ho.freshI⟩)).mono fun rr H2 hrr=>?_)
 ·match i,hi with
  | 0,_=>exact fzNet gN
 obtain ⟨rfl,rfl⟩:=hrr
 refine ⟨trivial,?_⟩
 simp only [go_sem,Nat.reduceEqDiff,appendA_U]
 refine W.postWeak (Q':=fun e s2=>e=.exit 0∧∃ (i known decs : Nat) (os : List Nat) (ms : List NodeP),s2.ρ 1=.ptr H.next 0 0∧s2.ρ 2=.ptr (H.next+1) 0 0∧s2.ρ 3=.ptr B 0 0∧s2.ρ 4=.ptr (B+1) 0 0∧DrD ns r d.rem i known decs os ms∧H2.next≤s2.H.next∧(∀ id,id<H2.next→id≠N→id≠B+1→s2.H.get id=H2.get id)∧s2.H.get N=some (.arr 0 83 (nodesE ms)) ∧
  s2.H.get (B+1)=some (.arr 0 39 [.lit (.int .i64 g),.own N 0 0 ns.length 3,.lit (.int .u64 (decs : Int)),.lit (.slice none 0 0)])) ?_ ?_
 rotate_left
 ·rintro e s2 ⟨rfl,i,known,decs,os,ms,e1,e2,e3,e4,L,hnx,hold,hN,hB1⟩
  refine ⟨s2,.refl _,Nat.le_refl _,trivial,?_⟩
  obtain ⟨ρ2,Hy⟩:=s2
  dsimp only at e1 e2 e3 e4 hnx hold hN hB1
  simp only [go_sem,e1,e2,e3,e4,appendA_U]
  have hml:=L.len
  have hcd : ∀ x∈ms,1≤x.card∧x.card≤4:=fun x hx=>by
   obtain ⟨v,hv⟩:=List.mem_iff_getElem?.1 hx
   obtain ⟨y,hy⟩:=get_of_lt (l:=ns) (i:=v) (by have:=get_lt hv;omega)
   have h1 : (cardsL ms)[v]?=(cardsL ns)[v]?:=by rw [L.card]
   rw [cards_get hv,cards_get hy] at h1
   rw [Option.some.inj h1]
   exact (hnet.node y (List.mem_of_getElem? hy)).1
  have hn1:=hnet.n1
  obtain ⟨ut,hut⟩ : ∃ ut : List UtilP,ut=d.us.map fun u=>utilF u ms:=⟨_,rfl⟩
  refine W.loop0 170141163178059628080016879768632823808 (by rfl) (fun ρ Hu=>∃ (i : Nat) (uv : AVal),ρ 12=lin i∧i≤d.us.length∧i≤4∧Hy.next≤Hu.next∧(∀ id,id<Hy.next→id≠B+1→Hu.get id=Hy.get id)∧Hu.get (B+1)=some (.arr 0 39 [.lit (.int .i64 g),.own N 0 0 ns.length 3,.lit (.int .u64 (decs : Int)),uv])∧OwnZ Hy.next Hu 85 2 uv i (utilsC (ut.take i))) (fun ρ H=>d.us.length - (iv (ρ 12)).toNat) ?_ ?_
  ·simp only [go_sem,appendA_U]
   exact ⟨0,_,rfl,by omega,by omega,hB1,.nil⟩
  rintro ρ Hu ⟨i,uv,h12,hi,hi4,hnu,holdu,hBu,hO⟩
  refine W.env fun E hE=>?_
  have f1 : E 1=.ptr H.next 0 0:=by rw [hE];simp only [go_sem,Nat.reduceEqDiff,Nat.reducePow,Nat.reduceDiv,Nat.reduceMod,reduceCtorEq,e1,appendA_U]
  have f2 : E 2=.ptr (H.next+1) 0 0:=by rw [hE];simp only [go_sem,Nat.reduceEqDiff,Nat.reducePow,Nat.reduceDiv,Nat.reduceMod,reduceCtorEq,e2,appendA_U]
  have f3 : E 3=.ptr B 0 0:=by rw [hE];simp only [go_sem,Nat.reduceEqDiff,Nat.reducePow,Nat.reduceDiv,Nat.reduceMod,reduceCtorEq,e3,appendA_U]
  have f4 : E 4=.ptr (B+1) 0 0:=by rw [hE];simp only [go_sem,Nat.reduceEqDiff,Nat.reducePow,Nat.reduceDiv,Nat.reduceMod,reduceCtorEq,e4,appendA_U]
  have f12 : E 12=lin i:=by rw [hE];simp only [go_sem,Nat.reducePow,Nat.reduceDiv,Nat.reduceMod,h12,appendA_U]
  clear hE
  refine vc_sound _ _ _ (by rfl) ?_
  have uh : Hu.get H.next=_:=((holdu H.next (by omega) (by omega)).trans (hold H.next (by omega) (by omega) (by omega))).trans g10
  have l0:=get_live uh
  have lB:=get_live (((holdu B (by omega) (by omega)).trans (hold B (by omega) (by omega) (by omega))).trans gB)
  have lB1:=get_live hBu
  have hNu : Hu.get N=some (.arr 0 83 (nodesE ms)):=(holdu N (by omega) (by omega)).trans hN
  by_cases hb : (i : Int)<d.us.length∧(i : Int)<4
  ·obtain ⟨u,hu⟩:=get_of_lt (l:=d.us) (i:=i) (by omega)
   have huo:=hd.us u (List.mem_of_getElem? hu)
   have cne:=utC_ne hu
   have c0:=utC_part hu
   have cl : i*2+2≤(utC d.us).length:=by rw [show (utC d.us).length=d.us.length*2 from flat_len (f:=UtD.cells) (fun _=>rfl) _];omega
   have w1:=IntWalk.i64_in ((i : Int)+1) (by omega)
   have hpc : ∀ Hq,Hq.get N=some (.arr 0 83 (nodesE ms))→N<Hq.next→PCall Try.prog G0 (.clo 44 [] []) [.agg [.lit (.int .u8 u.vars),.vec u.w.length (i8L u.w)],.agg [.lit (.int .i64 g),.own N 0 0 ns.length 3]] Hq (.agg [vecI (utilF u ms).vars,vecI (utilF u ms).w]) [N]:=fun Hq hq hqn=>by
    refine PCall.mk (fun i hi=>by obtain rfl:=List.mem_singleton.1 hi;exact hqn) fun H2 h1 h2=>?_
    refine ACall.frame (H:=H2) (args:=[.agg u.cells,.agg [lin g,.own N 0 0 ns.length 3]]) (args':=[.agg u.cells,netV g ms]) (v':=.agg [vecI (utilF u ms).vars,vecI (utilF u ms).w]) G0_ok rfl (fun i hi _=>?_) (pieceOf_own u huo g ms (by omega) hcd noH _ fun v1 v2 H' _ o1 o2=>⟨_,rfl,.agg rfl fun i hi _=>?_⟩)
    ·match i,hi with
     | 0,_ =>
      refine .agg rfl fun i hi _=>?_
      match i,hi with
      | 0,_=>exact .lit _
      | 1,_ =>
       refine .vec rfl fun j hj _=>?_
       simp only [i8L,List.getElem_map]
       exact .lit _
     | 1,_=>rw [← hml];exact fzNet ((h1 N (by simp)).trans hq)
    ·match i,hi with
     | 0,_=>exact o1.freshI
     | 1,_=>exact o2.freshI
   obtain ⟨uv',Hj,hA,hO',hnj,hpj⟩:=app_oneZ (P:=Try.prog) (xs:=[vecI (utilF u ms).vars,vecI (utilF u ms).w]) Try.underlying37 Try.cells85 Try.zero85 rfl rfl (by rw [Try.bytes85];omega) hO hnu rfl
   simp only [vecI] at hA
   have keep : ∀ id,id<Hy.next→Hj.get id=Hu.get id:=fun id h=>hpj id (by omega) (hO.ne h)
   have lB1j:=get_live ((keep _ (by omega)).trans hBu)
   have hvc:=hO'.cells
   have hvo:=hO'.one
   simp only [go_sem,Nat.reduceEqDiff,Nat.reducePow,Nat.reduceDiv,Nat.reduceMod,f1,f3,f4,f12,l0,hb.1,hb.2,appendA_U]
   refine W.draw 10 [0,1,0,4,0,28,60,0,252,508] Try.mixed (by kernel_rfl) (by kernel_rfl) ?_
   simp only [go_sem,Nat.reduceEqDiff,Nat.reducePow,Nat.reduceDiv,Nat.reduceMod,Nat.reduceAdd,Nat.reduceMul,Nat.reduceLeDiff,reduceCtorEq,f1,f3,f4,f12,l0,lB,lB1,cne,c0,cl,hb.1]
   refine ⟨_,[N],hpc _ hNu (by omega),?_⟩
   simp only [go_sem,Nat.reduceEqDiff,Nat.reducePow,Nat.reduceDiv,Nat.reduceMod,Nat.reduceAdd,reduceCtorEq,f1,f3,f4,f12,l0,lB,lB1,cne,c0,cl,hb.1,hA,lB1j,hvc,hvo,w1]
   have hug : ut[i]?=some (utilF u ms):=by rw [hut,List.getElem?_map,hu];rfl
   have e2' : utilsC (ut.take (i+1))=utilsC (ut.take i)++[vecI (utilF u ms).vars,vecI (utilF u ms).w]:=by
    rw [take_succ_get hug]
    unfold utilsC
    rw [List.map_append,List.flatten_append]
    simp [UtilP.cells]
   refine ⟨⟨fun _ h=>by omega,fun _ h=>by omega⟩,by rw [upd_next];omega,⟨i+1,uv',rfl,by omega,by omega,by rw [upd_next];omega,fun id h1 h2=>by rw [upd_get,if_neg h2,keep _ h1];exact holdu id h1 h2,by rw [upd_get,if_pos rfl],?_⟩,by rw [h12];simp only [lin,iv_int];omega⟩
   rw [e2']
   exact hO'.keep (by rw [upd_next];omega) fun id gg h1 _ _=>by rw [upd_get,if_neg (by omega)]
  ·have fin : ∀ b,FinV Try.prog G0 H K (.agg [.lit (.int .i64 g),.own N 0 0 ns.length 3,.lit (.int .u64 (decs : Int)),uv]) (Hu.upd (H.next+1) b):=fun b=>by
    have o1n:=o1.next
    have ov2 : Over H (Hu.upd (H.next+1) b):=⟨by rw [upd_next];omega,fun id h=>by
     rw [upd_get,if_neg (by omega),holdu id (by omega) (by omega),hold id (by omega) (by omega) (by omega)]
     exact o1.old id h⟩
    have htl : (ut.take i).length=i:=by rw [List.length_take,hut,List.length_map];omega
    refine FinV.dropO (v':=infE ⟨g,ms,decs,ut.take i⟩) G0_ok hcl ov2 (.agg rfl fun j hj _=>?_) (hK _ (L.fin hnet hTR h5 (by omega) fun u hu=>?_))
    ·match j,hj with
     | 0,_=>exact .lit _
     | 1,_ =>
      show Fz _ _ _ (.own N 0 0 ns.length 3) (.vec ms.length (nodesE ms))
      rw [← hml]
      refine .frz (by omega) (show (Hu.upd (H.next+1) b).get N=some (.arr 0 83 (nodesE ms)) by rw [upd_get,if_neg (by omega)];exact hNu) (nodesE_len ms) fun j hj h2 h'=>?_
      have e0 : (0 : Nat)+j=j:=Nat.zero_add j
      have h3 : j<(nodesE ms).length:=by omega
      have:=fz_nodesE' (S:=fun id=>H.next≤id) (H:=Hu.upd (H.next+1) b) (nx:=H.next) ms _ (List.getElem_mem h3)
      simpa only [e0] using this
     | 2,_=>exact .lit _
     | 3,_ =>
      show Fz _ _ _ uv (.vec (ut.take i).length (utilsC (ut.take i)))
      rcases hO with ⟨h,hz,hc⟩|⟨id,gg,k1,k2,h,k4,k5⟩
      ·rw [h,hc,htl,hz]
       exact .nil
      ·rw [h,htl]
       refine .frz (by omega) (show (Hu.upd (H.next+1) b).get id=some (.arr gg 85 (utilsC (ut.take i))) by rw [upd_get,if_neg (by omega)];exact k5) k4 fun j hj h2 h'=>?_
       have e0 : (0 : Nat)+j=j:=Nat.zero_add j
       have h3 : j<(utilsC (ut.take i)).length:=by omega
       have:=fz_utilsC (S:=fun id=>H.next≤id) (H:=Hu.upd (H.next+1) b) (nx:=H.next) (ut.take i) _ (List.getElem_mem h3)
       simpa only [e0] using this
    ·have hu2:=List.mem_of_mem_take hu
     rw [hut] at hu2
     obtain ⟨p,hp,rfl⟩:=List.mem_map.1 hu2
     have:=utilF_ok p ms fun x hx=>(hcd x hx).1
     exact ⟨by have:=this.vars;rw [hml] at this;exact this,by have:=this.size;rw [L.card] at this;exact this,this.w⟩
   have lR : Hu.live (H.next+1) 0=_:=get_live (((holdu (H.next+1) (by omega) (by omega)).trans (hold (H.next+1) (by omega) (by omega) (by omega))).trans g11)
   have uvc:=hO.cells
   have uvo:=hO.one
   by_cases hb1 : (i : Int)<d.us.length
   ·have hb4 : ¬ (i : Int)<4:=fun h=>hb ⟨hb1,h⟩
    simp only [go_sem,Nat.reduceEqDiff,Nat.reducePow,Nat.reduceDiv,Nat.reduceMod,Nat.reduceAdd,f1,f2,f3,f4,f12,l0,lB1,lR,hb1,hb4,uvc,uvo,appendA_U]
    exact fin _
   ·simp only [go_sem,Nat.reduceEqDiff,Nat.reducePow,Nat.reduceDiv,Nat.reduceMod,Nat.reduceAdd,f1,f2,f3,f4,f12,l0,lB1,lR,hb1,uvc,uvo,appendA_U]
    exact fin _
 refine W.loop0 20282409603651670423947242901440 (by rfl) (fun ρ Hx=>∃ (i known decs : Nat) (os : List Nat) (ms : List NodeP),ρ 8=lin i∧i≤r.length∧ρ 6=bitV known∧ρ 7=lin os.length∧DrD ns r d.rem i known decs os ms∧H2.next≤Hx.next∧(∀ id,id<H2.next→id≠N→id≠B+1→Hx.get id=H2.get id)∧Hx.get N=some (.arr 0 83 (nodesE ms)) ∧
  Hx.get (B+1)=some (.arr 0 39 [.lit (.int .i64 g),.own N 0 0 ns.length 3,.lit (.int .u64 (decs : Int)),.lit (.slice none 0 0)])) (fun ρ H=>r.length - (iv (ρ 8)).toNat) ?_ ?_
 ·simp only [go_sem,Nat.reduceEqDiff,appendA_U]
  exact ⟨0,0,0,[],ns,rfl,by omega,rfl,rfl,.start ns r d.rem,gN,gB1⟩
 rintro ρ Hx ⟨i,known,decs,os,ms,h8,hi,h6,h7,L,hnx,hold,hN,hB1⟩
 refine W.env fun E hE=>?_
 have e1 : E 1=.ptr H.next 0 0:=by rw [hE];simp only [go_sem,Nat.reduceEqDiff,Nat.reducePow,Nat.reduceDiv,Nat.reduceMod,reduceCtorEq,appendA_U]
 have e2 : E 2=.ptr (H.next+1) 0 0:=by rw [hE];simp only [go_sem,Nat.reduceEqDiff,Nat.reducePow,Nat.reduceDiv,Nat.reduceMod,reduceCtorEq,appendA_U]
 have e3 : E 3=.ptr B 0 0:=by rw [hE];simp only [go_sem,Nat.reduceEqDiff,Nat.reducePow,Nat.reduceDiv,Nat.reduceMod,reduceCtorEq,appendA_U]
 have e4 : E 4=.ptr (B+1) 0 0:=by rw [hE];simp only [go_sem,Nat.reduceEqDiff,Nat.reducePow,Nat.reduceDiv,Nat.reduceMod,reduceCtorEq,appendA_U]
 have e5 : E 5=vecI (natsI r):=by rw [hE];simp only [go_sem,Nat.reduceEqDiff,Nat.reducePow,Nat.reduceDiv,Nat.reduceMod,reduceCtorEq,appendA_U]
 have e6 : E 6=bitV known:=by rw [hE];simp only [go_sem,Nat.reduceEqDiff,Nat.reducePow,Nat.reduceDiv,Nat.reduceMod,h6,appendA_U]
 have e7 : E 7=lin os.length:=by rw [hE];simp only [go_sem,Nat.reduceEqDiff,Nat.reducePow,Nat.reduceDiv,Nat.reduceMod,h7,appendA_U]
 have e8 : E 8=lin i:=by rw [hE];simp only [go_sem,Nat.reduceEqDiff,Nat.reducePow,Nat.reduceDiv,Nat.reduceMod,h8,appendA_U]
 clear hE
 refine vc_sound _ _ _ (by rfl) ?_
 have l0:=get_live ((hold H.next (by omega) (by omega) (by omega)).trans g10)
 have lB:=get_live ((hold B (by omega) (by omega) (by omega)).trans gB)
 have lB1:=get_live hB1
 have lN:=get_live hN
 have hrng:=hTR.rng
 rw [hsl] at hrng
 have hml:=L.len
 have natl : (natsI r).length=r.length:=by simp [natsI]
 have nat5 : ∀ {s : Nat},s<2 ^ ns.length→s<2 ^ 64:=fun h=>Nat.lt_of_lt_of_le h (Nat.pow_le_pow_right (by decide) (by omega))
 have hk64 : known<2 ^ 64:=nat5 (befs_lt hrng L.knownb)
 have hd64 : decs<2 ^ 64:=nat5 (befs_lt hrng L.decsb)
 by_cases hb : (i : Int)<r.length
 rotate_left
 ·simp only [go_sem,Nat.reduceEqDiff,Nat.reducePow,Nat.reduceDiv,Nat.reduceMod,e1,e2,e3,e4,e5,e6,e7,e8,natl,hb,appendA_U]
  exact ⟨i,known,decs,os,ms,L,hnx,hold,hN,hB1⟩
 by_cases h3 : os.length<3
 rotate_left
 ·have h3' : ¬ (os.length : Int)<3:=by omega
  simp only [go_sem,Nat.reduceEqDiff,Nat.reducePow,Nat.reduceDiv,Nat.reduceMod,e1,e2,e3,e4,e5,e6,e7,e8,natl,hb,h3',appendA_U]
  exact ⟨i,known,decs,os,ms,L,hnx,hold,hN,hB1⟩
 have h3' : (os.length : Int)<3:=by omega
 obtain ⟨v,hv⟩:=get_of_lt (l:=r) (i:=i) (by omega)
 have hvi : (natsI r)[i]?=some (v : Int):=by unfold natsI;rw [List.getElem?_map,hv];rfl
 have hvne:=ne_of_get hvi
 have hvn:=hrng v (List.mem_of_getElem? hv)
 have w1:=IntWalk.i64_in ((i : Int)+1) (by omega)
 obtain ⟨r1,hr1⟩ : ∃ r1,d.decs.fdiv (2 ^ (min ((i : Int)).toNat IntKind.u8.bits))=r1:=⟨_,rfl⟩
 obtain ⟨r2,hr2⟩ : ∃ r2,IntKind.u8.wrap (((BitVec.ofInt IntKind.u8.bits r1 &&& BitVec.ofInt IntKind.u8.bits 1).toNat : Nat) : Int)=r2:=⟨_,rfl⟩
 have s1 : ∀ t o1 o2,binA Try.prog .shr t o1 o2 (.lit (.int .u8 d.decs)) (.lit (.int .i64 (i : Int)))=some (.lit (.int .u8 r1)):=fun t o1 o2=>by rw [bin_shr (by omega),hr1]
 have s2 : ∀ t o1 o2,binA Try.prog .and t o1 o2 (.lit (.int .u8 r1)) (.lit (.int .u8 1))=some (.lit (.int .u8 r2)):=fun t o1 o2=>by rw [bin_and,hr2]
 by_cases hrz : r2=0
 ·simp only [go_sem,Nat.reduceEqDiff,Nat.reducePow,Nat.reduceDiv,Nat.reduceMod,e1,e2,e3,e4,e5,e6,e7,e8,natl,hb,h3',l0,hvi,hvne,s1,s2,hrz,w1,appendA_U]
  exact ⟨hnx,⟨i+1,known,decs,os,ms,rfl,by omega,rfl,rfl,L.skip,hnx,hold,hN,hB1⟩,by rw [h8];simp only [lin,iv_int];omega⟩
 obtain ⟨x,hx⟩:=get_of_lt (l:=ns) (i:=v) hvn
 have hdv:=(L.step hTR (by omega) h3 hv hx (s:=0) (fun i hi=>by simp at hi)).1
 have hmx : ms[v]?=some x:=by rw [L.old v hdv];exact hx
 have hxp:=hpr x (List.mem_of_getElem? hx)
 have hmp : ∀ y∈ms,(y.parents.length : Int)<2 ^ 39∧∀ q∈y.parents,0≤q∧q<64:=fun y hy=>by
  obtain ⟨u,hu⟩:=List.mem_iff_getElem?.1 hy
  cases hbu : decs.testBit u with
  | false =>
   rw [L.old u hbu] at hu
   obtain ⟨q1,q2⟩:=hpr y (List.mem_of_getElem? hu)
   exact ⟨q1,fun q hq=>by have:=q2 q hq;omega⟩
  | true =>
   obtain ⟨_,s,j,e,_⟩:=L.dec u y hu hbu
   rw [e]
   refine ⟨by have:=bitsL_len s 8;omega,fun q hq=>?_⟩
   obtain ⟨z,rfl,hz,_⟩:=mem_bitsL.1 hq
   omega
 have hset : ((setsL ms).map bitV)[v]?=some (bitV (setN x.parents)):=by rw [List.getElem?_map,setsL_get hmx];rfl
 have hsne:=ne_of_get hset
 have hmn : (setsL ms).length=ns.length:=by rw [← hml];simp [setsL]
 simp only [go_sem,Nat.reduceEqDiff,Nat.reducePow,Nat.reduceDiv,Nat.reduceMod,Nat.reduceAdd,e1,e2,e3,e4,e5,e6,e7,e8,natl,hb,h3',l0,lB,hvi,hvne,s1,s2,hrz,appendA_U]
 refine AApply.clo ((ACall.frame (H:=Hx) (args:=[.agg [lin g,.own N 0 0 ns.length 3]]) (args':=[netV g ms]) (v':=vecB (setsL ms)) G0_ok rfl (fun i hi _=>?_) (parentSets_own g ms (by omega) hmp noH _ fun v H' _ ho=>⟨_,rfl,freshB ho⟩)).mono fun rr Hz hrr=>?_)
 ·match i,hi with
  | 0,_=>rw [← hml];exact fzNet hN
 obtain ⟨rfl,rfl⟩:=hrr
 refine ⟨trivial,?_⟩
 have hvI : (v : Int)<ns.length:=by omega
 simp only [go_sem,Nat.reduceEqDiff,e1,e2,e3,e4,e5,e6,e7,e8,hset,hsne,hmn,hvI,appendA_U]
 have xs64 : setN x.parents<2 ^ 64:=nat5 (setN_lt hxp.2)
 refine W.loop0 9444732684264313719808 (by rfl) (fun ρ2 Hq=>Hq=Hz∧∃ k s : Nat,ρ2 11=lin k∧k≤x.parents.length∧ρ2 10=bitV s∧Sub s (setN x.parents)∧s<2 ^ 64) (fun ρ2 H=>x.parents.length - (iv (ρ2 11)).toNat) ?_ ?_
 ·simp only [go_sem,Nat.reduceEqDiff,Nat.reducePow,appendA_U]
  exact ⟨0,_,rfl,by omega,rfl,.refl _,xs64⟩
 rintro ρ2 Hq ⟨rfl,k,s,h11,hk,h10,hs,hs64⟩
 refine W.env fun E2 hE2=>?_
 have f1 : E2 1=.ptr H.next 0 0:=by rw [hE2];simp only [go_sem,Nat.reduceEqDiff,Nat.reducePow,Nat.reduceDiv,Nat.reduceMod,reduceCtorEq,e1,appendA_U]
 have f2 : E2 2=.ptr (H.next+1) 0 0:=by rw [hE2];simp only [go_sem,Nat.reduceEqDiff,Nat.reducePow,Nat.reduceDiv,Nat.reduceMod,reduceCtorEq,e2,appendA_U]
 have f3 : E2 3=.ptr B 0 0:=by rw [hE2];simp only [go_sem,Nat.reduceEqDiff,Nat.reducePow,Nat.reduceDiv,Nat.reduceMod,reduceCtorEq,e3,appendA_U]
 have f4 : E2 4=.ptr (B+1) 0 0:=by rw [hE2];simp only [go_sem,Nat.reduceEqDiff,Nat.reducePow,Nat.reduceDiv,Nat.reduceMod,reduceCtorEq,e4,appendA_U]
 have f5 : E2 5=vecI (natsI r):=by rw [hE2];simp only [go_sem,Nat.reduceEqDiff,Nat.reducePow,Nat.reduceDiv,Nat.reduceMod,reduceCtorEq,e5,appendA_U]
 have f6 : E2 6=bitV known:=by rw [hE2];simp only [go_sem,Nat.reduceEqDiff,Nat.reducePow,Nat.reduceDiv,Nat.reduceMod,reduceCtorEq,e6,appendA_U]
 have f7 : E2 7=lin os.length:=by rw [hE2];simp only [go_sem,Nat.reduceEqDiff,Nat.reducePow,Nat.reduceDiv,Nat.reduceMod,reduceCtorEq,e7,appendA_U]
 have f8 : E2 8=lin i:=by rw [hE2];simp only [go_sem,Nat.reduceEqDiff,Nat.reducePow,Nat.reduceDiv,Nat.reduceMod,reduceCtorEq,e8,appendA_U]
 have f9 : E2 9=lin v:=by rw [hE2];simp only [go_sem,Nat.reduceEqDiff,Nat.reducePow,Nat.reduceDiv,Nat.reduceMod,reduceCtorEq,appendA_U]
 have f10 : E2 10=bitV s:=by rw [hE2];simp only [go_sem,Nat.reduceEqDiff,Nat.reducePow,Nat.reduceDiv,Nat.reduceMod,h10,appendA_U]
 have f11 : E2 11=lin k:=by rw [hE2];simp only [go_sem,Nat.reduceEqDiff,Nat.reducePow,Nat.reduceDiv,Nat.reduceMod,h11,appendA_U]
 clear hE2
 refine vc_sound _ _ _ (by rfl) ?_
 have nne:=nodesE_ne hmx
 have nlen:=nodesE_len ms
 have n1v:=nodesE_1 hmx
 by_cases hb2 : (k : Int)<x.parents.length
 ·obtain ⟨q,hq⟩:=get_of_lt (l:=x.parents) (i:=k) (by omega)
  have hqr:=hxp.2 q (List.mem_of_getElem? hq)
  obtain ⟨u,rfl⟩:=Int.eq_ofNat_of_zero_le hqr.1
  have hqne:=ne_of_get hq
  have w2:=IntWalk.i64_in ((k : Int)+1) (by omega)
  by_cases hk2 : (k : Int) ≥ 2
  ·have s3:=fun t x y=>shlB (P:=Try.prog) (t:=t) (x:=x) (y:=y) (k':=.i64) (s:=u) (by omega)
   have s4:=fun t x y=>subB (P:=Try.prog) (t:=t) (x:=x) (y:=y) (a:=s) (b:=2 ^ u)
   simp only [go_sem,Nat.reduceEqDiff,Nat.reducePow,Nat.reduceDiv,Nat.reduceMod,f1,f3,f4,f5,f6,f7,f8,f9,f10,f11,lB1,lN,nne,n1v,hvI,hml,nlen,hb2,hk2,hq,hqne,w2,s3,s4,appendA_U]
   exact ⟨⟨k+1,subN s (2 ^ u),rfl,by omega,rfl,fun i hi=>by rw [subN_bit hs64,Bool.and_eq_true] at hi;exact hs i hi.1,subN_lt _ _⟩,by rw [h11];simp only [lin,iv_int];omega⟩
  ·simp only [go_sem,Nat.reduceEqDiff,Nat.reducePow,Nat.reduceDiv,Nat.reduceMod,f1,f3,f4,f5,f6,f7,f8,f9,f10,f11,lB1,lN,nne,n1v,hvI,hml,nlen,hb2,hk2,w2,appendA_U]
   exact ⟨⟨k+1,s,rfl,by omega,rfl,hs,hs64⟩,by rw [h11];simp only [lin,iv_int];omega⟩
 ·obtain ⟨s',hs'⟩ : ∃ s',s'=(if d.rem then s ||| known else s):=⟨_,rfl⟩
  have hsv:=L.step hTR (by omega) h3 hv hx hs
  rw [← hs'] at hsv
  obtain ⟨_,_,hslt,L2⟩:=hsv
  have s64:=nat5 hslt
  have b2v : (2 : Nat) ^ v<2 ^ 64:=Nat.pow_lt_pow_right (by decide) (by omega)
  have o1':=fun t x y=>orB (P:=Try.prog) (t:=t) (x:=x) (y:=y) hd64 b2v
  have o2':=fun t x y=>orB (P:=Try.prog) (t:=t) (x:=x) (y:=y) hk64 s64
  have o3':=fun t x y=>orB (P:=Try.prog) (t:=t) (x:=x) (y:=y) (Nat.or_lt_two_pow hk64 s64) b2v
  have o4':=fun t x y=>orB (P:=Try.prog) (t:=t) (x:=x) (y:=y) hs64 hk64
  have s6:=fun t x y=>shlB (P:=Try.prog) (t:=t) (x:=x) (y:=y) (k':=.i64) (s:=v) (by omega)
  have w3:=IntWalk.i64_in ((os.length : Int)+1) (by omega)
  have nse:=nodesE_two (bitsL s' 8) hmx
  have gone : ∀ b,(Hq.upd N b).live (B+1) 0=some (39,[.lit (.int .i64 g),.own N 0 0 ns.length 3,.lit (.int .u64 (decs : Int)),.lit (.slice none 0 0)]):=fun b=>(live_upd_other (by omega)).trans lB1
  have st1 : ∀ a,setAt (nodesE ms) (v*3+1) [a]=(nodesE ms).set (v*3+1) a:=fun a=>setAt_one (by omega)
  have st2 : ∀ a b,setAt ((nodesE ms).set (v*3+1) a) (v*3+2) [b]=((nodesE ms).set (v*3+1) a).set (v*3+2) b:=fun a b=>setAt_one (by rw [List.length_set];omega)
  have gone2 : ∀ b b',((Hq.upd N b).upd N b').live (B+1) 0=some (39,[.lit (.int .i64 g),.own N 0 0 ns.length 3,.lit (.int .u64 (decs : Int)),.lit (.slice none 0 0)]):=fun b b'=>(live_upd_other (by omega)).trans (gone b)
  simp only [vecI] at nse
  cases hrem : d.rem
  ·have es : s'=s:=by rw [hs',hrem];rfl
   subst es
   simp only [go_sem,Nat.reduceEqDiff,Nat.reducePow,Nat.reduceDiv,Nat.reduceMod,f1,f3,f4,f5,f6,f7,f8,f9,f10,f11,lB1,lN,nne,n1v,hvI,hml,nlen,hb2,l0,hrem,appendA_U]
   refine W.draw 5 [0,1,0,0,8] Try.mixed (by kernel_rfl) (by kernel_rfl) ?_
   simp only [go_sem,Nat.reduceEqDiff,Nat.reducePow,Nat.reduceDiv,Nat.reduceMod,Nat.reduceAdd,reduceCtorEq,f1,f3,f4,f5,f6,f7,f8,f9,f10,lB1,lN,nne,n1v,hvI,hml,nlen,gone,st1,st2,nse,appendA_U]
   refine ⟨vecI (bitsL s' 8),[],PCall.pure fun H2=>list20_spec s' s64 H2 _ ⟨rfl,rfl⟩,?_⟩
   simp only [go_sem,f1,f3,f4,f5,f6,f7,f8,f9,f10,lB1,lN,nne,n1v,hvI,hml,nlen,gone,st1,st2,nse,List.length_set,appendA_U]
   refine ⟨by omega,by omega,?_⟩
   refine W.draw 4 [0,1,0,4] Try.mixed (by kernel_rfl) (by kernel_rfl) ?_
   simp only [go_sem,Nat.reduceEqDiff,Nat.reducePow,Nat.reduceDiv,Nat.reduceMod,Nat.reduceAdd,Nat.reduceLeDiff,reduceCtorEq,f1,f3,f4,f5,f6,f7,f8,f9,f10,lB1,lN,nne,n1v,hvI,hml,nlen,gone2,s6,o1',o2',o3',w1,w3,appendA_U]
   refine ⟨by simp only [upd_next];omega,⟨i+1,known ||| s' ||| 2 ^ v,decs ||| 2 ^ v,os++[v],_,rfl,by omega,rfl,by simp,hrem ▸ L2,by simp only [upd_next];omega,fun id h1 h2 h3=>by simp only [upd_get];rw [if_neg h3,if_neg h2,if_neg h2];exact hold id h1 h2 h3,by rw [upd_get,if_neg (by omega),upd_get,if_pos rfl],by rw [upd_get,if_pos rfl]⟩,by rw [h8];simp only [lin,iv_int];omega⟩
  ·have es : s ||| known=s':=by rw [hs',hrem];rfl
   rw [es] at o4'
   simp only [go_sem,Nat.reduceEqDiff,Nat.reducePow,Nat.reduceDiv,Nat.reduceMod,f1,f3,f4,f5,f6,f7,f8,f9,f10,f11,lB1,lN,nne,n1v,hvI,hml,nlen,hb2,l0,hrem,o4',appendA_U]
   refine W.draw 5 [0,1,0,0,8] Try.mixed (by kernel_rfl) (by kernel_rfl) ?_
   simp only [go_sem,Nat.reduceEqDiff,Nat.reducePow,Nat.reduceDiv,Nat.reduceMod,Nat.reduceAdd,reduceCtorEq,f1,f3,f4,f5,f6,f7,f8,f9,f10,lB1,lN,nne,n1v,hvI,hml,nlen,gone,st1,st2,nse,appendA_U]
   refine ⟨vecI (bitsL s' 8),[],PCall.pure fun H2=>list20_spec s' s64 H2 _ ⟨rfl,rfl⟩,?_⟩
   simp only [go_sem,f1,f3,f4,f5,f6,f7,f8,f9,f10,lB1,lN,nne,n1v,hvI,hml,nlen,gone,st1,st2,nse,List.length_set,appendA_U]
   refine ⟨by omega,by omega,?_⟩
   refine W.draw 4 [0,1,0,4] Try.mixed (by kernel_rfl) (by kernel_rfl) ?_
   simp only [go_sem,Nat.reduceEqDiff,Nat.reducePow,Nat.reduceDiv,Nat.reduceMod,Nat.reduceAdd,Nat.reduceLeDiff,reduceCtorEq,f1,f3,f4,f5,f6,f7,f8,f9,f10,lB1,lN,nne,n1v,hvI,hml,nlen,gone2,s6,o1',o2',o3',w1,w3,appendA_U]
   refine ⟨by simp only [upd_next];omega,⟨i+1,known ||| s' ||| 2 ^ v,decs ||| 2 ^ v,os++[v],_,rfl,by omega,rfl,by simp,hrem ▸ L2,by simp only [upd_next];omega,fun id h1 h2 h3=>by simp only [upd_get];rw [if_neg h3,if_neg h2,if_neg h2];exact hold id h1 h2 h3,by rw [upd_get,if_neg (by omega),upd_get,if_pos rfl],by rw [upd_get,if_pos rfl]⟩,by rw [h8];simp only [lin,iv_int];omega⟩
end Go.Proofs
/-
  What the laws of this chapter have in common at their doors: the parameters. No conditions.
-/
set_option linter.unusedSimpArgs false
set_option maxRecDepth 100000
namespace Go.Proofs.Ytcccmbeolcjacaa
open Go.ChangeShapes Go.WideShapes Go.ChangeAt Go.RowKit Go.Hx

theorem Try.own : ownKnob Try.prog.godebug=none:=by kernel_rfl
theorem Try.laidOut : laidOutB Try.prog=true:=by kernel_rfl
theorem Try.boolT : Try.prog.underlying 4=some .bool:=by kernel_rfl
section
variable {W : World} {H : Type} {enc : TypeId × Value→H} {spare : Nat→Bool} {held : Bool}
theorem max63 {n : Nat} (h : n≤maxLen) : (n : Int)<2 ^ 63:=by
 have : maxLen=9223372036854775807:=by decide
 omega
theorem wfU {n : Int} (h : (Lit.int .u8 n).wf=true) : U8 n:=by
 have:=wf_u8 h
 unfold U8;omega
theorem opens_DrP : Opens enc Try.prog W spare held 142 fun _ zs=>∃ x : DrP,zs=x.cells∧x.Ok:=by
 have hu:=Try.underlying142
 have c1:=Try.cells5
 have c2:=Try.cells23
 refine (opens_struct (φ:=fun i _ xs=>if i=2 then ∃ l : List Int,xs=[.vec l.length (intL .u8 l)]∧l.length≤maxLen∧∀ c,c∈l→(Lit.int .u8 c).wf=true else ∃ n,xs=[.lit (.int .u8 n)]∧(Lit.int .u8 n).wf=true) hu
  (fun cs hcs=>by
   have hc : Try.prog.cellsOf 142=3:=by kernel_rfl
   rw [hc] at hcs
   match cs,hcs with
   | [a,b,c],_=>simp [c1,c2])
  (fun i hi=>match i,hi with
   | 0,_=>(opens_int Try.underlying5).mono fun _ _ ⟨n,_,h,w⟩=>⟨n,h,w⟩
   | 1,_=>(opens_int Try.underlying5).mono fun _ _ ⟨n,_,h,w⟩=>⟨n,h,w⟩
   | 2,_=>(opens_ints Try.underlying23 Try.underlying5 c1).mono fun _ _ h=>h)).mono fun d zs ⟨ds,rows,_,e,hl1,hl2,hall⟩=>?_
 match rows,ds,hl2,hl1,hall with
 | [x,y,z],[d0,d1,d2],_,_,hall =>
  obtain ⟨n0,e0,w0⟩:=hall 0 (by simp) (by simp)
  obtain ⟨n1,e1,w1⟩:=hall 1 (by simp) (by simp)
  obtain ⟨l,e2,w2,w3⟩:=hall 2 (by simp) (by simp)
  simp only [List.getElem_cons_zero,List.getElem_cons_succ] at e0 e1 e2
  subst e0;subst e1;subst e2
  refine ⟨⟨n0,n1,l⟩,by rw [e];rfl,?_⟩
  exact ⟨wfU w0,wfU w1,max63 w2,fun c hc=>wfU (w3 c hc)⟩
theorem wf_i8 {n : Int} (h : (Lit.int .i8 n).wf=true) : I8 n:=by
 have : -128≤n∧n≤127:=by simpa [Lit.wf,IntKind.min,IntKind.max,IntKind.signed,IntKind.bits] using h
 unfold I8;omega
theorem opens_UtD : Opens enc Try.prog W spare held 103 fun _ zs=>∃ x : UtD,zs=x.cells∧x.Ok:=by
 have hu:=Try.underlying103
 have c1:=Try.cells5
 have c2:=Try.cells101
 have c3:=Try.cells145
 refine (opens_struct (φ:=fun i _ xs=>if i=1 then ∃ l : List Int,xs=[.vec l.length (intL .i8 l)]∧l.length≤maxLen∧∀ c,c∈l→(Lit.int .i8 c).wf=true else ∃ n,xs=[.lit (.int .u8 n)]∧(Lit.int .u8 n).wf=true) hu
  (fun cs hcs=>by
   have hc : Try.prog.cellsOf 103=2:=by kernel_rfl
   rw [hc] at hcs
   match cs,hcs with
   | [a,b],_=>simp [c1,c2])
  (fun i hi=>match i,hi with
   | 0,_=>(opens_int Try.underlying5).mono fun _ _ ⟨n,_,h,w⟩=>⟨n,h,w⟩
   | 1,_=>(opens_ints Try.underlying101 Try.underlying145 c3).mono fun _ _ h=>h)).mono fun d zs ⟨ds,rows,_,e,hl1,hl2,hall⟩=>?_
 match rows,ds,hl2,hl1,hall with
 | [x,y],[d0,d1],_,_,hall =>
  obtain ⟨n0,e0,w0⟩:=hall 0 (by simp) (by simp)
  obtain ⟨l,e2,w2,w3⟩:=hall 1 (by simp) (by simp)
  simp only [List.getElem_cons_zero,List.getElem_cons_succ] at e0 e2
  subst e0;subst e2
  refine ⟨⟨n0,l⟩,by rw [e];rfl,?_⟩
  exact ⟨wfU w0,max63 w2,fun c hc=>wf_i8 (w3 c hc)⟩
/-- A slice of structs. -/
theorem opens_of {α : Type} {t e : TypeId} {f : α→List AVal} {q : α→Prop} (ht : Try.prog.underlying t=some (.slice e)) (hz : 0<Try.prog.cellsOf e) (he : Opens enc Try.prog W spare held e fun _ zs=>∃ x : α,zs=f x∧q x) :
  Opens enc Try.prog W spare held t fun _ zs=>∃ l : List α,zs=[.vec l.length (l.map f).flatten]∧l.length≤maxLen∧∀ x∈l,q x :=
 (opens_slice ht hz he).mono fun d zs h=>by
  rcases h with ⟨_,rfl⟩|⟨ds,rest,rows,_,rfl,hr,_,hl⟩
  ·exact ⟨[],rfl,Nat.zero_le _,fun c h=>by cases h⟩
  ·obtain ⟨l,rfl,hq⟩:=rows_each (f:=f) (q:=q) (fun d zs h=>h) hr
   exact ⟨l,by rw [List.length_map],by simpa using hl,hq⟩
theorem opens_D05 : Opens enc Try.prog W spare held 25 fun _ zs=>∃ (g : Int) (ps : List DrP) (ord : List Int),zs=[.lit (.int .u8 g),.vec ps.length (drC ps),.vec ord.length (bytesL ord)]∧U8 g∧(∀ x∈ps,x.Ok)∧(ps.length : Int)<2 ^ 63∧(ord.length : Int)<2 ^ 63∧∀ x∈ord,U8 x:=by
 have hu:=Try.underlying25
 have c1:=Try.cells5
 have c2:=Try.cells23
 have c3:=Try.cells22
 have c4:=Try.cells142
 refine (opens_struct (φ:=fun i _ xs=>if i=2 then ∃ l : List Int,xs=[.vec l.length (intL .u8 l)]∧l.length≤maxLen∧∀ c,c∈l→(Lit.int .u8 c).wf=true else if i=1 then ∃ l : List DrP,xs=[.vec l.length (l.map DrP.cells).flatten]∧l.length≤maxLen∧∀ x∈l,x.Ok else ∃ n,xs=[.lit (.int .u8 n)]∧(Lit.int .u8 n).wf=true) hu
  (fun cs hcs=>by
   have hc : Try.prog.cellsOf 25=3:=by kernel_rfl
   rw [hc] at hcs
   match cs,hcs with
   | [a,b,c],_=>simp [c1,c2,c3])
  (fun i hi=>match i,hi with
   | 0,_=>(opens_int Try.underlying5).mono fun _ _ ⟨n,_,h,w⟩=>⟨n,h,w⟩
   | 1,_=>(opens_of Try.underlying22 (by rw [c4];decide) opens_DrP).mono fun _ _ h=>h
   | 2,_=>(opens_ints Try.underlying23 Try.underlying5 c1).mono fun _ _ h=>h)).mono fun d zs ⟨ds,rows,_,e,hl1,hl2,hall⟩=>?_
 match rows,ds,hl2,hl1,hall with
 | [x,y,z],[d0,d1,d2],_,_,hall =>
  obtain ⟨n0,e0,w0⟩:=hall 0 (by simp) (by simp)
  obtain ⟨ps,e1,w1,w1'⟩:=hall 1 (by simp) (by simp)
  obtain ⟨l,e2,w2,w3⟩:=hall 2 (by simp) (by simp)
  simp only [List.getElem_cons_zero,List.getElem_cons_succ] at e0 e1 e2
  subst e0;subst e1;subst e2
  exact ⟨n0,ps,l,by rw [e];rfl,wfU w0,w1',max63 w1,max63 w2,fun c hc=>wfU (w3 c hc)⟩
theorem opens_D20 : Opens enc Try.prog W spare held 28 fun _ zs=>∃ d : D20,zs=d.cells∧d.Ok:=by
 have hu:=Try.underlying28
 have c1:=Try.cells5
 have c2:=Try.cells4
 have c3:=Try.cells25
 have c4:=Try.cells26
 have c5:=Try.cells103
 refine (opens_struct (φ:=fun i _ xs=>if i=0 then ∃ (g : Int) (ps : List DrP) (ord : List Int),xs=[.lit (.int .u8 g),.vec ps.length (drC ps),.vec ord.length (bytesL ord)]∧U8 g∧(∀ x∈ps,x.Ok)∧(ps.length : Int)<2 ^ 63∧(ord.length : Int)<2 ^ 63∧∀ x∈ord,U8 x
   else if i=1 then ∃ n,xs=[.lit (.int .u8 n)]∧(Lit.int .u8 n).wf=true else if i=2 then ∃ b,xs=[.lit (.bool b)] else ∃ l : List UtD,xs=[.vec l.length (l.map UtD.cells).flatten]∧l.length≤maxLen∧∀ x∈l,x.Ok) hu
  (fun cs hcs=>by
   have hc : Try.prog.cellsOf 28=6:=by kernel_rfl
   rw [hc] at hcs
   match cs,hcs with
   | [a,b,c,d,e,f],_=>simp [c1,c2,c3,c4])
  (fun i hi=>match i,hi with
   | 0,_=>opens_D05.mono fun _ _ h=>h
   | 1,_=>(opens_int Try.underlying5).mono fun _ _ ⟨n,_,h,w⟩=>⟨n,h,w⟩
   | 2,_=>(opens_bool Try.underlying4).mono fun _ _ ⟨n,_,h⟩=>⟨n,h⟩
   | 3,_=>(opens_of Try.underlying26 (by rw [c5];decide) opens_UtD).mono fun _ _ h=>h)).mono fun d zs ⟨ds,rows,_,e,hl1,hl2,hall⟩=>?_
 match rows,ds,hl2,hl1,hall with
 | [x,y,z,u],[d0,d1,d2,d3],_,_,hall =>
  obtain ⟨g,ps,ord,e0,w0,w0',w0'',w0''',w04⟩:=hall 0 (by simp) (by simp)
  obtain ⟨n1,e1,w1⟩:=hall 1 (by simp) (by simp)
  obtain ⟨b,e2⟩:=hall 2 (by simp) (by simp)
  obtain ⟨us,e3,w3,w3'⟩:=hall 3 (by simp) (by simp)
  simp only [List.getElem_cons_zero,List.getElem_cons_succ] at e0 e1 e2 e3
  subst e0;subst e1;subst e2;subst e3
  exact ⟨⟨g,ps,ord,n1,b,us⟩,by rw [e];rfl,⟨w0,w0',w0'',w0''',w04,wfU w1,w3',max63 w3⟩⟩
theorem arg_d20 {r : Reach} {b : Nat} {v : Value} {d : DataW H} {ps : List MemPlace} (hval : Value.okWide Try.prog W r b 28 v) (hd : DataW.Trod enc Try.prog W 0 spare held 28 v d ps) :
  ∃ x : D20,RelV Try.prog noG noH W (.agg x.cells) v∧x.Ok:=by
 obtain ⟨xs,h1,x,rfl,h2⟩:=arg_agg opens_D20 (.inl ⟨_,Try.underlying28⟩) hval hd
 exact ⟨x,h1,h2⟩
theorem arg_bytes {r : Reach} {b : Nat} {v : Value} {d : DataW H} {ps : List MemPlace} (hval : Value.okWide Try.prog W r b 23 v) (hd : DataW.Trod enc Try.prog W 0 spare held 23 v d ps) :
  ∃ l : List Int,RelV Try.prog noG noH W (.vec l.length (bytesL l)) v∧(l.length : Int)<2 ^ 63∧∀ x∈l,U8 x:=by
 obtain ⟨l,h1,h2,h3⟩:=arg_ints Try.underlying23 Try.underlying5 Try.cells5 hval hd
 exact ⟨l,h1,max63 h2,fun c hc=>wfU (h3 c hc)⟩
end
end Go.Proofs.Ytcccmbeolcjacaa
set_option linter.unusedSimpArgs false
set_option maxRecDepth 100000
namespace Go.Hx
variable {P : Program} {G : Nat→Option (List AVal)}
/-- All blocks from one on let go, one block's cells read off. -/
def AHeap.meltN (H : AHeap) (n ob : Nat) (b : Blk) : AHeap:=⟨fun id=>if n≤id then none else if id=ob then some b else H.get id,H.next⟩
theorem meltN_ob {H : AHeap} {n ob : Nat} {b : Blk} (h : ob<n) : (H.meltN n ob b).get ob=some b:=by simp [AHeap.meltN,Nat.not_le.2 h]
theorem meltN_other {H : AHeap} {n ob id : Nat} {b : Blk} (h : id<n) (h2 : id≠ob) : (H.meltN n ob b).get id=H.get id:=by simp [AHeap.meltN,Nat.not_le.2 h,h2]
theorem fzH_meltN {H : AHeap} (hc : Clo H) {n ob g : Nat} {e : TypeId} {cells cells' : List AVal} (hob : H.get ob=some (.arr g e cells)) (hlt : ob<n) (hl : cells'.length=cells.length)
  (hcell : ∀ i (h : i<cells.length) (h' : i<cells'.length),Fz (fun id=>n≤id) H H.next cells[i] cells'[i]) : FzH (fun id=>n≤id) H (H.meltN n ob (.arr g e cells')) where
 gone id hs:=by simp [AHeap.meltN,hs]
 kept id b hs hb:=by
  have hbb:=hc.below id b hb
  refine ⟨hc.lt id b hb,?_⟩
  by_cases h : id=ob
  ·subst h
   rw [hob] at hb
   cases hb
   exact ⟨.arr g e cells',by simp [AHeap.meltN,hs],rfl,rfl,hl,hcell⟩
  ·refine ⟨b,by simp [AHeap.meltN,hs,h,hb],?_⟩
   cases b with
   | rsv=>trivial
   | mp=>rfl
   | arr g e cells=>exact ⟨rfl,rfl,rfl,fun i h _=>.dead (hbb i h)⟩
   | loop st pend n env ps asg body=>exact ⟨rfl,rfl,rfl,rfl,rfl,rfl,rfl,fun t ht=>.dead (hbb t ht)⟩
 none id hs hb:=by
  by_cases h : id=ob
  ·subst h;rw [hob] at hb;cases hb
  ·simp [AHeap.meltN,hs,h,hb]
theorem WeakS.meltN (hG : GOk G) {s : St} {n ob g : Nat} {e : TypeId} {cells cells' : List AVal} (hob : s.H.get ob=some (.arr g e cells)) (hlt : ob<n) (hl : cells'.length=cells.length)
  (hcell : ∀ i (h : i<cells.length) (h' : i<cells'.length),Fz (fun id=>n≤id) s.H s.H.next cells[i] cells'[i]) : WeakS P G s ⟨s.ρ,s.H.meltN n ob (.arr g e cells')⟩:=by
 intro n' wb Γ a w hs
 exact WeakS.freeze (s:=s) (s':=⟨s.ρ,s.H.meltN n ob (.arr g e cells')⟩) hG (fzH_meltN hs.heap.clo hob hlt hl hcell) (fun t=>.dead (hs.env t).belowN) n' wb Γ a w hs
theorem OwnG2.upd {lo : Nat} {H : AHeap} {e1 e0 : TypeId} {v : AVal} {rows : List (List AVal)} (h : OwnG2 lo H e1 e0 v rows) {k : Nat} {b : Blk} (hk : k<lo) : OwnG2 lo (H.upd k b) e1 e0 v rows:=by
 obtain ⟨cs,c1,c2,c3⟩:=h
 refine ⟨cs,c1.keep (Nat.le_refl _) (by rw [upd_next];exact Nat.le_refl _) fun id _ h1 _ _ _=>by rw [upd_get,if_neg (by omega)],c2,fun j r c hr hc=>(c3 j r c hr hc).keep (Nat.le_refl _) (by rw [upd_next];exact Nat.le_refl _) fun id _ h1 _ _ _=>by rw [upd_get,if_neg (by omega)]⟩
end Go.Hx
namespace Go.Proofs
open Go.Hx
def rowStep (ns : List NodeP) (acc q : Int) : Int:=if 0≤q∧q<ns.length∧acc≤1024 then acc*max 1 (min ((cardsL ns).getD q.toNat 0) 4) else acc
def rowsR (ns : List NodeP) (ps : List Int) : Int:=ps.foldl (rowStep ns) 1
def fillRN (d : InfP) (v : Nat) (x : NodeP) : NodeP:=if d.decs.testBit v=true∧x.rows=[]∧1≤x.card∧x.card≤4 then { x with rows:=List.replicate (rowsR d.nodes x.parents).toNat (unitRow d.grain x.card 0) } else x
def fillR (d : InfP) : List NodeP:=d.nodes.zipIdx.map fun p=>fillRN d p.2 p.1
theorem fillR_len (d : InfP) : (fillR d).length=d.nodes.length:=by simp [fillR]
theorem fillR_get {d : InfP} {v : Nat} {x : NodeP} (h : d.nodes[v]?=some x) : (fillR d)[v]?=some (fillRN d v x):=by
 unfold fillR;rw [List.getElem?_map,List.getElem?_zipIdx,h];simp
theorem rowStep_rng {ns : List NodeP} {a q : Int} (h : 1≤a∧a≤4096) : 1≤rowStep ns a q∧rowStep ns a q≤4096:=by
 unfold rowStep
 split
 ·rename_i hc
  generalize hm : max 1 (min ((cardsL ns).getD q.toNat 0) 4)=m
  have h1 : 1≤m∧m≤4:=by omega
  have h2 : a*1≤a*m:=Int.mul_le_mul_of_nonneg_left h1.1 (by omega)
  have h3 : a*m≤1024*4:=Int.mul_le_mul hc.2.2 h1.2 (by omega) (by omega)
  omega
 ·exact h
theorem rowsR_rng (ns : List NodeP) (ps : List Int) : 1≤rowsR ns ps∧rowsR ns ps≤4096:=by
 have : ∀ (l : List Int) (a : Int),1≤a∧a≤4096→1≤l.foldl (rowStep ns) a∧l.foldl (rowStep ns) a≤4096:=by
  intro l
  induction l with
  | nil=>exact fun a h=>h
  | cons q l ih=>exact fun a h=>ih _ (rowStep_rng h)
 exact this ps 1 (by omega)
theorem rowsR_snoc (ns : List NodeP) (l : List Int) (q : Int) : rowsR ns (l++[q])=rowStep ns (rowsR ns l) q:=by unfold rowsR;rw [List.foldl_append];rfl
theorem rowsR_eq {ns : List NodeP} {x : NodeP} (hin : InRange x.parents ns.length) (hc : ∀ y∈ns,1≤y.card∧y.card≤4) (hp : prodL (parC ns x)≤1024) : rowsR ns x.parents=prodL (parC ns x):=by
 have key : ∀ k,k≤x.parents.length→rowsR ns (x.parents.take k)=prodL ((parC ns x).take k):=by
  intro k
  induction k with
  | zero=>intro _;rfl
  | succ k ih =>
   intro hk
   obtain ⟨q,hq⟩:=get_of_lt (l:=x.parents) (i:=k) (by omega)
   have hqr:=hin q (List.mem_of_getElem? hq)
   have hcq : (parC ns x)[k]?=some ((cardsL ns).getD q.toNat 0):=by unfold parC atL;rw [List.getElem?_map,hq];rfl
   rw [take_succ_get hq,take_succ_get hcq,rowsR_snoc,prodL_snoc,ih (by omega)]
   have hm:=parC_mem hin hc _ (List.mem_of_getElem? hcq)
   have hle : prodL ((parC ns x).take k)≤1024:=by
    have h1 : prodL ((parC ns x).take k)*prodL ((parC ns x).drop k)=prodL (parC ns x):=by rw [← prodL_app,List.take_append_drop]
    have h2:=prodL_pos (l:=(parC ns x).take k) fun c h=>(parC_mem hin hc c (List.mem_of_mem_take h)).1
    have h3:=prodL_pos (l:=(parC ns x).drop k) fun c h=>(parC_mem hin hc c (List.mem_of_mem_drop h)).1
    have h4 : prodL ((parC ns x).take k)*1≤prodL ((parC ns x).take k)*prodL ((parC ns x).drop k):=Int.mul_le_mul_of_nonneg_left h3 (by omega)
    omega
   unfold rowStep
   rw [if_pos ⟨hqr.1,hqr.2,hle⟩]
   congr 1
   omega
 have:=key x.parents.length (Nat.le_refl _)
 rw [List.take_of_length_le (Nat.le_refl _),List.take_of_length_le (by rw [show (parC ns x).length=_ from atL_len _ _];exact Nat.le_refl _)] at this
 exact this

set_option maxHeartbeats 4000000 in
theorem filled20_spec (d : InfP) (hf : InfFit d) (H : AHeap) (K : ARes→AHeap→Prop) (hK : K (.ret (netV d.grain (fillR d))) H) : ACall Try.prog G0 54 [infE d] H K:=by
 refine ACall.clo ⟨_,Try.func54,rfl,rfl⟩ fun hcl=>?_
 have hl:=hf.nodes.1
 refine ACall.of_body (n:=106) (rs:=[.cell 2 64]) Try.func54 rfl rfl rfl (by decide) (by kernel_rfl) (by simp) ?_
 simp only [go_sem,Nat.reduceEqDiff,Nat.reduceAdd,Nat.reduceLT,Nat.reduceLeDiff,infE_eq,infEC,appendA_U]
 obtain ⟨Hb,hHb⟩ : ∃ Hb,Hb=ext H [.arr 0 39 [.lit (.int .i64 d.grain),.vec d.nodes.length (nodesE d.nodes),.lit (.int .u64 (d.decs : Int)),.vec d.utils.length (utilsC d.utils)],.arr 0 64 [.lit (.int .i64 0),.lit (.slice none 0 0)],.arr 0 64 [.lit (.int .i64 d.grain),.lit (.slice none 0 0)]]:=⟨_,rfl⟩
 rw [← hHb]
 have g0 : Hb.get H.next=some (.arr 0 39 [.lit (.int .i64 d.grain),.vec d.nodes.length (nodesE d.nodes),.lit (.int .u64 (d.decs : Int)),.vec d.utils.length (utilsC d.utils)]):=by rw [hHb];exact get_ext0 ..
 have g1 : Hb.get (H.next+1)=some (.arr 0 64 [.lit (.int .i64 0),.lit (.slice none 0 0)]):=by rw [hHb];exact get_ext H _ 1 (by simp)
 have g2 : Hb.get (H.next+2)=some (.arr 0 64 [.lit (.int .i64 d.grain),.lit (.slice none 0 0)]):=by rw [hHb];exact get_ext H _ 2 (by simp)
 have nb : Hb.next=H.next+3:=by rw [hHb];rfl
 have ob : Over H Hb:=by rw [hHb];exact .ext _ _
 clear hHb
 refine W.loop0 40564819207303340847894502557680 (by rfl) (fun ρ Hx=>∃ (k : Nat) (nh : AVal),ρ 4=lin k∧k≤d.nodes.length∧Hb.next≤Hx.next∧(∀ id,id<H.next+2→Hx.get id=Hb.get id)∧Hx.get (H.next+2)=some (.arr 0 64 [.lit (.int .i64 d.grain),nh])∧OwnZ (H.next+3) Hx 83 3 nh k (nodesE ((fillR d).take k))) (fun ρ H=>d.nodes.length - (iv (ρ 4)).toNat) ?_ ?_
 ·simp only [go_sem,Nat.reduceEqDiff,appendA_U]
  exact ⟨0,_,rfl,by omega,g2,.nil⟩
 rintro ρ Hx ⟨k,nh,h4,hk,hnx,hold,hbn,hO⟩
 refine W.env fun E hE=>?_
 have e1 : E 1=.ptr H.next 0 0:=by rw [hE];simp only [go_sem,Nat.reduceEqDiff,Nat.reducePow,Nat.reduceDiv,Nat.reduceMod,reduceCtorEq,appendA_U]
 have e2 : E 2=.ptr (H.next+1) 0 0:=by rw [hE];simp only [go_sem,Nat.reduceEqDiff,Nat.reducePow,Nat.reduceDiv,Nat.reduceMod,reduceCtorEq,appendA_U]
 have e3 : E 3=.ptr (H.next+2) 0 0:=by rw [hE];simp only [go_sem,Nat.reduceEqDiff,Nat.reducePow,Nat.reduceDiv,Nat.reduceMod,reduceCtorEq,appendA_U]
 have e4 : E 4=lin k:=by rw [hE];simp only [go_sem,Nat.reduceEqDiff,Nat.reducePow,Nat.reduceDiv,Nat.reduceMod,h4,appendA_U]
 clear hE
 refine vc_sound _ _ _ (by rfl) ?_
 have l0:=get_live ((hold H.next (by omega)).trans g0)
 by_cases hb : (k : Int)<d.nodes.length
 ·obtain ⟨x,hx⟩:=get_of_lt (l:=d.nodes) (i:=k) (by omega)
  obtain ⟨f1,f2,f3⟩:=hf.nodes.2 x (List.mem_of_getElem? hx)
  have hne:=nodesE_ne hx
  have c0:=nodesE_part hx
  have c1 : k*3+3≤(nodesE d.nodes).length:=by rw [nodesE_len];omega
  have w1:=IntWalk.i64_in ((k : Int)+1) (by omega)
  obtain ⟨rv,hrv⟩ : ∃ rv,rv=rowsE x:=⟨_,rfl⟩
  have rvo : rv.one=true:=by rw [hrv];unfold rowsE;split<;>rfl
  have rvc : rv.cells=[rv]:=by rw [hrv];unfold rowsE;split<;>rfl
  have rvl : ∀ H,lenS H rv=some (.lit (.int .i64 x.rows.length)):=fun H=>by
   rw [hrv];unfold rowsE;split
   ·rename_i h;rw [h];rfl
   ·rfl
  rw [← hrv] at c0
  have step : ∀ (Hq : AHeap) (rq : AVal) (y : NodeP),fillRN d k x=y→y.card=x.card→y.parents=x.parents→rq=rowsE y→Hx.next<Hq.next→(∀ id,id<Hx.next→Hq.get id=Hx.get id) →
    ∃ nh2 H3,appendA Try.prog (ext Hq [.arr 0 83 [.lit (.int .i64 x.card),.vec x.parents.length (ints x.parents),rq]]) (Hq.next+1) 35 35 nh (.own Hq.next 0 0 1 3)=some (nh2,H3)∧nh2.cells=[nh2]∧nh2.one=true∧H3.live (H.next+2) 0=some (64,[.lit (.int .i64 d.grain),nh]) ∧
     ∀ b,b=.arr 0 64 [.lit (.int .i64 d.grain),nh2]→Hb.next≤(H3.upd (H.next+2) b).next∧(∀ id,id<H.next+2→(H3.upd (H.next+2) b).get id=Hb.get id)∧(H3.upd (H.next+2) b).get (H.next+2)=some (.arr 0 64 [.lit (.int .i64 d.grain),nh2])∧OwnZ (H.next+3) (H3.upd (H.next+2) b) 83 3 nh2 (k+1) (nodesE ((fillR d).take (k+1))):=by
   intro Hq rq y hy y1 y2 hrq hqn hqo
   have hOq : OwnZ (H.next+3) Hq 83 3 nh k (nodesE ((fillR d).take k)):=hO.keep (by omega) fun id g _ h _=>hqo id h
   have rqo : rq.one=true:=by rw [hrq];unfold rowsE;split<;>rfl
   obtain ⟨nh2,H3,hA,hO3,hn3,hp3⟩:=app_oneZ (P:=Try.prog) (xs:=[.lit (.int .i64 x.card),.vec x.parents.length (ints x.parents),rq]) Try.underlying35 Try.cells83 Try.zero83 (by simp only [List.all_cons,List.all_nil,rqo];rfl) rfl (by rw [Try.bytes83];omega) hOq (by omega) rfl
   have keep : ∀ id,id<H.next+3→H3.get id=Hx.get id:=fun id h=>(hp3 id (by omega) (hOq.ne h)).trans (hqo id (by omega))
   refine ⟨nh2,H3,hA,hO3.cells,hO3.one,get_live ((keep _ (by omega)).trans hbn),fun b hb=>⟨by rw [upd_next];omega,fun id h=>by rw [upd_get,if_neg (by omega),keep id (by omega)];exact hold id h,by rw [upd_get,if_pos rfl,hb],?_⟩⟩
   have e : nodesE ((fillR d).take (k+1))=nodesE ((fillR d).take k)++[.lit (.int .i64 x.card),.vec x.parents.length (ints x.parents),rq]:=by
    rw [take_succ_get (fillR_get hx),nodesE_snoc,hy,hrq,y1,y2]
    rfl
   rw [e]
   exact hO3.keep (by rw [upd_next];omega) fun id g h1 _ _=>by rw [upd_get,if_neg (by omega)]
  obtain ⟨Hp,hHp⟩ : ∃ Hp,Hp=ext Hx [.arr 0 83 [.lit (.int .i64 x.card),.vec x.parents.length (ints x.parents),rv]]:=⟨_,rfl⟩
  have np : Hp.next=Hx.next+1:=by rw [hHp];rfl
  have gP : Hp.get Hx.next=some (.arr 0 83 [.lit (.int .i64 x.card),.vec x.parents.length (ints x.parents),rv]):=by rw [hHp];exact ext1_get_new
  have pold : ∀ id,id<Hx.next→Hp.get id=Hx.get id:=fun id h=>by rw [hHp];exact ext1_get_old h
  have m0:=get_live ((pold H.next (by omega)).trans ((hold H.next (by omega)).trans g0))
  have m2:=get_live ((pold (H.next+2) (by omega)).trans hbn)
  have mP:=get_live gP
  simp only [go_sem,Nat.reduceEqDiff,Nat.reducePow,Nat.reduceDiv,Nat.reduceMod,Nat.reduceAdd,e1,e2,e3,e4,l0,hb,hne,c0,c1,rvo,rvc,appendA_U]
  rw [← hHp]
  simp only [go_sem,Nat.reduceEqDiff,m0,e1,e4,appendA_U]
  refine AApply.clo (in20_spec d.decs k hf.decs _ _ ⟨trivial,?_⟩)
  have no : ¬ (d.decs.testBit k=true∧x.rows=[]∧1≤x.card∧x.card≤4)→∃ nh2 H3,appendA Try.prog (ext Hp [.arr 0 83 [.lit (.int .i64 x.card),.vec x.parents.length (ints x.parents),rv]]) (Hp.next+1) 35 35 nh (.own Hp.next 0 0 1 3)=some (nh2,H3)∧nh2.cells=[nh2]∧nh2.one=true∧H3.live (H.next+2) 0=some (64,[.lit (.int .i64 d.grain),nh]) ∧
     ∀ b,b=.arr 0 64 [.lit (.int .i64 d.grain),nh2]→Hb.next≤(H3.upd (H.next+2) b).next∧(∀ id,id<H.next+2→(H3.upd (H.next+2) b).get id=Hb.get id)∧(H3.upd (H.next+2) b).get (H.next+2)=some (.arr 0 64 [.lit (.int .i64 d.grain),nh2])∧OwnZ (H.next+3) (H3.upd (H.next+2) b) 83 3 nh2 (k+1) (nodesE ((fillR d).take (k+1))):=fun h =>
   step Hp rv x (if_neg h) rfl rfl hrv (by omega) pold
  cases hbit : d.decs.testBit k
  ·obtain ⟨nh2,H3,hA,nc,no1,ln,st⟩:=no fun h=>by rw [hbit] at h;cases h.1
   simp only [go_sem,Nat.reduceEqDiff,Nat.reducePow,Nat.reduceAdd,Nat.reduceMul,Nat.reduceLeDiff,e1,e2,e3,e4,m0,m2,mP,rvo,rvc,hbit,guardA_undef,hA,nc,no1,ln,w1]
   exact ⟨(st _ rfl).1,⟨k+1,nh2,rfl,by omega,(st _ rfl).1,(st _ rfl).2.1,(st _ rfl).2.2.1,(st _ rfl).2.2.2⟩,by rw [h4];simp only [lin,iv_int];omega⟩
  by_cases hr0 : x.rows=[]
  rotate_left
  ·obtain ⟨nh2,H3,hA,nc,no1,ln,st⟩:=no fun h=>hr0 h.2.1
   have hr0' : ¬ (x.rows.length : Int)=0:=fun h=>hr0 (List.eq_nil_of_length_eq_zero (by omega))
   simp only [go_sem,Nat.reduceEqDiff,Nat.reducePow,Nat.reduceAdd,Nat.reduceMul,Nat.reduceLeDiff,e1,e2,e3,e4,m0,m2,mP,rvo,rvc,rvl,hr0',hbit,guardA_undef,hA,nc,no1,ln,w1]
   exact ⟨(st _ rfl).1,⟨k+1,nh2,rfl,by omega,(st _ rfl).1,(st _ rfl).2.1,(st _ rfl).2.2.1,(st _ rfl).2.2.2⟩,by rw [h4];simp only [lin,iv_int];omega⟩
  have hrn : rv=.lit (.slice none 0 0):=hrv.trans (if_pos hr0)
  by_cases hc1 : x.card ≥ 1
  rotate_left
  ·obtain ⟨nh2,H3,hA,nc,no1,ln,st⟩:=no fun h=>hc1 h.2.2.1
   rw [hrn] at mP hA
   simp only [go_sem,Nat.reduceEqDiff,Nat.reducePow,Nat.reduceAdd,Nat.reduceMul,Nat.reduceLeDiff,e1,e2,e3,e4,m0,m2,mP,hc1,hbit,guardA_undef,hA,nc,no1,ln,w1]
   exact ⟨(st _ rfl).1,⟨k+1,nh2,rfl,by omega,(st _ rfl).1,(st _ rfl).2.1,(st _ rfl).2.2.1,(st _ rfl).2.2.2⟩,by rw [h4];simp only [lin,iv_int];omega⟩
  by_cases hc4 : x.card≤4
  rotate_left
  ·obtain ⟨nh2,H3,hA,nc,no1,ln,st⟩:=no fun h=>hc4 h.2.2.2
   rw [hrn] at mP hA
   simp only [go_sem,Nat.reduceEqDiff,Nat.reducePow,Nat.reduceAdd,Nat.reduceMul,Nat.reduceLeDiff,e1,e2,e3,e4,m0,m2,mP,hc1,hc4,hbit,guardA_undef,hA,nc,no1,ln,w1]
   exact ⟨(st _ rfl).1,⟨k+1,nh2,rfl,by omega,(st _ rfl).1,(st _ rfl).2.1,(st _ rfl).2.2.1,(st _ rfl).2.2.2⟩,by rw [h4];simp only [lin,iv_int];omega⟩
  clear no
  rw [hrn] at mP gP
  simp only [go_sem,Nat.reduceEqDiff,e1,e2,e3,e4,m0,m2,mP,hc1,hc4,hbit,guardA_undef,appendA_U]
  refine W.loop0 2417851639158889605235136 (by rfl) (fun ρ2 Hq=>Hq=Hp∧∃ j : Nat,ρ2 7=lin j∧j≤x.parents.length∧ρ2 6=lin (rowsR d.nodes (x.parents.take j))) (fun ρ2 H=>x.parents.length - (iv (ρ2 7)).toNat) ?_ ?_
  ·simp only [go_sem,Nat.reduceEqDiff,appendA_U]
   exact ⟨0,rfl,by omega,rfl⟩
  rintro ρ2 Hq ⟨hHq,j,h7,hj,h6⟩
  subst hHq
  refine W.env fun E2 hE2=>?_
  have f1 : E2 1=.ptr H.next 0 0:=by rw [hE2];simp only [go_sem,Nat.reduceEqDiff,Nat.reducePow,Nat.reduceDiv,Nat.reduceMod,reduceCtorEq,e1,appendA_U]
  have f2 : E2 2=.ptr (H.next+1) 0 0:=by rw [hE2];simp only [go_sem,Nat.reduceEqDiff,Nat.reducePow,Nat.reduceDiv,Nat.reduceMod,reduceCtorEq,e2,appendA_U]
  have f3 : E2 3=.ptr (H.next+2) 0 0:=by rw [hE2];simp only [go_sem,Nat.reduceEqDiff,Nat.reducePow,Nat.reduceDiv,Nat.reduceMod,reduceCtorEq,e3,appendA_U]
  have f4 : E2 4=lin k:=by rw [hE2];simp only [go_sem,Nat.reduceEqDiff,Nat.reducePow,Nat.reduceDiv,Nat.reduceMod,reduceCtorEq,e4,appendA_U]
  have f5 : E2 5=.ptr Hx.next 0 0:=by rw [hE2];simp only [go_sem,Nat.reduceEqDiff,Nat.reducePow,Nat.reduceDiv,Nat.reduceMod,reduceCtorEq,appendA_U]
  have f6 : E2 6=lin (rowsR d.nodes (x.parents.take j)):=by rw [hE2];simp only [go_sem,Nat.reduceEqDiff,Nat.reducePow,Nat.reduceDiv,Nat.reduceMod,h6,appendA_U]
  have f7 : E2 7=lin j:=by rw [hE2];simp only [go_sem,Nat.reduceEqDiff,Nat.reducePow,Nat.reduceDiv,Nat.reduceMod,h7,appendA_U]
  clear hE2
  refine vc_sound _ _ _ (by rfl) ?_
  by_cases hb2 : (j : Int)<x.parents.length
  ·obtain ⟨q,hq⟩:=get_of_lt (l:=x.parents) (i:=j) (by omega)
   have hqne:=ne_of_get hq
   have hs:=rowsR_snoc d.nodes (x.parents.take j) q
   rw [← take_succ_get hq] at hs
   have hrr:=rowsR_rng d.nodes (x.parents.take j)
   have w2:=IntWalk.i64_in ((j : Int)+1) (by omega)
   unfold rowStep at hs
   by_cases q0 : q ≥ 0
   rotate_left
   ·rw [if_neg (fun h=>q0 h.1)] at hs
    simp only [go_sem,Nat.reduceEqDiff,Nat.reducePow,Nat.reduceDiv,Nat.reduceMod,f1,f4,f5,f6,f7,mP,m0,hb2,hq,hqne,q0,guardA_undef,w2,appendA_U]
    exact ⟨⟨j+1,rfl,by omega,by rw [hs]⟩,by rw [h7];simp only [lin,iv_int];omega⟩
   by_cases q1 : q<d.nodes.length
   rotate_left
   ·rw [if_neg (fun h=>q1 h.2.1)] at hs
    simp only [go_sem,Nat.reduceEqDiff,Nat.reducePow,Nat.reduceDiv,Nat.reduceMod,f1,f4,f5,f6,f7,mP,m0,hb2,hq,hqne,q0,q1,guardA_undef,w2,appendA_U]
    exact ⟨⟨j+1,rfl,by omega,by rw [hs]⟩,by rw [h7];simp only [lin,iv_int];omega⟩
   by_cases q2 : rowsR d.nodes (x.parents.take j)≤1024
   rotate_left
   ·rw [if_neg (fun h=>q2 h.2.2)] at hs
    simp only [go_sem,Nat.reduceEqDiff,Nat.reducePow,Nat.reduceDiv,Nat.reduceMod,f1,f4,f5,f6,f7,mP,m0,hb2,hq,hqne,q0,q1,q2,guardA_undef,w2,appendA_U]
    exact ⟨⟨j+1,rfl,by omega,by rw [hs]⟩,by rw [h7];simp only [lin,iv_int];omega⟩
   rw [if_pos ⟨q0,q1,q2⟩] at hs
   obtain ⟨u,rfl⟩:=Int.eq_ofNat_of_zero_le q0
   obtain ⟨z,hz⟩:=get_of_lt (l:=d.nodes) (i:=u) (by omega)
   have z0:=nodesE_0 hz
   have zne:=nodesE_ne hz
   rw [Int.toNat_natCast,getD_of_get (cards_get hz)] at hs
   have hm4 : 1≤max 1 (min z.card 4)∧max 1 (min z.card 4)≤4:=by omega
   have hmm : (if (if 4<z.card then 4 else z.card) > 1 then if 4<z.card then 4 else z.card else 1)=max 1 (min z.card 4):=by split<;>split<;>omega
   generalize max 1 (min z.card 4)=m at hs hm4 hmm
   have hp1 : rowsR d.nodes (x.parents.take j)*m≤1024*4:=Int.mul_le_mul q2 hm4.2 (by omega) (by omega)
   have hp0 : 0≤rowsR d.nodes (x.parents.take j)*m:=Int.mul_nonneg (by omega) (by omega)
   have w3:=IntWalk.i64_in (rowsR d.nodes (x.parents.take j)*m) (by omega)
   simp only [go_sem,Nat.reduceEqDiff,Nat.reducePow,Nat.reduceDiv,Nat.reduceMod,f1,f4,f5,f6,f7,mP,m0,hb2,hq,hqne,q0,q1,q2,guardA_undef,w2,zne,z0,hmm,w3,appendA_U]
   exact ⟨⟨j+1,rfl,by omega,by rw [hs]⟩,by rw [h7];simp only [lin,iv_int];omega⟩
  ·have hje : j=x.parents.length:=by omega
   rw [hje,List.take_of_length_le (Nat.le_refl _)] at f6
   have hRr:=rowsR_rng d.nodes x.parents
   obtain ⟨R,hR⟩:=Int.eq_ofNat_of_zero_le (show 0≤rowsR d.nodes x.parents by omega)
   rw [hR] at f6
   obtain ⟨cn,hcn⟩:=Int.eq_ofNat_of_zero_le (show 0≤x.card by omega)
   have hcn0 : (0 : Int)<cn:=by omega
   have hcn1 : 1≤cn:=by omega
   have hcn2 : (cn : Int) ≥ 0:=by omega
   have ury : fillRN d k x={ x with rows:=List.replicate R (unitRow d.grain x.card 0) }:=by
    unfold fillRN
    rw [if_pos ⟨hbit,hr0,hc1,hc4⟩,hR,Int.toNat_natCast]
   simp only [go_sem,Nat.reduceEqDiff,Nat.reducePow,Nat.reduceDiv,Nat.reduceMod,reduceCtorEq,f1,f4,f5,f6,f7,mP,m0,hb2,appendA_U]
   refine W.postWeak (Q':=fun e s2=>e=.exit 4∧∃ rq,s2.ρ 1=.ptr H.next 0 0∧s2.ρ 2=.ptr (H.next+1) 0 0∧s2.ρ 3=.ptr (H.next+2) 0 0∧s2.ρ 4=lin k∧s2.ρ 5=.ptr Hx.next 0 0∧Hq.next≤s2.H.next∧(∀ id,id<Hx.next→s2.H.get id=Hx.get id)∧s2.H.get Hx.next=some (.arr 0 83 [.lit (.int .i64 x.card),.vec x.parents.length (ints x.parents),rq])∧OwnG2 Hq.next s2.H 59 3 rq (List.replicate R (ints (unitRow d.grain x.card 0)))) ?_ ?_
   rotate_left
   ·rintro e s2 ⟨rfl,rq,a1,a2,a3,a4,a5,hn2,ho2,hP2,hO2⟩
    have hv:=hO2.fz (S:=fun id=>Hq.next≤id) (nx:=s2.H.next) (rows':=List.replicate R (ints (unitRow d.grain x.card 0))) (fun _ h=>h) rfl fun j r r' h1 h2=>by
     rw [h1] at h2
     cases h2
     refine ⟨rfl,fun i hi _=>?_⟩
     have hr:=List.eq_of_mem_replicate (List.mem_of_getElem? h1)
     subst hr
     have e0 : (ints (unitRow d.grain x.card 0))[i]?=some (ints (unitRow d.grain x.card 0))[i]:=List.getElem?_eq_getElem hi
     generalize (ints (unitRow d.grain x.card 0))[i]=a at e0 ⊢
     rw [ints_get] at e0
     obtain ⟨b,_,rfl⟩:=Option.map_eq_some_iff.1 e0
     exact .lit _
    rw [List.length_replicate,List.map_replicate] at hv
    have hvv : (AVal.vec R (List.replicate R (.vec (ints (unitRow d.grain x.card 0)).length (ints (unitRow d.grain x.card 0)))))=vecV (List.replicate R (unitRow d.grain x.card 0)):=by
     unfold vecV vecI
     rw [List.length_replicate,List.map_replicate,ints_length]
    rw [hvv] at hv
    refine ⟨⟨s2.ρ,s2.H.meltN Hq.next Hx.next (.arr 0 83 [.lit (.int .i64 x.card),.vec x.parents.length (ints x.parents),vecV (List.replicate R (unitRow d.grain x.card 0))])⟩,WeakS.meltN G0_ok hP2 (by omega) rfl (fun i hi _=>?_),Nat.le_refl _,trivial,?_⟩
    ·match i,hi with
     | 0,_=>exact .lit _
     | 1,_=>exact .keepInts _
     | 2,_=>exact hv
    obtain ⟨He,hHe⟩ : ∃ He,He=s2.H.meltN Hq.next Hx.next (.arr 0 83 [.lit (.int .i64 x.card),.vec x.parents.length (ints x.parents),vecV (List.replicate R (unitRow d.grain x.card 0))]):=⟨_,rfl⟩
    rw [← hHe]
    have gPe : He.get Hx.next=some (.arr 0 83 [.lit (.int .i64 x.card),.vec x.parents.length (ints x.parents),vecV (List.replicate R (unitRow d.grain x.card 0))]):=by rw [hHe];exact meltN_ob (by omega)
    have hoe : ∀ id,id<Hx.next→He.get id=Hx.get id:=fun id h=>by rw [hHe,meltN_other (by omega) (by omega)];exact ho2 id h
    have hne' : He.next=s2.H.next:=by rw [hHe];rfl
    clear hHe hv hP2 hO2
    have lPe:=get_live gPe
    have l2e:=get_live ((hoe (H.next+2) (by omega)).trans hbn)
    obtain ⟨nh2,H3,hA,nc,no1,ln,st⟩:=step He (vecV (List.replicate R (unitRow d.grain x.card 0))) _ ury rfl rfl (by
     unfold rowsE
     rw [if_neg]
     intro h
     have:=congrArg List.length h
     simp at this
     omega) (by omega) hoe
    simp only [go_sem,Nat.reduceEqDiff,Nat.reducePow,Nat.reduceAdd,Nat.reduceMul,Nat.reduceLeDiff,reduceCtorEq,a1,a2,a3,a4,a5,lPe,l2e,hA,nc,no1,ln,w1]
    exact ⟨(st _ rfl).1,⟨k+1,nh2,rfl,by omega,(st _ rfl).1,(st _ rfl).2.1,(st _ rfl).2.2.1,(st _ rfl).2.2.2⟩,by rw [h4];simp only [lin,iv_int];omega⟩
   refine W.loop0 633822882262475471490002191872 (by rfl) (fun ρ3 Hy=>∃ (i : Nat) (rq : AVal),ρ3 9=lin i∧i≤R∧Hq.next≤Hy.next∧(∀ id,id<Hx.next→Hy.get id=Hx.get id)∧Hy.get Hx.next=some (.arr 0 83 [.lit (.int .i64 x.card),.vec x.parents.length (ints x.parents),rq])∧OwnG2 Hq.next Hy 59 3 rq (List.replicate i (ints (unitRow d.grain x.card 0)))) (fun ρ3 H=>R - (iv (ρ3 9)).toNat) ?_ ?_
   ·simp only [go_sem,Nat.reduceEqDiff,appendA_U]
    exact ⟨0,_,rfl,by omega,pold,gP,.nil⟩
   rintro ρ3 Hy ⟨i,rq,h9,hi,hny,hyo,hyP,hOy⟩
   refine W.env fun E3 hE3=>?_
   have a1 : E3 1=.ptr H.next 0 0:=by rw [hE3];simp only [go_sem,Nat.reduceEqDiff,Nat.reducePow,Nat.reduceDiv,Nat.reduceMod,reduceCtorEq,f1,appendA_U]
   have a2 : E3 2=.ptr (H.next+1) 0 0:=by rw [hE3];simp only [go_sem,Nat.reduceEqDiff,Nat.reducePow,Nat.reduceDiv,Nat.reduceMod,reduceCtorEq,f2,appendA_U]
   have a3 : E3 3=.ptr (H.next+2) 0 0:=by rw [hE3];simp only [go_sem,Nat.reduceEqDiff,Nat.reducePow,Nat.reduceDiv,Nat.reduceMod,reduceCtorEq,f3,appendA_U]
   have a4 : E3 4=lin k:=by rw [hE3];simp only [go_sem,Nat.reduceEqDiff,Nat.reducePow,Nat.reduceDiv,Nat.reduceMod,reduceCtorEq,f4,appendA_U]
   have a5 : E3 5=.ptr Hx.next 0 0:=by rw [hE3];simp only [go_sem,Nat.reduceEqDiff,Nat.reducePow,Nat.reduceDiv,Nat.reduceMod,reduceCtorEq,f5,appendA_U]
   have a6 : E3 6=lin R:=by rw [hE3];simp only [go_sem,Nat.reduceEqDiff,Nat.reducePow,Nat.reduceDiv,Nat.reduceMod,reduceCtorEq,f6,appendA_U]
   have a9 : E3 9=lin i:=by rw [hE3];simp only [go_sem,Nat.reduceEqDiff,Nat.reducePow,Nat.reduceDiv,Nat.reduceMod,h9,appendA_U]
   clear hE3
   refine vc_sound _ _ _ (by rfl) ?_
   by_cases hb3 : (i : Int)<R
   ·have w3:=IntWalk.i64_in ((i : Int)+1) (by omega)
    have yP:=get_live hyP
    have y0:=get_live ((hyo H.next (by omega)).trans ((hold H.next (by omega)).trans g0))
    rw [hcn] at yP
    have y0e : ∀ L,(ext Hy L).live H.next 0=_:=fun L=>(ext_live_old (by omega)).trans y0
    have yPe : ∀ L,(ext Hy L).live Hx.next 0=_:=fun L=>(ext_live_old (by omega)).trans yP
    have hun : (AVal.lit (.int .i64 d.grain) :: List.drop 1 (List.replicate cn (.lit (.int .i64 0))))=ints (unitRow d.grain x.card 0):=by
     unfold unitRow
     rw [hcn,Int.toNat_natCast]
     obtain ⟨m,rfl⟩ : ∃ m,cn=m+1:=⟨cn - 1,by omega⟩
     simp [List.replicate_succ,ints,lin]
    have hul : (unitRow d.grain x.card 0).length=cn:=by rw [unitRow_len,hcn];rfl
    obtain ⟨Hw,hHw⟩ : ∃ Hw,Hw=ext Hy [.arr 0 3 (ints (unitRow d.grain x.card 0))]:=⟨_,rfl⟩
    have hwn : Hw.next=Hy.next+1:=by rw [hHw];rfl
    have hwo : Over Hy Hw:=by rw [hHw];exact .ext _ _
    have hwg : Hw.get Hy.next=some (.arr 0 3 (ints (unitRow d.grain x.card 0))):=by rw [hHw];exact ext1_get_new
    have wP : Hw.live Hx.next 0=_:=(hwo.live (by omega)).trans yP
    obtain ⟨rq',Hj,hA,hO',hnj,hpj⟩:=OwnG2.app (P:=Try.prog) (H:=Hw) (n:=Hw.next+1) (t:=48) (x:=.own Hy.next 0 0 cn 1) (r:=ints (unitRow d.grain x.card 0)) Try.underlying48 Try.cells59 Try.zero59 Try.bytes59 (by decide) (by rw [List.length_replicate];omega) (hOy.over hwo) (by omega) (.inr ⟨Hy.next,0,by omega,by omega,by rw [ints_length,hul],hwg⟩) rfl
    have keep : ∀ id,id<Hq.next→Hj.get id=Hy.get id:=fun id h=>(hpj id (by omega) h).trans (hwo.old id (by omega))
    have jP : Hj.live Hx.next 0=_:=get_live ((keep _ (by omega)).trans hyP)
    obtain ⟨cs',hcs'⟩:=id hO'
    have rc:=hcs'.1.cells
    have ro:=hcs'.1.one
    rw [hwn,hHw,ext_ext] at hA
    simp only [List.cons_append,List.nil_append,Nat.add_assoc,Nat.reduceAdd] at hA
    simp only [go_sem,Int.reduceToNat,Nat.reduceEqDiff,Nat.reducePow,Nat.reduceDiv,Nat.reduceMod,Nat.reduceAdd,Nat.reduceLeDiff,a1,a3,a4,a5,a6,a9,hb3,yP,y0,y0e,yPe,hcn0,hcn1,hcn2,hun,hA,jP,rc,ro,w3]
    refine ⟨by omega,by simp;omega,by rw [upd_next];omega,⟨i+1,rq',rfl,by omega,by rw [upd_next];omega,fun id h=>by rw [upd_get,if_neg (by omega),keep id (by omega)];exact hyo id h,by rw [upd_get,if_pos rfl],?_⟩,by rw [h9];simp only [lin,iv_int];omega⟩
    rw [List.replicate_succ']
    exact hO'.upd (by omega)
   ·simp only [go_sem,Nat.reduceEqDiff,Nat.reducePow,Nat.reduceDiv,Nat.reduceMod,a1,a2,a3,a4,a5,a6,a9,hb3,appendA_U]
    have : i=R:=by omega
    subst this
    exact ⟨rq,hny,hyo,hyP,hOy⟩
 ·have hke : k=d.nodes.length:=by omega
  have l2:=get_live hbn
  have l1:=get_live ((hold (H.next+1) (by omega)).trans g1)
  have nc:=hO.cells
  have no:=hO.one
  simp only [go_sem,Nat.reduceEqDiff,Nat.reducePow,Nat.reduceDiv,Nat.reduceMod,Nat.reduceAdd,e1,e2,e3,e4,l0,l1,l2,hb,nc,no,appendA_U]
  rw [hke,List.take_of_length_le (by rw [fillR_len];exact Nat.le_refl _)] at hO
  refine FinV.dropO (v':=netV d.grain (fillR d)) G0_ok hcl ⟨by rw [upd_next];have:=ob.next;omega,fun id h=>by rw [upd_get,if_neg (by omega),hold id (by omega)];exact ob.old id h⟩ (.agg rfl fun i hi _=>?_) hK
  match i,hi with
  | 0,_=>exact .lit _
  | 1,_ =>
   show Fz _ _ _ nh (nodesV (fillR d))
   unfold nodesV
   rw [fillR_len]
   rcases hO with ⟨h,hz,hc⟩|⟨id,gg,k1,k2,h,k4,k5⟩
   ·have : fillR d=[]:=List.eq_nil_of_length_eq_zero (by rw [fillR_len];exact hz)
    rw [h,hz,this]
    exact .nil
   ·rw [h]
    refine .frz (by omega) (show (Hx.upd (H.next+1) _).get id=some (.arr gg 83 (nodesE (fillR d))) by rw [upd_get,if_neg (by omega)];exact k5) (by rw [nodesC_len,fillR_len]) fun j hj h2 h'=>?_
    have e0 : (0 : Nat)+j=j:=Nat.zero_add j
    have h3 : j<(nodesE (fillR d)).length:=by omega
    have:=fun Hq=>fz_nodesE (S:=fun id=>H.next≤id) (H:=Hq) (nx:=H.next) (fillR d) j h3 h'
    simpa only [e0] using this _
end Go.Proofs
set_option linter.unusedSimpArgs false
set_option maxRecDepth 100000
namespace Go.Proofs
open Go.Hx
theorem prodL_sub {cs : List Int} (hc : ∀ c∈cs,1≤c) : ∀ (k : Nat) (ps : List Int),k≤cs.length→ps.Pairwise (·<·)→(∀ p∈ps,0≤p∧p<k)→prodL (atL cs ps)≤prodL (cs.take k):=by
 intro k
 induction k with
 | zero =>
  intro ps _ _ h
  cases ps with
  | nil=>exact Int.le_refl _
  | cons p ps=>have:=h p (by simp);omega
 | succ k ih =>
  intro ps hk hw h
  obtain ⟨c,hck⟩:=get_of_lt (l:=cs) (i:=k) (by omega)
  have c1:=hc c (List.mem_of_getElem? hck)
  rw [take_succ_get hck,prodL_snoc]
  have hp:=prodL_pos (l:=cs.take k) fun c h=>hc c (List.mem_of_mem_take h)
  rcases List.eq_nil_or_concat ps with rfl|⟨qs,q,rfl⟩
  ·show 1≤_
   have:=Int.mul_le_mul hp c1 (by omega) (by omega)
   omega
  ·rw [List.concat_eq_append] at hw h ⊢
   have hq:=h q (by simp)
   obtain ⟨w1,_,w3⟩:=List.pairwise_append.1 hw
   have hqs : ∀ p∈qs,0≤p∧p<q:=fun p hp=>⟨(h p (by simp [hp])).1,w3 p hp q (by simp)⟩
   by_cases hqk : q=k
   ·have h1:=ih qs (by omega) w1 fun p hp=>by have:=hqs p hp;omega
    unfold atL at h1 ⊢
    rw [List.map_append,prodL_app]
    have e : prodL (List.map (fun p=>cs.getD p.toNat 0) [q])=c:=by
     rw [hqk]
     simp only [List.map_cons,List.map_nil,Int.toNat_natCast,getD_of_get hck,prodL_cons,prodL_nil,Int.mul_one]
    rw [e]
    exact Int.mul_le_mul_of_nonneg_right h1 (by omega)
   ·have h1:=ih (qs++[q]) (by omega) hw fun p hp=>by
     rcases List.mem_append.1 hp with h'|h'
     ·have:=hqs p h';omega
     ·obtain rfl:=List.mem_singleton.1 h';omega
    have h2 : prodL (cs.take k)*1≤prodL (cs.take k)*c:=Int.mul_le_mul_of_nonneg_left c1 (by omega)
    omega
theorem parC_le {ns : List NodeP} {x : NodeP} (hp : PlacesOk x.parents ns.length) (hc : ∀ y∈ns,1≤y.card∧y.card≤4) : prodL (parC ns x)≤prodL (cardsL ns):=by
 have h:=prodL_sub (cs:=cardsL ns) (fun c h=>by
  obtain ⟨y,hy,rfl⟩:=List.mem_map.1 h
  exact (hc y hy).1) ns.length x.parents (by rw [cards_len];exact Nat.le_refl _) hp.1 hp.2
 rw [List.take_of_length_le (by rw [cards_len];exact Nat.le_refl _)] at h
 exact h
theorem fillR_ok {d : InfP} (h : InfOk d) : fillR d=fillL d fun _ _=>0:=by
 apply List.ext_getElem?
 intro v
 rcases Nat.lt_or_ge v d.nodes.length with hv|hv
 ·obtain ⟨x,hx⟩:=get_of_lt hv
  rw [fillR_get hx,fillL_get hx]
  unfold fillRN
  by_cases hb : d.decs.testBit v=true
  ·obtain ⟨x1,x2⟩:=h.n.dec v x hx hb
   have hc:=h.n.card x (List.mem_of_getElem? hx)
   rw [if_pos ⟨hb,x1,hc.1,hc.2⟩,fillN_dec hx hb]
   have hsz:=h.net.size
   rw [fillL_card] at hsz
   have hle:=parC_le x2 h.n.card
   rw [rowsR_eq (fun q hq=>by have:=x2.2 q hq;omega) h.n.card (by omega),x1,List.nil_append]
   congr 2
   unfold decRows rowsN
   rw [List.map_const',List.length_range]
  ·rw [if_neg fun h=>hb h.1,fillN_no hb]
 ·rw [List.getElem?_eq_none (by rw [fillR_len];exact hv),List.getElem?_eq_none (by rw [fillL_len];exact hv)]

def rcN (d : InfP) (v : Nat) : Int × Int:=match d.nodes[v]? with
 | some x=>(rowsN d.nodes x,x.card)
 | none=>(0,0)
def rcL (d : InfP) : List (Int × Int):=(decL d).map (rcN d)
def prC (l : List (Int × Int)) : List AVal:=(l.map fun p=>[lin p.1,lin p.2]).flatten
theorem prC_0 {l : List (Int × Int)} {i : Nat} {p : Int × Int} (h : l[i]?=some p) : (prC l)[i*2]?=some (lin p.1):=flat_get (f:=fun p : Int × Int=>[lin p.1,lin p.2]) (z:=2) (fun _=>rfl) l i 0 p h (by omega)
theorem prC_1 {l : List (Int × Int)} {i : Nat} {p : Int × Int} (h : l[i]?=some p) : (prC l)[i*2+1]?=some (lin p.2):=flat_get (f:=fun p : Int × Int=>[lin p.1,lin p.2]) (z:=2) (fun _=>rfl) l i 1 p h (by omega)
theorem prC_ne {l : List (Int × Int)} {i : Nat} {p : Int × Int} (h : l[i]?=some p) : ¬ prC l=[]:=fun e=>by
 have:=prC_0 h;rw [e] at this;simp at this
theorem prC_snoc (l : List (Int × Int)) (p : Int × Int) : prC (l++[p])=prC l++[lin p.1,lin p.2]:=by unfold prC;simp
theorem fz_prC {S : Nat→Prop} {H : AHeap} {nx : Nat} (l : List (Int × Int)) : ∀ c∈prC l,Fz S H nx c c:=by
 intro c hc
 unfold prC at hc
 obtain ⟨r,hr,hc⟩:=List.mem_flatten.1 hc
 obtain ⟨x,_,rfl⟩:=List.mem_map.1 hr
 simp only [List.mem_cons,List.not_mem_nil,or_false] at hc
 rcases hc with rfl|rfl<;>exact .lit _
theorem rcN_rng {d : InfP} (h : InfOk d) {v : Nat} (hv : v<d.nodes.length) (hb : d.decs.testBit v=true) : 1≤(rcN d v).1∧(rcN d v).1≤1024∧1≤(rcN d v).2∧(rcN d v).2≤4:=by
 obtain ⟨x,hx⟩:=get_of_lt hv
 obtain ⟨x1,x2⟩:=h.n.dec v x hx hb
 have hc:=h.n.card x (List.mem_of_getElem? hx)
 have hsz:=h.net.size
 rw [fillL_card] at hsz
 have hle:=parC_le x2 h.n.card
 have hps:=prodL_pos (l:=parC d.nodes x) fun c hc=>(parC_mem (fun q hq=>by have:=x2.2 q hq;omega) h.n.card c hc).1
 unfold rcN
 rw [hx]
 show 1≤((rowsN d.nodes x : Nat) : Int)∧((rowsN d.nodes x : Nat) : Int)≤1024∧1≤x.card∧x.card≤4
 unfold rowsN
 omega

set_option maxHeartbeats 4000000 in
theorem rows20_spec (d : InfP) (hf : InfFit d) (hok : InfOk d) (H : AHeap) (K : ARes→AHeap→Prop) (hK : K (.ret (.vec (rcL d).length (prC (rcL d)))) H) : ACall Try.prog G0 57 [infE d] H K:=by
 refine ACall.clo ⟨_,Try.func57,rfl,rfl⟩ fun hcl=>?_
 have hl:=hf.nodes.1
 have hn8:=hok.n.n1.2
 refine ACall.of_body (n:=41) (rs:=[.tmp 2]) Try.func57 rfl rfl rfl (by decide) (by kernel_rfl) (by simp) ?_
 simp only [go_sem,Nat.reduceEqDiff,Nat.reduceAdd,infE_eq,infEC,appendA_U]
 obtain ⟨H1,hH1⟩ : ∃ H1,H1=ext H [.arr 0 39 [.lit (.int .i64 d.grain),.vec d.nodes.length (nodesE d.nodes),.lit (.int .u64 (d.decs : Int)),.vec d.utils.length (utilsC d.utils)]]:=⟨_,rfl⟩
 have g0 : H1.get H.next=some (.arr 0 39 [.lit (.int .i64 d.grain),.vec d.nodes.length (nodesE d.nodes),.lit (.int .u64 (d.decs : Int)),.vec d.utils.length (utilsC d.utils)]):=by rw [hH1];exact get_ext0 ..
 have n1 : H1.next=H.next+1:=by rw [hH1];rfl
 have o1 : Over H H1:=by rw [hH1];exact .ext _ _
 rw [← hH1]
 clear hH1
 have m0:=get_live g0
 refine AApply.clo (filled20_spec d hf _ _ ⟨trivial,?_⟩)
 rw [fillR_ok hok]
 simp only [go_sem,Nat.reduceEqDiff,Nat.reduceAdd,netV,nodesV,appendA_U]
 obtain ⟨H2,hH2⟩ : ∃ H2,H2=ext H1 [.arr 0 64 [.lit (.int .i64 d.grain),.vec (fillL d fun _ _=>0).length (nodesC (fillL d fun _ _=>0))]]:=⟨_,rfl⟩
 have g1 : H2.get H1.next=some (.arr 0 64 [.lit (.int .i64 d.grain),.vec (fillL d fun _ _=>0).length (nodesC (fillL d fun _ _=>0))]):=by rw [hH2];exact ext1_get_new
 have o2 : Over H1 H2:=by rw [hH2];exact .ext _ _
 have n2 : H2.next=H1.next+1:=by rw [hH2];rfl
 have k0:=(o2.live (g:=0) (by omega : H.next<H1.next)).trans m0
 have k1:=get_live g1
 rw [← hH2]
 clear hH2
 simp only [go_sem,Nat.reduceEqDiff,Nat.reduceAdd,k0,appendA_U]
 refine AApply.clo (decisions20_spec d hf.decs (by omega) _ _ ⟨trivial,?_⟩)
 simp only [go_sem,Nat.reduceEqDiff,appendA_U]
 have dl : (natsI (decL d)).length=(decL d).length:=by simp [natsI]
 have dl8 : (decL d).length≤d.nodes.length:=decK_len
 refine W.loop0 1099511625800 (by rfl) (fun ρ Hx=>∃ (k : Nat) (ov : AVal),ρ 6=lin k∧k≤(decL d).length∧Over H2 Hx∧ρ 3=ov∧OwnZ H2.next Hx 118 2 ov k (prC ((rcL d).take k))) (fun ρ H=>(decL d).length - (iv (ρ 6)).toNat) ?_ ?_
 ·simp only [go_sem,Nat.reduceEqDiff,appendA_U]
  exact ⟨0,_,rfl,by omega,.refl _,rfl,.nil⟩
 rintro ρ Hx ⟨k,ov,h6,hk,hov,h3,hO⟩
 refine W.env fun E hE=>?_
 have e3 : E 3=ov:=by rw [hE];simp only [go_sem,Nat.reduceEqDiff,Nat.reducePow,Nat.reduceDiv,Nat.reduceMod,h3,appendA_U]
 have e4 : E 4=.ptr H1.next 0 0:=by rw [hE];simp only [go_sem,Nat.reduceEqDiff,Nat.reducePow,Nat.reduceDiv,Nat.reduceMod,reduceCtorEq,appendA_U]
 have e5 : E 5=vecI (natsI (decL d)):=by rw [hE];simp only [go_sem,Nat.reduceEqDiff,Nat.reducePow,Nat.reduceDiv,Nat.reduceMod,reduceCtorEq,appendA_U]
 have e6 : E 6=lin k:=by rw [hE];simp only [go_sem,Nat.reduceEqDiff,Nat.reducePow,Nat.reduceDiv,Nat.reduceMod,h6,appendA_U]
 clear hE
 refine vc_sound _ _ _ (by rfl) ?_
 have x1:=(hov.live (g:=0) (by omega : H1.next<H2.next)).trans k1
 have onx:=hov.next
 by_cases hb : (k : Int)<(decL d).length
 ·obtain ⟨v,hv⟩:=get_of_lt (l:=decL d) (i:=k) (by omega)
  obtain ⟨v1,v2,_⟩:=decK_place hv
  obtain ⟨x,hx⟩:=get_of_lt v1
  have hvi : (natsI (decL d))[k]?=some (v : Int):=by unfold natsI;rw [List.getElem?_map,hv];rfl
  have hvne:=ne_of_get hvi
  have hfx:=fillL_get (c:=fun _ _=>0) hx
  have f0:=nodesC_0 hfx
  have f2:=nodesC_2 hfx
  have fne:=nodesC_ne hfx
  have hvl : (v : Int)<(fillL d fun _ _=>0).length:=by rw [fillL_len];omega
  have w1:=IntWalk.i64_in ((k : Int)+1) (by omega)
  have hrc : rcN d v=(((fillN d (fun _ _=>0) (decL d).length v x).rows.length : Int),(fillN d (fun _ _=>0) (decL d).length v x).card):=by
   rw [fillN_dec hx v2]
   unfold rcN
   rw [hx]
   have:=(hok.n.dec v x hx v2).1
   simp [this,decRows]
  generalize fillN d (fun _ _=>0) (decL d).length v x=y at f0 f2 hrc
  obtain ⟨ov',Hj,hA,hO',hnj,hpj⟩:=app_oneZ (P:=Try.prog) (t:=116) (xs:=[lin y.rows.length,lin y.card]) Try.underlying116 Try.cells118 Try.zero118 rfl rfl (by rw [Try.bytes118];omega) hO onx rfl
  simp only [lin] at hA
  simp only [go_sem,Nat.reduceEqDiff,Nat.reducePow,Nat.reduceDiv,Nat.reduceMod,e3,e4,e5,e6,dl,hb,appendA_U]
  refine W.draw 22 [0,0,2,0,0,24,56,126,254,510,1022,0,2048,0,0,24576,57344,129024,260096,522240,1048574,2097150] Try.mixed (by kernel_rfl) (by kernel_rfl) ?_
  simp only [go_sem,Nat.reduceEqDiff,Nat.reducePow,Nat.reduceDiv,Nat.reduceMod,Nat.reduceAdd,Nat.reduceMul,Nat.reduceLeDiff,reduceCtorEq,e3,e4,e5,e6,dl,hb,hvi,hvne,x1,f0,f2,fne,hvl,w1,hA,vecV]
  have hrg : (rcL d)[k]?=some (rcN d v):=by unfold rcL;rw [List.getElem?_map,hv];rfl
  refine ⟨by omega,⟨k+1,ov',rfl,by omega,⟨by omega,fun id h=>(hpj id (by omega) (hO.ne h)).trans (hov.old id h)⟩,rfl,?_⟩,by rw [h6];simp only [lin,iv_int];omega⟩
  rw [take_succ_get hrg,prC_snoc,hrc]
  exact hO'
 ·have hke : k=(decL d).length:=by omega
  simp only [go_sem,Nat.reduceEqDiff,Nat.reducePow,Nat.reduceDiv,Nat.reduceMod,e3,e4,e5,e6,dl,hb,appendA_U]
  have hrl : (rcL d).length=(decL d).length:=by simp [rcL]
  rw [hke,List.take_of_length_le (by omega)] at hO
  refine FinV.dropO G0_ok hcl ((o1.trans o2).trans hov) ?_ hK
  rw [hrl]
  have oh2:=(o1.trans o2).next
  rcases hO with ⟨h,hz,hc⟩|⟨id,gg,k1,k2,h,k4,k5⟩
  ·rw [h,hz,hc]
   exact .nil
  ·rw [h]
   refine .frz (by omega) k5 k4 fun j hj h2 h'=>?_
   have e0 : (0 : Nat)+j=j:=Nat.zero_add j
   have h3 : j<(prC (rcL d)).length:=by omega
   have:=fun Hq=>fz_prC (S:=fun id=>H.next≤id) (H:=Hq) (nx:=H.next) (rcL d) _ (List.getElem_mem h3)
   simpa only [e0] using this _
end Go.Proofs
set_option linter.unusedSimpArgs false
set_option maxRecDepth 100000
namespace Go.Proofs
open Go.Hx
/-- Lists of choices, as many and as great as they may be. -/
def RowsFit (l : List (Int × Int)) (ps : List (List Int)) : Prop:=ps.length=l.length∧∀ (k : Nat) (p : Int × Int) (r : List Int),l[k]?=some p→ps[k]?=some r→(r.length : Int)=p.1∧∀ a∈r,0≤a∧a<p.2
theorem polOk_rows {d : InfP} {p : List (List Int)} : PolOk d p↔RowsFit (rcL d) p:=by
 have hg : ∀ (k v : Nat) (x : NodeP),(decL d)[k]?=some v→d.nodes[v]?=some x→(rcL d)[k]?=some ((rowsN d.nodes x : Int),x.card):=fun k v x hv hx=>by
  unfold rcL
  rw [List.getElem?_map,hv,Option.map_some]
  unfold rcN
  rw [hx]
 constructor
 ·intro h
  refine ⟨by rw [h.len];simp [rcL],fun k q r hq hr=>?_⟩
  obtain ⟨v,hv⟩:=get_of_lt (l:=decL d) (i:=k) (by have:=get_lt hr;rw [h.len] at this;exact this)
  obtain ⟨v1,_⟩:=decK_place hv
  obtain ⟨x,hx⟩:=get_of_lt v1
  rw [hg k v x hv hx] at hq
  cases hq
  obtain ⟨a,b⟩:=h.row k v x r hv hx hr
  exact ⟨by rw [a],b⟩
 ·intro h
  refine ⟨by rw [h.1];simp [rcL],fun k v x l hv hx hl=>?_⟩
  obtain ⟨a,b⟩:=h.2 k _ l (hg k v x hv hx) hl
  exact ⟨by simp only at a;omega,b⟩

set_option maxHeartbeats 4000000 in
theorem choose20_spec (d : InfP) (hf : InfFit d) (hok : InfOk d) (bs : List Int) (hbl : (bs.length : Int)<2 ^ 63) (hb8 : ∀ x∈bs,U8 x) (H : AHeap) (K : ARes→AHeap→Prop) (hK : ∀ p,PolOk d p→K (.ret (vecV p)) H) : ACall Try.prog G0 19 [infE d,.vec bs.length (bytesL bs)] H K:=by
 refine ACall.clo ⟨_,Try.func19,rfl,rfl⟩ fun hcl=>?_
 have hn8:=hok.n.n1.2
 refine ACall.of_body (n:=57) (rs:=[.tmp 4]) Try.func19 rfl rfl rfl (by decide) (by kernel_rfl) (by simp) ?_
 simp only [go_sem,Nat.reduceEqDiff,Nat.reduceAdd,infE_eq,infEC,appendA_U]
 obtain ⟨H1,hH1⟩ : ∃ H1,H1=ext H [.arr 0 39 [.lit (.int .i64 d.grain),.vec d.nodes.length (nodesE d.nodes),.lit (.int .u64 (d.decs : Int)),.vec d.utils.length (utilsC d.utils)]]:=⟨_,rfl⟩
 have n1 : H1.next=H.next+1:=by rw [hH1];rfl
 have o1 : Over H H1:=by rw [hH1];exact .ext _ _
 rw [← hH1]
 clear hH1
 refine AApply.clo (rows20_spec d hf hok _ _ ⟨trivial,?_⟩)
 have rl : (rcL d).length=(decL d).length:=by simp [rcL]
 have dl8 : (decL d).length≤d.nodes.length:=decK_len
 have rr : ∀ p∈rcL d,1≤p.1∧p.1≤1024∧1≤p.2∧p.2≤4:=fun p hp=>by
  unfold rcL at hp
  obtain ⟨v,hv,rfl⟩:=List.mem_map.1 hp
  obtain ⟨v1,v2⟩:=mem_decK.1 hv
  exact rcN_rng hok v1 v2
 generalize hL : rcL d=L at rl rr
 simp only [go_sem,Nat.reduceEqDiff,appendA_U]
 refine W.loop0 72057594037915552 (by rfl) (fun ρ Hx=>∃ (k at' : Nat) (ps : List (List Int)),ρ 8=lin k∧k≤L.length∧ρ 7=lin at'∧at'≤k*1024∧H1.next≤Hx.next∧(∀ id,id<H1.next→Hx.get id=H1.get id)∧OwnG2 H1.next Hx 59 3 (ρ 5) (ps.map ints)∧RowsFit (L.take k) ps) (fun ρ H=>L.length - (iv (ρ 8)).toNat) ?_ ?_
 ·simp only [go_sem,Nat.reduceEqDiff,appendA_U]
  exact ⟨0,0,[],rfl,by omega,rfl,by omega,.nil,rfl,fun k p r _ h=>by simp at h⟩
 rintro ρ Hx ⟨k,at',ps,h8,hk,h7,hat,hnx,hold,h5,hfit⟩
 obtain ⟨ov,hov⟩ : ∃ ov,ov=ρ 5:=⟨_,rfl⟩
 rw [← hov] at h5
 refine W.env fun E hE=>?_
 have e1 : E 1=.vec bs.length (bytesL bs):=by rw [hE];simp only [go_sem,Nat.reduceEqDiff,Nat.reducePow,Nat.reduceDiv,Nat.reduceMod,reduceCtorEq,appendA_U]
 have e5 : E 5=ov:=by rw [hE];simp only [go_sem,Nat.reduceEqDiff,Nat.reducePow,Nat.reduceDiv,Nat.reduceMod,hov,appendA_U]
 have e6 : E 6=.vec L.length (prC L):=by rw [hE];simp only [go_sem,Nat.reduceEqDiff,Nat.reducePow,Nat.reduceDiv,Nat.reduceMod,reduceCtorEq,appendA_U]
 have e7 : E 7=lin at':=by rw [hE];simp only [go_sem,Nat.reduceEqDiff,Nat.reducePow,Nat.reduceDiv,Nat.reduceMod,h7,appendA_U]
 have e8 : E 8=lin k:=by rw [hE];simp only [go_sem,Nat.reduceEqDiff,Nat.reducePow,Nat.reduceDiv,Nat.reduceMod,h8,appendA_U]
 clear hE
 refine vc_sound _ _ _ (by rfl) ?_
 by_cases hb : (k : Int)<L.length
 ·obtain ⟨⟨c1,c2⟩,hp⟩:=get_of_lt (l:=L) (i:=k) (by omega)
  obtain ⟨r1,r2,r3,r4⟩:=rr _ (List.mem_of_getElem? hp)
  dsimp only at r1 r2 r3 r4
  have p0:=prC_0 hp
  have p1:=prC_1 hp
  have pne:=prC_ne hp
  have w1:=IntWalk.i64_in ((k : Int)+1) (by omega)
  simp only [go_sem,Nat.reduceEqDiff,Nat.reducePow,Nat.reduceDiv,Nat.reduceMod,e1,e5,e6,e7,e8,hb,appendA_U]
  refine W.loop0 4503599626325632 (by rfl) (fun ρ2 Hy=>∃ (j : Nat) (q : List Int),ρ2 10=lin j∧(j : Int)≤c1∧q.length=j∧ρ2 7=lin ((at'+j : Nat) : Int)∧(∀ a∈q,0≤a∧a<c2)∧Over Hx Hy∧OwnG Hx.next Hy 3 (ρ2 9) (ints q)) (fun ρ2 H=>c1.toNat - (iv (ρ2 10)).toNat) ?_ ?_
  ·simp only [go_sem,Nat.reduceEqDiff,e7,appendA_U]
   exact ⟨0,[],rfl,by omega,rfl,rfl,by simp,.refl _,.nil⟩
  rintro ρ2 Hy ⟨j,q,h10,hj,hql,h7',hq,hxy,h9⟩
  obtain ⟨qv,hqv⟩ : ∃ qv,qv=ρ2 9:=⟨_,rfl⟩
  rw [← hqv] at h9
  refine W.env fun E2 hE2=>?_
  have f1 : E2 1=.vec bs.length (bytesL bs):=by rw [hE2];simp only [go_sem,Nat.reduceEqDiff,Nat.reducePow,Nat.reduceDiv,Nat.reduceMod,reduceCtorEq,e1,appendA_U]
  have f5 : E2 5=ov:=by rw [hE2];simp only [go_sem,Nat.reduceEqDiff,Nat.reducePow,Nat.reduceDiv,Nat.reduceMod,reduceCtorEq,e5,appendA_U]
  have f6 : E2 6=.vec L.length (prC L):=by rw [hE2];simp only [go_sem,Nat.reduceEqDiff,Nat.reducePow,Nat.reduceDiv,Nat.reduceMod,reduceCtorEq,e6,appendA_U]
  have f7 : E2 7=lin ((at'+j : Nat) : Int):=by rw [hE2];simp only [go_sem,Nat.reduceEqDiff,Nat.reducePow,Nat.reduceDiv,Nat.reduceMod,h7',appendA_U]
  have f8 : E2 8=lin k:=by rw [hE2];simp only [go_sem,Nat.reduceEqDiff,Nat.reducePow,Nat.reduceDiv,Nat.reduceMod,reduceCtorEq,e8,appendA_U]
  have f9 : E2 9=qv:=by rw [hE2];simp only [go_sem,Nat.reduceEqDiff,Nat.reducePow,Nat.reduceDiv,Nat.reduceMod,hqv,appendA_U]
  have f10 : E2 10=lin j:=by rw [hE2];simp only [go_sem,Nat.reduceEqDiff,Nat.reducePow,Nat.reduceDiv,Nat.reduceMod,h10,appendA_U]
  clear hE2
  refine vc_sound _ _ _ (by rfl) ?_
  by_cases hb2 : (j : Int)<c1
  ·obtain ⟨m,hm⟩ : ∃ m : Nat,m=at'+j:=⟨_,rfl⟩
   rw [← hm] at f7
   have w2:=IntWalk.i64_in ((j : Int)+1) (by omega)
   have w3:=IntWalk.i64_in ((m : Int)+1) (by omega)
   have app : ∀ a : Int,0≤a∧a<c2→∃ v' H2,appendA Try.prog (ext Hy [.arr 0 3 [.lit (.int .i64 a)]]) (Hy.next+1) 59 59 qv (.own Hy.next 0 0 1 1)=some (v',H2)∧Hx.next≤H2.next∧∀ a' ,a'=a→(∀ b∈q++[a'],0≤b∧b<c2)∧Over Hx H2∧OwnG Hx.next H2 3 v' (ints (q++[a'])):=fun a ha=>by
    obtain ⟨v',H2,hA,ho2,hO2,hn2,_⟩:=app_int a hxy h9 (by omega)
    refine ⟨v',H2,hA,by have:=hxy.next;omega,fun a' ha'=>?_⟩
    subst ha'
    exact ⟨fun b hb=>by rcases List.mem_append.1 hb with h|h;exact hq b h;obtain rfl:=List.mem_singleton.1 h;exact ha,ho2,hO2⟩
   by_cases hz : (bs.length : Int) > 0
   ·have hzn : ¬ (bs.length : Int)=0:=by omega
    have m1 : (m : Int).tmod bs.length=((m % bs.length : Nat) : Int):=by rw [Int.tmod_eq_emod_of_nonneg (by omega)];rfl
    have m2:=Nat.mod_lt m (show bs.length > 0 by omega)
    obtain ⟨z,hzz⟩ : ∃ z,z=m % bs.length:=⟨_,rfl⟩
    rw [← hzz] at m1 m2
    have hz0 : (z : Int) ≥ 0:=by omega
    have hzl : (z : Int)<bs.length:=by omega
    obtain ⟨b,hbg⟩:=get_of_lt (l:=bs) (i:=z) m2
    have b8:=hb8 b (List.mem_of_getElem? hbg)
    have hbg':=bytesL_get hbg
    have hbne:=ne_of_get hbg'
    unfold U8 at b8
    have w4 : IntKind.i64.wrap b=b:=IntWalk.i64_in _ (by omega)
    have c2n : ¬ c2=0:=by omega
    have tb : b.tmod c2=b % c2:=Int.tmod_eq_emod_of_nonneg b8.1
    have tb0:=Int.emod_nonneg b c2n
    have tb1:=Int.emod_lt_of_pos b (show 0<c2 by omega)
    have w5 : IntKind.i64.wrap (b % c2)=b % c2:=IntWalk.i64_in _ (by omega)
    obtain ⟨v',Hj,hA,hjn,fin⟩:=app (b % c2) ⟨tb0,tb1⟩
    obtain ⟨fi1,fi2,fi3⟩:=fin _ rfl
    simp only [go_sem,Int.reduceToNat,Int.reduceLT,Nat.reduceEqDiff,Nat.reducePow,Nat.reduceDiv,Nat.reduceMod,f1,f5,f6,f7,f8,f9,f10,p0,p1,pne,hb,hb2,hz,appendA_U]
    refine W.draw 13 [0,0,0,4,14,31,63,127,0,0,768,1792,3840] Try.mixed (by kernel_rfl) (by kernel_rfl) ?_
    simp only [go_sem,Int.reduceToNat,Int.reduceLE,Int.reduceLT,Nat.reduceEqDiff,Nat.reducePow,Nat.reduceAdd,Nat.reduceLeDiff,f1,f5,f6,f7,f8,f9,f10,p0,p1,pne,hb,hb2,hz,hzn,m1,hz0,hzl,hbg',hbne,w4,c2n,tb,w5,w2,w3,hA]
    exact ⟨by omega,⟨j+1,q++[_],rfl,by omega,by simp;omega,by rw [show ((at'+(j+1) : Nat) : Int)=(m : Int)+1 by omega],fi1,fi2,fi3⟩,by rw [h10];simp only [lin,iv_int];omega⟩
   ·obtain ⟨v',Hj,hA,hjn,fin⟩:=app 0 ⟨by omega,by omega⟩
    obtain ⟨fi1,fi2,fi3⟩:=fin _ rfl
    simp only [go_sem,Int.reduceToNat,Int.reduceLT,Nat.reduceEqDiff,Nat.reducePow,Nat.reduceDiv,Nat.reduceMod,Nat.reduceLeDiff,f1,f5,f6,f7,f8,f9,f10,p0,p1,pne,hb,hb2,hz,w2,w3,hA]
    exact ⟨by omega,⟨j+1,q++[_],rfl,by omega,by simp;omega,by rw [show ((at'+(j+1) : Nat) : Int)=(m : Int)+1 by omega],fi1,fi2,fi3⟩,by rw [h10];simp only [lin,iv_int];omega⟩
  ·have hjc : (j : Int)=c1:=by omega
   have h9' : OwnG H1.next Hy 3 qv (ints q):=h9.keep hnx (Nat.le_refl _) fun _ _ _ _ _ _=>rfl
   have xyn:=hxy.next
   obtain ⟨ov',Hj,hA,hO',hnj,hpj⟩:=OwnG2.app (P:=Try.prog) (n:=Hy.next+1) (t:=48) Try.underlying48 Try.cells59 Try.zero59 Try.bytes59 (by decide) (by rw [List.length_map,hfit.1,List.length_take];omega) (h5.over hxy) (by omega) h9' rfl
   have qvc:=h9.cells
   simp only [go_sem,Int.reduceToNat,Int.reduceLT,Nat.reduceEqDiff,Nat.reducePow,Nat.reduceDiv,Nat.reduceMod,Nat.reduceLeDiff,reduceCtorEq,f1,f5,f6,f7,f8,f9,f10,p0,p1,pne,hb,hb2,w1,qvc,List.length_singleton,List.drop_one,List.tail_cons,List.append_nil,hA]
   have pl:=hfit.1
   rw [List.length_take] at pl
   refine ⟨by omega,⟨k+1,at'+j,ps++[q],rfl,by omega,rfl,by omega,by omega,fun id h=>by rw [hpj id (by omega) h,hxy.old id (by omega)];exact hold id h,by rw [List.map_append];exact hO',by rw [take_succ_get hp];simp;omega,fun i p r hp' hr=>?_⟩,by rw [h8];simp only [lin,iv_int];omega⟩
   rw [take_succ_get hp] at hp'
   rcases Nat.lt_or_ge i ps.length with h|h
   ·rw [List.getElem?_append_left h] at hr
    rw [List.getElem?_append_left (by rw [List.length_take];omega)] at hp'
    exact hfit.2 i p r hp' hr
   ·have hi:=get_lt hr
    simp at hi
    obtain rfl : i=ps.length:=by omega
    rw [List.getElem?_append_right (by omega)] at hr
    rw [List.getElem?_append_right (by rw [List.length_take];omega),List.length_take] at hp'
    rw [Nat.sub_self] at hr
    rw [show ps.length - min k L.length=0 by omega] at hp'
    cases hr
    cases hp'
    exact ⟨by omega,hq⟩
 ·simp only [go_sem,Nat.reduceEqDiff,Nat.reducePow,Nat.reduceDiv,Nat.reduceMod,e1,e5,e6,e7,e8,hb,appendA_U]
  have hke : k=L.length:=by omega
  rw [hke,List.take_of_length_le (Nat.le_refl _)] at hfit
  refine FinV.dropO (v':=vecV ps) G0_ok hcl ⟨by omega,fun id h=>by rw [hold id (by omega)];exact o1.old id h⟩ ?_ (hK ps (polOk_rows.2 (by rw [hL];exact hfit)))
  have:=h5.fz (S:=fun id=>H.next≤id) (nx:=H.next) (rows':=ps.map ints) (fun i h=>by omega) rfl fun j r r' h1 h2=>by
   rw [h1] at h2
   cases h2
   refine ⟨rfl,fun i hi _=>?_⟩
   rw [List.getElem?_map] at h1
   obtain ⟨z,_,rfl⟩:=Option.map_eq_some_iff.1 h1
   have e0 : (ints z)[i]?=some (ints z)[i]:=List.getElem?_eq_getElem hi
   generalize (ints z)[i]=a at e0 ⊢
   rw [ints_get] at e0
   obtain ⟨b,_,rfl⟩:=Option.map_eq_some_iff.1 e0
   exact .lit _
  rw [List.length_map,List.map_map] at this
  have e : (ps.map ((fun r : List AVal=>AVal.vec r.length r) ∘ ints))=ps.map vecI:=List.map_congr_left fun z _=>by simp [Function.comp,vecI,ints_length]
  rw [e] at this
  exact this
end Go.Proofs
set_option linter.unusedSimpArgs false
set_option maxRecDepth 100000
namespace Go.Hx
open Go.Proofs.R01 (pureRun_bind)
variable {P : Program} {t e : TypeId} {x y : Operand} {k k' : IntKind} {a b c d : Int}
theorem equalIn_int (n : Nat) (he : P.underlying e=some (.int k)) : pureRun P (Op.equalIn (n+1) e (.int k' a) (.int k' b))=some (a == b):=by
 unfold Op.equalIn
 simp [underlying,program,he,pureRun,bind,Sem.bind,pure]
theorem equalIn_duo (n : Nat) {f g : Field} (ht : P.underlying t = some (.struct #[f, g])) (hsi : P.stoodInHeld t = false) (hf : f.type = e) (hg : g.type = e) (fn : f.name ≠ "_") (gn : g.name ≠ "_") (fo : f.offset = 0) (go : g.offset = 1) (he : P.underlying e = some (.int k)) :
  pureRun P (Op.equalIn (n+2) t (.agg #[.int k' a,.int k' b]) (.agg #[.int k' c,.int k' d]))=some (a == c && b == d):=by
 unfold Op.equalIn
 have e1 : ∀ {α : Type} (f' : TypeDesc→Sem α),pureRun P (underlying t >>= f')=pureRun P (f' (.struct #[f,g])):=fun f'=>pureRun_bind (by simp [underlying,program,ht,pureRun,bind,Sem.bind,pure])
 have e0 : ∀ {α : Type} (f' : Program→Sem α),pureRun P (program >>= f')=pureRun P (f' P):=fun f'=>pureRun_bind (by simp [program,pureRun])
 have e3 : ∀ {α : Type} (cs : Array Value) (o : Nat) (v : Value) (f' : Value→Sem α),cs[o]?=some v→pureRun P (part e cs o >>= f')=pureRun P (f' v):=fun cs o v f' h=>pureRun_bind (by simp [part,isAgg,underlying,program,he,h,pureRun,bind,Sem.bind,pure])
 have e4 : ∀ {α : Type} (p q : Int) (f' : Bool→Sem α),pureRun P (Op.equalIn (n+1) e (.int k' p) (.int k' q) >>= f')=pureRun P (f' (p == q)):=fun p q f'=>pureRun_bind (equalIn_int n he)
 rw [e1]
 dsimp only
 rw [e0,hsi]
 simp only [Bool.false_eq_true,if_false,← Array.forIn_toList,List.forIn_cons,List.forIn_nil,fn,gn,hf,hg,fo,go,ne_eq,not_false_eq_true,if_true,bind_assoc,pure_bind]
 rw [e3 _ _ (.int k' a) _ rfl,e3 _ _ (.int k' c) _ rfl,e4]
 by_cases h : (a == c)=true
 ·rw [h]
  simp only [Bool.not_true,Bool.false_eq_true,if_false,pure_bind,bind_assoc]
  rw [e3 _ _ (.int k' b) _ rfl,e3 _ _ (.int k' d) _ rfl,e4]
  by_cases h2 : (b == d)=true
  ·rw [h2];rfl
  ·rw [Bool.not_eq_true] at h2;rw [h2];rfl
 ·rw [Bool.not_eq_true] at h;rw [h];rfl
theorem bin_eql_duo {P : Program} {t e : TypeId} {x y : Operand} {k k' : IntKind} {a b c d : Int} {f g : Field} (ht : P.underlying t = some (.struct #[f, g])) (hsi : P.stoodInHeld t = false) (hf : f.type = e) (hg : g.type = e) (fn : f.name ≠ "_") (gn : g.name ≠ "_") (fo : f.offset = 0) (go : g.offset = 1) (he : P.underlying e = some (.int k)) (hq : P.eqGuardType P.depth t = false) :
  binA P .eql t x y (.agg [.lit (.int k' a),.lit (.int k' b)]) (.agg [.lit (.int k' c),.lit (.int k' d)])=some (.lit (.bool (a == c && b == d))):=by
 show (pureRun P (do eqGuard .eql t x y (.agg #[.int k' a,.int k' b]) (.agg #[.int k' c,.int k' d]);binOp .eql t (.agg #[.int k' a,.int k' b]) (.agg #[.int k' c,.int k' d]))).map _=_
 have h0 : pureRun P (eqGuard .eql t x y (.agg #[.int k' a,.int k' b]) (.agg #[.int k' c,.int k' d]))=some ():=by
  simp [eqGuard,program,hq,pureRun,bind,Sem.bind,pure]
 have h1 : binOp .eql t (.agg #[.int k' a,.int k' b]) (.agg #[.int k' c,.int k' d])=(Op.equalIn (9998+2) t (.agg #[.int k' a,.int k' b]) (.agg #[.int k' c,.int k' d]) >>= fun r=>pure (Value.bool r)):=rfl
 rw [pureRun_bind h0,h1,pureRun_bind (equalIn_duo 9998 ht hsi hf hg fn gn fo go he)]
 rfl
attribute [go_sem] nilOf_agg
end Go.Hx
namespace Go.Proofs
open Go.Hx
theorem eqlQ {o1 o2 : Operand} (a b c d : Int) : binA Try.prog .eql 68 o1 o2 (.agg [.lit (.int .i64 a),.lit (.int .i64 b)]) (.agg [.lit (.int .i64 c),.lit (.int .i64 d)])=some (.lit (.bool (a == c && b == d))) :=
 bin_eql_duo Try.underlying68 (by kernel_rfl) rfl rfl (by decide) (by decide) rfl rfl Try.underlying3 (by kernel_rfl)
end Go.Proofs
/-
  Calls of this seat's program, reckoned out by the evaluator: what each of them gives. Laid by a program of ours.
-/
namespace Go.Proofs
open Go.Hx
set_option maxRecDepth 100000
theorem Try.mixedK : Try.prog.follows .mixedOrders=true:=by kernel_rfl
noncomputable def Try.ep0 : EP:={ P:=Try.prog,G:=noGl,gd:=fun _=>none,known:=knownOf [] }
theorem Try.ep0_ok : EOk Try.ep0:=.of_known (l:=[]) rfl noGl_ok Try.mixedK (fun _ _ h=>by cases h) trivial
def Try.ka11_0 : List AVal:=[.agg [.lit (.int .i64 1),.vec 6 [.lit (.int .i64 2),.lit (.slice none 0 0),.vec 1 [.vec 2 [.lit (.int .i64 1),.lit (.int .i64 0)]],.lit (.int .i64 2),.lit (.slice none 0 0),.vec 1 [.vec 2 [.lit (.int .i64 1),.lit (.int .i64 0)]],.lit (.int .i64 2),.lit (.slice none 0 0),.vec 1 [.vec 2 [.lit (.int .i64 1),.lit (.int .i64 0)]],.lit (.int .i64 2),.vec 3 [.lit (.int .i64 0),.lit (.int .i64 1),.lit (.int .i64 2)],.lit (.slice none 0 0),.lit (.int .i64 2),.vec 1 [.lit (.int .i64 0)],.lit (.slice none 0 0),.lit (.int .i64 2),.vec 1 [.lit (.int .i64 1)],.lit (.slice none 0 0)],.lit (.int .u64 56),.lit (.slice none 0 0)]]
def Try.kv11_0 : AVal:=.lit (.int .i64 0)
theorem Try.kc11_0 : chk Try.ep0 1000000 11 Try.ka11_0 Try.kv11_0=true:=by kernel_rfl
def Try.ka11_1 : List AVal:=[.agg [.lit (.int .i64 1),.vec 7 [.lit (.int .i64 2),.lit (.slice none 0 0),.vec 1 [.vec 2 [.lit (.int .i64 1),.lit (.int .i64 0)]],.lit (.int .i64 2),.lit (.slice none 0 0),.vec 1 [.vec 2 [.lit (.int .i64 1),.lit (.int .i64 0)]],.lit (.int .i64 2),.lit (.slice none 0 0),.vec 1 [.vec 2 [.lit (.int .i64 1),.lit (.int .i64 0)]],.lit (.int .i64 2),.vec 3 [.lit (.int .i64 0),.lit (.int .i64 1),.lit (.int .i64 2)],.lit (.slice none 0 0),.lit (.int .i64 2),.vec 1 [.lit (.int .i64 0)],.lit (.slice none 0 0),.lit (.int .i64 2),.vec 1 [.lit (.int .i64 1)],.lit (.slice none 0 0),.lit (.int .i64 2),.lit (.slice none 0 0),.lit (.slice none 0 0)],.lit (.int .u64 120),.lit (.slice none 0 0)]]
def Try.kv11_1 : AVal:=.lit (.int .i64 0)
theorem Try.kc11_1 : chk Try.ep0 1000000 11 Try.ka11_1 Try.kv11_1=true:=by kernel_rfl
def Try.ka11_2 : List AVal:=[.agg [.lit (.int .i64 60),.vec 1 [.lit (.int .i64 1),.lit (.slice none 0 0),.vec 1 [.vec 1 [.lit (.int .i64 60)]]],.lit (.int .u64 0),.lit (.slice none 0 0)]]
def Try.kv11_2 : AVal:=.lit (.int .i64 0)
theorem Try.kc11_2 : chk Try.ep0 1000000 11 Try.ka11_2 Try.kv11_2=true:=by kernel_rfl
def Try.ka11_3 : List AVal:=[.agg [.lit (.int .i64 60),.vec 1 [.lit (.int .i64 1),.lit (.slice none 0 0),.vec 1 [.vec 1 [.lit (.int .i64 60)]]],.lit (.int .u64 0),.vec 4 [.lit (.slice none 0 0),.vec 1 [.lit (.int .i64 100)],.lit (.slice none 0 0),.vec 1 [.lit (.int .i64 100)],.lit (.slice none 0 0),.vec 1 [.lit (.int .i64 100)],.lit (.slice none 0 0),.vec 1 [.lit (.int .i64 100)]]]]
def Try.kv11_3 : AVal:=.lit (.int .i64 0)
theorem Try.kc11_3 : chk Try.ep0 1000000 11 Try.ka11_3 Try.kv11_3=true:=by kernel_rfl
def Try.ka11_4 : List AVal:=[.agg [.lit (.int .i64 0),.lit (.slice none 0 0),.lit (.int .u64 0),.lit (.slice none 0 0)]]
def Try.kv11_4 : AVal:=.lit (.int .i64 200)
theorem Try.kc11_4 : chk Try.ep0 1000000 11 Try.ka11_4 Try.kv11_4=true:=by kernel_rfl
def Try.ka11_5 : List AVal:=[.agg [.lit (.int .i64 4),.vec 3 [.lit (.int .i64 2),.lit (.slice none 0 0),.vec 1 [.vec 2 [.lit (.int .i64 1),.lit (.int .i64 3)]],.lit (.int .i64 2),.vec 1 [.lit (.int .i64 0)],.lit (.slice none 0 0),.lit (.int .i64 2),.vec 2 [.lit (.int .i64 0),.lit (.int .i64 1)],.vec 4 [.vec 2 [.lit (.int .i64 4),.lit (.int .i64 0)],.vec 2 [.lit (.int .i64 2),.lit (.int .i64 2)],.vec 2 [.lit (.int .i64 0),.lit (.int .i64 4)],.vec 2 [.lit (.int .i64 1),.lit (.int .i64 3)]]],.lit (.int .u64 2),.vec 1 [.vec 2 [.lit (.int .i64 1),.lit (.int .i64 2)],.vec 4 [.lit (.int .i64 0),.lit (.int .i64 10),.lit (.int .i64 (-2)),.lit (.int .i64 8)]]]]
def Try.kv11_5 : AVal:=.lit (.int .i64 0)
theorem Try.kc11_5 : chk Try.ep0 1000000 11 Try.ka11_5 Try.kv11_5=true:=by kernel_rfl
def Try.ka11_6 : List AVal:=[.agg [.lit (.int .i64 4),.vec 3 [.lit (.int .i64 2),.lit (.slice none 0 0),.vec 1 [.vec 2 [.lit (.int .i64 1),.lit (.int .i64 3)]],.lit (.int .i64 2),.vec 1 [.lit (.int .i64 0)],.vec 2 [.vec 2 [.lit (.int .i64 4),.lit (.int .i64 0)],.vec 2 [.lit (.int .i64 4),.lit (.int .i64 0)]],.lit (.int .i64 2),.vec 2 [.lit (.int .i64 0),.lit (.int .i64 1)],.vec 4 [.vec 2 [.lit (.int .i64 4),.lit (.int .i64 0)],.vec 2 [.lit (.int .i64 2),.lit (.int .i64 2)],.vec 2 [.lit (.int .i64 0),.lit (.int .i64 4)],.vec 2 [.lit (.int .i64 1),.lit (.int .i64 3)]]],.lit (.int .u64 2),.vec 1 [.vec 2 [.lit (.int .i64 1),.lit (.int .i64 2)],.vec 4 [.lit (.int .i64 0),.lit (.int .i64 10),.lit (.int .i64 (-2)),.lit (.int .i64 8)]]]]
def Try.kv11_6 : AVal:=.lit (.int .i64 200)
theorem Try.kc11_6 : chk Try.ep0 1000000 11 Try.ka11_6 Try.kv11_6=true:=by kernel_rfl
def Try.ka11_7 : List AVal:=[.agg [.lit (.int .i64 4),.vec 3 [.lit (.int .i64 2),.lit (.slice none 0 0),.vec 1 [.vec 2 [.lit (.int .i64 1),.lit (.int .i64 3)]],.lit (.int .i64 2),.vec 1 [.lit (.int .i64 0)],.lit (.slice none 0 0),.lit (.int .i64 2),.vec 2 [.lit (.int .i64 0),.lit (.int .i64 1)],.vec 4 [.vec 2 [.lit (.int .i64 4),.lit (.int .i64 0)],.vec 2 [.lit (.int .i64 2),.lit (.int .i64 2)],.vec 2 [.lit (.int .i64 0),.lit (.int .i64 4)],.vec 2 [.lit (.int .i64 1),.lit (.int .i64 3)]]],.lit (.int .u64 2),.vec 1 [.vec 2 [.lit (.int .i64 1),.lit (.int .i64 2)],.vec 3 [.lit (.int .i64 0),.lit (.int .i64 10),.lit (.int .i64 (-2))]]]]
def Try.kv11_7 : AVal:=.lit (.int .i64 200)
theorem Try.kc11_7 : chk Try.ep0 1000000 11 Try.ka11_7 Try.kv11_7=true:=by kernel_rfl
def Try.ka11_8 : List AVal:=[.agg [.lit (.int .i64 4),.vec 3 [.lit (.int .i64 2),.lit (.slice none 0 0),.vec 1 [.vec 2 [.lit (.int .i64 1),.lit (.int .i64 3)]],.lit (.int .i64 2),.vec 1 [.lit (.int .i64 0)],.lit (.slice none 0 0),.lit (.int .i64 2),.vec 2 [.lit (.int .i64 0),.lit (.int .i64 1)],.vec 4 [.vec 2 [.lit (.int .i64 4),.lit (.int .i64 0)],.vec 2 [.lit (.int .i64 2),.lit (.int .i64 2)],.vec 2 [.lit (.int .i64 0),.lit (.int .i64 4)],.vec 2 [.lit (.int .i64 1),.lit (.int .i64 3)]]],.lit (.int .u64 2),.vec 1 [.vec 2 [.lit (.int .i64 1),.lit (.int .i64 2)],.vec 4 [.lit (.int .i64 101),.lit (.int .i64 10),.lit (.int .i64 (-2)),.lit (.int .i64 8)]]]]
def Try.kv11_8 : AVal:=.lit (.int .i64 200)
theorem Try.kc11_8 : chk Try.ep0 1000000 11 Try.ka11_8 Try.kv11_8=true:=by kernel_rfl
def Try.ka11_9 : List AVal:=[.agg [.lit (.int .i64 4),.vec 3 [.lit (.int .i64 2),.lit (.slice none 0 0),.vec 1 [.vec 2 [.lit (.int .i64 1),.lit (.int .i64 3)]],.lit (.int .i64 2),.vec 1 [.lit (.int .i64 0)],.lit (.slice none 0 0),.lit (.int .i64 2),.vec 2 [.lit (.int .i64 0),.lit (.int .i64 1)],.vec 4 [.vec 2 [.lit (.int .i64 4),.lit (.int .i64 0)],.vec 2 [.lit (.int .i64 2),.lit (.int .i64 2)],.vec 2 [.lit (.int .i64 0),.lit (.int .i64 4)],.vec 2 [.lit (.int .i64 1),.lit (.int .i64 3)]]],.lit (.int .u64 2),.vec 1 [.vec 2 [.lit (.int .i64 2),.lit (.int .i64 1)],.vec 4 [.lit (.int .i64 0),.lit (.int .i64 10),.lit (.int .i64 (-2)),.lit (.int .i64 8)]]]]
def Try.kv11_9 : AVal:=.lit (.int .i64 200)
theorem Try.kc11_9 : chk Try.ep0 1000000 11 Try.ka11_9 Try.kv11_9=true:=by kernel_rfl
def Try.ka11_10 : List AVal:=[.agg [.lit (.int .i64 60),.vec 1 [.lit (.int .i64 1),.lit (.slice none 0 0),.vec 1 [.vec 1 [.lit (.int .i64 60)]]],.lit (.int .u64 0),.vec 5 [.lit (.slice none 0 0),.vec 1 [.lit (.int .i64 100)],.lit (.slice none 0 0),.vec 1 [.lit (.int .i64 100)],.lit (.slice none 0 0),.vec 1 [.lit (.int .i64 100)],.lit (.slice none 0 0),.vec 1 [.lit (.int .i64 100)],.lit (.slice none 0 0),.vec 1 [.lit (.int .i64 0)]]]]
def Try.kv11_10 : AVal:=.lit (.int .i64 200)
theorem Try.kc11_10 : chk Try.ep0 1000000 11 Try.ka11_10 Try.kv11_10=true:=by kernel_rfl
def Try.ka11_11 : List AVal:=[.agg [.lit (.int .i64 1),.vec 2 [.lit (.int .i64 2),.vec 1 [.lit (.int .i64 1)],.lit (.slice none 0 0),.lit (.int .i64 2),.vec 1 [.lit (.int .i64 0)],.lit (.slice none 0 0)],.lit (.int .u64 3),.lit (.slice none 0 0)]]
def Try.kv11_11 : AVal:=.lit (.int .i64 200)
theorem Try.kc11_11 : chk Try.ep0 1000000 11 Try.ka11_11 Try.kv11_11=true:=by kernel_rfl
def Try.ka11_12 : List AVal:=[.agg [.lit (.int .i64 1),.vec 1 [.lit (.int .i64 2),.lit (.slice none 0 0),.lit (.slice none 0 0)],.lit (.int .u64 3),.lit (.slice none 0 0)]]
def Try.kv11_12 : AVal:=.lit (.int .i64 200)
theorem Try.kc11_12 : chk Try.ep0 1000000 11 Try.ka11_12 Try.kv11_12=true:=by kernel_rfl
def Try.ka11_13 : List AVal:=[.agg [.lit (.int .i64 61),.vec 1 [.lit (.int .i64 2),.lit (.slice none 0 0),.lit (.slice none 0 0)],.lit (.int .u64 1),.lit (.slice none 0 0)]]
def Try.kv11_13 : AVal:=.lit (.int .i64 200)
theorem Try.kc11_13 : chk Try.ep0 1000000 11 Try.ka11_13 Try.kv11_13=true:=by kernel_rfl
def Try.ka11_14 : List AVal:=[.agg [.lit (.int .i64 1),.vec 1 [.lit (.int .i64 5),.lit (.slice none 0 0),.lit (.slice none 0 0)],.lit (.int .u64 1),.lit (.slice none 0 0)]]
def Try.kv11_14 : AVal:=.lit (.int .i64 200)
theorem Try.kc11_14 : chk Try.ep0 1000000 11 Try.ka11_14 Try.kv11_14=true:=by kernel_rfl
def Try.ka11_15 : List AVal:=[.agg [.lit (.int .i64 1),.vec 1 [.lit (.int .i64 4),.lit (.slice none 0 0),.lit (.slice none 0 0)],.lit (.int .u64 1),.lit (.slice none 0 0)]]
def Try.kv11_15 : AVal:=.lit (.int .i64 0)
theorem Try.kc11_15 : chk Try.ep0 1000000 11 Try.ka11_15 Try.kv11_15=true:=by kernel_rfl
def Try.ka11_16 : List AVal:=[.agg [.lit (.int .i64 1),.vec 1 [.lit (.int .i64 2),.lit (.slice none 0 0),.lit (.slice none 0 0)],.lit (.int .u64 0),.lit (.slice none 0 0)]]
def Try.kv11_16 : AVal:=.lit (.int .i64 200)
theorem Try.kc11_16 : chk Try.ep0 1000000 11 Try.ka11_16 Try.kv11_16=true:=by kernel_rfl
def Try.kn11 : KTab:=[(Try.ka11_0,Try.kv11_0),(Try.ka11_1,Try.kv11_1),(Try.ka11_2,Try.kv11_2),(Try.ka11_3,Try.kv11_3),(Try.ka11_4,Try.kv11_4),(Try.ka11_5,Try.kv11_5),(Try.ka11_6,Try.kv11_6),(Try.ka11_7,Try.kv11_7),(Try.ka11_8,Try.kv11_8),(Try.ka11_9,Try.kv11_9),(Try.ka11_10,Try.kv11_10),(Try.ka11_11,Try.kv11_11),(Try.ka11_12,Try.kv11_12),(Try.ka11_13,Try.kv11_13),(Try.ka11_14,Try.kv11_14),(Try.ka11_15,Try.kv11_15),(Try.ka11_16,Try.kv11_16)]
theorem Try.kn11_ok : KOk Try.prog noGl 11 Try.kn11:=.cons (chk_ok Try.ep0_ok Try.kc11_0) (.cons (chk_ok Try.ep0_ok Try.kc11_1) (.cons (chk_ok Try.ep0_ok Try.kc11_2) (.cons (chk_ok Try.ep0_ok Try.kc11_3) (.cons (chk_ok Try.ep0_ok Try.kc11_4) (.cons (chk_ok Try.ep0_ok Try.kc11_5) (.cons (chk_ok Try.ep0_ok Try.kc11_6) (.cons (chk_ok Try.ep0_ok Try.kc11_7) (.cons (chk_ok Try.ep0_ok Try.kc11_8) (.cons (chk_ok Try.ep0_ok Try.kc11_9) (.cons (chk_ok Try.ep0_ok Try.kc11_10) (.cons (chk_ok Try.ep0_ok Try.kc11_11) (.cons (chk_ok Try.ep0_ok Try.kc11_12) (.cons (chk_ok Try.ep0_ok Try.kc11_13) (.cons (chk_ok Try.ep0_ok Try.kc11_14) (.cons (chk_ok Try.ep0_ok Try.kc11_15) (.cons (chk_ok Try.ep0_ok Try.kc11_16) .nil))))))))))))))))
noncomputable def Try.ep1 : EP:={ P:=Try.prog,G:=noGl,gd:=fun _=>none,known:=knownOf [(11,Try.kn11)] }
theorem Try.ep1_ok : EOk Try.ep1:=.of_known (l:=[(11,Try.kn11)]) rfl noGl_ok Try.mixedK (fun _ _ h=>by cases h) ⟨Try.kn11_ok,trivial⟩
def Try.ka18_0 : List AVal:=[]
def Try.kv18_0 : AVal:=.lit (.bool true)
theorem Try.kc18_0 : chk Try.ep1 1000000 18 Try.ka18_0 Try.kv18_0=true:=by kernel_rfl
theorem works_ok (H : AHeap) (K : ARes→AHeap→Prop) (hK : K (.ret (.lit (.bool true))) H) : ACall Try.prog G0 18 [] H K :=
 (ACall.frame (args':=[]) G0_ok rfl (fun i h _=>absurd h (Nat.not_lt_zero _)) (chk_ok Try.ep1_ok Try.kc18_0)).mono fun r H' ⟨h1,h2⟩=>by rw [h1,h2];exact hK
end Go.Proofs
set_option linter.unusedSimpArgs false
set_option maxRecDepth 100000
namespace Go.Hx
variable {P : Program} {G : Nat→Option (List AVal)}
theorem fzH_id {H : AHeap} (hc : Clo H) : FzH (fun _=>False) H H where
 gone id hs:=hs.elim
 kept id b _ hb:=by
  have hbb:=hc.below id b hb
  refine ⟨hc.lt id b hb,b,hb,?_⟩
  cases b with
  | rsv=>trivial
  | mp=>rfl
  | arr g e cells=>exact ⟨rfl,rfl,rfl,fun i h _=>.dead (hbb i h)⟩
  | loop st pend n env ps asg body=>exact ⟨rfl,rfl,rfl,rfl,rfl,rfl,rfl,fun t ht=>.dead (hbb t ht)⟩
 none id _ hb:=hb
/-- A call's arguments weakened: no block is let go. -/
theorem ACall.weakArgs {H : AHeap} {f : FuncId} {args args' : List AVal} {K : ARes→AHeap→Prop} (hG : GOk G) (hl : args'.length=args.length) (hv : ∀ i (h : i<args.length) (h' : i<args'.length),Fz (fun _=>False) H H.next args[i] args'[i])
  (h : ACall P G f args' H K) : ACall P G f args H K:=by
 refine ⟨h.1,fun Γ w cargs R hr=>?_⟩
 have F:=fzH_id R.clo
 have R0:=F.rel hG R
 have E0 : Evo Γ H w (gamF (fun _=>False) Γ) H w:=F.evo
 refine (h.2 _ w cargs R0 ⟨by have:=hr.1;omega,fun i h1 h2=>(hv i (by omega) h1).sound R F (hr.2 i (by omega) h2)⟩).mono ?_
 rintro e w' ⟨r,H',Γ',h1,h2,h3,h4,h5⟩
 exact ⟨r,H',Γ',h1,h2,h3,E0.trans (Nat.le_refl _) h4,h5⟩
end Go.Hx
namespace Go.Proofs
open Go.Hx
theorem fz_infE {S : Nat→Prop} {H : AHeap} {nx : Nat} (d : InfP) : Fz S H nx (infE d) (infV d):=by
 refine .agg rfl fun i hi _=>?_
 match i,hi with
 | 0,_=>exact .lit _
 | 1,_=>exact .vec (by rw [nodesE_len,nodesC_len]) fun j h h'=>fz_nodesE d.nodes j h h'
 | 2,_=>exact .lit _
 | 3,_=>exact .vec rfl fun j h h'=>fz_utilsC d.utils _ (List.getElem_mem h)

theorem eqv_spec (a b : List Int) (ha : (a.length : Int)<2 ^ 62) (H : AHeap) (K : ARes→AHeap→Prop) (hK : K (.ret (.lit (.bool (decide (a=b))))) H) : ACall Try.prog G0 33 [vecI a,vecI b] H K:=by
 refine ACall.of_body (n:=8) (rs:=[.tmp 4]) Try.func33 rfl rfl rfl (by decide) (by kernel_rfl) (by simp) ?_
 simp only [go_sem,Nat.reduceEqDiff,reduceCtorEq,appendA_U]
 refine AApply.clo (eq_spec a b ha _ _ ⟨trivial,?_⟩)
 simp only [go_sem,Nat.reduceEqDiff,appendA_U]
 exact FinV.mk (Nat.le_refl _) hK
theorem eqf_spec (a b : List (List Int)) (hal : (a.length : Int)<2 ^ 62) (ha : ∀ r∈a,(r.length : Int)<2 ^ 62) (H : AHeap) (K : ARes→AHeap→Prop) (hK : K (.ret (.lit (.bool (decide (a=b))))) H) :
  ACall Try.prog G0 32 [vecV a,vecV b,.clo 33 [] []] H K:=by
 refine ACall.of_body (n:=32) (rs:=[.tmp 6]) Try.func32 rfl rfl rfl (by decide) (by kernel_rfl) (by simp) ?_
 simp only [go_sem,Nat.reduceEqDiff,reduceCtorEq,vecV,appendA_U]
 by_cases hl : (a.length : Int)=b.length
 ·simp only [go_sem,Nat.reduceEqDiff,reduceCtorEq,hl,appendA_U]
  refine W.loop0 4294837184 (by rfl) (fun ρ Hx=>Hx=H∧∃ k : Nat,ρ 17=lin k∧k≤a.length∧a.take k=b.take k) (fun ρ H=>a.length - (iv (ρ 17)).toNat) ?_ ?_
  ·simp only [go_sem,Nat.reduceEqDiff,appendA_U]
   exact ⟨0,rfl,by omega,rfl⟩
  rintro ρ Hx ⟨rfl,k,h17,hk,he⟩
  refine vc_sound _ _ _ (by rfl) ?_
  by_cases hb : (k : Int)<b.length
  ·obtain ⟨x,hx⟩:=get_of_lt (l:=a) (i:=k) (by omega)
   obtain ⟨y,hy⟩:=get_of_lt (l:=b) (i:=k) (by omega)
   have hx' : (a.map vecI)[k]?=some (vecI x):=by rw [List.getElem?_map,hx];rfl
   have hy' : (b.map vecI)[k]?=some (vecI y):=by rw [List.getElem?_map,hy];rfl
   have hxn:=ne_of_get hx'
   have hyn:=ne_of_get hy'
   have w1:=IntWalk.i64_in ((k : Int)+1) (by omega)
   have hb' : (k : Int)<a.length:=by omega
   simp only [go_sem,Nat.reduceEqDiff,Nat.reducePow,Nat.reduceDiv,Nat.reduceMod,reduceCtorEq,h17,hl,hb,hb',hx',hy',hxn,hyn,appendA_U]
   refine AApply.clo (eqv_spec x y (ha x (List.mem_of_getElem? hx)) _ _ ⟨trivial,?_⟩)
   by_cases hxy : x=y
   ·simp only [go_sem,Nat.reduceEqDiff,Nat.reducePow,Nat.reduceDiv,Nat.reduceMod,h17,hxy,w1,appendA_U]
    exact ⟨⟨k+1,rfl,by omega,by rw [take_succ_get hx,take_succ_get hy,he,hxy]⟩,by omega⟩
   ·simp only [go_sem,Nat.reduceEqDiff,Nat.reducePow,Nat.reduceDiv,Nat.reduceMod,h17,hxy,appendA_U]
    have : ¬ a=b:=fun h=>hxy (by rw [h,hy] at hx;exact (Option.some.inj hx).symm)
    rw [decide_eq_false this] at hK
    exact FinV.mk (Nat.le_refl _) hK
  ·simp only [go_sem,Nat.reduceEqDiff,Nat.reducePow,Nat.reduceDiv,Nat.reduceMod,reduceCtorEq,h17,hl,hb,appendA_U]
   rw [List.take_of_length_le (by omega),List.take_of_length_le (by omega)] at he
   rw [decide_eq_true he] at hK
   exact FinV.mk (Nat.le_refl _) hK
 ·simp only [go_sem,Nat.reduceEqDiff,hl,appendA_U]
  have : ¬ a=b:=fun h=>hl (by rw [h])
  rw [decide_eq_false this] at hK
  exact FinV.mk (Nat.le_refl _) hK
end Go.Proofs
set_option linter.unusedSimpArgs false
set_option maxRecDepth 100000
namespace Go.Proofs
open Go.Hx
theorem decs_lt {d : InfP} (h : RightN d) : d.decs<2 ^ d.nodes.length:=by
 have h1:=h.decs
 rw [Nat.shiftRight_eq_div_pow] at h1
 exact (Nat.div_eq_zero_iff_lt (Nat.two_pow_pos _)).1 h1
theorem len_atL {ns : List NodeP} {vars : List Int} (h8 : ns.length≤8) (hp : PlacesOk vars ns.length) (hc : ∀ y∈ns,1≤y.card∧y.card≤4) : vars.length≤12:=by
 have:=(vars_small h8 hp hc).1
 rwa [atL_len] at this
theorem fit_ok {d : InfP} (h : InfOk d) : InfFit d:=by
 have n8:=h.n.n1
 refine ⟨⟨by omega,fun x hx=>?_⟩,?_,by have:=h.utils.1;omega,fun u hu=>?_⟩
 ·obtain ⟨v,hv⟩:=List.mem_iff_getElem?.1 hx
  have hn:=h.net.node _ (List.mem_of_getElem? (fillL_get (c:=fun _ _=>0) hv))
  have hr:=h.net.rows _ (List.mem_of_getElem? (fillL_get (c:=fun _ _=>0) hv))
  rw [(fillN_card ..).1,(fillN_card ..).2,fillL_len] at hn
  unfold NodeOk at hr
  rw [parC_fill] at hr
  have hpl:=len_atL n8.2 hn.2 h.n.card
  refine ⟨by omega,?_⟩
  by_cases hb : d.decs.testBit v=true
  ·rw [(h.n.dec v x hv hb).1]
   exact ⟨by simp,fun r hr=>by cases hr⟩
  ·rw [fillN_no hb] at hr
   have:=(parC_small n8.2 hn.2 h.n.card).prod
   refine ⟨by omega,fun r hr'=>?_⟩
   have:=(hr.2 r hr').1
   omega
 ·exact Nat.lt_of_lt_of_le (decs_lt h.n) (Nat.pow_le_pow_right (by decide) (by omega))
 ·have hu':=h.utils.2 u hu
  have:=len_atL n8.2 hu'.vars h.n.card
  have:=(vars_small n8.2 hu'.vars h.n.card).prod
  have:=hu'.size
  omega
theorem polFit_ok {d : InfP} (h : InfOk d) {p : List (List Int)} (hp : PolOk d p) : PolFit p:=by
 have n8:=h.n.n1
 have:=decK_len (D:=d.decs) (n:=d.nodes.length)
 have hl:=hp.len
 refine ⟨by unfold decL at hl;omega,fun r hr=>?_⟩
 obtain ⟨k,hk⟩:=List.mem_iff_getElem?.1 hr
 obtain ⟨v,hv⟩:=get_of_lt (l:=decL d) (i:=k) (by have:=get_lt hk;omega)
 obtain ⟨v1,v2,_⟩:=decK_place hv
 obtain ⟨x,hx⟩:=get_of_lt v1
 have h1:=(hp.row k v x r hv hx hk).1
 have h2:=rcN_rng h v1 v2
 unfold rcN at h2
 rw [hx] at h2
 dsimp only at h2
 omega
theorem polErr_ok {d : InfP} (h : InfOk d) {p : List (List Int)} (hp : PolOk d p) : polErr d p=0:=by
 unfold polErr
 rw [decB_true h,decB_true hp]
 rfl
theorem pow60_6 (k : Nat) (h : k≤6) : (60 : Int) ^ k≤46656000000:=by
 have h1 : (60 : Nat) ^ k≤60 ^ 6:=Nat.pow_le_pow_right (by decide) h
 have h2 : (60 : Nat) ^ 6=46656000000:=by decide
 rw [h2] at h1
 have h3:=Int.ofNat_le.2 h1
 rw [Int.natCast_pow] at h3
 exact h3
theorem weight_bound6 {g : Int} {ns : List NodeP} (h : NetOk g ns) (h6 : ns.length≤6) {vals : List Int} (hf : FitsC (cardsL ns) vals) : 0≤weight ns vals∧weight ns vals≤46656000000:=by
 have hb : ∀ w∈wgtL ns vals,0≤w∧w≤60:=fun w hw=>by
  obtain ⟨v,hv,rfl⟩:=List.mem_map.1 hw
  obtain ⟨x,hx⟩:=get_of_lt (List.mem_range.1 hv)
  obtain ⟨i,r,a,w,hR⟩:=row_at h hx hf
  rw [hR.eq]
  have:=hR.wb
  have:=h.g1
  omega
 have h1:=prodL_le_pow (b:=60) (by omega) hb
 have h2:=pow60_6 (wgtL ns vals).length (by rw [wgtL_len];omega)
 exact ⟨h1.1,Int.le_trans h1.2 h2⟩
theorem worlds_le {g : Int} {ns : List NodeP} (h : NetOk g ns) : worlds ns≤1024∧(worlds ns : Int)=prodL (cardsL ns):=by
 have h1:=h.size
 have h2:=prodL_pos (l:=cardsL ns) fun c hc=>by
  obtain ⟨x,hx,rfl⟩:=List.mem_map.1 hc
  exact (h.node x hx).1.1
 unfold worlds
 omega
theorem term_bound {g : Int} {ns : List NodeP} {us : List UtilP} (h : NetOk g ns) (h6 : ns.length≤6) (hu : ∀ u∈us,UtilOk ns u) (h4 : us.length≤4) {vals : List Int} (hf : FitsC (cardsL ns) vals) (j : Nat) :
  -18662400000000≤weight ns vals*utilV ns (us.take j) vals∧weight ns vals*utilV ns (us.take j) vals≤18662400000000:=by
 obtain ⟨a,b⟩:=weight_bound6 h h6 hf
 obtain ⟨c,d⟩:=utils_bound hu h4 vals j
 generalize weight ns vals=w at *
 generalize utilV ns (us.take j) vals=u at *
 constructor
 ·have h1 : w*(-400)≤w*u:=Int.mul_le_mul_of_nonneg_left c a
  omega
 ·have h1 : w*u≤w*400:=Int.mul_le_mul_of_nonneg_left d a
  omega
theorem sumW_bound {g : Int} {ns : List NodeP} {us : List UtilP} (h : NetOk g ns) (h6 : ns.length≤6) (hu : ∀ u∈us,UtilOk ns u) (h4 : us.length≤4) : ∀ k : Nat,-(18662400000000*k : Int)≤sumW ns us k∧sumW ns us k≤18662400000000*k:=by
 intro k
 induction k with
 | zero=>simp [sumW]
 | succ k ih =>
  rw [sumW_succ]
  have h1 : ∀ c∈cardsL ns,1≤c:=fun c hc=>by
   obtain ⟨x,hx,rfl⟩:=List.mem_map.1 hc
   exact (h.node x hx).1.1
  have:=term_bound h h6 hu h4 (fits_vals h1 k) us.length
  rw [List.take_of_length_le (Nat.le_refl _)] at this
  push_cast
  omega
theorem sumsOk6 {d : InfP} (h6 : d.nodes.length≤6) (p : List (List Int)) : SumsOk d p:=by
 intro hok hp k hk
 have hn:=netOk_fill hok (choiceOk_pol hp)
 have:=sumW_bound hn (by rw [fillL_len];exact h6) (us:=d.utils) (fun u hu=>utilOk_fill (hok.utils.2 u hu)) hok.utils.1 k
 have hw:=(worlds_le hn).1
 rw [worlds_fill] at hw
 omega
end Go.Proofs
