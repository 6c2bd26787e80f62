/- Own work: contracts. -/
import Derived.Test.YtcccmbeolcjacaaConA
import Derived.Test.YtcccmbeolcjacaaRows
import Derived.Test.YtcccmbeolcjacaaLibD
import Derived.ProofKit
import Derived.Test.YtcccmbeolcjacaaProg
import Derived.Test.YtcccmbeolcjacaaLibC
set_option linter.all false
set_option linter.unusedSimpArgs false
set_option maxRecDepth 100000
namespace Go.Proofs
open Go.Hx
theorem sum_nonneg {l : List Int} (h : ∀ x∈l,0≤x) : 0≤l.sum:=by
 induction l with
 | nil=>simp
 | cons a l ih =>
  rw [List.sum_cons]
  have:=h a (by simp)
  have:=ih fun x hx=>h x (by simp [hx])
  omega
theorem sum_set {l : List Int} {i : Nat} {a b : Int} (h : l[i]?=some a) : (l.set i b).sum=l.sum - a+b:=by
 induction l generalizing i with
 | nil=>simp at h
 | cons x l ih =>
  cases i with
  | zero=>simp at h;subst h;simp only [List.set_cons_zero,List.sum_cons];omega
  | succ i =>
   simp only [List.set_cons_succ,List.sum_cons]
   rw [ih (by simpa using h)];omega
theorem sum_bound {l : List Int} {b : Int} (h : ∀ x∈l,0≤x∧x≤b) : l.sum≤b*l.length:=by
 induction l with
 | nil=>simp
 | cons a l ih =>
  rw [List.sum_cons,List.length_cons]
  have:=(h a (by simp)).2
  have:=ih fun x hx=>h x (by simp [hx])
  rw [show b*((l.length+1 : Nat) : Int)=b*l.length+b by rw [Int.natCast_add,Int.mul_add];simp]
  omega

/-- The numbers a row is drafted from. -/
def wF (n : Nat) (bs : List Int) (from' : Int) : List Int:=(List.range n).map fun (k : Nat)=>if bs.length=0 then 0 else bs.getD ((from'+(k : Int)) % (bs.length : Int)).toNat 0 % 8
theorem wF_len (n : Nat) (bs : List Int) (from' : Int) : (wF n bs from').length=n:=by simp [wF]
theorem wF_get {n : Nat} (bs : List Int) (from' : Int) {k : Nat} (h : k<n) : (wF n bs from')[k]?=some (if bs.length=0 then 0 else bs.getD ((from'+(k : Int)) % (bs.length : Int)).toNat 0 % 8):=by
 unfold wF;rw [List.getElem?_map,List.getElem?_range h];rfl
theorem wF_rng (n : Nat) (bs : List Int) (from' : Int) : ∀ x∈wF n bs from',0≤x∧x≤7:=fun x hx=>by
 unfold wF at hx
 obtain ⟨k,_,rfl⟩:=List.mem_map.1 hx
 split<;>omega
def rstep (g s : Int) (st : List Int × Nat) (m : Nat) : List Int × Nat:=if 0<st.1.getD m 0 then (st.1.set m (g*st.1.getD m 0 / s),m) else st
def rfold (g : Int) (c : List Int) (m : Nat) : List Int × Nat:=(List.range m).foldl (rstep g c.sum) (c,0)
theorem rfold_succ (g : Int) (c : List Int) (m : Nat) : rfold g c (m+1)=rstep g c.sum (rfold g c m) m:=by unfold rfold;rw [List.range_succ,List.foldl_append];rfl
/-- A drafted row. -/
def rowF (g : Int) (n : Nat) (bs : List Int) (from' : Int) : List Int:=(rfold g (wF n bs from') n).1.set (rfold g (wF n bs from') n).2 ((rfold g (wF n bs from') n).1.getD (rfold g (wF n bs from') n).2 0+(g - (rfold g (wF n bs from') n).1.sum))
structure RInv (g : Int) (c : List Int) (m : Nat) (d : List Int) (last : Nat) : Prop where
 dl : d.length=c.length
 d0 : ∀ x∈d,0≤x
 dd : d.drop m=c.drop m
 dg : (d.take m).sum≤g
 ds : c.sum*(d.take m).sum≤g*(c.take m).sum
 la : last<c.length
theorem rinv {g : Int} {c : List Int} (hg : 1≤g) (hc : ∀ x∈c,0≤x) (hl : 0<c.length) : ∀ m,m≤c.length→RInv g c m (rfold g c m).1 (rfold g c m).2:=by
 intro m
 induction m with
 | zero=>intro _;exact ⟨rfl,hc,rfl,by simp;omega,by simp,hl⟩
 | succ m ih =>
  intro hm
  obtain ⟨hdl,hd0,hdd,hdg,hds,hla⟩:=ih (by omega)
  rw [rfold_succ]
  generalize rfold g c m=st at *
  obtain ⟨d,last⟩:=st
  simp only at hdl hd0 hdd hdg hds hla
  obtain ⟨x,hcx⟩:=get_of_lt (l:=c) (i:=m) (by omega)
  have hx0:=hc x (List.mem_of_getElem? hcx)
  have hdx : d[m]?=some x:=by
   have h1 : (d.drop m)[0]?=d[m]?:=by rw [List.getElem?_drop];rfl
   have h2 : (c.drop m)[0]?=c[m]?:=by rw [List.getElem?_drop];rfl
   rw [← h1,hdd,h2,hcx]
  have hdd' : d.drop (m+1)=c.drop (m+1):=by
   have:=congrArg (List.drop 1) hdd
   rwa [List.drop_drop,List.drop_drop] at this
  have hct : (c.take (m+1)).sum=(c.take m).sum+x:=by rw [take_succ_get hcx];simp
  have hcs : (c.take (m+1)).sum+(c.drop (m+1)).sum=c.sum:=by rw [← List.sum_append,List.take_append_drop]
  have hcd0:=sum_nonneg (l:=c.drop (m+1)) fun y hy=>hc y (List.mem_of_mem_drop hy)
  have hc00:=sum_nonneg (l:=c.take m) fun y hy=>hc y (List.mem_of_mem_take hy)
  have hd00:=sum_nonneg (l:=d.take m) fun y hy=>hd0 y (List.mem_of_mem_take hy)
  unfold rstep
  rw [getD_of_get hdx]
  by_cases hx : 0<x
  ·rw [if_pos hx]
   have gx : 0≤g*x:=Int.mul_nonneg (by omega) hx0
   have y0 : 0≤g*x / c.sum:=Int.ediv_nonneg gx (by omega)
   have y2 : c.sum*(g*x / c.sum)≤g*x:=Int.mul_ediv_self_le (by omega)
   have dt : ((d.set m (g*x / c.sum)).take (m+1)).sum=(d.take m).sum+g*x / c.sum:=by
    rw [take_succ_get (List.getElem?_set_self (by omega)),List.take_set_of_le (Nat.le_refl _)];simp
   have hs2 : c.sum*((d.take m).sum+g*x / c.sum)≤g*(c.take (m+1)).sum:=by
    rw [Int.mul_add,hct,Int.mul_add];omega
   have hle : (d.take m).sum+g*x / c.sum≤g:=by
    have h1 : g*(c.take (m+1)).sum≤g*c.sum:=Int.mul_le_mul_of_nonneg_left (by omega) (by omega)
    have h2 : c.sum*((d.take m).sum+g*x / c.sum)≤c.sum*g:=by rw [Int.mul_comm c.sum g];omega
    exact Int.le_of_mul_le_mul_left h2 (by omega)
   refine ⟨by simp [hdl],fun y hy=>?_,?_,by dsimp only;rw [dt];exact hle,by dsimp only;rw [dt];exact hs2,by dsimp only;omega⟩
   ·rcases List.mem_or_eq_of_mem_set hy with h|h
    ·exact hd0 y h
    ·omega
   ·rw [← hdd',List.drop_set_of_lt (by omega)]
  ·rw [if_neg hx]
   have x0 : x=0:=by omega
   have dt : (d.take (m+1)).sum=(d.take m).sum:=by rw [take_succ_get hdx,x0];simp
   rw [x0,Int.add_zero] at hct
   exact ⟨hdl,hd0,hdd',by dsimp only;rw [dt];exact hdg,by dsimp only;rw [dt,hct];exact hds,hla⟩
theorem rowF_ok {g : Int} {n : Nat} (hg : 1≤g) (hn : 1≤n) (bs : List Int) (from' : Int) : RowOk g n (rowF g n bs from'):=by
 have hw:=wF_len n bs from'
 have I:=rinv (g:=g) (c:=wF n bs from') hg (fun x hx=>(wF_rng n bs from' x hx).1) (by omega) n (by omega)
 unfold rowF
 generalize rfold g (wF n bs from') n=st at *
 obtain ⟨d,last⟩:=st
 obtain ⟨hdl,hd0,hdd,hdg,hds,hla⟩:=I
 dsimp only at hdl hd0 hdd hdg hds hla ⊢
 obtain ⟨y,hy⟩:=get_of_lt (l:=d) (i:=last) (by omega)
 have y0:=hd0 y (List.mem_of_getElem? hy)
 rw [getD_of_get hy]
 rw [List.take_of_length_le (by omega)] at hdg
 have hs : (d.set last (y+(g - d.sum))).sum=g:=by rw [sum_set hy];omega
 have h0 : ∀ w∈d.set last (y+(g - d.sum)),0≤w:=fun w hw=>by
  rcases List.mem_or_eq_of_mem_set hw with h|h
  ·exact hd0 w h
  ·omega
 exact ⟨by simp [hdl,hw],fun w hw=>⟨h0 w hw,by have:=mem_le_sum h0 w hw;omega⟩,hs⟩

set_option maxHeartbeats 2000000 in
theorem rowD_spec (g : Int) (n : Nat) (hg : 1≤g∧g≤60) (hn : 1≤n∧n≤4) (bs : List Int) (hbl : (bs.length : Int)<2 ^ 63) (hb8 : ∀ x∈bs,U8 x) (from' : Int) (hf : 0≤from'∧from'≤1000000) (H : AHeap) (K : ARes→AHeap→Prop) (hK : ∀ v H',Over H H'→OwnG H.next H' 3 v (ints (rowF g n bs from'))→K (.ret v) H') :
  ACall Try.prog G0 84 [lin g,lin n,.vec bs.length (bytesL bs),lin from'] H K:=by
 refine ACall.clo ⟨_,Try.func84,rfl,rfl⟩ fun hcl=>?_
 refine ACall.of_body (n:=84) (rs:=[.tmp 8]) Try.func84 rfl rfl rfl (by decide) (by kernel_rfl) (by simp) ?_
 simp only [go_sem,Nat.reduceEqDiff,appendA_U]
 refine ⟨by omega,?_⟩
 refine W.loop0 35184371960832 (by rfl) (fun ρ H'=>∃ (k : Nat) (c : List Int),ρ 11=lin k∧k≤n∧c.length=n∧(∀ x∈c,0≤x∧x≤7)∧(∀ j x,k≤j→c[j]?=some x→x=0)∧(∀ j,j<k→c[j]?=(wF n bs from')[j]?)∧ρ 10=lin c.sum∧OwnI H H' H.next c) (fun ρ H=>n - (iv (ρ 11)).toNat) ?_ ?_
 ·simp only [go_sem,Nat.reduceEqDiff,appendA_U]
  refine ⟨0,List.replicate n 0,rfl,by omega,by simp,fun x hx=>?_,fun j x _ hx=>?_,fun j hj=>by omega,by simp,?_⟩
  ·have:=List.eq_of_mem_replicate hx;omega
  ·exact List.eq_of_mem_replicate (List.mem_of_getElem? hx)
  ·exact .new [] _
 rintro ρ H' ⟨k,c,h11,hk,hcl',hc7,hc0,hcw,h10,ho⟩
 refine W.env fun E hE=>?_
 have e0 : E 0=lin g:=by rw [hE];simp only [go_sem,Nat.reducePow,Nat.reduceDiv,Nat.reduceMod,reduceCtorEq,appendA_U]
 have e1 : E 1=lin n:=by rw [hE];simp only [go_sem,Nat.reduceEqDiff,Nat.reducePow,Nat.reduceDiv,Nat.reduceMod,reduceCtorEq,appendA_U]
 have e2 : E 2=.vec bs.length (bytesL bs):=by rw [hE];simp only [go_sem,Nat.reduceEqDiff,Nat.reducePow,Nat.reduceDiv,Nat.reduceMod,reduceCtorEq,appendA_U]
 have e3 : E 3=lin from':=by rw [hE];simp only [go_sem,Nat.reduceEqDiff,Nat.reducePow,Nat.reduceDiv,Nat.reduceMod,reduceCtorEq,appendA_U]
 have e9 : E 9=.own H.next 0 0 n 1:=by rw [hE];simp only [go_sem,Nat.reduceEqDiff,Nat.reducePow,Nat.reduceDiv,Nat.reduceMod,reduceCtorEq,appendA_U]
 have e10 : E 10=lin c.sum:=by rw [hE];simp only [go_sem,Nat.reduceEqDiff,Nat.reducePow,Nat.reduceDiv,Nat.reduceMod,h10,appendA_U]
 have e11 : E 11=lin k:=by rw [hE];simp only [go_sem,Nat.reduceEqDiff,Nat.reducePow,Nat.reduceDiv,Nat.reduceMod,h11,appendA_U]
 clear hE
 refine vc_sound _ _ _ (by rfl) ?_
 have lN:=ho.live
 have hs0:=sum_nonneg fun x hx=>(hc7 x hx).1
 have hs1:=sum_bound hc7
 by_cases hb : (k : Int)<n
 ·have hck : c[k]?=some 0:=by
   obtain ⟨a,ha⟩:=get_of_lt (l:=c) (i:=k) (by omega)
   rw [ha,hc0 k a (Nat.le_refl _) ha]
  have hcne:=ne_of_get hck
  have hk0 : (k : Int) ≥ 0:=by omega
  have w1:=IntWalk.i64_in ((k : Int)+1) (by omega)
  by_cases hz : (0 : Int)<bs.length
  ·have hzn : ¬ (bs.length : Int)=0:=by omega
   have w2:=IntWalk.i64_in (from'+k) (by omega)
   have m1 : (from'+(k : Int)).tmod bs.length=(from'+k) % bs.length:=Int.tmod_eq_emod_of_nonneg (by omega)
   have m2:=Int.emod_nonneg (from'+k) hzn
   have m3:=Int.emod_lt_of_pos (from'+k) hz
   obtain ⟨q,hq⟩:=Int.eq_ofNat_of_zero_le m2
   have hq0 : (q : Int) ≥ 0:=by omega
   have hql : (q : Int)<bs.length:=by omega
   obtain ⟨b,hbg⟩:=get_of_lt (l:=bs) (i:=q) (by omega)
   have b8:=hb8 b (List.mem_of_getElem? hbg)
   have hbg':=bytesL_get hbg
   have hbne:=ne_of_get hbg'
   have t1 : b.tmod 8=b % 8:=Int.tmod_eq_emod_of_nonneg b8.1
   have w3 : IntKind.u8.wrap (b % 8)=b % 8:=IntWalk.u8_in _ (by omega)
   have w4 : IntKind.i64.wrap (b % 8)=b % 8:=IntWalk.i64_in _ (by omega)
   have w5:=IntWalk.i64_in (c.sum+b % 8) (by omega)
   have hsg : (setAt (ints c) k [.lit (.int .i64 (b % 8))])[k]?=some (.lit (.int .i64 (b % 8))):=by
    rw [setAt_ints (by omega),ints_get,List.getElem?_set_self (by omega)];rfl
   simp only [go_sem,Int.reduceEq,Nat.reduceEqDiff,Nat.reducePow,Nat.reduceDiv,Nat.reduceMod,hsg,e1,e2,e3,e9,e10,e11,hb,hz,hzn,w1,w2,m1,hq,hq0,hql,hbg',hbne,t1,w3,w4,w5,hk0,hck,hcne,lN,appendA_U]
   refine ⟨by omega,by have:=ho.hi;rw [upd_next];omega,⟨k+1,c.set k (b % 8),rfl,by omega,by simp [hcl'],fun x hx=>?_,fun j x hj hx=>?_,fun j hj=>?_,by rw [sum_set hck,Int.sub_zero],ho.store (by omega) _⟩,by rw [h11];simp only [lin,iv_int];omega⟩
   ·rcases List.mem_or_eq_of_mem_set hx with h|h
    ·exact hc7 x h
    ·omega
   ·rw [List.getElem?_set_ne (by omega)] at hx
    exact hc0 j x (by omega) hx
   ·by_cases hjk : j=k
    ·subst hjk
     rw [List.getElem?_set_self (by omega),wF_get bs from' (by omega),if_neg (by omega),hq,Int.toNat_natCast,getD_of_get hbg]
    ·rw [List.getElem?_set_ne (by omega)]
     exact hcw j (by omega)
  ·have w5:=IntWalk.i64_in (c.sum+0) (by omega)
   rw [Int.add_zero] at w5
   simp only [go_sem,Nat.reduceEqDiff,Nat.reducePow,Nat.reduceDiv,Nat.reduceMod,e1,e2,e3,e9,e10,e11,hb,hz,w1,w5,Int.add_zero,hk0,hck,hcne,lN,appendA_U]
   refine ⟨by have:=ho.hi;omega,⟨k+1,c,rfl,by omega,hcl',hc7,fun j x hj hx=>hc0 j x (by omega) hx,fun j hj=>by
    by_cases hjk : j=k
    ·subst hjk
     rw [hck,wF_get bs from' (by omega),if_pos (by omega)]
    ·exact hcw j (by omega),rfl,ho⟩,by rw [h11];simp only [lin,iv_int];omega⟩
 ·obtain rfl : k=n:=by omega
  simp only [go_sem,Nat.reduceEqDiff,Nat.reducePow,Nat.reduceDiv,Nat.reduceMod,reduceCtorEq,e1,e11,hb,appendA_U]
  have hcwF : c=wF k bs from':=by
   apply List.ext_getElem?
   intro j
   rcases Nat.lt_or_ge j k with h|h
   ·exact hcw j h
   ·rw [List.getElem?_eq_none (by omega),List.getElem?_eq_none (by rw [wF_len];exact h)]
  have hRI:=fun m (hm : m≤k)=>rinv (g:=g) (c:=c) hg.1 (fun x hx=>(hc7 x hx).1) (by omega) m (by omega)
  refine W.loop0 18889465861109836705792 (by rfl) (fun ρ H2=>∃ (m last : Nat) (d : List Int),ρ 14=lin m∧m≤k∧rfold g c m=(d,last)∧ρ 12=lin (g - (d.take m).sum)∧ρ 13=lin last∧H'.next≤H2.next∧OwnI H H2 H.next d) (fun ρ H=>k - (iv (ρ 14)).toNat) ?_ ?_
  ·simp only [go_sem,Nat.reduceEqDiff,e0,appendA_U]
   exact ⟨0,0,c,rfl,by omega,rfl,by simp,rfl,ho⟩
  rintro ρ2 H2 ⟨m,last,d,h14,hm,hrf,h12,h13,hnn,hod⟩
  obtain ⟨hdl,hd0,hdd,hdg,hds,hlast⟩ : RInv g c m d last:=by have:=hRI m hm;rw [hrf] at this;exact this
  rw [hcl'] at hdl hlast
  have hrs:=rfold_succ g c m
  rw [hrf] at hrs
  unfold rstep at hrs
  dsimp only at hrs
  refine W.env fun E2 hE2=>?_
  have f0 : E2 0=lin g:=by rw [hE2];simp only [go_sem,Nat.reducePow,Nat.reduceDiv,Nat.reduceMod,reduceCtorEq,e0,appendA_U]
  have f1 : E2 1=lin k:=by rw [hE2];simp only [go_sem,Nat.reduceEqDiff,Nat.reducePow,Nat.reduceDiv,Nat.reduceMod,reduceCtorEq,e1,appendA_U]
  have f9 : E2 9=.own H.next 0 0 k 1:=by rw [hE2];simp only [go_sem,Nat.reduceEqDiff,Nat.reducePow,Nat.reduceDiv,Nat.reduceMod,reduceCtorEq,e9,appendA_U]
  have f10 : E2 10=lin c.sum:=by rw [hE2];simp only [go_sem,Nat.reduceEqDiff,Nat.reducePow,Nat.reduceDiv,Nat.reduceMod,reduceCtorEq,e10,appendA_U]
  have f12 : E2 12=lin (g - (d.take m).sum):=by rw [hE2];simp only [go_sem,Nat.reduceEqDiff,Nat.reducePow,Nat.reduceDiv,Nat.reduceMod,h12,appendA_U]
  have f13 : E2 13=lin last:=by rw [hE2];simp only [go_sem,Nat.reduceEqDiff,Nat.reducePow,Nat.reduceDiv,Nat.reduceMod,h13,appendA_U]
  have f14 : E2 14=lin m:=by rw [hE2];simp only [go_sem,Nat.reduceEqDiff,Nat.reducePow,Nat.reduceDiv,Nat.reduceMod,h14,appendA_U]
  clear hE2
  refine vc_sound _ _ _ (by rfl) ?_
  have lN2:=hod.live
  by_cases hb2 : (m : Int)<k
  ·obtain ⟨x,hcx⟩:=get_of_lt (l:=c) (i:=m) (by omega)
   have hx7:=hc7 x (List.mem_of_getElem? hcx)
   have hdx : d[m]?=some x:=by
    have h1 : (d.drop m)[0]?=d[m]?:=by rw [List.getElem?_drop];rfl
    have h2 : (c.drop m)[0]?=c[m]?:=by rw [List.getElem?_drop];rfl
    rw [← h1,hdd,h2,hcx]
   have hdne:=ne_of_get hdx
   have hm0 : (m : Int) ≥ 0:=by omega
   have w1:=IntWalk.i64_in ((m : Int)+1) (by omega)
   have hdd' : d.drop (m+1)=c.drop (m+1):=by
    have:=congrArg (List.drop 1) hdd
    rwa [List.drop_drop,List.drop_drop] at this
   have hct : (c.take (m+1)).sum=(c.take m).sum+x:=by rw [take_succ_get hcx];simp
   have hcs : (c.take (m+1)).sum+(c.drop (m+1)).sum=c.sum:=by rw [← List.sum_append,List.take_append_drop]
   have hcd0:=sum_nonneg (l:=c.drop (m+1)) fun y hy=>(hc7 y (List.mem_of_mem_drop hy)).1
   have hc00:=sum_nonneg (l:=c.take m) fun y hy=>(hc7 y (List.mem_of_mem_take hy)).1
   have hd00:=sum_nonneg (l:=d.take m) fun y hy=>hd0 y (List.mem_of_mem_take hy)
   by_cases hx : 0<x
   ·have hsz : ¬ c.sum=0:=by omega
    have gx : 0≤g*x:=Int.mul_nonneg (by omega) hx7.1
    have gx2 : g*x≤60*7:=Int.mul_le_mul hg.2 hx7.2 hx7.1 (by omega)
    have w2:=IntWalk.i64_in (g*x) (by omega)
    have t1 : (g*x).tdiv c.sum=g*x / c.sum:=Int.tdiv_eq_ediv_of_nonneg gx
    have y0 : 0≤g*x / c.sum:=Int.ediv_nonneg gx hs0
    have y1 : g*x / c.sum≤g*x:=Int.ediv_le_self _ gx
    have y2 : c.sum*(g*x / c.sum)≤g*x:=Int.mul_ediv_self_le (by omega)
    have w3:=IntWalk.i64_in (g*x / c.sum) (by omega)
    have w4:=IntWalk.i64_in (g - (d.take m).sum - g*x / c.sum) (by omega)
    have hsg : (setAt (ints d) m [.lit (.int .i64 (g*x / c.sum))])[m]?=some (.lit (.int .i64 (g*x / c.sum))):=by
     rw [setAt_ints (by omega),ints_get,List.getElem?_set_self (by omega)];rfl
    have dt : ((d.set m (g*x / c.sum)).take (m+1)).sum=(d.take m).sum+g*x / c.sum:=by
     rw [take_succ_get (List.getElem?_set_self (by omega)),List.take_set_of_le (Nat.le_refl _)];simp
    have hs2 : c.sum*((d.take m).sum+g*x / c.sum)≤g*(c.take (m+1)).sum:=by
     rw [Int.mul_add,hct,Int.mul_add];omega
    have hle : (d.take m).sum+g*x / c.sum≤g:=by
     have h1 : g*(c.take (m+1)).sum≤g*c.sum:=Int.mul_le_mul_of_nonneg_left (by omega) (by omega)
     have h2 : c.sum*((d.take m).sum+g*x / c.sum)≤c.sum*g:=by rw [Int.mul_comm c.sum g];omega
     exact Int.le_of_mul_le_mul_left h2 (by omega)
    simp only [go_sem,Nat.reduceEqDiff,Nat.reducePow,Nat.reduceDiv,Nat.reduceMod,reduceCtorEq,hsg,f0,f1,f9,f10,f12,f13,f14,hb2,hx,hsz,w1,w2,t1,w3,w4,hm0,hdx,hdne,lN2,appendA_U]
    rw [getD_of_get hdx,if_pos hx] at hrs
    exact ⟨by omega,by rw [upd_next];exact hnn,⟨m+1,m,d.set m (g*x / c.sum),rfl,by omega,hrs,by rw [dt];congr 2;omega,rfl,by rw [upd_next];exact hnn,hod.store (by omega) _⟩,by rw [h14];simp only [lin,iv_int];omega⟩
   ·have x0 : x=0:=by omega
    have w4:=IntWalk.i64_in (g - (d.take m).sum) (by omega)
    simp only [go_sem,Int.reduceLT,Nat.reduceEqDiff,Nat.reducePow,Nat.reduceDiv,Nat.reduceMod,f0,f1,f9,f10,f12,f13,f14,hb2,hx,x0,w1,w4,hm0,hdx,hdne,Int.sub_zero,lN2,appendA_U]
    have dt : (d.take (m+1)).sum=(d.take m).sum:=by rw [take_succ_get hdx,x0];simp
    rw [x0,Int.add_zero] at hct
    rw [getD_of_get hdx,if_neg hx] at hrs
    exact ⟨hnn,⟨m+1,last,d,rfl,by omega,hrs,by rw [dt],rfl,hnn,hod⟩,by rw [h14];simp only [lin,iv_int];omega⟩
  ·obtain rfl : m=k:=by omega
   obtain ⟨y,hy⟩:=get_of_lt (l:=d) (i:=last) (by omega)
   have hyne:=ne_of_get hy
   have hl0 : (last : Int) ≥ 0:=by omega
   have hlk : (last : Int)<m:=by omega
   have y0:=hd0 y (List.mem_of_getElem? hy)
   rw [List.take_of_length_le (by omega)] at hdg hds h12 f12
   have hyle:=mem_le_sum hd0 y (List.mem_of_getElem? hy)
   have w1:=IntWalk.i64_in (y+(g - d.sum)) (by omega)
   have hle : last+1≤d.length:=by omega
   simp only [go_sem,Nat.reduceEqDiff,Nat.reducePow,Nat.reduceDiv,Nat.reduceMod,f1,f9,f12,f13,f14,hb2,hl0,hlk,hy,hyne,lN2,w1,appendA_U]
   refine ⟨hle,?_⟩
   have hrow : rowF g m bs from'=d.set last (y+(g - d.sum)):=by
    unfold rowF
    rw [← hcwF,hrf]
    dsimp only
    rw [getD_of_get hy]
   rw [hrow] at hK
   have ho2:=hod.store (k:=last) (by omega) (y+(g - d.sum))
   refine FinV.mk ho2.ov.next (hK _ _ ho2.ov (.inr ⟨_,0,ho2.lo,ho2.hi,?_,ho2.get⟩))
   rw [ints_length,List.length_set,hdl]
end Go.Proofs
set_option linter.unusedSimpArgs false
set_option maxRecDepth 100000
namespace Go.Proofs
open Go.Hx
/-- A piece of a drafted network. -/
structure DrP where
 card : Int
 par : Int
 w : List Int
def DrP.cells (x : DrP) : List AVal:=[.lit (.int .u8 x.card),.lit (.int .u8 x.par),.vec x.w.length (bytesL x.w)]
def drC (l : List DrP) : List AVal:=(l.map DrP.cells).flatten
def DrP.Ok (x : DrP) : Prop:=U8 x.card∧U8 x.par∧(x.w.length : Int)<2 ^ 63∧∀ b∈x.w,U8 b
def draft05V (g : Int) (ps : List DrP) (ord : List Int) : AVal:=.agg [.lit (.int .u8 g),.vec ps.length (drC ps),.vec ord.length (bytesL ord)]
theorem drC_part {l : List DrP} {i : Nat} {x : DrP} (h : l[i]?=some x) : ((drC l).drop (i*3)).take 3=[.lit (.int .u8 x.card),.lit (.int .u8 x.par),.vec x.w.length (bytesL x.w)]:=flat_part (f:=DrP.cells) (z:=3) (fun _=>rfl) l i x h
theorem drC_len (l : List DrP) : (drC l).length=l.length*3:=flat_len (f:=DrP.cells) (fun _=>rfl) l
/-- A node's cells while a network is drafted: without rows it has not begun. -/
def NodeP.cellsZ (x : NodeP) : List AVal:=if x.rows=[] then [lin x.card,.lit (.slice none 0 0),.lit (.slice none 0 0)] else [lin x.card,vecI x.parents,vecV x.rows]
def nodesZ (l : List NodeP) : List AVal:=(l.map NodeP.cellsZ).flatten
theorem cellsZ_len (x : NodeP) : x.cellsZ.length=3:=by unfold NodeP.cellsZ;split<;>rfl
theorem nodesZ_len (l : List NodeP) : (nodesZ l).length=l.length*3:=flat_len (f:=NodeP.cellsZ) cellsZ_len l
theorem nodesZ_0 {l : List NodeP} {i : Nat} {x : NodeP} (h : l[i]?=some x) : (nodesZ l)[i*3]?=some (lin x.card):=by
 have:=flat_get (f:=NodeP.cellsZ) (z:=3) cellsZ_len l i 0 x h (by omega)
 rw [Nat.add_zero] at this
 rw [show (nodesZ l)[i*3]?=_ from this]
 unfold NodeP.cellsZ;split<;>rfl
theorem nodesZ_eq {l : List NodeP} (h : ∀ x∈l,x.rows≠[]) : nodesZ l=nodesC l:=by
 unfold nodesZ nodesC
 congr 1
 exact List.map_congr_left fun x hx=>if_neg (h x hx)
theorem flat_set {α : Type} {f : α→List AVal} {z : Nat} (hz : ∀ a,(f a).length=z) : ∀ (l : List α) (i : Nat) (a : α),i<l.length→((l.set i a).map f).flatten=((l.map f).flatten).take (i*z)++f a++((l.map f).flatten).drop (i*z+z):=by
 intro l
 induction l with
 | nil=>intro i a h;simp at h
 | cons b l ih =>
  intro i a h
  cases i with
  | zero=>simp [hz]
  | succ i =>
   have hb:=hz b
   simp only [List.set_cons_succ,List.map_cons,List.flatten_cons]
   rw [ih i a (by simpa using h),show (i+1)*z=z+i*z by rw [Nat.add_mul];omega,List.take_append,List.drop_append,hb]
   rw [List.take_of_length_le (l:=f b) (i:=z+i*z) (by omega),List.drop_of_length_le (l:=f b) (i:=z+i*z+z) (by omega),show z+i*z - z=i*z by omega,show z+i*z+z - z=i*z+z by omega]
   simp
theorem fzl_set {S : Nat→Prop} {H : AHeap} {nx : Nat} {A B : List AVal} {i : Nat} {a b : AVal} (h : ∀ j (h : j<A.length) (h' : j<B.length),Fz S H nx A[j] B[j]) (hab : Fz S H nx a b) : ∀ j (h : j<(A.set i a).length) (h' : j<(B.set i b).length),Fz S H nx (A.set i a)[j] (B.set i b)[j]:=by
 intro j h1 h2
 rw [List.getElem_set,List.getElem_set]
 split
 ·exact hab
 ·exact h j (by simpa using h1) (by simpa using h2)
theorem fz_vecV {S : Nat→Prop} {H : AHeap} {nx : Nat} (l : List (List Int)) : Fz S H nx (vecV l) (vecV l):=.vec rfl fun i hi _=>by simp only [List.getElem_map];exact .keepInts _
theorem fz_cellsZ {S : Nat→Prop} {H : AHeap} {nx : Nat} (x : NodeP) : ∀ c∈x.cellsZ,Fz S H nx c c:=by
 intro c hc
 unfold NodeP.cellsZ at hc
 split at hc
 ·simp only [List.mem_cons,List.not_mem_nil,or_false] at hc
  rcases hc with rfl|rfl|rfl<;>exact .lit _
 ·simp only [List.mem_cons,List.not_mem_nil,or_false] at hc
  rcases hc with rfl|rfl|rfl
  ·exact .lit _
  ·exact .keepInts _
  ·exact fz_vecV _
theorem fz_nodesZ' {S : Nat→Prop} {H : AHeap} {nx : Nat} (l : List NodeP) : ∀ c∈nodesZ l,Fz S H nx c c:=by
 intro c hc
 unfold nodesZ at hc
 obtain ⟨r,hr,hc⟩:=List.mem_flatten.1 hc
 obtain ⟨x,_,rfl⟩:=List.mem_map.1 hr
 exact fz_cellsZ x c hc
/-- The cells of a network under way, read as a network. -/
theorem fz_nodesZ {S : Nat→Prop} {H : AHeap} {nx : Nat} : ∀ (l : List NodeP),(∀ x∈l,x.rows=[]→x.parents=[])→∀ (i : Nat) (h : i<(nodesZ l).length) (h' : i<(nodesC l).length),Fz S H nx (nodesZ l)[i] (nodesC l)[i]:=by
 intro l
 induction l with
 | nil=>intro _ i h;simp [nodesZ] at h
 | cons x l ih =>
  intro hx i h h'
  have e1 : nodesZ (x :: l)=x.cellsZ++nodesZ l:=by simp [nodesZ]
  have e2 : nodesC (x :: l)=x.cells++nodesC l:=by simp [nodesC]
  have l1:=cellsZ_len x
  have l2 : x.cells.length=3:=rfl
  have hc : ∀ (i : Nat) (h : i<x.cellsZ.length) (h' : i<x.cells.length),Fz S H nx x.cellsZ[i] x.cells[i]:=by
   intro i h h'
   by_cases hr : x.rows=[]
   ·have hp:=hx x (by simp) hr
    have ez : x.cellsZ=[lin x.card,.lit (.slice none 0 0),.lit (.slice none 0 0)]:=if_pos hr
    have ec : x.cells=[lin x.card,vecI [],vecV []]:=by unfold NodeP.cells;rw [hr,hp]
    simp only [ez,ec]
    match i,h' with
    | 0,_=>exact .lit _
    | 1,_=>exact .nil
    | 2,_=>exact .nil
   ·have ez : x.cellsZ=x.cells:=if_neg hr
    simp only [ez]
    match i,h' with
    | 0,_=>exact .lit _
    | 1,_=>exact .keepInts _
    | 2,_=>exact fz_vecV _
  simp only [e1,e2]
  by_cases hi : i<3
  ·rw [List.getElem_append_left (by omega),List.getElem_append_left (by omega)]
   exact hc i (by omega) (by omega)
  ·rw [List.getElem_append_right (by omega),List.getElem_append_right (by omega)]
   simp only [l1,l2]
   exact ih (fun y hy=>hx y (by simp [hy])) (i - 3) _ _
theorem nodesC_set {l : List NodeP} {i : Nat} {x y : NodeP} (h : l[i]?=some x) (hy : y.card=x.card) : nodesC (l.set i y)=((nodesC l).set (i*3+1) (vecI y.parents)).set (i*3+2) (vecV y.rows):=by
 have hl:=get_lt h
 have h1:=flat_set (f:=NodeP.cells) (z:=3) (fun _=>rfl) l i y hl
 have h2:=flat_part (f:=NodeP.cells) (z:=3) (fun _=>rfl) l i x h
 unfold nodesC
 rw [h1]
 have h3 : (l.map NodeP.cells).flatten=((l.map NodeP.cells).flatten).take (i*3)++(x.cells++((l.map NodeP.cells).flatten).drop (i*3+3)):=by
  rw [← h2,← List.drop_drop,List.take_append_drop,List.take_append_drop]
 have hlen : (((l.map NodeP.cells).flatten).take (i*3)).length=i*3:=by
  rw [List.length_take,flat_len (f:=NodeP.cells) (z:=3) (fun _=>rfl)];omega
 conv=>rhs;rw [h3]
 rw [List.set_append_right _ _ (by omega),List.set_append_right _ _ (by omega),hlen,show i*3+1 - i*3=1 by omega,show i*3+2 - i*3=2 by omega]
 unfold NodeP.cells
 simp [hy]
theorem own_len {lo : Nat} {H : AHeap} {e : TypeId} {v : AVal} {cs : List AVal} (h : OwnG lo H e v cs) {d : Option TypeDesc} {t : TypeId} (hd : d=some (.slice t)) : lenU d H v=some (.lit (.int .i64 cs.length)):=by
 subst hd
 rcases h with ⟨rfl,rfl⟩|⟨id,g,_,_,rfl,h4⟩
 ·rfl
 ·rw [lenU_slice,lenS_own,get_live h4];rfl
theorem at02_own (l p : List Int) (hl : (l.length : Int)<2 ^ 40) (hp : (p.length : Int)<2 ^ 39) (hin : ∀ q∈p,0≤q∧q<l.length) (H : AHeap) (K : ARes→AHeap→Prop) (hK : ∀ v H',Over H H'→OwnG H.next H' 3 v (ints (atL l p))→K (.ret v) H') : ACall Try.prog G0 90 [vecI l,vecI p] H K:=by
 refine ACall.clo ⟨_,Try.func90,rfl,rfl⟩ fun hcl=>?_
 refine ACall.of_body (n:=24) (rs:=[.tmp 4]) Try.func90 rfl rfl rfl (by decide) (by kernel_rfl) (by simp) ?_
 simp only [go_sem,appendA_U]
 refine W.loop0 8388576 (by rfl) (fun ρ H'=>∃ k : Nat,ρ 6=lin k∧k≤p.length∧Over H H'∧OwnG H.next H' 3 (ρ 5) (ints (atL l (p.take k)))) (fun ρ H=>p.length - (iv (ρ 6)).toNat) ?_ ?_
 ·simp only [go_sem,Nat.reduceEqDiff,appendA_U]
  exact ⟨0,rfl,by omega,.refl _,.nil⟩
 rintro ρ H' ⟨k,h6,hk,ov,h5⟩
 refine vc_sound _ _ _ (by rfl) ?_
 by_cases hb : (k : Int)<p.length
 ·obtain ⟨q,hq⟩:=get_of_lt (l:=p) (i:=k) (by omega)
  obtain ⟨j,rfl,a,ha⟩:=get_of_int (hin q (List.mem_of_getElem? hq)).1 (hin q (List.mem_of_getElem? hq)).2
  have hne:=ne_of_get hq
  have hne2:=ne_of_get ha
  have hj:=get_lt ha
  have hj' : (j : Int)<l.length:=by omega
  obtain ⟨v',H2,hA,ov2,hO,hn2,_⟩:=app_int a ov h5 (by simp [atL];omega)
  have w1:=IntWalk.i64_in ((k : Int)+1) (by omega)
  simp only [go_sem,Nat.reduceEqDiff,Nat.reducePow,Nat.reduceDiv,Nat.reduceMod,Nat.reduceLeDiff,reduceCtorEq,h6,hb,hq,hne,ha,hne2,hj',w1,hA]
  refine ⟨by have:=ov2.next;omega,⟨k+1,by simp,by omega,ov2,?_⟩,by omega⟩
  rw [atL_take hq,Int.toNat_natCast,getD_of_get ha]
  exact hO
 ·simp only [go_sem,Nat.reduceEqDiff,Nat.reducePow,Nat.reduceDiv,Nat.reduceMod,reduceCtorEq,h6,hb,appendA_U]
  rw [List.take_of_length_le (by omega)] at h5
  exact FinV.mk ov.next (hK _ _ ov h5)

theorem parentCards_own (g : Int) (ns : List NodeP) (v : Nat) (x : NodeP) (hx : ns[v]?=some x) (hl : (ns.length : Int)<2 ^ 39) (hp : (x.parents.length : Int)<2 ^ 39) (hin : InRange x.parents ns.length) (H : AHeap) (K : ARes→AHeap→Prop)
  (hK : ∀ v H',Over H H'→OwnG H.next H' 3 v (ints (parC ns x))→K (.ret v) H') : ACall Try.prog G0 77 [netV g ns,lin v] H K:=by
 refine ACall.clo ⟨_,Try.func77,rfl,rfl⟩ fun hcl=>?_
 have hne:=nodesC_ne hx
 have e1:=nodesC_1 hx
 have hv : (v : Int)<ns.length:=by have:=get_lt hx;omega
 refine ACall.of_body (n:=14) (rs:=[.tmp 4]) Try.func77 rfl rfl rfl (by decide) (by kernel_rfl) (by simp) ?_
 simp only [go_sem,netV,nodesV,appendA_U]
 refine W.draw 8 [0,1,0,4,0,28,60,124] Try.mixed (by kernel_rfl) (by kernel_rfl) ?_
 simp only [go_sem,Nat.reduceEqDiff,Nat.reducePow,Nat.reduceDiv,Nat.reduceMod,Nat.reduceAdd,appendA_U]
 refine ⟨vecI (cardsL ns),[],PCall.pure fun H2=>cards05_spec g ns hl H2 _ ⟨rfl,rfl⟩,?_⟩
 simp only [go_sem,Nat.reduceEqDiff,Nat.reducePow,Nat.reduceDiv,Nat.reduceMod,reduceCtorEq,hv,hne,e1,appendA_U]
 refine AApply.clo (at02_own (cardsL ns) x.parents (by rw [cards_len];omega) hp (by rw [cards_len];exact hin) _ _ fun w H3 ov ho=>⟨trivial,?_⟩)
 simp only [go_sem,Nat.reduceEqDiff,appendA_U]
 have o1 : Over H H3:=(Over.ext _ _).trans ov
 exact FinV.mk o1.next (hK _ _ o1 (ho.keep (by simp [ext_next]) (Nat.le_refl _) fun _ _ _ _ _ _=>rfl))
theorem acyc_of_order {ns : List NodeP} {P : List Int} (hP : IsPerm ns.length P) (hall : ∀ v : Nat,v<ns.length→(v : Int)∈P) (hr : ∀ (j v : Nat) (x : NodeP),P[j]?=some (v : Int)→ns[v]?=some x→∀ q∈x.parents,0≤q∧∃ k,k<j∧P[k]?=some q) : AcycB (setsL ns):=by
 intro v hv
 have hl : (setsL ns).length=ns.length:=by simp [setsL]
 rw [hl] at hv
 obtain ⟨j,hj⟩:=List.mem_iff_getElem?.1 (hall v hv)
 have h0 : ∀ p∈P.take j,0≤p:=fun p hp=>(hP.rng p (List.mem_of_mem_take hp)).1
 have sub : ∀ (k u : Nat) (x : NodeP),k≤j→P[k]?=some (u : Int)→ns[u]?=some x→Sub ((setsL ns).getD u 0) (setN (P.take j)):=fun k u x hk hu hx i hi=>by
  rw [getD_of_get (setsL_get hx)] at hi
  have hp0 : ∀ p∈x.parents,0≤p:=fun p hp=>(hr k u x hu hx p hp).1
  rw [setN_bit hp0] at hi
  obtain ⟨_,k',hk',hq⟩:=hr k u x hu hx _ (of_decide_eq_true hi)
  rw [setN_bit h0]
  refine decide_eq_true ?_
  exact List.mem_iff_getElem?.2 ⟨k',by rw [List.getElem?_take_of_lt (by omega)];exact hq⟩
 have hcl : Closed (setsL ns) (setN (P.take j)):=fun u hu ht=>by
  rw [hl] at hu
  rw [setN_bit h0] at ht
  obtain ⟨k,hk⟩:=List.mem_iff_getElem?.1 (of_decide_eq_true ht)
  have hkl:=get_lt hk
  rw [List.length_take] at hkl
  rw [List.getElem?_take_of_lt (by omega)] at hk
  obtain ⟨x,hx⟩:=get_of_lt hu
  exact sub k u x (by omega) hk hx
 obtain ⟨x,hx⟩:=get_of_lt hv
 have h1:=upN_closed hcl (setsL ns).length (sub j v x (Nat.le_refl _) hj hx)
 cases hb : (upL (setsL ns) ((setsL ns).getD v 0)).testBit v with
 | false=>rfl
 | true =>
  exfalso
  have h2:=h1 v hb
  rw [setN_bit h0] at h2
  obtain ⟨k,hk⟩:=List.mem_iff_getElem?.1 (of_decide_eq_true h2)
  have hkl:=get_lt hk
  rw [List.length_take] at hkl
  rw [List.getElem?_take_of_lt (by omega)] at hk
  have e : P[k]?=P[j]?:=by rw [hk,hj]
  have:=(List.getElem?_inj (get_lt hk) hP.nd).1 e
  omega
end Go.Proofs
set_option linter.unusedSimpArgs false
set_option maxRecDepth 100000
namespace Go.Proofs
open Go.Hx
/-- The heap while a network is drafted: one block turns. -/
def FrN (H1 H' : AHeap) (N : Nat) (cs : List AVal) : Prop:=H1.next≤H'.next∧(∀ id,id<H1.next→id≠N→H'.get id=H1.get id)∧H'.get N=some (.arr 0 83 cs)
theorem nodesZ_set0 {l : List NodeP} {i : Nat} {x y : NodeP} (h : l[i]?=some x) (hr : x.rows=[]) (hy : y.rows=[]) : nodesZ (l.set i y)=(nodesZ l).set (i*3) (lin y.card):=by
 have hl:=get_lt h
 have h1:=flat_set (f:=NodeP.cellsZ) (z:=3) cellsZ_len l i y hl
 have h2:=flat_part (f:=NodeP.cellsZ) (z:=3) cellsZ_len l i x h
 have e1 : x.cellsZ=[lin x.card,.lit (.slice none 0 0),.lit (.slice none 0 0)]:=if_pos hr
 have e2 : y.cellsZ=[lin y.card,.lit (.slice none 0 0),.lit (.slice none 0 0)]:=if_pos hy
 unfold nodesZ
 rw [h1,e2]
 rw [e1] at h2
 have h3 : (l.map NodeP.cellsZ).flatten=((l.map NodeP.cellsZ).flatten).take (i*3)++([lin x.card,.lit (.slice none 0 0),.lit (.slice none 0 0)]++((l.map NodeP.cellsZ).flatten).drop (i*3+3)):=by
  rw [← h2,← List.drop_drop,List.take_append_drop,List.take_append_drop]
 have hlen : (((l.map NodeP.cellsZ).flatten).take (i*3)).length=i*3:=by
  rw [List.length_take,flat_len (f:=NodeP.cellsZ) (z:=3) cellsZ_len];omega
 conv=>rhs;rw [h3]
 rw [List.set_append_right _ _ (by omega),hlen]
 simp
theorem permF_mem (ord : List Int) : ∀ (n v : Nat),v<n→(v : Int)∈permF ord n
 | 0,v,h=>by omega
 | n+1,v,h=>by
  unfold permF
  by_cases hv : v=n
  ·subst hv;simp
  ·have:=permF_mem ord n v (by omega)
   rw [← List.take_append_drop (permAt ord n) (permF ord n)] at this
   rcases List.mem_append.1 this with h|h
   ·exact List.mem_append_left _ h
   ·exact List.mem_append_right _ (List.mem_cons_of_mem _ h)
structure DoneN (g : Int) (cs P : List Int) (n j : Nat) (x : NodeP) : Prop where
 pl : PlacesOk x.parents n
 p3 : x.parents.length≤3
 rk : ∀ q∈x.parents,∃ k,k<j∧P[k]?=some q
 rl : (x.rows.length : Int)=prodL (atL cs x.parents)
 ro : ∀ r∈x.rows,RowOk g x.card r
 ne : x.rows≠[]
structure LoopN (g : Int) (cs P : List Int) (n i : Nat) (ns : List NodeP) : Prop where
 len : ns.length=n
 cards : cardsL ns=cs
 todo : ∀ (j v : Nat) (x : NodeP),i≤j→P[j]?=some (v : Int)→ns[v]?=some x→x.rows=[]∧x.parents=[]
 done : ∀ (j v : Nat) (x : NodeP),j<i→P[j]?=some (v : Int)→ns[v]?=some x→DoneN g cs P n j x
theorem nodesZ_set {l : List NodeP} {i : Nat} {x y : NodeP} (h : l[i]?=some x) (hy : y.card=x.card) (hr : y.rows≠[]) : nodesZ (l.set i y)=((nodesZ l).set (i*3+1) (vecI y.parents)).set (i*3+2) (vecV y.rows):=by
 have hl:=get_lt h
 have h1:=flat_set (f:=NodeP.cellsZ) (z:=3) cellsZ_len l i y hl
 have h2:=flat_part (f:=NodeP.cellsZ) (z:=3) cellsZ_len l i x h
 unfold nodesZ
 rw [h1]
 have h3 : (l.map NodeP.cellsZ).flatten=((l.map NodeP.cellsZ).flatten).take (i*3)++(x.cellsZ++((l.map NodeP.cellsZ).flatten).drop (i*3+3)):=by
  rw [← h2,← List.drop_drop,List.take_append_drop,List.take_append_drop]
 have hlen : (((l.map NodeP.cellsZ).flatten).take (i*3)).length=i*3:=by
  rw [List.length_take,flat_len (f:=NodeP.cellsZ) (z:=3) cellsZ_len];omega
 have ex : ∃ b c,x.cellsZ=[lin x.card,b,c]:=by unfold NodeP.cellsZ;split<;>exact ⟨_,_,rfl⟩
 obtain ⟨b,c,ex⟩:=ex
 have ey : y.cellsZ=[lin y.card,vecI y.parents,vecV y.rows]:=if_neg hr
 conv=>rhs;rw [h3]
 rw [List.set_append_right _ _ (by omega),List.set_append_right _ _ (by omega),hlen,show i*3+1 - i*3=1 by omega,show i*3+2 - i*3=2 by omega,ex,ey]
 simp [hy]
/-- A node's parents while they are drafted. -/
structure ParU (P : List Int) (i u k : Nat) (l : List Int) : Prop where
 pw : l.Pairwise (·<·)
 rng : ∀ q∈l,0≤q∧(q<u∨(q=u∧∃ k',k'<k∧P[k']?=some q))
 p3 : l.length≤3
 rk : ∀ q∈l,∃ k',k'<i∧P[k']?=some q
theorem ParU.skip {P : List Int} {i u k : Nat} {l : List Int} (h : ParU P i u k l) : ParU P i u (k+1) l:=⟨h.pw,fun q hq=>⟨(h.rng q hq).1,(h.rng q hq).2.imp id fun ⟨a,k',b,c⟩=>⟨a,k',by omega,c⟩⟩,h.p3,h.rk⟩
theorem ParU.next {P : List Int} {i u k : Nat} {l : List Int} (h : ParU P i u k l) : ParU P i (u+1) 0 l:=⟨h.pw,fun q hq=>⟨(h.rng q hq).1,.inl (by rcases (h.rng q hq).2 with h1|h1<;>omega)⟩,h.p3,h.rk⟩
theorem ParU.add {P : List Int} {n i u k : Nat} {l : List Int} (hP : IsPerm n P) (h : ParU P i u k l) (hk : k<i) (hu : P[k]?=some (u : Int)) (h3 : l.length<3) : ParU P i u (k+1) (l++[(u : Int)]):=by
 have lt : ∀ q∈l,q<u:=fun q hq=>by
  rcases (h.rng q hq).2 with h1|⟨h1,k',h2,h4⟩
  ·exact h1
  ·exfalso
   have e : P[k']?=P[k]?:=by rw [h4,hu,h1]
   have:=(List.getElem?_inj (get_lt h4) hP.nd).1 e
   omega
 refine ⟨List.pairwise_append.2 ⟨h.pw,by simp,fun a ha b hb=>by obtain rfl:=List.mem_singleton.1 hb;exact lt a ha⟩,fun q hq=>?_,by simp;omega,fun q hq=>?_⟩
 ·rcases List.mem_append.1 hq with h1|h1
  ·exact ⟨(h.rng q h1).1,.inl (lt q h1)⟩
  ·obtain rfl:=List.mem_singleton.1 h1
   exact ⟨by omega,.inr ⟨rfl,k,by omega,hu⟩⟩
 ·rcases List.mem_append.1 hq with h1|h1
  ·exact h.rk q h1
  ·obtain rfl:=List.mem_singleton.1 h1
   exact ⟨k,hk,hu⟩
def PSt (Hz Hx : AHeap) (N at' : Nat) (C : List AVal) (pv : AVal) (l : List Int) : Prop:=FrN Hz Hx N (C.set at' pv)∧OwnG Hz.next Hx 3 pv (ints l)
set_option maxHeartbeats 4000000 in
theorem net05_spec (g0 : Int) (ps : List DrP) (ord : List Int) (hg0 : U8 g0) (hps : ∀ x∈ps,x.Ok) (hpl : (ps.length : Int)<2 ^ 63) (hol : (ord.length : Int)<2 ^ 63) (ho8 : ∀ x∈ord,U8 x) (H : AHeap) (K : ARes→AHeap→Prop)
  (hK : ∀ g ns N H',Over H H'→H.next≤N→N<H'.next→H'.get N=some (.arr 0 83 (nodesC ns))→NetOk g ns→ns.length≤5→(∀ x∈ns,x.parents.length≤3)→K (.ret (.agg [lin g,.own N 0 0 ns.length 3])) H') :
  ACall Try.prog G0 40 [draft05V g0 ps ord] H K:=by
 refine ACall.of_body (n:=187) (rs:=[.cell 2 64]) Try.func40 rfl rfl rfl (by decide) (by kernel_rfl) (by simp) ?_
 obtain ⟨n,hn⟩ : ∃ n : Nat,min (max ps.length 1) 5=n:=⟨_,rfl⟩
 have h51 : 1≤n∧n≤5:=by omega
 have hmn : (if 5<(if (1 : Int) > ps.length then 1 else (ps.length : Int)) then 5 else (if (1 : Int) > ps.length then 1 else (ps.length : Int)))=(n : Int):=by split<;>split<;>omega
 have t0 : g0.tmod 60=g0 % 60:=Int.tmod_eq_emod_of_nonneg hg0.1
 have w0 : IntKind.u8.wrap (g0 % 60)=g0 % 60:=IntWalk.u8_in _ (by omega)
 have w1 : IntKind.i64.wrap (g0 % 60)=g0 % 60:=IntWalk.i64_in _ (by omega)
 have w2:=IntWalk.i64_in (1+g0 % 60) (by omega)
 obtain ⟨g,hg⟩ : ∃ g,1+g0 % 60=g:=⟨_,rfl⟩
 have hg1 : 1≤g∧g≤60:=by omega
 rw [hg] at w2
 simp only [go_sem,Nat.reduceEqDiff,Nat.reduceAdd,draft05V,appendA_U]
 refine W.draw 9 [0,1,3,7,15,0,32,127,0] Try.mixed (by kernel_rfl) (by kernel_rfl) ?_
 simp only [go_sem,Int.reduceEq,Nat.reduceEqDiff,Nat.reducePow,Nat.reduceDiv,Nat.reduceMod,Nat.reduceAdd,Nat.reduceLeDiff,reduceCtorEq,hmn,t0,w0,w1,hg,w2,appendA_U]
 refine ⟨by omega,⟨⟨by omega,by omega⟩,⟨by omega,by omega⟩,?_⟩⟩
 obtain ⟨H1,hH1⟩ : ∃ H1,H1=ext (ext H [.arr 0 25 [.lit (.int .u8 g0),.vec ps.length (drC ps),.vec ord.length (bytesL ord)],.arr 0 64 [.lit (.int .i64 0),.lit (.slice none 0 0)],.arr 0 83 (List.replicate n [AVal.lit (.int .i64 0),.lit (.slice none 0 0),.lit (.slice none 0 0)]).flatten]) [.arr 0 64 [.lit (.int .i64 g),.own (H.next+2) 0 0 n 3]]:=⟨_,rfl⟩
 refine W.env fun E hE=>?_
 have e1 : E 1=.ptr H.next 0 0:=by rw [hE];simp only [go_sem,Nat.reduceEqDiff,appendA_U]
 have e2 : E 2=.ptr (H.next+1) 0 0:=by rw [hE];simp only [go_sem,Nat.reduceEqDiff,appendA_U]
 have e3 : E 3=lin n:=by rw [hE];simp only [go_sem,Nat.reduceEqDiff,appendA_U]
 have e4 : E 4=.ptr (H.next+3) 0 0:=by rw [hE];simp only [go_sem,Nat.reduceEqDiff,appendA_U]
 clear hE
 show W _ _ _ _ _ _ ⟨E,ext (ext H [.arr 0 25 [.lit (.int .u8 g0),.vec ps.length (drC ps),.vec ord.length (bytesL ord)],.arr 0 64 [.lit (.int .i64 0),.lit (.slice none 0 0)],.arr 0 83 (List.replicate n [AVal.lit (.int .i64 0),.lit (.slice none 0 0),.lit (.slice none 0 0)]).flatten]) [.arr 0 64 [.lit (.int .i64 g),.own (H.next+2) 0 0 n 3]]⟩
 rw [← hH1]
 have n1 : H1.next=H.next+4:=by rw [hH1];rfl
 have o1 : Over H H1:=by rw [hH1];exact (Over.ext _ _).trans (.ext _ _)
 have g0' : H1.get H.next=some (.arr 0 25 [.lit (.int .u8 g0),.vec ps.length (drC ps),.vec ord.length (bytesL ord)]):=by rw [hH1,ext_ext];exact get_ext0 ..
 have g1' : H1.get (H.next+1)=some (.arr 0 64 [.lit (.int .i64 0),.lit (.slice none 0 0)]):=by rw [hH1,ext_ext];exact get_ext H _ 1 (by simp)
 have g2' : H1.get (H.next+2)=some (.arr 0 83 (nodesZ (List.replicate n ⟨0,[],[]⟩))):=by
  rw [hH1,ext_ext,show nodesZ (List.replicate n ⟨0,[],[]⟩)=(List.replicate n [AVal.lit (.int .i64 0),.lit (.slice none 0 0),.lit (.slice none 0 0)]).flatten by unfold nodesZ;rw [List.map_replicate];rfl]
  exact get_ext H _ 2 (by simp)
 have g3' : H1.get (H.next+3)=some (.arr 0 64 [.lit (.int .i64 g),.own (H.next+2) 0 0 n 3]):=by rw [hH1,ext_ext];exact get_ext H _ 3 (by simp)
 clear hH1
 have l0:=get_live g0'
 have l1:=get_live (show (ext H1 [.arr 0 5 (List.replicate n (.lit (.int .u8 0)))]).get H.next=some (.arr 0 25 [.lit (.int .u8 g0),.vec ps.length (drC ps),.vec ord.length (bytesL ord)]) by rw [get_ext_old _ _ _ (by omega)];exact g0')
 refine W.draw 4 [0,1,0,4] Try.mixed (by kernel_rfl) (by kernel_rfl) ?_
 simp only [go_sem,Nat.reduceEqDiff,Nat.reducePow,Nat.reduceDiv,Nat.reduceMod,Nat.reduceAdd,Nat.reduceLeDiff,reduceCtorEq,e1,e3,l0,l1,appendA_U]
 refine ⟨⟨by omega,by omega⟩,by omega,by omega,?_⟩
 obtain ⟨H2,hH2⟩ : ∃ H2,H2=ext H1 [.arr 0 5 (List.replicate n (.lit (.int .u8 0)))]:=⟨_,rfl⟩
 have gb : H2.get H1.next=some (.arr 0 5 (List.replicate n (.lit (.int .u8 0)))):=by rw [hH2];exact ext1_get_new
 rw [← hH2]
 refine AApply.clo ((ACall.frame (H:=H2) (args:=[.agg [.own H1.next 0 0 n 1,.lit (.int .u16 0),.vec ord.length (bytesL ord)]]) (args':=[.agg [.vec n (bytesL (List.replicate n 0)),.lit (.int .u16 0),.vec ord.length (bytesL ord)]]) (v':=vecI (permF ord n)) G0_ok rfl (fun i hi _=>?_) (perm_spec n h51.2 ord hol ho8 noH _ fun v H' _ ho=>⟨_,rfl,ho.freshI⟩)).mono fun r H' hr=>?_)
 ·match i,hi with
  | 0,_ =>
   refine .agg rfl fun i hi _=>?_
   match i,hi with
   | 0,_ =>
    have : bytesL (List.replicate n 0)=List.replicate n (.lit (.int .u8 0)):=by unfold bytesL;rw [List.map_replicate]
    rw [this]
    exact Fz.ownRead gb (by simp) fun c hc=>⟨_,List.eq_of_mem_replicate hc⟩
   | 1,_=>exact .lit _
   | 2,_=>exact .vec rfl fun i hi _=>by simp only [bytesL,List.getElem_map];exact .lit _
 obtain ⟨rfl,rfl⟩:=hr
 refine ⟨trivial,?_⟩
 have hperm:=permF_ok ord n
 obtain ⟨P,hP⟩ : ∃ P,P=permF ord n:=⟨_,rfl⟩
 rw [← hP] at hperm ⊢
 have n2 : H'.next=H1.next+1:=by rw [hH2];rfl
 have F0 : FrN H1 H' (H.next+2) (nodesZ (List.replicate n ⟨0,[],[]⟩)):=by
  rw [hH2]
  exact ⟨by simp [ext_next],fun id h _=>get_ext_old _ _ _ h,by rw [get_ext_old _ _ _ (by omega)];exact g2'⟩
 clear hH2 gb
 simp only [go_sem,Nat.reduceEqDiff,e3,appendA_U]
 have bs : ∀ k : Nat,k≤5→(3 : Int) ^ k≤243:=fun k hk=>by
  have : (3 : Nat) ^ k≤3 ^ 5:=Nat.pow_le_pow_right (by decide) hk
  have h2 : ((3 ^ k : Nat) : Int)≤((3 ^ 5 : Nat) : Int):=by exact_mod_cast this
  push_cast at h2
  exact h2
 refine W.loop0 151115727451794287100864 (by rfl) (fun ρ Hx=>∃ (i : Nat) (ns : List NodeP) (Wd : Int),ρ 7=lin i∧i≤n∧ns.length=n∧(∀ x∈ns,x.rows=[]∧x.parents=[])∧(∀ j v : Nat,j<i→P[j]?=some (v : Int)→∃ x,ns[v]?=some x∧2≤x.card∧x.card≤3)∧ρ 6=lin Wd∧1≤Wd∧Wd≤3 ^ i∧H'.next≤Hx.next∧FrN H1 Hx (H.next+2) (nodesZ ns)) (fun ρ H=>n - (iv (ρ 7)).toNat) ?_ ?_
 ·simp only [go_sem,Nat.reduceEqDiff,appendA_U]
  exact ⟨0,_,1,rfl,by omega,by simp,fun x hx=>by obtain rfl:=List.eq_of_mem_replicate hx;exact ⟨rfl,rfl⟩,fun j v hj=>by omega,rfl,by omega,by simp,F0⟩
 rintro ρ Hx ⟨i,ns,Wd,h7,hi,hnl,hnz,hnc,h6,hW1,hW3,hnx,hF⟩
 refine W.env fun E2 hE2=>?_
 have f1 : E2 1=.ptr H.next 0 0:=by rw [hE2];simp only [go_sem,Nat.reduceEqDiff,Nat.reducePow,Nat.reduceDiv,Nat.reduceMod,reduceCtorEq,e1,appendA_U]
 have f2 : E2 2=.ptr (H.next+1) 0 0:=by rw [hE2];simp only [go_sem,Nat.reduceEqDiff,Nat.reducePow,Nat.reduceDiv,Nat.reduceMod,reduceCtorEq,e2,appendA_U]
 have f3 : E2 3=lin n:=by rw [hE2];simp only [go_sem,Nat.reduceEqDiff,Nat.reducePow,Nat.reduceDiv,Nat.reduceMod,reduceCtorEq,e3,appendA_U]
 have f4 : E2 4=.ptr (H.next+3) 0 0:=by rw [hE2];simp only [go_sem,Nat.reduceEqDiff,Nat.reducePow,Nat.reduceDiv,Nat.reduceMod,reduceCtorEq,e4,appendA_U]
 have f5 : E2 5=vecI P:=by rw [hE2];simp only [go_sem,Nat.reduceEqDiff,Nat.reducePow,Nat.reduceDiv,Nat.reduceMod,reduceCtorEq,appendA_U]
 have f6 : E2 6=lin Wd:=by rw [hE2];simp only [go_sem,Nat.reduceEqDiff,Nat.reducePow,Nat.reduceDiv,Nat.reduceMod,h6,appendA_U]
 have f7 : E2 7=lin i:=by rw [hE2];simp only [go_sem,Nat.reduceEqDiff,Nat.reducePow,Nat.reduceDiv,Nat.reduceMod,h7,appendA_U]
 clear hE2
 refine vc_sound _ _ _ (by rfl) ?_
 have hPl:=hperm.len
 have hFn:=hF.1
 have m0:=get_live ((hF.2.1 H.next (by omega) (by omega)).trans g0')
 have m3:=get_live ((hF.2.1 (H.next+3) (by omega) (by omega)).trans g3')
 have mN:=get_live hF.2.2
 have m0' : ∀ L,(ext Hx L).live H.next 0=some (25,[.lit (.int .u8 g0),.vec ps.length (drC ps),.vec ord.length (bytesL ord)]):=fun L=>(ext_live_old (by omega)).trans m0
 have m3' : ∀ L,(ext Hx L).live (H.next+3) 0=some (64,[.lit (.int .i64 g),.own (H.next+2) 0 0 n 3]):=fun L=>(ext_live_old (by omega)).trans m3
 have mN' : ∀ L,(ext Hx L).live (H.next+2) 0=some (83,nodesZ ns):=fun L=>(ext_live_old (by omega)).trans mN
 by_cases hb : (i : Int)<n
 ·obtain ⟨pv,hpv⟩:=get_of_lt (l:=P) (i:=i) (by omega)
  have hpr:=hperm.rng pv (List.mem_of_getElem? hpv)
  obtain ⟨v,rfl⟩:=Int.eq_ofNat_of_zero_le hpr.1
  obtain ⟨x,hx⟩:=get_of_lt (l:=ns) (i:=v) (by omega)
  have hpne:=ne_of_get hpv
  have hz0:=nodesZ_0 hx
  have hzne:=ne_of_get hz0
  have hzl:=nodesZ_len ns
  have hv : (v : Int)<n:=hpr.2
  have hv0 : (v : Int) ≥ 0:=hpr.1
  have hiP : (i : Int)<P.length:=by omega
  have w3:=bs i (by omega)
  have i1:=IntWalk.i64_in ((i : Int)+1) (by omega)
  have i2:=IntWalk.i64_in ((n : Int) - 1) (by omega)
  have i3:=IntWalk.i64_in ((n : Int) - 1 - i) (by omega)
  have i4:=IntWalk.u64_in ((n : Int) - 1 - i) (by omega)
  have fin : ∀ (c : Int) (B : Blk),2≤c∧c≤3→v*3+1≤(nodesZ ns).length∧H'.next≤((ext Hx [B]).upd (H.next+2) (.arr 0 83 (setAt (nodesZ ns) (v*3) [.lit (.int .i64 c)]))).next ∧
    (∃ (i_1 : Nat) (ns_1 : List NodeP) (Wd_1 : Int),AVal.lit (.int .i64 ((i : Int)+1))=.lit (.int .i64 i_1)∧i_1≤n∧ns_1.length=n∧(∀ x∈ns_1,x.rows=[]∧x.parents=[])∧(∀ j v : Nat,j<i_1→P[j]?=some (v : Int)→∃ x,ns_1[v]?=some x∧2≤x.card∧x.card≤3) ∧
     AVal.lit (.int .i64 (Wd*c))=.lit (.int .i64 Wd_1)∧1≤Wd_1∧Wd_1≤3 ^ i_1∧H'.next≤((ext Hx [B]).upd (H.next+2) (.arr 0 83 (setAt (nodesZ ns) (v*3) [.lit (.int .i64 c)]))).next∧FrN H1 ((ext Hx [B]).upd (H.next+2) (.arr 0 83 (setAt (nodesZ ns) (v*3) [.lit (.int .i64 c)]))) (H.next+2) (nodesZ ns_1)) ∧
    n - ((i : Int)+1).toNat<n - (iv (ρ 7)).toNat:=by
   intro c B c23
   have p1 : 2≤Wd*c∧Wd*c≤3 ^ i*3:=by
    constructor
    ·have:=Int.mul_le_mul hW1 c23.1 (by omega) (by omega);omega
    ·exact Int.mul_le_mul hW3 c23.2 (by omega) (by omega)
   have nn : ((ext Hx [B]).upd (H.next+2) (.arr 0 83 (setAt (nodesZ ns) (v*3) [.lit (.int .i64 c)]))).next=Hx.next+1:=rfl
   refine ⟨by rw [hzl];have:=get_lt hx;omega,by rw [nn];omega,⟨i+1,ns.set v ⟨c,[],[]⟩,Wd*c,rfl,by omega,by simp [hnl],fun z hz=>?_,fun j u hj hu=>?_,rfl,by omega,by rw [Int.pow_succ];omega,by rw [nn];omega,?_⟩,by rw [h7];simp only [lin,iv_int];omega⟩
   ·rcases List.mem_or_eq_of_mem_set hz with h|h
    ·exact hnz z h
    ·rw [h];exact ⟨rfl,rfl⟩
   ·by_cases huv : u=v
    ·subst huv
     exact ⟨_,List.getElem?_set_self (get_lt hx),by dsimp only;omega,by dsimp only;omega⟩
    ·rw [List.getElem?_set_ne (by omega)]
     refine hnc j u ?_ hu
     rcases Nat.lt_or_ge j i with h|h
     ·exact h
     ·obtain rfl : j=i:=by omega
      rw [hpv] at hu
      exact absurd (by have:=Option.some.inj hu;omega) huv
   ·refine ⟨by rw [nn];omega,fun id h1 h2=>by rw [upd_get,if_neg h2,get_ext_old _ _ _ (by omega)];exact hF.2.1 id h1 h2,?_⟩
    rw [upd_get,if_pos rfl,nodesZ_set0 hx (hnz x (List.mem_of_getElem? hx)).1 rfl]
    congr 2
    exact setAt_one (by rw [hzl];have:=get_lt hx;omega)
  by_cases hp : (i : Int)<ps.length
  ·obtain ⟨y,hy⟩:=get_of_lt (l:=ps) (i:=i) (by omega)
   have hyo:=hps y (List.mem_of_getElem? hy)
   have hc0:=drC_part hy
   have hc1 : i*3+3≤(drC ps).length:=by rw [drC_len];omega
   have hcne : ¬ drC ps=[]:=fun h=>by rw [h] at hc1;simp at hc1
   have c8:=hyo.1
   have t1 : y.card.tmod 2=y.card % 2:=Int.tmod_eq_emod_of_nonneg c8.1
   have i5:=IntWalk.u8_in (y.card % 2) (by omega)
   have i6:=IntWalk.i64_in (y.card % 2) (by omega)
   have i7:=IntWalk.i64_in (2+y.card % 2) (by omega)
   have c23 : 2≤(2+y.card % 2)∧(2+y.card % 2)≤3:=by omega
   have p1 : 2≤Wd*(2+y.card % 2)∧Wd*(2+y.card % 2)≤3 ^ i*3:=by
    constructor
    ·have:=Int.mul_le_mul hW1 c23.1 (by omega) (by omega);omega
    ·exact Int.mul_le_mul hW3 c23.2 (by omega) (by omega)
   have p2 : 2≤Wd*2∧Wd*2≤3 ^ i*3:=by omega
   have j1:=IntWalk.i64_in (Wd*(2+y.card % 2)) (by omega)
   have j2:=IntWalk.i64_in (Wd*2) (by omega)
   obtain ⟨q,hq⟩ : ∃ q,IntKind.i64.wrap (Wd*(2+y.card % 2)*2 ^ (min ((n : Int) - 1 - i).toNat IntKind.i64.bits))=q:=⟨_,rfl⟩
   have hsh : ∀ t o1 o2,binA Try.prog .shl t o1 o2 (.lit (.int .i64 (Wd*(2+y.card % 2)))) (.lit (.int .u64 ((n : Int) - 1 - i)))=some (.lit (.int .i64 q)):=fun t o1 o2=>by rw [bin_shl (by omega),hq]
   by_cases hq1 : q > 100
   ·simp only [go_sem,Int.reduceEq,Nat.reduceEqDiff,Nat.reducePow,Nat.reduceDiv,Nat.reduceMod,Nat.reduceAdd,f1,f3,f4,f5,f6,f7,m0',m3',mN',hb,hp,i1,i2,i3,i4,j1,j2,hsh,hpv,hpne,hv,hv0,hiP,hz0,hzne,hc0,hc1,hcne,t1,i5,i6,i7,hq1,appendA_U]
    refine W.draw 7 [0,1,0,0,12,28,0] Try.mixed (by kernel_rfl) (by kernel_rfl) ?_
    simp only [go_sem,Nat.reduceEqDiff,Nat.reducePow,Nat.reduceDiv,Nat.reduceMod,Nat.reduceAdd,reduceCtorEq,f1,f3,f4,f5,f6,f7,m0',m3',mN',hb,hp,i1,i2,i3,i4,j1,j2,hsh,hpv,hpne,hv,hv0,hiP,hz0,hzne,hc0,hc1,hcne,t1,i5,i6,i7,hq1,appendA_U]
    exact fin 2 _ (by omega)
   ·simp only [go_sem,Int.reduceEq,Nat.reduceEqDiff,Nat.reducePow,Nat.reduceDiv,Nat.reduceMod,Nat.reduceAdd,f1,f3,f4,f5,f6,f7,m0',m3',mN',hb,hp,i1,i2,i3,i4,j1,j2,hsh,hpv,hpne,hv,hv0,hiP,hz0,hzne,hc0,hc1,hcne,t1,i5,i6,i7,hq1,appendA_U]
    refine W.draw 7 [0,1,0,0,12,28,0] Try.mixed (by kernel_rfl) (by kernel_rfl) ?_
    simp only [go_sem,Nat.reduceEqDiff,Nat.reducePow,Nat.reduceDiv,Nat.reduceMod,Nat.reduceAdd,reduceCtorEq,f1,f3,f4,f5,f6,f7,m0',m3',mN',hb,hp,i1,i2,i3,i4,j1,j2,hsh,hpv,hpne,hv,hv0,hiP,hz0,hzne,hc0,hc1,hcne,t1,i5,i6,i7,hq1,appendA_U]
    exact fin (2+y.card % 2) _ c23
  ·have p2 : 2≤Wd*2∧Wd*2≤3 ^ i*3:=by omega
   have i5 : IntKind.i64.wrap (2+IntKind.i64.wrap (Int.tmod 0 2))=2:=by decide
   have j2:=IntWalk.i64_in (Wd*2) (by omega)
   obtain ⟨q,hq⟩ : ∃ q,IntKind.i64.wrap (Wd*2*2 ^ (min ((n : Int) - 1 - i).toNat IntKind.i64.bits))=q:=⟨_,rfl⟩
   have hsh : ∀ t o1 o2,binA Try.prog .shl t o1 o2 (.lit (.int .i64 (Wd*2))) (.lit (.int .u64 ((n : Int) - 1 - i)))=some (.lit (.int .i64 q)):=fun t o1 o2=>by rw [bin_shl (by omega),hq]
   by_cases hq1 : q > 100
   ·simp only [go_sem,Int.reduceEq,Nat.reduceEqDiff,Nat.reducePow,Nat.reduceDiv,Nat.reduceMod,f1,f3,f4,f5,f6,f7,m0',m3',mN',hb,hp,i1,i2,i3,i4,j2,hsh,hpv,hpne,hv,hv0,hiP,hz0,hzne,i5,hq1,appendA_U]
    refine W.draw 7 [0,1,0,0,12,28,0] Try.mixed (by kernel_rfl) (by kernel_rfl) ?_
    simp only [go_sem,Nat.reduceEqDiff,Nat.reducePow,Nat.reduceDiv,Nat.reduceMod,Nat.reduceAdd,reduceCtorEq,f1,f3,f4,f5,f6,f7,m0',m3',mN',hb,hp,i1,i2,i3,i4,j2,hsh,hpv,hpne,hv,hv0,hiP,hz0,hzne,i5,hq1,appendA_U]
    exact fin 2 _ (by omega)
   ·simp only [go_sem,Int.reduceEq,Nat.reduceEqDiff,Nat.reducePow,Nat.reduceDiv,Nat.reduceMod,f1,f3,f4,f5,f6,f7,m0',m3',mN',hb,hp,i1,i2,i3,i4,j2,hsh,hpv,hpne,hv,hv0,hiP,hz0,hzne,i5,hq1,appendA_U]
    refine W.draw 7 [0,1,0,0,12,28,0] Try.mixed (by kernel_rfl) (by kernel_rfl) ?_
    simp only [go_sem,Nat.reduceEqDiff,Nat.reducePow,Nat.reduceDiv,Nat.reduceMod,Nat.reduceAdd,reduceCtorEq,f1,f3,f4,f5,f6,f7,m0',m3',mN',hb,hp,i1,i2,i3,i4,j2,hsh,hpv,hpne,hv,hv0,hiP,hz0,hzne,i5,hq1,appendA_U]
    exact fin 2 _ (by omega)
 ·obtain rfl : n=i:=by omega
  clear bs hW1 hW3 h6 f6
  simp only [go_sem,Nat.reduceEqDiff,Nat.reducePow,Nat.reduceDiv,Nat.reduceMod,f3,f7,hb,appendA_U]
  obtain ⟨cs,hcs⟩ : ∃ cs,cs=cardsL ns:=⟨_,rfl⟩
  have csl : cs.length=n:=by rw [hcs,cards_len,hnl]
  have hc23 : ∀ c∈cs,2≤c∧c≤3:=fun c hc=>by
   obtain ⟨v,hv⟩:=List.mem_iff_getElem?.1 hc
   have hvn:=get_lt hv
   have hm:=permF_mem ord n v (by omega)
   rw [← hP] at hm
   obtain ⟨j,hj⟩:=List.mem_iff_getElem?.1 hm
   obtain ⟨x,hx,h2,h3⟩:=hnc j v (by have:=get_lt hj;omega) hj
   rw [hcs,cards_get hx] at hv
   cases hv
   exact ⟨h2,h3⟩
  have L0 : LoopN g cs P n 0 ns:=⟨hnl,hcs.symm,fun j v x _ _ hx=>hnz x (List.mem_of_getElem? hx),fun j v x h=>by omega⟩
  clear hnc hnz h7
  refine W.loop0 98079714615416886934934209737619636635871851991103765504 (by rfl) (fun ρ Hy=>∃ (i : Nat) (ns : List NodeP),ρ 10=lin i∧i≤n∧LoopN g cs P n i ns∧Hx.next≤Hy.next∧FrN H1 Hy (H.next+2) (nodesZ ns)) (fun ρ H=>n - (iv (ρ 10)).toNat) ?_ ?_
  ·simp only [go_sem,Nat.reduceEqDiff,appendA_U]
   exact ⟨0,ns,rfl,by omega,L0,hF⟩
  clear L0 hF m0 m3 mN m0' m3' mN' hFn hnl hcs f7
  rintro ρ Hy ⟨i,ns,h10,hi,L,hny,hF⟩
  refine W.env fun E hE=>?_
  have e1 : E 1=.ptr H.next 0 0:=by rw [hE];simp only [go_sem,Nat.reduceEqDiff,Nat.reducePow,Nat.reduceDiv,Nat.reduceMod,reduceCtorEq,f1,appendA_U]
  have e2 : E 2=.ptr (H.next+1) 0 0:=by rw [hE];simp only [go_sem,Nat.reduceEqDiff,Nat.reducePow,Nat.reduceDiv,Nat.reduceMod,reduceCtorEq,f2,appendA_U]
  have e3 : E 3=lin n:=by rw [hE];simp only [go_sem,Nat.reduceEqDiff,Nat.reducePow,Nat.reduceDiv,Nat.reduceMod,reduceCtorEq,f3,appendA_U]
  have e4 : E 4=.ptr (H.next+3) 0 0:=by rw [hE];simp only [go_sem,Nat.reduceEqDiff,Nat.reducePow,Nat.reduceDiv,Nat.reduceMod,reduceCtorEq,f4,appendA_U]
  have e5 : E 5=vecI P:=by rw [hE];simp only [go_sem,Nat.reduceEqDiff,Nat.reducePow,Nat.reduceDiv,Nat.reduceMod,reduceCtorEq,f5,appendA_U]
  have e10 : E 10=lin i:=by rw [hE];simp only [go_sem,Nat.reduceEqDiff,Nat.reducePow,Nat.reduceDiv,Nat.reduceMod,h10,appendA_U]
  clear hE
  refine vc_sound _ _ _ (by rfl) ?_
  have hFn:=hF.1
  have m0:=get_live ((hF.2.1 H.next (by omega) (by omega)).trans g0')
  have m1:=get_live ((hF.2.1 (H.next+1) (by omega) (by omega)).trans g1')
  have m3:=get_live ((hF.2.1 (H.next+3) (by omega) (by omega)).trans g3')
  have m0' : ∀ L,(ext Hy L).live H.next 0=some (25,[.lit (.int .u8 g0),.vec ps.length (drC ps),.vec ord.length (bytesL ord)]):=fun L=>(ext_live_old (by omega)).trans m0
  by_cases hb : (i : Int)<n
  ·obtain ⟨pv,hpv⟩:=get_of_lt (l:=P) (i:=i) (by omega)
   have hpr:=hperm.rng pv (List.mem_of_getElem? hpv)
   obtain ⟨v,rfl⟩:=Int.eq_ofNat_of_zero_le hpr.1
   have hnl:=L.len
   obtain ⟨x,hx⟩:=get_of_lt (l:=ns) (i:=v) (by omega)
   have hpne:=ne_of_get hpv
   have hiP : (i : Int)<P.length:=by omega
   have hP1 : ∀ k : Nat,k<n→∃ u : Nat,P[k]?=some (u : Int)∧u<n:=fun k hk=>by
    obtain ⟨q,hq⟩:=get_of_lt (l:=P) (i:=k) (by omega)
    have:=hperm.rng q (List.mem_of_getElem? hq)
    obtain ⟨u,rfl⟩:=Int.eq_ofNat_of_zero_le this.1
    exact ⟨u,hq,by omega⟩
   have hpc : ∀ (B : List AVal),B=(if (i : Int)<ps.length then (drC ps).drop (i*3) |>.take 3 else [.lit (.int .u8 0),.lit (.int .u8 0),.lit (.slice none 0 0)])→∃ (pc par : Int) (bs : List Int) (wv : AVal),B=[.lit (.int .u8 pc),.lit (.int .u8 par),wv]∧U8 par∧(∀ b∈bs,U8 b)∧(bs.length : Int)<2 ^ 63∧wv.one=true∧wv.cells=[wv]∧∀ H0,Fz (fun _=>True) H0 0 wv (.vec bs.length (bytesL bs)):=by
    rintro B rfl
    by_cases hp : (i : Int)<ps.length
    ·obtain ⟨y,hy⟩:=get_of_lt (l:=ps) (i:=i) (by omega)
     have hyo:=hps y (List.mem_of_getElem? hy)
     rw [if_pos hp,drC_part hy]
     exact ⟨y.card,y.par,y.w,_,rfl,hyo.2.1,hyo.2.2.2,hyo.2.2.1,rfl,rfl,fun H0=>.vec rfl fun i hi _=>by simp only [bytesL,List.getElem_map];exact .lit _⟩
    ·rw [if_neg hp]
     exact ⟨0,0,[],_,rfl,by unfold U8;omega,by simp,by simp,rfl,rfl,fun H0=>.nil⟩
   by_cases hp : (i : Int)<ps.length
   case' pos =>
    have hc1 : i*3+3≤(drC ps).length:=by rw [drC_len];omega
    have hcne : ¬ drC ps=[]:=fun h=>by rw [h] at hc1;simp at hc1
    rw [if_pos hp] at hpc
    obtain ⟨pc,par,bs,wv,hc0,hpar,hbs,hbl,hwo,hwc,hwf⟩:=hpc _ rfl
    simp only [go_sem,Nat.reduceEqDiff,Nat.reducePow,Nat.reduceDiv,Nat.reduceMod,Nat.reduceAdd,e1,e3,e4,e5,e10,m0',hb,hp,hc0,hc1,hcne,hpv,hpne,hiP,hwo,hwc,Bool.and_true,appendA_U]
    obtain ⟨Hz,hHz⟩ : ∃ Hz,Hz=ext Hy [.arr 0 142 [.lit (.int .u8 pc),.lit (.int .u8 par),wv]]:=⟨_,rfl⟩
    clear hpc hc0 hc1 hcne hp
   case' neg =>
    rw [if_neg hp] at hpc
    obtain ⟨pc,par,bs,wv,hc0,hpar,hbs,hbl,hwo,hwc,hwf⟩:=hpc _ rfl
    simp only [go_sem,Nat.reduceEqDiff,Nat.reducePow,Nat.reduceDiv,Nat.reduceMod,e1,e3,e4,e5,e10,m0',hb,hp,hpv,hpne,hiP,appendA_U]
    rw [hc0]
    obtain ⟨Hz,hHz⟩ : ∃ Hz,Hz=ext Hy [.arr 0 142 [.lit (.int .u8 pc),.lit (.int .u8 par),wv]]:=⟨_,rfl⟩
    clear hpc hc0 hp
   all_goals
    rw [← hHz]
    refine W.env fun E3 hE3=>?_
    have k1 : E3 1=.ptr H.next 0 0:=by rw [hE3];simp only [go_sem,Nat.reduceEqDiff,e1,appendA_U]
    have k2 : E3 2=.ptr (H.next+1) 0 0:=by rw [hE3];simp only [go_sem,Nat.reduceEqDiff,e2,appendA_U]
    have k3 : E3 3=lin n:=by rw [hE3];simp only [go_sem,Nat.reduceEqDiff,e3,appendA_U]
    have k4 : E3 4=.ptr (H.next+3) 0 0:=by rw [hE3];simp only [go_sem,Nat.reduceEqDiff,e4,appendA_U]
    have k5 : E3 5=vecI P:=by rw [hE3];simp only [go_sem,Nat.reduceEqDiff,e5,appendA_U]
    have k10 : E3 10=lin i:=by rw [hE3];simp only [go_sem,Nat.reduceEqDiff,e10,appendA_U]
    have k11 : E3 11=.ptr Hy.next 0 0:=by rw [hE3];simp only [go_sem,Nat.reduceEqDiff,appendA_U]
    have k12 : E3 12=lin v:=by rw [hE3];simp only [go_sem,Nat.reduceEqDiff,appendA_U]
    have k13 : E3 13=lin 0:=by rw [hE3];simp only [go_sem,Nat.reduceEqDiff,appendA_U]
    clear hE3
    have nz : Hz.next=Hy.next+1:=by rw [hHz];rfl
    have z3 : Hz.get (H.next+3)=some (.arr 0 64 [.lit (.int .i64 g),.own (H.next+2) 0 0 n 3]):=by rw [hHz,get_ext_old _ _ _ (by omega)];exact (hF.2.1 (H.next+3) (by omega) (by omega)).trans g3'
    have zP : Hz.get Hy.next=some (.arr 0 142 [.lit (.int .u8 pc),.lit (.int .u8 par),wv]):=by rw [hHz];exact ext1_get_new
    have zN : Hz.get (H.next+2)=some (.arr 0 83 (nodesZ ns)):=by rw [hHz,get_ext_old _ _ _ (by omega)];exact hF.2.2
    have zO : ∀ id,id<H1.next→id≠H.next+2→Hz.get id=H1.get id:=fun id h1 h2=>by rw [hHz,get_ext_old _ _ _ (by omega)];exact hF.2.1 id h1 h2
    obtain ⟨xr,xp⟩:=L.todo i v x (Nat.le_refl _) hpv hx
    have hzl:=nodesZ_len ns
    have hvn:=get_lt hx
    have hcx : (nodesZ ns)[v*3+1]?=some (.lit (.slice none 0 0)):=by
     have:=flat_get (f:=NodeP.cellsZ) (z:=3) cellsZ_len ns v 1 x hx (by omega)
     rw [show (nodesZ ns)[v*3+1]?=_ from this]
     unfold NodeP.cellsZ;rw [if_pos xr];rfl
    clear hHz e1 e2 e3 e4 e5 e10 f1 f2 f3 f4 f5 m0' m0 m1 m3
    have vlt : (v : Int)<n:=hpr.2
    have v0 : (v : Int) ≥ 0:=hpr.1
    have hset : ∀ pv pv',setAt ((nodesZ ns).set (v*3+1) pv) (v*3+1) [pv']=(nodesZ ns).set (v*3+1) pv':=fun pv pv'=>by rw [setAt_one (by rw [List.length_set];omega),List.set_set]
    have hgetc : ∀ pv,((nodesZ ns).set (v*3+1) pv)[v*3+1]?=some pv:=fun pv=>List.getElem?_set_self (by omega)
    refine W.postWeak (Q':=fun e s2=>e=.exit 4∧∃ pv l,s2.ρ 1=.ptr H.next 0 0∧s2.ρ 2=.ptr (H.next+1) 0 0∧s2.ρ 3=lin n∧s2.ρ 4=.ptr (H.next+3) 0 0∧s2.ρ 5=vecI P∧s2.ρ 10=lin i∧s2.ρ 11=.ptr Hy.next 0 0∧s2.ρ 12=lin v∧PSt Hz s2.H (H.next+2) (v*3+1) (nodesZ ns) pv l∧ParU P i n 0 l) ?_ ?_
    ·refine W.loop0 44601490397061167054908922280959129468035072 (by rfl) (fun ρ Hu=>∃ (u : Nat) (pv : AVal) (l : List Int),ρ 13=lin u∧u≤n∧PSt Hz Hu (H.next+2) (v*3+1) (nodesZ ns) pv l∧ParU P i u 0 l) (fun ρ H=>n - (iv (ρ 13)).toNat) ?_ ?_
     ·simp only [go_sem,k13,appendA_U]
      refine ⟨0,.lit (.slice none 0 0),[],rfl,by omega,⟨⟨Nat.le_refl _,fun _ _ _=>rfl,?_⟩,.nil⟩,⟨by simp,by simp,by simp,by simp⟩⟩
      rw [zN,set_get_self hcx]
     rintro ρu Hu ⟨u,pv,l,h13,hu,hS,hL⟩
     refine W.env fun E4 hE4=>?_
     have q3 : E4 3=lin n:=by rw [hE4];simp only [go_sem,Nat.reducePow,Nat.reduceDiv,Nat.reduceMod,reduceCtorEq,k3,appendA_U]
     have q4 : E4 4=.ptr (H.next+3) 0 0:=by rw [hE4];simp only [go_sem,Nat.reducePow,Nat.reduceDiv,Nat.reduceMod,reduceCtorEq,k4,appendA_U]
     have q5 : E4 5=vecI P:=by rw [hE4];simp only [go_sem,Nat.reducePow,Nat.reduceDiv,Nat.reduceMod,reduceCtorEq,k5,appendA_U]
     have q10 : E4 10=lin i:=by rw [hE4];simp only [go_sem,Nat.reducePow,Nat.reduceDiv,Nat.reduceMod,reduceCtorEq,k10,appendA_U]
     have q11 : E4 11=.ptr Hy.next 0 0:=by rw [hE4];simp only [go_sem,Nat.reducePow,Nat.reduceDiv,Nat.reduceMod,reduceCtorEq,k11,appendA_U]
     have q12 : E4 12=lin v:=by rw [hE4];simp only [go_sem,Nat.reducePow,Nat.reduceDiv,Nat.reduceMod,reduceCtorEq,k12,appendA_U]
     have q13 : E4 13=lin u:=by rw [hE4];simp only [go_sem,Nat.reducePow,Nat.reduceDiv,Nat.reduceMod,h13,appendA_U]
     have q1 : E4 1=.ptr H.next 0 0:=by rw [hE4];simp only [go_sem,Nat.reducePow,Nat.reduceDiv,Nat.reduceMod,reduceCtorEq,k1,appendA_U]
     have q2 : E4 2=.ptr (H.next+1) 0 0:=by rw [hE4];simp only [go_sem,Nat.reducePow,Nat.reduceDiv,Nat.reduceMod,reduceCtorEq,k2,appendA_U]
     clear hE4
     refine vc_sound _ _ _ (by rfl) ?_
     by_cases hub : (u : Int)<n
     ·have u1:=IntWalk.i64_in ((u : Int)+1) (by omega)
      simp only [go_sem,Nat.reduceEqDiff,Nat.reducePow,Nat.reduceDiv,Nat.reduceMod,q3,q13,hub,appendA_U]
      refine W.loop0 44601490397058710981870980086493729605566464 (by rfl) (fun ρ Hk=>∃ (k : Nat) (pv : AVal) (l : List Int),ρ 14=lin k∧k≤i∧Hu.next≤Hk.next∧PSt Hz Hk (H.next+2) (v*3+1) (nodesZ ns) pv l∧ParU P i u k l) (fun ρ H=>i - (iv (ρ 14)).toNat) ?_ ?_
      ·simp only [go_sem,Nat.reduceEqDiff,appendA_U]
       exact ⟨0,pv,l,rfl,by omega,hS,hL⟩
      clear hS hL
      rintro ρk Hk ⟨k,pv,l,h14,hk,hnk,hS,hL⟩
      refine W.env fun E5 hE5=>?_
      have r4 : E5 4=.ptr (H.next+3) 0 0:=by rw [hE5];simp only [go_sem,Nat.reduceEqDiff,Nat.reducePow,Nat.reduceDiv,Nat.reduceMod,reduceCtorEq,q4,appendA_U]
      have r5 : E5 5=vecI P:=by rw [hE5];simp only [go_sem,Nat.reduceEqDiff,Nat.reducePow,Nat.reduceDiv,Nat.reduceMod,reduceCtorEq,q5,appendA_U]
      have r10 : E5 10=lin i:=by rw [hE5];simp only [go_sem,Nat.reduceEqDiff,Nat.reducePow,Nat.reduceDiv,Nat.reduceMod,reduceCtorEq,q10,appendA_U]
      have r11 : E5 11=.ptr Hy.next 0 0:=by rw [hE5];simp only [go_sem,Nat.reduceEqDiff,Nat.reducePow,Nat.reduceDiv,Nat.reduceMod,reduceCtorEq,q11,appendA_U]
      have r12 : E5 12=lin v:=by rw [hE5];simp only [go_sem,Nat.reduceEqDiff,Nat.reducePow,Nat.reduceDiv,Nat.reduceMod,reduceCtorEq,q12,appendA_U]
      have r13 : E5 13=lin u:=by rw [hE5];simp only [go_sem,Nat.reduceEqDiff,Nat.reducePow,Nat.reduceDiv,Nat.reduceMod,reduceCtorEq,q13,appendA_U]
      have r14 : E5 14=lin k:=by rw [hE5];simp only [go_sem,Nat.reduceEqDiff,Nat.reducePow,Nat.reduceDiv,Nat.reduceMod,h14,appendA_U]
      clear hE5
      refine vc_sound _ _ _ (by rfl) ?_
      by_cases hki : (k : Int)<i
      ·obtain ⟨hFz,hOz⟩:=hS
       have hFz1:=hFz.1
       obtain ⟨a,ha,han⟩:=hP1 k (by omega)
       have hane:=ne_of_get ha
       have hkP : (k : Int)<P.length:=by omega
       have s1:=IntWalk.i64_in ((k : Int)+1) (by omega)
       have s2:=IntWalk.u64_in (k : Int) (by omega)
       have y3:=get_live ((hFz.2.1 (H.next+3) (by omega) (by omega)).trans z3)
       have yP:=get_live ((hFz.2.1 Hy.next (by omega) (by omega)).trans zP)
       have yN:=get_live hFz.2.2
       have hgc:=hgetc pv
       have hcne2:=ne_of_get hgc
       obtain ⟨r1,hr1⟩ : ∃ r1,∀ t o1 o2,binA Try.prog .shr t o1 o2 (.lit (.int .u8 par)) (.lit (.int .u64 (k : Int)))=some (.lit (.int .u8 r1)):=⟨_,fun _ _ _=>bin_shr (by omega)⟩
       obtain ⟨r2,hr2⟩ : ∃ r2,∀ t o1 o2,binA Try.prog .and t o1 o2 (.lit (.int .u8 r1)) (.lit (.int .u8 1))=some (.lit (.int .u8 r2)):=⟨_,fun _ _ _=>bin_and⟩
       have hlen:=own_len hOz (d:=some (.slice 3)) rfl
       rw [lenU_slice,ints_length] at hlen
       by_cases hau : (a : Int)=u
       ·have hau' : a=u:=by omega
        by_cases hr : r2=1
        ·by_cases hl3 : (l.length : Int)<3
         ·simp only [go_sem,Nat.reduceEqDiff,Nat.reducePow,Nat.reduceDiv,Nat.reduceMod,r4,r5,r10,r11,r12,r13,r14,hki,ha,hane,hkP,s1,s2,y3,yP,yN,hgc,hcne2,hr1,hr2,hlen,hau,hr,hl3,vlt,v0,appendA_U]
          obtain ⟨pv',Hj,hA,hO',hn',hpr'⟩:=app_oneG (P:=Try.prog) (H:=Hk) (t:=59) (x:=lin u) (n:=Hk.next+1) Try.underlying59 Try.cells3 Try.zero3 rfl (by rw [Try.bytes3,ints_length];omega) hOz hFz1 rfl
          simp only [lin] at hA
          have keep : ∀ id,id<Hz.next→Hj.get id=Hk.get id:=fun id h=>hpr' id (by omega) (hOz.ne h)
          have y3j:=get_live ((keep _ (by omega)).trans ((hFz.2.1 (H.next+3) (by omega) (by omega)).trans z3))
          have yNj:=get_live ((keep _ (by omega)).trans hFz.2.2)
          refine W.draw 12 [0,1,0,0,8,0,56,120,248,0,512,2040] Try.mixed (by kernel_rfl) (by kernel_rfl) ?_
          simp only [go_sem,Nat.reduceEqDiff,Nat.reducePow,Nat.reduceDiv,Nat.reduceMod,Nat.reduceAdd,Nat.reduceLeDiff,reduceCtorEq,r4,r5,r10,r11,r12,r13,r14,y3,y3j,yN,yNj,hgc,hcne2,vlt,v0,hA,s1]
          have hdj : djF (if isOwn pv=true then { eff:=idsV pv,rs:=idsV pv++[Hk.next] } else { eff:=[Hk.next+1],rs:=[Hk.next] }) { eff:=[],rs:=[H.next+3] }:=by
           rcases hOz with ⟨hO1,_⟩|⟨id,gg,hO1,hO2,hO3,_⟩
           ·rw [hO1]
            show djF { eff:=[Hk.next+1],rs:=[Hk.next] } _
            exact ⟨fun a ha=>by (obtain rfl : a=Hk.next+1:=by simpa using ha);simp;omega,fun a ha=>by simp at ha⟩
           ·rw [hO3]
            show djF { eff:=[id],rs:=[id]++[Hk.next] } _
            exact ⟨fun a ha=>by (obtain rfl : a=id:=by simpa using ha);simp;omega,fun a ha=>by simp at ha⟩
          have hpc1:=hO'.cells
          rw [hpc1]
          refine ⟨⟨by omega,by omega,by omega,by omega,by omega,by omega,by omega⟩,⟨hdj,hdj⟩,⟨rfl,by simp [hO'.one],by rw [List.length_set];simp;omega⟩,by rw [upd_next];omega,⟨k+1,pv',l++[(u : Int)],rfl,by omega,by rw [upd_next];omega,⟨⟨by rw [upd_next];omega,fun id h1 h2=>by rw [upd_get,if_neg h2,keep _ h1];exact hFz.2.1 id h1 h2,?_⟩,?_⟩,hL.add hperm (by omega) (by rw [ha,hau]) (by omega)⟩,by rw [h14];simp only [lin,iv_int];omega⟩
          ·rw [upd_get,if_pos rfl,hset]
          ·have:=hO'.keep (lo':=Hz.next) (H':=Hj.upd (H.next+2) (.arr 0 83 (setAt ((nodesZ ns).set (v*3+1) pv) (v*3+1) [pv']))) (Nat.le_refl _) (Nat.le_refl _) fun id _ h1 _ _ _=>by rw [upd_get,if_neg (by omega)]
           simpa [ints,lin] using this
         ·simp only [go_sem,Nat.reduceEqDiff,Nat.reducePow,Nat.reduceDiv,Nat.reduceMod,r4,r5,r10,r11,r12,r13,r14,hki,ha,hane,hkP,s1,s2,y3,yP,yN,hgc,hcne2,hr1,hr2,hlen,hau,hr,hl3,vlt,v0,guardA_undef,appendA_U]
          exact ⟨hnk,⟨k+1,pv,l,rfl,by omega,hnk,⟨hFz,hOz⟩,hL.skip⟩,by rw [h14];simp only [lin,iv_int];omega⟩
        ·simp only [go_sem,Nat.reduceEqDiff,Nat.reducePow,Nat.reduceDiv,Nat.reduceMod,r4,r5,r10,r11,r12,r13,r14,hki,ha,hane,hkP,s1,s2,y3,yP,yN,hgc,hcne2,hr1,hr2,hlen,hau,hr,vlt,v0,guardA_undef,appendA_U]
         exact ⟨hnk,⟨k+1,pv,l,rfl,by omega,hnk,⟨hFz,hOz⟩,hL.skip⟩,by rw [h14];simp only [lin,iv_int];omega⟩
       ·simp only [go_sem,Nat.reduceEqDiff,Nat.reducePow,Nat.reduceDiv,Nat.reduceMod,r4,r5,r10,r11,r12,r13,r14,hki,ha,hane,hkP,s1,s2,y3,yP,yN,hgc,hcne2,hr1,hr2,hlen,hau,vlt,v0,guardA_undef,appendA_U]
        exact ⟨hnk,⟨k+1,pv,l,rfl,by omega,hnk,⟨hFz,hOz⟩,hL.skip⟩,by rw [h14];simp only [lin,iv_int];omega⟩
      ·obtain rfl : k=i:=by omega
       simp only [go_sem,Nat.reduceEqDiff,Nat.reducePow,Nat.reduceDiv,Nat.reduceMod,r10,r13,r14,hki,u1,appendA_U]
       exact ⟨by have:=hS.1.1;omega,⟨u+1,pv,l,rfl,by omega,hS,hL.next⟩,by rw [h13];simp only [lin,iv_int];omega⟩
     ·obtain rfl : u=n:=by omega
      simp only [go_sem,Nat.reduceEqDiff,Nat.reducePow,Nat.reduceDiv,Nat.reduceMod,q1,q2,q3,q4,q5,q10,q11,q12,q13,hub,appendA_U]
      exact ⟨pv,l,hS,hL⟩
    ·rintro e s2 ⟨rfl,pv,l,a1,a2,a3,a4,a5,a10,a11,a12,⟨hFz,hOz⟩,hL⟩
     have hFz1:=hFz.1
     obtain ⟨rk,hrk,hfz⟩ : ∃ rk,Hz.next≤rk∧Fz (fun id=>id=rk) s2.H s2.H.next pv (vecI l):=by
      rcases hOz with ⟨hO1,hO2⟩|⟨id,gg,hO1,hO2,hO3,hO4⟩
      ·have : l=[]:=by cases l with
        | nil=>rfl
        | cons b l=>simp [ints] at hO2
       rw [hO1,this]
       exact ⟨s2.H.next,hFz1,.nil⟩
      ·refine ⟨id,hO1,?_⟩
       rw [hO3,ints_length]
       refine .frz rfl hO4 (by rw [Nat.mul_one,ints_length]) fun j hj h2 h'=>?_
       simp only [Nat.zero_add,ints,List.getElem_map]
       exact .lit _
     have hne2 : H.next+2≠rk:=by omega
     refine ⟨⟨s2.ρ,s2.H.melt rk (H.next+2) (.arr 0 83 ((nodesZ ns).set (v*3+1) (vecI l)))⟩,WeakS.melt G0_ok hFz.2.2 hne2 (by simp) (fz_set (fz_nodesZ' ns) hfz),Nat.le_refl _,trivial,?_⟩
     obtain ⟨Hm,hHm⟩ : ∃ Hm,Hm=s2.H.melt rk (H.next+2) (.arr 0 83 ((nodesZ ns).set (v*3+1) (vecI l))):=⟨_,rfl⟩
     rw [← hHm]
     have hFm : FrN Hz Hm (H.next+2) ((nodesZ ns).set (v*3+1) (vecI l)):=by
      rw [hHm]
      exact ⟨hFz1,fun id h1 h2=>(melt_other (by omega) h2).trans (hFz.2.1 id h1 h2),melt_ob hne2⟩
     clear hFz hOz hfz hHm hne2 hrk
     simp only [go_sem,Nat.reduceEqDiff,appendA_U]
     refine W.env fun E6 hE6=>?_
     have y1 : E6 1=.ptr H.next 0 0:=by rw [hE6];simp only [go_sem,Nat.reduceEqDiff,a1,appendA_U]
     have y2 : E6 2=.ptr (H.next+1) 0 0:=by rw [hE6];simp only [go_sem,Nat.reduceEqDiff,a2,appendA_U]
     have y3 : E6 3=lin n:=by rw [hE6];simp only [go_sem,Nat.reduceEqDiff,a3,appendA_U]
     have y4 : E6 4=.ptr (H.next+3) 0 0:=by rw [hE6];simp only [go_sem,Nat.reduceEqDiff,a4,appendA_U]
     have y5 : E6 5=vecI P:=by rw [hE6];simp only [go_sem,Nat.reduceEqDiff,a5,appendA_U]
     have y10 : E6 10=lin i:=by rw [hE6];simp only [go_sem,Nat.reduceEqDiff,a10,appendA_U]
     have y11 : E6 11=.ptr Hy.next 0 0:=by rw [hE6];simp only [go_sem,Nat.reduceEqDiff,a11,appendA_U]
     have y12 : E6 12=lin v:=by rw [hE6];simp only [go_sem,Nat.reduceEqDiff,a12,appendA_U]
     have y15 : E6 15=lin 0:=by rw [hE6];simp only [go_sem,appendA_U]
     clear hE6 a1 a2 a3 a4 a5 a10 a11 a12
     have lsm : SmallC (atL cs l):=smallC_of (by rw [atL_len];have:=hL.p3;omega) fun c hc=>by
      unfold atL at hc
      obtain ⟨q,hq,rfl⟩:=List.mem_map.1 hc
      have hqr:=hL.rng q hq
      obtain ⟨c,hc⟩:=get_of_lt (l:=cs) (i:=q.toNat) (by rw [csl];rcases hqr.2 with h|⟨_,k',h,_⟩<;>omega)
      rw [getD_of_get hc]
      have:=hc23 c (List.mem_of_getElem? hc)
      omega
     have lpos : 0<prodL (atL cs l)∧prodL (atL cs l)≤27:=by
      have c3 : ∀ c∈atL cs l,1≤c∧c≤3:=fun c hc=>by
       unfold atL at hc
       obtain ⟨q,hq,rfl⟩:=List.mem_map.1 hc
       have hqr:=hL.rng q hq
       obtain ⟨c,hc⟩:=get_of_lt (l:=cs) (i:=q.toNat) (by rw [csl];rcases hqr.2 with h|⟨_,k',h,_⟩<;>omega)
       rw [getD_of_get hc]
       have:=hc23 c (List.mem_of_getElem? hc)
       omega
      have h1:=prodL_pos fun c hc=>(c3 c hc).1
      have h2:=(prodL_le_pow (b:=3) (by omega) fun c hc=>⟨by have:=(c3 c hc).1;omega,(c3 c hc).2⟩).2
      have h3 : (3 : Int) ^ (atL cs l).length≤3 ^ 3:=by
       have : (3 : Nat) ^ (atL cs l).length≤3 ^ 3:=Nat.pow_le_pow_right (by decide) (by rw [atL_len];exact hL.p3)
       exact_mod_cast this
      omega
     obtain ⟨R,hR⟩:=Int.eq_ofNat_of_zero_le (show 0≤prodL (atL cs l) by omega)
     have hxc : 2≤x.card∧x.card≤3:=hc23 x.card (by rw [← L.cards];exact List.mem_of_getElem? (cards_get hx))
     have hFm1:=hFm.1
     have w3 : Hm.get (H.next+3)=some (.arr 0 64 [.lit (.int .i64 g),.own (H.next+2) 0 0 n 3]):=(hFm.2.1 _ (by omega) (by omega)).trans z3
     have wP : Hm.get Hy.next=some (.arr 0 142 [.lit (.int .u8 pc),.lit (.int .u8 par),wv]):=(hFm.2.1 _ (by omega) (by omega)).trans zP
     obtain ⟨C1,hC1⟩ : ∃ C1,C1=(nodesZ ns).set (v*3+1) (vecI l):=⟨_,rfl⟩
     have c1l : C1.length=ns.length*3:=by rw [hC1,List.length_set,hzl]
     have hcx2 : C1[v*3+2]?=some (.lit (.slice none 0 0)):=by
      have:=flat_get (f:=NodeP.cellsZ) (z:=3) cellsZ_len ns v 2 x hx (by omega)
      rw [hC1,List.getElem?_set_ne (by omega),show (nodesZ ns)[v*3+2]?=_ from this]
      unfold NodeP.cellsZ;rw [if_pos xr];rfl
     have hcx0 : C1[v*3]?=some (lin x.card):=by rw [hC1,List.getElem?_set_ne (by omega)];exact nodesZ_0 hx
     rw [← hC1] at hFm
     have hset2 : ∀ rv rv',setAt (C1.set (v*3+2) rv) (v*3+2) [rv']=C1.set (v*3+2) rv':=fun rv rv'=>by rw [setAt_one (by rw [List.length_set];omega),List.set_set]
     have hgc2 : ∀ rv,(C1.set (v*3+2) rv)[v*3+2]?=some rv:=fun rv=>List.getElem?_set_self (by omega)
     have hgc0 : ∀ rv,(C1.set (v*3+2) rv)[v*3]?=some (lin x.card):=fun rv=>by rw [List.getElem?_set_ne (by omega)];exact hcx0
     refine W.postWeak (Q':=fun e s2=>e=.exit 8∧∃ (rv : AVal) (rows : List (List Int)),s2.ρ 1=.ptr H.next 0 0∧s2.ρ 2=.ptr (H.next+1) 0 0∧s2.ρ 3=lin n∧s2.ρ 4=.ptr (H.next+3) 0 0∧s2.ρ 5=vecI P∧s2.ρ 10=lin i∧rows.length=R∧(∀ r∈rows,RowOk g x.card r)∧FrN Hm s2.H (H.next+2) (C1.set (v*3+2) rv)∧OwnG Hm.next s2.H 59 rv (rows.map vecI)) ?_ ?_
     ·refine W.loop0 98079714615372285444537148491336716315054007096738611200 (by rfl) (fun ρ Hr=>∃ (r : Nat) (rv : AVal) (rows : List (List Int)),ρ 15=lin r∧r≤R∧rows.length=r∧(∀ r∈rows,RowOk g x.card r)∧FrN Hm Hr (H.next+2) (C1.set (v*3+2) rv)∧OwnG Hm.next Hr 59 rv (rows.map vecI)) (fun ρ H=>R - (iv (ρ 15)).toNat) ?_ ?_
      ·simp only [go_sem,y15,appendA_U]
       refine ⟨0,.lit (.slice none 0 0),[],rfl,by omega,rfl,by simp,⟨Nat.le_refl _,fun _ _ _=>rfl,?_⟩,.nil⟩
       rw [hFm.2.2,set_get_self hcx2]
      rintro ρr Hr ⟨r,rv,rows,h15,hr,hrl,hrows,hFr,hOr⟩
      refine W.env fun E7 hE7=>?_
      have b1 : E7 1=.ptr H.next 0 0:=by rw [hE7];simp only [go_sem,Nat.reducePow,Nat.reduceDiv,Nat.reduceMod,reduceCtorEq,y1,appendA_U]
      have b2 : E7 2=.ptr (H.next+1) 0 0:=by rw [hE7];simp only [go_sem,Nat.reducePow,Nat.reduceDiv,Nat.reduceMod,reduceCtorEq,y2,appendA_U]
      have b3 : E7 3=lin n:=by rw [hE7];simp only [go_sem,Nat.reducePow,Nat.reduceDiv,Nat.reduceMod,reduceCtorEq,y3,appendA_U]
      have b4 : E7 4=.ptr (H.next+3) 0 0:=by rw [hE7];simp only [go_sem,Nat.reducePow,Nat.reduceDiv,Nat.reduceMod,reduceCtorEq,y4,appendA_U]
      have b5 : E7 5=vecI P:=by rw [hE7];simp only [go_sem,Nat.reducePow,Nat.reduceDiv,Nat.reduceMod,reduceCtorEq,y5,appendA_U]
      have b10 : E7 10=lin i:=by rw [hE7];simp only [go_sem,Nat.reducePow,Nat.reduceDiv,Nat.reduceMod,reduceCtorEq,y10,appendA_U]
      have b11 : E7 11=.ptr Hy.next 0 0:=by rw [hE7];simp only [go_sem,Nat.reducePow,Nat.reduceDiv,Nat.reduceMod,reduceCtorEq,y11,appendA_U]
      have b12 : E7 12=lin v:=by rw [hE7];simp only [go_sem,Nat.reducePow,Nat.reduceDiv,Nat.reduceMod,reduceCtorEq,y12,appendA_U]
      have b15 : E7 15=lin r:=by rw [hE7];simp only [go_sem,Nat.reducePow,Nat.reduceDiv,Nat.reduceMod,h15,appendA_U]
      clear hE7
      refine vc_sound _ _ _ (by rfl) ?_
      have hFr1:=hFr.1
      have v3:=get_live ((hFr.2.1 (H.next+3) (by omega) (by omega)).trans w3)
      have vP:=get_live ((hFr.2.1 Hy.next (by omega) (by omega)).trans wP)
      have vN:=get_live hFr.2.2
      have hzp : ∀ z∈ns,z.rows=[]→z.parents=[]:=fun z hz hz0=>by
       obtain ⟨u,hu⟩:=List.mem_iff_getElem?.1 hz
       have hm:=permF_mem ord n u (by have:=get_lt hu;omega)
       rw [← hP] at hm
       obtain ⟨j,hj⟩:=List.mem_iff_getElem?.1 hm
       rcases Nat.lt_or_ge j i with h|h
       ·exact absurd hz0 (L.done j u z h hj hu).ne
       ·exact (L.todo j u z h hj hu).2
      have hcard : cardsL (ns.set v ⟨x.card,l,rows⟩)=cs:=by
       have h1 : cardsL (ns.set v ⟨x.card,l,rows⟩)=(cardsL ns).set v x.card:=by unfold cardsL;rw [List.map_set]
       rw [h1,set_get_self (cards_get hx),L.cards]
      have hpar : parC (ns.set v ⟨x.card,l,rows⟩) ⟨x.card,l,rows⟩=atL cs l:=by unfold parC;rw [hcard]
      have fzN : Fz (fun _=>True) Hr 0 (.agg [lin g,.own (H.next+2) 0 0 n 3]) (netV g (ns.set v ⟨x.card,l,rows⟩)):=by
       refine .agg rfl fun i hi _=>?_
       match i,hi with
       | 0,_=>exact .lit _
       | 1,_ =>
        show Fz _ _ _ _ (.vec (ns.set v ⟨x.card,l,rows⟩).length (nodesC (ns.set v ⟨x.card,l,rows⟩)))
        rw [List.length_set,hnl,nodesC_set (y:=⟨x.card,l,rows⟩) hx rfl]
        refine .frz trivial hFr.2.2 (by rw [List.length_set,List.length_set,nodesC_len];omega) fun j hj h2 h'=>?_
        simp only [Nat.zero_add]
        refine fzl_set (A:=C1) (B:=(nodesC ns).set (v*3+1) (vecI l)) ?_ ?_ j _ _
        ·rw [hC1]
         exact fzl_set (fz_nodesZ ns hzp) (.keepInts _)
        ·have:=hOr.fz (S:=fun _=>True) (nx:=0) (cs':=rows.map vecI) (fun _ _=>trivial) rfl fun i hi _=>by simp only [List.getElem_map];exact .keepInts _
         rw [List.length_map] at this
         exact this
      simp only [go_sem,Nat.reduceEqDiff,Nat.reducePow,Nat.reduceDiv,Nat.reduceMod,Nat.reduceAdd,b4,b12,b15,v3,appendA_U]
      refine AApply.clo ((ACall.frame (H:=Hr) (args:=[.agg [lin g,.own (H.next+2) 0 0 n 3],lin v]) (args':=[netV g (ns.set v ⟨x.card,l,rows⟩),lin v]) (v':=vecI (atL cs l)) G0_ok rfl (fun i hi _=>?_) (parentCards_own g (ns.set v ⟨x.card,l,rows⟩) v ⟨x.card,l,rows⟩ (List.getElem?_set_self hvn) (by rw [List.length_set];omega) (by show (l.length : Int)<_;have:=hL.p3;omega) (fun q hq=>by
        have hqr:=hL.rng q hq
        rw [List.length_set]
        rcases hqr.2 with h|⟨_,k',h,_⟩<;>omega) noH _ fun w Hq _ ho=>⟨_,rfl,by rw [hpar] at ho;exact ho.freshI⟩)).mono fun r1 H1' hr1=>?_)
      ·match i,hi with
       | 0,_=>exact fzN
       | 1,_=>exact .lit _
      obtain ⟨rfl,rfl⟩:=hr1
      refine ⟨trivial,?_⟩
      simp only [go_sem,Nat.reduceEqDiff,appendA_U]
      refine AApply.clo (size02_spec (atL cs l) lsm _ _ ⟨trivial,?_⟩)
      rw [hR]
      by_cases hrR : (r : Int)<R
      ·simp only [go_sem,Nat.reduceEqDiff,b4,b12,b15,hrR,appendA_U]
       obtain ⟨xn,hxn⟩:=Int.eq_ofNat_of_zero_le (show 0≤x.card by omega)
       have rc : 0≤(r : Int)*(x.card+1)∧(r : Int)*(x.card+1)≤27*4:=⟨Int.mul_nonneg (by omega) (by omega),Int.mul_le_mul (by omega) (by omega) (by omega) (by omega)⟩
       have c1:=IntWalk.i64_in (x.card+1) (by omega)
       have c2:=IntWalk.i64_in ((r : Int)*(x.card+1)) (by omega)
       have c3:=IntWalk.i64_in ((r : Int)+1) (by omega)
       have hg2:=hgc2 rv
       have hg0':=hgc0 rv
       have hg2n:=ne_of_get hg2
       obtain ⟨row,hrow⟩ : ∃ row,row=rowF g xn bs ((r : Int)*(x.card+1)):=⟨_,rfl⟩
       have hrok : RowOk g x.card row:=by rw [hrow,hxn];exact rowF_ok hg1.1 (by omega) _ _
       have hpc84 : ∀ Hq,PCall Try.prog G0 (.clo 84 [] []) [lin g,lin x.card,wv,lin ((r : Int)*(x.card+1))] Hq (vecI row) []:=fun Hq=>by
        refine PCall.mk (fun i hi=>by cases hi) fun H2 _ _=>?_
        refine ACall.frame (H:=H2) (args:=[lin g,lin x.card,wv,lin ((r : Int)*(x.card+1))]) (args':=[lin g,lin xn,.vec bs.length (bytesL bs),lin ((r : Int)*(x.card+1))]) (v':=vecI row) G0_ok rfl (fun i hi _=>?_) (rowD_spec g xn hg1 (by omega) bs hbl hbs _ (by omega) noH _ fun w Hw _ ho=>⟨_,rfl,by rw [hrow];exact ho.freshI⟩)
        match i,hi with
        | 0,_=>exact .lit _
        | 1,_=>rw [hxn];exact .lit _
        | 2,_=>exact hwf _
        | 3,_=>exact .lit _
       obtain ⟨rv',Hj,hA,hO',hn',hpr'⟩:=app_oneG (P:=Try.prog) (H:=H1') (t:=48) (x:=vecI row) (n:=H1'.next+1) Try.underlying48 Try.cells59 Try.zero59 rfl (by rw [Try.bytes59,List.length_map];omega) hOr hFr1 rfl
       have keep : ∀ id,id<Hm.next→Hj.get id=H1'.get id:=fun id h=>hpr' id (by omega) (hOr.ne h)
       have v3j:=get_live ((keep _ (by omega)).trans ((hFr.2.1 (H.next+3) (by omega) (by omega)).trans w3))
       have vNj:=get_live ((keep _ (by omega)).trans hFr.2.2)
       have hA' : appendA Try.prog (ext H1' [.arr 0 59 [.vec row.length (ints row)]]) (H1'.next+1) 48 48 rv (.own H1'.next 0 0 1 1)=some (rv',Hj):=hA
       refine W.draw 31 [0,1,0,0,8,0,56,120,248,0,512,0,2048,0,14336,30720,63488,0,131072,0,0,1048576,0,7340032,15728640,32505856,66060288,133693440,268434944,536870400,1073741816] Try.mixed (by kernel_rfl) (by kernel_rfl) ?_
       simp only [go_sem,Nat.reduceEqDiff,Nat.reducePow,Nat.reduceDiv,Nat.reduceMod,Nat.reduceAdd,Nat.reduceLeDiff,reduceCtorEq,b4,b11,b12,b15,v3,v3j,vP,vN,vNj,hg2,hg0',hg2n,vlt,v0,c1,c2]
       refine ⟨vecI row,[],hpc84 _,?_⟩
       simp only [go_sem,Nat.reduceEqDiff,Nat.reducePow,Nat.reduceDiv,Nat.reduceMod,reduceCtorEq,b4,b11,b12,b15,v3,v3j,vP,vN,vNj,hg2,hg0',hg2n,vlt,v0,c1,c2,c3,hA']
       have hdj : djF (if isOwn rv=true then { eff:=idsV rv,rs:=idsV rv++[H1'.next] } else { eff:=[H1'.next+1],rs:=[H1'.next] }) { eff:=[],rs:=[H.next+3] }:=by
        rcases hOr with ⟨hO1,_⟩|⟨id,gg,hO1,hO2,hO3,_⟩
        ·rw [hO1]
         show djF { eff:=[H1'.next+1],rs:=[H1'.next] } _
         exact ⟨fun a ha=>by (obtain rfl : a=H1'.next+1:=by simpa using ha);simp;omega,fun a ha=>by simp at ha⟩
        ·rw [hO3]
         show djF { eff:=[id],rs:=[id]++[H1'.next] } _
         exact ⟨fun a ha=>by (obtain rfl : a=id:=by simpa using ha);simp;omega,fun a ha=>by simp at ha⟩
       rw [hO'.cells]
       refine ⟨⟨by omega,by omega,by omega,by omega,by omega,by omega,by omega⟩,⟨hdj,hdj⟩,⟨rfl,by simp [hO'.one],by rw [List.length_set,c1l];simp;omega⟩,by rw [upd_next];omega,⟨r+1,rv',rows++[row],rfl,by omega,by simp [hrl],fun q hq=>?_,⟨by rw [upd_next];omega,fun id h1 h2=>by rw [upd_get,if_neg h2,keep _ h1];exact hFr.2.1 id h1 h2,?_⟩,?_⟩,by rw [h15];simp only [lin,iv_int];omega⟩
       ·rcases List.mem_append.1 hq with h|h
        ·exact hrows q h
        ·obtain rfl:=List.mem_singleton.1 h;exact hrok
       ·rw [upd_get,if_pos rfl,hset2]
       ·have:=hO'.keep (lo':=Hm.next) (H':=Hj.upd (H.next+2) (.arr 0 83 (setAt (C1.set (v*3+2) rv) (v*3+2) [rv']))) (Nat.le_refl _) (Nat.le_refl _) fun id _ h1 _ _ _=>by rw [upd_get,if_neg (by omega)]
        simpa using this
      ·simp only [go_sem,Nat.reduceEqDiff,b1,b2,b3,b4,b5,b10,b12,b15,hrR,appendA_U]
       exact ⟨rv,rows,by omega,hrows,hFr,hOr⟩
     ·rintro e s3 ⟨rfl,rv,rows,a1,a2,a3,a4,a5,a10,hrl,hrows,hFr,hOr⟩
      have hFr1:=hFr.1
      obtain ⟨rk,hrk,hfz⟩ : ∃ rk,Hm.next≤rk∧Fz (fun id=>id=rk) s3.H s3.H.next rv (vecV rows):=by
       rcases hOr with ⟨hO1,hO2⟩|⟨id,gg,hO1,hO2,hO3,hO4⟩
       ·have : rows=[]:=by cases rows with
         | nil=>rfl
         | cons b l=>simp at hO2
        rw [hO1,this]
        exact ⟨s3.H.next,hFr1,.nil⟩
       ·refine ⟨id,hO1,?_⟩
        rw [hO3,List.length_map]
        refine .frz rfl hO4 (by rw [Nat.mul_one,List.length_map]) fun j hj h2 h'=>?_
        simp only [Nat.zero_add,List.getElem_map]
        exact .keepInts _
      have hne2 : H.next+2≠rk:=by omega
      have hC1z : ∀ c∈C1,Fz (fun id=>id=rk) s3.H s3.H.next c c:=fun c hc=>by
       rw [hC1] at hc
       rcases List.mem_or_eq_of_mem_set hc with h|h
       ·exact fz_nodesZ' ns c h
       ·rw [h];exact .keepInts _
      refine ⟨⟨s3.ρ,s3.H.melt rk (H.next+2) (.arr 0 83 (C1.set (v*3+2) (vecV rows)))⟩,WeakS.melt G0_ok hFr.2.2 hne2 (by simp) (fz_set hC1z hfz),Nat.le_refl _,trivial,?_⟩
      obtain ⟨He,hHe⟩ : ∃ He,He=s3.H.melt rk (H.next+2) (.arr 0 83 (C1.set (v*3+2) (vecV rows))):=⟨_,rfl⟩
      rw [← hHe]
      have hFe : FrN Hm He (H.next+2) (C1.set (v*3+2) (vecV rows)):=by
       rw [hHe]
       exact ⟨hFr1,fun id h1 h2=>(melt_other (by omega) h2).trans (hFr.2.1 id h1 h2),melt_ob hne2⟩
      clear hFr hOr hfz hHe hne2 hrk
      have hFe1:=hFe.1
      have i1:=IntWalk.i64_in ((i : Int)+1) (by omega)
      simp only [go_sem,Nat.reduceEqDiff,a10,i1,appendA_U]
      have hiv : ∀ j u : Nat,P[j]?=some (u : Int)→u=v→j=i:=fun j u h1 h2=>by
       subst h2
       exact (List.getElem?_inj (get_lt h1) hperm.nd).1 (by rw [h1,hpv])
      have hrne : rows≠[]:=fun h=>by rw [h] at hrl;simp at hrl;omega
      have hdone : DoneN g cs P n i ⟨x.card,l,rows⟩:=⟨⟨hL.pw,fun q hq=>⟨(hL.rng q hq).1,by rcases (hL.rng q hq).2 with h|⟨_,k',h,_⟩<;>omega⟩⟩,hL.p3,hL.rk,by show (rows.length : Int)=_;rw [hrl,hR],hrows,hrne⟩
      refine ⟨by omega,⟨i+1,ns.set v ⟨x.card,l,rows⟩,rfl,by omega,⟨by rw [List.length_set];exact hnl,?_,fun j u z hj hu hz=>?_,fun j u z hj hu hz=>?_⟩,by omega,by omega,fun id h1 h2=>?_,?_⟩,by rw [h10];simp only [lin,iv_int];omega⟩
      ·have h1 : cardsL (ns.set v ⟨x.card,l,rows⟩)=(cardsL ns).set v x.card:=by unfold cardsL;rw [List.map_set]
       rw [h1,set_get_self (cards_get hx),L.cards]
      ·have huv : ¬ u=v:=fun h=>by have:=hiv j u hu h;omega
       rw [List.getElem?_set_ne (by omega)] at hz
       exact L.todo j u z (by omega) hu hz
      ·by_cases huv : u=v
       ·obtain rfl:=hiv j u hu huv
        rw [huv,List.getElem?_set_self hvn] at hz
        cases hz
        exact hdone
       ·rw [List.getElem?_set_ne (by omega)] at hz
        have : j≠i:=fun h=>by
         rw [h,hpv] at hu
         exact huv (by have:=Option.some.inj hu;omega)
        exact L.done j u z (by omega) hu hz
      ·rw [hFe.2.1 id (by omega) h2,hFm.2.1 id (by omega) h2]
       exact zO id h1 h2
      ·rw [hFe.2.2,nodesZ_set (y:=⟨x.card,l,rows⟩) hx rfl hrne,hC1]
  ·obtain rfl : i=n:=by omega
   simp only [go_sem,Nat.reduceEqDiff,Nat.reducePow,Nat.reduceDiv,Nat.reduceMod,Nat.reduceAdd,e2,e3,e4,e10,hb,m1,m3,appendA_U]
   have hnl:=L.len
   have hall : ∀ v : Nat,v<ns.length→(v : Int)∈P:=fun v hv=>by rw [hP];exact permF_mem ord i v (by omega)
   have hdn : ∀ (v : Nat) (x : NodeP),ns[v]?=some x→∃ j,DoneN g cs P i j x:=fun v x hx=>by
    obtain ⟨j,hj⟩:=List.mem_iff_getElem?.1 (hall v (get_lt hx))
    exact ⟨j,L.done j v x (by have:=get_lt hj;have:=hperm.len;omega) hj hx⟩
   have hdm : ∀ x∈ns,∃ j,DoneN g cs P i j x:=fun x hx=>by
    obtain ⟨v,hv⟩:=List.mem_iff_getElem?.1 hx
    exact hdn v x hv
   have ov : Over H (Hy.upd (H.next+1) (.arr 0 64 [.lit (.int .i64 g),.own (H.next+2) 0 0 i 3])):=⟨by rw [upd_next];omega,fun id h=>by rw [upd_get,if_neg (by omega),hF.2.1 id (by omega) (by omega)];exact o1.old id h⟩
   have hz : nodesZ ns=nodesC ns:=nodesZ_eq fun x hx=>(hdm x hx).elim fun j hj=>hj.ne
   have hcl8 : ∀ x∈ns,2≤x.card∧x.card≤3:=fun x hx=>hc23 x.card (by rw [← L.cards];exact List.mem_map.2 ⟨x,hx,rfl⟩)
   have hnet : NetOk g ns:=by
    refine ⟨hg1,by omega,fun x hx=>?_,?_,acyc_of_order (P:=P) (by rw [hnl];exact hperm) hall fun j v x hj hx q hq=>?_,fun x hx=>?_⟩
    ·obtain ⟨j,hj⟩:=hdm x hx
     have:=hcl8 x hx
     exact ⟨by omega,by rw [hnl];exact hj.pl⟩
    ·have h2:=(prodL_le_pow (b:=3) (by omega) (l:=cardsL ns) fun c hc=>by have:=hc23 c (by rw [← L.cards];exact hc);omega).2
     have h3 : (3 : Int) ^ (cardsL ns).length≤3 ^ 5:=by
      have : (3 : Nat) ^ (cardsL ns).length≤3 ^ 5:=Nat.pow_le_pow_right (by decide) (by rw [cards_len];omega)
      exact_mod_cast this
     omega
    ·have hd:=L.done j v x (by have:=get_lt hj;have:=hperm.len;omega) hj hx
     exact ⟨(hd.pl.2 q hq).1,hd.rk q hq⟩
    ·obtain ⟨j,hj⟩:=hdm x hx
     unfold NodeOk parC
     rw [L.cards]
     exact ⟨hj.rl,hj.ro⟩
   rw [← hnl]
   rw [← hnl] at ov
   refine FinV.mk ov.next (hK g ns (H.next+2) _ ov (by omega) (by rw [upd_next];omega) ?_ hnet (by omega) fun x hx=>?_)
   ·rw [upd_get,if_neg (by omega),hF.2.2,hz]
   ·obtain ⟨j,hj⟩:=hdm x hx
    exact hj.p3
end Go.Proofs
set_option linter.unusedSimpArgs false
set_option maxRecDepth 100000
namespace Go.Proofs
open Go.Hx
theorem in20_spec (s v : Nat) (hs : s<2 ^ 64) (H : AHeap) (K : ARes→AHeap→Prop) (hK : K (.ret (.lit (.bool (s.testBit v)))) H) : ACall Try.prog G0 53 [bitV s,lin v] H K:=by
 refine ACall.of_body (n:=10) (rs:=[.tmp 4]) Try.func53 rfl rfl rfl (by decide) (by kernel_rfl) (by simp) ?_
 have s1:=fun t x y=>shrB (P:=Try.prog) (t:=t) (x:=x) (y:=y) (k':=.i64) (s:=v) hs
 have s2:=fun t x y=>bit1 (P:=Try.prog) (t:=t) (x:=x) (y:=y) (s:=v) hs
 cases hb : s.testBit v
 ·rw [hb] at hK
  simp only [go_sem,Int.reduceEq,Nat.reduceEqDiff,reduceCtorEq,s1,s2,hb,appendA_U]
  exact FinV.mk (Nat.le_refl _) hK
 ·rw [hb] at hK
  simp only [go_sem,Nat.reduceEqDiff,reduceCtorEq,s1,s2,hb,appendA_U]
  exact FinV.mk (Nat.le_refl _) hK
/-- The members of a set, in order. -/
def bitsL (s n : Nat) : List Int:=((List.range n).filter fun v=>s.testBit v).map fun (v : Nat)=>(v : Int)
theorem bitsL_succ (s n : Nat) : bitsL s (n+1)=if s.testBit n=true then bitsL s n++[(n : Int)] else bitsL s n:=by
 unfold bitsL
 rw [List.range_succ,List.filter_append,List.map_append]
 by_cases h : s.testBit n=true
 ·rw [if_pos h];simp [h]
 ·rw [if_neg h];simp [h]
theorem mem_bitsL {s n : Nat} {q : Int} : q∈bitsL s n↔∃ v : Nat,q=v∧v<n∧s.testBit v=true:=by
 unfold bitsL
 simp only [List.mem_map,List.mem_filter,List.mem_range]
 exact ⟨fun ⟨v,⟨h1,h2⟩,h3⟩=>⟨v,h3.symm,h1,h2⟩,fun ⟨v,h1,h2,h3⟩=>⟨v,⟨h2,h3⟩,h1.symm⟩⟩
theorem bitsL_pw (s n : Nat) : (bitsL s n).Pairwise (·<·):=by
 unfold bitsL
 refine List.Pairwise.map _ (R:=(·<·)) (fun a b h=>by omega) ?_
 exact List.Pairwise.filter _ List.pairwise_lt_range
theorem bitsL_len (s n : Nat) : (bitsL s n).length≤n:=by
 unfold bitsL
 rw [List.length_map]
 exact Nat.le_trans (List.length_filter_le _ _) (by simp)

theorem list20_spec (s : Nat) (hs : s<2 ^ 64) (H : AHeap) (K : ARes→AHeap→Prop) (hK : K (.ret (vecI (bitsL s 8))) H) : ACall Try.prog G0 43 [bitV s] H K:=by
 refine ACall.clo ⟨_,Try.func43,rfl,rfl⟩ fun hcl=>?_
 refine ACall.of_body (n:=17) (rs:=[.tmp 2]) Try.func43 rfl rfl rfl (by decide) (by kernel_rfl) (by simp) ?_
 simp only [go_sem,appendA_U]
 refine W.loop0 65528 (by rfl) (fun ρ H'=>∃ k : Nat,ρ 4=lin k∧k≤8∧Over H H'∧OwnG H.next H' 3 (ρ 3) (ints (bitsL s k))) (fun ρ H=>8 - (iv (ρ 4)).toNat) ?_ ?_
 ·simp only [go_sem,Nat.reduceEqDiff,appendA_U]
  exact ⟨0,rfl,by omega,.refl _,.nil⟩
 rintro ρ H' ⟨k,h4,hk,ov,h3⟩
 refine W.env fun E hE=>?_
 have e0 : E 0=bitV s:=by rw [hE];simp only [go_sem,Nat.reducePow,Nat.reduceDiv,Nat.reduceMod,reduceCtorEq,appendA_U]
 have e3 : E 3=ρ 3:=by rw [hE];simp only [go_sem,Nat.reduceEqDiff,Nat.reducePow,Nat.reduceDiv,Nat.reduceMod,appendA_U]
 have e4 : E 4=lin k:=by rw [hE];simp only [go_sem,Nat.reduceEqDiff,Nat.reducePow,Nat.reduceDiv,Nat.reduceMod,h4,appendA_U]
 clear hE
 refine vc_sound _ _ _ (by rfl) ?_
 by_cases hb : (k : Int)<8
 ·have w1:=IntWalk.i64_in ((k : Int)+1) (by omega)
  have hbl:=bitsL_len s k
  have hsu:=bitsL_succ s k
  simp only [go_sem,Nat.reduceEqDiff,Nat.reducePow,Nat.reduceDiv,Nat.reduceMod,reduceCtorEq,e0,e3,e4,hb,appendA_U]
  refine AApply.clo (in20_spec s k hs _ _ ⟨trivial,?_⟩)
  by_cases hbit : s.testBit k=true
  ·obtain ⟨v',H2,hA,ov2,hO,hn2,_⟩:=app_int (k : Int) ov h3 (by omega)
   rw [if_pos hbit] at hsu
   simp only [go_sem,Nat.reduceEqDiff,Nat.reducePow,Nat.reduceLeDiff,e0,e3,e4,hbit,w1,hA]
   exact ⟨by have:=ov2.next;omega,⟨k+1,rfl,by omega,ov2,by rw [hsu];exact hO⟩,by rw [h4];simp only [lin,iv_int];omega⟩
  ·rw [if_neg hbit] at hsu
   have hbf : s.testBit k=false:=by simpa using hbit
   simp only [go_sem,Nat.reduceEqDiff,e0,e3,e4,hbf,w1,appendA_U]
   exact ⟨ov.next,⟨k+1,rfl,by omega,ov,by rw [hsu];exact h3⟩,by rw [h4];simp only [lin,iv_int];omega⟩
 ·obtain rfl : k=8:=by omega
  simp only [go_sem,Int.reduceLT,Nat.reduceEqDiff,Nat.reducePow,Nat.reduceDiv,Nat.reduceMod,e3,e4,hb,appendA_U]
  exact FinV.dropO G0_ok hcl ov (h3.fzI fun i hi=>hi) hK
end Go.Proofs
set_option linter.unusedSimpArgs false
set_option maxRecDepth 100000
namespace Go.Proofs
open Go.Hx
def ownLen : AVal→Nat
 | .own _ _ _ n _=>n
 | _=>0
theorem own_ownLen {lo : Nat} {H : AHeap} {e : TypeId} {v : AVal} {cs : List AVal} (h : OwnG lo H e v cs) : ownLen v=cs.length:=by
 rcases h with ⟨rfl,rfl⟩|⟨_,_,_,_,rfl,_⟩<;>rfl
end Go.Proofs
set_option linter.unusedSimpArgs false
set_option maxRecDepth 100000
namespace Go.Proofs
open Go.Hx
/-- A diagram as the drafts make it: a node without rows has the literal nil. -/
def infEC (d : InfP) : List AVal:=[.lit (.int .i64 d.grain),.vec d.nodes.length (nodesE d.nodes),.lit (.int .u64 (d.decs : Int)),.vec d.utils.length (utilsC d.utils)]
def infE (d : InfP) : AVal:=.agg (infEC d)
theorem infE_eq (d : InfP) : infE d=.agg (infEC d):=rfl

end Go.Proofs
set_option linter.unusedSimpArgs false
set_option maxRecDepth 100000
namespace Go.Proofs
open Go.Hx
set_option maxHeartbeats 1000000 in
theorem parentSets_own (g : Int) (ns : List NodeP) (hl : (ns.length : Int)<2 ^ 39) (hp : ∀ x∈ns,(x.parents.length : Int)<2 ^ 39∧∀ q∈x.parents,0≤q∧q<64) (H : AHeap) (K : ARes→AHeap→Prop)
  (hK : ∀ v H',Over H H'→OwnG H.next H' 36 v ((setsL ns).map bitV)→K (.ret v) H') : ACall Try.prog G0 42 [netV g ns] H K:=by
 refine ACall.clo ⟨_,Try.func42,rfl,rfl⟩ fun hcl=>?_
 refine ACall.of_body (n:=43) (rs:=[.tmp 2]) Try.func42 rfl rfl rfl (by decide) (by kernel_rfl) (by simp) ?_
 simp only [go_sem,netV,nodesV,appendA_U]
 obtain ⟨H1,hH1⟩ : ∃ H1,H1=ext H [.arr 0 64 [.lit (.int .i64 g),.vec ns.length (nodesC ns)]]:=⟨_,rfl⟩
 have l1 : H1.live H.next 0=some (64,[.lit (.int .i64 g),.vec ns.length (nodesC ns)]):=by rw [hH1];exact get_live (get_ext0 ..)
 have n1 : H1.next=H.next+1:=by rw [hH1];rfl
 have o1 : Over H H1:=by rw [hH1];exact .ext _ _
 rw [← hH1]
 refine W.loop0 4398046511096 (by rfl) (fun ρ H'=>∃ k : Nat,ρ 4=lin k∧k≤ns.length∧ρ 1=.ptr H.next 0 0∧Over H1 H'∧OwnG H1.next H' 36 (ρ 3) (((setsL ns).take k).map bitV)) (fun ρ H=>ns.length - (iv (ρ 4)).toNat) ?_ ?_
 ·simp only [go_sem,Nat.reduceEqDiff,appendA_U]
  exact ⟨0,rfl,by omega,.refl _,.nil⟩
 rintro ρ H' ⟨k,h4,hk,h1,ov,h3⟩
 refine vc_sound _ _ _ (by rfl) ?_
 have l2:=(ov.live (g:=0) (by omega : H.next<H1.next)).trans l1
 by_cases hb : (k : Int)<ns.length
 ·obtain ⟨x,hx⟩:=get_of_lt (l:=ns) (i:=k) (by omega)
  have hne:=nodesC_ne hx
  have e1:=nodesC_1 hx
  obtain ⟨xl,xr⟩:=hp x (List.mem_of_getElem? hx)
  simp only [go_sem,Nat.reduceEqDiff,Nat.reducePow,Nat.reduceDiv,Nat.reduceMod,reduceCtorEq,h4,h1,l2,hb,appendA_U]
  refine W.loop0 274877890656 (by rfl) (fun ρ' H2=>H2=H'∧∃ j : Nat,ρ' 6=lin j∧j≤x.parents.length∧ρ' 5=bitV (setN (x.parents.take j))) (fun ρ' H=>x.parents.length - (iv (ρ' 6)).toNat) ?_ ?_
  ·simp only [go_sem,Nat.reduceEqDiff,Nat.reducePow,Nat.reduceDiv,Nat.reduceMod,appendA_U]
   exact ⟨0,rfl,by omega,rfl⟩
  rintro ρ' H2 ⟨rfl,j,h6,hj,h5⟩
  refine vc_sound _ _ _ (by rfl) ?_
  by_cases hb2 : (j : Int)<x.parents.length
  ·obtain ⟨q,hq⟩:=get_of_lt (l:=x.parents) (i:=j) (by omega)
   obtain ⟨q0,q1⟩:=xr q (List.mem_of_getElem? hq)
   obtain ⟨u,rfl⟩:=Int.eq_ofNat_of_zero_le q0
   have hne2:=ne_of_get hq
   have w1:=IntWalk.u64_in (u : Int) (by omega)
   have w2:=IntWalk.i64_in ((j : Int)+1) (by omega)
   have b1 : setN (x.parents.take j)<2 ^ 64:=setN_lt fun p hp=>by have:=xr p (List.mem_of_mem_take hp);omega
   have s1:=fun t x y=>shlB (P:=Try.prog) (t:=t) (x:=x) (y:=y) (k':=.u64) (s:=u) (by omega)
   have s2:=fun t x y=>orB (P:=Try.prog) (t:=t) (x:=x) (y:=y) (b:=2 ^ u) b1 (Nat.pow_lt_pow_right (by decide) (by omega))
   simp only [go_sem,Nat.reduceEqDiff,Nat.reducePow,Nat.reduceDiv,Nat.reduceMod,reduceCtorEq,h4,h1,l2,hb,hne,e1,h6,h5,hb2,hq,hne2,w1,w2,s1,s2,appendA_U]
   exact ⟨⟨j+1,by simp,by omega,by rw [take_succ_get hq,setN_snoc];rfl⟩,by omega⟩
  ·obtain ⟨v',H3,hA,ov2,hO,hn2,_⟩:=app_bits (setN x.parents) ov h3 (by simp [setsL];omega)
   have w1:=IntWalk.i64_in ((k : Int)+1) (by omega)
   rw [List.take_of_length_le (by omega)] at h5
   simp only [go_sem,Nat.reduceEqDiff,Nat.reducePow,Nat.reduceDiv,Nat.reduceMod,Nat.reduceLeDiff,reduceCtorEq,h4,h1,l2,hb,hne,e1,h6,h5,hb2,w1,hA]
   refine ⟨by have:=ov2.next;omega,⟨k+1,by simp,by omega,ov2,?_⟩,by omega⟩
   rw [take_succ_get (setsL_get hx)]
   exact hO
 ·simp only [go_sem,Nat.reduceEqDiff,Nat.reducePow,Nat.reduceDiv,Nat.reduceMod,reduceCtorEq,h4,h1,l2,hb,appendA_U]
  rw [List.take_of_length_le (by simp [setsL];omega)] at h3
  exact FinV.mk (o1.trans ov).next (hK _ _ (o1.trans ov) (h3.keep (by omega) (Nat.le_refl _) fun _ _ _ _ _ _=>rfl))
set_option maxHeartbeats 1000000 in
theorem order05_own (ps : List Nat) (hl : ps.length≤60) (hp : ∀ p∈ps,p<2 ^ 64) (r : List Nat) (htp : topo ps=some r) (H : AHeap) (K : ARes→AHeap→Prop) (hK : ∀ v H',Over H H'→OwnG H.next H' 3 v (ints (natsI r))→K (.ret v) H') : ACall Try.prog G0 85 [vecB ps] H K:=by
 refine ACall.clo ⟨_,Try.func85,rfl,rfl⟩ fun hcl=>?_
 refine ACall.of_body (n:=40) (rs:=[.tmp 2]) Try.func85 rfl rfl rfl (by decide) (by kernel_rfl) (by simp) ?_
 simp only [go_sem,appendA_U]
 refine W.loop0 549755813880 (by rfl) (fun ρ H'=>∃ (out : List Nat) (done : Nat),ρ 4=bitV done∧done<2 ^ 64∧out.length≤ps.length∧Over H H'∧OwnG H.next H' 3 (ρ 3) (ints (natsI out))∧topoGo ps (ps.length - out.length) out done=some r) (fun ρ H=>ps.length - ownLen (ρ 3)) ?_ ?_
 ·simp only [go_sem,Nat.reduceEqDiff,Nat.reducePow,appendA_U]
  exact ⟨[],0,rfl,by decide,by simp,.refl _,.nil,htp⟩
 rintro ρ H' ⟨out,done,h4,hd,ho,ov,h3,ht⟩
 refine W.env fun E hE=>?_
 have e0 : E 0=vecB ps:=by rw [hE];simp only [go_sem,Nat.reducePow,Nat.reduceDiv,Nat.reduceMod,reduceCtorEq,appendA_U]
 have e3 : E 3=ρ 3:=by rw [hE];simp only [go_sem,Nat.reduceEqDiff,Nat.reducePow,Nat.reduceDiv,Nat.reduceMod,appendA_U]
 have e4 : E 4=bitV done:=by rw [hE];simp only [go_sem,Nat.reduceEqDiff,Nat.reducePow,Nat.reduceDiv,Nat.reduceMod,h4,appendA_U]
 clear hE
 refine vc_sound _ _ _ (by rfl) ?_
 have hlen:=own_len h3 (d:=some (.slice 3)) rfl
 have hol:=own_ownLen h3
 have nl : (natsI out).length=out.length:=by simp [natsI]
 rw [lenU_slice,ints_length,nl] at hlen
 rw [ints_length,nl] at hol
 by_cases hb : (out.length : Int)<ps.length
 ·simp only [go_sem,Nat.reduceEqDiff,Nat.reducePow,Nat.reduceDiv,Nat.reduceMod,reduceCtorEq,e0,e3,e4,hlen,hb,appendA_U]
  have hk1 : ps.length - out.length=(ps.length - (out.length+1))+1:=by omega
  refine W.loop0 549755811896 (by rfl) (fun ρ2 H2=>H2=H'∧∃ j : Nat,ρ2 5=lin j∧j≤ps.length∧ρ2 3=ρ 3∧ρ2 4=bitV done∧∀ v,v<j→freeB ps done v=false) (fun ρ2 H=>ps.length - (iv (ρ2 5)).toNat) ?_ ?_
  ·simp only [go_sem,Nat.reduceEqDiff,e3,e4,appendA_U]
   exact ⟨0,rfl,by omega,fun v h=>absurd h (Nat.not_lt_zero _)⟩
  rintro ρ2 H2 ⟨rfl,j,h5,hj,h3',h4',hno⟩
  refine W.env fun E2 hE2=>?_
  have f0 : E2 0=vecB ps:=by rw [hE2];simp only [go_sem,Nat.reducePow,Nat.reduceDiv,Nat.reduceMod,reduceCtorEq,e0,appendA_U]
  have f3 : E2 3=ρ 3:=by rw [hE2];simp only [go_sem,Nat.reduceEqDiff,Nat.reducePow,Nat.reduceDiv,Nat.reduceMod,h3',appendA_U]
  have f4 : E2 4=bitV done:=by rw [hE2];simp only [go_sem,Nat.reduceEqDiff,Nat.reducePow,Nat.reduceDiv,Nat.reduceMod,h4',appendA_U]
  have f5 : E2 5=lin j:=by rw [hE2];simp only [go_sem,Nat.reduceEqDiff,Nat.reducePow,Nat.reduceDiv,Nat.reduceMod,h5,appendA_U]
  clear hE2
  refine vc_sound _ _ _ (by rfl) ?_
  by_cases hb2 : (j : Int)<ps.length
  ·obtain ⟨p,hpj⟩:=get_of_lt (l:=ps) (i:=j) (by omega)
   have hpj' : (ps.map bitV)[j]?=some (bitV p):=by rw [List.getElem?_map,hpj];rfl
   have hne:=ne_of_get hpj'
   have s3:=fun t x y=>subB (P:=Try.prog) (t:=t) (x:=x) (y:=y) (a:=p) (b:=done)
   have w1:=IntWalk.i64_in ((j : Int)+1) (by omega)
   have w2:=IntWalk.u64_in (j : Int) (by omega)
   have cont : freeB ps done j=false→∀ v,v<j+1→freeB ps done v=false:=fun h v hv=>by
    rcases Nat.lt_or_ge v j with h'|h'
    ·exact hno v h'
    ·obtain rfl : v=j:=by omega
     exact h
   have fe : freeB ps done j=(!done.testBit j && decide (subN p done=0)):=by unfold freeB;rw [getD_of_get hpj]
   simp only [go_sem,Nat.reduceEqDiff,Nat.reducePow,Nat.reduceDiv,Nat.reduceMod,reduceCtorEq,f0,f3,f4,f5,hb2,appendA_U]
   refine AApply.clo (in05_spec done j hd (by omega) _ _ ⟨trivial,?_⟩)
   cases hbit : done.testBit j
   rotate_left
   ·simp only [go_sem,Nat.reduceEqDiff,f0,f3,f4,f5,hbit,guardA_undef,w1,appendA_U]
    exact ⟨⟨j+1,rfl,by omega,cont (by rw [fe,hbit];rfl)⟩,by rw [h5];simp only [lin,iv_int];omega⟩
   by_cases hz : subN p done=0
   rotate_left
   ·have hz' : ¬ ((subN p done : Nat) : Int)=0:=by omega
    simp only [go_sem,Nat.reduceEqDiff,reduceCtorEq,f0,f3,f4,f5,hb2,hpj',hpj,hne,s3,hbit,hz',guardA_undef,w1,appendA_U]
    exact ⟨⟨j+1,rfl,by omega,cont (by rw [fe,hbit];simp [hz])⟩,by rw [h5];simp only [lin,iv_int];omega⟩
   have hz' : ((subN p done : Nat) : Int)=0:=by omega
   have hnx : nextT ps done=some j:=find_range (by omega) hno (by rw [fe,hbit];simp [hz])
   obtain ⟨v',H3,hA,ov2,hO,hn2,_⟩:=app_int (j : Int) ov h3 (by simp [natsI];omega)
   have b2 : (2 : Nat) ^ j<2 ^ 64:=Nat.pow_lt_pow_right (by decide) (by omega)
   have s4:=fun t x y=>shlB (P:=Try.prog) (t:=t) (x:=x) (y:=y) (k':=.u64) (s:=j) (by omega)
   have s5:=fun t x y=>orB (P:=Try.prog) (t:=t) (x:=x) (y:=y) hd b2
   simp only [go_sem,Nat.reduceEqDiff,Nat.reducePow,Nat.reduceLeDiff,reduceCtorEq,f0,f3,f4,f5,hb2,hpj',hpj,hne,s3,s4,s5,hbit,hz',w2,guardA_undef,hA]
   have hO' : OwnG H.next H3 3 v' (ints (natsI (out++[j]))):=by
    have e : natsI (out++[j])=natsI out++[(j : Int)]:=by simp [natsI]
    rw [e];exact hO
   have hol':=own_ownLen hO'
   have nl' : (natsI (out++[j])).length=out.length+1:=by simp [natsI]
   rw [ints_length,nl'] at hol'
   refine ⟨ov2.next,⟨out++[j],done ||| 2 ^ j,rfl,Nat.or_lt_two_pow hd b2,by simp;omega,ov2,hO',?_⟩,by rw [hol,hol'];omega⟩
   rw [← ht,hk1]
   conv=>rhs;unfold topoGo
   rw [hnx,List.length_append]
   rfl
  ·have hnn : nextT ps done=none:=find_range_none fun v hv=>hno v (by omega)
   rw [hk1] at ht
   unfold topoGo at ht
   rw [hnn] at ht
   cases ht
 ·simp only [go_sem,Nat.reduceEqDiff,Nat.reducePow,Nat.reduceDiv,Nat.reduceMod,reduceCtorEq,e0,e3,e4,hlen,hb,appendA_U]
  have e : ps.length - out.length=0:=by omega
  rw [e] at ht
  unfold topoGo at ht
  cases ht
  exact FinV.mk ov.next (hK _ _ ov h3)

theorem freshB {lo : Nat} {H : AHeap} {e : TypeId} {v : AVal} {l : List Nat} (h : OwnG lo H e v (l.map bitV)) : Fresh H v (vecB l):=by
 rcases h with ⟨rfl,h⟩|⟨id,g,h1,h2,rfl,h4⟩
 ·have : l=[]:=by cases l with
   | nil=>rfl
   | cons a l=>simp at h
  subst this
  exact .nil
 ·have e : vecB l=.vec (l.map bitV).length (l.map bitV):=by rw [List.length_map];rfl
  rw [e]
  refine .own h4 (by simp) fun j hj h2 h'=>?_
  simp only [Nat.zero_add,List.getElem_map]
  exact .lit _
theorem order20_own (g : Int) (ns : List NodeP) (hl : ns.length≤8) (hp : ∀ x∈ns,(x.parents.length : Int)<2 ^ 39∧∀ q∈x.parents,0≤q∧q<(ns.length : Int)) (r : List Nat) (htp : topo (setsL ns)=some r) (H : AHeap) (K : ARes→AHeap→Prop)
  (hK : ∀ v H',Over H H'→OwnG H.next H' 3 v (ints (natsI r))→K (.ret v) H') : ACall Try.prog G0 41 [netV g ns] H K:=by
 have hsl : (setsL ns).length=ns.length:=by simp [setsL]
 have hs64 : ∀ p∈setsL ns,p<2 ^ 64:=fun p h=>Nat.lt_of_lt_of_le (setsL_lt (n:=ns.length) (fun x hx q hq=>(hp x hx).2 q hq) p h) (Nat.pow_le_pow_right (by decide) (by omega))
 refine ACall.of_body (n:=6) (rs:=[.tmp 2]) Try.func41 rfl rfl rfl (by decide) (by kernel_rfl) (by simp) ?_
 simp only [go_sem,Nat.reduceEqDiff,Nat.reduceAdd,netV,nodesV,appendA_U]
 refine AApply.clo (parentSets_spec g ns (by omega) (fun x hx=>⟨(hp x hx).1,fun q hq=>by have:=(hp x hx).2 q hq;omega⟩) _ _ ⟨trivial,?_⟩)
 simp only [go_sem,Nat.reduceEqDiff,appendA_U]
 refine AApply.clo (order05_own (setsL ns) (by omega) hs64 r htp _ _ fun v H' ov ho=>⟨trivial,?_⟩)
 simp only [go_sem,Nat.reduceEqDiff,appendA_U]
 have o1 : Over H H':=(Over.ext _ _).trans ov
 exact FinV.mk o1.next (hK _ _ o1 (ho.keep (by simp [ext_next]) (Nat.le_refl _) fun _ _ _ _ _ _=>rfl))
end Go.Proofs
set_option linter.unusedSimpArgs false
set_option maxRecDepth 100000
namespace Go.Proofs
open Go.Hx
/-- A piece of a drafted diagram: the nodes of a utility (bits) and its numbers. -/
structure UtD where
 vars : Int
 w : List Int
def I8 (n : Int) : Prop:=-128≤n∧n<128
def i8L (l : List Int) : List AVal:=l.map fun n=>.lit (.int .i8 n)
theorem i8L_get {l : List Int} {k : Nat} {a : Int} (h : l[k]?=some a) : (i8L l)[k]?=some (.lit (.int .i8 a)):=by unfold i8L;rw [List.getElem?_map,h];rfl
def UtD.cells (x : UtD) : List AVal:=[.lit (.int .u8 x.vars),.vec x.w.length (i8L x.w)]
def UtD.Ok (x : UtD) : Prop:=U8 x.vars∧(x.w.length : Int)<2 ^ 63∧∀ b∈x.w,I8 b

/-- A bit of a byte, as the program reads it. -/
def bit8 (p : Int) (k : Nat) : Bool:=decide (IntKind.u8.wrap (((BitVec.ofInt IntKind.u8.bits (p.fdiv (2 ^ (min ((k : Int)).toNat IntKind.u8.bits))) &&& BitVec.ofInt IntKind.u8.bits 1).toNat : Nat) : Int)=1)
def utVars (p : Int) : Nat→List Int
 | 0=>[]
 | v+1=>if bit8 p v=true∧(utVars p v).length<3 then utVars p v++[(v : Int)] else utVars p v
theorem utVars_ok (p : Int) : ∀ n : Nat,(utVars p n).Pairwise (·<·)∧(∀ q∈utVars p n,0≤q∧q<n)∧(utVars p n).length≤3
 | 0=>⟨by simp [utVars],by simp [utVars],by simp [utVars]⟩
 | n+1=>by
  obtain ⟨h1,h2,h3⟩:=utVars_ok p n
  unfold utVars
  split
  ·rename_i h
   refine ⟨List.pairwise_append.2 ⟨h1,by simp,fun a ha b hb=>by obtain rfl:=List.mem_singleton.1 hb;exact (h2 a ha).2⟩,fun q hq=>?_,by simp;omega⟩
   rcases List.mem_append.1 hq with h4|h4
   ·have:=h2 q h4;omega
   ·obtain rfl:=List.mem_singleton.1 h4;omega
  ·exact ⟨h1,fun q hq=>by have:=h2 q hq;omega,h3⟩
/-- A drafted utility. -/
def utilF (p : UtD) (ns : List NodeP) : UtilP:=⟨utVars p.vars ns.length,(List.range (prodL (atL (cardsL ns) (utVars p.vars ns.length))).toNat).map fun (i : Nat)=>if p.w.length=0 then 0 else (p.w.getD (i % p.w.length) 0).tmod 101⟩
theorem utilF_ok (p : UtD) (ns : List NodeP) (hc : ∀ x∈ns,1≤x.card) : UtilOk ns (utilF p ns):=by
 obtain ⟨h1,h2,h3⟩:=utVars_ok p.vars ns.length
 refine ⟨⟨h1,h2⟩,?_,fun x hx=>?_⟩
 ·have hp : 1≤prodL (atL (cardsL ns) (utVars p.vars ns.length)):=prodL_pos fun c h=>by
   unfold atL at h
   obtain ⟨q,hq,rfl⟩:=List.mem_map.1 h
   have:=h2 q hq
   obtain ⟨x,hx⟩:=get_of_lt (l:=ns) (i:=q.toNat) (by omega)
   rw [getD_of_get (cards_get hx)]
   exact hc x (List.mem_of_getElem? hx)
  show ((List.map _ _).length : Int)=prodL (atL (cardsL ns) (utVars p.vars ns.length))
  rw [List.length_map,List.length_range]
  omega
 ·unfold utilF at hx
  obtain ⟨i,_,rfl⟩:=List.mem_map.1 hx
  split
  ·omega
  ·have h:=Int.natAbs_tmod (p.w.getD (i % p.w.length) 0) 101
   have h2:=Nat.mod_lt (p.w.getD (i % p.w.length) 0).natAbs (show (101 : Int).natAbs > 0 by decide)
   have h3 : (101 : Int).natAbs=101:=rfl
   rw [h3] at h h2
   omega
end Go.Proofs
set_option linter.unusedSimpArgs false
set_option maxRecDepth 100000
namespace Go.Proofs
open Go.Hx
set_option maxHeartbeats 1000000 in
theorem pieceOf_own (p : UtD) (hp : p.Ok) (g : Int) (ns : List NodeP) (h5 : 1≤ns.length∧ns.length≤8) (hc : ∀ x∈ns,1≤x.card∧x.card≤4) (H : AHeap) (K : ARes→AHeap→Prop)
  (hK : ∀ v1 v2 H',Over H H'→OwnG H.next H' 3 v1 (ints (utilF p ns).vars)→OwnG H.next H' 3 v2 (ints (utilF p ns).w)→K (.ret (.agg [v1,v2])) H') : ACall Try.prog G0 44 [.agg p.cells,netV g ns] H K:=by
 refine ACall.of_body (n:=70) (rs:=[.cell 4 85]) Try.func44 rfl rfl rfl (by decide) (by kernel_rfl) (by simp) ?_
 simp only [go_sem,Nat.reduceEqDiff,Nat.reduceAdd,netV,nodesV,UtD.cells,appendA_U]
 obtain ⟨H1,hH1⟩ : ∃ H1,H1=ext H [.arr 0 103 [.lit (.int .u8 p.vars),.vec p.w.length (i8L p.w)],.arr 0 64 [.lit (.int .i64 g),.vec ns.length (nodesC ns)],.arr 0 85 [.lit (.slice none 0 0),.lit (.slice none 0 0)],.arr 0 85 [.lit (.slice none 0 0),.lit (.slice none 0 0)]]:=⟨_,rfl⟩
 have g0 : H1.get H.next=some (.arr 0 103 [.lit (.int .u8 p.vars),.vec p.w.length (i8L p.w)]):=by rw [hH1];exact get_ext0 ..
 have g1 : H1.get (H.next+1)=some (.arr 0 64 [.lit (.int .i64 g),.vec ns.length (nodesC ns)]):=by rw [hH1];exact get_ext H _ 1 (by simp)
 have g2 : H1.get (H.next+2)=some (.arr 0 85 [.lit (.slice none 0 0),.lit (.slice none 0 0)]):=by rw [hH1];exact get_ext H _ 2 (by simp)
 have g3 : H1.get (H.next+3)=some (.arr 0 85 [.lit (.slice none 0 0),.lit (.slice none 0 0)]):=by rw [hH1];exact get_ext H _ 3 (by simp)
 have n1 : H1.next=H.next+4:=by rw [hH1];rfl
 have o1 : Over H H1:=by rw [hH1];exact .ext _ _
 rw [← hH1]
 clear hH1
 obtain ⟨cs,hcs⟩ : ∃ cs,cs=cardsL ns:=⟨_,rfl⟩
 have smk : ∀ k,k≤ns.length→SmallC (atL cs (utVars p.vars k)):=fun k hk=>by
  obtain ⟨h1,h2,h3⟩:=utVars_ok p.vars k
  refine smallC_of (by rw [atL_len];omega) fun c h=>?_
  unfold atL at h
  obtain ⟨q,hq,rfl⟩:=List.mem_map.1 h
  have:=h2 q hq
  obtain ⟨x,hx⟩:=get_of_lt (l:=ns) (i:=q.toNat) (by omega)
  rw [hcs,getD_of_get (cards_get hx)]
  exact hc x (List.mem_of_getElem? hx)
 refine W.loop0 8796093021376 (by rfl) (fun ρ Hx=>∃ (k : Nat) (v1 : AVal),ρ 7=lin k∧k≤ns.length∧ρ 6=lin (prodL (atL cs (utVars p.vars k)))∧H1.next≤Hx.next∧(∀ id,id<H1.next→id≠H.next+3→Hx.get id=H1.get id)∧Hx.get (H.next+3)=some (.arr 0 85 [v1,.lit (.slice none 0 0)])∧OwnG H1.next Hx 3 v1 (ints (utVars p.vars k))) (fun ρ H=>ns.length - (iv (ρ 7)).toNat) ?_ ?_
 ·simp only [go_sem,Nat.reduceEqDiff,appendA_U]
  exact ⟨0,_,rfl,by omega,rfl,g3,.nil⟩
 rintro ρ Hx ⟨k,v1,h7,hk,h6,hnx,hold,hu,hO⟩
 refine W.env fun E hE=>?_
 have e2 : E 2=.ptr H.next 0 0:=by rw [hE];simp only [go_sem,Nat.reduceEqDiff,Nat.reducePow,Nat.reduceDiv,Nat.reduceMod,reduceCtorEq,appendA_U]
 have e3 : E 3=.ptr (H.next+1) 0 0:=by rw [hE];simp only [go_sem,Nat.reduceEqDiff,Nat.reducePow,Nat.reduceDiv,Nat.reduceMod,reduceCtorEq,appendA_U]
 have e4 : E 4=.ptr (H.next+2) 0 0:=by rw [hE];simp only [go_sem,Nat.reduceEqDiff,Nat.reducePow,Nat.reduceDiv,Nat.reduceMod,reduceCtorEq,appendA_U]
 have e5 : E 5=.ptr (H.next+3) 0 0:=by rw [hE];simp only [go_sem,Nat.reduceEqDiff,Nat.reducePow,Nat.reduceDiv,Nat.reduceMod,reduceCtorEq,appendA_U]
 have e6 : E 6=lin (prodL (atL cs (utVars p.vars k))):=by rw [hE];simp only [go_sem,Nat.reduceEqDiff,Nat.reducePow,Nat.reduceDiv,Nat.reduceMod,h6,appendA_U]
 have e7 : E 7=lin k:=by rw [hE];simp only [go_sem,Nat.reduceEqDiff,Nat.reducePow,Nat.reduceDiv,Nat.reduceMod,h7,appendA_U]
 clear hE
 refine vc_sound _ _ _ (by rfl) ?_
 have l0:=get_live ((hold _ (by omega) (by omega)).trans g0)
 have l1:=get_live ((hold _ (by omega) (by omega)).trans g1)
 have l3:=get_live hu
 by_cases hb : (k : Int)<ns.length
 ·obtain ⟨x,hx⟩:=get_of_lt (l:=ns) (i:=k) (by omega)
  have hne:=nodesC_ne hx
  have c0:=nodesC_0 hx
  have w1:=IntWalk.i64_in ((k : Int)+1) (by omega)
  obtain ⟨r1,hr1⟩ : ∃ r1,p.vars.fdiv (2 ^ (min ((k : Int)).toNat IntKind.u8.bits))=r1:=⟨_,rfl⟩
  obtain ⟨r2,hr2⟩ : ∃ r2,IntKind.u8.wrap (((BitVec.ofInt IntKind.u8.bits r1 &&& BitVec.ofInt IntKind.u8.bits 1).toNat : Nat) : Int)=r2:=⟨_,rfl⟩
  have s1 : ∀ t o1 o2,binA Try.prog .shr t o1 o2 (.lit (.int .u8 p.vars)) (.lit (.int .i64 (k : Int)))=some (.lit (.int .u8 r1)):=fun t o1 o2=>by rw [bin_shr (by omega),hr1]
  have s2 : ∀ t o1 o2,binA Try.prog .and t o1 o2 (.lit (.int .u8 r1)) (.lit (.int .u8 1))=some (.lit (.int .u8 r2)):=fun t o1 o2=>by rw [bin_and,hr2]
  have hb8 : bit8 p.vars k=decide (r2=1):=by unfold bit8;rw [hr1,hr2]
  have hlen:=own_len hO (d:=some (.slice 3)) rfl
  rw [lenU_slice,ints_length] at hlen
  obtain ⟨u1,u2,u3⟩:=utVars_ok p.vars k
  have hstep : utVars p.vars (k+1)=if bit8 p.vars k=true∧(utVars p.vars k).length<3 then utVars p.vars k++[(k : Int)] else utVars p.vars k:=rfl
  by_cases hr : r2=1
  ·by_cases h3 : ((utVars p.vars k).length : Int)<3
   ·rw [if_pos ⟨by rw [hb8,decide_eq_true hr],by omega⟩] at hstep
    obtain ⟨v',H3,hA,hO3,hn3,hp3⟩:=app_oneG (P:=Try.prog) (H:=Hx) (t:=59) (x:=lin k) (n:=Hx.next+1) Try.underlying59 Try.cells3 Try.zero3 rfl (by rw [Try.bytes3,ints_length];omega) hO hnx rfl
    simp only [lin] at hA
    have keep : ∀ id,id<H1.next→H3.get id=Hx.get id:=fun id h=>hp3 id (by omega) (hO.ne h)
    have l1j:=get_live ((keep _ (by omega)).trans ((hold _ (by omega) (by omega)).trans g1))
    have l3j:=get_live ((keep _ (by omega)).trans hu)
    have hvc:=hO3.cells
    have hvo:=hO3.one
    have l1u : ∀ b,(H3.upd (H.next+3) b).live (H.next+1) 0=some (64,[.lit (.int .i64 g),.vec ns.length (nodesC ns)]):=fun b=>(live_upd_other (by omega)).trans l1j
    have hpr : prodL (atL cs (utVars p.vars (k+1)))=prodL (atL cs (utVars p.vars k))*x.card:=by
     rw [hstep]
     unfold atL
     rw [List.map_append,hcs]
     show prodL (_++[(cardsL ns).getD ((k : Int)).toNat 0])=_
     rw [prodL_snoc,Int.toNat_natCast,getD_of_get (cards_get hx)]
    have hps:=(smk (k+1) (by omega)).prod
    rw [hpr] at hps
    have w2:=IntWalk.i64_in (prodL (atL cs (utVars p.vars k))*x.card) (by omega)
    simp only [go_sem,Nat.reduceEqDiff,Nat.reducePow,Nat.reduceDiv,Nat.reduceMod,Nat.reduceAdd,Nat.reduceLeDiff,e2,e3,e4,e5,e6,e7,l0,l1,l3,l1j,l3j,hb,s1,s2,hr,hlen,h3,w1,w2,hne,c0,hA,hvc,hvo,l1u]
    refine ⟨by rw [upd_next];omega,⟨k+1,v',rfl,by omega,by rw [hpr],by rw [upd_next];omega,fun id h1 h2=>by rw [upd_get,if_neg h2,keep _ h1];exact hold id h1 h2,by rw [upd_get,if_pos rfl],?_⟩,by rw [h7];simp only [lin,iv_int];omega⟩
    rw [hstep]
    have:=hO3.keep (lo':=H1.next) (H':=H3.upd (H.next+3) (.arr 0 85 [v',.lit (.slice none 0 0)])) (Nat.le_refl _) (Nat.le_refl _) fun id _ h1 _ _ _=>by rw [upd_get,if_neg (by omega)]
    simpa [ints,lin] using this
   ·rw [if_neg (by omega)] at hstep
    simp only [go_sem,Nat.reduceEqDiff,Nat.reducePow,Nat.reduceDiv,Nat.reduceMod,e2,e3,e4,e5,e6,e7,l0,l1,l3,hb,s1,s2,hr,hlen,h3,w1,guardA_undef,appendA_U]
    exact ⟨hnx,⟨k+1,v1,rfl,by omega,by rw [hstep],hnx,hold,hu,by rw [hstep];exact hO⟩,by rw [h7];simp only [lin,iv_int];omega⟩
  ·rw [if_neg (by rw [hb8,decide_eq_false hr];simp)] at hstep
   simp only [go_sem,Nat.reduceEqDiff,Nat.reducePow,Nat.reduceDiv,Nat.reduceMod,e2,e3,e4,e5,e6,e7,l0,l1,l3,hb,s1,s2,hr,hlen,w1,guardA_undef,appendA_U]
   exact ⟨hnx,⟨k+1,v1,rfl,by omega,by rw [hstep],hnx,hold,hu,by rw [hstep];exact hO⟩,by rw [h7];simp only [lin,iv_int];omega⟩
 ·have hke : k=ns.length:=by omega
  simp only [go_sem,Nat.reduceEqDiff,Nat.reducePow,Nat.reduceDiv,Nat.reduceMod,e2,e3,e4,e5,e6,e7,l0,l1,l3,hb,appendA_U]
  rw [hke] at hO e6
  obtain ⟨R,hR⟩:=Int.eq_ofNat_of_zero_le (smk ns.length (by omega)).prod.1
  have hR2:=(smk ns.length (by omega)).prod.2
  rw [hR] at e6 hR2
  have hwl : (utilF p ns).w=(List.range R).map fun (i : Nat)=>if p.w.length=0 then 0 else (p.w.getD (i % p.w.length) 0).tmod 101:=by
   unfold utilF
   rw [← hcs,hR]
   rfl
  have wget : ∀ (i : Nat) (x : Int),i<R→(if p.w.length=0 then 0 else (p.w.getD (i % p.w.length) 0).tmod 101)=x→(utilF p ns).w[i]?=some x:=fun i x hi hx=>by
   rw [hwl,List.getElem?_map,List.getElem?_range hi,Option.map_some,hx]
  have wlen : (utilF p ns).w.length=R:=by rw [hwl];simp
  refine W.loop0 590295801562612630272 (by rfl) (fun ρ H2=>∃ (i : Nat) (v2 : AVal),ρ 8=lin i∧i≤R∧Hx.next≤H2.next∧(∀ id,id<Hx.next→id≠H.next+3→H2.get id=Hx.get id)∧H2.get (H.next+3)=some (.arr 0 85 [v1,v2])∧OwnG Hx.next H2 3 v2 (ints ((utilF p ns).w.take i))) (fun ρ H=>R - (iv (ρ 8)).toNat) ?_ ?_
  ·simp only [go_sem,Nat.reduceEqDiff,appendA_U]
   exact ⟨0,_,rfl,by omega,hu,.nil⟩
  rintro ρ2 H2 ⟨i,v2,h8,hi,hn2,hold2,hu2,hO2⟩
  refine W.env fun E2 hE2=>?_
  have f2 : E2 2=.ptr H.next 0 0:=by rw [hE2];simp only [go_sem,Nat.reduceEqDiff,Nat.reducePow,Nat.reduceDiv,Nat.reduceMod,reduceCtorEq,e2,appendA_U]
  have f4 : E2 4=.ptr (H.next+2) 0 0:=by rw [hE2];simp only [go_sem,Nat.reduceEqDiff,Nat.reducePow,Nat.reduceDiv,Nat.reduceMod,reduceCtorEq,e4,appendA_U]
  have f5 : E2 5=.ptr (H.next+3) 0 0:=by rw [hE2];simp only [go_sem,Nat.reduceEqDiff,Nat.reducePow,Nat.reduceDiv,Nat.reduceMod,reduceCtorEq,e5,appendA_U]
  have f6 : E2 6=lin R:=by rw [hE2];simp only [go_sem,Nat.reduceEqDiff,Nat.reducePow,Nat.reduceDiv,Nat.reduceMod,reduceCtorEq,e6,appendA_U]
  have f8 : E2 8=lin i:=by rw [hE2];simp only [go_sem,Nat.reduceEqDiff,Nat.reducePow,Nat.reduceDiv,Nat.reduceMod,h8,appendA_U]
  clear hE2
  refine vc_sound _ _ _ (by rfl) ?_
  have o02 : ∀ id,id<H1.next→id≠H.next+3→H2.get id=H1.get id:=fun id h1 h2=>(hold2 id (by omega) h2).trans (hold id h1 h2)
  have m0:=get_live ((o02 _ (by omega) (by omega)).trans g0)
  have m3:=get_live hu2
  by_cases hb2 : (i : Int)<R
  ·have w1:=IntWalk.i64_in ((i : Int)+1) (by omega)
   have hlen:=own_len hO2 (d:=some (.slice 3)) rfl
   rw [lenU_slice,ints_length] at hlen
   have tl : ((utilF p ns).w.take i).length=i:=by rw [List.length_take,wlen];omega
   have app : ∀ x : Int,(utilF p ns).w[i]?=some x→∃ v' H3,appendA Try.prog (ext H2 [.arr 0 3 [.lit (.int .i64 x)]]) (H2.next+1) 59 59 v2 (.own H2.next 0 0 1 1)=some (v',H3)∧v'.cells=[v']∧v'.one=true∧H3.live (H.next+3) 0=some (85,[v1,v2])∧H2.next≤H3.next ∧
     ∀ b,b=.arr 0 85 [v1,v']→(∀ id,id<Hx.next→id≠H.next+3→(H3.upd (H.next+3) b).get id=Hx.get id)∧(H3.upd (H.next+3) b).get (H.next+3)=some (.arr 0 85 [v1,v'])∧OwnG Hx.next (H3.upd (H.next+3) b) 3 v' (ints ((utilF p ns).w.take (i+1))):=fun x hx=>by
    obtain ⟨v',H3,hA,hO3,hn3,hp3⟩:=app_oneG (P:=Try.prog) (H:=H2) (t:=59) (x:=lin x) (n:=H2.next+1) Try.underlying59 Try.cells3 Try.zero3 rfl (by rw [Try.bytes3,ints_length];omega) hO2 hn2 rfl
    simp only [lin] at hA
    have keep : ∀ id,id<Hx.next→H3.get id=H2.get id:=fun id h=>hp3 id (by omega) (hO2.ne h)
    refine ⟨v',H3,hA,hO3.cells,hO3.one,get_live ((keep _ (by omega)).trans hu2),hn3,fun b hb=>⟨fun id h1 h2=>by rw [upd_get,if_neg h2,keep _ h1];exact hold2 id h1 h2,by rw [upd_get,if_pos rfl,hb],?_⟩⟩
    rw [take_succ_get hx]
    have:=hO3.keep (lo':=Hx.next) (H':=H3.upd (H.next+3) b) (Nat.le_refl _) (Nat.le_refl _) fun id _ h1 _ _ _=>by rw [upd_get,if_neg (by omega)]
    simpa [ints,lin] using this
   by_cases hz : (0 : Int)<p.w.length
   ·have hzn : ¬ (p.w.length : Int)=0:=by omega
    have m1 : (i : Int).tmod p.w.length=((i % p.w.length : Nat) : Int):=by rw [Int.tmod_eq_emod_of_nonneg (by omega)];rfl
    have m2:=Nat.mod_lt i (show p.w.length > 0 by omega)
    obtain ⟨q,hq⟩ : ∃ q,q=i % p.w.length:=⟨_,rfl⟩
    rw [← hq] at m1 m2
    have hq0 : (q : Int) ≥ 0:=by omega
    have hql : (q : Int)<p.w.length:=by omega
    obtain ⟨b,hbg⟩:=get_of_lt (l:=p.w) (i:=q) m2
    have b8:=hp.2.2 b (List.mem_of_getElem? hbg)
    have hbg':=i8L_get hbg
    have hbne:=ne_of_get hbg'
    unfold I8 at b8
    have w4 : IntKind.i64.wrap b=b:=IntWalk.i64_in _ (by omega)
    have tb : -9223372036854775808≤b.tmod 101∧b.tmod 101<9223372036854775808:=by
     have h:=Int.natAbs_tmod b 101
     have h2:=Nat.mod_lt b.natAbs (show (101 : Int).natAbs > 0 by decide)
     have h3 : (101 : Int).natAbs=101:=rfl
     rw [h3] at h h2
     omega
    have w5 : IntKind.i64.wrap (b.tmod 101)=b.tmod 101:=IntWalk.i64_in _ (by omega)
    obtain ⟨v',H3,hA,hvc,hvo,l3,hn3,fin⟩:=app (b.tmod 101) (wget i _ (by omega) (by rw [if_neg (by omega),← hq,getD_of_get hbg]))
    simp only [go_sem,Nat.reduceEqDiff,Nat.reducePow,Nat.reduceDiv,Nat.reduceMod,f2,f4,f5,f6,f8,m0,m3,hb2,hz,appendA_U]
    refine W.draw 7 [0,1,0,0,8,24,60] Try.mixed (by kernel_rfl) (by kernel_rfl) ?_
    simp only [go_sem,Int.reduceEq,Nat.reduceEqDiff,Nat.reducePow,Nat.reduceDiv,Nat.reduceMod,Nat.reduceAdd,Nat.reduceLeDiff,reduceCtorEq,f2,f4,f5,f6,f8,m0,m3,hb2,hz,hzn,m1,hq0,hql,hbg',hbne,w1,w4,w5,hlen,hA,hvc,hvo,l3]
    refine ⟨by rw [upd_next];omega,⟨i+1,v',rfl,by omega,by rw [upd_next];omega,(fin _ rfl).1,(fin _ rfl).2.1,(fin _ rfl).2.2⟩,by rw [h8];simp only [lin,iv_int];omega⟩
   ·have hzn : p.w.length=0:=by omega
    obtain ⟨v',H3,hA,hvc,hvo,l3,hn3,fin⟩:=app 0 (wget i _ (by omega) (by rw [if_pos hzn]))
    simp only [go_sem,Nat.reduceEqDiff,Nat.reducePow,Nat.reduceDiv,Nat.reduceMod,Nat.reduceAdd,Nat.reduceLeDiff,f2,f4,f5,f6,f8,m0,m3,hb2,hz,w1,hlen,hA,hvc,hvo,l3]
    refine ⟨by rw [upd_next];omega,⟨i+1,v',rfl,by omega,by rw [upd_next];omega,(fin _ rfl).1,(fin _ rfl).2.1,(fin _ rfl).2.2⟩,by rw [h8];simp only [lin,iv_int];omega⟩
  ·have hie : i=R:=by omega
   have m2:=get_live ((o02 _ (by omega) (by omega)).trans g2)
   have hO1 : OwnG H1.next H2 3 v1 (ints (utVars p.vars ns.length)):=hO.keep (Nat.le_refl _) hn2 fun id _ h1 h3 _ _=>hold2 id h3 (by omega)
   have v1o:=hO1.one
   have v2o:=hO2.one
   have v1c:=hO1.cells
   have v2c:=hO2.cells
   rw [List.take_of_length_le (by omega)] at hO2
   simp only [go_sem,Nat.reduceEqDiff,Nat.reducePow,Nat.reduceDiv,Nat.reduceMod,Nat.reduceAdd,f2,f4,f5,f6,f8,m0,m2,m3,hb2,v1o,v2o,v1c,v2c,appendA_U]
   have k1:=hO1.keep (lo':=H.next) (H':=H2.upd (H.next+2) (.arr 0 85 [v1,v2])) (by omega) (by rw [upd_next];omega) fun id _ h1 _ _ _=>by rw [upd_get,if_neg (by omega)]
   have k2:=hO2.keep (lo':=H.next) (H':=H2.upd (H.next+2) (.arr 0 85 [v1,v2])) (by omega) (by rw [upd_next];omega) fun id _ h1 _ _ _=>by rw [upd_get,if_neg (by omega)]
   refine FinV.mk (by rw [upd_next];omega) (hK v1 v2 _ ⟨by rw [upd_next];omega,fun id h=>?_⟩ k1 k2)
   rw [upd_get,if_neg (by omega),o02 id (by omega) (by omega)]
   exact o1.old id h
end Go.Proofs
set_option linter.unusedSimpArgs false
set_option maxRecDepth 100000
namespace Go.Proofs
open Go.Hx
structure TopoR (ps : List Nat) (r : List Nat) : Prop where
 len : r.length=ps.length
 nd : r.Nodup
 rng : ∀ v∈r,v<ps.length
 rk : ∀ (i v : Nat),r[i]?=some v→∀ u,(ps.getD v 0).testBit u=true→∃ j,j<i∧r[j]?=some u
theorem topoGo_R {ps : List Nat} (hp : ∀ p∈ps,p<2 ^ 64) : ∀ (k : Nat) (out : List Nat) (done : Nat) (r : List Nat),topoGo ps k out done=some r→(∀ i,done.testBit i=true↔i∈out)→out.Nodup→(∀ v∈out,v<ps.length)→(∀ (i v : Nat),out[i]?=some v→∀ u,(ps.getD v 0).testBit u=true→∃ j,j<i∧out[j]?=some u) →
  r.length=out.length+k∧r.Nodup∧(∀ v∈r,v<ps.length)∧(∀ (i v : Nat),r[i]?=some v→∀ u,(ps.getD v 0).testBit u=true→∃ j,j<i∧r[j]?=some u):=by
 intro k
 induction k with
 | zero =>
  intro out done r h h1 h2 h3 h4
  unfold topoGo at h
  cases h
  exact ⟨rfl,h2,h3,h4⟩
 | succ k ih =>
  intro out done r h h1 h2 h3 h4
  unfold topoGo at h
  cases hn : nextT ps done with
  | none=>rw [hn] at h;cases h
  | some v =>
   rw [hn] at h
   obtain ⟨a,b,c⟩:=nextT_some hp hn
   have hvo : v ∉ out:=fun hm=>by rw [(h1 v).2 hm] at b;cases b
   obtain ⟨e1,e2,e3,e4⟩:=ih (out++[v]) (done ||| 2 ^ v) r h (fun i=>by
    rw [or_pow_bit,List.mem_append,List.mem_singleton,Bool.or_eq_true,h1,decide_eq_true_eq]
    exact or_congr Iff.rfl eq_comm) (List.nodup_append.2 ⟨h2,by simp,fun x hx y hy=>by obtain rfl:=List.mem_singleton.1 hy;rintro rfl;exact hvo hx⟩) (fun x hx=>by
    rcases List.mem_append.1 hx with hx|hx
    ·exact h3 x hx
    ·obtain rfl:=List.mem_singleton.1 hx;exact a) (fun i x hx u hu=>by
    have hl:=get_lt hx
    rw [List.length_append,List.length_singleton] at hl
    rcases Nat.lt_or_ge i out.length with hi|hi
    ·rw [List.getElem?_append_left hi] at hx
     obtain ⟨j,j1,j2⟩:=h4 i x hx u hu
     exact ⟨j,j1,by rw [List.getElem?_append_left (by omega)];exact j2⟩
    ·obtain rfl : i=out.length:=by omega
     simp only [List.getElem?_concat_length,Option.some.injEq] at hx
     subst hx
     obtain ⟨j,hj⟩:=List.mem_iff_getElem?.1 ((h1 u).1 (c u hu))
     exact ⟨j,get_lt hj,by rw [List.getElem?_append_left (get_lt hj)];exact hj⟩)
   exact ⟨by rw [e1,List.length_append,List.length_singleton];omega,e2,e3,e4⟩
theorem topoR {ps : List Nat} (hp : ∀ p∈ps,p<2 ^ 64) {r : List Nat} (h : topo ps=some r) : TopoR ps r:=by
 obtain ⟨e1,e2,e3,e4⟩:=topoGo_R hp ps.length [] 0 r h (fun i=>by simp) (by simp) (by simp) (by simp)
 exact ⟨by simpa using e1,e2,e3,e4⟩

theorem nodup_len : ∀ (n : Nat) (l : List Nat),l.Nodup→(∀ v∈l,v<n)→l.length≤n:=by
 intro n
 induction n with
 | zero=>intro l _ h;cases l with
  | nil=>simp
  | cons a l=>exact absurd (h a (by simp)) (Nat.not_lt_zero _)
 | succ n ih =>
  intro l hd h
  have h1:=ih (l.erase n) (hd.erase n) fun v hv=>by
   have h2:=(hd.mem_erase_iff).1 hv
   have:=h v h2.2
   omega
  have h3:=List.length_erase (a:=n) (l:=l)
  split at h3<;>omega
def Bef (r : List Nat) (i v : Nat) : Prop:=∃ j,j<i∧r[j]?=some v
theorem Bef.up {r : List Nat} {i k v : Nat} (h : Bef r i v) (hk : i≤k) : Bef r k v:=h.imp fun j hj=>⟨by omega,hj.2⟩
/-- The nodes of a draft when the first nodes of the order have been looked at. -/
structure DrD (ns : List NodeP) (r : List Nat) (rem : Bool) (i known decs : Nat) (os : List Nat) (ms : List NodeP) : Prop where
 card : cardsL ms=cardsL ns
 old : ∀ v,decs.testBit v=false→ms[v]?=ns[v]?
 dec : ∀ v x,ms[v]?=some x→decs.testBit v=true→x.rows=[]∧∃ s j,x.parents=bitsL s 8∧j<i∧r[j]?=some v∧∀ u,s.testBit u=true→Bef r j u
 decsb : ∀ v,decs.testBit v=true→Bef r i v
 knownb : ∀ v,known.testBit v=true→Bef r i v
 os3 : os.length≤3
 osm : ∀ v,v∈os↔decs.testBit v=true
 osp : rem=true→os.Pairwise fun u v=>∀ x y,ms[u]?=some x→ms[v]?=some y→Sub (setN x.parents ||| 2 ^ u) (setN y.parents)
 osk : rem=true→∀ u∈os,∀ x,ms[u]?=some x→Sub (setN x.parents ||| 2 ^ u) known
theorem DrD.len {ns ms : List NodeP} {r os : List Nat} {rem : Bool} {i known decs : Nat} (h : DrD ns r rem i known decs os ms) : ms.length=ns.length:=by
 have:=congrArg List.length h.card
 simpa [cardsL] using this
theorem DrD.start (ns : List NodeP) (r : List Nat) (rem : Bool) : DrD ns r rem 0 0 0 [] ns :=
 ⟨rfl,fun _ _=>rfl,fun v x _ h=>by simp at h,fun v h=>by simp at h,fun v h=>by simp at h,by simp,fun v=>by simp,fun _=>.nil,fun _ u hu=>by cases hu⟩
theorem DrD.skip {ns ms : List NodeP} {r os : List Nat} {rem : Bool} {i known decs : Nat} (h : DrD ns r rem i known decs os ms) : DrD ns r rem (i+1) known decs os ms :=
 ⟨h.card,h.old,fun v x hx hb=>by
  obtain ⟨a,s,j,b,c,d⟩:=h.dec v x hx hb
  exact ⟨a,s,j,b,by omega,d⟩,fun v hb=>(h.decsb v hb).up (by omega),fun v hb=>(h.knownb v hb).up (by omega),h.os3,h.osm,h.osp,h.osk⟩
theorem setN_bitsL {s : Nat} (h : s<2 ^ 8) : setN (bitsL s 8)=s:=by
 have h0 : ∀ p∈bitsL s 8,0≤p:=fun p hp=>by obtain ⟨v,rfl,_⟩:=mem_bitsL.1 hp;omega
 refine Nat.eq_of_testBit_eq fun i=>?_
 rw [setN_bit h0]
 cases hb : s.testBit i with
 | true=>exact decide_eq_true (mem_bitsL.2 ⟨i,rfl,bit_lt h hb,hb⟩)
 | false =>
  refine decide_eq_false fun hm=>?_
  obtain ⟨v,e,_,hv⟩:=mem_bitsL.1 hm
  obtain rfl : i=v:=by omega
  rw [hb] at hv;cases hv
theorem bef_lt {r : List Nat} {n i v : Nat} (hr : ∀ v∈r,v<n) (h : Bef r i v) : v<n:=h.elim fun _ hj=>hr v (List.mem_of_getElem? hj.2)
theorem befs_lt {r : List Nat} {n i s : Nat} (hr : ∀ v∈r,v<n) (h : ∀ v,s.testBit v=true→Bef r i v) : s<2 ^ n:=lt_two_pow_of_bits fun v hv=>bef_lt hr (h v hv)
theorem DrD.step {ns ms : List NodeP} {r os : List Nat} {rem : Bool} {i known decs : Nat} (h : DrD ns r rem i known decs os ms) (hr : TopoR (setsL ns) r) (h8 : ns.length≤8) (ho : os.length<3) {v : Nat} (hv : r[i]?=some v) {x : NodeP} (hx : ns[v]?=some x) {s : Nat} (hs : Sub s (setN x.parents)) :
  decs.testBit v=false∧v<ns.length∧(if rem then s ||| known else s)<2 ^ ns.length ∧
  DrD ns r rem (i+1) (known ||| (if rem then s ||| known else s) ||| 2 ^ v) (decs ||| 2 ^ v) (os++[v]) (ms.set v ⟨x.card,bitsL (if rem then s ||| known else s) 8,[]⟩):=by
 obtain ⟨s',hs'⟩ : ∃ s',s'=(if rem then s ||| known else s):=⟨_,rfl⟩
 rw [← hs']
 have hsl : (setsL ns).length=ns.length:=by simp [setsL]
 have hrng:=hr.rng
 rw [hsl] at hrng
 have hvn:=hrng v (List.mem_of_getElem? hv)
 have hml:=h.len
 have inj : ∀ j,r[j]?=some v→j=i:=fun j hj=>(List.getElem?_inj (get_lt hj) hr.nd).1 (by rw [hj,hv])
 have hdv : decs.testBit v=false:=by
  cases hb : decs.testBit v with
  | false=>rfl
  | true =>
   obtain ⟨j,j1,j2⟩:=h.decsb v hb
   have:=inj j j2
   omega
 have sb : ∀ u,s.testBit u=true→Bef r i u:=fun u hu=>hr.rk i v hv u (by rw [getD_of_get (setsL_get hx)];exact hs u hu)
 have sb' : ∀ u,s'.testBit u=true→Bef r i u:=fun u hu=>by
  rw [hs'] at hu
  cases rem with
  | false=>exact sb u hu
  | true =>
   rw [if_pos rfl,Nat.testBit_or,Bool.or_eq_true] at hu
   exact hu.elim (sb u) (h.knownb u)
 have hlt:=befs_lt hrng sb'
 have hlt8 : s'<2 ^ 8:=Nat.lt_of_lt_of_le hlt (Nat.pow_le_pow_right (by decide) h8)
 have selfv : (ms.set v ⟨x.card,bitsL s' 8,[]⟩)[v]?=some ⟨x.card,bitsL s' 8,[]⟩:=List.getElem?_set_self (by omega)
 have othv : ∀ u,u≠v→(ms.set v ⟨x.card,bitsL s' 8,[]⟩)[u]?=ms[u]?:=fun u hu=>List.getElem?_set_ne (fun e=>hu e.symm)
 have osv : v ∉ os:=fun hm=>by rw [(h.osm v).1 hm] at hdv;cases hdv
 refine ⟨hdv,hvn,hlt,⟨?_,fun u hu=>?_,fun u y hy hu=>?_,fun u hu=>?_,fun u hu=>?_,by simp;omega,fun u=>?_,fun hrem=>?_,fun hrem u hu y hy=>?_⟩⟩
 ·rw [← h.card]
  unfold cardsL
  rw [List.map_set]
  apply List.ext_getElem?
  intro k
  rw [List.getElem?_set]
  split
  ·rename_i e
   subst e
   have:=h.card
   have h1 : (cardsL ms)[v]?=(cardsL ns)[v]?:=by rw [this]
   rw [if_pos (by rw [List.length_map];omega)]
   rw [cards_get hx] at h1
   exact h1.symm
  ·rfl
 ·rw [or_pow_bit,Bool.or_eq_false_iff,decide_eq_false_iff_not] at hu
  rw [othv u (fun e=>hu.2 e.symm)]
  exact h.old u hu.1
 ·by_cases e : u=v
  ·subst e
   rw [selfv] at hy
   cases hy
   exact ⟨rfl,s',i,rfl,by omega,hv,sb'⟩
  ·rw [othv u e] at hy
   rw [or_pow_bit,Bool.or_eq_true,decide_eq_true_eq] at hu
   obtain ⟨a,s2,j,b,c,d⟩:=h.dec u y hy (hu.resolve_right fun e'=>e e'.symm)
   exact ⟨a,s2,j,b,by omega,d⟩
 ·rw [or_pow_bit,Bool.or_eq_true,decide_eq_true_eq] at hu
  rcases hu with hu|rfl
  ·exact (h.decsb u hu).up (by omega)
  ·exact ⟨i,by omega,hv⟩
 ·rw [or_pow_bit,Nat.testBit_or,Bool.or_eq_true,Bool.or_eq_true,decide_eq_true_eq] at hu
  rcases hu with (hu|hu)|rfl
  ·exact (h.knownb u hu).up (by omega)
  ·exact (sb' u hu).up (by omega)
  ·exact ⟨i,by omega,hv⟩
 ·rw [or_pow_bit,List.mem_append,List.mem_singleton,h.osm,Bool.or_eq_true,decide_eq_true_eq]
  exact or_congr Iff.rfl eq_comm
 ·refine List.pairwise_append.2 ⟨(h.osp hrem).imp_of_mem fun {a b} ha hb hab p q hp hq=>?_,by simp,fun a ha b hb p q hp hq=>?_⟩
  ·rw [othv a (fun e=>osv (e ▸ ha))] at hp
   rw [othv b (fun e=>osv (e ▸ hb))] at hq
   exact hab p q hp hq
  ·obtain rfl:=List.mem_singleton.1 hb
   rw [othv a (fun e=>osv (e ▸ ha))] at hp
   rw [selfv] at hq
   cases hq
   rw [show setN (⟨x.card,bitsL s' 8,[]⟩ : NodeP).parents=s' from setN_bitsL hlt8,hs',if_pos hrem]
   exact (h.osk hrem a ha p hp).trans (Sub.right _ _)
 ·rcases List.mem_append.1 hu with hu|hu
  ·rw [othv u (fun e=>osv (e ▸ hu))] at hy
   exact ((h.osk hrem u hu y hy).trans (Sub.left _ _)).trans (Sub.left _ _)
  ·obtain rfl:=List.mem_singleton.1 hu
   rw [selfv] at hy
   cases hy
   rw [show setN (⟨x.card,bitsL s' 8,[]⟩ : NodeP).parents=s' from setN_bitsL hlt8]
   exact Sub.or ((Sub.right known s').trans (Sub.left _ _)) (Sub.right _ _)

/-- What is known of a draft's diagram. -/
structure DrI (rem : Bool) (d : InfP) : Prop where
 ok : InfOk d
 n5 : d.nodes.length≤5
 rows : ∀ v x,d.nodes[v]?=some x→d.decs.testBit v=false→x.rows≠[]
 os : ∃ os : List Nat,os.length≤3∧(∀ v,v∈os↔d.decs.testBit v=true)∧(rem=true→os.Pairwise fun u v=>∀ x y,d.nodes[u]?=some x→d.nodes[v]?=some y→Sub (setN x.parents ||| 2 ^ u) (setN y.parents))
theorem rows_ne {g : Int} {ns : List NodeP} (h : NetOk g ns) : ∀ x∈ns,x.rows≠[]:=fun x hx he=>by
 have h1:=(h.rows x hx).1
 have h2:=prodL_pos (l:=parC ns x) fun c hc=>(parC_mem (fun q hq=>by have:=(h.node x hx).2.2 q hq;omega) (fun y hy=>(h.node y hy).1) c hc).1
 rw [he] at h1
 simp at h1
 omega
theorem DrD.fin {g : Int} {ns ms : List NodeP} {r os : List Nat} {rem : Bool} {i known decs : Nat} (h : DrD ns r rem i known decs os ms) (hn : NetOk g ns) (hr : TopoR (setsL ns) r) (h5 : ns.length≤5) {us : List UtilP} (hul : us.length≤4) (hus : ∀ u∈us,UtilOk ns u) :
  DrI rem ⟨g,ms,decs,us⟩:=by
 have hsl : (setsL ns).length=ns.length:=by simp [setsL]
 have hrng:=hr.rng
 rw [hsl] at hrng
 have hml:=h.len
 have hdl : decs<2 ^ ns.length:=befs_lt hrng h.decsb
 have getN : ∀ (v : Nat) (x : NodeP),ms[v]?=some x→∃ y,ns[v]?=some y∧y.card=x.card:=fun v x hx=>by
  obtain ⟨y,hy⟩:=get_of_lt (l:=ns) (i:=v) (by have:=get_lt hx;omega)
  refine ⟨y,hy,?_⟩
  have h1 : (cardsL ms)[v]?=(cardsL ns)[v]?:=by rw [h.card]
  rw [cards_get hx,cards_get hy] at h1
  exact (Option.some.inj h1).symm
 have hcard : ∀ x∈ms,1≤x.card∧x.card≤4:=fun x hx=>by
  obtain ⟨v,hv⟩:=List.mem_iff_getElem?.1 hx
  obtain ⟨y,hy,e⟩:=getN v x hv
  rw [← e]
  exact (hn.node y (List.mem_of_getElem? hy)).1
 have hpl : ∀ (v : Nat) (x : NodeP),ms[v]?=some x→PlacesOk x.parents ms.length:=fun v x hx=>by
  cases hb : decs.testBit v with
  | false =>
   rw [h.old v hb] at hx
   have:=(hn.node x (List.mem_of_getElem? hx)).2
   rw [hml];exact this
  | true =>
   obtain ⟨_,s,j,e,_,_,hs⟩:=h.dec v x hx hb
   rw [e]
   refine ⟨bitsL_pw _ _,fun q hq=>?_⟩
   obtain ⟨u,rfl,_,hu⟩:=mem_bitsL.1 hq
   have:=bef_lt hrng (hs u hu)
   rw [hml]
   omega
 have hR : RightN ⟨g,ms,decs,us⟩:=⟨by show 1≤ms.length∧ms.length≤8;rw [hml];exact hn.n1,by show decs >>> ms.length=0;rw [hml,Nat.shiftRight_eq_div_pow];exact Nat.div_eq_of_lt hdl,hcard,fun v x hx hb=>⟨(h.dec v x hx hb).1,hpl v x hx⟩⟩
 have hperm : IsPerm ns.length (natsI r):=⟨by rw [show (natsI r).length=r.length by simp [natsI],hr.len,hsl],by
  unfold natsI
  exact List.Pairwise.map _ (R:=(·≠·)) (fun a b h e=>h (by omega)) hr.nd,fun q hq=>by
  obtain ⟨v,hv,rfl⟩:=List.mem_map.1 hq
  have:=hrng v hv
  omega⟩
 have natg : ∀ (j v : Nat),(natsI r)[j]?=some (v : Int)↔r[j]?=some v:=fun j v=>by
  unfold natsI
  rw [List.getElem?_map,Option.map_eq_some_iff]
  exact ⟨fun ⟨a,h1,h2⟩=>by rw [h1];congr 1;omega,fun h1=>⟨v,h1,rfl⟩⟩
 have hacy : AcycB (setsL ms):=by
  refine acyc_of_order (P:=natsI r) (by rw [hml];exact hperm) (fun v hv=>?_) fun j v x hj hx q hq=>?_
  ·refine Classical.byContradiction fun hno=>?_
   rw [hml] at hv
   have hsub : (v :: r).length≤ns.length:=by
    have hnd : (v :: r).Nodup:=List.nodup_cons.2 ⟨fun hm=>hno (List.mem_map.2 ⟨v,hm,rfl⟩),hr.nd⟩
    exact nodup_len ns.length _ hnd fun u hu=>by
     rcases List.mem_cons.1 hu with rfl|hu
     ·exact hv
     ·exact hrng u hu
   rw [List.length_cons,hr.len,hsl] at hsub
   omega
  ·have q0:=((hpl v x hx).2 q hq).1
   refine ⟨q0,?_⟩
   have hj':=(natg j v).1 hj
   obtain ⟨u,rfl⟩:=Int.eq_ofNat_of_zero_le q0
   cases hb : decs.testBit v with
   | false =>
    rw [h.old v hb] at hx
    obtain ⟨k,k1,k2⟩:=hr.rk j v hj' u (by
     rw [getD_of_get (setsL_get hx),setN_bit fun p hp=>((hn.node x (List.mem_of_getElem? hx)).2.2 p hp).1]
     exact decide_eq_true hq)
    exact ⟨k,k1,(natg k u).2 k2⟩
   | true =>
    obtain ⟨_,s,j',e,_,hj2,hs⟩:=h.dec v x hx hb
    rw [e] at hq
    obtain ⟨u',eu,_,hu⟩:=mem_bitsL.1 hq
    obtain rfl : u=u':=by omega
    obtain rfl : j'=j:=(List.getElem?_inj (get_lt hj2) hr.nd).1 (by rw [hj2,hj'])
    obtain ⟨k,k1,k2⟩:=hs u hu
    exact ⟨k,k1,(natg k u).2 k2⟩
 have hpc : ∀ x,parC ms x=parC ns x:=fun x=>by unfold parC;rw [h.card]
 refine ⟨⟨hR,⟨hn.g1,by rw [fillL_len];exact hR.n1,fun y hy=>?_,?_,by rw [fillL_sets];exact hacy,fun y hy=>?_⟩,hul,fun u hu=>?_⟩,by show ms.length≤5;omega,fun v x hx hb=>?_,os,h.os3,h.osm,h.osp⟩
 ·obtain ⟨v,x,hx,rfl⟩:=fillL_mem hy
  rw [(fillN_card ..).1,(fillN_card ..).2,fillL_len]
  exact ⟨hcard x (List.mem_of_getElem? hx),hpl v x hx⟩
 ·rw [fillL_card]
  show prodL (cardsL ms)≤1024
  rw [h.card]
  exact hn.size
 ·obtain ⟨v,x,hx,rfl⟩:=fillL_mem hy
  have hcx:=hcard x (List.mem_of_getElem? hx)
  have hx' : ms[v]?=some x:=hx
  unfold NodeOk
  rw [parC_fill]
  by_cases hb : decs.testBit v=true
  ·rw [fillN_dec hx hb]
   have x1:=(hR.dec v x hx hb).1
   have hsm:=(parC_small (x:=x) (ns:=ms) hR.n1.2 (hpl v x hx) hcard).prod
   refine ⟨?_,fun q hq=>?_⟩
   ·show ((x.rows++decRows g ms (fun _ _=>0) _ x).length : Int)=prodL (parC ms x)
    rw [x1]
    simp only [decRows,List.nil_append,List.length_map,List.length_range,rowsN]
    omega
   ·rw [show ({ x with rows:=x.rows++decRows g ms (fun _ _=>0) (placeD decs v) x } : NodeP).rows=x.rows++decRows g ms (fun _ _=>0) (placeD decs v) x from rfl,x1,List.nil_append] at hq
    unfold decRows at hq
    obtain ⟨i,hi,rfl⟩:=List.mem_map.1 hq
    have:=hn.g1
    exact unitRow_ok (by show 0≤g;omega) ⟨Int.le_refl 0,by show (0 : Int)<x.card;omega⟩
  ·rw [fillN_no hb]
   have hb' : decs.testBit v=false:=by simpa using hb
   rw [h.old v hb'] at hx'
   have:=hn.rows x (List.mem_of_getElem? hx')
   unfold NodeOk at this
   show (x.rows.length : Int)=prodL (parC ms x)∧_
   rw [hpc]
   exact this
 ·have:=hus u hu
  exact ⟨by show PlacesOk u.vars ms.length;rw [hml];exact this.vars,by show _=prodL (atL (cardsL ms) u.vars);rw [h.card];exact this.size,this.w⟩
 ·have hx' : ms[v]?=some x:=hx
  rw [h.old v hb] at hx'
  exact rows_ne hn x (List.mem_of_getElem? hx')
end Go.Proofs
set_option linter.unusedSimpArgs false
set_option maxRecDepth 100000
namespace Go.Proofs
open Go.Hx
/-- The draft of a diagram. -/
structure D20 where
 g : Int
 ps : List DrP
 ord : List Int
 decs : Int
 rem : Bool
 us : List UtD
structure D20.Ok (d : D20) : Prop where
 g : U8 d.g
 ps : ∀ x∈d.ps,x.Ok
 pl : (d.ps.length : Int)<2 ^ 63
 ol : (d.ord.length : Int)<2 ^ 63
 o8 : ∀ x∈d.ord,U8 x
 decs : U8 d.decs
 us : ∀ u∈d.us,u.Ok
 ul : (d.us.length : Int)<2 ^ 63
def utC (us : List UtD) : List AVal:=(us.map UtD.cells).flatten
def D20.cells (d : D20) : List AVal:=[.lit (.int .u8 d.g),.vec d.ps.length (drC d.ps),.vec d.ord.length (bytesL d.ord),.lit (.int .u8 d.decs),.lit (.bool d.rem),.vec d.us.length (utC d.us)]
theorem utC_part {l : List UtD} {i : Nat} {x : UtD} (h : l[i]?=some x) : ((utC l).drop (i*2)).take 2=[.lit (.int .u8 x.vars),.vec x.w.length (i8L x.w)]:=flat_part (f:=UtD.cells) (z:=2) (fun _=>rfl) l i x h
theorem utC_0 {l : List UtD} {i : Nat} {x : UtD} (h : l[i]?=some x) : (utC l)[i*2]?=some (.lit (.int .u8 x.vars)):=flat_get (f:=UtD.cells) (z:=2) (fun _=>rfl) l i 0 x h (by omega)
theorem utC_ne {l : List UtD} {i : Nat} {x : UtD} (h : l[i]?=some x) : ¬ utC l=[]:=fun e=>by
 have:=utC_0 h;rw [e] at this;simp at this
/-- A node's parents and rows set anew. -/
theorem nodesE_two {l : List NodeP} {i : Nat} {x : NodeP} (p : List Int) (h : l[i]?=some x) : ((nodesE l).set (i*3+1) (vecI p)).set (i*3+2) (.lit (.slice none 0 0))=nodesE (l.set i ⟨x.card,p,[]⟩):=by
 have hl:=get_lt h
 have h1:=flat_set (f:=NodeP.cellsE) (z:=3) (fun _=>rfl) l i ⟨x.card,p,[]⟩ hl
 have h2:=flat_part (f:=NodeP.cellsE) (z:=3) (fun _=>rfl) l i x h
 unfold nodesE
 rw [h1]
 have h3 : (l.map NodeP.cellsE).flatten=((l.map NodeP.cellsE).flatten).take (i*3)++(x.cellsE++((l.map NodeP.cellsE).flatten).drop (i*3+3)):=by
  rw [← h2,← List.drop_drop,List.take_append_drop,List.take_append_drop]
 have hlen : (((l.map NodeP.cellsE).flatten).take (i*3)).length=i*3:=by
  rw [List.length_take,flat_len (f:=NodeP.cellsE) (z:=3) (fun _=>rfl)];omega
 conv=>lhs;rw [h3]
 rw [List.set_append_right _ _ (by omega),List.set_append_right _ _ (by omega),hlen,show i*3+1 - i*3=1 by omega,show i*3+2 - i*3=2 by omega]
 simp [NodeP.cellsE,rowsE]
theorem nodesE_eq {l : List NodeP} (h : ∀ x∈l,x.rows≠[]) : nodesE l=nodesC l:=by
 unfold nodesE nodesC
 congr 1
 exact List.map_congr_left fun x hx=>by unfold NodeP.cellsE NodeP.cells;rw [rowsE_ne (h x hx)]

theorem fzNet {H : AHeap} {nx N : Nat} {e : TypeId} {g : Int} {ms : List NodeP} (h : H.get N=some (.arr 0 e (nodesE ms))) : Fz (fun _=>True) H nx (.agg [lin g,.own N 0 0 ms.length 3]) (netV g ms):=by
 refine .agg rfl fun i hi _=>?_
 match i,hi with
 | 0,_=>exact .lit _
 | 1,_ =>
  refine .frz trivial h (nodesC_len ms) fun j hj h2 h'=>?_
  have e0 : (0 : Nat)+j=j:=Nat.zero_add j
  have h3 : j<(nodesE ms).length:=by omega
  have:=fz_nodesE (S:=fun _=>True) (H:=H) (nx:=nx) ms j h3 h'
  simpa only [e0] using this
theorem fz_utilsC {S : Nat→Prop} {H : AHeap} {nx : Nat} (l : List UtilP) : ∀ c∈utilsC l,Fz S H nx c c:=by
 intro c hc
 unfold utilsC at hc
 obtain ⟨r,hr,hc⟩:=List.mem_flatten.1 hc
 obtain ⟨x,_,rfl⟩:=List.mem_map.1 hr
 unfold UtilP.cells at hc
 simp only [List.mem_cons,List.not_mem_nil,or_false] at hc
 rcases hc with rfl|rfl<;>exact .keepInts _

set_option maxHeartbeats 4000000 in
theorem influence20_spec (d : D20) (hd : d.Ok) (H : AHeap) (K : ARes→AHeap→Prop) (hK : ∀ x,DrI d.rem x→K (.ret (infE x)) H) : ACall Try.prog G0 9 [.agg d.cells] H K:=by
 refine ACall.clo ⟨_,Try.func9,rfl,rfl⟩ fun hcl=>?_
 refine ACall.of_body (n:=128) (rs:=[.cell 2 39]) Try.func9 rfl rfl rfl (by decide) (by kernel_rfl) (by simp) ?_
 simp only [go_sem,Nat.reduceEqDiff,Nat.reduceAdd,Nat.reduceLeDiff,D20.cells,appendA_U]
 obtain ⟨H0,hH0⟩ : ∃ H0,H0=ext H [.arr 0 28 [.lit (.int .u8 d.g),.vec d.ps.length (drC d.ps),.vec d.ord.length (bytesL d.ord),.lit (.int .u8 d.decs),.lit (.bool d.rem),.vec d.us.length (utC d.us)],.arr 0 39 [.lit (.int .i64 0),.lit (.slice none 0 0),.lit (.int .u64 0),.lit (.slice none 0 0)]]:=⟨_,rfl⟩
 have g00 : H0.get H.next=some (.arr 0 28 [.lit (.int .u8 d.g),.vec d.ps.length (drC d.ps),.vec d.ord.length (bytesL d.ord),.lit (.int .u8 d.decs),.lit (.bool d.rem),.vec d.us.length (utC d.us)]):=by rw [hH0];exact get_ext0 ..
 have g01 : H0.get (H.next+1)=some (.arr 0 39 [.lit (.int .i64 0),.lit (.slice none 0 0),.lit (.int .u64 0),.lit (.slice none 0 0)]):=by rw [hH0];exact get_ext H _ 1 (by simp)
 have n0 : H0.next=H.next+2:=by rw [hH0];rfl
 have o0 : Over H H0:=by rw [hH0];exact .ext _ _
 rw [← hH0]
 clear hH0
 refine AApply.clo (net05_spec d.g d.ps d.ord hd.g hd.ps hd.pl hd.ol hd.o8 _ _ fun g ns N H' ov hN1 hN2 hget hnet h5 hp3=>⟨trivial,?_⟩)
 simp only [go_sem,Nat.reduceEqDiff,Nat.reduceAdd,Nat.reduceLT,Nat.reduceLeDiff,appendA_U]
 obtain ⟨B,hB⟩ : ∃ B,B=H'.next:=⟨_,rfl⟩
 rw [← hB]
 obtain ⟨H1,hH1⟩ : ∃ H1,H1=ext H' [.arr 0 64 [.lit (.int .i64 g),.own N 0 0 ns.length 3],.arr 0 39 [.lit (.int .i64 g),.own N 0 0 ns.length 3,.lit (.int .u64 0),.lit (.slice none 0 0)]]:=⟨_,rfl⟩
 have n1 : H1.next=B+2:=by rw [hH1,hB];rfl
 have ovn:=ov.next
 have g10 : H1.get H.next=some (.arr 0 28 [.lit (.int .u8 d.g),.vec d.ps.length (drC d.ps),.vec d.ord.length (bytesL d.ord),.lit (.int .u8 d.decs),.lit (.bool d.rem),.vec d.us.length (utC d.us)]):=by rw [hH1,get_ext_old _ _ _ (by omega),ov.old _ (by omega)];exact g00
 have g11 : H1.get (H.next+1)=some (.arr 0 39 [.lit (.int .i64 0),.lit (.slice none 0 0),.lit (.int .u64 0),.lit (.slice none 0 0)]):=by rw [hH1,get_ext_old _ _ _ (by omega),ov.old _ (by omega)];exact g01
 have gN : H1.get N=some (.arr 0 83 (nodesE ns)):=by rw [hH1,get_ext_old _ _ _ (by omega),nodesE_eq (rows_ne hnet)];exact hget
 have gB : H1.get B=some (.arr 0 64 [.lit (.int .i64 g),.own N 0 0 ns.length 3]):=by rw [hH1,hB];exact get_ext0 ..
 have gB1 : H1.get (B+1)=some (.arr 0 39 [.lit (.int .i64 g),.own N 0 0 ns.length 3,.lit (.int .u64 ((0 : Nat) : Int)),.lit (.slice none 0 0)]):=by rw [hH1,hB];exact get_ext H' _ 1 (by simp)
 have o1 : Over H H1:=by rw [hH1];exact (o0.trans ov).trans (.ext _ _)
 rw [← hH1]
 clear hH1 hget
 have hsl : (setsL ns).length=ns.length:=by simp [setsL]
 have hpr : ∀ x∈ns,(x.parents.length : Int)<2 ^ 39∧∀ q∈x.parents,0≤q∧q<(ns.length : Int):=fun x hx=>⟨by have:=hp3 x hx;omega,(hnet.node x hx).2.2⟩
 have hs8 : ∀ p∈setsL ns,p<2 ^ (setsL ns).length:=by rw [hsl];exact setsL_lt fun x hx=>(hpr x hx).2
 obtain ⟨r,hr⟩:=Option.isSome_iff_exists.1 ((topo_iff hs8 (by omega)).2 hnet.acyc)
 have hTR:=topoR (fun p h=>Nat.lt_of_lt_of_le (hs8 p h) (Nat.pow_le_pow_right (by decide) (by omega))) hr
 have hrl:=hTR.len
 rw [hsl] at hrl
 refine AApply.clo ((ACall.frame (H:=H1) (args:=[.agg [lin g,.own N 0 0 ns.length 3]]) (args':=[netV g ns]) (v':=vecI (natsI r)) G0_ok rfl (fun i hi _=>?_) (order20_own g ns (by omega) hpr r hr noH _ fun v H' _ ho=>⟨_,rfl,ho.freshI⟩)).mono fun rr H2 hrr=>?_)
 ·match i,hi with
  | 0,_=>exact fzNet gN
 obtain ⟨rfl,rfl⟩:=hrr
 refine ⟨trivial,?_⟩
 simp only [go_sem,Nat.reduceEqDiff,appendA_U]
 refine W.postWeak (Q':=fun e s2=>e=.exit 0∧∃ (i known decs : Nat) (os : List Nat) (ms : List NodeP),s2.ρ 1=.ptr H.next 0 0∧s2.ρ 2=.ptr (H.next+1) 0 0∧s2.ρ 3=.ptr B 0 0∧s2.ρ 4=.ptr (B+1) 0 0∧DrD ns r d.rem i known decs os ms∧H2.next≤s2.H.next∧(∀ id,id<H2.next→id≠N→id≠B+1→s2.H.get id=H2.get id)∧s2.H.get N=some (.arr 0 83 (nodesE ms)) ∧
  s2.H.get (B+1)=some (.arr 0 39 [.lit (.int .i64 g),.own N 0 0 ns.length 3,.lit (.int .u64 (decs : Int)),.lit (.slice none 0 0)])) ?_ ?_
 rotate_left
 ·rintro e s2 ⟨rfl,i,known,decs,os,ms,e1,e2,e3,e4,L,hnx,hold,hN,hB1⟩
  refine ⟨s2,.refl _,Nat.le_refl _,trivial,?_⟩
  obtain ⟨ρ2,Hy⟩:=s2
  dsimp only at e1 e2 e3 e4 hnx hold hN hB1
  simp only [go_sem,e1,e2,e3,e4,appendA_U]
  have hml:=L.len
  have hcd : ∀ x∈ms,1≤x.card∧x.card≤4:=fun x hx=>by
   obtain ⟨v,hv⟩:=List.mem_iff_getElem?.1 hx
   obtain ⟨y,hy⟩:=get_of_lt (l:=ns) (i:=v) (by have:=get_lt hv;omega)
   have h1 : (cardsL ms)[v]?=(cardsL ns)[v]?:=by rw [L.card]
   rw [cards_get hv,cards_get hy] at h1
   rw [Option.some.inj h1]
   exact (hnet.node y (List.mem_of_getElem? hy)).1
  have hn1:=hnet.n1
  obtain ⟨ut,hut⟩ : ∃ ut : List UtilP,ut=d.us.map fun u=>utilF u ms:=⟨_,rfl⟩
  refine W.loop0 170141163178059628080016879768632823808 (by rfl) (fun ρ Hu=>∃ (i : Nat) (uv : AVal),ρ 12=lin i∧i≤d.us.length∧i≤4∧Hy.next≤Hu.next∧(∀ id,id<Hy.next→id≠B+1→Hu.get id=Hy.get id)∧Hu.get (B+1)=some (.arr 0 39 [.lit (.int .i64 g),.own N 0 0 ns.length 3,.lit (.int .u64 (decs : Int)),uv])∧OwnZ Hy.next Hu 85 2 uv i (utilsC (ut.take i))) (fun ρ H=>d.us.length - (iv (ρ 12)).toNat) ?_ ?_
  ·simp only [go_sem,appendA_U]
   exact ⟨0,_,rfl,by omega,by omega,hB1,.nil⟩
  rintro ρ Hu ⟨i,uv,h12,hi,hi4,hnu,holdu,hBu,hO⟩
  refine W.env fun E hE=>?_
  have f1 : E 1=.ptr H.next 0 0:=by rw [hE];simp only [go_sem,Nat.reduceEqDiff,Nat.reducePow,Nat.reduceDiv,Nat.reduceMod,reduceCtorEq,e1,appendA_U]
  have f2 : E 2=.ptr (H.next+1) 0 0:=by rw [hE];simp only [go_sem,Nat.reduceEqDiff,Nat.reducePow,Nat.reduceDiv,Nat.reduceMod,reduceCtorEq,e2,appendA_U]
  have f3 : E 3=.ptr B 0 0:=by rw [hE];simp only [go_sem,Nat.reduceEqDiff,Nat.reducePow,Nat.reduceDiv,Nat.reduceMod,reduceCtorEq,e3,appendA_U]
  have f4 : E 4=.ptr (B+1) 0 0:=by rw [hE];simp only [go_sem,Nat.reduceEqDiff,Nat.reducePow,Nat.reduceDiv,Nat.reduceMod,reduceCtorEq,e4,appendA_U]
  have f12 : E 12=lin i:=by rw [hE];simp only [go_sem,Nat.reducePow,Nat.reduceDiv,Nat.reduceMod,h12,appendA_U]
  clear hE
  refine vc_sound _ _ _ (by rfl) ?_
  have uh : Hu.get H.next=_:=((holdu H.next (by omega) (by omega)).trans (hold H.next (by omega) (by omega) (by omega))).trans g10
  have l0:=get_live uh
  have lB:=get_live (((holdu B (by omega) (by omega)).trans (hold B (by omega) (by omega) (by omega))).trans gB)
  have lB1:=get_live hBu
  have hNu : Hu.get N=some (.arr 0 83 (nodesE ms)):=(holdu N (by omega) (by omega)).trans hN
  by_cases hb : (i : Int)<d.us.length∧(i : Int)<4
  ·obtain ⟨u,hu⟩:=get_of_lt (l:=d.us) (i:=i) (by omega)
   have huo:=hd.us u (List.mem_of_getElem? hu)
   have cne:=utC_ne hu
   have c0:=utC_part hu
   have cl : i*2+2≤(utC d.us).length:=by rw [show (utC d.us).length=d.us.length*2 from flat_len (f:=UtD.cells) (fun _=>rfl) _];omega
   have w1:=IntWalk.i64_in ((i : Int)+1) (by omega)
   have hpc : ∀ Hq,Hq.get N=some (.arr 0 83 (nodesE ms))→N<Hq.next→PCall Try.prog G0 (.clo 44 [] []) [.agg [.lit (.int .u8 u.vars),.vec u.w.length (i8L u.w)],.agg [.lit (.int .i64 g),.own N 0 0 ns.length 3]] Hq (.agg [vecI (utilF u ms).vars,vecI (utilF u ms).w]) [N]:=fun Hq hq hqn=>by
    refine PCall.mk (fun i hi=>by obtain rfl:=List.mem_singleton.1 hi;exact hqn) fun H2 h1 h2=>?_
    refine ACall.frame (H:=H2) (args:=[.agg u.cells,.agg [lin g,.own N 0 0 ns.length 3]]) (args':=[.agg u.cells,netV g ms]) (v':=.agg [vecI (utilF u ms).vars,vecI (utilF u ms).w]) G0_ok rfl (fun i hi _=>?_) (pieceOf_own u huo g ms (by omega) hcd noH _ fun v1 v2 H' _ o1 o2=>⟨_,rfl,.agg rfl fun i hi _=>?_⟩)
    ·match i,hi with
     | 0,_ =>
      refine .agg rfl fun i hi _=>?_
      match i,hi with
      | 0,_=>exact .lit _
      | 1,_ =>
       refine .vec rfl fun j hj _=>?_
       simp only [i8L,List.getElem_map]
       exact .lit _
     | 1,_=>rw [← hml];exact fzNet ((h1 N (by simp)).trans hq)
    ·match i,hi with
     | 0,_=>exact o1.freshI
     | 1,_=>exact o2.freshI
   obtain ⟨uv',Hj,hA,hO',hnj,hpj⟩:=app_oneZ (P:=Try.prog) (xs:=[vecI (utilF u ms).vars,vecI (utilF u ms).w]) Try.underlying37 Try.cells85 Try.zero85 rfl rfl (by rw [Try.bytes85];omega) hO hnu rfl
   simp only [vecI] at hA
   have keep : ∀ id,id<Hy.next→Hj.get id=Hu.get id:=fun id h=>hpj id (by omega) (hO.ne h)
   have lB1j:=get_live ((keep _ (by omega)).trans hBu)
   have hvc:=hO'.cells
   have hvo:=hO'.one
   simp only [go_sem,Nat.reduceEqDiff,Nat.reducePow,Nat.reduceDiv,Nat.reduceMod,f1,f3,f4,f12,l0,hb.1,hb.2,appendA_U]
   refine W.draw 10 [0,1,0,4,0,28,60,0,252,508] Try.mixed (by kernel_rfl) (by kernel_rfl) ?_
   simp only [go_sem,Nat.reduceEqDiff,Nat.reducePow,Nat.reduceDiv,Nat.reduceMod,Nat.reduceAdd,Nat.reduceMul,Nat.reduceLeDiff,reduceCtorEq,f1,f3,f4,f12,l0,lB,lB1,cne,c0,cl,hb.1]
   refine ⟨_,[N],hpc _ hNu (by omega),?_⟩
   simp only [go_sem,Nat.reduceEqDiff,Nat.reducePow,Nat.reduceDiv,Nat.reduceMod,Nat.reduceAdd,reduceCtorEq,f1,f3,f4,f12,l0,lB,lB1,cne,c0,cl,hb.1,hA,lB1j,hvc,hvo,w1]
   have hug : ut[i]?=some (utilF u ms):=by rw [hut,List.getElem?_map,hu];rfl
   have e2' : utilsC (ut.take (i+1))=utilsC (ut.take i)++[vecI (utilF u ms).vars,vecI (utilF u ms).w]:=by
    rw [take_succ_get hug]
    unfold utilsC
    rw [List.map_append,List.flatten_append]
    simp [UtilP.cells]
   refine ⟨⟨fun _ h=>by omega,fun _ h=>by omega⟩,by rw [upd_next];omega,⟨i+1,uv',rfl,by omega,by omega,by rw [upd_next];omega,fun id h1 h2=>by rw [upd_get,if_neg h2,keep _ h1];exact holdu id h1 h2,by rw [upd_get,if_pos rfl],?_⟩,by rw [h12];simp only [lin,iv_int];omega⟩
   rw [e2']
   exact hO'.keep (by rw [upd_next];omega) fun id gg h1 _ _=>by rw [upd_get,if_neg (by omega)]
  ·have fin : ∀ b,FinV Try.prog G0 H K (.agg [.lit (.int .i64 g),.own N 0 0 ns.length 3,.lit (.int .u64 (decs : Int)),uv]) (Hu.upd (H.next+1) b):=fun b=>by
    have o1n:=o1.next
    have ov2 : Over H (Hu.upd (H.next+1) b):=⟨by rw [upd_next];omega,fun id h=>by
     rw [upd_get,if_neg (by omega),holdu id (by omega) (by omega),hold id (by omega) (by omega) (by omega)]
     exact o1.old id h⟩
    have htl : (ut.take i).length=i:=by rw [List.length_take,hut,List.length_map];omega
    refine FinV.dropO (v':=infE ⟨g,ms,decs,ut.take i⟩) G0_ok hcl ov2 (.agg rfl fun j hj _=>?_) (hK _ (L.fin hnet hTR h5 (by omega) fun u hu=>?_))
    ·match j,hj with
     | 0,_=>exact .lit _
     | 1,_ =>
      show Fz _ _ _ (.own N 0 0 ns.length 3) (.vec ms.length (nodesE ms))
      rw [← hml]
      refine .frz (by omega) (show (Hu.upd (H.next+1) b).get N=some (.arr 0 83 (nodesE ms)) by rw [upd_get,if_neg (by omega)];exact hNu) (nodesE_len ms) fun j hj h2 h'=>?_
      have e0 : (0 : Nat)+j=j:=Nat.zero_add j
      have h3 : j<(nodesE ms).length:=by omega
      have:=fz_nodesE' (S:=fun id=>H.next≤id) (H:=Hu.upd (H.next+1) b) (nx:=H.next) ms _ (List.getElem_mem h3)
      simpa only [e0] using this
     | 2,_=>exact .lit _
     | 3,_ =>
      show Fz _ _ _ uv (.vec (ut.take i).length (utilsC (ut.take i)))
      rcases hO with ⟨h,hz,hc⟩|⟨id,gg,k1,k2,h,k4,k5⟩
      ·rw [h,hc,htl,hz]
       exact .nil
      ·rw [h,htl]
       refine .frz (by omega) (show (Hu.upd (H.next+1) b).get id=some (.arr gg 85 (utilsC (ut.take i))) by rw [upd_get,if_neg (by omega)];exact k5) k4 fun j hj h2 h'=>?_
       have e0 : (0 : Nat)+j=j:=Nat.zero_add j
       have h3 : j<(utilsC (ut.take i)).length:=by omega
       have:=fz_utilsC (S:=fun id=>H.next≤id) (H:=Hu.upd (H.next+1) b) (nx:=H.next) (ut.take i) _ (List.getElem_mem h3)
       simpa only [e0] using this
    ·have hu2:=List.mem_of_mem_take hu
     rw [hut] at hu2
     obtain ⟨p,hp,rfl⟩:=List.mem_map.1 hu2
     have:=utilF_ok p ms fun x hx=>(hcd x hx).1
     exact ⟨by have:=this.vars;rw [hml] at this;exact this,by have:=this.size;rw [L.card] at this;exact this,this.w⟩
   have lR : Hu.live (H.next+1) 0=_:=get_live (((holdu (H.next+1) (by omega) (by omega)).trans (hold (H.next+1) (by omega) (by omega) (by omega))).trans g11)
   have uvc:=hO.cells
   have uvo:=hO.one
   by_cases hb1 : (i : Int)<d.us.length
   ·have hb4 : ¬ (i : Int)<4:=fun h=>hb ⟨hb1,h⟩
    simp only [go_sem,Nat.reduceEqDiff,Nat.reducePow,Nat.reduceDiv,Nat.reduceMod,Nat.reduceAdd,f1,f2,f3,f4,f12,l0,lB1,lR,hb1,hb4,uvc,uvo,appendA_U]
    exact fin _
   ·simp only [go_sem,Nat.reduceEqDiff,Nat.reducePow,Nat.reduceDiv,Nat.reduceMod,Nat.reduceAdd,f1,f2,f3,f4,f12,l0,lB1,lR,hb1,uvc,uvo,appendA_U]
    exact fin _
 refine W.loop0 20282409603651670423947242901440 (by rfl) (fun ρ Hx=>∃ (i known decs : Nat) (os : List Nat) (ms : List NodeP),ρ 8=lin i∧i≤r.length∧ρ 6=bitV known∧ρ 7=lin os.length∧DrD ns r d.rem i known decs os ms∧H2.next≤Hx.next∧(∀ id,id<H2.next→id≠N→id≠B+1→Hx.get id=H2.get id)∧Hx.get N=some (.arr 0 83 (nodesE ms)) ∧
  Hx.get (B+1)=some (.arr 0 39 [.lit (.int .i64 g),.own N 0 0 ns.length 3,.lit (.int .u64 (decs : Int)),.lit (.slice none 0 0)])) (fun ρ H=>r.length - (iv (ρ 8)).toNat) ?_ ?_
 ·simp only [go_sem,Nat.reduceEqDiff,appendA_U]
  exact ⟨0,0,0,[],ns,rfl,by omega,rfl,rfl,.start ns r d.rem,gN,gB1⟩
 rintro ρ Hx ⟨i,known,decs,os,ms,h8,hi,h6,h7,L,hnx,hold,hN,hB1⟩
 refine W.env fun E hE=>?_
 have e1 : E 1=.ptr H.next 0 0:=by rw [hE];simp only [go_sem,Nat.reduceEqDiff,Nat.reducePow,Nat.reduceDiv,Nat.reduceMod,reduceCtorEq,appendA_U]
 have e2 : E 2=.ptr (H.next+1) 0 0:=by rw [hE];simp only [go_sem,Nat.reduceEqDiff,Nat.reducePow,Nat.reduceDiv,Nat.reduceMod,reduceCtorEq,appendA_U]
 have e3 : E 3=.ptr B 0 0:=by rw [hE];simp only [go_sem,Nat.reduceEqDiff,Nat.reducePow,Nat.reduceDiv,Nat.reduceMod,reduceCtorEq,appendA_U]
 have e4 : E 4=.ptr (B+1) 0 0:=by rw [hE];simp only [go_sem,Nat.reduceEqDiff,Nat.reducePow,Nat.reduceDiv,Nat.reduceMod,reduceCtorEq,appendA_U]
 have e5 : E 5=vecI (natsI r):=by rw [hE];simp only [go_sem,Nat.reduceEqDiff,Nat.reducePow,Nat.reduceDiv,Nat.reduceMod,reduceCtorEq,appendA_U]
 have e6 : E 6=bitV known:=by rw [hE];simp only [go_sem,Nat.reduceEqDiff,Nat.reducePow,Nat.reduceDiv,Nat.reduceMod,h6,appendA_U]
 have e7 : E 7=lin os.length:=by rw [hE];simp only [go_sem,Nat.reduceEqDiff,Nat.reducePow,Nat.reduceDiv,Nat.reduceMod,h7,appendA_U]
 have e8 : E 8=lin i:=by rw [hE];simp only [go_sem,Nat.reduceEqDiff,Nat.reducePow,Nat.reduceDiv,Nat.reduceMod,h8,appendA_U]
 clear hE
 refine vc_sound _ _ _ (by rfl) ?_
 have l0:=get_live ((hold H.next (by omega) (by omega) (by omega)).trans g10)
 have lB:=get_live ((hold B (by omega) (by omega) (by omega)).trans gB)
 have lB1:=get_live hB1
 have lN:=get_live hN
 have hrng:=hTR.rng
 rw [hsl] at hrng
 have hml:=L.len
 have natl : (natsI r).length=r.length:=by simp [natsI]
 have nat5 : ∀ {s : Nat},s<2 ^ ns.length→s<2 ^ 64:=fun h=>Nat.lt_of_lt_of_le h (Nat.pow_le_pow_right (by decide) (by omega))
 have hk64 : known<2 ^ 64:=nat5 (befs_lt hrng L.knownb)
 have hd64 : decs<2 ^ 64:=nat5 (befs_lt hrng L.decsb)
 by_cases hb : (i : Int)<r.length
 rotate_left
 ·simp only [go_sem,Nat.reduceEqDiff,Nat.reducePow,Nat.reduceDiv,Nat.reduceMod,e1,e2,e3,e4,e5,e6,e7,e8,natl,hb,appendA_U]
  exact ⟨i,known,decs,os,ms,L,hnx,hold,hN,hB1⟩
 by_cases h3 : os.length<3
 rotate_left
 ·have h3' : ¬ (os.length : Int)<3:=by omega
  simp only [go_sem,Nat.reduceEqDiff,Nat.reducePow,Nat.reduceDiv,Nat.reduceMod,e1,e2,e3,e4,e5,e6,e7,e8,natl,hb,h3',appendA_U]
  exact ⟨i,known,decs,os,ms,L,hnx,hold,hN,hB1⟩
 have h3' : (os.length : Int)<3:=by omega
 obtain ⟨v,hv⟩:=get_of_lt (l:=r) (i:=i) (by omega)
 have hvi : (natsI r)[i]?=some (v : Int):=by unfold natsI;rw [List.getElem?_map,hv];rfl
 have hvne:=ne_of_get hvi
 have hvn:=hrng v (List.mem_of_getElem? hv)
 have w1:=IntWalk.i64_in ((i : Int)+1) (by omega)
 obtain ⟨r1,hr1⟩ : ∃ r1,d.decs.fdiv (2 ^ (min ((i : Int)).toNat IntKind.u8.bits))=r1:=⟨_,rfl⟩
 obtain ⟨r2,hr2⟩ : ∃ r2,IntKind.u8.wrap (((BitVec.ofInt IntKind.u8.bits r1 &&& BitVec.ofInt IntKind.u8.bits 1).toNat : Nat) : Int)=r2:=⟨_,rfl⟩
 have s1 : ∀ t o1 o2,binA Try.prog .shr t o1 o2 (.lit (.int .u8 d.decs)) (.lit (.int .i64 (i : Int)))=some (.lit (.int .u8 r1)):=fun t o1 o2=>by rw [bin_shr (by omega),hr1]
 have s2 : ∀ t o1 o2,binA Try.prog .and t o1 o2 (.lit (.int .u8 r1)) (.lit (.int .u8 1))=some (.lit (.int .u8 r2)):=fun t o1 o2=>by rw [bin_and,hr2]
 by_cases hrz : r2=0
 ·simp only [go_sem,Nat.reduceEqDiff,Nat.reducePow,Nat.reduceDiv,Nat.reduceMod,e1,e2,e3,e4,e5,e6,e7,e8,natl,hb,h3',l0,hvi,hvne,s1,s2,hrz,w1,appendA_U]
  exact ⟨hnx,⟨i+1,known,decs,os,ms,rfl,by omega,rfl,rfl,L.skip,hnx,hold,hN,hB1⟩,by rw [h8];simp only [lin,iv_int];omega⟩
 obtain ⟨x,hx⟩:=get_of_lt (l:=ns) (i:=v) hvn
 have hdv:=(L.step hTR (by omega) h3 hv hx (s:=0) (fun i hi=>by simp at hi)).1
 have hmx : ms[v]?=some x:=by rw [L.old v hdv];exact hx
 have hxp:=hpr x (List.mem_of_getElem? hx)
 have hmp : ∀ y∈ms,(y.parents.length : Int)<2 ^ 39∧∀ q∈y.parents,0≤q∧q<64:=fun y hy=>by
  obtain ⟨u,hu⟩:=List.mem_iff_getElem?.1 hy
  cases hbu : decs.testBit u with
  | false =>
   rw [L.old u hbu] at hu
   obtain ⟨q1,q2⟩:=hpr y (List.mem_of_getElem? hu)
   exact ⟨q1,fun q hq=>by have:=q2 q hq;omega⟩
  | true =>
   obtain ⟨_,s,j,e,_⟩:=L.dec u y hu hbu
   rw [e]
   refine ⟨by have:=bitsL_len s 8;omega,fun q hq=>?_⟩
   obtain ⟨z,rfl,hz,_⟩:=mem_bitsL.1 hq
   omega
 have hset : ((setsL ms).map bitV)[v]?=some (bitV (setN x.parents)):=by rw [List.getElem?_map,setsL_get hmx];rfl
 have hsne:=ne_of_get hset
 have hmn : (setsL ms).length=ns.length:=by rw [← hml];simp [setsL]
 simp only [go_sem,Nat.reduceEqDiff,Nat.reducePow,Nat.reduceDiv,Nat.reduceMod,Nat.reduceAdd,e1,e2,e3,e4,e5,e6,e7,e8,natl,hb,h3',l0,lB,hvi,hvne,s1,s2,hrz,appendA_U]
 refine AApply.clo ((ACall.frame (H:=Hx) (args:=[.agg [lin g,.own N 0 0 ns.length 3]]) (args':=[netV g ms]) (v':=vecB (setsL ms)) G0_ok rfl (fun i hi _=>?_) (parentSets_own g ms (by omega) hmp noH _ fun v H' _ ho=>⟨_,rfl,freshB ho⟩)).mono fun rr Hz hrr=>?_)
 ·match i,hi with
  | 0,_=>rw [← hml];exact fzNet hN
 obtain ⟨rfl,rfl⟩:=hrr
 refine ⟨trivial,?_⟩
 have hvI : (v : Int)<ns.length:=by omega
 simp only [go_sem,Nat.reduceEqDiff,e1,e2,e3,e4,e5,e6,e7,e8,hset,hsne,hmn,hvI,appendA_U]
 have xs64 : setN x.parents<2 ^ 64:=nat5 (setN_lt hxp.2)
 refine W.loop0 9444732684264313719808 (by rfl) (fun ρ2 Hq=>Hq=Hz∧∃ k s : Nat,ρ2 11=lin k∧k≤x.parents.length∧ρ2 10=bitV s∧Sub s (setN x.parents)∧s<2 ^ 64) (fun ρ2 H=>x.parents.length - (iv (ρ2 11)).toNat) ?_ ?_
 ·simp only [go_sem,Nat.reduceEqDiff,Nat.reducePow,appendA_U]
  exact ⟨0,_,rfl,by omega,rfl,.refl _,xs64⟩
 rintro ρ2 Hq ⟨rfl,k,s,h11,hk,h10,hs,hs64⟩
 refine W.env fun E2 hE2=>?_
 have f1 : E2 1=.ptr H.next 0 0:=by rw [hE2];simp only [go_sem,Nat.reduceEqDiff,Nat.reducePow,Nat.reduceDiv,Nat.reduceMod,reduceCtorEq,e1,appendA_U]
 have f2 : E2 2=.ptr (H.next+1) 0 0:=by rw [hE2];simp only [go_sem,Nat.reduceEqDiff,Nat.reducePow,Nat.reduceDiv,Nat.reduceMod,reduceCtorEq,e2,appendA_U]
 have f3 : E2 3=.ptr B 0 0:=by rw [hE2];simp only [go_sem,Nat.reduceEqDiff,Nat.reducePow,Nat.reduceDiv,Nat.reduceMod,reduceCtorEq,e3,appendA_U]
 have f4 : E2 4=.ptr (B+1) 0 0:=by rw [hE2];simp only [go_sem,Nat.reduceEqDiff,Nat.reducePow,Nat.reduceDiv,Nat.reduceMod,reduceCtorEq,e4,appendA_U]
 have f5 : E2 5=vecI (natsI r):=by rw [hE2];simp only [go_sem,Nat.reduceEqDiff,Nat.reducePow,Nat.reduceDiv,Nat.reduceMod,reduceCtorEq,e5,appendA_U]
 have f6 : E2 6=bitV known:=by rw [hE2];simp only [go_sem,Nat.reduceEqDiff,Nat.reducePow,Nat.reduceDiv,Nat.reduceMod,reduceCtorEq,e6,appendA_U]
 have f7 : E2 7=lin os.length:=by rw [hE2];simp only [go_sem,Nat.reduceEqDiff,Nat.reducePow,Nat.reduceDiv,Nat.reduceMod,reduceCtorEq,e7,appendA_U]
 have f8 : E2 8=lin i:=by rw [hE2];simp only [go_sem,Nat.reduceEqDiff,Nat.reducePow,Nat.reduceDiv,Nat.reduceMod,reduceCtorEq,e8,appendA_U]
 have f9 : E2 9=lin v:=by rw [hE2];simp only [go_sem,Nat.reduceEqDiff,Nat.reducePow,Nat.reduceDiv,Nat.reduceMod,reduceCtorEq,appendA_U]
 have f10 : E2 10=bitV s:=by rw [hE2];simp only [go_sem,Nat.reduceEqDiff,Nat.reducePow,Nat.reduceDiv,Nat.reduceMod,h10,appendA_U]
 have f11 : E2 11=lin k:=by rw [hE2];simp only [go_sem,Nat.reduceEqDiff,Nat.reducePow,Nat.reduceDiv,Nat.reduceMod,h11,appendA_U]
 clear hE2
 refine vc_sound _ _ _ (by rfl) ?_
 have nne:=nodesE_ne hmx
 have nlen:=nodesE_len ms
 have n1v:=nodesE_1 hmx
 by_cases hb2 : (k : Int)<x.parents.length
 ·obtain ⟨q,hq⟩:=get_of_lt (l:=x.parents) (i:=k) (by omega)
  have hqr:=hxp.2 q (List.mem_of_getElem? hq)
  obtain ⟨u,rfl⟩:=Int.eq_ofNat_of_zero_le hqr.1
  have hqne:=ne_of_get hq
  have w2:=IntWalk.i64_in ((k : Int)+1) (by omega)
  by_cases hk2 : (k : Int) ≥ 2
  ·have s3:=fun t x y=>shlB (P:=Try.prog) (t:=t) (x:=x) (y:=y) (k':=.i64) (s:=u) (by omega)
   have s4:=fun t x y=>subB (P:=Try.prog) (t:=t) (x:=x) (y:=y) (a:=s) (b:=2 ^ u)
   simp only [go_sem,Nat.reduceEqDiff,Nat.reducePow,Nat.reduceDiv,Nat.reduceMod,f1,f3,f4,f5,f6,f7,f8,f9,f10,f11,lB1,lN,nne,n1v,hvI,hml,nlen,hb2,hk2,hq,hqne,w2,s3,s4,appendA_U]
   exact ⟨⟨k+1,subN s (2 ^ u),rfl,by omega,rfl,fun i hi=>by rw [subN_bit hs64,Bool.and_eq_true] at hi;exact hs i hi.1,subN_lt _ _⟩,by rw [h11];simp only [lin,iv_int];omega⟩
  ·simp only [go_sem,Nat.reduceEqDiff,Nat.reducePow,Nat.reduceDiv,Nat.reduceMod,f1,f3,f4,f5,f6,f7,f8,f9,f10,f11,lB1,lN,nne,n1v,hvI,hml,nlen,hb2,hk2,w2,appendA_U]
   exact ⟨⟨k+1,s,rfl,by omega,rfl,hs,hs64⟩,by rw [h11];simp only [lin,iv_int];omega⟩
 ·obtain ⟨s',hs'⟩ : ∃ s',s'=(if d.rem then s ||| known else s):=⟨_,rfl⟩
  have hsv:=L.step hTR (by omega) h3 hv hx hs
  rw [← hs'] at hsv
  obtain ⟨_,_,hslt,L2⟩:=hsv
  have s64:=nat5 hslt
  have b2v : (2 : Nat) ^ v<2 ^ 64:=Nat.pow_lt_pow_right (by decide) (by omega)
  have o1':=fun t x y=>orB (P:=Try.prog) (t:=t) (x:=x) (y:=y) hd64 b2v
  have o2':=fun t x y=>orB (P:=Try.prog) (t:=t) (x:=x) (y:=y) hk64 s64
  have o3':=fun t x y=>orB (P:=Try.prog) (t:=t) (x:=x) (y:=y) (Nat.or_lt_two_pow hk64 s64) b2v
  have o4':=fun t x y=>orB (P:=Try.prog) (t:=t) (x:=x) (y:=y) hs64 hk64
  have s6:=fun t x y=>shlB (P:=Try.prog) (t:=t) (x:=x) (y:=y) (k':=.i64) (s:=v) (by omega)
  have w3:=IntWalk.i64_in ((os.length : Int)+1) (by omega)
  have nse:=nodesE_two (bitsL s' 8) hmx
  have gone : ∀ b,(Hq.upd N b).live (B+1) 0=some (39,[.lit (.int .i64 g),.own N 0 0 ns.length 3,.lit (.int .u64 (decs : Int)),.lit (.slice none 0 0)]):=fun b=>(live_upd_other (by omega)).trans lB1
  have st1 : ∀ a,setAt (nodesE ms) (v*3+1) [a]=(nodesE ms).set (v*3+1) a:=fun a=>setAt_one (by omega)
  have st2 : ∀ a b,setAt ((nodesE ms).set (v*3+1) a) (v*3+2) [b]=((nodesE ms).set (v*3+1) a).set (v*3+2) b:=fun a b=>setAt_one (by rw [List.length_set];omega)
  have gone2 : ∀ b b',((Hq.upd N b).upd N b').live (B+1) 0=some (39,[.lit (.int .i64 g),.own N 0 0 ns.length 3,.lit (.int .u64 (decs : Int)),.lit (.slice none 0 0)]):=fun b b'=>(live_upd_other (by omega)).trans (gone b)
  simp only [vecI] at nse
  cases hrem : d.rem
  ·have es : s'=s:=by rw [hs',hrem];rfl
   subst es
   simp only [go_sem,Nat.reduceEqDiff,Nat.reducePow,Nat.reduceDiv,Nat.reduceMod,f1,f3,f4,f5,f6,f7,f8,f9,f10,f11,lB1,lN,nne,n1v,hvI,hml,nlen,hb2,l0,hrem,appendA_U]
   refine W.draw 5 [0,1,0,0,8] Try.mixed (by kernel_rfl) (by kernel_rfl) ?_
   simp only [go_sem,Nat.reduceEqDiff,Nat.reducePow,Nat.reduceDiv,Nat.reduceMod,Nat.reduceAdd,reduceCtorEq,f1,f3,f4,f5,f6,f7,f8,f9,f10,lB1,lN,nne,n1v,hvI,hml,nlen,gone,st1,st2,nse,appendA_U]
   refine ⟨vecI (bitsL s' 8),[],PCall.pure fun H2=>list20_spec s' s64 H2 _ ⟨rfl,rfl⟩,?_⟩
   simp only [go_sem,f1,f3,f4,f5,f6,f7,f8,f9,f10,lB1,lN,nne,n1v,hvI,hml,nlen,gone,st1,st2,nse,List.length_set,appendA_U]
   refine ⟨by omega,by omega,?_⟩
   refine W.draw 4 [0,1,0,4] Try.mixed (by kernel_rfl) (by kernel_rfl) ?_
   simp only [go_sem,Nat.reduceEqDiff,Nat.reducePow,Nat.reduceDiv,Nat.reduceMod,Nat.reduceAdd,Nat.reduceLeDiff,reduceCtorEq,f1,f3,f4,f5,f6,f7,f8,f9,f10,lB1,lN,nne,n1v,hvI,hml,nlen,gone2,s6,o1',o2',o3',w1,w3,appendA_U]
   refine ⟨by simp only [upd_next];omega,⟨i+1,known ||| s' ||| 2 ^ v,decs ||| 2 ^ v,os++[v],_,rfl,by omega,rfl,by simp,hrem ▸ L2,by simp only [upd_next];omega,fun id h1 h2 h3=>by simp only [upd_get];rw [if_neg h3,if_neg h2,if_neg h2];exact hold id h1 h2 h3,by rw [upd_get,if_neg (by omega),upd_get,if_pos rfl],by rw [upd_get,if_pos rfl]⟩,by rw [h8];simp only [lin,iv_int];omega⟩
  ·have es : s ||| known=s':=by rw [hs',hrem];rfl
   rw [es] at o4'
   simp only [go_sem,Nat.reduceEqDiff,Nat.reducePow,Nat.reduceDiv,Nat.reduceMod,f1,f3,f4,f5,f6,f7,f8,f9,f10,f11,lB1,lN,nne,n1v,hvI,hml,nlen,hb2,l0,hrem,o4',appendA_U]
   refine W.draw 5 [0,1,0,0,8] Try.mixed (by kernel_rfl) (by kernel_rfl) ?_
   simp only [go_sem,Nat.reduceEqDiff,Nat.reducePow,Nat.reduceDiv,Nat.reduceMod,Nat.reduceAdd,reduceCtorEq,f1,f3,f4,f5,f6,f7,f8,f9,f10,lB1,lN,nne,n1v,hvI,hml,nlen,gone,st1,st2,nse,appendA_U]
   refine ⟨vecI (bitsL s' 8),[],PCall.pure fun H2=>list20_spec s' s64 H2 _ ⟨rfl,rfl⟩,?_⟩
   simp only [go_sem,f1,f3,f4,f5,f6,f7,f8,f9,f10,lB1,lN,nne,n1v,hvI,hml,nlen,gone,st1,st2,nse,List.length_set,appendA_U]
   refine ⟨by omega,by omega,?_⟩
   refine W.draw 4 [0,1,0,4] Try.mixed (by kernel_rfl) (by kernel_rfl) ?_
   simp only [go_sem,Nat.reduceEqDiff,Nat.reducePow,Nat.reduceDiv,Nat.reduceMod,Nat.reduceAdd,Nat.reduceLeDiff,reduceCtorEq,f1,f3,f4,f5,f6,f7,f8,f9,f10,lB1,lN,nne,n1v,hvI,hml,nlen,gone2,s6,o1',o2',o3',w1,w3,appendA_U]
   refine ⟨by simp only [upd_next];omega,⟨i+1,known ||| s' ||| 2 ^ v,decs ||| 2 ^ v,os++[v],_,rfl,by omega,rfl,by simp,hrem ▸ L2,by simp only [upd_next];omega,fun id h1 h2 h3=>by simp only [upd_get];rw [if_neg h3,if_neg h2,if_neg h2];exact hold id h1 h2 h3,by rw [upd_get,if_neg (by omega),upd_get,if_pos rfl],by rw [upd_get,if_pos rfl]⟩,by rw [h8];simp only [lin,iv_int];omega⟩
end Go.Proofs
/-
  What the laws of this chapter have in common at their doors: the parameters. No conditions.
-/
set_option linter.unusedSimpArgs false
set_option maxRecDepth 100000
namespace Go.Proofs.Ytcccmbeolcjacaa
open Go.ChangeShapes Go.WideShapes Go.ChangeAt Go.RowKit Go.Hx

theorem Try.own : ownKnob Try.prog.godebug=none:=by kernel_rfl
theorem Try.laidOut : laidOutB Try.prog=true:=by kernel_rfl
theorem Try.boolT : Try.prog.underlying 4=some .bool:=by kernel_rfl
section
variable {W : World} {H : Type} {enc : TypeId × Value→H} {spare : Nat→Bool} {held : Bool}
theorem max63 {n : Nat} (h : n≤maxLen) : (n : Int)<2 ^ 63:=by
 have : maxLen=9223372036854775807:=by decide
 omega
theorem wfU {n : Int} (h : (Lit.int .u8 n).wf=true) : U8 n:=by
 have:=wf_u8 h
 unfold U8;omega
theorem wfU16 {n : Int} (h : (Lit.int .u16 n).wf=true) : 0≤n∧n<65536:=by
 have : 0≤n∧n≤65535:=by simpa [Lit.wf,IntKind.min,IntKind.max,IntKind.signed,IntKind.bits] using h
 omega
theorem opens_DrP : Opens enc Try.prog W spare held 142 fun _ zs=>∃ x : DrP,zs=x.cells∧x.Ok:=by
 have hu:=Try.underlying142
 have c1:=Try.cells5
 have c2:=Try.cells23
 refine (opens_struct (φ:=fun i _ xs=>if i=2 then ∃ l : List Int,xs=[.vec l.length (intL .u8 l)]∧l.length≤maxLen∧∀ c,c∈l→(Lit.int .u8 c).wf=true else ∃ n,xs=[.lit (.int .u8 n)]∧(Lit.int .u8 n).wf=true) hu
  (fun cs hcs=>by
   have hc : Try.prog.cellsOf 142=3:=by kernel_rfl
   rw [hc] at hcs
   match cs,hcs with
   | [a,b,c],_=>simp [c1,c2])
  (fun i hi=>match i,hi with
   | 0,_=>(opens_int Try.underlying5).mono fun _ _ ⟨n,_,h,w⟩=>⟨n,h,w⟩
   | 1,_=>(opens_int Try.underlying5).mono fun _ _ ⟨n,_,h,w⟩=>⟨n,h,w⟩
   | 2,_=>(opens_ints Try.underlying23 Try.underlying5 c1).mono fun _ _ h=>h)).mono fun d zs ⟨ds,rows,_,e,hl1,hl2,hall⟩=>?_
 match rows,ds,hl2,hl1,hall with
 | [x,y,z],[d0,d1,d2],_,_,hall =>
  obtain ⟨n0,e0,w0⟩:=hall 0 (by simp) (by simp)
  obtain ⟨n1,e1,w1⟩:=hall 1 (by simp) (by simp)
  obtain ⟨l,e2,w2,w3⟩:=hall 2 (by simp) (by simp)
  simp only [List.getElem_cons_zero,List.getElem_cons_succ] at e0 e1 e2
  subst e0;subst e1;subst e2
  refine ⟨⟨n0,n1,l⟩,by rw [e];rfl,?_⟩
  exact ⟨wfU w0,wfU w1,max63 w2,fun c hc=>wfU (w3 c hc)⟩
theorem wf_i8 {n : Int} (h : (Lit.int .i8 n).wf=true) : I8 n:=by
 have : -128≤n∧n≤127:=by simpa [Lit.wf,IntKind.min,IntKind.max,IntKind.signed,IntKind.bits] using h
 unfold I8;omega
theorem opens_UtD : Opens enc Try.prog W spare held 103 fun _ zs=>∃ x : UtD,zs=x.cells∧x.Ok:=by
 have hu:=Try.underlying103
 have c1:=Try.cells5
 have c2:=Try.cells101
 have c3:=Try.cells145
 refine (opens_struct (φ:=fun i _ xs=>if i=1 then ∃ l : List Int,xs=[.vec l.length (intL .i8 l)]∧l.length≤maxLen∧∀ c,c∈l→(Lit.int .i8 c).wf=true else ∃ n,xs=[.lit (.int .u8 n)]∧(Lit.int .u8 n).wf=true) hu
  (fun cs hcs=>by
   have hc : Try.prog.cellsOf 103=2:=by kernel_rfl
   rw [hc] at hcs
   match cs,hcs with
   | [a,b],_=>simp [c1,c2])
  (fun i hi=>match i,hi with
   | 0,_=>(opens_int Try.underlying5).mono fun _ _ ⟨n,_,h,w⟩=>⟨n,h,w⟩
   | 1,_=>(opens_ints Try.underlying101 Try.underlying145 c3).mono fun _ _ h=>h)).mono fun d zs ⟨ds,rows,_,e,hl1,hl2,hall⟩=>?_
 match rows,ds,hl2,hl1,hall with
 | [x,y],[d0,d1],_,_,hall =>
  obtain ⟨n0,e0,w0⟩:=hall 0 (by simp) (by simp)
  obtain ⟨l,e2,w2,w3⟩:=hall 1 (by simp) (by simp)
  simp only [List.getElem_cons_zero,List.getElem_cons_succ] at e0 e2
  subst e0;subst e2
  refine ⟨⟨n0,l⟩,by rw [e];rfl,?_⟩
  exact ⟨wfU w0,max63 w2,fun c hc=>wf_i8 (w3 c hc)⟩
/-- A slice of structs. -/
theorem opens_of {α : Type} {t e : TypeId} {f : α→List AVal} {q : α→Prop} (ht : Try.prog.underlying t=some (.slice e)) (hz : 0<Try.prog.cellsOf e) (he : Opens enc Try.prog W spare held e fun _ zs=>∃ x : α,zs=f x∧q x) :
  Opens enc Try.prog W spare held t fun _ zs=>∃ l : List α,zs=[.vec l.length (l.map f).flatten]∧l.length≤maxLen∧∀ x∈l,q x :=
 (opens_slice ht hz he).mono fun d zs h=>by
  rcases h with ⟨_,rfl⟩|⟨ds,rest,rows,_,rfl,hr,_,hl⟩
  ·exact ⟨[],rfl,Nat.zero_le _,fun c h=>by cases h⟩
  ·obtain ⟨l,rfl,hq⟩:=rows_each (f:=f) (q:=q) (fun d zs h=>h) hr
   exact ⟨l,by rw [List.length_map],by simpa using hl,hq⟩
theorem opens_D05 : Opens enc Try.prog W spare held 25 fun _ zs=>∃ (g : Int) (ps : List DrP) (ord : List Int),zs=[.lit (.int .u8 g),.vec ps.length (drC ps),.vec ord.length (bytesL ord)]∧U8 g∧(∀ x∈ps,x.Ok)∧(ps.length : Int)<2 ^ 63∧(ord.length : Int)<2 ^ 63∧∀ x∈ord,U8 x:=by
 have hu:=Try.underlying25
 have c1:=Try.cells5
 have c2:=Try.cells23
 have c3:=Try.cells22
 have c4:=Try.cells142
 refine (opens_struct (φ:=fun i _ xs=>if i=2 then ∃ l : List Int,xs=[.vec l.length (intL .u8 l)]∧l.length≤maxLen∧∀ c,c∈l→(Lit.int .u8 c).wf=true else if i=1 then ∃ l : List DrP,xs=[.vec l.length (l.map DrP.cells).flatten]∧l.length≤maxLen∧∀ x∈l,x.Ok else ∃ n,xs=[.lit (.int .u8 n)]∧(Lit.int .u8 n).wf=true) hu
  (fun cs hcs=>by
   have hc : Try.prog.cellsOf 25=3:=by kernel_rfl
   rw [hc] at hcs
   match cs,hcs with
   | [a,b,c],_=>simp [c1,c2,c3])
  (fun i hi=>match i,hi with
   | 0,_=>(opens_int Try.underlying5).mono fun _ _ ⟨n,_,h,w⟩=>⟨n,h,w⟩
   | 1,_=>(opens_of Try.underlying22 (by rw [c4];decide) opens_DrP).mono fun _ _ h=>h
   | 2,_=>(opens_ints Try.underlying23 Try.underlying5 c1).mono fun _ _ h=>h)).mono fun d zs ⟨ds,rows,_,e,hl1,hl2,hall⟩=>?_
 match rows,ds,hl2,hl1,hall with
 | [x,y,z],[d0,d1,d2],_,_,hall =>
  obtain ⟨n0,e0,w0⟩:=hall 0 (by simp) (by simp)
  obtain ⟨ps,e1,w1,w1'⟩:=hall 1 (by simp) (by simp)
  obtain ⟨l,e2,w2,w3⟩:=hall 2 (by simp) (by simp)
  simp only [List.getElem_cons_zero,List.getElem_cons_succ] at e0 e1 e2
  subst e0;subst e1;subst e2
  exact ⟨n0,ps,l,by rw [e];rfl,wfU w0,w1',max63 w1,max63 w2,fun c hc=>wfU (w3 c hc)⟩
theorem opens_D20 : Opens enc Try.prog W spare held 28 fun _ zs=>∃ d : D20,zs=d.cells∧d.Ok:=by
 have hu:=Try.underlying28
 have c1:=Try.cells5
 have c2:=Try.cells4
 have c3:=Try.cells25
 have c4:=Try.cells26
 have c5:=Try.cells103
 refine (opens_struct (φ:=fun i _ xs=>if i=0 then ∃ (g : Int) (ps : List DrP) (ord : List Int),xs=[.lit (.int .u8 g),.vec ps.length (drC ps),.vec ord.length (bytesL ord)]∧U8 g∧(∀ x∈ps,x.Ok)∧(ps.length : Int)<2 ^ 63∧(ord.length : Int)<2 ^ 63∧∀ x∈ord,U8 x
   else if i=1 then ∃ n,xs=[.lit (.int .u8 n)]∧(Lit.int .u8 n).wf=true else if i=2 then ∃ b,xs=[.lit (.bool b)] else ∃ l : List UtD,xs=[.vec l.length (l.map UtD.cells).flatten]∧l.length≤maxLen∧∀ x∈l,x.Ok) hu
  (fun cs hcs=>by
   have hc : Try.prog.cellsOf 28=6:=by kernel_rfl
   rw [hc] at hcs
   match cs,hcs with
   | [a,b,c,d,e,f],_=>simp [c1,c2,c3,c4])
  (fun i hi=>match i,hi with
   | 0,_=>opens_D05.mono fun _ _ h=>h
   | 1,_=>(opens_int Try.underlying5).mono fun _ _ ⟨n,_,h,w⟩=>⟨n,h,w⟩
   | 2,_=>(opens_bool Try.underlying4).mono fun _ _ ⟨n,_,h⟩=>⟨n,h⟩
   | 3,_=>(opens_of Try.underlying26 (by rw [c5];decide) opens_UtD).mono fun _ _ h=>h)).mono fun d zs ⟨ds,rows,_,e,hl1,hl2,hall⟩=>?_
 match rows,ds,hl2,hl1,hall with
 | [x,y,z,u],[d0,d1,d2,d3],_,_,hall =>
  obtain ⟨g,ps,ord,e0,w0,w0',w0'',w0''',w04⟩:=hall 0 (by simp) (by simp)
  obtain ⟨n1,e1,w1⟩:=hall 1 (by simp) (by simp)
  obtain ⟨b,e2⟩:=hall 2 (by simp) (by simp)
  obtain ⟨us,e3,w3,w3'⟩:=hall 3 (by simp) (by simp)
  simp only [List.getElem_cons_zero,List.getElem_cons_succ] at e0 e1 e2 e3
  subst e0;subst e1;subst e2;subst e3
  exact ⟨⟨g,ps,ord,n1,b,us⟩,by rw [e];rfl,⟨w0,w0',w0'',w0''',w04,wfU w1,w3',max63 w3⟩⟩
theorem arg_d20 {r : Reach} {b : Nat} {v : Value} {d : DataW H} {ps : List MemPlace} (hval : Value.okWide Try.prog W r b 28 v) (hd : DataW.Trod enc Try.prog W 0 spare held 28 v d ps) :
  ∃ x : D20,RelV Try.prog noG noH W (.agg x.cells) v∧x.Ok:=by
 obtain ⟨xs,h1,x,rfl,h2⟩:=arg_agg opens_D20 (.inl ⟨_,Try.underlying28⟩) hval hd
 exact ⟨x,h1,h2⟩
end
end Go.Proofs.Ytcccmbeolcjacaa
set_option linter.unusedSimpArgs false
set_option maxRecDepth 100000
namespace Go.Hx
variable {P : Program} {G : Nat→Option (List AVal)}
theorem OwnG2.upd {lo : Nat} {H : AHeap} {e1 e0 : TypeId} {v : AVal} {rows : List (List AVal)} (h : OwnG2 lo H e1 e0 v rows) {k : Nat} {b : Blk} (hk : k<lo) : OwnG2 lo (H.upd k b) e1 e0 v rows:=by
 obtain ⟨cs,c1,c2,c3⟩:=h
 refine ⟨cs,c1.keep (Nat.le_refl _) (by rw [upd_next];exact Nat.le_refl _) fun id _ h1 _ _ _=>by rw [upd_get,if_neg (by omega)],c2,fun j r c hr hc=>(c3 j r c hr hc).keep (Nat.le_refl _) (by rw [upd_next];exact Nat.le_refl _) fun id _ h1 _ _ _=>by rw [upd_get,if_neg (by omega)]⟩
end Go.Hx
namespace Go.Proofs
open Go.Hx
end Go.Proofs
set_option linter.unusedSimpArgs false
set_option maxRecDepth 100000
namespace Go.Proofs
open Go.Hx
theorem prodL_sub {cs : List Int} (hc : ∀ c∈cs,1≤c) : ∀ (k : Nat) (ps : List Int),k≤cs.length→ps.Pairwise (·<·)→(∀ p∈ps,0≤p∧p<k)→prodL (atL cs ps)≤prodL (cs.take k):=by
 intro k
 induction k with
 | zero =>
  intro ps _ _ h
  cases ps with
  | nil=>exact Int.le_refl _
  | cons p ps=>have:=h p (by simp);omega
 | succ k ih =>
  intro ps hk hw h
  obtain ⟨c,hck⟩:=get_of_lt (l:=cs) (i:=k) (by omega)
  have c1:=hc c (List.mem_of_getElem? hck)
  rw [take_succ_get hck,prodL_snoc]
  have hp:=prodL_pos (l:=cs.take k) fun c h=>hc c (List.mem_of_mem_take h)
  rcases List.eq_nil_or_concat ps with rfl|⟨qs,q,rfl⟩
  ·show 1≤_
   have:=Int.mul_le_mul hp c1 (by omega) (by omega)
   omega
  ·rw [List.concat_eq_append] at hw h ⊢
   have hq:=h q (by simp)
   obtain ⟨w1,_,w3⟩:=List.pairwise_append.1 hw
   have hqs : ∀ p∈qs,0≤p∧p<q:=fun p hp=>⟨(h p (by simp [hp])).1,w3 p hp q (by simp)⟩
   by_cases hqk : q=k
   ·have h1:=ih qs (by omega) w1 fun p hp=>by have:=hqs p hp;omega
    unfold atL at h1 ⊢
    rw [List.map_append,prodL_app]
    have e : prodL (List.map (fun p=>cs.getD p.toNat 0) [q])=c:=by
     rw [hqk]
     simp only [List.map_cons,List.map_nil,Int.toNat_natCast,getD_of_get hck,prodL_cons,prodL_nil,Int.mul_one]
    rw [e]
    exact Int.mul_le_mul_of_nonneg_right h1 (by omega)
   ·have h1:=ih (qs++[q]) (by omega) hw fun p hp=>by
     rcases List.mem_append.1 hp with h'|h'
     ·have:=hqs p h';omega
     ·obtain rfl:=List.mem_singleton.1 h';omega
    have h2 : prodL (cs.take k)*1≤prodL (cs.take k)*c:=Int.mul_le_mul_of_nonneg_left c1 (by omega)
    omega
theorem parC_le {ns : List NodeP} {x : NodeP} (hp : PlacesOk x.parents ns.length) (hc : ∀ y∈ns,1≤y.card∧y.card≤4) : prodL (parC ns x)≤prodL (cardsL ns):=by
 have h:=prodL_sub (cs:=cardsL ns) (fun c h=>by
  obtain ⟨y,hy,rfl⟩:=List.mem_map.1 h
  exact (hc y hy).1) ns.length x.parents (by rw [cards_len];exact Nat.le_refl _) hp.1 hp.2
 rw [List.take_of_length_le (by rw [cards_len];exact Nat.le_refl _)] at h
 exact h
def rcN (d : InfP) (v : Nat) : Int × Int:=match d.nodes[v]? with
 | some x=>(rowsN d.nodes x,x.card)
 | none=>(0,0)
def rcL (d : InfP) : List (Int × Int):=(decL d).map (rcN d)
theorem rcN_rng {d : InfP} (h : InfOk d) {v : Nat} (hv : v<d.nodes.length) (hb : d.decs.testBit v=true) : 1≤(rcN d v).1∧(rcN d v).1≤1024∧1≤(rcN d v).2∧(rcN d v).2≤4:=by
 obtain ⟨x,hx⟩:=get_of_lt hv
 obtain ⟨x1,x2⟩:=h.n.dec v x hx hb
 have hc:=h.n.card x (List.mem_of_getElem? hx)
 have hsz:=h.net.size
 rw [fillL_card] at hsz
 have hle:=parC_le x2 h.n.card
 have hps:=prodL_pos (l:=parC d.nodes x) fun c hc=>(parC_mem (fun q hq=>by have:=x2.2 q hq;omega) h.n.card c hc).1
 unfold rcN
 rw [hx]
 show 1≤((rowsN d.nodes x : Nat) : Int)∧((rowsN d.nodes x : Nat) : Int)≤1024∧1≤x.card∧x.card≤4
 unfold rowsN
 omega

end Go.Proofs
set_option linter.unusedSimpArgs false
set_option maxRecDepth 100000
namespace Go.Proofs
open Go.Hx
/-- Lists of choices, as many and as great as they may be. -/
def RowsFit (l : List (Int × Int)) (ps : List (List Int)) : Prop:=ps.length=l.length∧∀ (k : Nat) (p : Int × Int) (r : List Int),l[k]?=some p→ps[k]?=some r→(r.length : Int)=p.1∧∀ a∈r,0≤a∧a<p.2
theorem polOk_rows {d : InfP} {p : List (List Int)} : PolOk d p↔RowsFit (rcL d) p:=by
 have hg : ∀ (k v : Nat) (x : NodeP),(decL d)[k]?=some v→d.nodes[v]?=some x→(rcL d)[k]?=some ((rowsN d.nodes x : Int),x.card):=fun k v x hv hx=>by
  unfold rcL
  rw [List.getElem?_map,hv,Option.map_some]
  unfold rcN
  rw [hx]
 constructor
 ·intro h
  refine ⟨by rw [h.len];simp [rcL],fun k q r hq hr=>?_⟩
  obtain ⟨v,hv⟩:=get_of_lt (l:=decL d) (i:=k) (by have:=get_lt hr;rw [h.len] at this;exact this)
  obtain ⟨v1,_⟩:=decK_place hv
  obtain ⟨x,hx⟩:=get_of_lt v1
  rw [hg k v x hv hx] at hq
  cases hq
  obtain ⟨a,b⟩:=h.row k v x r hv hx hr
  exact ⟨by rw [a],b⟩
 ·intro h
  refine ⟨by rw [h.1];simp [rcL],fun k v x l hv hx hl=>?_⟩
  obtain ⟨a,b⟩:=h.2 k _ l (hg k v x hv hx) hl
  exact ⟨by simp only at a;omega,b⟩

end Go.Proofs
set_option linter.unusedSimpArgs false
set_option maxRecDepth 100000
namespace Go.Hx
open Go.Proofs.R01 (pureRun_bind)
variable {P : Program} {t e : TypeId} {x y : Operand} {k k' : IntKind} {a b c d : Int}
end Go.Hx
namespace Go.Proofs
open Go.Hx
end Go.Proofs
/-
  Calls of this seat's program, reckoned out by the evaluator: what each of them gives. Laid by a program of ours.
-/
namespace Go.Proofs
open Go.Hx
set_option maxRecDepth 100000
theorem Try.mixedK : Try.prog.follows .mixedOrders=true:=by kernel_rfl
noncomputable def Try.ep0 : EP:={ P:=Try.prog,G:=noGl,gd:=fun _=>none,known:=knownOf [] }
theorem Try.ep0_ok : EOk Try.ep0:=.of_known (l:=[]) rfl noGl_ok Try.mixedK (fun _ _ h=>by cases h) trivial
def Try.ka11_0 : List AVal:=[.agg [.lit (.int .i64 1),.vec 6 [.lit (.int .i64 2),.lit (.slice none 0 0),.vec 1 [.vec 2 [.lit (.int .i64 1),.lit (.int .i64 0)]],.lit (.int .i64 2),.lit (.slice none 0 0),.vec 1 [.vec 2 [.lit (.int .i64 1),.lit (.int .i64 0)]],.lit (.int .i64 2),.lit (.slice none 0 0),.vec 1 [.vec 2 [.lit (.int .i64 1),.lit (.int .i64 0)]],.lit (.int .i64 2),.vec 3 [.lit (.int .i64 0),.lit (.int .i64 1),.lit (.int .i64 2)],.lit (.slice none 0 0),.lit (.int .i64 2),.vec 1 [.lit (.int .i64 0)],.lit (.slice none 0 0),.lit (.int .i64 2),.vec 1 [.lit (.int .i64 1)],.lit (.slice none 0 0)],.lit (.int .u64 56),.lit (.slice none 0 0)]]
def Try.kv11_0 : AVal:=.lit (.int .i64 0)
theorem Try.kc11_0 : chk Try.ep0 1000000 11 Try.ka11_0 Try.kv11_0=true:=by kernel_rfl
def Try.ka11_1 : List AVal:=[.agg [.lit (.int .i64 1),.vec 7 [.lit (.int .i64 2),.lit (.slice none 0 0),.vec 1 [.vec 2 [.lit (.int .i64 1),.lit (.int .i64 0)]],.lit (.int .i64 2),.lit (.slice none 0 0),.vec 1 [.vec 2 [.lit (.int .i64 1),.lit (.int .i64 0)]],.lit (.int .i64 2),.lit (.slice none 0 0),.vec 1 [.vec 2 [.lit (.int .i64 1),.lit (.int .i64 0)]],.lit (.int .i64 2),.vec 3 [.lit (.int .i64 0),.lit (.int .i64 1),.lit (.int .i64 2)],.lit (.slice none 0 0),.lit (.int .i64 2),.vec 1 [.lit (.int .i64 0)],.lit (.slice none 0 0),.lit (.int .i64 2),.vec 1 [.lit (.int .i64 1)],.lit (.slice none 0 0),.lit (.int .i64 2),.lit (.slice none 0 0),.lit (.slice none 0 0)],.lit (.int .u64 120),.lit (.slice none 0 0)]]
def Try.kv11_1 : AVal:=.lit (.int .i64 0)
theorem Try.kc11_1 : chk Try.ep0 1000000 11 Try.ka11_1 Try.kv11_1=true:=by kernel_rfl
def Try.ka11_2 : List AVal:=[.agg [.lit (.int .i64 60),.vec 1 [.lit (.int .i64 1),.lit (.slice none 0 0),.vec 1 [.vec 1 [.lit (.int .i64 60)]]],.lit (.int .u64 0),.lit (.slice none 0 0)]]
def Try.kv11_2 : AVal:=.lit (.int .i64 0)
theorem Try.kc11_2 : chk Try.ep0 1000000 11 Try.ka11_2 Try.kv11_2=true:=by kernel_rfl
def Try.ka11_3 : List AVal:=[.agg [.lit (.int .i64 60),.vec 1 [.lit (.int .i64 1),.lit (.slice none 0 0),.vec 1 [.vec 1 [.lit (.int .i64 60)]]],.lit (.int .u64 0),.vec 4 [.lit (.slice none 0 0),.vec 1 [.lit (.int .i64 100)],.lit (.slice none 0 0),.vec 1 [.lit (.int .i64 100)],.lit (.slice none 0 0),.vec 1 [.lit (.int .i64 100)],.lit (.slice none 0 0),.vec 1 [.lit (.int .i64 100)]]]]
def Try.kv11_3 : AVal:=.lit (.int .i64 0)
theorem Try.kc11_3 : chk Try.ep0 1000000 11 Try.ka11_3 Try.kv11_3=true:=by kernel_rfl
def Try.ka11_4 : List AVal:=[.agg [.lit (.int .i64 0),.lit (.slice none 0 0),.lit (.int .u64 0),.lit (.slice none 0 0)]]
def Try.kv11_4 : AVal:=.lit (.int .i64 200)
theorem Try.kc11_4 : chk Try.ep0 1000000 11 Try.ka11_4 Try.kv11_4=true:=by kernel_rfl
def Try.ka11_5 : List AVal:=[.agg [.lit (.int .i64 4),.vec 3 [.lit (.int .i64 2),.lit (.slice none 0 0),.vec 1 [.vec 2 [.lit (.int .i64 1),.lit (.int .i64 3)]],.lit (.int .i64 2),.vec 1 [.lit (.int .i64 0)],.lit (.slice none 0 0),.lit (.int .i64 2),.vec 2 [.lit (.int .i64 0),.lit (.int .i64 1)],.vec 4 [.vec 2 [.lit (.int .i64 4),.lit (.int .i64 0)],.vec 2 [.lit (.int .i64 2),.lit (.int .i64 2)],.vec 2 [.lit (.int .i64 0),.lit (.int .i64 4)],.vec 2 [.lit (.int .i64 1),.lit (.int .i64 3)]]],.lit (.int .u64 2),.vec 1 [.vec 2 [.lit (.int .i64 1),.lit (.int .i64 2)],.vec 4 [.lit (.int .i64 0),.lit (.int .i64 10),.lit (.int .i64 (-2)),.lit (.int .i64 8)]]]]
def Try.kv11_5 : AVal:=.lit (.int .i64 0)
theorem Try.kc11_5 : chk Try.ep0 1000000 11 Try.ka11_5 Try.kv11_5=true:=by kernel_rfl
def Try.ka11_6 : List AVal:=[.agg [.lit (.int .i64 4),.vec 3 [.lit (.int .i64 2),.lit (.slice none 0 0),.vec 1 [.vec 2 [.lit (.int .i64 1),.lit (.int .i64 3)]],.lit (.int .i64 2),.vec 1 [.lit (.int .i64 0)],.vec 2 [.vec 2 [.lit (.int .i64 4),.lit (.int .i64 0)],.vec 2 [.lit (.int .i64 4),.lit (.int .i64 0)]],.lit (.int .i64 2),.vec 2 [.lit (.int .i64 0),.lit (.int .i64 1)],.vec 4 [.vec 2 [.lit (.int .i64 4),.lit (.int .i64 0)],.vec 2 [.lit (.int .i64 2),.lit (.int .i64 2)],.vec 2 [.lit (.int .i64 0),.lit (.int .i64 4)],.vec 2 [.lit (.int .i64 1),.lit (.int .i64 3)]]],.lit (.int .u64 2),.vec 1 [.vec 2 [.lit (.int .i64 1),.lit (.int .i64 2)],.vec 4 [.lit (.int .i64 0),.lit (.int .i64 10),.lit (.int .i64 (-2)),.lit (.int .i64 8)]]]]
def Try.kv11_6 : AVal:=.lit (.int .i64 200)
theorem Try.kc11_6 : chk Try.ep0 1000000 11 Try.ka11_6 Try.kv11_6=true:=by kernel_rfl
def Try.ka11_7 : List AVal:=[.agg [.lit (.int .i64 4),.vec 3 [.lit (.int .i64 2),.lit (.slice none 0 0),.vec 1 [.vec 2 [.lit (.int .i64 1),.lit (.int .i64 3)]],.lit (.int .i64 2),.vec 1 [.lit (.int .i64 0)],.lit (.slice none 0 0),.lit (.int .i64 2),.vec 2 [.lit (.int .i64 0),.lit (.int .i64 1)],.vec 4 [.vec 2 [.lit (.int .i64 4),.lit (.int .i64 0)],.vec 2 [.lit (.int .i64 2),.lit (.int .i64 2)],.vec 2 [.lit (.int .i64 0),.lit (.int .i64 4)],.vec 2 [.lit (.int .i64 1),.lit (.int .i64 3)]]],.lit (.int .u64 2),.vec 1 [.vec 2 [.lit (.int .i64 1),.lit (.int .i64 2)],.vec 3 [.lit (.int .i64 0),.lit (.int .i64 10),.lit (.int .i64 (-2))]]]]
def Try.kv11_7 : AVal:=.lit (.int .i64 200)
theorem Try.kc11_7 : chk Try.ep0 1000000 11 Try.ka11_7 Try.kv11_7=true:=by kernel_rfl
def Try.ka11_8 : List AVal:=[.agg [.lit (.int .i64 4),.vec 3 [.lit (.int .i64 2),.lit (.slice none 0 0),.vec 1 [.vec 2 [.lit (.int .i64 1),.lit (.int .i64 3)]],.lit (.int .i64 2),.vec 1 [.lit (.int .i64 0)],.lit (.slice none 0 0),.lit (.int .i64 2),.vec 2 [.lit (.int .i64 0),.lit (.int .i64 1)],.vec 4 [.vec 2 [.lit (.int .i64 4),.lit (.int .i64 0)],.vec 2 [.lit (.int .i64 2),.lit (.int .i64 2)],.vec 2 [.lit (.int .i64 0),.lit (.int .i64 4)],.vec 2 [.lit (.int .i64 1),.lit (.int .i64 3)]]],.lit (.int .u64 2),.vec 1 [.vec 2 [.lit (.int .i64 1),.lit (.int .i64 2)],.vec 4 [.lit (.int .i64 101),.lit (.int .i64 10),.lit (.int .i64 (-2)),.lit (.int .i64 8)]]]]
def Try.kv11_8 : AVal:=.lit (.int .i64 200)
theorem Try.kc11_8 : chk Try.ep0 1000000 11 Try.ka11_8 Try.kv11_8=true:=by kernel_rfl
def Try.ka11_9 : List AVal:=[.agg [.lit (.int .i64 4),.vec 3 [.lit (.int .i64 2),.lit (.slice none 0 0),.vec 1 [.vec 2 [.lit (.int .i64 1),.lit (.int .i64 3)]],.lit (.int .i64 2),.vec 1 [.lit (.int .i64 0)],.lit (.slice none 0 0),.lit (.int .i64 2),.vec 2 [.lit (.int .i64 0),.lit (.int .i64 1)],.vec 4 [.vec 2 [.lit (.int .i64 4),.lit (.int .i64 0)],.vec 2 [.lit (.int .i64 2),.lit (.int .i64 2)],.vec 2 [.lit (.int .i64 0),.lit (.int .i64 4)],.vec 2 [.lit (.int .i64 1),.lit (.int .i64 3)]]],.lit (.int .u64 2),.vec 1 [.vec 2 [.lit (.int .i64 2),.lit (.int .i64 1)],.vec 4 [.lit (.int .i64 0),.lit (.int .i64 10),.lit (.int .i64 (-2)),.lit (.int .i64 8)]]]]
def Try.kv11_9 : AVal:=.lit (.int .i64 200)
theorem Try.kc11_9 : chk Try.ep0 1000000 11 Try.ka11_9 Try.kv11_9=true:=by kernel_rfl
def Try.ka11_10 : List AVal:=[.agg [.lit (.int .i64 60),.vec 1 [.lit (.int .i64 1),.lit (.slice none 0 0),.vec 1 [.vec 1 [.lit (.int .i64 60)]]],.lit (.int .u64 0),.vec 5 [.lit (.slice none 0 0),.vec 1 [.lit (.int .i64 100)],.lit (.slice none 0 0),.vec 1 [.lit (.int .i64 100)],.lit (.slice none 0 0),.vec 1 [.lit (.int .i64 100)],.lit (.slice none 0 0),.vec 1 [.lit (.int .i64 100)],.lit (.slice none 0 0),.vec 1 [.lit (.int .i64 0)]]]]
def Try.kv11_10 : AVal:=.lit (.int .i64 200)
theorem Try.kc11_10 : chk Try.ep0 1000000 11 Try.ka11_10 Try.kv11_10=true:=by kernel_rfl
def Try.ka11_11 : List AVal:=[.agg [.lit (.int .i64 1),.vec 2 [.lit (.int .i64 2),.vec 1 [.lit (.int .i64 1)],.lit (.slice none 0 0),.lit (.int .i64 2),.vec 1 [.lit (.int .i64 0)],.lit (.slice none 0 0)],.lit (.int .u64 3),.lit (.slice none 0 0)]]
def Try.kv11_11 : AVal:=.lit (.int .i64 200)
theorem Try.kc11_11 : chk Try.ep0 1000000 11 Try.ka11_11 Try.kv11_11=true:=by kernel_rfl
def Try.ka11_12 : List AVal:=[.agg [.lit (.int .i64 1),.vec 1 [.lit (.int .i64 2),.lit (.slice none 0 0),.lit (.slice none 0 0)],.lit (.int .u64 3),.lit (.slice none 0 0)]]
def Try.kv11_12 : AVal:=.lit (.int .i64 200)
theorem Try.kc11_12 : chk Try.ep0 1000000 11 Try.ka11_12 Try.kv11_12=true:=by kernel_rfl
def Try.ka11_13 : List AVal:=[.agg [.lit (.int .i64 61),.vec 1 [.lit (.int .i64 2),.lit (.slice none 0 0),.lit (.slice none 0 0)],.lit (.int .u64 1),.lit (.slice none 0 0)]]
def Try.kv11_13 : AVal:=.lit (.int .i64 200)
theorem Try.kc11_13 : chk Try.ep0 1000000 11 Try.ka11_13 Try.kv11_13=true:=by kernel_rfl
def Try.ka11_14 : List AVal:=[.agg [.lit (.int .i64 1),.vec 1 [.lit (.int .i64 5),.lit (.slice none 0 0),.lit (.slice none 0 0)],.lit (.int .u64 1),.lit (.slice none 0 0)]]
def Try.kv11_14 : AVal:=.lit (.int .i64 200)
theorem Try.kc11_14 : chk Try.ep0 1000000 11 Try.ka11_14 Try.kv11_14=true:=by kernel_rfl
def Try.ka11_15 : List AVal:=[.agg [.lit (.int .i64 1),.vec 1 [.lit (.int .i64 4),.lit (.slice none 0 0),.lit (.slice none 0 0)],.lit (.int .u64 1),.lit (.slice none 0 0)]]
def Try.kv11_15 : AVal:=.lit (.int .i64 0)
theorem Try.kc11_15 : chk Try.ep0 1000000 11 Try.ka11_15 Try.kv11_15=true:=by kernel_rfl
def Try.ka11_16 : List AVal:=[.agg [.lit (.int .i64 1),.vec 1 [.lit (.int .i64 2),.lit (.slice none 0 0),.lit (.slice none 0 0)],.lit (.int .u64 0),.lit (.slice none 0 0)]]
def Try.kv11_16 : AVal:=.lit (.int .i64 200)
theorem Try.kc11_16 : chk Try.ep0 1000000 11 Try.ka11_16 Try.kv11_16=true:=by kernel_rfl
def Try.kn11 : KTab:=[(Try.ka11_0,Try.kv11_0),(Try.ka11_1,Try.kv11_1),(Try.ka11_2,Try.kv11_2),(Try.ka11_3,Try.kv11_3),(Try.ka11_4,Try.kv11_4),(Try.ka11_5,Try.kv11_5),(Try.ka11_6,Try.kv11_6),(Try.ka11_7,Try.kv11_7),(Try.ka11_8,Try.kv11_8),(Try.ka11_9,Try.kv11_9),(Try.ka11_10,Try.kv11_10),(Try.ka11_11,Try.kv11_11),(Try.ka11_12,Try.kv11_12),(Try.ka11_13,Try.kv11_13),(Try.ka11_14,Try.kv11_14),(Try.ka11_15,Try.kv11_15),(Try.ka11_16,Try.kv11_16)]
theorem Try.kn11_ok : KOk Try.prog noGl 11 Try.kn11:=.cons (chk_ok Try.ep0_ok Try.kc11_0) (.cons (chk_ok Try.ep0_ok Try.kc11_1) (.cons (chk_ok Try.ep0_ok Try.kc11_2) (.cons (chk_ok Try.ep0_ok Try.kc11_3) (.cons (chk_ok Try.ep0_ok Try.kc11_4) (.cons (chk_ok Try.ep0_ok Try.kc11_5) (.cons (chk_ok Try.ep0_ok Try.kc11_6) (.cons (chk_ok Try.ep0_ok Try.kc11_7) (.cons (chk_ok Try.ep0_ok Try.kc11_8) (.cons (chk_ok Try.ep0_ok Try.kc11_9) (.cons (chk_ok Try.ep0_ok Try.kc11_10) (.cons (chk_ok Try.ep0_ok Try.kc11_11) (.cons (chk_ok Try.ep0_ok Try.kc11_12) (.cons (chk_ok Try.ep0_ok Try.kc11_13) (.cons (chk_ok Try.ep0_ok Try.kc11_14) (.cons (chk_ok Try.ep0_ok Try.kc11_15) (.cons (chk_ok Try.ep0_ok Try.kc11_16) .nil))))))))))))))))
noncomputable def Try.ep1 : EP:={ P:=Try.prog,G:=noGl,gd:=fun _=>none,known:=knownOf [(11,Try.kn11)] }
theorem Try.ep1_ok : EOk Try.ep1:=.of_known (l:=[(11,Try.kn11)]) rfl noGl_ok Try.mixedK (fun _ _ h=>by cases h) ⟨Try.kn11_ok,trivial⟩
def Try.ka18_0 : List AVal:=[]
def Try.kv18_0 : AVal:=.lit (.bool true)
theorem Try.kc18_0 : chk Try.ep1 1000000 18 Try.ka18_0 Try.kv18_0=true:=by kernel_rfl
theorem works_ok (H : AHeap) (K : ARes→AHeap→Prop) (hK : K (.ret (.lit (.bool true))) H) : ACall Try.prog G0 18 [] H K :=
 (ACall.frame (args':=[]) G0_ok rfl (fun i h _=>absurd h (Nat.not_lt_zero _)) (chk_ok Try.ep1_ok Try.kc18_0)).mono fun r H' ⟨h1,h2⟩=>by rw [h1,h2];exact hK
end Go.Proofs
set_option linter.unusedSimpArgs false
set_option maxRecDepth 100000
namespace Go.Hx
variable {P : Program} {G : Nat→Option (List AVal)}
theorem fzH_id {H : AHeap} (hc : Clo H) : FzH (fun _=>False) H H where
 gone id hs:=hs.elim
 kept id b _ hb:=by
  have hbb:=hc.below id b hb
  refine ⟨hc.lt id b hb,b,hb,?_⟩
  cases b with
  | rsv=>trivial
  | mp=>rfl
  | arr g e cells=>exact ⟨rfl,rfl,rfl,fun i h _=>.dead (hbb i h)⟩
  | loop st pend n env ps asg body=>exact ⟨rfl,rfl,rfl,rfl,rfl,rfl,rfl,fun t ht=>.dead (hbb t ht)⟩
 none id _ hb:=hb
/-- A call's arguments weakened: no block is let go. -/
theorem ACall.weakArgs {H : AHeap} {f : FuncId} {args args' : List AVal} {K : ARes→AHeap→Prop} (hG : GOk G) (hl : args'.length=args.length) (hv : ∀ i (h : i<args.length) (h' : i<args'.length),Fz (fun _=>False) H H.next args[i] args'[i])
  (h : ACall P G f args' H K) : ACall P G f args H K:=by
 refine ⟨h.1,fun Γ w cargs R hr=>?_⟩
 have F:=fzH_id R.clo
 have R0:=F.rel hG R
 have E0 : Evo Γ H w (gamF (fun _=>False) Γ) H w:=F.evo
 refine (h.2 _ w cargs R0 ⟨by have:=hr.1;omega,fun i h1 h2=>(hv i (by omega) h1).sound R F (hr.2 i (by omega) h2)⟩).mono ?_
 rintro e w' ⟨r,H',Γ',h1,h2,h3,h4,h5⟩
 exact ⟨r,H',Γ',h1,h2,h3,E0.trans (Nat.le_refl _) h4,h5⟩
end Go.Hx
namespace Go.Proofs
open Go.Hx
theorem fz_infE {S : Nat→Prop} {H : AHeap} {nx : Nat} (d : InfP) : Fz S H nx (infE d) (infV d):=by
 refine .agg rfl fun i hi _=>?_
 match i,hi with
 | 0,_=>exact .lit _
 | 1,_=>exact .vec (by rw [nodesE_len,nodesC_len]) fun j h h'=>fz_nodesE d.nodes j h h'
 | 2,_=>exact .lit _
 | 3,_=>exact .vec rfl fun j h h'=>fz_utilsC d.utils _ (List.getElem_mem h)

end Go.Proofs
set_option linter.unusedSimpArgs false
set_option maxRecDepth 100000
namespace Go.Proofs
open Go.Hx
theorem decs_lt {d : InfP} (h : RightN d) : d.decs<2 ^ d.nodes.length:=by
 have h1:=h.decs
 rw [Nat.shiftRight_eq_div_pow] at h1
 exact (Nat.div_eq_zero_iff_lt (Nat.two_pow_pos _)).1 h1
theorem len_atL {ns : List NodeP} {vars : List Int} (h8 : ns.length≤8) (hp : PlacesOk vars ns.length) (hc : ∀ y∈ns,1≤y.card∧y.card≤4) : vars.length≤12:=by
 have:=(vars_small h8 hp hc).1
 rwa [atL_len] at this
theorem fit_ok {d : InfP} (h : InfOk d) : InfFit d:=by
 have n8:=h.n.n1
 refine ⟨⟨by omega,fun x hx=>?_⟩,?_,by have:=h.utils.1;omega,fun u hu=>?_⟩
 ·obtain ⟨v,hv⟩:=List.mem_iff_getElem?.1 hx
  have hn:=h.net.node _ (List.mem_of_getElem? (fillL_get (c:=fun _ _=>0) hv))
  have hr:=h.net.rows _ (List.mem_of_getElem? (fillL_get (c:=fun _ _=>0) hv))
  rw [(fillN_card ..).1,(fillN_card ..).2,fillL_len] at hn
  unfold NodeOk at hr
  rw [parC_fill] at hr
  have hpl:=len_atL n8.2 hn.2 h.n.card
  refine ⟨by omega,?_⟩
  by_cases hb : d.decs.testBit v=true
  ·rw [(h.n.dec v x hv hb).1]
   exact ⟨by simp,fun r hr=>by cases hr⟩
  ·rw [fillN_no hb] at hr
   have:=(parC_small n8.2 hn.2 h.n.card).prod
   refine ⟨by omega,fun r hr'=>?_⟩
   have:=(hr.2 r hr').1
   omega
 ·exact Nat.lt_of_lt_of_le (decs_lt h.n) (Nat.pow_le_pow_right (by decide) (by omega))
 ·have hu':=h.utils.2 u hu
  have:=len_atL n8.2 hu'.vars h.n.card
  have:=(vars_small n8.2 hu'.vars h.n.card).prod
  have:=hu'.size
  omega
theorem polFit_ok {d : InfP} (h : InfOk d) {p : List (List Int)} (hp : PolOk d p) : PolFit p:=by
 have n8:=h.n.n1
 have:=decK_len (D:=d.decs) (n:=d.nodes.length)
 have hl:=hp.len
 refine ⟨by unfold decL at hl;omega,fun r hr=>?_⟩
 obtain ⟨k,hk⟩:=List.mem_iff_getElem?.1 hr
 obtain ⟨v,hv⟩:=get_of_lt (l:=decL d) (i:=k) (by have:=get_lt hk;omega)
 obtain ⟨v1,v2,_⟩:=decK_place hv
 obtain ⟨x,hx⟩:=get_of_lt v1
 have h1:=(hp.row k v x r hv hx hk).1
 have h2:=rcN_rng h v1 v2
 unfold rcN at h2
 rw [hx] at h2
 dsimp only at h2
 omega
theorem polErr_ok {d : InfP} (h : InfOk d) {p : List (List Int)} (hp : PolOk d p) : polErr d p=0:=by
 unfold polErr
 rw [decB_true h,decB_true hp]
 rfl
end Go.Proofs
set_option linter.unusedSimpArgs false
set_option maxRecDepth 100000
namespace Go.Proofs
open Go.Hx
def chOf (l : List (Int × Int)) : List Int:=(l.map fun p=>List.replicate p.1.toNat p.2).flatten
/-- The numbers of values of all choices. -/
def chL (d : InfP) : List Int:=chOf (rcL d)
def polN (d : InfP) : Int:=prodL (chL d)
theorem prodL_rep (n : Nat) (c : Int) : prodL (List.replicate n c)=c ^ n:=by
 induction n with
 | zero=>rw [List.replicate_zero,prodL_nil,Int.pow_zero]
 | succ n ih=>rw [List.replicate_succ,prodL_cons,ih,Int.pow_succ,Int.mul_comm]
theorem chOf_snoc (l : List (Int × Int)) (p : Int × Int) : chOf (l++[p])=chOf l++List.replicate p.1.toNat p.2:=by unfold chOf;simp
theorem chOf_app (l r : List (Int × Int)) : chOf (l++r)=chOf l++chOf r:=by unfold chOf;simp
theorem chOf_pos {l : List (Int × Int)} (h : ∀ p∈l,1≤p.2) : ∀ c∈chOf l,1≤c:=fun c hc=>by
 unfold chOf at hc
 obtain ⟨r,hr,hc⟩:=List.mem_flatten.1 hc
 obtain ⟨p,hp,rfl⟩:=List.mem_map.1 hr
 rw [List.eq_of_mem_replicate hc]
 exact h p hp
theorem rcL_get {d : InfP} {k v : Nat} (hv : (decL d)[k]?=some v) : (rcL d)[k]?=some (rcN d v):=by unfold rcL;rw [List.getElem?_map,hv];rfl
theorem rcL_len (d : InfP) : (rcL d).length=(decL d).length:=by simp [rcL]
theorem rcL_rng {d : InfP} (h : InfOk d) : ∀ p∈rcL d,1≤p.1∧p.1≤1024∧1≤p.2∧p.2≤4:=fun p hp=>by
 unfold rcL at hp
 obtain ⟨v,hv,rfl⟩:=List.mem_map.1 hp
 obtain ⟨v1,v2⟩:=mem_decK.1 hv
 exact rcN_rng h v1 v2
theorem prodL_pre {l r : List Int} (h : ∀ c∈r,1≤c) (hl : 0≤prodL l) : prodL l≤prodL (l++r):=by
 rw [prodL_app]
 have h1:=prodL_pos h
 have h2 : prodL l*1≤prodL l*prodL r:=Int.mul_le_mul_of_nonneg_left h1 hl
 omega
noncomputable def cntE (d : InfP) : Int:=if decB (InfOk d) then (if polN d≤4096 then 0 else 6) else 200
noncomputable def cntV (d : InfP) : Int:=if cntE d=0 then polN d else 0

set_option maxHeartbeats 2000000 in
theorem count_spec (d : InfP) (hf : InfFit d) (H : AHeap) (K : ARes→AHeap→Prop) (hK : K (.ret (.tup [lin (cntV d),lin (cntE d)])) H) : ACall Try.prog G0 12 [infV d] H K:=by
 refine ACall.clo ⟨_,Try.func12,rfl,rfl⟩ fun hcl=>?_
 refine ACall.of_body (n:=35) (rs:=[.cell 2 3,.cell 3 43]) Try.func12 rfl rfl rfl (by decide) (by kernel_rfl) (by simp) ?_
 simp only [go_sem,Nat.reduceEqDiff,Nat.reduceAdd,infV_eq,infC,appendA_U]
 obtain ⟨H1,hH1⟩ : ∃ H1,H1=ext H [.arr 0 39 (infC d),.arr 0 3 [.lit (.int .i64 0)],.arr 0 43 [.lit (.int .i64 0)]]:=⟨_,rfl⟩
 have g1 : H1.get H.next=some (.arr 0 39 (infC d)):=by rw [hH1];exact get_ext0 ..
 have g2 : H1.get (H.next+1)=some (.arr 0 3 [.lit (.int .i64 0)]):=by rw [hH1];exact get_ext H _ 1 (by simp)
 have g3 : H1.get (H.next+2)=some (.arr 0 43 [.lit (.int .i64 0)]):=by rw [hH1];exact get_ext H _ 2 (by simp)
 have l1:=get_live g1
 have l2:=get_live g2
 have l3:=get_live g3
 have n1 : H1.next=H.next+3:=by rw [hH1];rfl
 have o1 : Over H H1:=by rw [hH1];exact .ext _ _
 unfold infC at hH1 l1
 rw [← hH1]
 refine AApply.clo (infCheck_spec d hf _ _ ⟨trivial,?_⟩)
 by_cases hok : InfOk d
 rotate_left
 ·rw [decB_false hok]
  have ee : cntE d=200:=by unfold cntE;rw [decB_false hok];rfl
  have ev : cntV d=0:=by unfold cntV;rw [ee];rfl
  rw [ee,ev] at hK
  have l3u : ∀ b,(H1.upd (H.next+1) b).live (H.next+2) 0=_:=fun b=>(live_upd_other (by omega)).trans l3
  have l2u : ∀ c b',((H1.upd (H.next+1) (.arr 0 3 [c])).upd (H.next+2) b').live (H.next+1) 0=some (3,[c]):=fun c b'=>(live_upd_other (by omega)).trans live_upd_same
  simp only [go_sem,Int.reduceEq,Nat.reduceEqDiff,l2,l3,l3u,l2u,appendA_U]
  refine FinV.dropO G0_ok hcl ((o1.upd (by omega) _).upd (by omega) _) ?_ hK
  exact .tup rfl fun i hi _=>match i,hi with
   | 0,_=>.lit _
   | 1,_=>.lit _
 rw [decB_true hok]
 have hR:=hok.n
 have l1e : ∀ L,(ext H1 L).live H.next 0=_:=fun L=>(ext_live_old (by omega)).trans l1
 simp only [go_sem,Nat.reduceEqDiff,Nat.reduceAdd,l1e,appendA_U]
 refine AApply.clo (dec_clo d _ _ ⟨trivial,?_⟩)
 simp only [go_sem,appendA_U]
 obtain ⟨H2,hH2⟩ : ∃ H2,H2=ext (ext H1 [.arr 0 3 [.lit (.int .i64 1)]]) [infB d]:=⟨_,rfl⟩
 rw [← hH2]
 have o2 : Over H1 H2:=by rw [hH2];exact (Over.ext _ _).trans (.ext _ _)
 have n2 : H2.next=H.next+5:=by rw [hH2,ext_next,ext_next,n1];rfl
 have hbx : H2.get (H.next+4)=some (infB d):=by rw [hH2,show H.next+4=(ext H1 [.arr 0 3 [.lit (.int .i64 1)]]).next by rw [ext_next,n1];rfl];exact ext1_get_new
 have g6 : H2.get (H.next+3)=some (.arr 0 3 [.lit (.int .i64 1)]):=by rw [hH2,get_ext_old _ _ _ (by rw [ext_next,n1];simp),show H.next+3=H1.next by omega];exact ext1_get_new
 have o02:=o1.trans o2
 refine W.env fun E hE=>?_
 have e1 : E 1=.ptr H.next 0 0:=by rw [hE];simp only [go_sem,Nat.reduceEqDiff,appendA_U]
 have e2 : E 2=.ptr (H.next+1) 0 0:=by rw [hE];simp only [go_sem,Nat.reduceEqDiff,appendA_U]
 have e3 : E 3=.ptr (H.next+2) 0 0:=by rw [hE];simp only [go_sem,Nat.reduceEqDiff,appendA_U]
 have e5 : E 5=.ptr (H.next+3) 0 0:=by rw [hE,← n1];simp only [go_sem,Nat.reduceEqDiff,appendA_U]
 have eN : (ext H1 [.arr 0 3 [.lit (.int .i64 1)]]).next=H.next+4:=by rw [ext_next,n1];rfl
 have e14 : E 14=.clo 89 [] [.ptr (H.next+4) 0 0]:=by rw [hE,← eN];rfl
 clear hE
 have hrng:=rcL_rng hok
 have hpos : ∀ k,∀ c∈chOf ((rcL d).take k),1≤c:=fun k=>chOf_pos fun p hp=>(hrng p (List.mem_of_mem_take hp)).2.2.1
 let S : AHeap→Prop:=fun Hx=>H2.next≤Hx.next∧∀ id,id<H2.next→id≠H.next+1→id≠H.next+2→id≠H.next+3→Hx.get id=H2.get id
 have ovS : ∀ {Hx},S Hx→Over H Hx:=fun h=>⟨by have:=h.1;omega,fun id hi=>(h.2 id (by omega) (by omega) (by omega) (by omega)).trans (o02.old id hi)⟩
 have cnt1 : polN d≤4096→cntE d=0∧cntV d=polN d:=fun h=>by
  have ee : cntE d=0:=by unfold cntE;rw [decB_true hok,if_pos h];rfl
  exact ⟨ee,by unfold cntV;rw [if_pos ee]⟩
 have cnt2 : ¬ polN d≤4096→cntE d=6∧cntV d=0:=fun h=>by
  have ee : cntE d=6:=by unfold cntE;rw [decB_true hok,if_neg h];rfl
  exact ⟨ee,by unfold cntV;rw [ee];rfl⟩
 have hend : ∀ k,k≤(rcL d).length→prodL (chOf ((rcL d).take k))≤polN d:=fun k hk=>by
  unfold polN chL
  conv=>rhs;rw [← List.take_append_drop k (rcL d),chOf_app]
  exact prodL_pre (chOf_pos fun p hp=>(hrng p (List.mem_of_mem_drop hp)).2.2.1) (by have:=prodL_pos (hpos k);omega)
 refine W.rangeIt (f:=89) (first:=[]) (cap:=[.ptr (H.next+4) 0 0]) (by show E 14=_;exact e14) (dec_it d (by have:=hf.nodes.1;omega) hf.decs (H.next+4))
  (fun k Hx=>S Hx∧Hx.get (H.next+1)=some (.arr 0 3 [.lit (.int .i64 0)])∧Hx.get (H.next+2)=some (.arr 0 43 [.lit (.int .i64 0)])∧Hx.get (H.next+3)=some (.arr 0 3 [.lit (.int .i64 (prodL (chOf ((rcL d).take k))))])∧prodL (chOf ((rcL d).take k))≤4096)
  (fun c Hx=>c=.ret∧S Hx∧Hx.get (H.next+1)=some (.arr 0 3 [.lit (.int .i64 0)])∧Hx.get (H.next+2)=some (.arr 0 43 [.lit (.int .i64 6)])∧¬ polN d≤4096)
  (fun k Hx h=>by rw [h.1.2 _ (by omega) (by omega) (by omega) (by omega)];exact hbx)
  (fun k Hx b h=>⟨⟨h.1.1,fun id h1 h2 h3 h4=>by rw [upd_get,if_neg (by omega)];exact h.1.2 id h1 h2 h3 h4⟩,by rw [upd_get,if_neg (by omega)];exact h.2.1,by rw [upd_get,if_neg (by omega)];exact h.2.2.1,by rw [upd_get,if_neg (by omega)];exact h.2.2.2.1,h.2.2.2.2⟩)
  (fun c Hx b h=>⟨h.1,⟨h.2.1.1,fun id h1 h2 h3 h4=>by rw [upd_get,if_neg (by omega)];exact h.2.1.2 id h1 h2 h3 h4⟩,by rw [upd_get,if_neg (by omega)];exact h.2.2.1,by rw [upd_get,if_neg (by omega)];exact h.2.2.2.1,h.2.2.2.2⟩)
  (fun b=>⟨⟨by rw [ext_next];omega,fun id h1 h2 h3 h4=>ext1_get_old h1⟩,by rw [ext1_get_old (by omega),o2.old _ (by omega)];exact g2,by rw [ext1_get_old (by omega),o2.old _ (by omega)];exact g3,by rw [ext1_get_old (by omega)];exact g6,by simp [chOf,prodL]⟩)
  (by decide) decX_two (fun _ _ _=>trivial) (fun _ _ _=>trivial) (fun k y Hx B Bb hy hj hn hB hBb=>?_) (fun Hx hj hn=>?_) (fun Hx hs hn=>?_) (fun i Hx hs hn=>by cases hs.1)
 ·obtain ⟨v,hv,rfl⟩:=decX_get hy
  obtain ⟨v1,v2,v3⟩:=decK_place hv
  obtain ⟨x,hx⟩:=get_of_lt (l:=d.nodes) (i:=v) v1
  obtain ⟨x1,x2⟩:=hR.dec v x hx v2
  have hrk:=rcL_get hv
  have hrc : rcN d v=((rowsN d.nodes x : Int),x.card):=by unfold rcN;rw [hx]
  have hrr:=hrng _ (List.mem_of_getElem? hrk)
  rw [hrc] at hrk hrr
  dsimp only at hrr
  refine vc_sound _ _ _ (by rfl) ?_
  simp only [go_sem,Nat.reduceEqDiff,Nat.reduceLT,setPs,envN,asgIt,List.foldl_cons,List.foldl_nil,List.zip_cons_cons,List.zip_nil_right,hB,appendA_U]
  obtain ⟨H3,hH3⟩ : ∃ H3,H3=Hx.upd H2.next Bb:=⟨_,rfl⟩
  rw [← hH3]
  obtain ⟨st,pd,n',en,ps',as',bo,hBe⟩:=hBb
  have n3 : H3.next=Hx.next:=by rw [hH3];rfl
  have o3 : ∀ id,id≠H2.next→H3.get id=Hx.get id:=fun id h=>by rw [hH3,upd_get,if_neg h]
  have jB : H3.get H2.next=some Bb:=by rw [hH3,upd_get,if_pos rfl]
  have hS3 : S H3:=⟨by rw [n3];exact hj.1.1,fun id h1 h2 h3 h4=>(o3 id (by omega)).trans (hj.1.2 id h1 h2 h3 h4)⟩
  have ps:=parC_small hR.n1.2 x2 hR.card
  have hin : InRange x.parents d.nodes.length:=fun q hq=>by have:=x2.2 q hq;omega
  have hrn : ((rowsN d.nodes x : Nat) : Int)=prodL (parC d.nodes x):=by have:=ps.prod;unfold rowsN;omega
  have hvn : (v : Int)<d.nodes.length:=by omega
  have hne:=nodesC_ne hx
  have ec:=nodesC_0 hx
  refine W.env fun E1 hE1=>?_
  have m1 : E1 1=.ptr H.next 0 0:=by rw [hE1];simp only [go_sem,Nat.reduceEqDiff,Nat.reduceLT,envN,e1,appendA_U]
  have m2 : E1 2=.ptr (H.next+1) 0 0:=by rw [hE1];simp only [go_sem,Nat.reduceEqDiff,Nat.reduceLT,envN,e2,appendA_U]
  have m3 : E1 3=.ptr (H.next+2) 0 0:=by rw [hE1];simp only [go_sem,Nat.reduceEqDiff,Nat.reduceLT,envN,e3,appendA_U]
  have m5 : E1 5=.ptr (H.next+3) 0 0:=by rw [hE1];simp only [go_sem,Nat.reduceEqDiff,Nat.reduceLT,envN,e5,appendA_U]
  have m7 : E1 7=lin v:=by rw [hE1];simp only [go_sem,Nat.reduceEqDiff,Nat.reduceLT,envN,appendA_U]
  clear hE1
  have j1:=get_live ((hS3.2 _ (by omega) (by omega) (by omega) (by omega)).trans ((o2.old _ (by omega)).trans g1))
  unfold infC at j1
  refine vc_sound _ _ _ (by rfl) ?_
  simp only [go_sem,Nat.reduceEqDiff,m1,m7,j1,appendA_U]
  refine AApply.clo (rowsW_spec d.nodes v x hx hin ps _ _ ⟨⟨st,pd,n',en,ps',as',bo,by rw [jB,hBe]⟩,?_⟩)
  rw [← hrn]
  simp only [go_sem,appendA_U]
  obtain ⟨a0,ha0⟩ : ∃ a0,a0=prodL (chOf ((rcL d).take k)):=⟨_,rfl⟩
  have hp0:=prodL_pos (hpos k)
  have hstep : ∀ j : Nat,prodL (chOf ((rcL d).take k)++List.replicate j x.card)=a0*x.card ^ j:=fun j=>by rw [prodL_app,prodL_rep,ha0]
  have hfull : prodL (chOf ((rcL d).take (k+1)))=a0*x.card ^ rowsN d.nodes x:=by
   rw [take_succ_get hrk,chOf_snoc]
   exact hstep _
  have hnext:=hend (k+1) (by have:=get_lt hrk;omega)
  rw [← ha0] at hp0
  refine W.loop0 17177772032 (by rfl) (fun ρ2 H4=>∃ j : Nat,ρ2 21=lin j∧j≤rowsN d.nodes x∧S H4∧H3.next≤H4.next∧H4.get H2.next=some Bb∧H4.get (H.next+1)=some (.arr 0 3 [.lit (.int .i64 0)])∧H4.get (H.next+2)=some (.arr 0 43 [.lit (.int .i64 0)])∧H4.get (H.next+3)=some (.arr 0 3 [.lit (.int .i64 (a0*x.card ^ j))])∧a0*x.card ^ j≤4096) (fun ρ2 H=>rowsN d.nodes x - (iv (ρ2 21)).toNat) ?_ ?_
  ·simp only [go_sem,Nat.reduceEqDiff,appendA_U]
   exact ⟨0,rfl,by omega,hS3,jB,(o3 _ (by omega)).trans hj.2.1,(o3 _ (by omega)).trans hj.2.2.1,by rw [Int.pow_zero,Int.mul_one,ha0];exact (o3 _ (by omega)).trans hj.2.2.2.1,by rw [Int.pow_zero,Int.mul_one,ha0];exact hj.2.2.2.2⟩
  rintro ρ2 H4 ⟨j,h21,hjr,hS4,h4n,h4B,h41,h42,h43,h44⟩
  refine vc_sound _ _ _ (by rfl) ?_
  have hpj : 1≤x.card ^ j:=Int.pow_pos (by omega)
  have hmj : 1≤a0*x.card ^ j:=by have:=Int.mul_le_mul hp0 hpj (by omega) (by omega);omega
  by_cases hb2 : (j : Int)<rowsN d.nodes x
  ·have w1:=IntWalk.i64_in ((j : Int)+1) (by omega)
   obtain ⟨t,ht⟩ : ∃ t,t=a0*x.card ^ j:=⟨_,rfl⟩
   rw [← ht] at h43 h44 hmj
   have hts : a0*x.card ^ (j+1)=t*x.card:=by rw [Int.pow_succ,← Int.mul_assoc,ht]
   have tc : t*x.card≤4096*4:=Int.mul_le_mul h44 hrr.2.2.2 (by omega) (by omega)
   have tc0 : 0≤t*x.card:=Int.mul_nonneg (by omega) (by omega)
   have w2:=IntWalk.i64_in (t*x.card) (by omega)
   have i1:=get_live ((hS4.2 _ (by omega) (by omega) (by omega) (by omega)).trans ((o2.old _ (by omega)).trans g1))
   unfold infC at i1
   have i2:=get_live h41
   have i3:=get_live h42
   have i5:=get_live h43
   have hlow : a0*x.card ^ (j+1)≤polN d:=by
    refine Int.le_trans ?_ hnext
    rw [hfull]
    have hjj : j+1≤rowsN d.nodes x:=by omega
    obtain ⟨r,hr⟩ : ∃ r,rowsN d.nodes x=(j+1)+r:=⟨rowsN d.nodes x - (j+1),by omega⟩
    rw [hr,show a0*x.card ^ (j+1+r)=a0*x.card ^ (j+1)*x.card ^ r by rw [Int.pow_add _ (j+1) r,Int.mul_assoc]]
    have hpr : 1≤x.card ^ r:=Int.pow_pos (by omega)
    have h0 : 0≤a0*x.card ^ (j+1):=by rw [hts];exact tc0
    have:=Int.mul_le_mul_of_nonneg_left hpr h0
    rw [Int.mul_one] at this
    exact this
   by_cases hbig : t*x.card > 4096
   ·have i2u : ∀ b,(H4.upd (H.next+3) b).live (H.next+1) 0=_:=fun b=>(live_upd_other (by omega)).trans i2
    have i3u : ∀ b b',((H4.upd (H.next+3) b).upd (H.next+1) b').live (H.next+2) 0=_:=fun b b'=>(live_upd_other (by omega)).trans ((live_upd_other (by omega)).trans i3)
    simp only [go_sem,Nat.reduceEqDiff,Nat.reducePow,Nat.reduceDiv,Nat.reduceMod,reduceCtorEq,h21,hb2,appendA_U]
    refine W.draw 7 [0,0,2,0,14,30,62] Try.mixed (by kernel_rfl) (by kernel_rfl) ?_
    simp only [go_sem,Nat.reduceEqDiff,Nat.reducePow,Nat.reduceDiv,Nat.reduceMod,Nat.reduceAdd,reduceCtorEq,m1,m2,m3,m5,m7,i1,i2,i3,i5,h21,hb2,hvn,hne,ec,w2,hbig,i2u,i3u,bodyIt,appendA_U]
    refine ⟨by simp only [upd_get];rw [if_neg (by omega),if_neg (by omega),if_neg (by omega)];exact h4B,by simp only [upd_next];omega,⟨by simp only [upd_next];exact hS4.1,fun id h1 h2 h3 h4=>by simp only [upd_get];rw [if_neg h3,if_neg h2,if_neg h4];exact hS4.2 id h1 h2 h3 h4⟩,by rw [upd_get,if_neg (by omega),upd_get,if_pos rfl],by rw [upd_get,if_pos rfl],?_⟩
    rw [hts] at hlow
    omega
   ·simp only [go_sem,Nat.reduceEqDiff,Nat.reducePow,Nat.reduceDiv,Nat.reduceMod,reduceCtorEq,h21,hb2,appendA_U]
    refine W.draw 7 [0,0,2,0,14,30,62] Try.mixed (by kernel_rfl) (by kernel_rfl) ?_
    simp only [go_sem,Nat.reduceEqDiff,Nat.reducePow,Nat.reduceDiv,Nat.reduceMod,Nat.reduceAdd,reduceCtorEq,m1,m2,m3,m5,m7,i1,i2,i3,i5,h21,hb2,hvn,hne,ec,w1,w2,hbig,appendA_U]
    exact ⟨by rw [upd_next];exact h4n,⟨st,pd,n',en,ps',as',bo,by rw [upd_get,if_neg (by omega),h4B,hBe]⟩,⟨j+1,rfl,by omega,⟨by rw [upd_next];exact hS4.1,fun id h1 h2 h3 h4=>by rw [upd_get,if_neg h4];exact hS4.2 id h1 h2 h3 h4⟩,by rw [upd_next];exact h4n,by rw [upd_get,if_neg (by omega)];exact h4B,by rw [upd_get,if_neg (by omega)];exact h41,by rw [upd_get,if_neg (by omega)];exact h42,by rw [upd_get,if_pos rfl,hts],by rw [hts];omega⟩,by omega⟩
  ·have hje : j=rowsN d.nodes x:=by omega
   simp only [go_sem,Nat.reduceEqDiff,Nat.reducePow,Nat.reduceDiv,Nat.reduceMod,reduceCtorEq,h21,hb2,bodyIt,appendA_U]
   rw [hfull,← hje]
   exact ⟨h4B,by omega,hS4,h41,h42,h43,h44⟩
 ·rw [decX_len,← rcL_len,List.take_of_length_le (Nat.le_refl _)] at hj
  obtain ⟨hS,j2,j3,j5,hle⟩:=hj
  obtain ⟨ee,ev⟩:=cnt1 hle
  rw [ee,ev] at hK
  have i2:=get_live j2
  have i3:=get_live j3
  have i5:=get_live j5
  have i3u : ∀ b,(Hx.upd (H.next+1) b).live (H.next+2) 0=_:=fun b=>(live_upd_other (by omega)).trans i3
  have i2u : ∀ c b',((Hx.upd (H.next+1) (.arr 0 3 [c])).upd (H.next+2) b').live (H.next+1) 0=some (3,[c]):=fun c b'=>(live_upd_other (by omega)).trans live_upd_same
  simp only [go_sem,Nat.reduceEqDiff,e1,e2,e3,e5,i2,i3,i5,i3u,i2u,appendA_U]
  refine FinV.dropO G0_ok hcl (((ovS hS).upd (by omega) _).upd (by omega) _) ?_ hK
  exact .tup rfl fun i hi _=>match i,hi with
   | 0,_=>.lit _
   | 1,_=>.lit _
 ·obtain ⟨_,hS,j2,j3,hbig⟩:=hs
  obtain ⟨ee,ev⟩:=cnt2 hbig
  rw [ee,ev] at hK
  have i2:=get_live j2
  have i3:=get_live j3
  simp only [go_sem,e1,e2,e3,e5,i2,i3,appendA_U]
  refine FinV.dropO G0_ok hcl (ovS hS) ?_ hK
  exact .tup rfl fun i hi _=>match i,hi with
   | 0,_=>.lit _
   | 1,_=>.lit _
end Go.Proofs
set_option linter.unusedSimpArgs false
set_option maxRecDepth 100000
namespace Go.Hx
variable {P : Program}
/-- Slices of slices of one's own, each inner one with a block of its own. -/
structure OwnM (lo : Nat) (H : AHeap) (e1 e0 : TypeId) (v : AVal) (ids : List Nat) (rows : List (List AVal)) : Prop where
 len : ids.length=rows.length
 nd : ids.Nodup
 rng : ∀ i∈ids,lo≤i∧i<H.next
 top : OwnG lo H e1 v (List.zipWith (fun i n=>AVal.own i 0 0 n 1) ids (rows.map List.length))
 row : ∀ (k id : Nat) (r : List AVal),ids[k]?=some id→rows[k]?=some r→H.get id=some (.arr 0 e0 r)
theorem OwnM.nil {lo : Nat} {H : AHeap} {e1 e0 : TypeId} : OwnM lo H e1 e0 (.lit (.slice none 0 0)) [] [] :=
 ⟨rfl,.nil,fun i h=>(by cases h),.nil,fun k id r h=>(by simp at h)⟩
theorem OwnM.keep {lo : Nat} {H H' : AHeap} {e1 e0 : TypeId} {v : AVal} {ids : List Nat} {rows : List (List AVal)} (h : OwnM lo H e1 e0 v ids rows) (hn : H.next≤H'.next) (hk : ∀ id,lo≤id→id<H.next→H'.get id=H.get id) : OwnM lo H' e1 e0 v ids rows :=
 ⟨h.len,h.nd,fun i hi=>⟨(h.rng i hi).1,by have:=(h.rng i hi).2;omega⟩,h.top.keep (Nat.le_refl _) hn fun id _ h1 h2 _ _=>hk id h1 h2,fun k id r h1 h2=>by
  have:=h.rng id (List.mem_of_getElem? h1)
  rw [hk id this.1 this.2]
  exact h.row k id r h1 h2⟩
theorem OwnM.app {lo n : Nat} {H : AHeap} {e1 e0 : TypeId} {v : AVal} {ids : List Nat} {rows : List (List AVal)} {r : List AVal} {t : TypeId} {z : List AVal} (ht : P.underlying t=some (.slice e1)) (hz : P.cellsOf e1=1) (hzero : zeroA P e1=some z) (hby : P.bytesOf e1=24) (hne : e1≠e0)
  (hb : rows.length<2 ^ 40) (h : OwnM lo H e1 e0 v ids rows) (hlo : lo≤H.next) (hn : n=H.next+2) :
  ∃ v' H',appendA P (ext (ext H [.arr 0 e0 r]) [.arr 0 e1 [.own H.next 0 0 r.length 1]]) n t t v (.own (H.next+1) 0 0 1 1)=some (v',H')∧OwnM lo H' e1 e0 v' (ids++[H.next]) (rows++[r])∧H.next≤H'.next∧(∀ k,k<H.next→k<lo→H'.get k=H.get k):=by
 obtain ⟨Hb,hHb⟩ : ∃ Hb,Hb=ext H [.arr 0 e0 r]:=⟨_,rfl⟩
 have nb : Hb.next=H.next+1:=by rw [hHb];rfl
 have ob : Over H Hb:=by rw [hHb];exact .ext _ _
 have gb : Hb.get H.next=some (.arr 0 e0 r):=by rw [hHb];exact ext1_get_new
 have htop:=h.top.over ob
 obtain ⟨v',H',hA,hO,hL,hp⟩:=app_oneG (P:=P) (H:=Hb) (t:=t) (x:=.own H.next 0 0 r.length 1) (n:=n) ht hz hzero rfl (by rw [hby];simp [h.len];omega) htop (by omega) (by omega)
 rw [nb,hHb] at hA
 have old : ∀ id g,lo≤id→id<Hb.next→Hb.get id=some (.arr g e0 r)→H'.get id=Hb.get id:=fun id g h1 h2 h3=>hp id h2 fun g' m he=>by
  rcases htop with ⟨hv,_⟩|⟨i,g2,_,_,hv,h4⟩
  ·rw [hv] at he;cases he
  ·rw [hv] at he
   obtain rfl : i=id:=(AVal.own.inj he).1
   rw [h4] at h3
   cases h3
   exact hne rfl
 have oldr : ∀ id g q,lo≤id→id<Hb.next→Hb.get id=some (.arr g e0 q)→H'.get id=Hb.get id:=fun id g q h1 h2 h3=>hp id h2 fun g' m he=>by
  rcases htop with ⟨hv,_⟩|⟨i,g2,_,_,hv,h4⟩
  ·rw [hv] at he;cases he
  ·rw [hv] at he
   obtain rfl : i=id:=(AVal.own.inj he).1
   rw [h4] at h3
   cases h3
   exact hne rfl
 refine ⟨v',H',hA,⟨by simp [h.len],List.nodup_append.2 ⟨h.nd,by simp,fun a ha b hb=>by
  obtain rfl:=List.mem_singleton.1 hb
  have:=(h.rng a ha).2
  omega⟩,fun i hi=>?_,?_,fun k id q h1 h2=>?_⟩,by omega,fun k hk hkl=>?_⟩
 ·rcases List.mem_append.1 hi with h1|h1
  ·have:=h.rng i h1;omega
  ·obtain rfl:=List.mem_singleton.1 h1;omega
 ·rw [List.map_append,List.zipWith_append (by rw [List.length_map];exact h.len)]
  exact hO
 ·have hk:=List.getElem?_eq_some_iff.1 h1
  obtain ⟨hk,_⟩:=hk
  rw [List.length_append,List.length_singleton] at hk
  rcases Nat.lt_or_ge k ids.length with hlt|hge
  ·rw [List.getElem?_append_left hlt] at h1
   rw [List.getElem?_append_left (by rw [← h.len];exact hlt)] at h2
   have hr:=h.rng id (List.mem_of_getElem? h1)
   have hg:=h.row k id q h1 h2
   rw [oldr id 0 q hr.1 (by omega) ((ob.old id hr.2).trans hg),ob.old id hr.2]
   exact hg
  ·obtain rfl : k=ids.length:=by omega
   rw [List.getElem?_append_right (Nat.le_refl _),Nat.sub_self] at h1
   rw [h.len,List.getElem?_append_right (Nat.le_refl _),Nat.sub_self] at h2
   cases h1
   cases h2
   rw [oldr H.next 0 r hlo (by omega) gb]
   exact gb
 ·rw [hp k (by omega) fun g m he=>?_,ob.old k hk]
  rcases htop with ⟨hv,_⟩|⟨i,g2,a1,_,hv,h4⟩
  ·rw [hv] at he;cases he
  ·rw [hv] at he
   have:=(AVal.own.inj he).1
   omega
theorem OwnM.topB {lo : Nat} {H : AHeap} {e1 e0 : TypeId} {v : AVal} {ids : List Nat} {rows : List (List AVal)} (h : OwnM lo H e1 e0 v ids rows) (h0 : rows≠[]) : ∃ id g,lo≤id∧id<H.next∧v=.own id g 0 rows.length 1∧H.get id=some (.arr g e1 (List.zipWith (fun i n=>AVal.own i 0 0 n 1) ids (rows.map List.length)))∧(e1≠e0→id ∉ ids):=by
 have hzl : (List.zipWith (fun i n=>AVal.own i 0 0 n 1) ids (rows.map List.length)).length=rows.length:=by simp [h.len]
 rcases h.top with ⟨hv,h4⟩|⟨i,g,a,b,hv,h4⟩
 ·rw [h4] at hzl
  exact absurd (List.eq_nil_of_length_eq_zero hzl.symm) h0
 ·refine ⟨i,g,a,b,by rw [hv,hzl],h4,fun hne hm=>?_⟩
  obtain ⟨k,hk⟩:=List.mem_iff_getElem?.1 hm
  have hkl : k<rows.length:=by rw [← h.len];exact (List.getElem?_eq_some_iff.1 hk).1
  have:=h.row k i _ hk (List.getElem?_eq_getElem hkl)
  rw [h4] at this
  exact hne (Blk.arr.inj (Option.some.inj this)).2.1
/-- A number stored into an inner slice. -/
theorem OwnM.store {lo : Nat} {H : AHeap} {e1 e0 : TypeId} {v : AVal} {ids : List Nat} {rows : List (List AVal)} (h : OwnM lo H e1 e0 v ids rows) (hne : e1≠e0) {k id : Nat} {r r' : List AVal} (hk : ids[k]?=some id) (hr : rows[k]?=some r) (hl : r'.length=r.length) : OwnM lo (H.upd id (.arr 0 e0 r')) e1 e0 v ids (rows.set k r'):=by
 have hid:=h.rng id (List.mem_of_getElem? hk)
 have h0 : rows≠[]:=fun e=>by rw [e] at hr;simp at hr
 refine ⟨by rw [List.length_set];exact h.len,h.nd,fun i hi=>by rw [upd_next];exact h.rng i hi,?_,fun j id' q h1 h2=>?_⟩
 ·have e : (rows.set k r').map List.length=rows.map List.length:=by
   rw [List.map_set,hl]
   apply List.ext_getElem?
   intro i
   rw [List.getElem?_set]
   split
   ·rename_i hi
    subst hi
    have hkl:=(List.getElem?_eq_some_iff.1 hr).1
    rw [if_pos (by rw [List.length_map];exact hkl),List.getElem?_map,hr]
    rfl
   ·rfl
  rw [e]
  obtain ⟨i,g,a,b,_,h4,h5⟩:=h.topB h0
  refine h.top.keep (Nat.le_refl _) (by rw [upd_next];exact Nat.le_refl _) fun i2 g2 _ _ h3 _=>?_
  rw [upd_get,if_neg]
  rintro rfl
  rw [h.row k i2 r hk hr] at h3
  cases h3
  exact hne rfl
 ·rw [upd_get]
  by_cases hj : j=k
  ·subst hj
   rw [hk] at h1
   cases h1
   rw [List.getElem?_set_self (List.getElem?_eq_some_iff.1 hr).1] at h2
   cases h2
   rw [if_pos rfl]
  ·rw [List.getElem?_set_ne (fun e=>hj e.symm)] at h2
   rw [if_neg,h.row j id' q h1 h2]
   rintro rfl
   exact hj ((List.getElem?_inj (List.getElem?_eq_some_iff.1 h1).1 h.nd).1 (by rw [h1,hk]))
theorem OwnM.fz {S : Nat→Prop} {lo nx : Nat} {H : AHeap} {e1 e0 : TypeId} {v : AVal} {ids : List Nat} {rows : List (List AVal)} (h : OwnM lo H e1 e0 v ids rows) (hS : ∀ i,lo≤i→S i) (hr : ∀ r∈rows,∀ c∈r,Fz S H nx c c) :
  Fz S H nx v (.vec rows.length (rows.map fun r=>.vec r.length r)):=by
 have hz : (List.zipWith (fun i n=>AVal.own i 0 0 n 1) ids (rows.map List.length)).length=rows.length:=by simp [h.len]
 have:=h.top.fz (S:=S) (nx:=nx) (cs':=rows.map fun r=>.vec r.length r) hS (by simp [h.len]) fun i hi hi'=>by
  simp only [List.getElem_map,List.getElem_zipWith]
  have hil : i<rows.length:=by omega
  have hii : i<ids.length:=by rw [h.len];exact hil
  refine .frz (hS _ (h.rng _ (List.getElem_mem hii)).1) (h.row i _ _ (List.getElem?_eq_getElem hii) (List.getElem?_eq_getElem hil)) (by simp) fun j hj h2 h'=>?_
  have e0 : (0 : Nat)+j=j:=Nat.zero_add j
  have h3:=hr rows[i] (List.getElem_mem hil) _ (List.getElem_mem h')
  simpa only [e0] using h3
 rw [List.length_map] at this
 exact this
end Go.Hx
namespace Go.Proofs
open Go.Hx
def polI : List (Int × Int)→Int→List (List Int)
 | [],_=>[]
 | p :: l,i=>((valsL (List.replicate p.1.toNat p.2++chOf l) i).take p.1.toNat) :: polI l i
theorem polI_len (l : List (Int × Int)) (i : Int) : (polI l i).length=l.length:=by
 induction l with
 | nil=>rfl
 | cons p l ih=>simp [polI,ih]
theorem chOf_cons (p : Int × Int) (l : List (Int × Int)) : chOf (p :: l)=List.replicate p.1.toNat p.2++chOf l:=by unfold chOf;simp
theorem polI_get {l : List (Int × Int)} (i : Int) : ∀ {k : Nat} {p : Int × Int},l[k]?=some p→(polI l i)[k]?=some ((valsL (chOf (l.drop k)) i).take p.1.toNat):=by
 induction l with
 | nil=>intro k p h;simp at h
 | cons q l ih =>
  intro k p h
  cases k with
  | zero =>
   simp only [List.getElem?_cons_zero,Option.some.injEq] at h
   subst h
   rw [List.drop_zero,chOf_cons]
   rfl
  | succ k =>
   simp only [List.getElem?_cons_succ] at h
   simp only [polI,List.getElem?_cons_succ,List.drop_succ_cons]
   exact ih h
theorem valsL_get {cs : List Int} {k : Nat} {c : Int} (h : cs[k]?=some c) (i : Int) : (valsL cs i)[k]?=some (i / prodL (cs.drop (k+1)) % c):=by
 induction cs generalizing k with
 | nil=>simp at h
 | cons d cs ih =>
  cases k with
  | zero =>
   simp only [List.getElem?_cons_zero,Option.some.injEq] at h
   subst h
   rfl
  | succ k =>
   simp only [List.getElem?_cons_succ] at h
   simp only [List.drop_succ_cons]
   exact ih h
theorem polI_ok {l : List (Int × Int)} (h : ∀ p∈l,1≤p.1∧1≤p.2) (i : Int) : RowsFit l (polI l i):=by
 refine ⟨polI_len l i,fun k p r hp hr=>?_⟩
 rw [polI_get i hp] at hr
 cases hr
 have hpp:=h p (List.mem_of_getElem? hp)
 rw [drop_of_get hp,chOf_cons]
 refine ⟨by rw [List.length_take,valsL_len,List.length_append,List.length_replicate];omega,fun a ha=>?_⟩
 obtain ⟨j,hj⟩:=List.mem_iff_getElem?.1 ha
 have hjl:=get_lt hj
 rw [List.length_take,valsL_len] at hjl
 rw [List.getElem?_take_of_lt (by omega)] at hj
 have hc : (List.replicate p.1.toNat p.2++chOf (l.drop (k+1)))[j]?=some p.2:=by rw [List.getElem?_append_left (by rw [List.length_replicate];omega),List.getElem?_replicate,if_pos (by omega)]
 rw [valsL_get hc] at hj
 cases hj
 exact ⟨Int.emod_nonneg _ (by omega),Int.emod_lt_of_pos _ (by omega)⟩
end Go.Proofs
