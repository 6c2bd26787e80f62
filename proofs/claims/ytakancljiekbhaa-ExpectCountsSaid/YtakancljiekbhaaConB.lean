/- Own work: contracts. -/
import Derived.Test.YtakancljiekbhaaConA
set_option linter.all false
set_option maxRecDepth 100000
namespace Go.Hx
variable {P:Program} {G:Nat->Option (List AVal)} {Γ Γ':aB} {H H':AHeap} {w w':World}
theorem W.da {n:Nat}{rd:Option Nat}{Q:AX->St->Prop}{s:St}{x y:Code}(Φ:St->Prop)(h:W P G n rd x (fun ax s'=>ax=.normal/\Φ s') s)(h2:∀ s',Φ s'->W P G n rd y Q s'):W P G n rd (.seq x y) Q s :=
 W.seq (h.mono fun ax s' ⟨e,hp⟩=>by subst e;exact h2 s' hp)
theorem BE {H:AHeap}{id:Nat}{b:Blk}(h:H.get id=some b):H.upd id b=H:=by
 have e:(fun j=>if j=id then some b else H.get j)=H.get:=by
  funext j
  by_cases hj:j=id
  ·rw[if_pos hj,hj,h]
  ·rw[if_neg hj]
 show AHeap.mk (fun j=>if j=id then some b else H.get j) H.next=H;rw[e]
theorem lq (H:AHeap)(id:Nat)(b c:Blk):(H.upd id b).upd id c=H.upd id c:=by
 unfold AHeap.upd;congr 1
 funext j
 by_cases hj:j=id<;>simp [hj]
end Go.Hx
namespace Go.Proofs
open Go.Hx
def dE (l:List Nat):List Int:=l.map fun (v:Nat)=>(v:Int)
theorem oK (l:List Nat):(dE l).length=l.length:=by simp [dE]
theorem xx {l:List Nat}{i k:Nat}(h:l[i]?=some k):(dE l)[i]?=some (k:Int):=by simp [dE,h]
theorem BF (l:List Nat)(i k:Nat):(dE l).set i (k:Int)=dE (l.set i k):=by unfold dE;rw[List.map_set]
def nB (g:Nat)(q:List Nat):Blk:=.arr g 3 (ints (dE q))
def BK (cv:AVal)(f:Nat->Nat)(l:List Nat)(Inv:AHeap->Prop):Prop:=∀ a b,a∈l->b∈l->∀ Hx,Inv Hx->∃ z:Int,(z<0↔f a<f b)/\∀ K,K (.ret (aa z)) Hx->aw Try.prog G0 cv [aa (a:Nat),aa (b:Nat)] Hx K
def aZ (a b:Nat)(l l':List Nat):Prop:=l'.Perm l/\∀ i,i<a\/b<=i->l'.getD i 0=l.getD i 0
theorem aZ.refl (a b:Nat)(l:List Nat):aZ a b l l:=⟨.refl _,fun _ _=>rfl⟩
theorem aZ.trans {a b:Nat}{l m r:List Nat}(h:aZ a b l m)(k:aZ a b m r):aZ a b l r:=⟨k.1.trans h.1,fun i hi=>(k.2 i hi).trans (h.2 i hi)⟩
theorem aZ.len {a b:Nat}{l m:List Nat}(h:aZ a b l m):m.length=l.length:=h.1.length_eq
theorem aZ.mono {a b a' b':Nat}{l m:List Nat}(h:aZ a b l m)(ha:a'<=a)(hb:b<=b'):aZ a' b' l m:=⟨h.1,fun i hi=>h.2 i (by omega)⟩
theorem aZ.swap {a b i j:Nat}{l:List Nat}(h1:a<=i)(h2:i<b)(h3:a<=j)(h4:j<b)(hb:b<=l.length):aZ a b l (bZ l i j):=by
 refine⟨Pi (by omega) (by omega),fun k hk=>?_⟩;unfold bZ;rw[o0 _ _ _ _ _ (by rw[List.length_set];omega),o0 _ _ _ _ _ (by omega),if_neg (by omega),if_neg (by omega)]
theorem qE {l:List Nat}{i j:Nat}(hi:i<l.length)(hj:j<l.length)(a:Nat):(bZ l i j).getD a 0=if a=j then l.getD i 0 else if a=i then l.getD j 0 else l.getD a 0:=by
 unfold bZ;rw[o0 _ _ _ _ _ (by rw[List.length_set];exact hj),o0 _ _ _ _ _ hi];by_cases h1:a=j
 ·rw[if_pos h1,if_pos h1.symm]
 ·rw[if_neg h1,if_neg fun h=>h1 h.symm];by_cases h2:a=i
  ·rw[if_pos h2,if_pos h2.symm]
  ·rw[if_neg h2,if_neg fun h=>h2 h.symm]
theorem BX {a b:Nat}{l:List Nat}{x:Nat}:x∈(l.take b).drop a↔∃ i,a<=i/\i<b/\i<l.length/\l.getD i 0=x:=by
 rw[List.mem_iff_getElem?];constructor
 ·rintro⟨k,hk⟩;rw[List.getElem?_drop,List.getElem?_take]at hk;split at hk
  ·exact⟨a+k,by omega,by omega,get_lt hk,by rw[List.getD_eq_getElem?_getD,hk];rfl⟩
  ·cases hk
 ·rintro⟨i,h1,h2,h3,h4⟩;refine⟨i - a,?_⟩;rw[List.getElem?_drop,List.getElem?_take,if_pos (by omega),show a+(i - a)=i by omega,jx h3,h4]
theorem BY {l m:List Nat}(hl:l.length=m.length)(h:∀ i,i<l.length->l.getD i 0=m.getD i 0):l=m:=by
 apply List.ext_getElem?;intro i;rcases Nat.lt_or_ge i l.length with hi|hi
 ·rw[jx hi,jx (by omega),h i hi]
 ·rw[List.getElem?_eq_none hi,List.getElem?_eq_none (by omega)]
theorem aZ.N0 {a b:Nat}{l m:List Nat}(h:aZ a b l m)(hab:a<=b)(hb:b<=l.length):((m.take b).drop a).Perm ((l.take b).drop a):=by
 have hl:=h.len;have e1:m.take a=l.take a:=BY (by simp [hl]) fun i hi=>by
  rw[List.length_take]at hi;rw[List.getD_eq_getElem?_getD,List.getD_eq_getElem?_getD,List.getElem?_take,List.getElem?_take,if_pos (by omega),if_pos (by omega),jx (by omega),jx (by omega),h.2 i (by omega)]
 have e2:m.drop b=l.drop b:=BY (by simp [hl]) fun i hi=>by
  rw[List.length_drop]at hi;rw[List.getD_eq_getElem?_getD,List.getD_eq_getElem?_getD,List.getElem?_drop,List.getElem?_drop,jx (by omega),jx (by omega),h.2 (b+i) (by omega)]
 have cut:∀ l:List Nat,l=l.take a++((l.take b).drop a++l.drop b):=fun l=>by
  rw[<- List.append_assoc];have:l.take a++(l.take b).drop a=l.take b:=by
   have:=List.take_append_drop a (l.take b);rw[List.take_take,Nat.min_eq_left hab]at this;exact this
  rw[this,List.take_append_drop]
 have hp:=h.1;rw[cut m,cut l,e1,e2]at hp;exact(List.perm_append_right_iff _).1 ((List.perm_append_left_iff _).1 hp)
theorem aZ.all {a b:Nat}{l m:List Nat}(h:aZ a b l m)(hb:b<=l.length){p:Nat->Prop}(hp:∀ i,a<=i->i<b->p (l.getD i 0)):∀ i,a<=i->i<b->p (m.getD i 0):=by
 intro i h1 h2;have hl:=h.len;have:m.getD i 0∈(m.take b).drop a:=BX.2 ⟨i,h1,h2,by omega,rfl⟩;obtain⟨k,k1,k2,_,k4⟩:=BX.1 ((h.N0 (by omega) hb).mem_iff.1 this);rw[<- k4];exact hp k k1 k2
def db (f:Nat->Nat)(l:List Nat)(a b:Nat):Prop:=∀ i j,a<=i->i<j->j<b->f (l.getD i 0)<=f (l.getD j 0)
def jW (f:Nat->Nat)(l:List Nat):Prop:=(l.map f).Nodup
theorem jW.perm {f:Nat->Nat}{l m:List Nat}(h:jW f l)(hp:m.Perm l):jW f m:=(hp.map f).nodup_iff.2 h
theorem jW.ne {f:Nat->Nat}{l:List Nat}(h:jW f l){i j:Nat}(hij:i≠j)(hi:i<l.length)(hj:j<l.length):f (l.getD i 0)≠f (l.getD j 0):=by
 intro e;have g:∀ k,k<l.length->(l.map f)[k]?=some (f (l.getD k 0)):=fun k hk=>by rw[List.getElem?_map,jx hk];rfl
 refine hij ((List.getElem?_inj (by rw[List.length_map];exact hi) h).1 ?_);rw[g i hi,g j hj,e]
def Bl (f:Nat->Nat)(l:List Nat)(a b:Nat):Prop:=a=0\/∀ i,a<=i->i<b->f (l.getD (a - 1) 0)<f (l.getD i 0)
theorem Bl.perm {f:Nat->Nat}{l m:List Nat}{a b:Nat}(h:Bl f l a b)(hp:aZ a b l m)(hb:b<=l.length):Bl f m a b:=by
 rcases h with h|h
 ·exact .inl h
 ·by_cases ha:a=0
  ·exact .inl ha
  ·refine .inr fun i h1 h2=>?_;rw[hp.2 (a - 1) (by omega)];exact hp.all hb (p:=fun x=>f (l.getD (a - 1) 0)<f x) h i h1 h2
def dU (k c:Nat):Prop:=c=2*k+1\/c=2*k+2
def gJ (f:Nat->Nat)(l:List Nat)(a lo hi:Nat):Prop:=∀ k c,lo<=k->dU k c->c<hi->f (l.getD (a+c) 0)<=f (l.getD (a+k) 0)
def lz (f:Nat->Nat)(l:List Nat)(a lo hi r:Nat):Prop :=
 (∀ k c,lo<=k->k≠r->dU k c->c<hi->f (l.getD (a+c) 0)<=f (l.getD (a+k) 0))/\∀ k c,lo<=k->dU k r->dU r c->c<hi->f (l.getD (a+c) 0)<=f (l.getD (a+k) 0)
theorem lz.start {f:Nat->Nat}{l:List Nat}{a lo hi:Nat}(h:gJ f l a (lo+1) hi):lz f l a lo hi lo :=
 ⟨fun k c h1 h2 h3 h4=>h k c (by omega) h3 h4,fun k c h1 h2 h3 h4=>by unfold dU at h2;omega⟩
theorem lz.done {f:Nat->Nat}{l:List Nat}{a lo hi r:Nat}(h:lz f l a lo hi r)(hd:∀ c,dU r c->c<hi->f (l.getD (a+c) 0)<=f (l.getD (a+r) 0)):gJ f l a lo hi:=fun k c h1 h3 h4=>by
 by_cases hk:k=r
 ·subst hk;exact hd c h3 h4
 ·exact h.1 k c h1 hk h3 h4
theorem lz.step {f:Nat->Nat}{l:List Nat}{a lo hi r c:Nat}(h:lz f l a lo hi r)(hlo:lo<=r)(hb:a+hi<=l.length)(hc:dU r c)(hci:c<hi)(hmax:∀ d,dU r d->d<hi->f (l.getD (a+d) 0)<=f (l.getD (a+c) 0))(hlt:f (l.getD (a+r) 0)<=f (l.getD (a+c) 0)):
  lz f (bZ l (a+r) (a+c)) a lo hi c:=by
 have hrc:r<c:=by unfold dU at hc;omega
 have g:=fun k=>qE (l:=l) (i:=a+r) (j:=a+c) (by omega) (by omega) (a+k);have gk:∀ k,k≠r->k≠c->(bZ l (a+r) (a+c)).getD (a+k) 0=l.getD (a+k) 0:=fun k h1 h2=>by rw[g,if_neg (by omega),if_neg (by omega)]
 have gr:(bZ l (a+r) (a+c)).getD (a+r) 0=l.getD (a+c) 0:=by rw[g,if_neg (by omega),if_pos rfl]
 have gc:(bZ l (a+r) (a+c)).getD (a+c) 0=l.getD (a+r) 0:=by rw[g,if_pos rfl]
 constructor
 ·intro k d h1 h2 h3 h4;by_cases hk:k=r
  ·subst hk;rw[gr];by_cases hd:d=c
   ·subst hd;rw[gc];exact hlt
   ·rw[gk d (by unfold dU at h3;omega) hd];exact hmax d h3 h4
  ·rw[gk k hk h2];by_cases hd:d=r
   ·subst hd;rw[gr];exact h.2 k c h1 h3 hc hci
   ·rw[gk d hd (by unfold dU at h3 hc;omega)];exact h.1 k d h1 hk h3 h4
 ·intro k d h1 h2 h3 h4;obtain rfl:k=r:=by unfold dU at h2 hc;omega
  rw[gr,gk d (by unfold dU at h3;omega) (by unfold dU at h3;omega)];exact h.1 c d (by omega) (by omega) h3 h4
theorem gJ.N1 {f:Nat->Nat}{l:List Nat}{a lo hi:Nat}(h:hi<=2*lo+1):gJ f l a lo hi:=fun k c h1 h2 h3=>by unfold dU at h2;omega
theorem gJ.max {f:Nat->Nat}{l:List Nat}{a hi:Nat}(h:gJ f l a 0 hi):∀ k,k<hi->f (l.getD (a+k) 0)<=f (l.getD a 0):=by
 intro k
 induction k using Nat.strongRecOn with
 | _ k ih =>
  intro hk;by_cases h0:k=0
  ·subst h0;exact Nat.le_refl _
  ·have h1:=h ((k - 1) / 2) k (by omega) (by unfold dU;omega) hk;exact Nat.le_trans h1 (ih _ (by omega) (by omega))
theorem gJ.pop {f:Nat->Nat}{l:List Nat}{a i:Nat}(h:gJ f l a 0 (i+1))(hb:a+i<l.length):gJ f (bZ l a (a+i)) a 1 i:=by
 intro k c h1 h2 h3;have g:=fun k=>qE (l:=l) (i:=a) (j:=a+i) (by omega) (by omega) (a+k);rw[g,g,if_neg (by omega),if_neg (by unfold dU at h2;omega),if_neg (by unfold dU at h2;omega),if_neg (by omega)];exact h k c (by omega) h2 (by omega)
def lC (f:Nat->Nat)(l:List Nat)(a m b:Nat):Prop:=∀ i j,a<=i->i<j->j<b->m<=j->f (l.getD i 0)<=f (l.getD j 0)
theorem lC.start {f:Nat->Nat}{l:List Nat}{a b:Nat}:lC f l a b b:=fun i j h1 h2 h3 h4=>by omega
theorem lC.done {f:Nat->Nat}{l:List Nat}{a b:Nat}(h:lC f l a a b):db f l a b:=fun i j h1 h2 h3=>h i j h1 h2 h3 (by omega)
theorem lC.step {f:Nat->Nat}{l m:List Nat}{a i b:Nat}(h:lC f l a (a+(i+1)) b)(hh:gJ f l a 0 (i+1))(hi:a+i<b)(hb:b<=l.length)(hp:aZ a (a+i) (bZ l a (a+i)) m):lC f m a (a+i) b:=by
 have g:=fun k=>qE (l:=l) (i:=a) (j:=a+i) (by omega) (by omega) k;have mx:=hh.max;have sl:(bZ l a (a+i)).length=l.length:=Pg ..;have big:∀ k,a<=k->k<a+i->f ((bZ l a (a+i)).getD k 0)<=f (l.getD a 0):=fun k h1 h2=>by
  rw[g,if_neg (by omega)];split
  ·have:=mx i (by omega);exact this
  ·have:=mx (k - a) (by omega);rw[show a+(k - a)=k by omega]at this;exact this
 have big':=hp.all (by omega) (p:=fun x=>f x<=f (l.getD a 0)) big;have tail:∀ k,a+i<=k->m.getD k 0=(bZ l a (a+i)).getD k 0:=fun k hk=>hp.2 k (.inr hk);intro x y h1 h2 h3 h4;rw[tail y h4];by_cases hy:y=a+i
 ·subst hy;rw[g,if_pos rfl];exact big' x h1 h2
 ·rw[g,if_neg hy,if_neg (by omega)];rcases Nat.lt_or_ge x (a+i) with hx|hx
  ·have e:∀ z,a<=z->z<a+i->f ((bZ l a (a+i)).getD z 0)<=f (l.getD y 0):=fun z z1 z2=>Nat.le_trans (big z z1 z2) (h a y (by omega) (by omega) h3 (by omega));exact hp.all (by omega) (p:=fun x=>f x<=f (l.getD y 0)) e x h1 hx
  ·rw[tail x hx,g];split
   ·exact h a y (by omega) (by omega) h3 (by omega)
   ·rw[if_neg (by omega)];exact h x y h1 h2 h3 (by omega)
def Out (f:Nat->Nat)(l:List Nat)(a b c d:Nat):Prop:=∀ i j,a<=i->i<j->j<b->(i<c\/d<=j)->f (l.getD i 0)<=f (l.getD j 0)
theorem Out.start {f:Nat->Nat}{l:List Nat}{a b:Nat}:Out f l a b a b:=fun i j h1 h2 h3 h4=>by omega
theorem Out.perm {f:Nat->Nat}{l m:List Nat}{a b c d:Nat}(h:Out f l a b c d)(hp:aZ c d l m)(h1:a<=c)(h2:d<=b)(hb:b<=l.length):Out f m a b c d:=by
 intro i j q1 q2 q3 q4;by_cases hi:c<=i/\i<d
 ·have hj:d<=j:=by omega
  rw[hp.2 j (.inr hj)];exact hp.all (by omega) (p:=fun x=>f x<=f (l.getD j 0)) (fun k k1 k2=>h k j (by omega) (by omega) q3 (.inr hj)) i hi.1 hi.2
 ·rw[hp.2 i (by omega)];by_cases hj:c<=j/\j<d
  ·have hic:i<c:=(by omega);exact hp.all (by omega) (p:=fun x=>f (l.getD i 0)<=f x) (fun k k1 k2=>h i k q1 (by omega) (by omega) (.inl hic)) j hj.1 hj.2
  ·rw[hp.2 j (by omega)];exact h i j q1 q2 q3 q4
theorem Out.done {f:Nat->Nat}{l:List Nat}{a b c d:Nat}(h:Out f l a b c d)(hs:db f l c d):db f l a b:=fun i j h1 h2 h3=>by
 by_cases hc:i<c\/d<=j
 ·exact h i j h1 h2 h3 hc
 ·exact hs i j (by omega) h2 (by omega)
def lD (f:Nat->Nat)(l:List Nat)(c d m:Nat):Prop:=(∀ i,c<=i->i<m->f (l.getD i 0)<=f (l.getD m 0))/\∀ i,m<i->i<d->f (l.getD m 0)<=f (l.getD i 0)
theorem lD.le {f:Nat->Nat}{l:List Nat}{c d m:Nat}(h:lD f l c d m){i j:Nat}(h1:c<=i)(h2:j<d)(h3:i<=m)(h4:m<=j):f (l.getD i 0)<=f (l.getD j 0):=by
 have a1:f (l.getD i 0)<=f (l.getD m 0):=by
  rcases Nat.lt_or_ge i m with q|q
  ·exact h.1 i h1 q
  ·rw[show i=m by omega];exact Nat.le_refl _
 have a2:f (l.getD m 0)<=f (l.getD j 0):=by
  rcases Nat.lt_or_ge m j with q|q
  ·exact h.2 j q h2
  ·rw[show j=m by omega];exact Nat.le_refl _
 omega
theorem Out.left {f:Nat->Nat}{l m:List Nat}{a b c d p:Nat}(h:Out f l a b c d)(hp:lD f l c d p)(h1:c<=p)(h2:p<d)(h3:a<=c)(h4:d<=b)(hb:b<=l.length)(hm:aZ c p l m)(hs:db f m c p):Out f m a b (p+1) d:=by
 have hout:=h.perm (hm.mono (Nat.le_refl _) (show p<=d by omega)) h3 h4 hb;have hm':lD f m c d p:=by
  have ep:=hm.2 p (.inr (Nat.le_refl _));refine⟨fun i i1 i2=>?_,fun i i1 i2=>?_⟩
  ·rw[ep];exact hm.all (by omega) (p:=fun x=>f x<=f (l.getD p 0)) hp.1 i i1 i2
  ·rw[ep,hm.2 i (by omega)];exact hp.2 i i1 i2
 intro i j q1 q2 q3 q4;by_cases hc:i<c\/d<=j
 ·exact hout i j q1 q2 q3 hc
 ·rcases Nat.lt_or_ge j p with hj|hj
  ·exact hs i j (by omega) q2 hj
  ·exact hm'.le (by omega) (by omega) (by omega) hj
theorem Out.right {f:Nat->Nat}{l m:List Nat}{a b c d p:Nat}(h:Out f l a b c d)(hp:lD f l c d p)(h1:c<=p)(h2:p<d)(h3:a<=c)(h4:d<=b)(hb:b<=l.length)(hm:aZ (p+1) d l m)(hs:db f m (p+1) d):Out f m a b c p:=by
 have hout:=h.perm (hm.mono (show c<=p+1 by omega) (Nat.le_refl _)) h3 h4 hb;have hm':lD f m c d p:=by
  have ep:=hm.2 p (.inl (by omega));refine⟨fun i i1 i2=>?_,fun i i1 i2=>?_⟩
  ·rw[ep,hm.2 i (by omega)];exact hp.1 i i1 i2
  ·rw[ep];exact hm.all (by omega) (p:=fun x=>f (l.getD p 0)<=f x) (fun k k1 k2=>hp.2 k (by omega) k2) i (by omega) i2
 intro i j q1 q2 q3 q4;by_cases hc:i<c\/d<=j
 ·exact hout i j q1 q2 q3 hc
 ·rcases Nat.lt_or_ge p i with hi|hi
  ·exact hs i j (by omega) q2 (by omega)
  ·exact hm'.le (by omega) (by omega) hi (by omega)
theorem Out.bl {f:Nat->Nat}{l:List Nat}{a b c d:Nat}(h:Out f l a b c d)(hB:Bl f l a b)(hD:jW f l)(h1:a<=c)(h2:d<=b)(hb:b<=l.length):Bl f l c d:=by
 by_cases hc:c=a
 ·subst hc;rcases hB with q|q
  ·exact .inl q
  ·exact .inr fun i i1 i2=>q i i1 (by omega)
 ·refine .inr fun i i1 i2=>?_;have h1:=h (c - 1) i (by omega) (by omega) (by omega) (.inl (by omega));have h2:=hD.ne (i:=c - 1) (j:=i) (by omega) (by omega) (by omega);omega
structure SH (cv:AVal)(f:Nat->Nat)(rid:Nat)(rb:Blk)(id g n:Nat)(l:List Nat)(H:AHeap):Prop where
 hl:l.length=n
 hn:n<=1024
 hg:H.get id=some (nB g l)
 hr:H.get rid=some rb
 ne:rid≠id
 il:id<H.next
 rl:rid<H.next
 cmp:BK cv f l fun Hx=>Hx.get rid=some rb
section
variable {cv:AVal} {f:Nat->Nat} {rid:Nat} {rb:Blk} {id g n:Nat} {l q:List Nat} {H H':AHeap}
theorem SH.upd (S:SH cv f rid rb id g n l H)(hp:q.Perm l):SH cv f rid rb id g n q (H.upd id (nB g q)) :=
 ⟨by rw[hp.length_eq,S.hl],S.hn,by rw[ag,if_pos rfl],by rw[ag,if_neg S.ne];exact S.hr,S.ne,S.il,S.rl,fun a b ha hb=>S.cmp a b (hp.mem_iff.1 ha) (hp.mem_iff.1 hb)⟩
theorem SH.over (S:SH cv f rid rb id g n l H)(ho:Over H H'):SH cv f rid rb id g n l H' :=
 ⟨S.hl,S.hn,(ho.old _ S.il).trans S.hg,(ho.old _ S.rl).trans S.hr,S.ne,by have:=S.il;have:=ho.next;omega,by have:=S.rl;have:=ho.next;omega,S.cmp⟩
theorem SH.live (S:SH cv f rid rb id g n l H):H.live id g=some (3,ints (dE l)):=ak S.hg
theorem SH.len (S:SH cv f rid rb id g n l H):(ints (dE l)).length=n:=by rw[aO,oK,S.hl]
theorem SH.cell (S:SH cv f rid rb id g n l H){i:Nat}(hi:i<n):(ints (dE l))[i]?=some (.lit (.int .i64 ((l.getD i 0:Nat):Int))):=by
 rw[fa,xx (jx (by rw[S.hl];exact hi))];rfl
theorem SH.ask (S:SH cv f rid rb id g n l H){i j:Nat}(hi:i<n)(hj:j<n):∃ z:Int,(z<0↔f (l.getD i 0)<f (l.getD j 0))/\∀ K,K (.ret (aa z)) H->aw Try.prog G0 cv [.lit (.int .i64 ((l.getD i 0:Nat):Int)),.lit (.int .i64 ((l.getD j 0:Nat):Int))] H K :=
 S.cmp _ _ (List.mem_of_getElem? (jx (by rw[S.hl];exact hi))) (List.mem_of_getElem? (jx (by rw[S.hl];exact hj))) H S.hr
theorem SH.s1 (S:SH cv f rid rb id g n l H){i:Nat}(hi:i<n)(x:Nat):setAt (ints (dE l)) i [.lit (.int .i64 (x:Int))]=ints (dE (l.set i x)):=by
 rw[dF (by rw[oK,S.hl];exact hi),BF]
theorem SH.ig (S:SH cv f rid rb id g n l H)(i x:Nat):(ints (dE (l.set i x))).length=n:=by rw[aO,oK,List.length_set,S.hl]
theorem SH.ij (_S:SH cv f rid rb id g n l H)(q:List Nat):(H.upd id (.arr g 3 (ints (dE q)))).live id g=some (3,ints (dE q)):=ak (by rw[ag,if_pos rfl])
theorem SH.s2 (S:SH cv f rid rb id g n l H){i j:Nat}(hj:j<n):setAt (ints (dE (l.set i (l.getD j 0)))) j [.lit (.int .i64 ((l.getD i 0:Nat):Int))]=ints (dE (bZ l i j)):=by
 rw[dF (by rw[oK,List.length_set,S.hl];exact hj),BF];rfl
theorem SH.u2 (_S:SH cv f rid rb id g n l H)(p q:List Nat):(H.upd id (.arr g 3 (ints (dE p)))).upd id (.arr g 3 (ints (dE q)))=H.upd id (nB g q):=lq ..
theorem SH.self (S:SH cv f rid rb id g n l H):H.upd id (nB g l)=H:=BE S.hg
end
theorem dP (H:AHeap)(id g:Nat)(p q:List Nat):(H.upd id (nB g p)).upd id (nB g q)=H.upd id (nB g q):=lq ..
section
variable {cv:AVal} {f:Nat->Nat} {rid:Nat} {rb:Blk} {id g n a b:Nat} {l:List Nat} {H:AHeap}
set_option maxHeartbeats 4000000 in
theorem N2 (S:SH cv f rid rb id g n l H)(hab:a<b)(hb:b<=n)(K:ARes->AHeap->Prop)(hK:∀ q,aZ a b l q->K (.ret (.tup [])) (H.upd id (nB g q))):
  af Try.prog G0 100 [.own id g 0 n 1,aa a,aa b,cv] H K:=by
 have hn:=S.hn;have w0:IntKind.i64.wrap ((b:Int) - 1)=((b - 1:Nat):Int):=by rw[IntWalk.i64_in _ (by omega)];omega
 refine af.dv (n:=34) (rs:=[]) Try.func100 rfl rfl rfl (by decide) (by simp) ?_;refine W.seq (ab _ _ _ (by rfl) ?_);simp only[go_sem];refine W.seq (ab _ _ _ (by rfl) ?_);simp only[go_sem,w0];refine W.env fun E hE=>?_;have e0:E 0=.own id g 0 n 1:=by rw[hE];simp only[go_sem]
 have e8:E 8=aa a:=by rw[hE];simp only[go_sem]
 have e9:E 9=aa ((b - 1:Nat):Int):=by rw[hE];simp only[go_sem]
 clear hE;refine W.block ?_;refine W.aI 17179861760 (by rfl) (fun ρ Hx=>∃ (i:Nat) (j:Int) (q:List Nat),ρ 8=aa i/\ρ 9=aa j/\a<=i/\j<b/\i+j=(a:Int)+b - 1/\aZ a b l q/\Hx=H.upd id (nB g q)) (fun ρ Hx=>(iv (ρ 9)+1).toNat) ?_ ?_
 ·exact⟨a,_,l,e8,e9,Nat.le_refl _,by omega,by omega,.refl _ _ _,S.self.symm⟩
 rintro ρ Hx ⟨i,j,q,h8,h9,hi,hj,hij,hp,hHx⟩;refine W.env fun E1 hE1=>?_;have f0:E1 0=.own id g 0 n 1:=by rw[hE1];simp only[go_sem,e0]
 have f8:E1 8=aa i:=by rw[hE1];simp only[go_sem,h8]
 have f9:E1 9=aa j:=by rw[hE1];simp only[go_sem,h9]
 clear hE1;by_cases hlt:(i:Int)<j;rotate_left
 ·refine ab _ _ _ (by rfl) ?_;simp only[go_sem,f8,f9,hlt];rw[hHx];exact av.mk (by rw[aA];exact Nat.le_refl _) (hK q hp)
 obtain⟨j,rfl⟩:=Int.eq_ofNat_of_zero_le (show 0<=j by omega);have T:=S.upd hp.1;rw[<- hHx]at T;have b1:(i:Int)<n:=by omega
 have b2:(j:Int)<n:=by omega
 have w1:=IntWalk.i64_in ((i:Int)+1) (by omega);have w2:=IntWalk.i64_in ((j:Int) - 1) (by omega);refine W.seq (ab _ _ _ (by rfl) ?_);simp only[go_sem,f8,f9,hlt];refine W.block (W.seq ?_);refine W.draw 14 [0,0,0,0,0,0,48,112,0,0,768,1792,4083,8179] Try.mixed (by kernel_rfl) (by kernel_rfl) ?_;simp only[go_sem,f0,f8,f9,T.live,T.len,T.cell (show i<n by omega),T.cell (show j<n by omega),b1,b2,T.s1 (show i<n by omega),T.s2 (i:=i) (show j<n by omega),T.ig,T.ij];refine⟨by omega,by omega,?_⟩;refine ab _ _ _ (by rfl) ?_;simp only[go_sem,f8,f9,w1,w2];refine⟨by rw[hHx];exact Nat.le_refl _,⟨i+1,(j:Int) - 1,bZ q i j,rfl,rfl,by omega,by omega,by omega,hp.trans (.swap (by omega) (by omega) (by omega) (by omega) (by rw[hp.len,S.hl];exact hb)),?_⟩,by rw[h9];simp only[aa,aK];omega⟩;rw[T.u2,hHx,dP]
end
end Go.Proofs
namespace Go.Proofs
open Go.Hx
def kA (f:Nat->Nat)(l:List Nat)(a i j:Nat):Prop:=(∀ x y,a<=x->x<y->y<=i->x≠j->y≠j->f (l.getD x 0)<=f (l.getD y 0))/\∀ y,j<y->y<=i->f (l.getD j 0)<=f (l.getD y 0)
theorem kA.start {f:Nat->Nat}{l:List Nat}{a i:Nat}(h:db f l a i):kA f l a i i:=⟨fun x y h0 h1 h2 h3 h4=>h x y h0 h1 (by omega),fun b h1 h2=>by omega⟩
theorem kA.done {f:Nat->Nat}{l:List Nat}{a i j:Nat}(h:kA f l a i j)(hj:j<=i)(hd:j<=a\/f (l.getD (j - 1) 0)<=f (l.getD j 0)):db f l a (i+1):=by
 intro x y h0 h1 h2;by_cases hb:y=j
 ·subst hb;rcases hd with h3|h3
  ·omega
  ·by_cases ha:x=y - 1
   ·rw[ha];exact h3
   ·exact Nat.le_trans (h.1 x (y - 1) h0 (by omega) (by omega) (by omega) (by omega)) h3
 ·by_cases ha:x=j
  ·subst ha;exact h.2 y h1 (by omega)
  ·exact h.1 x y h0 h1 (by omega) ha hb
theorem kA.step {f:Nat->Nat}{l:List Nat}{a i j:Nat}(h:kA f l a i j)(hj:j<=i)(hi:i<l.length)(h0:a<j)(hlt:f (l.getD j 0)<f (l.getD (j - 1) 0)):kA f (bZ l j (j - 1)) a i (j - 1):=by
 have g:=Ph (l:=l) (i:=j) (j:=j - 1) (by omega) (by omega) (by omega);constructor
 ·intro x y hx h1 h2 h3 h4;rw[g x,g y,if_neg h3,if_neg h4];by_cases ha:x=j
  ·rw[if_pos ha,if_neg (by omega)];exact h.1 (j - 1) y (by omega) (by omega) h2 (by omega) (by omega)
  ·rw[if_neg ha];by_cases hb:y=j
   ·rw[if_pos hb];exact h.1 x (j - 1) hx (by omega) (by omega) ha (by omega)
   ·rw[if_neg hb];exact h.1 x y hx h1 h2 ha hb
 ·intro b h1 h2;rw[g (j - 1),if_pos rfl,g b,if_neg (by omega)];by_cases hb:b=j
  ·rw[if_pos hb];exact Nat.le_of_lt hlt
  ·rw[if_neg hb];exact h.2 b (by omega) h2
section
variable {cv:AVal} {f:Nat->Nat} {rid:Nat} {rb:Blk} {id g n a b:Nat} {l:List Nat} {H:AHeap}
set_option maxHeartbeats 4000000 in
theorem N3 (S:SH cv f rid rb id g n l H)(hab:a<=b)(hb:b<=n)(K:ARes->AHeap->Prop)(hK:∀ q,aZ a b l q->db f q a b->K (.ret (.tup [])) (H.upd id (nB g q))):
  af Try.prog G0 96 [.own id g 0 n 1,aa a,aa b,cv] H K:=by
 have hn:=S.hn;have w0:=IntWalk.i64_in ((a:Int)+1) (by omega);refine af.dv (n:=53) (rs:=[]) Try.func96 rfl rfl rfl (by decide) (by simp) ?_;refine W.seq (ab _ _ _ (by rfl) ?_);simp only[go_sem,w0];refine W.env fun E hE=>?_;have e0:E 0=.own id g 0 n 1:=by rw[hE];simp only[go_sem]
 have e1:E 1=aa a:=by rw[hE];simp only[go_sem]
 have e2:E 2=aa b:=by rw[hE];simp only[go_sem]
 have e3:E 3=cv:=by rw[hE];simp only[go_sem]
 have e8:E 8=aa ((a+1:Nat):Int):=by rw[hE];simp only[go_sem];rfl
 clear hE;refine W.block ?_;refine W.aI 9007199254737664 (by rfl) (fun ρ Hx=>∃ (i:Nat) (q:List Nat),ρ 8=aa i/\a<i/\(i<=b\/i=a+1)/\aZ a b l q/\db f q a i/\Hx=H.upd id (nB g q)) (fun ρ Hx=>b+1 - (iv (ρ 8)).toNat) ?_ ?_
 ·exact⟨a+1,l,e8,by omega,.inr rfl,.refl _ _ _,fun x y h1 h2 h3=>by omega,S.self.symm⟩
 rintro ρ Hx ⟨i,q,h8,hi1,hi,hq,hS,hHx⟩;refine W.env fun E1 hE1=>?_;have f0:E1 0=.own id g 0 n 1:=by rw[hE1];simp only[go_sem,e0]
 have f1:E1 1=aa a:=by rw[hE1];simp only[go_sem,e1]
 have f2:E1 2=aa b:=by rw[hE1];simp only[go_sem,e2]
 have f3:E1 3=cv:=by rw[hE1];simp only[go_sem,e3]
 have f8:E1 8=aa i:=by rw[hE1];simp only[go_sem,h8]
 clear hE1;by_cases hib:(i:Int)<b;rotate_left
 ·refine ab _ _ _ (by rfl) ?_;simp only[go_sem,f8,f2,hib];rw[hHx];exact av.mk (by rw[aA];exact Nat.le_refl _) (hK q hq fun x y h1 h2 h3=>hS x y h1 h2 (by omega))
 refine W.seq (ab _ _ _ (by rfl) ?_);simp only[go_sem,f8,f2,hib];refine W.seq (W.block ?_);refine W.seq (ab _ _ _ (by rfl) ?_);simp only[go_sem,f8];refine W.env fun E2 hE2=>?_;have m0:E2 0=.own id g 0 n 1:=by rw[hE2];simp only[go_sem,f0]
 have m1:E2 1=aa a:=by rw[hE2];simp only[go_sem,f1]
 have m3:E2 3=cv:=by rw[hE2];simp only[go_sem,f3]
 have m8:E2 8=aa i:=by rw[hE2];simp only[go_sem,f8]
 have m9:E2 9=aa i:=by rw[hE2];simp only[go_sem]
 clear hE2;refine W.block ?_;refine W.aI 9007199254479360 (by rfl) (fun ρ Hz=>∃ (j:Nat) (p:List Nat),ρ 9=aa j/\a<=j/\j<=i/\aZ a b l p/\kA f p a i j/\Hz=H.upd id (nB g p)) (fun ρ Hz=>(iv (ρ 9)).toNat) ?_ ?_
 ·exact⟨i,q,m9,by omega,Nat.le_refl _,hq,.start hS,hHx⟩
 rintro ρ2 Hz ⟨j,p,h9,haj,hj,hp,hIn,hHz⟩;refine W.env fun E3 hE3=>?_;have u0:E3 0=.own id g 0 n 1:=by rw[hE3];simp only[go_sem,m0]
 have u1:E3 1=aa a:=by rw[hE3];simp only[go_sem,m1]
 have u3:E3 3=cv:=by rw[hE3];simp only[go_sem,m3]
 have u8:E3 8=aa i:=by rw[hE3];simp only[go_sem,m8]
 have u9:E3 9=aa j:=by rw[hE3];simp only[go_sem,h9]
 clear hE3;have T:=S.upd hp.1;rw[<- hHz]at T;have i1:i<n:=by omega
 refine W.seq (W.da (fun s'=>s'.H=Hz/\s'.ρ 0=.own id g 0 n 1/\s'.ρ 8=aa i/\s'.ρ 9=aa j/\s'.ρ 34=.lit (.bool (decide (a<j) && decide (f (p.getD j 0)<f (p.getD (j - 1) 0))))) ?_ ?_)
 ·refine W.draw 14 [0,0,3,7,15,15,15,111,239,15,15,1039,3599,7695] Try.mixed (by kernel_rfl) (by kernel_rfl) ?_;by_cases hjb:(j:Int) > a
  ·have wj:IntKind.i64.wrap ((j:Int) - 1)=((j - 1:Nat):Int):=(by rw[IntWalk.i64_in _ (by omega)];omega);have b1:(j:Int)<n:=(by omega);have b2:((j - 1:Nat):Int)<n:=(by omega);simp only[go_sem,u0,u1,u3,u9,T.live,hjb,wj,T.cell (show j<n by omega),T.cell (show j - 1<n by omega),b1,b2];obtain⟨z,hz,hc⟩:=T.ask (show j<n by omega) (show j - 1<n by omega);refine hc _ ⟨trivial,?_⟩;have hd1:decide (a<j)=true:=decide_eq_true (by omega);rw[hd1];by_cases hlt:f (p.getD j 0)<f (p.getD (j - 1) 0)
   ·have hlt':=hz.2 hlt;simp only[go_sem,u0,u8,u9,hlt',hlt]
    try rfl
   ·have hlt':¬ z<0:=fun h=>hlt (hz.1 h);simp only[go_sem,u0,u8,u9,hlt',hlt]
    try rfl
  ·simp only[go_sem,u0,u1,u8,u9,hjb];have hj0:decide (a<j)=false:=decide_eq_false (by omega);rw[hj0];rfl
 rintro⟨ρ3,Hq⟩ ⟨hHq,v0,v8,v9,v34⟩;simp only at hHq v0 v8 v9 v34;rw[hHq];clear hHq Hq;cases hfl:(decide (a<j) && decide (f (p.getD j 0)<f (p.getD (j - 1) 0))) with
 | false =>
  rw[hfl]at v34;refine W.cond (t:=false) v34 ?_;refine ab _ _ _ (by rfl) ?_;simp only[go_sem];have wi:=IntWalk.i64_in ((i:Int)+1) (by omega);have hd:j<=a\/f (p.getD (j - 1) 0)<=f (p.getD j 0):=by
   by_cases h0:j<=a
   ·exact .inl h0
   ·rw[decide_eq_true (by omega:a<j),Bool.true_and,decide_eq_false_iff_not]at hfl;exact .inr (by omega)
  have hS':=hIn.done hj hd;refine ab _ _ _ (by rfl) ?_;simp only[go_sem,v8,wi];exact⟨by rw[hHz,aA];exact Nat.le_refl _,⟨i+1,p,rfl,by omega,by omega,hp,hS',hHz⟩,by rw[h8];simp only[aa,aK];omega⟩
 | true =>
  rw[hfl]at v34;refine W.cond (t:=true) v34 ?_;have hfl2:a<j/\f (p.getD j 0)<f (p.getD (j - 1) 0):=by simpa using hfl
  have wj:IntKind.i64.wrap ((j:Int) - 1)=((j - 1:Nat):Int):=by rw[IntWalk.i64_in _ (by omega)];omega
  have b1:(j:Int)<n:=by omega
  have b2:((j - 1:Nat):Int)<n:=by omega
  refine ab _ _ _ (by rfl) ?_;simp only[go_sem];refine W.seq (W.block ?_);refine W.draw 16 [0,0,0,0,8,0,0,64,224,480,0,0,3072,7168,16355,32739] Try.mixed (by kernel_rfl) (by kernel_rfl) ?_;simp only[go_sem,v0,v9,T.live,T.len,wj,T.cell (show j<n by omega),T.cell (show j - 1<n by omega),b1,b2,T.s1 (show j<n by omega),T.s2 (i:=j) (show j - 1<n by omega),T.ig,T.ij];refine⟨by omega,by omega,ab _ _ _ (by rfl) ?_⟩;simp only[go_sem,v9,wj];refine⟨by rw[hHx,hHz];simp only[aA];exact Nat.le_refl _,⟨j - 1,bZ p j (j - 1),rfl,by omega,by omega,hp.trans (.swap (by omega) (by omega) (by omega) (by omega) (by rw[hp.len,S.hl];exact hb)),hIn.step hj (by rw[hp.len,S.hl];exact i1) hfl2.1 hfl2.2,?_⟩,by rw[h9];simp only[aa,aK];omega⟩;rw[T.u2,hHz,dP]
end
end Go.Proofs
namespace Go.Proofs
open Go.Hx
section
variable {cv:AVal} {f:Nat->Nat} {rid:Nat} {rb:Blk} {id g n a b:Nat} {l:List Nat} {H:AHeap}
def jo (f:Nat->Nat)(q:List Nat)(a b i j:Nat):Prop:=a<i/\i<=j+1/\j<b/\(∀ k,a<k->k<i->f (q.getD k 0)<f (q.getD a 0))/\∀ k,j<k->k<b->f (q.getD a 0)<=f (q.getD k 0)
theorem jo.done {f:Nat->Nat}{q:List Nat}{a b i j:Nat}(h:jo f q a b i j)(hij:j<i)(hb:b<=q.length):lD f (bZ q j a) a b j:=by
 obtain⟨h1,h2,h3,h4,h5⟩:=h;have g:=fun k=>qE (l:=q) (i:=j) (j:=a) (by omega) (by omega) k;have ej:(bZ q j a).getD j 0=q.getD a 0:=by
  rw[g];split
  ·rename_i e;rw[e]
  ·rw[if_pos rfl]
 refine⟨fun k k1 k2=>?_,fun k k1 k2=>?_⟩
 ·rw[ej,g];split
  ·exact Nat.le_of_lt (h4 j (by omega) (by omega))
  ·rw[if_neg (by omega)];exact Nat.le_of_lt (h4 k (by omega) (by omega))
 ·rw[ej,g,if_neg (by omega),if_neg (by omega)];exact h5 k k1 k2
theorem jo.swap {f:Nat->Nat}{q:List Nat}{a b i j:Nat}(h:jo f q a b i j)(hij:i<=j)(hb:b<=q.length)(hi:¬ f (q.getD i 0)<f (q.getD a 0))(hj:f (q.getD j 0)<f (q.getD a 0)):i<j/\jo f (bZ q i j) a b (i+1) (j - 1):=by
 obtain⟨h1,h2,h3,h4,h5⟩:=h;have hne:i≠j:=fun e=>hi (e ▸ hj);have g:=fun k=>qE (l:=q) (i:=i) (j:=j) (by omega) (by omega) k;have ea:(bZ q i j).getD a 0=q.getD a 0:=by rw[g,if_neg (by omega),if_neg (by omega)]
 refine⟨by omega,by omega,by omega,by omega,fun k k1 k2=>?_,fun k k1 k2=>?_⟩
 ·rw[ea,g,if_neg (by omega)];split
  ·exact hj
  ·exact h4 k k1 (by omega)
 ·rw[ea,g];split
  ·exact Nat.le_of_not_lt hi
  ·rw[if_neg (by omega)];exact h5 k (by omega) k2
theorem jo.scan {f:Nat->Nat}{q:List Nat}{a b i j x y:Nat}(h:jo f q a b i j)(h1:i<=x)(h2:x<=j+1)(h3:∀ k,i<=k->k<x->f (q.getD k 0)<f (q.getD a 0))(h4:y<=j)(h5:x<=y+1)(h6:∀ k,y<k->k<=j->f (q.getD a 0)<=f (q.getD k 0)):jo f q a b x y:=by
 obtain⟨p1,p2,p3,p4,p5⟩:=h;refine⟨by omega,by omega,by omega,fun k k1 k2=>?_,fun k k1 k2=>?_⟩
 ·rcases Nat.lt_or_ge k i with hk|hk
  ·exact p4 k k1 hk
  ·exact h3 k hk k2
 ·rcases Nat.lt_or_ge j k with hk|hk
  ·exact p5 k hk k2
  ·exact h6 k k1 hk
set_option maxHeartbeats 16000000 in
theorem N4 {p:Nat}(S:SH cv f rid rb id g n l H)(hap:a<=p)(hpb:p<b)(hb:b<=n)(K:ARes->AHeap->Prop)(hK:∀ q m fl,aZ a b l q->lD f q a b m->a<=m->m<b->K (.ret (.tup [aa (m:Nat),.lit (.bool fl)])) (H.upd id (nB g q))):
  af Try.prog G0 103 [.own id g 0 n 1,aa a,aa b,aa p,cv] H K:=by
 have hn:=S.hn;have ba:(a:Int)<n:=by omega
 have bp:(p:Int)<n:=by omega
 have w0:IntKind.i64.wrap ((a:Int)+1)=((a+1:Nat):Int):=by rw[IntWalk.i64_in _ (by omega)];omega
 have w1:IntKind.i64.wrap ((b:Int) - 1)=((b - 1:Nat):Int):=by rw[IntWalk.i64_in _ (by omega)];omega
 refine af.dv (n:=178) (rs:=[.tmp 10,.tmp 11]) Try.func103 rfl rfl rfl (by decide) (by simp) ?_;refine W.seq (ab _ _ _ (by rfl) ?_);simp only[go_sem];refine W.seq ?_;refine W.draw 14 [0,0,0,0,0,0,48,112,0,0,768,1792,4083,8179] Try.mixed (by kernel_rfl) (by kernel_rfl) ?_;simp only[go_sem,S.live,S.len,S.cell (show a<n by omega),S.cell (show p<n by omega),ba,bp,S.s1 (show a<n by omega),S.s2 (i:=a) (show p<n by omega),S.ig,S.ij];refine⟨by omega,by omega,?_⟩;rw[S.u2];obtain⟨q0,hq0⟩:∃ q0,q0=bZ l a p:=⟨_,rfl⟩
 rw[<- hq0];have hp0:aZ a b l q0:=by rw[hq0];exact .swap (Nat.le_refl _) (by omega) hap hpb (by rw[S.hl];exact hb)
 clear hq0;have T0:=S.upd hp0.1;obtain⟨H0,hH0⟩:∃ H0,H0=H.upd id (nB g q0):=⟨_,rfl⟩
 have n0:H0.next=H.next:=by rw[hH0];rfl
 rw[<- hH0]at T0 ⊢;refine W.seq (ab _ _ _ (by rfl) ?_);simp only[go_sem,w0,w1];refine W.env fun E hE=>?_;have e0:E 0=.own id g 0 n 1:=by rw[hE];simp only[go_sem]
 have e1:E 1=aa a:=by rw[hE];simp only[go_sem]
 have e4:E 4=cv:=by rw[hE];simp only[go_sem]
 have e12:E 12=aa ((a+1:Nat):Int):=by rw[hE];simp only[go_sem]
 have e13:E 13=aa ((b - 1:Nat):Int):=by rw[hE];simp only[go_sem]
 clear hE;have I0:jo f q0 a b (a+1) (b - 1):=⟨by omega,by omega,by omega,fun k k1 k2=>by omega,fun k k1 k2=>by omega⟩
 obtain⟨i0,hi0⟩:∃ i0,i0=a+1:=⟨_,rfl⟩
 obtain⟨j0,hj0⟩:∃ j0,j0=b - 1:=⟨_,rfl⟩
 rw[<- hi0]at e12 I0;rw[<- hj0]at e13 I0;refine W.da (fun s'=>s'.H=H0/\s'.ρ 0=.own id g 0 n 1/\s'.ρ 1=aa a/\s'.ρ 4=cv/\s'.ρ 13=aa j0/\∃ u:Nat,s'.ρ 12=aa u/\(i0<=u/\u<=j0+1/\∀ k,i0<=k->k<u->f ((q0).getD k 0)<f ((q0).getD a 0))/\(u<=j0->¬ f ((q0).getD u 0)<f ((q0).getD a 0))) ?_ ?_
 ·refine W.block ?_;refine W.aI 1125895611879424 (by kernel_rfl) (fun ρ Hk=>Hk=H0/\∃ u:Nat,ρ 12=aa u/\(i0<=u/\u<=j0+1/\∀ k,i0<=k->k<u->f ((q0).getD k 0)<f ((q0).getD a 0))) (fun ρ _=>j0+1 - (iv (ρ 12)).toNat) ?_ ?_
  ·exact⟨rfl,i0,e12,Nat.le_refl _,by omega,fun k h1 h2=>by omega⟩
  rintro ρ Hk ⟨hHk,u,hx,x1,x2,x3⟩;rw[hHk];refine W.env fun F hF=>?_;have d0:F 0=.own id g 0 n 1:=by rw[hF];simp only[go_sem,e0]
  have d1:F 1=aa a:=by rw[hF];simp only[go_sem,e1]
  have d4:F 4=cv:=by rw[hF];simp only[go_sem,e4]
  have d12:F 12=aa u:=by rw[hF];simp only[go_sem,hx]
  have d13:F 13=aa j0:=by rw[hF];simp only[go_sem,e13]
  clear hF;refine W.seq (W.da (fun s'=>s'.H=H0/\s'.ρ 0=.own id g 0 n 1/\s'.ρ 1=aa a/\s'.ρ 4=cv/\s'.ρ 12=aa u/\s'.ρ 13=aa j0/\s'.ρ 47=.lit (.bool (decide (u<=j0) && decide (f ((q0).getD u 0)<f ((q0).getD a 0))))) ?_ ?_)
  ·refine W.draw 13 [0,0,3,7,15,15,15,111,239,15,15,1551,3599] Try.mixed (by kernel_rfl) (by kernel_rfl) ?_;by_cases hc:(u:Int)<=j0
   ·have b1:(u:Int)<n:=(by omega);simp only[go_sem,d0,d1,d4,d12,d13,T0.live,hc,T0.cell (show u<n by omega),T0.cell (show a<n by omega),b1,ba];obtain⟨z,hz,hcc⟩:=T0.ask (show u<n by omega) (show a<n by omega);refine hcc _ ⟨trivial,?_⟩;have hd1:decide (u<=j0)=true:=decide_eq_true (by omega);rw[hd1];by_cases hlt:f ((q0).getD u 0)<f ((q0).getD a 0)
    ·have hlt':=hz.2 hlt;simp only[go_sem,d0,d1,d4,d12,d13,hlt',hlt]
     try rfl
    ·have hlt':¬ z<0:=fun h=>hlt (hz.1 h);simp only[go_sem,d0,d1,d4,d12,d13,hlt',hlt]
     try rfl
   ·simp only[go_sem,d0,d1,d4,d12,d13,hc];have hj0:decide (u<=j0)=false:=decide_eq_false (by omega);rw[hj0];rfl
  rintro⟨ρ3,Hs⟩ ⟨hHs,v0,v1,v4,v12,v13,vc⟩;simp only at hHs v0 v1 v4 v12 v13 vc;rw[hHs];clear hHs Hs;cases hfl:(decide (u<=j0) && decide (f ((q0).getD u 0)<f ((q0).getD a 0))) with
  | false =>
   rw[hfl]at vc;refine W.cond (t:=false) vc ?_;refine ab _ _ _ (by rfl) ?_;simp only[go_sem];refine⟨v0,v1,v4,v13,u,v12,⟨x1,x2,x3⟩,fun h hh=>?_⟩;rw[decide_eq_true h,decide_eq_true hh]at hfl;cases hfl
  | true =>
   rw[hfl]at vc;refine W.cond (t:=true) vc ?_;have hfl2:(u<=j0)/\f ((q0).getD u 0)<f ((q0).getD a 0):=(by simpa using hfl);have wx:=IntWalk.i64_in ((u:Int)+1) (by omega);refine ab _ _ _ (by rfl) ?_;simp only[go_sem];refine ab _ _ _ (by rfl) ?_;simp only[go_sem,v12,wx];exact⟨⟨u+1,rfl,by omega,by omega,fun k h1 h2=>by
    by_cases hk:k=u
    ·rw[hk];exact hfl2.2
    ·exact x3 k h1 (by omega)⟩,by rw[hx];simp only[aa,aK];omega⟩
 rintro⟨ρa,Ha⟩ ⟨hHa,a0,a1,a4,a13,x,a12,⟨x1,x2,x3⟩,x4⟩;simp only at hHa a0 a1 a4 a13 a12;rw[hHa];clear hHa Ha;refine W.da (fun s'=>s'.H=H0/\s'.ρ 0=.own id g 0 n 1/\s'.ρ 1=aa a/\s'.ρ 4=cv/\s'.ρ 12=aa x/\∃ u:Nat,s'.ρ 13=aa u/\(u<=j0/\x<=u+1/\∀ k,u<k->k<=j0->f ((q0).getD a 0)<=f ((q0).getD k 0))/\(x<=u->f ((q0).getD u 0)<f ((q0).getD a 0))) ?_ ?_
 ·refine W.block ?_;refine W.aI 590294684458798817280 (by kernel_rfl) (fun ρ Hk=>Hk=H0/\∃ u:Nat,ρ 13=aa u/\(u<=j0/\x<=u+1/\∀ k,u<k->k<=j0->f ((q0).getD a 0)<=f ((q0).getD k 0))) (fun ρ _=>(iv (ρ 13)).toNat) ?_ ?_
  ·exact⟨rfl,j0,a13,Nat.le_refl _,by omega,fun k h1 h2=>by omega⟩
  rintro ρ Hk ⟨hHk,u,hx,x1,x2,x3⟩;rw[hHk];refine W.env fun F hF=>?_;have d0:F 0=.own id g 0 n 1:=by rw[hF];simp only[go_sem,a0]
  have d1:F 1=aa a:=by rw[hF];simp only[go_sem,a1]
  have d4:F 4=cv:=by rw[hF];simp only[go_sem,a4]
  have d12:F 12=aa x:=by rw[hF];simp only[go_sem,a12]
  have d13:F 13=aa u:=by rw[hF];simp only[go_sem,hx]
  clear hF;refine W.seq (W.da (fun s'=>s'.H=H0/\s'.ρ 0=.own id g 0 n 1/\s'.ρ 1=aa a/\s'.ρ 4=cv/\s'.ρ 12=aa x/\s'.ρ 13=aa u/\s'.ρ 66=.lit (.bool (decide (x<=u) && !decide (f ((q0).getD u 0)<f ((q0).getD a 0))))) ?_ ?_)
  ·refine W.draw 13 [0,0,3,7,15,15,15,111,239,15,15,1551,3599] Try.mixed (by kernel_rfl) (by kernel_rfl) ?_;by_cases hc:(x:Int)<=u
   ·have b1:(u:Int)<n:=(by omega);simp only[go_sem,d0,d1,d4,d12,d13,T0.live,hc,T0.cell (show u<n by omega),T0.cell (show a<n by omega),b1,ba];obtain⟨z,hz,hcc⟩:=T0.ask (show u<n by omega) (show a<n by omega);refine hcc _ ⟨trivial,?_⟩;have hd1:decide (x<=u)=true:=decide_eq_true (by omega);rw[hd1];by_cases hlt:f ((q0).getD u 0)<f ((q0).getD a 0)
    ·have hlt':=hz.2 hlt;simp only[go_sem,d0,d1,d4,d12,d13,hlt',hlt]
     try rfl
    ·have hlt':¬ z<0:=fun h=>hlt (hz.1 h);simp only[go_sem,d0,d1,d4,d12,d13,hlt',hlt]
     try rfl
   ·simp only[go_sem,d0,d1,d4,d12,d13,hc];have hj0:decide (x<=u)=false:=decide_eq_false (by omega);rw[hj0];rfl
  rintro⟨ρ3,Hs⟩ ⟨hHs,v0,v1,v4,v12,v13,vc⟩;simp only at hHs v0 v1 v4 v12 v13 vc;rw[hHs];clear hHs Hs;cases hfl:(decide (x<=u) && !decide (f ((q0).getD u 0)<f ((q0).getD a 0))) with
  | false =>
   rw[hfl]at vc;refine W.cond (t:=false) vc ?_;refine ab _ _ _ (by rfl) ?_;simp only[go_sem];refine⟨v0,v1,v4,v12,u,v13,⟨x1,x2,x3⟩,fun h=>?_⟩;rw[decide_eq_true h,Bool.true_and,Bool.not_eq_false',decide_eq_true_iff]at hfl;exact hfl
  | true =>
   rw[hfl]at vc;refine W.cond (t:=true) vc ?_;have hfl2:(x<=u)/\¬ f ((q0).getD u 0)<f ((q0).getD a 0):=(by simpa using hfl);have wx:IntKind.i64.wrap ((u:Int) - 1)=((u - 1:Nat):Int):=(by rw[IntWalk.i64_in _ (by omega)];omega);refine ab _ _ _ (by rfl) ?_;simp only[go_sem];refine ab _ _ _ (by rfl) ?_;simp only[go_sem,v13,wx];exact⟨⟨u - 1,rfl,by omega,by omega,fun k h1 h2=>by
    by_cases hk:k=u
    ·rw[hk];exact Nat.le_of_not_lt hfl2.2
    ·exact x3 k (by omega) h2⟩,by rw[hx];simp only[aa,aK];omega⟩
 rintro⟨ρb,Hb⟩ ⟨hHb,c0,c1,c4,c12,y,c13,⟨y1,y2,y3⟩,y4⟩;simp only at hHb c0 c1 c4 c13 c12;rw[hHb];clear hHb Hb;have I1:=I0.scan x1 x2 x3 y1 y2 y3;clear x1 x2 x3 y1 y2 y3 I0;have yb:=I1.2.2.1;have yn:y<n:=by omega
 have xn:x<=n:=by have:=I1.2.1;omega
 have ax:a<x:=I1.1;have ay:a<=y:=by have:=I1.2.1;omega
 have by1:(y:Int)<n:=by omega
 have pl0:=hp0.len;rw[S.hl]at pl0;by_cases hxy:(x:Int) > y
 ·refine W.seq ?_;refine ab _ _ _ (by rfl) ?_;simp only[go_sem,c12,c13,hxy];refine W.draw 14 [0,0,0,0,0,0,48,112,0,0,768,1792,4083,8179] Try.mixed (by kernel_rfl) (by kernel_rfl) ?_;simp only[go_sem,c0,c1,c13,T0.live,T0.len,T0.cell (show a<n by omega),T0.cell yn,ba,by1,T0.s1 yn,T0.s2 (i:=y) (show a<n by omega),T0.ig,T0.ij];refine⟨by omega,by omega,?_⟩;rw[T0.u2,hH0,dP];exact av.mk (Nat.le_refl _) (hK _ y true (hp0.trans (.swap (by omega) (by omega) (Nat.le_refl _) (by omega) (by rw[pl0];exact hb))) (I1.done (by omega) (by rw[pl0];exact hb)) ay I1.2.2.1)
 obtain⟨xy,I2⟩:=I1.swap (by omega) (by rw[pl0];exact hb) (x4 (by have:=I1.2.2.1;omega)) (y4 (by omega));have bx1:(x:Int)<n:=by omega
 have wx:IntKind.i64.wrap ((x:Int)+1)=((x+1:Nat):Int):=by rw[IntWalk.i64_in _ (by omega)];omega
 have wy:IntKind.i64.wrap ((y:Int) - 1)=((y - 1:Nat):Int):=by rw[IntWalk.i64_in _ (by omega)];omega
 refine W.seq ?_;refine ab _ _ _ (by rfl) ?_;simp only[go_sem,c12,c13,hxy];refine W.seq ?_;refine W.draw 14 [0,0,0,0,0,0,48,112,0,0,768,1792,4083,8179] Try.mixed (by kernel_rfl) (by kernel_rfl) ?_;simp only[go_sem,c0,c12,c13,T0.live,T0.len,T0.cell (show x<n by omega),T0.cell yn,bx1,by1,T0.s1 (show x<n by omega),T0.s2 (i:=x) yn,T0.ig,T0.ij];refine⟨by omega,by omega,?_⟩;rw[T0.u2];refine W.seq (ab _ _ _ (by rfl) ?_);simp only[go_sem,c12,wx];refine W.seq (ab _ _ _ (by rfl) ?_);simp only[go_sem,c13,wy];rw[hH0,dP];refine W.env fun E2 hE2=>?_;have k0:E2 0=.own id g 0 n 1:=by rw[hE2];simp only[go_sem,c0]
 have k1:E2 1=aa a:=by rw[hE2];simp only[go_sem,c1]
 have k4:E2 4=cv:=by rw[hE2];simp only[go_sem,c4]
 have k12:E2 12=aa ((x+1:Nat):Int):=by rw[hE2];simp only[go_sem,c12]
 have k13:E2 13=aa ((y - 1:Nat):Int):=by rw[hE2];simp only[go_sem,c13]
 clear hE2;have hp1:aZ a b l (bZ q0 x y):=hp0.trans (.swap (by omega) (by have:=I1.2.2.1;omega) (by omega) I1.2.2.1 (by rw[pl0];exact hb));refine W.da (fun s'=>∃ (q:List Nat) (i j:Nat),s'.H=H.upd id (nB g q)/\aZ a b l q/\jo f q a b i j/\j<i/\s'.ρ 0=.own id g 0 n 1/\s'.ρ 1=aa a/\s'.ρ 13=aa j) ?_ ?_
 ·refine W.block ?_;refine W.aI 11692013098647223305064659454426923309352957784064 (by kernel_rfl) (fun ρ Hx=>∃ (q:List Nat) (i j:Nat),ρ 12=aa i/\ρ 13=aa j/\aZ a b l q/\jo f q a b i j/\Hx=H.upd id (nB g q)) (fun ρ Hx=>(iv (ρ 13)).toNat) ?_ ?_
  ·exact⟨_,_,_,k12,k13,hp1,I2,rfl⟩
  rintro ρq Hx ⟨q,i,j,h12,h13,hp,I,hHx⟩;refine W.env fun E3 hE3=>?_;have m0:E3 0=.own id g 0 n 1:=by rw[hE3];simp only[go_sem,k0]
  have m1:E3 1=aa a:=by rw[hE3];simp only[go_sem,k1]
  have m4:E3 4=cv:=by rw[hE3];simp only[go_sem,k4]
  have m12:E3 12=aa i:=by rw[hE3];simp only[go_sem,h12]
  have m13:E3 13=aa j:=by rw[hE3];simp only[go_sem,h13]
  clear hE3;have T:=S.upd hp.1;rw[<- hHx]at T;have hxn:Hx.next=H.next:=by rw[hHx];rfl
  have Ib:=I.2.2.1;have Ia:=I.1;have Ij:=I.2.1;refine W.block ?_;refine W.da (fun s'=>s'.H=Hx/\s'.ρ 0=.own id g 0 n 1/\s'.ρ 1=aa a/\s'.ρ 4=cv/\s'.ρ 13=aa j/\∃ u:Nat,s'.ρ 12=aa u/\(i<=u/\u<=j+1/\∀ k,i<=k->k<u->f ((q).getD k 0)<f ((q).getD a 0))/\(u<=j->¬ f ((q).getD u 0)<f ((q).getD a 0))) ?_ ?_
  ·refine W.block ?_;refine W.aI 10633783401460119679889608587740188672 (by kernel_rfl) (fun ρ Hk=>Hk=Hx/\∃ u:Nat,ρ 12=aa u/\(i<=u/\u<=j+1/\∀ k,i<=k->k<u->f ((q).getD k 0)<f ((q).getD a 0))) (fun ρ _=>j+1 - (iv (ρ 12)).toNat) ?_ ?_
   ·exact⟨rfl,i,m12,Nat.le_refl _,by omega,fun k h1 h2=>by omega⟩
   rintro ρ Hk ⟨hHk,u,hx,x1,x2,x3⟩;rw[hHk];refine W.env fun F hF=>?_;have d0:F 0=.own id g 0 n 1:=(by rw[hF];simp only[go_sem,m0]);have d1:F 1=aa a:=(by rw[hF];simp only[go_sem,m1]);have d4:F 4=cv:=(by rw[hF];simp only[go_sem,m4]);have d12:F 12=aa u:=(by rw[hF];simp only[go_sem,hx]);have d13:F 13=aa j:=(by rw[hF];simp only[go_sem,m13]);clear hF;refine W.seq (W.da (fun s'=>s'.H=Hx/\s'.ρ 0=.own id g 0 n 1/\s'.ρ 1=aa a/\s'.ρ 4=cv/\s'.ρ 12=aa u/\s'.ρ 13=aa j/\s'.ρ 120=.lit (.bool (decide (u<=j) && decide (f ((q).getD u 0)<f ((q).getD a 0))))) ?_ ?_)
   ·refine W.draw 13 [0,0,3,7,15,15,15,111,239,15,15,1551,3599] Try.mixed (by kernel_rfl) (by kernel_rfl) ?_;by_cases hc:(u:Int)<=j
    ·have b1:(u:Int)<n:=(by omega);simp only[go_sem,d0,d1,d4,d12,d13,T.live,hc,T.cell (show u<n by omega),T.cell (show a<n by omega),b1,ba];obtain⟨z,hz,hcc⟩:=T.ask (show u<n by omega) (show a<n by omega);refine hcc _ ⟨trivial,?_⟩;have hd1:decide (u<=j)=true:=decide_eq_true (by omega);rw[hd1];by_cases hlt:f ((q).getD u 0)<f ((q).getD a 0)
     ·have hlt':=hz.2 hlt;simp only[go_sem,d0,d1,d4,d12,d13,hlt',hlt]
      try rfl
     ·have hlt':¬ z<0:=fun h=>hlt (hz.1 h);simp only[go_sem,d0,d1,d4,d12,d13,hlt',hlt]
      try rfl
    ·simp only[go_sem,d0,d1,d4,d12,d13,hc];have hj0:decide (u<=j)=false:=decide_eq_false (by omega);rw[hj0];rfl
   rintro⟨ρ3,Hs⟩ ⟨hHs,v0,v1,v4,v12,v13,vc⟩;simp only at hHs v0 v1 v4 v12 v13 vc;rw[hHs];clear hHs Hs;cases hfl:(decide (u<=j) && decide (f ((q).getD u 0)<f ((q).getD a 0))) with
   | false =>
    rw[hfl]at vc;refine W.cond (t:=false) vc ?_;refine ab _ _ _ (by rfl) ?_;simp only[go_sem];refine⟨v0,v1,v4,v13,u,v12,⟨x1,x2,x3⟩,fun h hh=>?_⟩;rw[decide_eq_true h,decide_eq_true hh]at hfl;cases hfl
   | true =>
    rw[hfl]at vc;refine W.cond (t:=true) vc ?_;have hfl2:(u<=j)/\f ((q).getD u 0)<f ((q).getD a 0):=(by simpa using hfl);have wx:=IntWalk.i64_in ((u:Int)+1) (by omega);refine ab _ _ _ (by rfl) ?_;simp only[go_sem];refine ab _ _ _ (by rfl) ?_;simp only[go_sem,v12,wx];exact⟨⟨u+1,rfl,by omega,by omega,fun k h1 h2=>by
     by_cases hk:k=u
     ·rw[hk];exact hfl2.2
     ·exact x3 k h1 (by omega)⟩,by rw[hx];simp only[aa,aK];omega⟩
  rintro⟨ρa,Ha⟩ ⟨hHa,a0,a1,a4,a13,x,a12,⟨x1,x2,x3⟩,x4⟩;simp only at hHa a0 a1 a4 a13 a12;rw[hHa];clear hHa Ha;refine W.da (fun s'=>s'.H=Hx/\s'.ρ 0=.own id g 0 n 1/\s'.ρ 1=aa a/\s'.ρ 4=cv/\s'.ρ 12=aa x/\∃ u:Nat,s'.ρ 13=aa u/\(u<=j/\x<=u+1/\∀ k,u<k->k<=j->f ((q).getD a 0)<=f ((q).getD k 0))/\(x<=u->f ((q).getD u 0)<f ((q).getD a 0))) ?_ ?_
  ·refine W.block ?_;refine W.aI 5575175665808689506056946337705608133746688 (by kernel_rfl) (fun ρ Hk=>Hk=Hx/\∃ u:Nat,ρ 13=aa u/\(u<=j/\x<=u+1/\∀ k,u<k->k<=j->f ((q).getD a 0)<=f ((q).getD k 0))) (fun ρ _=>(iv (ρ 13)).toNat) ?_ ?_
   ·exact⟨rfl,j,a13,Nat.le_refl _,by omega,fun k h1 h2=>by omega⟩
   rintro ρ Hk ⟨hHk,u,hx,x1,x2,x3⟩;rw[hHk];refine W.env fun F hF=>?_;have d0:F 0=.own id g 0 n 1:=(by rw[hF];simp only[go_sem,a0]);have d1:F 1=aa a:=(by rw[hF];simp only[go_sem,a1]);have d4:F 4=cv:=(by rw[hF];simp only[go_sem,a4]);have d12:F 12=aa x:=(by rw[hF];simp only[go_sem,a12]);have d13:F 13=aa u:=(by rw[hF];simp only[go_sem,hx]);clear hF;refine W.seq (W.da (fun s'=>s'.H=Hx/\s'.ρ 0=.own id g 0 n 1/\s'.ρ 1=aa a/\s'.ρ 4=cv/\s'.ρ 12=aa x/\s'.ρ 13=aa u/\s'.ρ 139=.lit (.bool (decide (x<=u) && !decide (f ((q).getD u 0)<f ((q).getD a 0))))) ?_ ?_)
   ·refine W.draw 13 [0,0,3,7,15,15,15,111,239,15,15,1551,3599] Try.mixed (by kernel_rfl) (by kernel_rfl) ?_;by_cases hc:(x:Int)<=u
    ·have b1:(u:Int)<n:=(by omega);simp only[go_sem,d0,d1,d4,d12,d13,T.live,hc,T.cell (show u<n by omega),T.cell (show a<n by omega),b1,ba];obtain⟨z,hz,hcc⟩:=T.ask (show u<n by omega) (show a<n by omega);refine hcc _ ⟨trivial,?_⟩;have hd1:decide (x<=u)=true:=decide_eq_true (by omega);rw[hd1];by_cases hlt:f ((q).getD u 0)<f ((q).getD a 0)
     ·have hlt':=hz.2 hlt;simp only[go_sem,d0,d1,d4,d12,d13,hlt',hlt]
      try rfl
     ·have hlt':¬ z<0:=fun h=>hlt (hz.1 h);simp only[go_sem,d0,d1,d4,d12,d13,hlt',hlt]
      try rfl
    ·simp only[go_sem,d0,d1,d4,d12,d13,hc];have hj0:decide (x<=u)=false:=decide_eq_false (by omega);rw[hj0];rfl
   rintro⟨ρ3,Hs⟩ ⟨hHs,v0,v1,v4,v12,v13,vc⟩;simp only at hHs v0 v1 v4 v12 v13 vc;rw[hHs];clear hHs Hs;cases hfl:(decide (x<=u) && !decide (f ((q).getD u 0)<f ((q).getD a 0))) with
   | false =>
    rw[hfl]at vc;refine W.cond (t:=false) vc ?_;refine ab _ _ _ (by rfl) ?_;simp only[go_sem];refine⟨v0,v1,v4,v12,u,v13,⟨x1,x2,x3⟩,fun h=>?_⟩;rw[decide_eq_true h,Bool.true_and,Bool.not_eq_false',decide_eq_true_iff]at hfl;exact hfl
   | true =>
    rw[hfl]at vc;refine W.cond (t:=true) vc ?_;have hfl2:(x<=u)/\¬ f ((q).getD u 0)<f ((q).getD a 0):=(by simpa using hfl);have wx:IntKind.i64.wrap ((u:Int) - 1)=((u - 1:Nat):Int):=(by rw[IntWalk.i64_in _ (by omega)];omega);refine ab _ _ _ (by rfl) ?_;simp only[go_sem];refine ab _ _ _ (by rfl) ?_;simp only[go_sem,v13,wx];exact⟨⟨u - 1,rfl,by omega,by omega,fun k h1 h2=>by
     by_cases hk:k=u
     ·rw[hk];exact Nat.le_of_not_lt hfl2.2
     ·exact x3 k (by omega) h2⟩,by rw[hx];simp only[aa,aK];omega⟩
  rintro⟨ρb,Hb⟩ ⟨hHb,c0,c1,c4,c12,y,c13,⟨y1,y2,y3⟩,y4⟩;simp only at hHb c0 c1 c4 c13 c12;rw[hHb];clear hHb Hb;have I1:=I.scan x1 x2 x3 y1 y2 y3;clear x2 x3 y2 y3 I;have yb:=I1.2.2.1;have yn:y<n:=by omega
  have xn:x<=n:=by have:=I1.2.1;omega
  have ax:a<x:=I1.1;have ay:a<=y:=by have:=I1.2.1;omega
  have by1:(y:Int)<n:=by omega
  have pl0:=hp.len;rw[S.hl]at pl0;by_cases hxy:(x:Int) > y
  ·refine ab _ _ _ (by rfl) ?_;simp only[go_sem,c12,c13,hxy];exact⟨q,x,y,hHx,hp,I1,by omega,c0,c1,rfl⟩
  obtain⟨xy,I2⟩:=I1.swap (by omega) (by rw[pl0];exact hb) (x4 (by omega)) (y4 (by omega));have bx1:(x:Int)<n:=by omega
  have wx:IntKind.i64.wrap ((x:Int)+1)=((x+1:Nat):Int):=by rw[IntWalk.i64_in _ (by omega)];omega
  have wy:IntKind.i64.wrap ((y:Int) - 1)=((y - 1:Nat):Int):=by rw[IntWalk.i64_in _ (by omega)];omega
  refine W.seq ?_;refine ab _ _ _ (by rfl) ?_;simp only[go_sem,c12,c13,hxy];refine W.seq ?_;refine W.draw 14 [0,0,0,0,0,0,48,112,0,0,768,1792,4083,8179] Try.mixed (by kernel_rfl) (by kernel_rfl) ?_;simp only[go_sem,c0,c12,c13,T.live,T.len,T.cell (show x<n by omega),T.cell yn,bx1,by1,T.s1 (show x<n by omega),T.s2 (i:=x) yn,T.ig,T.ij];refine⟨by omega,by omega,?_⟩;rw[T.u2];refine ab _ _ _ (by rfl) ?_;simp only[go_sem,c12,c13,wx,wy];refine⟨by simp only[aA];omega,⟨bZ q x y,x+1,y - 1,rfl,rfl,hp.trans (.swap (by omega) (by omega) (by omega) (by omega) (by rw[pl0];exact hb)),I2,?_⟩,by rw[h13];simp only[aa,aK];omega⟩;rw[hHx,dP]
 rintro⟨ρd,Hd⟩ ⟨q,i,j,hHd,hp,I,hji,q0',q1,q13⟩;simp only at hHd q0' q1 q13;have T:=S.upd hp.1;rw[<- hHd]at T;have Ib:=I.2.2.1;have Ia:=I.1;have Ij:=I.2.1;have jn:j<n:=by omega
 have bj:(j:Int)<n:=by omega
 have pl:=hp.len;rw[S.hl]at pl;refine W.seq ?_;refine W.draw 14 [0,0,0,0,0,0,48,112,0,0,768,1792,4083,8179] Try.mixed (by kernel_rfl) (by kernel_rfl) ?_;simp only[go_sem,q0',q1,q13,T.live,T.len,T.cell (show a<n by omega),T.cell jn,ba,bj,T.s1 jn,T.s2 (i:=j) (show a<n by omega),T.ig,T.ij];refine⟨by omega,by omega,?_⟩;rw[T.u2];refine ab _ _ _ (by rfl) ?_;simp only[go_sem,q13];rw[hHd,dP];exact av.mk (Nat.le_refl _) (hK _ j false (hp.trans (.swap (by omega) (by omega) (Nat.le_refl _) (by omega) (by rw[pl];exact hb))) (I.done hji (by rw[pl];exact hb)) (by omega) Ib)
end
end Go.Proofs
namespace Go.Proofs
open Go.Hx
theorem db.snoc {f:Nat->Nat}{q:List Nat}{a i:Nat}(h:db f q a i)(ha:a<i)(hi:¬ f (q.getD i 0)<f (q.getD (i - 1) 0)):db f q a (i+1):=fun x y h1 h2 h3=>by
 by_cases hy:y=i
 ·subst hy;by_cases hx:x=y - 1
  ·rw[hx];omega
  ·have:=h x (y - 1) h1 (by omega) (by omega);omega
 ·exact h x y h1 h2 (by omega)
theorem db.keep {f:Nat->Nat}{q p:List Nat}{a i b:Nat}(h:db f q a i)(hp:aZ i b q p):db f p a i:=fun x y h1 h2 h3=>by
 rw[hp.2 x (by omega),hp.2 y (by omega)];exact h x y h1 h2 h3
section
variable {cv:AVal} {f:Nat->Nat} {rid:Nat} {rb:Blk} {id g n a b:Nat} {l:List Nat} {H:AHeap}
set_option maxHeartbeats 16000000 in
theorem N5 (S:SH cv f rid rb id g n l H)(hab:a<b)(hb:b<=n)(hB:Bl f l a b)(K:ARes->AHeap->Prop)(hK:∀ q fl,aZ a b l q->(fl=true->db f q a b)->K (.ret (.lit (.bool fl))) (H.upd id (nB g q))):
  af Try.prog G0 101 [.own id g 0 n 1,aa a,aa b,cv] H K:=by
 have hn:=S.hn;have w0:IntKind.i64.wrap ((a:Int)+1)=((a+1:Nat):Int):=by rw[IntWalk.i64_in _ (by omega)];omega
 refine af.dv (n:=141) (rs:=[.tmp 8]) Try.func101 rfl rfl rfl (by decide) (by simp) ?_;refine W.seq (ab _ _ _ (by rfl) ?_);simp only[go_sem];refine W.seq (ab _ _ _ (by rfl) ?_);simp only[go_sem,w0];refine W.seq (ab _ _ _ (by rfl) ?_);simp only[go_sem];refine W.env fun E hE=>?_;have e0:E 0=.own id g 0 n 1:=by rw[hE];simp only[go_sem]
 have e1:E 1=aa a:=by rw[hE];simp only[go_sem]
 have e2:E 2=aa b:=by rw[hE];simp only[go_sem]
 have e3:E 3=cv:=by rw[hE];simp only[go_sem]
 have e9:E 9=aa ((a+1:Nat):Int):=by rw[hE];simp only[go_sem]
 have e10:E 10=aa 0:=by rw[hE];simp only[go_sem]
 clear hE;refine W.aI 2787593149816327892691964784081045188222720 (by kernel_rfl) (fun ρ Hx=>∃ (c i:Nat) (q:List Nat),ρ 9=aa i/\ρ 10=aa c/\c<=5/\a<i/\i<=b/\aZ a b l q/\db f q a i/\Hx=H.upd id (nB g q)) (fun ρ Hx=>5 - (iv (ρ 10)).toNat) ?_ ?_
 ·exact⟨0,a+1,l,e9,e10,by omega,by omega,by omega,.refl _ _ _,fun x y h1 h2 h3=>by omega,S.self.symm⟩
 rintro ρ Hx ⟨c,i,q,h9,h10,hc5,hai,hib,hp,hS,hHx⟩;refine W.env fun F hF=>?_;have d0:F 0=.own id g 0 n 1:=by rw[hF];simp only[go_sem,e0]
 have d1:F 1=aa a:=by rw[hF];simp only[go_sem,e1]
 have d2:F 2=aa b:=by rw[hF];simp only[go_sem,e2]
 have d3:F 3=cv:=by rw[hF];simp only[go_sem,e3]
 have d9:F 9=aa i:=by rw[hF];simp only[go_sem,h9]
 have d10:F 10=aa c:=by rw[hF];simp only[go_sem,h10]
 clear hF;by_cases hc:(c:Int)<5;rotate_left
 ·refine ab _ _ _ (by rfl) ?_;simp only[go_sem,d10,hc];rw[hHx];refine ab _ _ _ (by rfl) ?_;simp only[go_sem];exact av.mk (Nat.le_refl _) (hK q false hp fun h=>by cases h)
 have T:=S.upd hp.1;rw[<- hHx]at T;have wc:=IntWalk.i64_in ((c:Int)+1) (by omega);refine W.seq (ab _ _ _ (by rfl) ?_);simp only[go_sem,d10,hc];refine W.seq (W.block ?_);refine W.da (fun s'=>s'.H=Hx/\s'.ρ 0=.own id g 0 n 1/\s'.ρ 1=aa a/\s'.ρ 2=aa b/\s'.ρ 3=cv/\s'.ρ 10=aa c/\∃ u:Nat,s'.ρ 9=aa u/\a<u/\u<=b/\db f q a u/\(u<b->f (q.getD u 0)<f (q.getD (u - 1) 0))) ?_ ?_
 ·refine W.block ?_;refine W.aI 549755290112 (by kernel_rfl) (fun ρ Hk=>Hk=Hx/\∃ u:Nat,ρ 9=aa u/\a<u/\u<=b/\db f q a u) (fun ρ _=>b - (iv (ρ 9)).toNat) ?_ ?_
  ·exact⟨rfl,i,by simp only[go_sem,d9],hai,hib,hS⟩
  rintro ρk Hk ⟨hHk,u,hu,u1,u2,u3⟩;rw[hHk];refine W.env fun J hJ=>?_;have m0:J 0=.own id g 0 n 1:=by rw[hJ];simp only[go_sem,d0]
  have m1:J 1=aa a:=by rw[hJ];simp only[go_sem,d1]
  have m2:J 2=aa b:=by rw[hJ];simp only[go_sem,d2]
  have m3:J 3=cv:=by rw[hJ];simp only[go_sem,d3]
  have m9:J 9=aa u:=by rw[hJ];simp only[go_sem,hu]
  have m10:J 10=aa c:=by rw[hJ];simp only[go_sem,d10]
  clear hJ;refine W.seq (W.da (fun s'=>s'.H=Hx/\s'.ρ 0=.own id g 0 n 1/\s'.ρ 1=aa a/\s'.ρ 2=aa b/\s'.ρ 3=cv/\s'.ρ 9=aa u/\s'.ρ 10=aa c/\s'.ρ 36=.lit (.bool (decide (u<b) && !decide (f (q.getD u 0)<f (q.getD (u - 1) 0))))) ?_ ?_)
  ·refine W.draw 14 [0,0,3,7,15,15,15,111,239,15,15,1039,3599,7695] Try.mixed (by kernel_rfl) (by kernel_rfl) ?_;by_cases hub:(u:Int)<b
   ·have b1:(u:Int)<n:=(by omega);have b2:((u - 1:Nat):Int)<n:=(by omega);have wj:IntKind.i64.wrap ((u:Int) - 1)=((u - 1:Nat):Int):=(by rw[IntWalk.i64_in _ (by omega)];omega);simp only[go_sem,m0,m2,m3,m9,T.live,hub,wj,T.cell (show u<n by omega),T.cell (show u - 1<n by omega),b1,b2];obtain⟨z,hz,hcc⟩:=T.ask (show u<n by omega) (show u - 1<n by omega);refine hcc _ ⟨trivial,?_⟩;have hd1:decide (u<b)=true:=decide_eq_true (by omega);rw[hd1];by_cases hlt:f (q.getD u 0)<f (q.getD (u - 1) 0)
    ·have hlt':=hz.2 hlt;simp only[go_sem,m0,m1,m2,m3,m9,m10,hlt',hlt]
     try rfl
    ·have hlt':¬ z<0:=fun h=>hlt (hz.1 h);simp only[go_sem,m0,m1,m2,m3,m9,m10,hlt',hlt]
     try rfl
   ·simp only[go_sem,m0,m1,m2,m3,m9,m10,hub];have hj0:decide (u<b)=false:=decide_eq_false (by omega);rw[hj0];rfl
  rintro⟨ρ3,Hs⟩ ⟨hHs,v0,v1,v2,v3,v9,v10,vc⟩;simp only at hHs v0 v1 v2 v3 v9 v10 vc;rw[hHs];clear hHs Hs;cases hfl:(decide (u<b) && !decide (f (q.getD u 0)<f (q.getD (u - 1) 0))) with
  | false =>
   rw[hfl]at vc;refine W.cond (t:=false) vc ?_;refine ab _ _ _ (by rfl) ?_;simp only[go_sem];refine⟨v0,v1,v2,v3,v10,u,v9,u1,u2,u3,fun h=>?_⟩;rw[decide_eq_true h,Bool.true_and,Bool.not_eq_false',decide_eq_true_iff]at hfl;exact hfl
  | true =>
   rw[hfl]at vc;refine W.cond (t:=true) vc ?_;have hfl2:u<b/\¬ f (q.getD u 0)<f (q.getD (u - 1) 0):=(by simpa using hfl);have wx:=IntWalk.i64_in ((u:Int)+1) (by omega);refine ab _ _ _ (by rfl) ?_;simp only[go_sem];refine ab _ _ _ (by rfl) ?_;simp only[go_sem,v9,wx];exact⟨⟨u+1,rfl,by omega,by omega,u3.snoc u1 hfl2.2⟩,by rw[hu];simp only[aa,aK];omega⟩
 rintro⟨ρa,Ha⟩ ⟨hHa,a0,a1,a2,a3,a10,u,a9,u1,u2,u3,u4⟩;simp only at hHa a0 a1 a2 a3 a10 a9;rw[hHa];clear hHa Ha hS;by_cases hub:(u:Int)=b
 ·refine W.seq (ab _ _ _ (by rfl) ?_);simp only[go_sem,a9,a2,hub];rw[hHx];exact av.mk (Nat.le_refl _) (hK q true hp fun _=>by rw[show b=u by omega];exact u3)
 have wba:=IntWalk.i64_in ((b:Int) - (a:Int)) (by omega);by_cases h50:(b:Int) - a<50
 ·refine W.seq (ab _ _ _ (by rfl) ?_);simp only[go_sem,a9,a2,hub];refine W.seq (ab _ _ _ (by rfl) ?_);simp only[go_sem,a1,a2,wba,h50];rw[hHx];exact av.mk (Nat.le_refl _) (hK q false hp fun h=>by cases h)
 have hlt0:=u4 (by omega);have wu:IntKind.i64.wrap ((u:Int) - 1)=((u - 1:Nat):Int):=by rw[IntWalk.i64_in _ (by omega)];omega
 have bu:(u:Int)<n:=by omega
 have bu1:((u - 1:Nat):Int)<n:=by omega
 have pl:=hp.len;rw[S.hl]at pl;refine W.seq (ab _ _ _ (by rfl) ?_);simp only[go_sem,a9,a2,hub];refine W.seq (ab _ _ _ (by rfl) ?_);simp only[go_sem,a1,a2,wba,h50];refine W.seq ?_;refine W.draw 16 [0,0,0,0,8,0,0,64,224,480,0,0,3072,7168,16355,32739] Try.mixed (by kernel_rfl) (by kernel_rfl) ?_;simp only[go_sem,a0,a9,T.live,T.len,wu,T.cell (show u<n by omega),T.cell (show u - 1<n by omega),bu,bu1,T.s1 (show u<n by omega),T.s2 (i:=u) (show u - 1<n by omega),T.ig,T.ij];refine⟨by omega,by omega,?_⟩;rw[T.u2,hHx,dP];obtain⟨q1,hq1⟩:∃ q1,q1=bZ q u (u - 1):=⟨_,rfl⟩
 have pq1:aZ (u - 1) (u+1) q q1:=by rw[hq1];exact .swap (by omega) (by omega) (Nat.le_refl _) (by omega) (by omega)
 rw[<- hq1];have hp1:aZ a b l q1:=hp.trans (pq1.mono (by omega) (by omega));have hS1:db f q1 a (u - 1):=(show db f q a (u - 1) from fun x y h1 h2 h3=>u3 x y h1 h2 (by omega)).keep pq1;clear hq1 pq1;refine W.env fun M hM=>?_;have r0:M 0=.own id g 0 n 1:=by rw[hM];simp only[go_sem,a0]
 have r1:M 1=aa a:=by rw[hM];simp only[go_sem,a1]
 have r2:M 2=aa b:=by rw[hM];simp only[go_sem,a2]
 have r3:M 3=cv:=by rw[hM];simp only[go_sem,a3]
 have r9:M 9=aa u:=by rw[hM];simp only[go_sem,a9]
 have r10:M 10=aa c:=by rw[hM];simp only[go_sem,a10]
 clear hM;have wua:=IntWalk.i64_in ((u:Int) - (a:Int)) (by omega);refine W.seq ?_;refine W.da (fun s'=>s'.H=H.upd id (nB g q1)/\s'.ρ 0=.own id g 0 n 1/\s'.ρ 1=aa a/\s'.ρ 2=aa b/\s'.ρ 3=cv/\s'.ρ 9=aa u/\s'.ρ 10=aa c/\s'.ρ 65=.lit (.bool (decide ((2:Int)<=(u:Int) - a)))) ?_ ?_
 ·refine ab _ _ _ (by rfl) ?_;simp only[go_sem,r0,r1,r2,r3,r9,r10,wua]
 rintro⟨ρb,Hb⟩ ⟨hHb,c0,c1,c2,c3,c9,c10,c65⟩;simp only at hHb c0 c1 c2 c3 c9 c10 c65;rw[hHb];clear hHb Hb;have T1:=S.upd hp1.1;refine W.mono (Q:=fun ax s'=>ax=.normal/\s'.ρ 0=.own id g 0 n 1/\s'.ρ 1=aa a/\s'.ρ 2=aa b/\s'.ρ 3=cv/\s'.ρ 9=aa u/\s'.ρ 10=aa c/\∃ p,aZ a b l p/\db f p a u/\s'.H=H.upd id (nB g p)) ?_ ?_
 ·by_cases h2:(2:Int)<=(u:Int) - a;rotate_left
  ·refine W.cond (t:=false) (by rw[show aj G0 ρb (.tmp 65)=ρb 65 from rfl,c65,decide_eq_false h2]) ?_;refine ab _ _ _ (by rfl) ?_;simp only[go_sem];exact⟨c0,c1,c2,c3,c9,c10,q1,hp1,fun x y x1 x2 x3=>by omega,rfl⟩
  refine W.cond (t:=true) (by rw[show aj G0 ρb (.tmp 65)=ρb 65 from rfl,c65,decide_eq_true h2]) ?_;refine W.seq (ab _ _ _ (by rfl) ?_);simp only[go_sem,c9,wu];refine W.env fun E4 hE4=>?_;have k0:E4 0=.own id g 0 n 1:=by rw[hE4];simp only[go_sem,c0]
  have k1:E4 1=aa a:=by rw[hE4];simp only[go_sem,c1]
  have k2:E4 2=aa b:=by rw[hE4];simp only[go_sem,c2]
  have k3:E4 3=cv:=by rw[hE4];simp only[go_sem,c3]
  have k9:E4 9=aa u:=by rw[hE4];simp only[go_sem,c9]
  have k10:E4 10=aa c:=by rw[hE4];simp only[go_sem,c10]
  have k11:E4 11=aa ((u - 1:Nat):Int):=by rw[hE4];simp only[go_sem]
  clear hE4;refine W.block ?_;refine W.aI 2535301200161310897814053586944 (by kernel_rfl) (fun ρ Hz=>∃ (j:Nat) (p:List Nat),ρ 11=aa j/\a<=j/\j<=u - 1/\aZ a b l p/\kA f p a (u - 1) j/\Hz=H.upd id (nB g p)) (fun ρ Hz=>(iv (ρ 11)).toNat) ?_ ?_
  ·exact⟨u - 1,q1,k11,by omega,Nat.le_refl _,hp1,.start hS1,rfl⟩
  rintro ρ2 Hz ⟨j,p,h11,haj,hj,hpp,hIn,hHz⟩;refine W.env fun E5 hE5=>?_;have m0:E5 0=.own id g 0 n 1:=by rw[hE5];simp only[go_sem,k0]
  have m1:E5 1=aa a:=by rw[hE5];simp only[go_sem,k1]
  have m2:E5 2=aa b:=by rw[hE5];simp only[go_sem,k2]
  have m3:E5 3=cv:=by rw[hE5];simp only[go_sem,k3]
  have m9:E5 9=aa u:=by rw[hE5];simp only[go_sem,k9]
  have m10:E5 10=aa c:=by rw[hE5];simp only[go_sem,k10]
  have m11:E5 11=aa j:=by rw[hE5];simp only[go_sem,h11]
  clear hE5;have Tz:=S.upd hpp.1;rw[<- hHz]at Tz;have stop:(j<=a\/f (p.getD (j - 1) 0)<=f (p.getD j 0))->db f p a u:=fun h=>by
   have:=hIn.done hj h
   rwa [show u - 1+1=u by omega]at this
  by_cases hj1:(j:Int) >= 1;rotate_left
  ·refine ab _ _ _ (by rfl) ?_;simp only[go_sem,m11,hj1];exact⟨m0,m1,m2,m3,m9,m10,p,hpp,stop (.inl (by omega)),hHz⟩
  have wj:IntKind.i64.wrap ((j:Int) - 1)=((j - 1:Nat):Int):=by rw[IntWalk.i64_in _ (by omega)];omega
  have jn:j<n:=by omega
  have b1:(j:Int)<n:=by omega
  have b2:((j - 1:Nat):Int)<n:=by omega
  refine W.seq (ab _ _ _ (by rfl) ?_);simp only[go_sem,m11,hj1];refine W.seq (W.block ?_);refine W.seq (W.da (fun s'=>s'.H=Hz/\s'.ρ 0=.own id g 0 n 1/\s'.ρ 1=aa a/\s'.ρ 2=aa b/\s'.ρ 3=cv/\s'.ρ 9=aa u/\s'.ρ 10=aa c/\s'.ρ 11=aa j/\s'.ρ 84=.lit (.bool (!decide (f (p.getD j 0)<f (p.getD (j - 1) 0))))) ?_ ?_)
  ·refine W.draw 10 [0,0,0,6,14,0,0,64,224,480] Try.mixed (by kernel_rfl) (by kernel_rfl) ?_;simp only[go_sem,m0,m3,m11,Tz.live,wj,Tz.cell jn,Tz.cell (show j - 1<n by omega),b1,b2];obtain⟨z,hz,hcc⟩:=Tz.ask jn (show j - 1<n by omega);refine hcc _ ⟨trivial,?_⟩;by_cases hlt:f (p.getD j 0)<f (p.getD (j - 1) 0)
   ·have hlt':=hz.2 hlt;simp only[go_sem,m0,m1,m2,m3,m9,m10,m11,hlt',hlt]
   ·have hlt':¬ z<0:=fun h=>hlt (hz.1 h);simp only[go_sem,m0,m1,m2,m3,m9,m10,m11,hlt',hlt]
  rintro⟨ρ3,Hs⟩ ⟨hHs,v0,v1,v2,v3,v9,v10,v11,vc⟩;simp only at hHs v0 v1 v2 v3 v9 v10 v11 vc;rw[hHs];clear hHs Hs;by_cases hlt:f (p.getD j 0)<f (p.getD (j - 1) 0);rotate_left
  ·rw[decide_eq_false hlt]at vc;refine W.cond (t:=true) vc ?_;refine ab _ _ _ (by rfl) ?_;simp only[go_sem];exact⟨v0,v1,v2,v3,v9,v10,p,hpp,stop (.inr (by omega)),hHz⟩
  rw[decide_eq_true hlt]at vc;have haj2:a<j:=by
   rcases Nat.lt_or_ge a j with h|h
   ·exact h
   ·have e:j=a:=(by omega);rcases hB.perm hpp (by rw[S.hl];exact hb) with h3|h3
    ·omega
    ·have:=h3 j (by omega) (by omega);rw[e]at this hlt;omega
  have pl2:=hpp.len;rw[S.hl]at pl2;refine W.cond (t:=false) vc ?_;refine ab _ _ _ (by rfl) ?_;simp only[go_sem];refine W.draw 16 [0,0,0,0,8,0,0,64,224,480,0,0,3072,7168,16355,32739] Try.mixed (by kernel_rfl) (by kernel_rfl) ?_;simp only[go_sem,v0,v11,Tz.live,Tz.len,wj,Tz.cell jn,Tz.cell (show j - 1<n by omega),b1,b2,Tz.s1 jn,Tz.s2 (i:=j) (show j - 1<n by omega),Tz.ig,Tz.ij];refine⟨by omega,by omega,?_⟩
  try rw[Tz.u2]
  refine ab _ _ _ (by rfl) ?_;simp only[go_sem,v11,wj];refine⟨by simp only[aA];rw[hHz];exact Nat.le_refl _,⟨j - 1,bZ p j (j - 1),rfl,by omega,by omega,hpp.trans (.swap (by omega) (by omega) (by omega) (by omega) (by rw[pl2];exact hb)),hIn.step hj (by omega) haj2 hlt,?_⟩,by rw[h11];simp only[aa,aK];omega⟩;rw[hHz,dP]
 rintro ax ⟨ρc,Hc⟩ ⟨hax,x0,x1,x2,x3,x9,x10,p,hpp,hSp,hHc⟩;simp only at x0 x1 x2 x3 x9 x10 hHc;subst hax;rw[hHc];clear hHc Hc hp1 hS1 T1;have wbu:=IntWalk.i64_in ((b:Int) - (u:Int)) (by omega);refine W.da (fun s'=>s'.H=H.upd id (nB g p)/\s'.ρ 0=.own id g 0 n 1/\s'.ρ 2=aa b/\s'.ρ 3=cv/\s'.ρ 9=aa u/\s'.ρ 10=aa c/\s'.ρ 104=.lit (.bool (decide ((2:Int)<=(b:Int) - u)))) ?_ ?_
 ·refine ab _ _ _ (by rfl) ?_;simp only[go_sem,x0,x2,x3,x9,x10,wbu]
 rintro⟨ρd,Hd⟩ ⟨hHd,c0,c2,c3,c9,c10,c104⟩;simp only at hHd c0 c2 c3 c9 c10 c104;rw[hHd];clear hHd Hd;refine W.mono (Q:=fun ax s'=>ax=.normal/\s'.ρ 9=aa u/\s'.ρ 10=aa c/\∃ p,aZ a b l p/\db f p a u/\s'.H=H.upd id (nB g p)) ?_ ?_
 ·by_cases h2:(2:Int)<=(b:Int) - u;rotate_left
  ·refine W.cond (t:=false) (by rw[show aj G0 ρd (.tmp 104)=ρd 104 from rfl,c104,decide_eq_false h2]) ?_;refine ab _ _ _ (by rfl) ?_;simp only[go_sem];exact⟨c9,c10,p,hpp,hSp,rfl⟩
  refine W.cond (t:=true) (by rw[show aj G0 ρd (.tmp 104)=ρd 104 from rfl,c104,decide_eq_true h2]) ?_;have wu1:IntKind.i64.wrap ((u:Int)+1)=((u+1:Nat):Int):=by rw[IntWalk.i64_in _ (by omega)];omega
  refine W.seq (ab _ _ _ (by rfl) ?_);simp only[go_sem,c9,wu1];refine W.env fun E4 hE4=>?_;have k0:E4 0=.own id g 0 n 1:=by rw[hE4];simp only[go_sem,c0]
  have k2:E4 2=aa b:=by rw[hE4];simp only[go_sem,c2]
  have k3:E4 3=cv:=by rw[hE4];simp only[go_sem,c3]
  have k9:E4 9=aa u:=by rw[hE4];simp only[go_sem,c9]
  have k10:E4 10=aa c:=by rw[hE4];simp only[go_sem,c10]
  have k12:E4 12=aa ((u+1:Nat):Int):=by rw[hE4];simp only[go_sem]
  clear hE4;refine W.block ?_;refine W.aI 2787593149654068615862751420689467177963520 (by kernel_rfl) (fun ρ Hz=>∃ (j:Nat) (p:List Nat),ρ 12=aa j/\u<j/\j<=b/\aZ a b l p/\db f p a u/\Hz=H.upd id (nB g p)) (fun ρ Hz=>b - (iv (ρ 12)).toNat) ?_ ?_
  ·exact⟨u+1,p,k12,by omega,by omega,hpp,hSp,rfl⟩
  clear hpp hSp c0 c2 c3 c9 c10 c104 x0 x1 x2 x3 x9 x10;rintro ρ2 Hz ⟨j,p,h12,huj,hj,hpp,hSp,hHz⟩;refine W.env fun E5 hE5=>?_;have m0:E5 0=.own id g 0 n 1:=by rw[hE5];simp only[go_sem,k0]
  have m2:E5 2=aa b:=by rw[hE5];simp only[go_sem,k2]
  have m3:E5 3=cv:=by rw[hE5];simp only[go_sem,k3]
  have m9:E5 9=aa u:=by rw[hE5];simp only[go_sem,k9]
  have m10:E5 10=aa c:=by rw[hE5];simp only[go_sem,k10]
  have m12:E5 12=aa j:=by rw[hE5];simp only[go_sem,h12]
  clear hE5;have Tz:=S.upd hpp.1;rw[<- hHz]at Tz;by_cases hjb:(j:Int)<b;rotate_left
  ·refine ab _ _ _ (by rfl) ?_;simp only[go_sem,m12,m2,hjb];exact⟨m9,m10,p,hpp,hSp,hHz⟩
  have wj:IntKind.i64.wrap ((j:Int) - 1)=((j - 1:Nat):Int):=by rw[IntWalk.i64_in _ (by omega)];omega
  have wj1:=IntWalk.i64_in ((j:Int)+1) (by omega);have jn:j<n:=by omega
  have b1:(j:Int)<n:=by omega
  have b2:((j - 1:Nat):Int)<n:=by omega
  refine W.seq (ab _ _ _ (by rfl) ?_);simp only[go_sem,m12,m2,hjb];refine W.seq (W.block ?_);refine W.seq (W.da (fun s'=>s'.H=Hz/\s'.ρ 0=.own id g 0 n 1/\s'.ρ 9=aa u/\s'.ρ 10=aa c/\s'.ρ 12=aa j/\s'.ρ 124=.lit (.bool (!decide (f (p.getD j 0)<f (p.getD (j - 1) 0))))) ?_ ?_)
  ·refine W.draw 10 [0,0,0,6,14,0,0,64,224,480] Try.mixed (by kernel_rfl) (by kernel_rfl) ?_;simp only[go_sem,m0,m3,m12,Tz.live,wj,Tz.cell jn,Tz.cell (show j - 1<n by omega),b1,b2];obtain⟨z,hz,hcc⟩:=Tz.ask jn (show j - 1<n by omega);refine hcc _ ⟨trivial,?_⟩;by_cases hlt:f (p.getD j 0)<f (p.getD (j - 1) 0)
   ·have hlt':=hz.2 hlt;simp only[go_sem,m0,m3,m9,m10,m12,hlt',hlt]
   ·have hlt':¬ z<0:=fun h=>hlt (hz.1 h);simp only[go_sem,m0,m3,m9,m10,m12,hlt',hlt]
  rintro⟨ρ3,Hs⟩ ⟨hHs,v0,v9,v10,v12,vc⟩;simp only at hHs v0 v9 v10 v12 vc;rw[hHs];clear hHs Hs;by_cases hlt:f (p.getD j 0)<f (p.getD (j - 1) 0);rotate_left
  ·rw[decide_eq_false hlt]at vc;refine W.cond (t:=true) vc ?_;refine ab _ _ _ (by rfl) ?_;simp only[go_sem];exact⟨v9,v10,p,hpp,hSp,hHz⟩
  rw[decide_eq_true hlt]at vc;have pl2:=hpp.len;rw[S.hl]at pl2;have sw:aZ u b p (bZ p j (j - 1)):=.swap (by omega) (by omega) (by omega) (by omega) (by rw[pl2];exact hb);refine W.cond (t:=false) vc ?_;refine ab _ _ _ (by rfl) ?_;simp only[go_sem];refine W.draw 16 [0,0,0,0,8,0,0,64,224,480,0,0,3072,7168,16355,32739] Try.mixed (by kernel_rfl) (by kernel_rfl) ?_;simp only[go_sem,v0,v12,Tz.live,Tz.len,wj,Tz.cell jn,Tz.cell (show j - 1<n by omega),b1,b2,Tz.s1 jn,Tz.s2 (i:=j) (show j - 1<n by omega),Tz.ig,Tz.ij];refine⟨by omega,by omega,?_⟩
  try rw[Tz.u2]
  refine ab _ _ _ (by rfl) ?_;simp only[go_sem,v12,wj1];refine⟨by simp only[aA];rw[hHz];exact Nat.le_refl _,⟨j+1,bZ p j (j - 1),rfl,by omega,by omega,hpp.trans (sw.mono (by omega) (Nat.le_refl _)),hSp.keep sw,?_⟩,by rw[h12];simp only[aa,aK];omega⟩;rw[hHz,dP]
 rintro ax ⟨ρe,He⟩ ⟨hax,y9,y10,p',hpp',hSp',hHe⟩;simp only at y9 y10 hHe;subst hax;rw[hHe];show W _ _ _ _ _ _ _;refine ab _ _ _ (by rfl) ?_;simp only[go_sem,y10,wc];exact⟨Nat.le_refl _,⟨c+1,u,p',y9,rfl,by omega,u1,u2,hpp',hSp',rfl⟩,by rw[h10];simp only[aa,aK];omega⟩
end
end Go.Proofs
namespace Go.Proofs
open Go.Hx
section
variable {cv:AVal} {f:Nat->Nat} {rid:Nat} {rb:Blk} {id g n a:Nat} {l:List Nat} {H:AHeap}
set_option maxHeartbeats 16000000 in
theorem BZ {lo hi:Nat}(S:SH cv f rid rb id g n l H)(hb:a+hi<=n)(hl0:lo<=hi)(hh:gJ f l a (lo+1) hi)(K:ARes->AHeap->Prop)(hK:∀ q,aZ (a+lo) (a+hi) l q->gJ f q a lo hi->K (.ret (.tup [])) (H.upd id (nB g q))):
  af Try.prog G0 107 [.own id g 0 n 1,aa lo,aa hi,aa a,cv] H K:=by
 have hn:=S.hn;refine af.dv (n:=82) (rs:=[]) Try.func107 rfl rfl rfl (by decide) (by simp) ?_;refine W.seq (ab _ _ _ (by rfl) ?_);simp only[go_sem];refine W.env fun E hE=>?_;have e0:E 0=.own id g 0 n 1:=by rw[hE];simp only[go_sem]
 have e2:E 2=aa hi:=by rw[hE];simp only[go_sem]
 have e3:E 3=aa a:=by rw[hE];simp only[go_sem]
 have e4:E 4=cv:=by rw[hE];simp only[go_sem]
 have e10:E 10=aa lo:=by rw[hE];simp only[go_sem]
 clear hE;refine W.block ?_;refine W.aI 4835703278458516698819584 (by kernel_rfl) (fun ρ Hx=>∃ (r:Nat) (q:List Nat),ρ 10=aa r/\lo<=r/\(r<hi\/r=lo)/\aZ (a+lo) (a+hi) l q/\lz f q a lo hi r/\Hx=H.upd id (nB g q)) (fun ρ Hx=>hi+1 - (iv (ρ 10)).toNat) ?_ ?_
 ·exact⟨lo,l,e10,Nat.le_refl _,.inr rfl,.refl _ _ _,.start hh,S.self.symm⟩
 rintro ρ Hx ⟨r,q,h10,hlr,hrh,hp,hI,hHx⟩;refine W.env fun F hF=>?_;have d0:F 0=.own id g 0 n 1:=by rw[hF];simp only[go_sem,e0]
 have d2:F 2=aa hi:=by rw[hF];simp only[go_sem,e2]
 have d3:F 3=aa a:=by rw[hF];simp only[go_sem,e3]
 have d4:F 4=cv:=by rw[hF];simp only[go_sem,e4]
 have d10:F 10=aa r:=by rw[hF];simp only[go_sem,h10]
 clear hF;have T:=S.upd hp.1;rw[<- hHx]at T;have wm:IntKind.i64.wrap (2*(r:Int))=((2*r:Nat):Int):=by rw[IntWalk.i64_in _ (by omega)];omega
 have wc:IntKind.i64.wrap (((2*r:Nat):Int)+1)=((2*r+1:Nat):Int):=by rw[IntWalk.i64_in _ (by omega)];omega
 obtain⟨c,hc⟩:∃ c,c=2*r+1:=⟨_,rfl⟩
 rw[<- hc]at wc;by_cases hce:(c:Int) >= hi
 ·refine W.block ?_;refine W.seq (ab _ _ _ (by rfl) ?_);simp only[go_sem,d10,wm,wc];refine ab _ _ _ (by rfl) ?_;simp only[go_sem,d2,hce];rw[hHx];exact av.mk (Nat.le_refl _) (hK q hp (hI.done fun k k1 k2=>by unfold dU at k1;omega))
 refine W.block ?_;refine W.seq (ab _ _ _ (by rfl) ?_);simp only[go_sem,d10,wm,wc];refine W.seq (ab _ _ _ (by rfl) ?_);simp only[go_sem,d2,hce];refine W.env fun J hJ=>?_;have m0:J 0=.own id g 0 n 1:=by rw[hJ];simp only[go_sem,d0]
 have m2:J 2=aa hi:=by rw[hJ];simp only[go_sem,d2]
 have m3:J 3=aa a:=by rw[hJ];simp only[go_sem,d3]
 have m4:J 4=cv:=by rw[hJ];simp only[go_sem,d4]
 have m10:J 10=aa r:=by rw[hJ];simp only[go_sem,d10]
 have m11:J 11=aa c:=by rw[hJ];simp only[go_sem]
 clear hJ;have wc1:IntKind.i64.wrap ((c:Int)+1)=((c+1:Nat):Int):=by rw[IntWalk.i64_in _ (by omega)];omega
 have wac:IntKind.i64.wrap ((a:Int)+(c:Int))=((a+c:Nat):Int):=by rw[IntWalk.i64_in _ (by omega)];omega
 have wac1:IntKind.i64.wrap (((a+c:Nat):Int)+1)=((a+c+1:Nat):Int):=by rw[IntWalk.i64_in _ (by omega)];omega
 have bc:((a+c:Nat):Int)<n:=by omega
 refine W.seq (W.mono (Q:=fun ax s'=>ax=.normal/\s'.H=Hx/\s'.ρ 0=.own id g 0 n 1/\s'.ρ 2=aa hi/\s'.ρ 3=aa a/\s'.ρ 4=cv/\s'.ρ 10=aa r/\∃ d:Nat,s'.ρ 11=aa d/\dU r d/\d<hi/\∀ e,dU r e->e<hi->f (q.getD (a+e) 0)<=f (q.getD (a+d) 0)) ?_ ?_)
 ·refine W.da (fun s'=>s'.H=Hx/\s'.ρ 0=.own id g 0 n 1/\s'.ρ 2=aa hi/\s'.ρ 3=aa a/\s'.ρ 4=cv/\s'.ρ 10=aa r/\s'.ρ 11=aa c/\s'.ρ 40=.lit (.bool (decide (c+1<hi) && decide (f (q.getD (a+c) 0)<f (q.getD (a+c+1) 0))))) ?_ ?_
  ·refine W.draw 19 [0,1,0,7,15,31,31,31,31,415,991,2015,31,31,31,24607,57375,127007,258079] Try.mixed (by kernel_rfl) (by kernel_rfl) ?_;by_cases hub:((c+1:Nat):Int)<hi
   ·have b2:((a+c+1:Nat):Int)<n:=(by omega);simp only[go_sem,m0,m2,m3,m4,m11,T.live,hub,wc1,wac,wac1,T.cell (show a+c<n by omega),T.cell (show a+c+1<n by omega),bc,b2];obtain⟨z,hz,hcc⟩:=T.ask (show a+c<n by omega) (show a+c+1<n by omega);refine hcc _ ⟨trivial,?_⟩;have hd1:decide (c+1<hi)=true:=decide_eq_true (by omega);rw[hd1];by_cases hlt:f (q.getD (a+c) 0)<f (q.getD (a+c+1) 0)
    ·have hlt':=hz.2 hlt;simp only[go_sem,m0,m2,m3,m4,m10,m11,hlt',hlt]
     try rfl
    ·have hlt':¬ z<0:=fun h=>hlt (hz.1 h);simp only[go_sem,m0,m2,m3,m4,m10,m11,hlt',hlt]
     try rfl
   ·simp only[go_sem,m0,m2,m3,m4,m10,m11,hub,wc1];have hj0:decide (c+1<hi)=false:=decide_eq_false (by omega);rw[hj0];rfl
  rintro⟨ρ3,Hs⟩ ⟨hHs,v0,v2,v3,v4,v10,v11,vc⟩;simp only at hHs v0 v2 v3 v4 v10 v11 vc;rw[hHs];clear hHs Hs;cases hfl:(decide (c+1<hi) && decide (f (q.getD (a+c) 0)<f (q.getD (a+c+1) 0))) with
  | false =>
   rw[hfl]at vc;refine W.cond (t:=false) vc ?_;refine ab _ _ _ (by rfl) ?_;simp only[go_sem];refine⟨v0,v2,v3,v4,v10,c,v11,.inl hc,by omega,fun e e1 e2=>?_⟩;rcases e1 with e1|e1
   ·rw[show e=c by omega];exact Nat.le_refl _
   ·rw[decide_eq_true (show c+1<hi by omega),Bool.true_and,decide_eq_false_iff_not]at hfl;rw[show a+e=a+c+1 by omega];omega
  | true =>
   rw[hfl]at vc;refine W.cond (t:=true) vc ?_;have hfl2:c+1<hi/\f (q.getD (a+c) 0)<f (q.getD (a+c+1) 0):=(by simpa using hfl);refine ab _ _ _ (by rfl) ?_;simp only[go_sem,v11,wc1];refine⟨v0,v2,v3,v4,v10,c+1,rfl,.inr (by omega),by omega,fun e e1 e2=>?_⟩;rcases e1 with e1|e1
   ·rw[show e=c by omega,<- Nat.add_assoc];omega
   ·rw[show e=c+1 by omega];exact Nat.le_refl _
 rintro ax ⟨ρa,Ha⟩ ⟨hax,hHa,a0,a2,a3,a4,a10,d,a11,kd,dh,dm⟩;simp only at hHa a0 a2 a3 a4 a10 a11;subst hax;rw[hHa];clear hHa Ha;show W _ _ _ _ _ _ _;have rd:r<d:=by unfold dU at kd;omega
 have war:IntKind.i64.wrap ((a:Int)+(r:Int))=((a+r:Nat):Int):=by rw[IntWalk.i64_in _ (by omega)];omega
 have wad:IntKind.i64.wrap ((a:Int)+(d:Int))=((a+d:Nat):Int):=by rw[IntWalk.i64_in _ (by omega)];omega
 have br:((a+r:Nat):Int)<n:=by omega
 have bd:((a+d:Nat):Int)<n:=by omega
 have rn:a+r<n:=by omega
 have dn:a+d<n:=by omega
 refine W.seq (W.da (fun s'=>s'.H=Hx/\s'.ρ 0=.own id g 0 n 1/\s'.ρ 3=aa a/\s'.ρ 10=aa r/\s'.ρ 11=aa d/\s'.ρ 58=.lit (.bool (!decide (f (q.getD (a+r) 0)<f (q.getD (a+d) 0))))) ?_ ?_)
 ·refine W.draw 13 [0,0,0,0,12,30,62,0,0,0,768,1920,3968] Try.mixed (by kernel_rfl) (by kernel_rfl) ?_;simp only[go_sem,a0,a3,a4,a10,a11,T.live,war,wad,T.cell rn,T.cell dn,br,bd];obtain⟨z,hz,hcc⟩:=T.ask rn dn;refine hcc _ ⟨trivial,?_⟩;by_cases hlt:f (q.getD (a+r) 0)<f (q.getD (a+d) 0)
  ·have hlt':=hz.2 hlt;simp only[go_sem,a0,a3,a4,a10,a11,hlt',hlt]
  ·have hlt':¬ z<0:=fun h=>hlt (hz.1 h);simp only[go_sem,a0,a3,a4,a10,a11,hlt',hlt]
 rintro⟨ρ4,Hs⟩ ⟨hHs,v0,v3,v10,v11,vc⟩;simp only at hHs v0 v3 v10 v11 vc;rw[hHs];clear hHs Hs;by_cases hlt:f (q.getD (a+r) 0)<f (q.getD (a+d) 0);rotate_left
 ·rw[decide_eq_false hlt]at vc;refine W.cond (t:=true) vc ?_;refine ab _ _ _ (by rfl) ?_;simp only[go_sem];rw[hHx];exact av.mk (Nat.le_refl _) (hK q hp (hI.done fun e e1 e2=>by have:=dm e e1 e2;omega))
 rw[decide_eq_true hlt]at vc;have pl:=hp.len;rw[S.hl]at pl;refine W.cond (t:=false) vc ?_;refine ab _ _ _ (by rfl) ?_;simp only[go_sem];refine W.seq ?_;refine W.draw 22 [0,0,0,6,0,0,0,96,0,0,0,1536,3840,7936,0,0,0,98304,245760,507904,1048335,2096911] Try.mixed (by kernel_rfl) (by kernel_rfl) ?_;simp only[go_sem,v0,v3,v10,v11,T.live,T.len,war,wad,T.cell rn,T.cell dn,br,bd,T.s1 rn,T.s2 (i:=a+r) dn,T.ig,T.ij];refine⟨by omega,by omega,?_⟩
 try rw[T.u2]
 refine ab _ _ _ (by rfl) ?_;simp only[go_sem,v11];refine⟨by simp only[aA];rw[hHx];exact Nat.le_refl _,⟨d,bZ q (a+r) (a+d),rfl,by omega,.inl dh,hp.trans (.swap (by omega) (by omega) (by omega) (by omega) (by omega)),hI.step hlr (by omega) kd dh dm (Nat.le_of_lt hlt),?_⟩,by rw[h10];simp only[aa,aK];omega⟩;rw[hHx,dP]
end
end Go.Proofs
namespace Go.Proofs
open Go.Hx
section
variable {cv:AVal} {f:Nat->Nat} {rid:Nat} {rb:Blk} {id g n a b:Nat} {l:List Nat} {H:AHeap}
set_option maxHeartbeats 16000000 in
theorem N6 (S:SH cv f rid rb id g n l H)(hab:a<b)(hb:b<=n)(K:ARes->AHeap->Prop)(hK:∀ q,aZ a b l q->db f q a b->K (.ret (.tup [])) (H.upd id (nB g q))):
  af Try.prog G0 97 [.own id g 0 n 1,aa a,aa b,cv] H K:=by
 have hn:=S.hn;have w0:IntKind.i64.wrap ((b:Int) - (a:Int))=((b - a:Nat):Int):=by rw[IntWalk.i64_in _ (by omega)];omega
 have w1:IntKind.i64.wrap (((b - a:Nat):Int) - 1)=((b - a - 1:Nat):Int):=by rw[IntWalk.i64_in _ (by omega)];omega
 have w2:(((b - a - 1:Nat):Int)).tdiv 2=(((b - a - 1) / 2:Nat):Int):=by rw[Int.tdiv_eq_ediv_of_nonneg (by omega)];push_cast;rfl
 have w3:IntKind.i64.wrap (((b - a - 1) / 2:Nat):Int)=(((b - a - 1) / 2:Nat):Int):=IntWalk.i64_in _ (by omega);refine af.dv (n:=60) (rs:=[]) Try.func97 rfl rfl rfl (by decide) (by simp) ?_;refine W.seq (ab _ _ _ (by rfl) ?_);simp only[go_sem];refine W.seq (ab _ _ _ (by rfl) ?_);simp only[go_sem];refine W.seq (ab _ _ _ (by rfl) ?_);simp only[go_sem,w0];refine W.seq (ab _ _ _ (by rfl) ?_);simp only[go_sem,w1,w2,w3];refine W.env fun E hE=>?_;have e0:E 0=.own id g 0 n 1:=by rw[hE];simp only[go_sem]
 have e3:E 3=cv:=by rw[hE];simp only[go_sem]
 have e8:E 8=aa a:=by rw[hE];simp only[go_sem]
 have e9:E 9=aa 0:=by rw[hE];simp only[go_sem]
 have e10:E 10=aa ((b - a:Nat):Int):=by rw[hE];simp only[go_sem]
 have e11:E 11=aa (((b - a - 1) / 2:Nat):Int):=by rw[hE];simp only[go_sem]
 clear hE;refine W.aI 1072695296 (by kernel_rfl) (fun ρ Hx=>∃ (k:Nat) (q:List Nat),ρ 11=aa ((k:Int) - 1)/\k<=b - a/\aZ a b l q/\gJ f q a k (b - a)/\Hx=H.upd id (nB g q)) (fun ρ Hx=>(iv (ρ 11)+1).toNat) ?_ ?_
 ·exact⟨(b - a - 1) / 2+1,l,e11.trans (by congr 3;omega),by omega,.refl _ _ _,.N1 (by omega),S.self.symm⟩
 rintro ρ Hx ⟨k,q,h11,hk,hp,hh,hHx⟩;refine W.env fun F hF=>?_;have d0:F 0=.own id g 0 n 1:=by rw[hF];simp only[go_sem,e0]
 have d3:F 3=cv:=by rw[hF];simp only[go_sem,e3]
 have d8:F 8=aa a:=by rw[hF];simp only[go_sem,e8]
 have d9:F 9=aa 0:=by rw[hF];simp only[go_sem,e9]
 have d10:F 10=aa ((b - a:Nat):Int):=by rw[hF];simp only[go_sem,e10]
 have d11:F 11=aa ((k:Int) - 1):=by rw[hF];simp only[go_sem,h11]
 clear hF;have T:=S.upd hp.1;rw[<- hHx]at T;by_cases hk0:(k:Int) - 1 >= 0
 ·obtain⟨i,rfl⟩:∃ i,k=i+1:=⟨k - 1,by omega⟩
  have ei:((i+1:Nat):Int) - 1=(i:Int):=by omega
  rw[ei]at d11 hk0 h11;have wi:=IntWalk.i64_in ((i:Int) - 1) (by omega);refine W.seq (ab _ _ _ (by rfl) ?_);simp only[go_sem,d11,hk0];refine W.seq (W.block ?_);refine ab _ _ _ (by rfl) ?_;simp only[go_sem,d0,d3,d8,d10,d11];refine aw.clo (BZ (hi:=b - a) T (by omega) (by omega) hh _ fun q' hq' hh'=>⟨trivial,?_⟩);simp only[go_sem];refine ab _ _ _ (by rfl) ?_;simp only[go_sem,d11,wi];refine⟨by rw[hHx];exact Nat.le_refl _,⟨i,q',rfl,by omega,hp.trans (hq'.mono (by omega) (by omega)),hh',?_⟩,by rw[h11];simp only[aa,aK];omega⟩;rw[hHx,dP]
 refine ab _ _ _ (by rfl) ?_;simp only[go_sem,d11,hk0];obtain rfl:k=0:=by omega
 refine W.seq (ab _ _ _ (by rfl) ?_);simp only[go_sem,d10,w1];refine W.env fun J hJ=>?_;have m0:J 0=.own id g 0 n 1:=by rw[hJ];simp only[go_sem,d0]
 have m3:J 3=cv:=by rw[hJ];simp only[go_sem,d3]
 have m8:J 8=aa a:=by rw[hJ];simp only[go_sem,d8]
 have m9:J 9=aa 0:=by rw[hJ];simp only[go_sem,d9]
 have m10:J 10=aa ((b - a:Nat):Int):=by rw[hJ];simp only[go_sem,d10]
 have m12:J 12=aa ((b - a - 1:Nat):Int):=by rw[hJ];simp only[go_sem]
 clear hJ;refine W.block ?_;refine W.aI 1152921500311883776 (by kernel_rfl) (fun ρ Hz=>∃ (k:Nat) (p:List Nat),ρ 12=aa ((k:Int) - 1)/\k<=b - a/\aZ a b l p/\gJ f p a 0 k/\lC f p a (a+k) b/\Hz=H.upd id (nB g p)) (fun ρ Hz=>(iv (ρ 12)+1).toNat) ?_ ?_
 ·exact⟨b - a,q,m12.trans (by congr 3;omega),Nat.le_refl _,hp,hh,by rw[show a+(b - a)=b by omega];exact .start,hHx⟩
 rintro ρ2 Hz ⟨k,p,h12,hkb,hpp,hhp,hPI,hHz⟩;refine W.env fun M hM=>?_;have u0:M 0=.own id g 0 n 1:=by rw[hM];simp only[go_sem,m0]
 have u3:M 3=cv:=by rw[hM];simp only[go_sem,m3]
 have u8:M 8=aa a:=by rw[hM];simp only[go_sem,m8]
 have u9:M 9=aa 0:=by rw[hM];simp only[go_sem,m9]
 have u10:M 10=aa ((b - a:Nat):Int):=by rw[hM];simp only[go_sem,m10]
 have u12:M 12=aa ((k:Int) - 1):=by rw[hM];simp only[go_sem,h12]
 clear hM;have Tz:=S.upd hpp.1;rw[<- hHz]at Tz;by_cases hk1:(k:Int) - 1 >= 0;rotate_left
 ·refine ab _ _ _ (by rfl) ?_;simp only[go_sem,u12,hk1];obtain rfl:k=0:=by omega
  rw[hHz];exact av.mk (Nat.le_refl _) (hK p hpp hPI.done)
 obtain⟨i,rfl⟩:∃ i,k=i+1:=⟨k - 1,by omega⟩
 have ei:((i+1:Nat):Int) - 1=(i:Int):=by omega
 rw[ei]at u12 hk1 h12;have wi:=IntWalk.i64_in ((i:Int) - 1) (by omega);have wai:IntKind.i64.wrap ((a:Int)+(i:Int))=((a+i:Nat):Int):=by rw[IntWalk.i64_in _ (by omega)];omega
 have an:a<n:=by omega
 have ain:a+i<n:=by omega
 have ba:(a:Int)<n:=by omega
 have bai:((a+i:Nat):Int)<n:=by omega
 have pl:=hpp.len;rw[S.hl]at pl;refine W.seq (ab _ _ _ (by rfl) ?_);simp only[go_sem,u12,hk1];refine W.seq (W.block (W.seq ?_));refine W.draw 18 [0,0,0,0,0,24,0,0,0,384,960,1984,0,0,12288,28672,65475,131011] Try.mixed (by kernel_rfl) (by kernel_rfl) ?_;simp only[go_sem,u0,u8,u12,Tz.live,Tz.len,wai,Tz.cell an,Tz.cell ain,ba,bai,Tz.s1 an,Tz.s2 (i:=a) ain,Tz.ig,Tz.ij];refine⟨by omega,by omega,?_⟩
 try rw[Tz.u2]
 have sw:aZ a b p (bZ p a (a+i)):=.swap (Nat.le_refl _) (by omega) (by omega) (by omega) (by omega);have Ts:=Tz.upd sw.1;refine ab _ _ _ (by rfl) ?_;simp only[go_sem,u0,u3,u8,u9,u12];refine aw.clo (BZ (lo:=0) (hi:=i) Ts (by omega) (by omega) (hhp.pop (by omega)) _ fun q' hq' hh'=>⟨trivial,?_⟩);simp only[go_sem];refine ab _ _ _ (by rfl) ?_;simp only[go_sem,u12,wi];refine⟨by simp only[aA];rw[hHz,hHx];exact Nat.le_refl _,⟨i,q',rfl,by omega,hpp.trans (sw.trans (hq'.mono (by omega) (by omega))),hh',hPI.step hhp (by omega) (by omega) hq',?_⟩,by rw[h12];simp only[aa,aK];omega⟩;rw[hHz,dP,dP]
end
end Go.Proofs
