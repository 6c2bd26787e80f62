/-
  Parts and expected counts. Plain: no program stands in this text. No conditions.
-/
import Derived.Test.YtakancljiekbhaaConC
import Derived.Test.YtakancljiekbhaaConD
import Derived.Test.YtakancljiekbhaaConB
import Derived.Test.YtakancljiekbhaaConA
set_option linter.all false
namespace Go.Proofs
open Go.Hx
theorem MH {n:Nat}{D:Nat->Bool}{f:Nat->Int}(h:∀ v,v<n->1<=f v):1<=dC n D f/\dC n D f<=aw ((List.range n).map f):=by
 induction n with
 | zero=>exact⟨Int.le_refl 1,Int.le_refl 1⟩
 | succ n ih =>
  obtain⟨h1,h2⟩:=ih fun v hv=>h v (by omega);have hf:=h n (by omega);rw[ug,List.range_succ,List.map_append,uI];have e:aw ([n].map f)=f n:=by simp [fH,fm]
  rw[e];cases D n
  ·rw[if_neg (by decide),Int.mul_one];exact⟨h1,Int.le_trans h2 (by have:=Int.mul_le_mul_of_nonneg_left hf (show 0<=aw ((List.range n).map f) by omega);omega)⟩
  ·rw[if_pos rfl];exact⟨by have:=Int.mul_le_mul h1 hf (by omega) (by omega);omega,Int.mul_le_mul_of_nonneg_right h2 (by omega)⟩
theorem MI {n:Nat}(f:Nat->Int):∀ {l:List Nat},l.Nodup->(∀ v∈l,v<n)->dC n (fun v=>decide (v∈l)) f=aw (l.map f):=by
 intro l
 induction l with
 | nil=>intro _ _;rw[show (fun v=>decide (v∈([]:List Nat)))=fun _=>false from funext fun v=>by simp,BW];rfl
 | cons a l ih =>
  intro hn hl;obtain⟨h1,h2⟩:=List.nodup_cons.1 hn;have ha:=hl a (by simp);rw[uh (D:=fun v=>decide (v∈l)) (v:=a) f (by simpa using h1) (by simp) (fun i hi=>by simp [hi]),if_pos ha,ih h2 fun v hv=>hl v (by simp [hv]),List.map_cons,fH,Int.mul_comm]
theorem MJ {g:Int}{ns:List NodeP}(h:NetOk g ns){v:Nat}{x:NodeP}(hx:ns[v]?=some x):(v:Int) ∉ x.parents:=by
 intro hm;have ha:=h.acyc v (by rw[rf];exact get_lt hx);rw[bG (nG hx)]at ha;have hpos:=fun q hq=>((h.node x (List.mem_of_getElem? hx)).2.2 q hq).1;have hb:(dR x.parents).testBit v=true:=by rw[mi hpos];exact decide_eq_true hm
 have:=uN (bB ns) (bB ns).length (dR x.parents) v hb;unfold fJ at ha;rw[ha]at this;cases this
theorem py {g:Int}{ns:List NodeP}(h:NetOk g ns){v:Nat}{x:NodeP}(hx:ns[v]?=some x):1<=(x.rows.length:Int)*x.card/\(x.rows.length:Int)*x.card<=1024:=by
 have hxm:=List.mem_of_getElem? hx;obtain⟨hpw,hpr⟩:=(h.node x hxm).2;have hl:(x.parents.map Int.toNat).Nodup:=by
  refine List.pairwise_map.2 (hpw.imp_of_mem fun {a b} ha hb hab=>?_);have:=(hpr a ha).1;omega
 have hno:=MJ h hx;have hn2:(v :: x.parents.map Int.toNat).Nodup:=List.nodup_cons.2 ⟨fun hm=>by
  obtain⟨q,hq,hqv⟩:=List.mem_map.1 hm;exact hno (by rw[<- hqv,Int.toNat_of_nonneg (hpr q hq).1];exact hq),hl⟩
 have hr2:∀ u∈(v :: x.parents.map Int.toNat),u<ns.length:=fun u hu=>by
  rcases List.mem_cons.1 hu with rfl|hu
  ·exact get_lt hx
  ·obtain⟨q,hq,rfl⟩:=List.mem_map.1 hu;have:=hpr q hq;omega
 have e:=MI (fun u=>(ar ns).getD u 0) hn2 hr2;have hge:=MH (n:=ns.length) (D:=fun u=>decide (u∈v :: x.parents.map Int.toNat)) (f:=fun u=>(ar ns).getD u 0) fun u hu=>by
  obtain⟨y,hy⟩:=get_of_lt hu;show 1<=(ar ns).getD u 0;rw[bG (cK hy)];exact(h.node y (List.mem_of_getElem? hy)).1.1
 rw[e,BZ,List.map_cons,fH,List.map_map]at hge;have e2:aw (x.parents.map ((fun u=>(ar ns).getD u 0) ∘ Int.toNat))=aw (aS ns x):=rfl;rw[e2,bG (cK hx),<- (h.rows x hxm).1,Int.mul_comm]at hge;have:=h.size;omega
def kJ (l:List Int)(i:Nat)(d:Int):List Int:=l.set i (l.getD i 0+d)
theorem MK (l:List Int)(i:Nat)(d:Int):(kJ l i d).length=l.length:=by simp [kJ]
theorem ML {l:List Int}{i:Nat}(h:i<l.length)(d:Int):(kJ l i d).sum=l.sum+d:=by
 induction l generalizing i with
 | nil=>simp at h
 | cons a l ih =>
  cases i with
  | zero=>simp [kJ];omega
  | succ i =>
   have:=ih (i:=i) (by simpa using h);unfold kJ at this ⊢;simp only[List.set_cons_succ,List.sum_cons,List.getD_cons_succ,this];omega
theorem MM {l:List Int}(h:∀ x∈l,0<=x)(i:Nat){d:Int}(hd:0<=d):∀ x∈kJ l i d,0<=x:=fun x hx=>by
 rcases List.mem_or_eq_of_mem_set hx with hx|rfl
 ·exact h x hx
 ·rw[List.getD_eq_getElem?_getD];cases hy:l[i]? with
  | none=>simpa using hd
  | some y=>have:=h y (List.mem_of_getElem? hy);simp;omega
def iY (ns:List NodeP)(x:NodeP)(v:Nat)(w:List Int):Int:=dx (aS ns x) (aT w x.parents)*x.card+w.getD v 0
def j8 (ns:List NodeP)(x:NodeP)(v:Nat)(s w:List Int):List Int:=kJ s (iY ns x v w).toNat (weight ns w)
def eI (ns:List NodeP)(x:NodeP)(v:Nat)(ws:List (List Int)):List Int:=ws.foldl (j8 ns x v) (List.replicate (x.rows.length*x.card.toNat) 0)
theorem Cc (ns:List NodeP)(x:NodeP)(v:Nat)(ws:List (List Int))(w:List Int):eI ns x v (ws++[w])=j8 ns x v (eI ns x v ws) w:=by unfold eI;rw[List.foldl_append];rfl
theorem xZ {g:Int}{ns:List NodeP}(h:NetOk g ns){v:Nat}{x:NodeP}(hx:ns[v]?=some x){w:List Int}(hw:cG (ar ns) w):0<=iY ns x v w/\iY ns x v w<x.rows.length*x.card:=by
 have hxm:=List.mem_of_getElem? hx;have hin:gA x.parents ns.length:=fun q hq=>by have:=(h.node x hxm).2.2 q hq;omega
 have h1:=nu (pP hin hw);obtain⟨a,ha⟩:=get_of_lt (l:=w) (i:=v) (by rw[hw.1,bP];exact get_lt hx);have h2:=hw.2 v x.card a (cK hx) ha;have hl:=(h.rows x hxm).1;unfold iY;rw[bG ha];have hc:=(h.node x hxm).1;have m1:0<=dx (aS ns x) (aT w x.parents)*x.card:=Int.mul_nonneg h1.1 (by omega);have m2:(dx (aS ns x) (aT w x.parents)+1)*x.card<=x.rows.length*x.card:=Int.mul_le_mul_of_nonneg_right (by omega) (by omega);rw[Int.add_mul]at m2;omega
theorem pA {g:Int}{ns:List NodeP}(h:NetOk g ns){v:Nat}{x:NodeP}(hx:ns[v]?=some x)(ws:List (List Int))(hw:∀ w∈ws,cG (ar ns) w):
  ((eI ns x v ws).length:Int)=x.rows.length*x.card/\(∀ y∈eI ns x v ws,0<=y)/\(eI ns x v ws).sum=(ws.map (weight ns)).sum:=by
 have hc:=(h.node x (List.mem_of_getElem? hx)).1;have key:∀ (l:List (List Int)) (s:List Int),(∀ w∈l,cG (ar ns) w)->(s.length:Int)=x.rows.length*x.card->(∀ y∈s,0<=y) ->
   ((l.foldl (j8 ns x v) s).length:Int)=x.rows.length*x.card/\(∀ y∈l.foldl (j8 ns x v) s,0<=y)/\(l.foldl (j8 ns x v) s).sum=s.sum+(l.map (weight ns)).sum:=by
  intro l
  induction l with
  | nil=>intro s _ h1 h2;exact⟨h1,h2,by simp⟩
  | cons w l ih =>
   intro s hl h1 h2;have hp:=xZ h hx (hl w (by simp));have hwt:=B0 h (hl w (by simp));obtain⟨a,b,c⟩:=ih (j8 ns x v s w) (fun w' h'=>hl w' (by simp [h'])) (by unfold j8;rw[MK];exact h1) (MM h2 _ hwt.1);refine⟨a,b,?_⟩;rw[List.foldl_cons,c];unfold j8;rw[ML (by omega),List.map_cons,List.sum_cons];omega
 have e:((List.replicate (x.rows.length*x.card.toNat) (0:Int)).length:Int)=x.rows.length*x.card:=by
  rw[List.length_replicate,Int.natCast_mul,Int.toNat_of_nonneg (by omega)]
 obtain⟨a,b,c⟩:=key ws _ hw e fun y hy=>by rw[List.eq_of_mem_replicate hy];exact Int.le_refl _
 refine⟨a,b,?_⟩;unfold eI;rw[c];have:(List.replicate (x.rows.length*x.card.toNat) (0:Int)).sum=0:=by rw[List.sum_replicate_int];simp
 omega
theorem MN {α:Type}(f:α->Int)(p:α->Bool)(l:List α)(h:∀ a∈l,0<=f a):((l.filter p).map f).sum<=(l.map f).sum:=by
 induction l with
 | nil=>simp
 | cons a l ih =>
  have h1:=h a (by simp);have h2:=ih fun b hb=>h b (by simp [hb]);rw[List.filter_cons];split
  ·simp only[List.map_cons,List.sum_cons];omega
  ·simp only[List.map_cons,List.sum_cons];omega
theorem MO {g:Int}{ns:List NodeP}(h:NetOk g ns)(h6:ns.length<=6){r:List Int}(hr:r.length=ns.length):fT ns r<=46656000000:=by
 unfold fT;rw[uf (by rw[hr,bP])];refine Int.le_trans (MN _ _ _ fun w hw=>(B0 h (xU (gp h) hw)).1) ?_;rw[Mq h];have hg:=h.g1;obtain⟨k,rfl⟩:∃ k:Nat,g=k:=⟨g.toNat,by omega⟩
 have a1:k ^ ns.length<=60 ^ ns.length:=Nat.pow_le_pow_left (by omega) _;have a2:(60:Nat) ^ ns.length<=60 ^ 6:=Nat.pow_le_pow_right (by decide) h6;have a3:(60:Nat) ^ 6=46656000000:=by decide
 rw[<- Int.natCast_pow];omega
noncomputable def gu (c:List Int):List Int:=kR 0 (cW 720 0 c) c
def iw (ns:List NodeP)(x:NodeP)(v:Nat)(r:List Int):List Int:=eI ns x v (dc (ar ns) r)
def fj (a b:List Int):List Int:=List.zipWith (·+·) a b
noncomputable def cP (ns:List NodeP)(x:NodeP)(v:Nat)(xs:List (List Int)):List Int:=xs.foldl (fun s r=>fj s (gu (iw ns x v r))) (List.replicate (x.rows.length*x.card.toNat) 0)
theorem x5 (ns:List NodeP)(x:NodeP)(v:Nat)(xs:List (List Int))(r:List Int):cP ns x v (xs++[r])=fj (cP ns x v xs) (gu (iw ns x v r)):=by unfold cP;rw[List.foldl_append];rfl
theorem x6 {g:Int}{ns:List NodeP}(h:NetOk g ns)(h6:ns.length<=6){v:Nat}{x:NodeP}(hx:ns[v]?=some x){r:List Int}(hr:r.length=ns.length):gU (iw ns x v r) 720 0:=by
 have hl:=py h hx;obtain⟨a,b,c⟩:=pA h hx (dc (ar ns) r) fun w hw=>px (gp h) (by rw[hr,bP]) hw;have hm:=MO h h6 hr;have hs:(iw ns x v r).sum=fT ns r:=c;refine⟨by unfold iw;omega,fun y hy=>⟨b y hy,?_⟩,by omega,by omega,by omega⟩;have:=nI (l:=iw ns x v r) b y hy;omega
theorem x7 {c:List Int}(h:gU c 720 0):je 0 (cW 720 0 c) c (gu c)/\(gu c).length=c.length/\(gu c).sum=720/\∀ x∈gu c,0<=x/\x<=720:=by
 obtain⟨s,hs⟩:=CQ 0 (cW 720 0 c) (c:=c) (by have:=h.1;omega);have e:gu c=s:=(rE hs).symm;rw[e];have h1:=Qy (by have:=h.1;omega) hs;have h2:=Qz (fun x hx=>(h.2.1 x hx).1) (by have:=h.1;omega) (by unfold cW;omega) hs;refine⟨hs,h1.1,h1.2,fun x hx=>⟨h2 x hx,?_⟩⟩;have:=nI h2 x hx;omega
theorem ya {a b:List Int}(h:a.length=b.length):(fj a b).length=a.length:=by simp [fj,h]
theorem MP {a b:List Int}{m n:Int}(ha:∀ x∈a,0<=x/\x<=m)(hb:∀ x∈b,0<=x/\x<=n):∀ x∈fj a b,0<=x/\x<=m+n:=fun x hx=>by
 obtain⟨i,hi⟩:=List.getElem?_of_mem hx;unfold fj at hi;rw[List.getElem?_zipWith]at hi;cases h1:a[i]? with
 | none=>rw[h1]at hi;simp at hi
 | some y =>
  cases h2:b[i]? with
  | none=>rw[h1,h2]at hi;simp at hi
  | some z =>
   rw[h1,h2]at hi;simp only[Option.some.injEq]at hi;have:=ha y (List.mem_of_getElem? h1);have:=hb z (List.mem_of_getElem? h2);omega
theorem um {g:Int}{ns:List NodeP}(h:NetOk g ns)(h6:ns.length<=6){v:Nat}{x:NodeP}(hx:ns[v]?=some x)(xs:List (List Int))(hr:∀ r∈xs,r.length=ns.length):
  ((cP ns x v xs).length:Int)=x.rows.length*x.card/\∀ y∈cP ns x v xs,0<=y/\y<=720*xs.length:=by
 have hc:=(h.node x (List.mem_of_getElem? hx)).1;have key:∀ k,k<=xs.length->((cP ns x v (xs.take k)).length:Int)=x.rows.length*x.card/\∀ y∈cP ns x v (xs.take k),0<=y/\y<=720*k:=by
  intro k
  induction k with
  | zero =>
   intro _;refine⟨?_,fun y hy=>?_⟩
   ·show ((List.replicate (x.rows.length*x.card.toNat) (0:Int)).length:Int)=_;rw[List.length_replicate,Int.natCast_mul,Int.toNat_of_nonneg (by omega)]
   ·have hy':y∈List.replicate (x.rows.length*x.card.toNat) (0:Int):=hy;rw[List.eq_of_mem_replicate hy'];simp
  | succ k ih =>
   intro hk;obtain⟨r,hrk⟩:=get_of_lt (l:=xs) (i:=k) (by omega);have hrl:=hr r (List.mem_of_getElem? hrk);obtain⟨h1,h2⟩:=ih (by omega);have hp:=x6 h h6 hx hrl;obtain⟨_,h4,_,h5⟩:=x7 hp;obtain⟨a,_,_⟩:=pA h hx (dc (ar ns) r) fun w hw=>px (gp h) (by rw[hrl,bP]) hw;have a':((iw ns x v r).length:Int)=x.rows.length*x.card:=a;rw[aL hrk,x5];refine⟨by rw[ya (by omega)];exact h1,fun y hy=>?_⟩;have:=MP h2 h5 y hy;omega
 have:=key xs.length (Nat.le_refl _);rw[List.take_length]at this;exact this
end Go.Proofs
set_option maxRecDepth 100000
namespace Go.Proofs
open Go.Hx
theorem Cd:∀ {r vs:List Int},vs.length=r.length->(gO r vs=true↔∀ (k:Nat) (x y:Int),r[k]?=some x->vs[k]?=some y->x<0\/x=y):=by
 intro r
 induction r with
 | nil=>intro vs _;exact⟨fun _ k x y h=>by simp at h,fun _=>rfl⟩
 | cons a r ih =>
  intro vs hl;cases vs with
  | nil=>simp at hl
  | cons b vs =>
   show ((decide (a<0) || decide (a=b)) && gO r vs)=true↔_;rw[Bool.and_eq_true,ih (by simpa using hl),Bool.or_eq_true,decide_eq_true_iff,decide_eq_true_iff];constructor
   ·rintro⟨h1,h2⟩ k x y hx hy;cases k with
    | zero =>
     simp only[List.getElem?_cons_zero,Option.some.injEq]at hx hy;rw[<- hx,<- hy];exact h1
    | succ k=>exact h2 k x y (by simpa using hx) (by simpa using hy)
   ·intro hh;exact⟨hh 0 a b rfl rfl,fun k x y hx hy=>hh (k+1) x y (by simpa using hx) (by simpa using hy)⟩
theorem Ce (r vs:List Int)(hl:vs.length=r.length)(h64:vs.length<=64)(H:AHeap)(K:ARes->AHeap->Prop)(hK:K (.ret (.lit (.bool (gO r vs)))) H):af Try.prog G0 71 [ae vs,ae r] H K:=by
 refine af.bf (n:=28) (rs:=[.tmp 4]) Try.func71 rfl rfl rfl (by decide) (by kernel_rfl) (by simp) ?_;simp only[go_sem];refine W.aG 268435440 (by rfl) (fun ρ H'=>H'=H/\∃ k:Nat,ρ 5=aa k/\k<=vs.length/\∀ j,j<k->∀ x y,r[j]?=some x->vs[j]?=some y->x<0\/x=y) (fun ρ H=>vs.length - (iv (ρ 5)).toNat) ?_ ?_
 ·simp only[go_sem];exact⟨0,rfl,by omega,fun j h=>absurd h (Nat.not_lt_zero _)⟩
 rintro ρ H' ⟨hHx,k,h5,hk,hall⟩;rw[hHx];refine ab _ _ _ (by rfl) ?_;by_cases hb:(k:Int)<vs.length
 ·obtain⟨y,hy⟩:=get_of_lt (l:=vs) (i:=k) (by omega);obtain⟨x,hx⟩:=get_of_lt (l:=r) (i:=k) (by omega);have hyn:=aJ hy;have hxn:=aJ hx;have hrb:(k:Int)<r.length:=by omega
  have w1:=IntWalk.i64_in ((k:Int)+1) (by omega);have nx:(x<0\/x=y)->∀ j,j<k+1->∀ x y,r[j]?=some x->vs[j]?=some y->x<0\/x=y:=fun hh j hj x' y' h1 h2=>by
   rcases Nat.lt_or_ge j k with h|h
   ·exact hall j h x' y' h1 h2
   ·obtain rfl:j=k:=(by omega);rw[hx]at h1;rw[hy]at h2;cases h1;cases h2;exact hh
  by_cases x0:x<0
  ·have x0':¬ x >= 0:=(by omega);simp only[go_sem,h5,hb];refine W.draw 14 [0,0,3,7,15,31,63,63,255,511,63,63,3135,7231] Try.mixed (by kernel_rfl) (by kernel_rfl) ?_;simp only[go_sem,h5,hx,hxn,hrb,x0',w1];exact⟨⟨k+1,rfl,by omega,nx (.inl x0)⟩,by omega⟩
  have x0':x >= 0:=by omega
  by_cases xy:x=y
  ·have y0:0<=y:=(by omega);simp only[go_sem,h5,hb];refine W.draw 14 [0,0,3,7,15,31,63,63,255,511,63,63,3135,7231] Try.mixed (by kernel_rfl) (by kernel_rfl) ?_;simp only[go_sem,h5,hb,hx,hxn,hy,hyn,hrb,xy,y0,w1];exact⟨⟨k+1,rfl,by omega,nx (.inr xy)⟩,by omega⟩
  ·have hm:gO r vs=false:=by
    rw[<- Bool.not_eq_true,Cd hl];exact fun hh=>(hh k x y hx hy).elim x0 xy
   rw[hm]at hK;simp only[go_sem,h5,hb];refine W.draw 14 [0,0,3,7,15,31,63,63,255,511,63,63,3135,7231] Try.mixed (by kernel_rfl) (by kernel_rfl) ?_;simp only[go_sem,h5,hb,hx,hxn,hy,hyn,hrb,x0',xy];exact av.mk (Nat.le_refl _) hK
 ·simp only[go_sem,h5,hb];have hm:gO r vs=true:=(Cd hl).2 fun j x y hx hy=>hall j (by have:=get_lt hy;omega) x y hx hy;rw[hm]at hK;exact av.mk (Nat.le_refl _) hK
def dV (ns:List NodeP)(r:List Int)(k:Nat):List (List Int):=((List.range k).map fun (i:Nat)=>cF (ar ns) i).filter (gO r)
theorem Cf (ns:List NodeP)(r:List Int)(k:Nat):dV ns r (k+1)=if gO r (cF (ar ns) k)=true then dV ns r k++[cF (ar ns) k] else dV ns r k:=by
 unfold dV;rw[List.range_succ,List.map_append,List.filter_append];simp only[List.map_cons,List.map_nil,List.filter_cons,List.filter_nil];split<;>simp
theorem Cg {g:Int}{ns:List NodeP}(h:NetOk g ns){r:List Int}(hr:r.length=ns.length):dV ns r (iG ns)=dc (ar ns) r:=by
 rw[uf (by rw[hr,bP]),ue (gp h)];rfl
theorem Ch {g:Int}{ns:List NodeP}(h:NetOk g ns)(r:List Int)(k:Nat):∀ w∈dV ns r k,cG (ar ns) w:=fun w hw=>by
 obtain⟨i,_,rfl⟩:=List.mem_map.1 (List.mem_filter.1 hw).1;exact uJ (gp h) _
theorem MS (ns:List NodeP)(r:List Int)(k:Nat):(dV ns r k).length<=k:=by
 unfold dV;refine Nat.le_trans (List.length_filter_le _ _) ?_;simp
theorem ye {g:Int}{ns:List NodeP}(h:NetOk g ns)(r:List Int){k:Nat}(hk:k<=1025):0<=((dV ns r k).map (weight ns)).sum/\((dV ns r k).map (weight ns)).sum<=172160640000000000:=by
 have h1:=B8 (l:=(dV ns r k).map (weight ns)) (b:=167961600000000) fun x hx=>by
  obtain⟨w,hw,rfl⟩:=List.mem_map.1 hx;exact uj h (Ch h r k w hw)
 have h2:=MS ns r k;rw[List.length_map]at h1;omega
set_option maxHeartbeats 1000000 in
theorem MT (g:Int)(ns:List NodeP)(h:NetOk g ns)(r:List Int)(hr:r.length=ns.length)(H:AHeap)(K:ARes->AHeap->Prop)(hK:K (.ret (aa (fT ns r))) H):af Try.prog G0 45 [aQ g ns,ae r] H K:=by
 refine af.clo ⟨_,Try.func45,rfl,rfl⟩ fun hcl=>?_;have n8:=h.n1;have hc4:∀ y∈ns,1<=y.card/\y.card<=4:=fun y hy=>(h.node y hy).1;have hsz:=h.size;have hp:=jc (gp h);have hw:((iG ns:Nat):Int)=aw (ar ns):=by unfold iG;omega
 refine af.bf (n:=24) (rs:=[.tmp 4]) Try.func45 rfl rfl rfl (by decide) (by kernel_rfl) (by simp) ?_;simp only[go_sem,aQ,bW];obtain⟨H1,hH1⟩:∃ H1,H1=ext H [.arr 0 35 [.lit (.int .i64 g),.vec ns.length (au ns)]]:=⟨_,rfl⟩
 have l1:H1.live H.next 0=some (35,[.lit (.int .i64 g),.vec ns.length (au ns)]):=by rw[hH1];exact ah (cJ ..)
 have o1:Over H H1:=by rw[hH1];exact .ext _ _
 rw[<- hH1];refine W.aG 8388576 (by rfl) (fun ρ H'=>H'=H1/\∃ k:Nat,ρ 6=aa k/\k<=iG ns/\ρ 5=aa ((dV ns r k).map (weight ns)).sum) (fun ρ H=>iG ns - (iv (ρ 6)).toNat) ?_ ?_
 ·simp only[go_sem];exact⟨0,rfl,by omega,rfl⟩
 rintro ρ H' ⟨hHx,k,h6,hk,h5⟩;rw[hHx];refine W.env fun E hE=>?_;have e1:E 1=ae r:=by rw[hE];simp only[go_sem]
 have e2:E 2=.ptr H.next 0 0:=by rw[hE];simp only[go_sem]
 have e5:E 5=aa ((dV ns r k).map (weight ns)).sum:=by rw[hE];simp only[go_sem,h5]
 have e6:E 6=aa k:=by rw[hE];simp only[go_sem,h6]
 clear hE;have s1:=ye h r (k:=k+1) (by omega);have s0:=ye h r (k:=k) (by omega);have ms:=Cf ns r k;refine ab _ _ _ (by rfl) ?_;simp only[go_sem,e2,e6,l1];refine aB.clo (yV g ns n8.2 hc4 _ _ ⟨trivial,?_⟩);rw[<- hw];by_cases hb:(k:Int)<iG ns;rotate_left
 ·have ek:k=iG ns:=by omega
  simp only[go_sem,e5,hb];rw[ek,Cg h hr];exact av.bA aP hcl o1 (.lit _) hK
 simp only[go_sem,e2,e6,l1,hb];refine aB.clo (yU g ns n8.2 hc4 k (by omega) _ _ ⟨trivial,?_⟩);simp only[go_sem,e1];obtain⟨vals,hvals⟩:∃ vals,vals=cF (ar ns) (k:Int):=⟨_,rfl⟩
 have hvl:vals.length=r.length:=by rw[hvals,kT,bP,hr]
 have w1:=IntWalk.i64_in ((k:Int)+1) (by omega);rw[<- hvals]at ms ⊢;refine aB.clo (Ce r vals hvl (by omega) _ _ ⟨trivial,?_⟩);cases hm:gO r vals
 ·simp only[go_sem,e5,e6,w1];rw[hm,if_neg (by decide)]at ms;exact⟨⟨k+1,rfl,by omega,by rw[ms]⟩,by rw[h6];simp only[aa,aK];omega⟩
 ·rw[hm,if_pos rfl]at ms;have es:((dV ns r (k+1)).map (weight ns)).sum=((dV ns r k).map (weight ns)).sum+weight ns vals:=by rw[ms];simp
  rw[es]at s1;have w2:=IntWalk.i64_in (((dV ns r k).map (weight ns)).sum+weight ns vals) (by omega);simp only[go_sem,e2,e5,e6,l1];refine aB.clo (DN g ns h k (by omega) _ _ ⟨trivial,?_⟩);rw[<- hvals];simp only[go_sem,e5,e6,w1,w2];exact⟨⟨k+1,rfl,by omega,by rw[es]⟩,by rw[h6];simp only[aa,aK];omega⟩
set_option maxHeartbeats 4000000 in
theorem MU (g:Int)(ns:List NodeP)(h:NetOk g ns)(r:List Int)(hr:r.length=ns.length)(v:Nat)(x:NodeP)(hx:ns[v]?=some x)(H:AHeap)(K:ARes->AHeap->Prop)(hK:K (.ret (ae (iw ns x v r))) H):
  af Try.prog G0 47 [aQ g ns,ae r,aa v] H K:=by
 refine af.clo ⟨_,Try.func47,rfl,rfl⟩ fun hcl=>?_;have n8:=h.n1;have hc4:∀ y∈ns,1<=y.card/\y.card<=4:=fun y hy=>(h.node y hy).1;have hsz:=h.size;have hp:=jc (gp h);have hw:((iG ns:Nat):Int)=aw (ar ns):=by unfold iG;omega
 have hxm:=List.mem_of_getElem? hx;have hxc:=(h.node x hxm).1;have hrc:=py h hx;have hvn:(v:Int)<ns.length:=by have:=get_lt hx;omega
 have hne:=dQ hx;have h0:=iF hx;have h1:=kS hx;have h2:=ni hx;have wL:=IntWalk.i64_in ((x.rows.length:Int)*x.card) (by omega);obtain⟨L,hL⟩:∃ L:Nat,(x.rows.length:Int)*x.card=L:=⟨((x.rows.length:Int)*x.card).toNat,by omega⟩
 have hLn:x.rows.length*x.card.toNat=L:=by
  have:((x.rows.length*x.card.toNat:Nat):Int)=x.rows.length*x.card:=by rw[Int.natCast_mul,Int.toNat_of_nonneg (by omega)]
  omega
 rw[hL]at wL hrc;have hbL:(L:Int)*8<=2 ^ 46/\(L:Int)<=2 ^ 46:=by omega
 have hin:gA x.parents ns.length:=fun q hq=>by have:=(h.node x hxm).2.2 q hq;omega
 have sm:=pR n8.2 (h.node x hxm).2 fun y hy=>(h.node y hy).1;have pl:(aS ns x).length=x.parents.length:=gZ _ _;have p12:=sm.1;refine af.bf (n:=77) (rs:=[.tmp 6]) Try.func47 rfl rfl rfl (by decide) (by kernel_rfl) (by simp) ?_;simp only[go_sem,aQ,bW];refine W.draw 13 [0,1,0,7,15,31,63,0,128,0,896,1920,3968] Try.mixed (by kernel_rfl) (by kernel_rfl) ?_;simp only[go_sem,hvn,hne,h0,h2,aA,hL,wL,hbL];obtain⟨H1,hH1⟩:∃ H1,H1=ext H [.arr 0 35 [aa g,.vec ns.length (au ns)],.arr 0 3 (List.replicate L (aa 0))]:=⟨_,rfl⟩
 have n1:H1.next=H.next+2:=by rw[hH1];rfl
 have o1:Over H H1:=by rw[hH1];exact .ext _ _
 have g0:H1.get H.next=some (.arr 0 35 [aa g,.vec ns.length (au ns)]):=by rw[hH1];exact cJ ..
 have hz:List.replicate L (aa 0)=ints (List.replicate L 0):=by simp [ints,aa]
 have g1:H1.get (H.next+1)=some (.arr 0 3 (ints (eI ns x v (dV ns r 0)))):=by
  rw[hH1,bg H _ 1 (by simp)];show some (Blk.arr 0 _ (List.replicate L (aa 0)))=some (.arr 0 _ (ints (List.replicate (x.rows.length*x.card.toNat) 0)));rw[hz,hLn]
 refine W.env fun E hE=>?_;have e1:E 1=ae r:=by rw[hE];simp only[go_sem]
 have e2:E 2=aa v:=by rw[hE];simp only[go_sem]
 have e3:E 3=.ptr H.next 0 0:=by rw[hE];simp only[go_sem]
 have e7:E 7=.own (H.next+1) 0 0 L 1:=by rw[hE];simp only[go_sem]
 have e8:E 8=aa 0:=by rw[hE];simp only[go_sem]
 clear hE;show W _ _ _ _ _ _ ⟨E,ext H [.arr 0 35 [aa g,.vec ns.length (au ns)],.arr 0 3 (List.replicate L (aa 0))]⟩;rw[<- hH1];refine W.aG 75557863725914189205248 (by rfl) (fun ρ H'=>∃ k:Nat,ρ 8=aa k/\k<=iG ns/\H1.next<=H'.next/\(∀ id,id<H1.next->id≠H.next+1->H'.get id=H1.get id)/\H'.get (H.next+1)=some (.arr 0 3 (ints (eI ns x v (dV ns r k))))) (fun ρ H=>iG ns - (iv (ρ 8)).toNat) ?_ ?_
 ·exact⟨0,e8,by omega,Nat.le_refl _,fun _ _ _=>rfl,g1⟩
 rintro ρ H' ⟨k,h8,hk,hn,hko,hg⟩;obtain⟨pa,pb,pc⟩:=pA h hx (dV ns r k) (Ch h r k);obtain⟨Pl,hPl⟩:∃ Pl,Pl=eI ns x v (dV ns r k):=⟨_,rfl⟩
 rw[<- hPl]at pa pb pc hg;rw[hL]at pa;have hpl2:Pl.length=L:=by omega
 have l0:=ah ((hko H.next (by omega) (by omega)).trans g0);have lP:=ah hg;refine W.env fun E1 hE1=>?_;have f1:E1 1=ae r:=by rw[hE1];simp only[go_sem,e1]
 have f2:E1 2=aa v:=by rw[hE1];simp only[go_sem,e2]
 have f3:E1 3=.ptr H.next 0 0:=by rw[hE1];simp only[go_sem,e3]
 have f7:E1 7=.own (H.next+1) 0 0 L 1:=by rw[hE1];simp only[go_sem,e7]
 have f8:E1 8=aa k:=by rw[hE1];simp only[go_sem,h8]
 clear hE1;have w1:=IntWalk.i64_in ((k:Int)+1) (by omega);have ms:=Cf ns r k;refine ab _ _ _ (by rfl) ?_;simp only[go_sem,f3,f8,l0];refine aB.clo (yV g ns n8.2 hc4 _ _ ⟨trivial,?_⟩);rw[<- hw];by_cases hb:(k:Int)<iG ns;rotate_left
 ·have ek:k=iG ns:=by omega
  simp only[go_sem,f7,hb];have eR:iw ns x v r=Pl:=by rw[hPl,ek,Cg h hr];rfl
  rw[eR]at hK;exact av.bA (v':=ae Pl) aP hcl ⟨by omega,fun id hi=>(hko id (by omega) (by omega)).trans (o1.old id hi)⟩ (Fz.ints (by omega) hg hpl2.symm fun j hj=>by rw[Nat.zero_add,fg];simp only[List.getElem?_eq_getElem hj,Option.map_some]) hK
 simp only[go_sem,f3,f8,l0,hb];refine aB.clo (yU g ns n8.2 hc4 k (by omega) _ _ ⟨trivial,?_⟩);simp only[go_sem,f1];obtain⟨vals,hvals⟩:∃ vals,vals=cF (ar ns) (k:Int):=⟨_,rfl⟩
 have hfit:cG (ar ns) vals:=by rw[hvals];exact uJ (gp h) _
 have hvl:vals.length=r.length:=by rw[hvals,kT,bP,hr]
 have hvl2:vals.length=ns.length:=by rw[hvl,hr]
 rw[<- hvals]at ms ⊢;refine aB.clo (Ce r vals hvl (by omega) _ _ ⟨trivial,?_⟩);cases hm:gO r vals
 ·simp only[go_sem,f8,w1];rw[hm,if_neg (by decide)]at ms;exact⟨by omega,⟨k+1,rfl,by omega,hn,hko,by rw[ms,<- hPl];exact hg⟩,by rw[h8];simp only[aa,aK];omega⟩
 rw[hm,if_pos rfl]at ms;have hfp:=pP hin hfit;have hin':∀ q∈x.parents,0<=q/\q<(vals.length:Int):=fun q hq=>by rw[hvl2];exact hin q hq
 obtain⟨a,ha⟩:=get_of_lt (l:=vals) (i:=v) (by omega);have han:=aJ ha;have hac:=hfit.2 v x.card a (cK hx) ha;have hpr:=xZ h hx hfit;have hpe:iY ns x v vals=dx (aS ns x) (aT vals x.parents)*x.card+a:=by unfold iY;rw[bG ha]
 obtain⟨z,hz2⟩:∃ z:Nat,iY ns x v vals=z:=⟨(iY ns x v vals).toNat,by omega⟩
 rw[hL,hz2]at hpr;rw[hz2]at hpe;have hPs:eI ns x v (dV ns r (k+1))=Pl.set z (Pl.getD z 0+weight ns vals):=by
  rw[ms,Cc,<- hPl];unfold j8 kJ;rw[hz2,Int.toNat_natCast]
 obtain⟨e0,he0⟩:=get_of_lt (l:=Pl) (i:=z) (by omega);rw[bG he0]at hPs;have he1:=pb e0 (List.mem_of_getElem? he0);have he2:=nI pb e0 (List.mem_of_getElem? he0);have s1:=ye h r (k:=k+1) (by omega);have es:((dV ns r (k+1)).map (weight ns)).sum=((dV ns r k).map (weight ns)).sum+weight ns vals:=by rw[ms];simp
 rw[es]at s1;have hwr:=uj h hfit;have hir:=nu hfp;have hip:=sm.prod;have m0:0<=dx (aS ns x) (aT vals x.parents)*x.card:=Int.mul_nonneg hir.1 (by omega);have w2:=IntWalk.i64_in (dx (aS ns x) (aT vals x.parents)*x.card) (by omega);have w3:=IntWalk.i64_in (z:Int) (by omega);have w4:=IntWalk.i64_in (e0+weight ns vals) (by omega);have hzL:(z:Int)<L:=by omega
 have hvw:(v:Int)<vals.length:=by omega
 simp only[go_sem];refine W.draw 10 [0,0,3,0,0,16,0,112,240,496] Try.mixed (by kernel_rfl) (by kernel_rfl) ?_;simp only[go_sem,f2,f3,l0];refine⟨ae (aS ns x),[],dA.pure (fun H2=>y6 g ns v x hx (by omega) (by omega) hin H2 _ ⟨rfl,rfl⟩),?_⟩;simp only[go_sem,f2,f3,hvn,hne,h1];refine aB.clo (yZ vals x.parents (by omega) (by omega) hin' _ _ ⟨trivial,?_⟩);simp only[go_sem,f2];refine aB.clo (DP (aS ns x) (aT vals x.parents) sm hfp _ _ ⟨trivial,?_⟩);simp only[go_sem];refine W.draw 12 [0,0,2,0,14,30,62,127,0,0,768,1792] Try.mixed (by kernel_rfl) (by kernel_rfl) ?_;simp only[go_sem,f2,f3,l0,hvn,hne,h0,ha,han,hvw,<- hpe,w2,w3];refine W.draw 10 [0,0,0,0,12,28,0,0,192,508] Try.mixed (by kernel_rfl) (by kernel_rfl) ?_;simp only[go_sem,f3,f7,f8,l0,lP,he0,hzL];refine⟨aa (weight ns vals),[],dA.pure (fun H2=>DN g ns h k (by omega) H2 _ ⟨by rw[<- hvals],rfl⟩),?_⟩;simp only[go_sem,f3,f7,f8,lP,hpl2,hzL,w1,w4];refine⟨by omega,by rw[az];omega,⟨k+1,rfl,by omega,by rw[az];omega,fun id h1 h2=>by rw[ag,if_neg h2];exact hko id h1 h2,?_⟩,by rw[h8];simp only[aa,aK];omega⟩;rw[ag,if_pos rfl,dM (by omega),hPs]
set_option maxHeartbeats 1000000 in
theorem NU (cs:List Int)(xs:List (List Int))(hf:kO cs xs)(H:AHeap)(K:ARes -> AHeap -> Prop)(hK:K (.ret (aa (if ja cs xs then 0 else 250))) H):af Try.prog G0 62 [cj cs xs] H K := by
  refine af.clo ⟨_, Try.func62, rfl, rfl⟩ fun hcl => ?_;have no:¬ DataOk cs xs -> ∀ H', Over H H' -> av Try.prog G0 H K (aa 250) H' := fun h H' ov => av.bA aP hcl ov (.lit _) (by rw[CA h]at hK; exact hK);obtain⟨f1, f2, f3⟩ := hf;refine af.bf (n := 80) (rs := [.tmp 2]) Try.func62 rfl rfl rfl (by decide) (by kernel_rfl) (by simp) ?_;simp only[go_sem, cj, aA, bT];obtain⟨H1, hH1⟩:∃ H1, H1 = ext H [.arr 0 42 [.vec cs.length (ints cs), .vec xs.length (xs.map ae)]] := ⟨_, rfl⟩
  have l1:H1.live H.next 0 = some (42, [.vec cs.length (ints cs), .vec xs.length (xs.map ae)]) := by rw[hH1]; exact ah (cJ ..)
  have o1:Over H H1 := by rw[hH1]; exact .ext _ _
  rw[<- hH1];by_cases c1:(cs.length:Int) < 1
  · simp only[go_sem, l1, c1, ee, bT];exact no (fun h => by have := h.c1; omega) _ o1
  by_cases c2:(cs.length:Int) > 6
  · simp only[go_sem, l1, c1, c2, ee, bT];exact no (fun h => by have := h.c1; omega) _ o1
  by_cases c3:(xs.length:Int) > 40
  · simp only[go_sem, l1, c1, c2, c3, ee, bT];exact no (fun h => by have := h.x1; omega) _ o1
  simp only[go_sem, l1, c1, c2, c3, ee, bT];refine W.aG 17591112302636 (by rfl) (fun ρ H' => H' = H1 /\ ∃ k:Nat, ρ 30 = aa k /\ k <= cs.length /\ (∀ c ∈ cs.take k, 2 <= c /\ c <= 4) /\ ρ 3 = aa (aw (cs.take k))) (fun ρ H => cs.length - (iv (ρ 30)).toNat) ?_ ?_
  · simp only[go_sem, bT];exact⟨0, rfl, by omega, by simp, by simp [fm]⟩
  rintro ρ H' ⟨rfl, k, h30, hk, hall, h3⟩;refine ab _ _ _ (by rfl) ?_;by_cases hb:(k:Int) < cs.length
  · obtain⟨c, hc⟩ := get_of_lt (l := cs) (i := k) (by omega);have hne := aJ hc;have hcm := List.mem_of_getElem? hc;by_cases d1:c < 2
    · simp only[go_sem, h30, hb, hne, hc, d1, ee, bT];exact no (fun h => by have := h.card c hcm; omega) _ o1
    by_cases d2:c > 4
    · simp only[go_sem, h30, hb, hne, hc, d1, d2, ee, bT];exact no (fun h => by have := h.card c hcm; omega) _ o1
    have hall':∀ y ∈ cs.take (k + 1), 2 <= y /\ y <= 4 := fun y hy => by
      rw[aL hc]at hy;rcases List.mem_append.1 hy with hy | hy
      · exact hall y hy
      · obtain rfl := List.mem_singleton.1 hy; omega
    have b1 := CB hall' (by simp; omega);rw[aL hc, fV]at b1;have w1 := IntWalk.i64_in ((k:Int) + 1) (by omega);have w2 := IntWalk.i64_in (aw (cs.take k) * c) (by omega);simp only[go_sem, h30, h3, hb, hne, hc, d1, d2, w1, w2, ee, bT];exact⟨⟨k + 1, rfl, by omega, hall', by rw[aL hc, fV]⟩, by omega⟩
  rw[List.take_of_length_le (by omega)]at hall h3;by_cases c4:aw cs > 1024
  · simp only[go_sem, h30, h3, hb, c4, bT];exact no (fun h => by have := h.size; omega) _ o1
  simp only[go_sem, h30, h3, hb, c4, l1, bT];refine W.aG 604462909244364633933632 (by rfl) (fun ρ Ha => Ha = H' /\ ∃ k:Nat, ρ 49 = aa k /\ k <= xs.length /\ (∀ r ∈ xs.take k, rA cs r) /\ ρ 6 = aa 0) (fun ρ H => xs.length - (iv (ρ 49)).toNat) ?_ ?_
  · simp only[go_sem, bT];exact⟨0, rfl, by omega, by simp⟩
  rintro ρ' Ha ⟨rfl, i, h49, hi, hrows, h6⟩;refine ab _ _ _ (by rfl) ?_;by_cases hb2:(i:Int) < xs.length;rotate_left
  · simp only[go_sem, h49, h6, hb2, bT];rw[List.take_of_length_le (by omega)]at hrows;rw[Cz ⟨by omega, by omega, hall, by omega, hrows⟩]at hK;exact av.bA aP hcl o1 (.lit _) hK
  obtain⟨r, hr⟩ := get_of_lt (l := xs) (i := i) (by omega);have hrm := List.mem_of_getElem? hr;have hr' := lY hr;have hrn := aJ hr';by_cases hl:(r.length:Int) = cs.length;rotate_left
  · simp only[go_sem, h49, hb2, hr', hrn, l1, hl, bT];exact no (fun h => hl (by have := (h.row r hrm).1; omega)) _ o1
  simp only[go_sem, h49, h6, hb2, hr', hrn, l1, hl, bT];refine W.aG 302229149060648079984192 (by rfl) (fun ρ2 Hb => Hb = Ha /\ ∃ j:Nat, ρ2 61 = aa j /\ j <= r.length /\ (∀ (v:Nat) (c x:Int), v < j -> cs[v]? = some c -> r[v]? = some x -> -1 <= x /\ x < c) /\ ρ2 6 = aa 0) (fun ρ2 H => r.length - (iv (ρ2 61)).toNat) ?_ ?_
  · simp only[go_sem, h6, bT];exact⟨0, rfl, by omega, fun v _ _ h => by omega⟩
  rintro ρ2 Hb ⟨rfl, j, h61, hj, hin, h6'⟩;refine ab _ _ _ (by rfl) ?_;have w1 := IntWalk.i64_in ((i:Int) + 1) (by omega);by_cases hb3:(j:Int) < cs.length
  · obtain⟨x, hx⟩ := get_of_lt (l := r) (i := j) (by omega);obtain⟨c, hc⟩ := get_of_lt (l := cs) (i := j) (by omega);have hxn := aJ hx;have hcn := aJ hc;by_cases d1:x < -1
    · simp only[go_sem, h61, hb3, hl, hx, hxn, d1, ee, bT];exact no (fun h => by have := (h.row r hrm).2 j c x hc hx; omega) _ o1
    by_cases d2:x >= c
    · simp only[go_sem, h61, hb3, hl, hx, hxn, hc, hcn, l1, d1, d2, ee, bT];exact no (fun h => by have := (h.row r hrm).2 j c x hc hx; omega) _ o1
    have w2 := IntWalk.i64_in ((j:Int) + 1) (by omega);simp only[go_sem, h61, h6', hb3, hl, hx, hxn, hc, hcn, l1, d1, d2, w2, ee, bT];refine⟨⟨j + 1, rfl, by omega, fun v c' x' hv h1 h2 => ?_⟩, by omega⟩;rcases Nat.lt_or_ge v j with h | h
    · exact hin v c' x' h h1 h2
    · obtain rfl:v = j :=(by omega);rw[hc]at h1; rw[hx]at h2;cases h1; cases h2; omega
  · simp only[go_sem, h61, h6', h49, hb3, hl, w1, bT];refine⟨⟨i + 1, rfl, by omega, fun q hq => ?_⟩, by omega⟩;rw[aL hr]at hq;rcases List.mem_append.1 hq with hq | hq
    · exact hrows q hq
    · obtain rfl := List.mem_singleton.1 hq;exact .of (by omega) fun v c x hv => hin v c x (by omega)
set_option maxHeartbeats 1000000 in
theorem NV (cs:List Int)(xs:List (List Int))(hf:kO cs xs)(H:AHeap)(K:ARes -> AHeap -> Prop)(hK:K (.ret (.lit (.bool (ja cs xs)))) H):af Try.prog G0 44 [cj cs xs] H K := by
  refine af.clo ⟨_, Try.func44, rfl, rfl⟩ fun hcl => ?_;have no:¬ DataOk cs xs -> ∀ H', Over H H' -> av Try.prog G0 H K (.lit (.bool false)) H' := fun h H' ov => av.bA aP hcl ov (.lit _) (by rw[CA h]at hK; exact hK);obtain⟨f1, f2, f3⟩ := hf;refine af.bf (n := 102) (rs := [.tmp 2]) Try.func44 rfl rfl rfl (by decide) (by kernel_rfl) (by simp) ?_;simp only[go_sem, cj, aA, bT];obtain⟨H1, hH1⟩:∃ H1, H1 = ext H [.arr 0 42 [.vec cs.length (ints cs), .vec xs.length (xs.map ae)]] := ⟨_, rfl⟩
  have l1:H1.live H.next 0 = some (42, [.vec cs.length (ints cs), .vec xs.length (xs.map ae)]) := by rw[hH1]; exact ah (cJ ..)
  have o1:Over H H1 := by rw[hH1]; exact .ext _ _
  rw[<- hH1];by_cases c1:(cs.length:Int) < 1
  · simp only[go_sem, l1, c1, ee, bT];exact no (fun h => by have := h.c1; omega) _ o1
  by_cases c2:(cs.length:Int) > 6
  · simp only[go_sem, l1, c1, c2, ee, bT];exact no (fun h => by have := h.c1; omega) _ o1
  by_cases c3:(xs.length:Int) > 40
  · simp only[go_sem, l1, c1, c2, c3, ee, bT];exact no (fun h => by have := h.x1; omega) _ o1
  simp only[go_sem, l1, c1, c2, c3, ee, bT];refine W.aG 2251799805296668 (by rfl) (fun ρ H' => H' = H1 /\ ∃ k:Nat, ρ 4 = aa k /\ k <= cs.length /\ (∀ c ∈ cs.take k, 2 <= c /\ c <= 4) /\ ρ 3 = aa (aw (cs.take k))) (fun ρ H => cs.length - (iv (ρ 4)).toNat) ?_ ?_
  · simp only[go_sem, bT];exact⟨0, rfl, by omega, by simp, by simp [fm]⟩
  rintro ρ H' ⟨rfl, k, h30, hk, hall, h3⟩;refine ab _ _ _ (by rfl) ?_;by_cases hb:(k:Int) < cs.length
  · obtain⟨c, hc⟩ := get_of_lt (l := cs) (i := k) (by omega);have hne := aJ hc;have hcm := List.mem_of_getElem? hc;by_cases d1:c < 2
    · simp only[go_sem, h30, hb, hne, hc, d1, l1, ee, bT];exact no (fun h => by have := h.card c hcm; omega) _ o1
    by_cases d2:c > 4
    · simp only[go_sem, h30, hb, hne, hc, d1, d2, l1, ee, bT];exact no (fun h => by have := h.card c hcm; omega) _ o1
    have hall':∀ y ∈ cs.take (k + 1), 2 <= y /\ y <= 4 := fun y hy => by
      rw[aL hc]at hy;rcases List.mem_append.1 hy with hy | hy
      · exact hall y hy
      · obtain rfl := List.mem_singleton.1 hy; omega
    have b1 := CB hall' (by simp; omega);rw[aL hc, fV]at b1;have w1 := IntWalk.i64_in ((k:Int) + 1) (by omega);have w2 := IntWalk.i64_in (aw (cs.take k) * c) (by omega);simp only[go_sem, h30, h3, hb, hne, hc, d1, d2, w1, w2, l1, ee, bT];exact⟨⟨k + 1, rfl, by omega, hall', by rw[aL hc, fV]⟩, by omega⟩
  rw[List.take_of_length_le (by omega)]at hall h3;simp only[go_sem, h30, h3, hb, l1, bT];refine W.aG 1267650600228227149696889520228 (by rfl) (fun ρ' Ha => Ha = H' /\ ∃ k:Nat, ρ' 5 = aa k /\ k <= xs.length /\ ∀ r ∈ xs.take k, rA cs r) (fun ρ' H => xs.length - (iv (ρ' 5)).toNat) ?_ ?_
  · simp only[go_sem, bT];exact⟨0, rfl, by omega, by simp⟩
  rintro ρ' Ha ⟨rfl, i, h5, hi, hrows⟩;refine ab _ _ _ (by rfl) ?_;by_cases hb2:(i:Int) < xs.length;rotate_left
  · rw[List.take_of_length_le (by omega)]at hrows;by_cases c4:aw cs <= 1024
    · simp only[go_sem, h5, h3, hb2, l1, c4, bT];rw[Cz ⟨by omega, by omega, hall, by omega, hrows⟩]at hK;exact av.bA aP hcl o1 (.lit _) hK
    · simp only[go_sem, h5, h3, hb2, l1, c4, bT];exact no (fun h => by have := h.size; omega) _ o1
  obtain⟨r, hr⟩ := get_of_lt (l := xs) (i := i) (by omega);have hrm := List.mem_of_getElem? hr;have hr' := lY hr;have hrn := aJ hr';simp only[go_sem, h5, hb2, l1, bT];refine W.draw 9 [0, 1, 0, 7, 15, 31, 0, 64, 192] Try.mixed (by kernel_rfl) (by kernel_rfl) ?_;by_cases hl:(r.length:Int) = cs.length;rotate_left
  · simp only[go_sem, h5, hb2, hr', hrn, l1, hl, bT];exact no (fun h => hl (by have := (h.row r hrm).1; omega)) _ o1
  simp only[go_sem, h5, hb2, hr', hrn, l1, hl, bT];refine W.aG 1267650599933081496317350379588 (by rfl) (fun ρ2 Hb => Hb = Ha /\ ∃ j:Nat, ρ2 6 = aa j /\ j <= r.length /\ (∀ (v:Nat) (c x:Int), v < j -> cs[v]? = some c -> r[v]? = some x -> -1 <= x /\ x < c)) (fun ρ2 H => r.length - (iv (ρ2 6)).toNat) ?_ ?_
  · simp only[go_sem, bT];exact⟨0, rfl, by omega, fun v _ _ h => by omega⟩
  rintro ρ2 Hb ⟨rfl, j, h6, hj, hin⟩;refine ab _ _ _ (by rfl) ?_;have w1 := IntWalk.i64_in ((i:Int) + 1) (by omega);by_cases hb3:(j:Int) < cs.length
  · obtain⟨x, hx⟩ := get_of_lt (l := r) (i := j) (by omega);obtain⟨c, hc⟩ := get_of_lt (l := cs) (i := j) (by omega);have hxn := aJ hx;have hcn := aJ hc;simp only[go_sem, h6, hb3, l1, bT];refine W.draw 23 [0, 1, 0, 7, 15, 0, 63, 127, 255, 511, 1023, 2047, 1023, 8191, 16383, 1023, 65535, 131071, 1023, 263167, 1023, 1836031, 3933183] Try.mixed (by kernel_rfl) (by kernel_rfl) ?_;by_cases d1:x < -1
    · simp only[go_sem, h6, h5, hb2, hr', hrn, hb3, hl, hx, hxn, l1, d1, ee, bT];exact no (fun h => by have := (h.row r hrm).2 j c x hc hx; omega) _ o1
    by_cases d2:x >= c
    · simp only[go_sem, h6, h5, hb2, hr', hrn, hb3, hl, hx, hxn, hc, hcn, l1, d1, d2, ee, bT];exact no (fun h => by have := (h.row r hrm).2 j c x hc hx; omega) _ o1
    have w2 := IntWalk.i64_in ((j:Int) + 1) (by omega);simp only[go_sem, h6, h5, hb2, hr', hrn, hb3, hl, hx, hxn, hc, hcn, l1, d1, d2, w2, ee, bT];refine⟨⟨j + 1, rfl, by omega, fun v c' x' hv h1 h2 => ?_⟩, by omega⟩;rcases Nat.lt_or_ge v j with h | h
    · exact hin v c' x' h h1 h2
    · obtain rfl:v = j :=(by omega);rw[hc]at h1; rw[hx]at h2;cases h1; cases h2; omega
  · simp only[go_sem, h6, h5, hb3, hl, l1, w1, bT];refine⟨⟨i + 1, rfl, by omega, fun q hq => ?_⟩, by omega⟩;rw[aL hr]at hq;rcases List.mem_append.1 hq with hq | hq
    · exact hrows q hq
    · obtain rfl := List.mem_singleton.1 hq;exact .of (by omega) fun v c x hv => hin v c x (by omega)
theorem MD (l:List Int)(v:Int)(hl:(l.length:Int)<2 ^ 62)(H:AHeap)(K:ARes->AHeap->Prop)(hK:∀ i:Int,(0<=i↔v∈l)->K (.ret (aa i)) H):af Try.prog G0 87 [ae l,aa v] H K:=by
 refine af.bf (n:=19) (rs:=[.tmp 4]) Try.func87 rfl rfl rfl (by decide) (by kernel_rfl) (by simp) ?_;simp only[go_sem];refine W.aG 524080 (by rfl) (fun ρ H'=>H'=H/\∃ k:Nat,ρ 8=aa k/\k<=l.length/\∀ j,j<k->∀ b,l[j]?=some b->b≠v) (fun ρ H=>l.length - (iv (ρ 8)).toNat) ?_ ?_
 ·simp only[go_sem];exact⟨0,rfl,by omega,fun j h=>absurd h (Nat.not_lt_zero _)⟩
 rintro ρ H' ⟨rfl,k,h8,hk,hno⟩;refine ab _ _ _ (by rfl) ?_;by_cases hb:(k:Int)<l.length
 ·obtain⟨b,hkb⟩:=get_of_lt (l:=l) (i:=k) (by omega);have hne:=aJ hkb;have w1:=IntWalk.i64_in ((k:Int)+1) (by omega);by_cases he:v=b
  ·subst he;simp only[go_sem,h8,hb,hkb,hne];exact av.mk (Nat.le_refl _) (hK k ⟨fun _=>List.mem_of_getElem? hkb,fun _=>by omega⟩)
  ·simp only[go_sem,h8,hb,hkb,hne,he,w1];exact⟨⟨k+1,by simp,by omega,fun j hj b' hb'=>by
    by_cases hjk:j=k
    ·subst hjk;rw[hkb]at hb';cases hb';exact fun h=>he h.symm
    ·exact hno j (by omega) b' hb'⟩,by omega⟩
 ·simp only[go_sem,h8,hb];refine av.mk (Nat.le_refl _) (hK (-1) ⟨fun h=>absurd h (by decide),fun hv=>?_⟩);obtain⟨j,hj⟩:=List.mem_iff_getElem?.1 hv;exact absurd rfl (hno j (by have:=get_lt hj;omega) v hj)
theorem ME (l:List Int)(v:Int)(hl:(l.length:Int)<2 ^ 62)(H:AHeap)(K:ARes->AHeap->Prop)(hK:K (.ret (.lit (.bool (decide (v∈l))))) H):af Try.prog G0 69 [ae l,aa v] H K:=by
 refine af.bf (n:=9) (rs:=[.tmp 4]) Try.func69 rfl rfl rfl (by decide) (by kernel_rfl) (by simp) ?_;simp only[go_sem];refine aB.clo (MD l v hl H _ fun i hi=>⟨trivial,?_⟩);by_cases h0:0<=i
 ·simp only[go_sem,h0];rw[decide_eq_true (hi.1 h0)]at hK;exact av.mk (Nat.le_refl _) hK
 ·simp only[go_sem,h0];rw[decide_eq_false fun h=>h0 (hi.2 h)]at hK;exact av.mk (Nat.le_refl _) hK
theorem MF (l:List Int)(hl:(l.length:Int)<2 ^ 62)(H:AHeap)(K:ARes->AHeap->Prop)(hK:K (.ret (.lit (.bool (decide ((0:Int)∈l))))) H):af Try.prog G0 41 [ae l] H K:=by
 refine af.bf (n:=5) (rs:=[.tmp 2]) Try.func41 rfl rfl rfl (by decide) (by kernel_rfl) (by simp) ?_;simp only[go_sem];refine aB.clo (ME l 0 hl H _ ⟨trivial,?_⟩);simp only[go_sem];exact av.mk (Nat.le_refl _) hK
def xY (p:Int × List NodeP):List AVal:=[aa p.1,.vec p.2.length (au p.2)]
def eu (l:List (Int × List NodeP)):List AVal:=(l.map xY).flatten
theorem uk (l:List (Int × List NodeP)):(eu l).length=l.length*2:=mh (f:=xY) (fun _=>rfl) l
theorem Ca {l:List (Int × List NodeP)}{i:Nat}{p:Int × List NodeP}(h:l[i]?=some p):((eu l).drop (i*2)).take 2=[aa p.1,.vec p.2.length (au p.2)]:=pI (f:=xY) (z:=2) (fun _=>rfl) l i p h
theorem Cb {l:List (Int × List NodeP)}{i:Nat}{p:Int × List NodeP}(h:l[i]?=some p):¬ eu l=[]:=fun e=>by
 have h1:=uk l;have h2:=get_lt h;rw[e,List.length_nil]at h1;omega
noncomputable def mW (l:List (Int × List NodeP))(cs:List Int)(xs:List (List Int)):Int:=if (∀ p∈l,gC p.1 p.2=true) then (if ja cs xs=true then (if ∀ p∈l,ar p.2=cs then 0 else 261) else 250) else 50
set_option maxHeartbeats 2000000 in
theorem MG (l:List (Int × List NodeP))(cs:List Int)(xs:List (List Int))(hn:∀ p∈l,iJ p.2)(hf:kO cs xs)(hl4:l.length<=4)(H:AHeap)(K:ARes->AHeap->Prop)(hK:K (.ret (aa (mW l cs xs))) H):
  af Try.prog G0 40 [cj cs xs,.vec l.length (eu l)] H K:=by
 refine af.clo ⟨_,Try.func40,rfl,rfl⟩ fun hcl=>?_;refine af.bf (n:=61) (rs:=[.tmp 4]) Try.func40 rfl rfl rfl (by decide) (by kernel_rfl) (by simp) ?_;simp only[go_sem,cj,aA];obtain⟨H1,hH1⟩:∃ H1,H1=ext H [.arr 0 42 [.vec cs.length (ints cs),.vec xs.length (xs.map ae)]]:=⟨_,rfl⟩
 have n1:H1.next=H.next+1:=by rw[hH1];rfl
 have o1:Over H H1:=by rw[hH1];exact .ext _ _
 have g1:H1.get H.next=some (.arr 0 42 [.vec cs.length (ints cs),.vec xs.length (xs.map ae)]):=by rw[hH1];exact cA
 rw[<- hH1];refine W.env fun E hE=>?_;have e1:E 1=.vec l.length (eu l):=by rw[hE];simp only[go_sem]
 have e2:E 2=.ptr H.next 0 0:=by rw[hE];simp only[go_sem]
 have e13:E 13=.vec l.length (eu l):=by rw[hE];simp only[go_sem]
 have e14:E 14=aa l.length:=by rw[hE];simp only[go_sem]
 have e15:E 15=aa 0:=by rw[hE];simp only[go_sem]
 clear hE;refine W.aG 33521872 (by rfl) (fun ρ H'=>Over H1 H'/\∃ k:Nat,ρ 15=aa k/\k<=l.length/\∀ p∈l.take k,gC p.1 p.2=true) (fun ρ H=>l.length - (iv (ρ 15)).toNat) ?_ ?_
 ·exact⟨.refl _,0,e15,by omega,fun p h=>by simp at h⟩
 rintro ρ H' ⟨o2,k,h15,hk,hall⟩;have n2:=o2.next;refine W.env fun F hF=>?_;have f1:F 1=.vec l.length (eu l):=by rw[hF];simp only[go_sem,e1]
 have f2:F 2=.ptr H.next 0 0:=by rw[hF];simp only[go_sem,e2]
 have f13:F 13=.vec l.length (eu l):=by rw[hF];simp only[go_sem,e13]
 have f14:F 14=aa l.length:=by rw[hF];simp only[go_sem,e14]
 have f15:F 15=aa k:=by rw[hF];simp only[go_sem,h15]
 clear hF;by_cases hb:(k:Int)<l.length
 ·obtain⟨p,hp⟩:=get_of_lt (l:=l) (i:=k) (by omega);have hpm:=List.mem_of_getElem? hp;have hne:=Cb hp;have hpt:=Ca hp;have hbd:k*2+2<=(eu l).length:=by rw[uk];omega
  have w1:=IntWalk.i64_in ((k:Int)+1) (by omega);refine ab _ _ _ (by rfl) ?_;simp only[go_sem,f13,f14,f15,hb,hne,hpt,hbd];refine aB.clo (Rc p.1 p.2 (hn p hpm) _ _ ⟨trivial,?_⟩);cases hN:gC p.1 p.2
  ·simp only[go_sem];unfold mW at hK;rw[if_neg fun hh=>by rw[hh p hpm]at hN;cases hN]at hK;exact av.bA aP hcl (o1.trans (o2.trans (.ext _ _))) (.lit _) hK
  ·simp only[go_sem,f15,w1];refine⟨by omega,⟨o2.trans (.ext _ _),k+1,rfl,by omega,fun q hq=>?_⟩,by rw[h15];simp only[aa,aK];omega⟩;rw[aL hp]at hq;rcases List.mem_append.1 hq with hq|hq
   ·exact hall q hq
   ·rw[List.mem_singleton.1 hq];exact hN
 rw[List.take_of_length_le (by omega)]at hall;have l1:=ah ((o2.old H.next (by omega)).trans g1);refine ab _ _ _ (by rfl) ?_;simp only[go_sem,f2,f14,f15,hb,l1];refine aB.clo (NU cs xs hf _ _ ⟨trivial,?_⟩);unfold mW at hK;rw[if_pos hall]at hK;cases hD:ja cs xs
 ·simp only[go_sem];rw[if_neg (by rw[hD];decide)]at hK;exact av.bA aP hcl (o1.trans o2) (.lit _) hK
 rw[if_pos hD]at hK;have no:∀ p,p∈l->ar p.2≠cs->∀ Hx,Over H Hx->av Try.prog G0 H K (aa 261) Hx:=fun p hp hne Hx ov=>by
  rw[if_neg fun hh=>hne (hh p hp)]at hK;exact av.bA aP hcl ov (.lit _) hK
 simp only[go_sem,f1];refine W.env fun E1 hE1=>?_;have k2:E1 2=.ptr H.next 0 0:=by rw[hE1];simp only[go_sem,f2]
 have k30:E1 30=.vec l.length (eu l):=by rw[hE1];simp only[go_sem]
 have k31:E1 31=aa l.length:=by rw[hE1];simp only[go_sem]
 have k32:E1 32=aa 0:=by rw[hE1];simp only[go_sem]
 clear hE1;refine W.aG 2305843004918733840 (by rfl) (fun ρ Hx=>Over H' Hx/\∃ k:Nat,ρ 32=aa k/\k<=l.length/\∀ p∈l.take k,ar p.2=cs) (fun ρ H=>l.length - (iv (ρ 32)).toNat) ?_ ?_
 ·exact⟨.refl _,0,k32,by omega,fun p h=>by simp at h⟩
 rintro ρ4 Hx ⟨o3,m,h32,hm,hcar⟩;have n3:=o3.next;refine W.env fun F2 hF2=>?_;have m2:F2 2=.ptr H.next 0 0:=by rw[hF2];simp only[go_sem,k2]
 have m30:F2 30=.vec l.length (eu l):=by rw[hF2];simp only[go_sem,k30]
 have m31:F2 31=aa l.length:=by rw[hF2];simp only[go_sem,k31]
 have m32:F2 32=aa m:=by rw[hF2];simp only[go_sem,h32]
 clear hF2;by_cases hb2:(m:Int)<l.length;rotate_left
 ·refine ab _ _ _ (by rfl) ?_;simp only[go_sem,m31,m32,hb2];rw[List.take_of_length_le (by omega)]at hcar;rw[if_pos hcar]at hK;exact av.bA aP hcl (o1.trans (o2.trans o3)) (.lit _) hK
 obtain⟨p,hp⟩:=get_of_lt (l:=l) (i:=m) (by omega);obtain⟨g,ns⟩:=p;have hpm:=List.mem_of_getElem? hp;have hok:=DW.1 (hall _ hpm);have n8:1<=ns.length/\ns.length<=8:=hok.n1;have hne:=Cb hp;have hpt:=Ca hp;have hbd:m*2+2<=(eu l).length:=by rw[uk];omega
 have w1:=IntWalk.i64_in ((m:Int)+1) (by omega);have lE:∀ L,(ext Hx L).live H.next 0=some (42,[.vec cs.length (ints cs),.vec xs.length (xs.map ae)]):=fun L=>ah ((cb _ _ _ (by omega)).trans ((o3.old H.next (by omega)).trans ((o2.old H.next (by omega)).trans g1)));by_cases hlen:(ns.length:Int)=cs.length;rotate_left
 ·refine ab _ _ _ (by rfl) ?_;simp only[go_sem,m2,m30,m31,m32,hb2,hne,hpt,hbd,lE,hlen];exact no _ hpm (fun hh=>hlen (by rw[<- hh];exact congrArg Int.ofNat (bP ns).symm)) _ ((o1.trans o2).trans (o3.trans (.ext _ _)))
 refine ab _ _ _ (by rfl) ?_;simp only[go_sem,m2,m30,m31,m32,hb2,hne,hpt,hbd,lE,hlen];obtain⟨Hy,hHy⟩:∃ Hy,Hy=ext Hx [.arr 0 35 [aa g,.vec ns.length (au ns)]]:=⟨_,rfl⟩
 have oy:Over Hx Hy:=by rw[hHy];exact .ext _ _
 have ny:Hy.next=Hx.next+1:=by rw[hHy];rfl
 refine W.env fun E3 hE3=>?_;have p2:E3 2=.ptr H.next 0 0:=by rw[hE3];simp only[go_sem,m2]
 have p30:E3 30=.vec l.length (eu l):=by rw[hE3];simp only[go_sem,m30]
 have p31:E3 31=aa l.length:=by rw[hE3];simp only[go_sem,m31]
 have p32:E3 32=aa m:=by rw[hE3];simp only[go_sem,m32]
 have p44:E3 44=.vec ns.length (au ns):=by rw[hE3];simp only[go_sem]
 have p45:E3 45=aa ns.length:=by rw[hE3];simp only[go_sem,hlen]
 have p46:E3 46=aa 0:=by rw[hE3];simp only[go_sem]
 clear hE3;show W _ _ _ _ _ _ ⟨E3,ext Hx [.arr 0 35 [aa g,.vec ns.length (au ns)]]⟩;rw[<- hHy];refine W.aG 1152851135862675472 (by rfl) (fun ρ Hz=>Over Hy Hz/\∃ v:Nat,ρ 46=aa v/\v<=ns.length/\(ar ns).take v=cs.take v) (fun ρ H=>ns.length - (iv (ρ 46)).toNat) ?_ ?_
 ·exact⟨.refl _,0,p46,by omega,rfl⟩
 rintro ρ5 Hz ⟨oz,v,h46,hv,he⟩;have nz:=oz.next;refine W.env fun E4 hE4=>?_;have q2:E4 2=.ptr H.next 0 0:=by rw[hE4];simp only[go_sem,p2]
 have q30:E4 30=.vec l.length (eu l):=by rw[hE4];simp only[go_sem,p30]
 have q31:E4 31=aa l.length:=by rw[hE4];simp only[go_sem,p31]
 have q32:E4 32=aa m:=by rw[hE4];simp only[go_sem,p32]
 have q44:E4 44=.vec ns.length (au ns):=by rw[hE4];simp only[go_sem,p44]
 have q45:E4 45=aa ns.length:=by rw[hE4];simp only[go_sem,p45]
 have q46:E4 46=aa v:=by rw[hE4];simp only[go_sem,h46]
 clear hE4;have cl:=bP ns;by_cases hb3:(v:Int)<ns.length;rotate_left
 ·refine ab _ _ _ (by rfl) ?_;simp only[go_sem,q32,q45,q46,hb3,w1];rw[List.take_of_length_le (by omega),List.take_of_length_le (by omega)]at he;refine⟨by omega,⟨o3.trans (oy.trans oz),m+1,rfl,by omega,fun q hq=>?_⟩,by rw[h32];simp only[aa,aK];omega⟩
  ·rw[aL hp]at hq;rcases List.mem_append.1 hq with hq|hq
   ·exact hcar q hq
   ·rw[List.mem_singleton.1 hq];exact he
 obtain⟨x,hx⟩:=get_of_lt (l:=ns) (i:=v) (by omega);obtain⟨c,hc⟩:=get_of_lt (l:=cs) (i:=v) (by omega);have hxn:=dQ hx;have hxp:=kj hx;have hcn:=aJ hc;have hbv:v*3+3<=(au ns).length:=by rw[fk];omega
 have hvc:(v:Int)<cs.length:=by omega
 have w2:=IntWalk.i64_in ((v:Int)+1) (by omega);have lF:∀ L,(ext Hz L).live H.next 0=some (42,[.vec cs.length (ints cs),.vec xs.length (xs.map ae)]):=fun L=>ah ((cb _ _ _ (by omega)).trans ((oz.old H.next (by omega)).trans ((oy.old H.next (by omega)).trans ((o3.old H.next (by omega)).trans ((o2.old H.next (by omega)).trans g1)))));refine ab _ _ _ (by rfl) ?_;simp only[go_sem,q44,q45,q46,hb3,hxn,hxp,hbv];refine W.draw 7 [0,1,0,4,0,28,60] Try.mixed (by kernel_rfl) (by kernel_rfl) ?_;by_cases hd:x.card=c
 ·simp only[go_sem,q2,q46,hc,hcn,hvc,lF,hd,w2];exact⟨by omega,⟨oz.trans (.ext _ _),v+1,rfl,by omega,by rw[aL (cK hx),aL hc,he,hd]⟩,by rw[h46];simp only[aa,aK];omega⟩
 ·simp only[go_sem,q2,hc,hcn,hvc,lF,hd];exact no _ hpm (fun hh=>hd (by have:=cK hx;rw[show ar ns=cs from hh,hc]at this;exact(Option.some.inj this).symm)) _ ((o1.trans o2).trans (o3.trans (oy.trans (oz.trans (.ext _ _)))))
theorem MR {c:List Int}(h:gU c 720 0)(H:AHeap){v:AVal}(hv:Fz (fun _=>True) H 0 v (ae c)):
  af Try.prog G0 48 [v,aa 720,aa 0] H fun r H'=>r=.ret (.tup [ae (gu c),aa 0])/\H'=H:=by
 obtain⟨h1,h2,h3,h4,h5⟩:=id h;refine af.frame (H:=H) (args:=[v,aa 720,aa 0]) (args':=[ae c,aa 720,aa 0]) (v':=.tup [ae (gu c),aa 0]) aP rfl (fun i hi _=>match i,hi with
  | 0,_=>hv
  | 1,_=>.lit _
  | 2,_=>.lit _) ?_
 refine C4 rfl h1.1 h1.2 h2 h3 ⟨h4,by decide⟩ cH _ (fun hlt=>absurd h5 (by omega)) fun s u H' _ hs ho hu=>⟨_,rfl,.tup rfl fun i hi _=>?_⟩
 match i,hi with
 | 0,_ =>
  have e:gu c=s:=(rE hs).symm;rw[e];exact hu.rR
 | 1,_=>exact .lit _
set_option maxHeartbeats 4000000 in
theorem MQ (g:Int)(ns:List NodeP)(h:NetOk g ns)(h6:ns.length<=6)(cs:List Int)(xs:List (List Int))(hx40:xs.length<=64)(hrow:∀ r∈xs,r.length=ns.length)(v:Nat)(x:NodeP)(hx:ns[v]?=some x)
  (H:AHeap) (K:ARes->AHeap->Prop) (hK:K (.ret (.tup [ae (cP ns x v xs),aa 0])) H):
  af Try.prog G0 43 [aQ g ns,cj cs xs,aa v] H K:=by
 refine af.clo ⟨_,Try.func43,rfl,rfl⟩ fun hcl=>?_;have n8:=h.n1;have hxm:=List.mem_of_getElem? hx;have hxc:=(h.node x hxm).1;have hrc:=py h hx;have hvn:(v:Int)<ns.length:=by have:=get_lt hx;omega
 have hne:=dQ hx;have hpt:=kj hx;have hbd:v*3+3<=(au ns).length:=by rw[fk];omega
 have wL:=IntWalk.i64_in ((x.rows.length:Int)*x.card) (by omega);obtain⟨L,hL⟩:∃ L:Nat,(x.rows.length:Int)*x.card=L:=⟨((x.rows.length:Int)*x.card).toNat,by omega⟩
 have hLn:x.rows.length*x.card.toNat=L:=by
  have:((x.rows.length*x.card.toNat:Nat):Int)=x.rows.length*x.card:=by rw[Int.natCast_mul,Int.toNat_of_nonneg (by omega)]
  omega
 rw[hL]at wL hrc;refine af.bf (n:=111) (rs:=[.tmp 6,.tmp 7]) Try.func43 rfl rfl rfl (by decide) (by kernel_rfl) (by simp) ?_;simp only[go_sem,aQ,bW,cj,aA,hvn,hne,hpt,hbd,hL,wL];refine⟨by omega,?_⟩;obtain⟨H1,hH1⟩:∃ H1,H1=ext H [.arr 0 35 [aa g,.vec ns.length (au ns)],.arr 0 42 [.vec cs.length (ints cs),.vec xs.length (xs.map ae)],.arr 0 3 [aa v],.arr 0 69 [aa x.card,.vec x.parents.length (ints x.parents),.vec x.rows.length (x.rows.map ae)],.arr 0 3 (List.replicate L (aa 0))]:=⟨_,rfl⟩
 have n1:H1.next=H.next+5:=by rw[hH1];rfl
 have o1:Over H H1:=by rw[hH1];exact .ext _ _
 have g0:H1.get H.next=some (.arr 0 35 [aa g,.vec ns.length (au ns)]):=by rw[hH1];exact bg H _ 0 (by simp)
 have g2:H1.get (H.next+2)=some (.arr 0 3 [aa v]):=by rw[hH1];exact bg H _ 2 (by simp)
 have g3:H1.get (H.next+3)=some (.arr 0 69 [aa x.card,.vec x.parents.length (ints x.parents),.vec x.rows.length (x.rows.map ae)]):=by rw[hH1];exact bg H _ 3 (by simp)
 have hz:List.replicate L (aa 0)=ints (List.replicate L 0):=by simp [ints,aa]
 have g4:H1.get (H.next+4)=some (.arr 0 3 (ints (cP ns x v (xs.take 0)))):=by
  rw[hH1,bg H _ 4 (by simp)];show some (Blk.arr 0 _ (List.replicate L (aa 0)))=some (.arr 0 _ (ints (List.replicate (x.rows.length*x.card.toNat) 0)));rw[hz,hLn]
 refine W.env fun E hE=>?_;have e3:E 3=.ptr H.next 0 0:=by rw[hE];simp only[go_sem]
 have e5:E 5=.ptr (H.next+2) 0 0:=by rw[hE];simp only[go_sem]
 have e8:E 8=.ptr (H.next+3) 0 0:=by rw[hE];simp only[go_sem]
 have e9:E 9=.own (H.next+4) 0 0 L 1:=by rw[hE];simp only[go_sem]
 have e35:E 35=.vec xs.length (xs.map ae):=by rw[hE];simp only[go_sem]
 have e36:E 36=aa xs.length:=by rw[hE];simp only[go_sem]
 have e37:E 37=aa 0:=by rw[hE];simp only[go_sem]
 clear hE;show W _ _ _ _ _ _ ⟨E,ext H [.arr 0 35 [aa g,.vec ns.length (au ns)],.arr 0 42 [.vec cs.length (ints cs),.vec xs.length (xs.map ae)],.arr 0 3 [aa v],.arr 0 69 [aa x.card,.vec x.parents.length (ints x.parents),.vec x.rows.length (x.rows.map ae)],.arr 0 3 (List.replicate L (aa 0))]⟩;rw[<- hH1];refine W.aG 1298074137262454452077694442805440 (by kernel_rfl) (fun ρ H'=>∃ i:Nat,ρ 37=aa i/\i<=xs.length/\H1.next<=H'.next/\(∀ id,id<H1.next->id≠H.next+4->H'.get id=H1.get id)/\H'.get (H.next+4)=some (.arr 0 3 (ints (cP ns x v (xs.take i))))) (fun ρ H=>xs.length - (iv (ρ 37)).toNat) ?_ ?_
 ·exact⟨0,e37,by omega,Nat.le_refl _,fun _ _ _=>rfl,g4⟩
 rintro ρ H' ⟨i,h37,hi,hn,hk,hg4⟩;have hxt:∀ r∈xs.take i,r.length=ns.length:=fun r hr=>hrow r (List.mem_of_mem_take hr);obtain⟨el,er⟩:=um h h6 hx (xs.take i) hxt;obtain⟨X,hX⟩:∃ X,X=cP ns x v (xs.take i):=⟨_,rfl⟩
 rw[<- hX]at el er hg4;rw[hL]at el;have hXl:X.length=L:=by omega
 refine W.env fun F hF=>?_;have f3:F 3=.ptr H.next 0 0:=by rw[hF];simp only[go_sem,e3]
 have f5:F 5=.ptr (H.next+2) 0 0:=by rw[hF];simp only[go_sem,e5]
 have f8:F 8=.ptr (H.next+3) 0 0:=by rw[hF];simp only[go_sem,e8]
 have f9:F 9=.own (H.next+4) 0 0 L 1:=by rw[hF];simp only[go_sem,e9]
 have f35:F 35=.vec xs.length (xs.map ae):=by rw[hF];simp only[go_sem,e35]
 have f36:F 36=aa xs.length:=by rw[hF];simp only[go_sem,e36]
 have f37:F 37=aa i:=by rw[hF];simp only[go_sem,h37]
 clear hF;by_cases hb:(i:Int)<xs.length;rotate_left
 ·have ei:i=xs.length:=by omega
  refine ab _ _ _ (by rfl) ?_;simp only[go_sem,f9,f36,f37,hb];rw[ei,List.take_length]at hX;rw[<- hX]at hK;have ovx:Over H H':=⟨by omega,fun id hi=>(hk id (by omega) (by omega)).trans (o1.old id hi)⟩
  exact av.bA (v':=.tup [ae X,aa 0]) aP hcl ovx (.tup rfl fun i hi _=>match i,hi with
   | 0,_=>Fz.ints (by omega) hg4 hXl.symm fun j hj=>by rw[Nat.zero_add,fg];simp only[List.getElem?_eq_getElem hj,Option.map_some]
   | 1,_=>.lit _) hK
 obtain⟨r,hr⟩:=get_of_lt (l:=xs) (i:=i) (by omega);have hr':=lY hr;have hrn:=aJ hr';have hrl:=hrow r (List.mem_of_getElem? hr);have lE:∀ L,(ext H' L).live H.next 0=some (35,[aa g,.vec ns.length (au ns)]):=fun L=>ah ((cb _ _ _ (by omega)).trans ((hk H.next (by omega) (by omega)).trans g0));have l4:H'.live (H.next+4) 0=some (3,ints X):=ah hg4;have hbL:(L:Int)*8<=2 ^ 46/\(L:Int)<=2 ^ 46:=by omega
 refine ab _ _ _ (by rfl) ?_;simp only[go_sem,f3,f9,f35,f36,f37,hb,hr',hrn,lE,l4,hbL];obtain⟨Ha,hHa⟩:∃ Ha,Ha=ext H' [.arr 0 3 (List.replicate L (aa 0)),.arr 0 39 [.own H'.next 0 0 L 1]]:=⟨_,rfl⟩
 obtain⟨Hb,hHb⟩:∃ Hb,Hb=ext Ha [.arr 0 127 [aa g,.vec ns.length (au ns),.vec r.length (ints r)]]:=⟨_,rfl⟩
 have na:Ha.next=H'.next+2:=by rw[hHa];rfl
 have nb:Hb.next=H'.next+3:=by rw[hHb];show Ha.next+1=_;rw[na]
 have ka:Ha.get H'.next=some (.arr 0 3 (ints (eI ns x v []))):=by
  rw[hHa,cJ];show some (Blk.arr 0 _ (List.replicate L (aa 0)))=some (.arr 0 _ (ints (List.replicate (x.rows.length*x.card.toNat) 0)));rw[hz,hLn]
 have ka1:Ha.get (H'.next+1)=some (.arr 0 39 [.own H'.next 0 0 L 1]):=by rw[hHa];exact bg H' _ 1 (by simp)
 have kb:Hb.get (H'.next+2)=some (.arr 0 127 [aa g,.vec ns.length (au ns),.vec r.length (ints r)]):=by rw[hHb,<- na];exact cA
 have oab:∀ id,id<H'.next+2->Hb.get id=Ha.get id:=fun id hh=>by rw[hHb];exact dK (by omega)
 have oa:∀ id,id<H'.next->Hb.get id=H'.get id:=fun id hh=>by rw[oab id (by omega),hHa];exact cb _ _ _ hh
 refine aB.clo (B7 g ns r _ _ ⟨trivial,?_⟩);simp only[go_sem];refine W.env fun E1 hE1=>?_;have k3:E1 3=.ptr H.next 0 0:=by rw[hE1];simp only[go_sem,f3]
 have k5:E1 5=.ptr (H.next+2) 0 0:=by rw[hE1];simp only[go_sem,f5]
 have k8:E1 8=.ptr (H.next+3) 0 0:=by rw[hE1];simp only[go_sem,f8]
 have k9:E1 9=.own (H.next+4) 0 0 L 1:=by rw[hE1];simp only[go_sem,f9]
 have k12:E1 12=.ptr (H'.next+1) 0 0:=by rw[hE1];simp only[go_sem]
 have k35:E1 35=.vec xs.length (xs.map ae):=by rw[hE1];simp only[go_sem,f35]
 have k36:E1 36=aa xs.length:=by rw[hE1];simp only[go_sem,f36]
 have k37:E1 37=aa i:=by rw[hE1];simp only[go_sem,f37]
 have k47:E1 47=.clo 88 [] [.ptr (H'.next+2) 0 0]:=by rw[hE1];rfl
 clear hE1;show W _ _ _ _ _ _ ⟨E1,ext (ext H' [.arr 0 3 (List.replicate L (aa 0)),.arr 0 39 [.own H'.next 0 0 L 1]]) [.arr 0 127 [aa g,.vec ns.length (au ns),.vec r.length (ints r)]]⟩;rw[<- hHa,<- hHb];have w1:=IntWalk.i64_in ((i:Int)+1) (by omega);obtain⟨D,hD⟩:∃ D,D=dc (ar ns) r:=⟨_,rfl⟩
 have hDf:∀ w∈D,cG (ar ns) w:=fun w hw=>px (gp h) (by rw[hrl,bP]) (by rw[<- hD];exact hw);have hDl:(iX ns r (Hb.next+1)).length=D.length:=by unfold iX;rw[List.length_map,hD]
 have mt:=B9 h hrl;rw[<- hD]at mt;refine W.B2 (f:=88) (first:=[]) (cap:=[.ptr (H'.next+2) 0 0]) (by show E1 47=_;exact k47) (B6 g ns h r hrl (H'.next+2) (Hb.next+1) (by omega))
  (fun k Hx=>Hb.next<Hx.next/\(∀ id,id<Hb.next->id≠H'.next->Hx.get id=Hb.get id)/\Hx.get H'.next=some (.arr 0 3 (ints (eI ns x v (D.take k)))))
  (fun k Hx hj=>(hj.2.1 _ (by omega) (by omega)).trans kb)
  (fun k H1 H3 hj hw=>⟨by have:=hw.1;omega,fun id h1 h2=>(hw.2 _ (by omega) (by have:=hj.1;omega)).trans (hj.2.1 id h1 h2),(hw.2 _ (by omega) (by have:=hj.1;omega)).trans hj.2.2⟩)
  (fun k Hx hj=>hj.1)
  (fun k H1 b hj=>⟨hj.1,fun id h1 h2=>by rw[ag,if_neg (by omega)];exact hj.2.1 id h1 h2,by rw[ag,if_neg (by omega)];exact hj.2.2⟩)
  (fun b=>⟨by rw[bJ];simp,fun id h1 h2=>dK h1,by rw[dK (by omega),oab _ (by omega)];exact ka⟩) (by decide)
  (fun x hx=>by
   unfold iX at hx;obtain⟨w,_,rfl⟩:=List.mem_map.1 hx;rfl) (fun _ _ _=>trivial) (fun k y Hx B Bb hy hj hs hn2 hB hBb=>?_) (fun Hx hj hn2=>?_)
 ·obtain⟨hh1,hh2,hh3⟩:=hj;obtain⟨w,hw,hwN⟩:=hs;rw[<- hD]at hw;have hwf:=hDf w (List.mem_of_getElem? hw);have hy':y=[.own (Hb.next+1+1) 0 0 ns.length 1,aa (weight ns w)]:=by
   unfold iX at hy;rw[<- hD,List.getElem?_map,hw]at hy;exact(Option.some.inj hy).symm
  subst hy';refine ab _ _ _ (by rfl) ?_;simp only[go_sem,kD,dp,rV,List.foldl_cons,List.foldl_nil,List.zip_cons_cons,List.zip_nil_right,hB];obtain⟨H3,hH3⟩:∃ H3,H3=Hx.upd Hb.next Bb:=⟨_,rfl⟩
  rw[<- hH3];obtain⟨st,pd,n',en,ps',as',bo,hBe⟩:=hBb;have n3:H3.next=Hx.next:=by rw[hH3];rfl
  have o3:∀ id,id≠Hb.next->H3.get id=Hx.get id:=fun id hh=>by rw[hH3,ag,if_neg hh]
  have jB:H3.get Hb.next=some Bb:=by rw[hH3,ag,if_pos rfl]
  refine W.env fun E2 hE2=>?_;have m3:E2 3=.ptr H.next 0 0:=by rw[hE2];simp only[go_sem,dp,k3]
  have m5:E2 5=.ptr (H.next+2) 0 0:=by rw[hE2];simp only[go_sem,dp,k5]
  have m8:E2 8=.ptr (H.next+3) 0 0:=by rw[hE2];simp only[go_sem,dp,k8]
  have m12:E2 12=.ptr (H'.next+1) 0 0:=by rw[hE2];simp only[go_sem,dp,k12]
  have m13:E2 13=.own (Hb.next+2) 0 0 ns.length 1:=by rw[hE2];simp only[go_sem,dp]
  have m14:E2 14=aa (weight ns w):=by rw[hE2];simp only[go_sem,dp]
  clear hE2;have hsm:=fun id (h1:id<H1.next) (h2:id≠H.next+4)=>(o3 id (by omega)).trans ((hh2 id (by omega) (by omega)).trans ((oa id (by omega)).trans (hk id h1 h2)));have l0:=ah ((hsm H.next (by omega) (by omega)).trans g0);have l2:=ah ((hsm (H.next+2) (by omega) (by omega)).trans g2);have l3:=ah ((hsm (H.next+3) (by omega) (by omega)).trans g3);have l12:=ah ((o3 (H'.next+1) (by omega)).trans ((hh2 _ (by omega) (by omega)).trans ((oab _ (by omega)).trans ka1)));have lP:=ah ((o3 H'.next (by omega)).trans hh3);have lW:=ah ((o3 (Hb.next+2) (by omega)).trans hwN);refine ab _ _ _ (by rfl) ?_;simp only[go_sem,m8,l3];refine W.env fun E3 hE3=>?_;have p3:E3 3=.ptr H.next 0 0:=by rw[hE3];simp only[go_sem,m3]
  have p5:E3 5=.ptr (H.next+2) 0 0:=by rw[hE3];simp only[go_sem,m5]
  have p8:E3 8=.ptr (H.next+3) 0 0:=by rw[hE3];simp only[go_sem,m8]
  have p12:E3 12=.ptr (H'.next+1) 0 0:=by rw[hE3];simp only[go_sem,m12]
  have p13:E3 13=.own (Hb.next+2) 0 0 ns.length 1:=by rw[hE3];simp only[go_sem,m13]
  have p14:E3 14=aa (weight ns w):=by rw[hE3];simp only[go_sem,m14]
  have p15:E3 15=aa 0:=by rw[hE3];simp only[go_sem]
  have p51:E3 51=ae x.parents:=by rw[hE3];simp only[go_sem]
  have p52:E3 52=aa x.parents.length:=by rw[hE3];simp only[go_sem]
  have p53:E3 53=aa 0:=by rw[hE3];simp only[go_sem]
  clear hE3;have hin:gA x.parents ns.length:=fun q hq=>by have:=(h.node x hxm).2.2 q hq;omega
  have hfp:=pP hin hwf;have pl:(aS ns x).length=x.parents.length:=gZ _ _;have vl:(aT w x.parents).length=x.parents.length:=gZ _ _;have hsc:=pR n8.2 (h.node x hxm).2 fun y hy=>(h.node y hy).1;have hr0:=B3 hfp hsc;have l12n:=hsc.1;have hwl:w.length=ns.length:=by rw[hwf.1,bP]
  refine W.aG 2361174234235568029696 (by kernel_rfl) (fun ρ H4=>H4=H3/\∃ j:Nat,ρ 53=aa j/\j<=x.parents.length/\ρ 15=aa (fI ((aS ns x).take j) ((aT w x.parents).take j))) (fun ρ H=>x.parents.length - (iv (ρ 53)).toNat) ?_ ?_
  ·exact⟨rfl,0,p53,by omega,p15⟩
  rintro ρ4 H4 ⟨e4,j,h53,hj,h15⟩;rw[e4];refine W.env fun E4 hE4=>?_;have q3:E4 3=.ptr H.next 0 0:=by rw[hE4];simp only[go_sem,p3]
  have q5:E4 5=.ptr (H.next+2) 0 0:=by rw[hE4];simp only[go_sem,p5]
  have q8:E4 8=.ptr (H.next+3) 0 0:=by rw[hE4];simp only[go_sem,p8]
  have q12:E4 12=.ptr (H'.next+1) 0 0:=by rw[hE4];simp only[go_sem,p12]
  have q13:E4 13=.own (Hb.next+2) 0 0 ns.length 1:=by rw[hE4];simp only[go_sem,p13]
  have q14:E4 14=aa (weight ns w):=by rw[hE4];simp only[go_sem,p14]
  have q15:E4 15=aa (fI ((aS ns x).take j) ((aT w x.parents).take j)):=by rw[hE4];simp only[go_sem,h15]
  have q51:E4 51=ae x.parents:=by rw[hE4];simp only[go_sem,p51]
  have q52:E4 52=aa x.parents.length:=by rw[hE4];simp only[go_sem,p52]
  have q53:E4 53=aa j:=by rw[hE4];simp only[go_sem,h53]
  clear hE4;by_cases hb2:(j:Int)<x.parents.length
  ·obtain⟨q,hq⟩:=get_of_lt (l:=x.parents) (i:=j) (by omega);obtain⟨u,y,b,rfl,hy,hbv,a1,a2,a3⟩:=B4 hin hwf hq;have hqn:=aJ hq;have hyn:=dQ hy;have hy0:=iF hy;have hun:(u:Int)<ns.length:=(by have:=get_lt hy;omega);have w2:=IntWalk.i64_in ((j:Int)+1) (by omega);have r1:=hr0 (j+1);rw[uL a1 a2]at r1;have r0:=hr0 j;have m0:0<=fI ((aS ns x).take j) ((aT w x.parents).take j)*y.card:=Int.mul_nonneg r0.1 (by omega);have w3:=IntWalk.i64_in (fI ((aS ns x).take j) ((aT w x.parents).take j)*y.card) (by omega);have w4:=IntWalk.i64_in (fI ((aS ns x).take j) ((aT w x.parents).take j)*y.card+b) (by omega);refine ab _ _ _ (by rfl) ?_;simp only[go_sem,q51,q52,q53,hb2,hq,hqn];refine W.draw 12 [0,0,2,0,14,30,62,127,0,0,768,1792] Try.mixed (by kernel_rfl) (by kernel_rfl) ?_;simp only[go_sem,l0,lW,q3,q13,q15,q53,hyn,hy0,hun,hbv,w2,w3,w4];exact⟨⟨_,_,_,_,_,_,_,by rw[jB,hBe]⟩,⟨j+1,rfl,by omega,by rw[uL a1 a2]⟩,by rw[h53];simp only[aa,aK];omega⟩
  have ej:j=x.parents.length:=by omega
  rw[ej,List.take_of_length_le (by rw[pl];exact Nat.le_refl _),List.take_of_length_le (by rw[vl];exact Nat.le_refl _),uK hfp.1]at q15;obtain⟨a,ha⟩:=get_of_lt (l:=w) (i:=v) (by omega);have hac:=hwf.2 v x.card a (cK hx) ha;have hpr:=xZ h hx hwf;have hpe:iY ns x v w=dx (aS ns x) (aT w x.parents)*x.card+a:=by unfold iY;rw[bG ha]
  obtain⟨z,hz2⟩:∃ z:Nat,iY ns x v w=z:=⟨(iY ns x v w).toNat,by omega⟩
  rw[hL,hz2]at hpr;rw[hz2]at hpe;obtain⟨pa,pb,pc⟩:=pA h hx (D.take k) fun w' h'=>hDf w' (List.mem_of_mem_take h');obtain⟨Pl,hPl⟩:∃ Pl,Pl=eI ns x v (D.take k):=⟨_,rfl⟩
  have hPs:eI ns x v (D.take (k+1))=Pl.set z (Pl.getD z 0+weight ns w):=by
   rw[aL hw,Cc,<- hPl];unfold j8 kJ;rw[hz2,Int.toNat_natCast]
  rw[<- hPl]at pa pb pc lP;rw[hL]at pa;obtain⟨e0,he0⟩:=get_of_lt (l:=Pl) (i:=z) (by omega);rw[bG he0]at hPs;have he1:=pb e0 (List.mem_of_getElem? he0);have he2:=nI pb e0 (List.mem_of_getElem? he0);have mt1:=mt (k+1);have hes:((D.take (k+1)).map (weight ns)).sum=((D.take k).map (weight ns)).sum+weight ns w:=by rw[aL hw];simp
  rw[hes]at mt1;have hwr:=uj h hwf;have hir:=hr0 x.parents.length;rw[List.take_of_length_le (by rw[pl];exact Nat.le_refl _),List.take_of_length_le (by rw[vl];exact Nat.le_refl _),uK hfp.1]at hir;have m0:0<=dx (aS ns x) (aT w x.parents)*x.card:=Int.mul_nonneg hir.1 (by omega);have w2:=IntWalk.i64_in (dx (aS ns x) (aT w x.parents)*x.card) (by omega);have w3:=IntWalk.i64_in (z:Int) (by omega);have w4:=IntWalk.i64_in (e0+weight ns w) (by omega);have hzL:(z:Int)<L:=by omega
  have hvw:(v:Int)<w.length:=by omega
  have hpl2:Pl.length=L:=by omega
  have hz0:¬ (z:Int)<0:=by omega
  refine ab _ _ _ (by rfl) ?_;simp only[go_sem,q52,q53,hb2];refine W.draw 13 [0,0,0,4,14,0,0,96,224,510,1023,2047,0] Try.mixed (by kernel_rfl) (by kernel_rfl) ?_;simp only[go_sem,l2,l3,l12,lP,lW,q5,q8,q12,q13,q14,q15,ha,hvn,<- hpe,he0,hpl2,hzL,w2,w3,w4,mv];refine⟨by omega,?_⟩;obtain⟨H5,hH5⟩:∃ H5,H5=H3.upd H'.next (.arr 0 3 (setAt (ints Pl) z [.lit (.int .i64 (e0+weight ns w))])):=⟨_,rfl⟩
  rw[<- hH5];have n5:H5.next=Hx.next:=by rw[hH5];exact n3
  have k5:∀ id,id≠H'.next->id≠Hb.next->H5.get id=Hx.get id:=fun id h1 h2=>by rw[hH5,ag,if_neg h1,o3 id h2]
  have e5:H5.get H'.next=some (.arr 0 3 (ints (eI ns x v (D.take (k+1))))):=by
   rw[hH5,ag,if_pos rfl,dM (by omega),hPs]
  exact⟨by rw[hH5,ag,if_neg (by omega)];exact jB,by omega,⟨by omega,fun id h1 h2=>(k5 id h2 (by omega)).trans (hh2 id h1 h2),e5⟩,fun id h1 h2=>k5 id (by omega) (by omega)⟩
 ·rw[hDl,List.take_of_length_le (Nat.le_refl _)]at hj;obtain⟨hh1,hh2,hh3⟩:=hj;have hro:=x6 h h6 hx hrl;obtain⟨_,rl,_,rr⟩:=x7 hro;obtain⟨pa,_,_⟩:=pA h hx D hDf;have hpR:iw ns x v r=eI ns x v D:=by rw[hD];rfl
  rw[hpR]at hro rl rr;rw[hL]at pa;have hXs:cP ns x v (xs.take (i+1))=fj X (gu (eI ns x v D)):=by rw[aL hr,x5,<- hX,hpR]
  obtain⟨R,hR⟩:∃ R,R=gu (eI ns x v D):=⟨_,rfl⟩
  have l12:=ah ((hh2 (H'.next+1) (by omega) (by omega)).trans ((oab _ (by omega)).trans ka1));simp only[go_sem,k12,l12];refine aB.clo ((MR hro Hx (Fz.ints (S:=fun _=>True) trivial hh3 (by omega) fun j hj=>by rw[Nat.zero_add,fg];simp only[List.getElem?_eq_getElem hj,Option.map_some])).mono ?_);rintro rres Hq ⟨hrq,hHq⟩;rw[hHq];subst hrq;refine⟨trivial,?_⟩;rw[<- hR]at rl rr hXs ⊢;have hRl:R.length=L:=by omega
  simp only[go_sem];refine W.env fun E2 hE2=>?_;have m3:E2 3=.ptr H.next 0 0:=by rw[hE2];simp only[go_sem,k3]
  have m5:E2 5=.ptr (H.next+2) 0 0:=by rw[hE2];simp only[go_sem,k5]
  have m8:E2 8=.ptr (H.next+3) 0 0:=by rw[hE2];simp only[go_sem,k8]
  have m9:E2 9=.own (H.next+4) 0 0 L 1:=by rw[hE2];simp only[go_sem,k9]
  have m35:E2 35=.vec xs.length (xs.map ae):=by rw[hE2];simp only[go_sem,k35]
  have m36:E2 36=aa xs.length:=by rw[hE2];simp only[go_sem,k36]
  have m37:E2 37=aa i:=by rw[hE2];simp only[go_sem,k37]
  have m94:E2 94=ae R:=by rw[hE2];simp only[go_sem]
  have m95:E2 95=aa R.length:=by rw[hE2];simp only[go_sem]
  have m96:E2 96=aa 0:=by rw[hE2];simp only[go_sem]
  clear hE2;have gX:Hx.get (H.next+4)=some (.arr 0 3 (ints X)):=(hh2 _ (by omega) (by omega)).trans ((oa _ (by omega)).trans hg4);have hkx:∀ id,id<H1.next->id≠H.next+4->Hx.get id=H1.get id:=fun id h1 h2=>(hh2 id (by omega) (by omega)).trans ((oa id (by omega)).trans (hk id h1 h2));refine W.aG 648957879154339189228718500347904 (by kernel_rfl) (fun ρ H4=>∃ j:Nat,ρ 96=aa j/\j<=L/\Hx.next<=H4.next/\(∀ id,id<H1.next->id≠H.next+4->H4.get id=H1.get id)/\H4.get (H.next+4)=some (.arr 0 3 (ints (fj (X.take j) (R.take j)++X.drop j)))) (fun ρ H=>L - (iv (ρ 96)).toNat) ?_ ?_
  ·exact⟨0,m96,by omega,Nat.le_refl _,hkx,by rw[gX];rfl⟩
  rintro ρ4 H4 ⟨j,h96,hj,n4,hk4,hg4'⟩;refine W.env fun E3 hE3=>?_;have p9:E3 9=.own (H.next+4) 0 0 L 1:=by rw[hE3];simp only[go_sem,m9]
  have p37:E3 37=aa i:=by rw[hE3];simp only[go_sem,m37]
  have p94:E3 94=ae R:=by rw[hE3];simp only[go_sem,m94]
  have p95:E3 95=aa R.length:=by rw[hE3];simp only[go_sem,m95]
  have p96:E3 96=aa j:=by rw[hE3];simp only[go_sem,h96]
  clear hE3;by_cases hb3:(j:Int)<R.length;rotate_left
  ·have ej:j=L:=(by omega);refine ab _ _ _ (by rfl) ?_;simp only[go_sem,p37,p95,p96,hb3,w1];refine⟨by omega,⟨i+1,rfl,by omega,by omega,hk4,?_⟩,by rw[h37];simp only[aa,aK];omega⟩;rw[hg4',ej,List.take_of_length_le (by omega),List.take_of_length_le (by omega),List.drop_of_length_le (by omega),List.append_nil,hXs]
  obtain⟨a,ha⟩:=get_of_lt (l:=X) (i:=j) (by omega);obtain⟨b,hbj⟩:=get_of_lt (l:=R) (i:=j) (by omega);have hbn:=aJ hbj;have ha2:=er a (List.mem_of_getElem? ha);have hb2:=rr b (List.mem_of_getElem? hbj);have hil:(xs.take i).length<=64:=by rw[List.length_take];omega
  have w2:=IntWalk.i64_in (a+b) (by omega);have w3:=IntWalk.i64_in ((j:Int)+1) (by omega);have avl:(fj (X.take j) (R.take j)).length=j:=by rw[ya (by simp;omega)];simp;omega
  have hln:(fj (X.take j) (R.take j)++X.drop j).length=L:=by rw[List.length_append,avl,List.length_drop];omega
  have hgj:(fj (X.take j) (R.take j)++X.drop j)[j]?=some a:=by
   rw[List.getElem?_append_right (by omega),avl,Nat.sub_self,gV ha];rfl
  have lX:=ah hg4';have hjL:(j:Int)<L:=by omega
  refine ab _ _ _ (by rfl) ?_;simp only[go_sem,p9,p94,p95,p96,hb3,hbj,hbn,lX,hln,hgj,hjL,w2,w3];refine⟨by omega,by rw[az];omega,⟨j+1,rfl,by omega,by rw[az];omega,fun id h1 h2=>by rw[ag,if_neg h2];exact hk4 id h1 h2,?_⟩,by rw[h96];simp only[aa,aK];omega⟩;rw[ag,if_pos rfl,dM (by omega)];congr 3;rw[List.set_append_right _ _ (by omega),avl,Nat.sub_self,gV ha,aL ha,aL hbj];show _++(a+b) :: _=_;unfold fj;rw[List.zipWith_append (by simp;omega),List.append_assoc];rfl
def mX (ns:List NodeP)(xs:List (List Int)):Bool:=decide ((0:Int) ∉ xs.map (fT ns))
set_option maxHeartbeats 1000000 in
theorem MV (g:Int)(ns:List NodeP)(h:NetOk g ns)(cs:List Int)(xs:List (List Int))(hx40:xs.length<=64)(hrow:∀ r∈xs,r.length=ns.length)(H:AHeap)(K:ARes->AHeap->Prop)(hK:K (.ret (.lit (.bool (mX ns xs)))) H):
  af Try.prog G0 14 [aQ g ns,cj cs xs] H K:=by
 refine af.clo ⟨_,Try.func14,rfl,rfl⟩ fun hcl=>?_;refine af.bf (n:=21) (rs:=[.tmp 4]) Try.func14 rfl rfl rfl (by decide) (by kernel_rfl) (by simp) ?_;simp only[go_sem,aQ,bW,cj,aA];obtain⟨H1,hH1⟩:∃ H1,H1=ext H [.arr 0 35 [.lit (.int .i64 g),.vec ns.length (au ns)],.arr 0 42 [.vec cs.length (ints cs),.vec xs.length (xs.map ae)]]:=⟨_,rfl⟩
 have l1:H1.live H.next 0=some (35,[.lit (.int .i64 g),.vec ns.length (au ns)]):=by rw[hH1];exact ah (cJ ..)
 have l2:H1.live (H.next+1) 0=some (42,[.vec cs.length (ints cs),.vec xs.length (xs.map ae)]):=by rw[hH1];exact ah (bg H _ 1 (by simp))
 have o1:Over H H1:=by rw[hH1];exact .ext _ _
 rw[<- hH1];refine W.aG 2097136 (by rfl) (fun ρ H'=>H'=H1/\∃ k:Nat,ρ 5=aa k/\k<=xs.length/\∀ j,j<k->∀ r,xs[j]?=some r->fT ns r≠0) (fun ρ H=>xs.length - (iv (ρ 5)).toNat) ?_ ?_
 ·simp only[go_sem];exact⟨0,rfl,by omega,fun j h=>absurd h (Nat.not_lt_zero _)⟩
 rintro ρ H' ⟨hHx,k,h5,hk,hall⟩;rw[hHx];refine W.env fun E hE=>?_;have e2:E 2=.ptr H.next 0 0:=by rw[hE];simp only[go_sem]
 have e3:E 3=.ptr (H.next+1) 0 0:=by rw[hE];simp only[go_sem]
 have e5:E 5=aa k:=by rw[hE];simp only[go_sem,h5]
 clear hE;have w1:=IntWalk.i64_in ((k:Int)+1) (by omega);refine ab _ _ _ (by rfl) ?_;by_cases hb:(k:Int)<xs.length;rotate_left
 ·simp only[go_sem,e3,e5,l2,hb];have:mX ns xs=true:=by
   refine decide_eq_true fun hm=>?_;obtain⟨r,hr,h0⟩:=List.mem_map.1 hm;obtain⟨j,hj⟩:=List.getElem?_of_mem hr;exact hall j (by have:=get_lt hj;omega) r hj h0
  rw[this]at hK;exact av.bA aP hcl o1 (.lit _) hK
 obtain⟨r,hr⟩:=get_of_lt (l:=xs) (i:=k) (by omega);have hr':=lY hr;have hrn:=aJ hr';have hrm:=List.mem_of_getElem? hr;simp only[go_sem,e3,e5,l2,hb];refine W.draw 6 [0,0,2,0,14,30] Try.mixed (by kernel_rfl) (by kernel_rfl) ?_;simp only[go_sem,e2,e3,e5,l1,l2,hb,hr',hrn];refine aB.clo (MT g ns h r (hrow r hrm) _ _ ⟨trivial,?_⟩);by_cases h0:fT ns r=0
 ·simp only[go_sem,h0];have:mX ns xs=false:=by
   refine decide_eq_false fun hm=>hm ?_;rw[<- h0];exact List.mem_map.2 ⟨r,hrm,rfl⟩
  rw[this]at hK;exact av.bA aP hcl o1 (.lit _) hK
 ·simp only[go_sem,e5,h0,w1];refine⟨⟨k+1,rfl,by omega,fun j hj r' hr2=>?_⟩,by rw[h5];simp only[aa,aK];omega⟩;rcases Nat.lt_or_ge j k with hh|hh
  ·exact hall j hh r' hr2
  ·obtain rfl:j=k:=(by omega);rw[hr]at hr2;cases hr2;exact h0
theorem MW {c:List Int}(h:gU c 720 0)(H:AHeap)(K:ARes->AHeap->Prop)(hK:K (.ret (ae (gu c))) H):af Try.prog G0 46 [ae c,aa 720,aa 0] H K:=C6 h H K hK
set_option maxHeartbeats 4000000 in
theorem MX (g:Int)(ns:List NodeP)(h:NetOk g ns)(h6:ns.length<=6)(cs:List Int)(xs:List (List Int))(hx40:xs.length<=64)(hrow:∀ r∈xs,r.length=ns.length)(v:Nat)(x:NodeP)(hx:ns[v]?=some x)
  (H:AHeap) (K:ARes->AHeap->Prop) (hK:K (.ret (ae (cP ns x v xs))) H):
  af Try.prog G0 15 [aQ g ns,cj cs xs,aa v] H K:=by
 refine af.clo ⟨_,Try.func15,rfl,rfl⟩ fun hcl=>?_;have n8:=h.n1;have hxm:=List.mem_of_getElem? hx;have hxc:=(h.node x hxm).1;have hrc:=py h hx;have hvn:(v:Int)<ns.length:=by have:=get_lt hx;omega
 have hne:=dQ hx;have h0:=iF hx;have h2:=ni hx;have wL:=IntWalk.i64_in ((x.rows.length:Int)*x.card) (by omega);obtain⟨L,hL⟩:∃ L:Nat,(x.rows.length:Int)*x.card=L:=⟨((x.rows.length:Int)*x.card).toNat,by omega⟩
 have hLn:x.rows.length*x.card.toNat=L:=by
  have:((x.rows.length*x.card.toNat:Nat):Int)=x.rows.length*x.card:=by rw[Int.natCast_mul,Int.toNat_of_nonneg (by omega)]
  omega
 rw[hL]at wL hrc;have hbL:(L:Int)*8<=2 ^ 46/\(L:Int)<=2 ^ 46:=by omega
 refine af.bf (n:=61) (rs:=[.tmp 6]) Try.func15 rfl rfl rfl (by decide) (by kernel_rfl) (by simp) ?_;simp only[go_sem,aQ,bW,cj,aA];refine W.draw 13 [0,1,0,7,15,31,63,0,128,0,896,1920,3968] Try.mixed (by kernel_rfl) (by kernel_rfl) ?_;simp only[go_sem,hvn,hne,h0,h2,aA,hL,wL,hbL];obtain⟨H1,hH1⟩:∃ H1,H1=ext H [.arr 0 35 [aa g,.vec ns.length (au ns)],.arr 0 42 [.vec cs.length (ints cs),.vec xs.length (xs.map ae)],.arr 0 3 (List.replicate L (aa 0))]:=⟨_,rfl⟩
 have n1:H1.next=H.next+3:=by rw[hH1];rfl
 have o1:Over H H1:=by rw[hH1];exact .ext _ _
 have g0:H1.get H.next=some (.arr 0 35 [aa g,.vec ns.length (au ns)]):=by rw[hH1];exact cJ ..
 have g1:H1.get (H.next+1)=some (.arr 0 42 [.vec cs.length (ints cs),.vec xs.length (xs.map ae)]):=by rw[hH1];exact bg H _ 1 (by simp)
 have hz:List.replicate L (aa 0)=ints (List.replicate L 0):=by simp [ints,aa]
 have g2:H1.get (H.next+2)=some (.arr 0 3 (ints (cP ns x v (xs.take 0)))):=by
  rw[hH1,bg H _ 2 (by simp)];show some (Blk.arr 0 _ (List.replicate L (aa 0)))=some (.arr 0 _ (ints (List.replicate (x.rows.length*x.card.toNat) 0)));rw[hz,hLn]
 refine W.env fun E hE=>?_;have e2:E 2=aa v:=by rw[hE];simp only[go_sem]
 have e3:E 3=.ptr H.next 0 0:=by rw[hE];simp only[go_sem]
 have e4:E 4=.ptr (H.next+1) 0 0:=by rw[hE];simp only[go_sem]
 have e7:E 7=.own (H.next+2) 0 0 L 1:=by rw[hE];simp only[go_sem]
 have e8:E 8=aa 0:=by rw[hE];simp only[go_sem]
 clear hE;show W _ _ _ _ _ _ ⟨E,ext H [.arr 0 35 [aa g,.vec ns.length (au ns)],.arr 0 42 [.vec cs.length (ints cs),.vec xs.length (xs.map ae)],.arr 0 3 (List.replicate L (aa 0))]⟩;rw[<- hH1];refine W.aG 1152921504539739904 (by rfl) (fun ρ H'=>∃ i:Nat,ρ 8=aa i/\i<=xs.length/\H1.next<=H'.next/\(∀ id,id<H1.next->id≠H.next+2->H'.get id=H1.get id)/\H'.get (H.next+2)=some (.arr 0 3 (ints (cP ns x v (xs.take i))))) (fun ρ H=>xs.length - (iv (ρ 8)).toNat) ?_ ?_
 ·exact⟨0,e8,by omega,Nat.le_refl _,fun _ _ _=>rfl,g2⟩
 rintro ρ H' ⟨i,h8,hi,hn,hk,hg2⟩;have hxt:∀ r∈xs.take i,r.length=ns.length:=fun r hr=>hrow r (List.mem_of_mem_take hr);obtain⟨el,er⟩:=um h h6 hx (xs.take i) hxt;obtain⟨X,hX⟩:∃ X,X=cP ns x v (xs.take i):=⟨_,rfl⟩
 rw[<- hX]at el er hg2;rw[hL]at el;have hXl:X.length=L:=by omega
 have l0:=ah ((hk H.next (by omega) (by omega)).trans g0);have l1:=ah ((hk (H.next+1) (by omega) (by omega)).trans g1);refine W.env fun F hF=>?_;have f2:F 2=aa v:=by rw[hF];simp only[go_sem,e2]
 have f3:F 3=.ptr H.next 0 0:=by rw[hF];simp only[go_sem,e3]
 have f4:F 4=.ptr (H.next+1) 0 0:=by rw[hF];simp only[go_sem,e4]
 have f7:F 7=.own (H.next+2) 0 0 L 1:=by rw[hF];simp only[go_sem,e7]
 have f8:F 8=aa i:=by rw[hF];simp only[go_sem,h8]
 clear hF;have w1:=IntWalk.i64_in ((i:Int)+1) (by omega);by_cases hb:(i:Int)<xs.length;rotate_left
 ·have ei:i=xs.length:=by omega
  refine ab _ _ _ (by rfl) ?_;simp only[go_sem,f4,f7,f8,l1,hb];rw[ei,List.take_length]at hX;rw[<- hX]at hK;exact av.bA (v':=ae X) aP hcl ⟨by omega,fun id hi=>(hk id (by omega) (by omega)).trans (o1.old id hi)⟩ (Fz.ints (by omega) hg2 hXl.symm fun j hj=>by rw[Nat.zero_add,fg];simp only[List.getElem?_eq_getElem hj,Option.map_some]) hK
 obtain⟨r,hr⟩:=get_of_lt (l:=xs) (i:=i) (by omega);have hr':=lY hr;have hrn:=aJ hr';have hrl:=hrow r (List.mem_of_getElem? hr);have hro:=x6 h h6 hx hrl;obtain⟨_,rl,_,rr⟩:=x7 hro;obtain⟨pa,_,_⟩:=pA h hx (dc (ar ns) r) fun w hw=>px (gp h) (by rw[hrl,bP]) hw;have pa':((iw ns x v r).length:Int)=x.rows.length*x.card:=pa;rw[hL]at pa';have hXs:cP ns x v (xs.take (i+1))=fj X (gu (iw ns x v r)):=by rw[aL hr,x5,<- hX]
 obtain⟨R,hR⟩:∃ R,R=gu (iw ns x v r):=⟨_,rfl⟩
 refine ab _ _ _ (by rfl) ?_;simp only[go_sem,f4,f8,l1,hb];refine W.draw 7 [0,0,2,0,14,30,0] Try.mixed (by kernel_rfl) (by kernel_rfl) ?_;simp only[go_sem,f2,f3,f4,f8,l0,l1,hb,hr',hrn];refine aB.clo (MU g ns h r hrl v x hx _ _ ⟨trivial,?_⟩);simp only[go_sem];refine aB.clo (MW hro _ _ ⟨trivial,?_⟩);rw[<- hR]at rl rr hXs ⊢;have hRl:R.length=L:=by omega
 simp only[go_sem];refine W.env fun E2 hE2=>?_;have m2:E2 2=aa v:=by rw[hE2];simp only[go_sem,f2]
 have m3:E2 3=.ptr H.next 0 0:=by rw[hE2];simp only[go_sem,f3]
 have m4:E2 4=.ptr (H.next+1) 0 0:=by rw[hE2];simp only[go_sem,f4]
 have m7:E2 7=.own (H.next+2) 0 0 L 1:=by rw[hE2];simp only[go_sem,f7]
 have m8:E2 8=aa i:=by rw[hE2];simp only[go_sem,f8]
 have m9:E2 9=ae R:=by rw[hE2];simp only[go_sem]
 have m10:E2 10=aa 0:=by rw[hE2];simp only[go_sem]
 clear hE2;refine W.aG 1152917106560336896 (by rfl) (fun ρ H4=>∃ j:Nat,ρ 10=aa j/\j<=L/\H'.next<=H4.next/\(∀ id,id<H1.next->id≠H.next+2->H4.get id=H1.get id)/\H4.get (H.next+2)=some (.arr 0 3 (ints (fj (X.take j) (R.take j)++X.drop j)))) (fun ρ H=>L - (iv (ρ 10)).toNat) ?_ ?_
 ·exact⟨0,m10,by omega,Nat.le_refl _,hk,by rw[hg2];rfl⟩
 rintro ρ4 H4 ⟨j,h10,hj,n4,hk4,hg4'⟩;refine W.env fun E3 hE3=>?_;have p7:E3 7=.own (H.next+2) 0 0 L 1:=by rw[hE3];simp only[go_sem,m7]
 have p8:E3 8=aa i:=by rw[hE3];simp only[go_sem,m8]
 have p9:E3 9=ae R:=by rw[hE3];simp only[go_sem,m9]
 have p10:E3 10=aa j:=by rw[hE3];simp only[go_sem,h10]
 clear hE3;by_cases hb3:(j:Int)<R.length;rotate_left
 ·have ej:j=L:=by omega
  refine ab _ _ _ (by rfl) ?_;simp only[go_sem,p8,p9,p10,hb3,w1];refine⟨by omega,⟨i+1,rfl,by omega,by omega,hk4,?_⟩,by rw[h8];simp only[aa,aK];omega⟩;rw[hg4',ej,List.take_of_length_le (by omega),List.take_of_length_le (by omega),List.drop_of_length_le (by omega),List.append_nil,hXs]
 obtain⟨a,ha⟩:=get_of_lt (l:=X) (i:=j) (by omega);obtain⟨b,hbj⟩:=get_of_lt (l:=R) (i:=j) (by omega);have hbn:=aJ hbj;have ha2:=er a (List.mem_of_getElem? ha);have hb2:=rr b (List.mem_of_getElem? hbj);have hil:(xs.take i).length<=64:=by rw[List.length_take];omega
 have w2:=IntWalk.i64_in (a+b) (by omega);have w3:=IntWalk.i64_in ((j:Int)+1) (by omega);have avl:(fj (X.take j) (R.take j)).length=j:=by rw[ya (by simp;omega)];simp;omega
 have hln:(fj (X.take j) (R.take j)++X.drop j).length=L:=by rw[List.length_append,avl,List.length_drop];omega
 have hgj:(fj (X.take j) (R.take j)++X.drop j)[j]?=some a:=by
  rw[List.getElem?_append_right (by omega),avl,Nat.sub_self,gV ha];rfl
 have lX:=ah hg4';have hjL:(j:Int)<L:=by omega
 refine ab _ _ _ (by rfl) ?_;simp only[go_sem,p9,p10,hb3];refine W.draw 11 [0,0,0,0,12,28,0,0,192,448,1020] Try.mixed (by kernel_rfl) (by kernel_rfl) ?_;simp only[go_sem,p7,p9,p10,hb3,hbj,hbn,lX,hln,hgj,hjL,w2,w3];refine⟨by omega,by rw[az];omega,⟨j+1,rfl,by omega,by rw[az];omega,fun id h1 h2=>by rw[ag,if_neg h2];exact hk4 id h1 h2,?_⟩,by rw[h10];simp only[aa,aK];omega⟩;rw[ag,if_pos rfl,dM (by omega)];congr 3;rw[List.set_append_right _ _ (by omega),avl,Nat.sub_self,gV ha,aL ha,aL hbj];show _++(a+b) :: _=_;unfold fj;rw[List.zipWith_append (by simp;omega),List.append_assoc];rfl
theorem uB {S:Nat->Prop}{H:AHeap}{nx:Nat}{cv xv:AVal}{cs:List Int}{xs:List (List Int)}(h1:Fz S H nx cv (ae cs))(h2:Fz S H nx xv (aA xs)):Fz S H nx (.agg [cv,xv]) (cj cs xs):=by
 refine .agg rfl fun i hi _=>?_
 match i,hi with
 | 0,_=>exact h1
 | 1,_=>exact h2
theorem aD.CC {S:Nat->Prop}{lo nx:Nat}{H:AHeap}{e:TypeId}{v:AVal}{q:List (List Int)}(h:aD lo H e v (q.map ae))(hS:∀ i,lo<=i->S i):Fz S H nx v (aA q):=by
 have:=h.fz (S:=S) (nx:=nx) (cs':=q.map ae) hS rfl fun i hi _=>by simp only[List.getElem_map];exact .dk _
 rw[List.length_map]at this;exact this
noncomputable def gS (g:Int)(ns:List NodeP)(cs:List Int)(xs:List (List Int)):Int:=if gC g ns=true then (if ja cs xs=true then (if ar ns=cs then 0 else 261) else 250) else 50
set_option maxHeartbeats 1000000 in
theorem NZ (g:Int)(ns:List NodeP)(cs:List Int)(xs:List (List Int))(hn:iJ ns)(hf:kO cs xs)(H:AHeap)(K:ARes->AHeap->Prop)(hK:K (.ret (aa (gS g ns cs xs))) H):af Try.prog G0 13 [aQ g ns,cj cs xs] H K:=by
 refine af.clo ⟨_,Try.func13,rfl,rfl⟩ fun hcl=>?_;have hf':=hf;obtain⟨f1,f2,f3⟩:=hf;have hn1:=hn.1;refine af.bf (n:=38) (rs:=[.tmp 4]) Try.func13 rfl rfl rfl (by decide) (by kernel_rfl) (by simp) ?_;simp only[go_sem,cj,aA,aQ,bW];obtain⟨H1,hH1⟩:∃ H1,H1=ext H [.arr 0 35 [.lit (.int .i64 g),.vec ns.length (au ns)],.arr 0 42 [.vec cs.length (ints cs),.vec xs.length (xs.map ae)]]:=⟨_,rfl⟩
 have l1:H1.live H.next 0=some (35,[.lit (.int .i64 g),.vec ns.length (au ns)]):=by rw[hH1];exact ah (cJ ..)
 have l2:H1.live (H.next+1) 0=some (42,[.vec cs.length (ints cs),.vec xs.length (xs.map ae)]):=by rw[hH1];exact ah (bg H _ 1 (by simp))
 have o1:Over H H1:=by rw[hH1];exact .ext _ _
 rw[<- hH1];refine aB.clo (QV g ns hn _ _ ⟨trivial,?_⟩);cases hN:gC g ns
 ·simp only[go_sem];unfold gS at hK;rw[if_neg (by rw[hN];decide)]at hK;exact av.bA aP hcl o1 (.lit _) hK
 simp only[go_sem,l2];refine aB.clo (NV cs xs hf' _ _ ⟨trivial,?_⟩);cases hD:ja cs xs
 ·simp only[go_sem];unfold gS at hK;rw[if_pos hN,if_neg (by rw[hD];decide)]at hK;exact av.bA aP hcl o1 (.lit _) hK
 have unl:¬ ar ns=cs->av Try.prog G0 H K (aa 261) H1:=fun h=>by
  unfold gS at hK;rw[if_pos hN,if_pos hD,if_neg h]at hK;exact av.bA aP hcl o1 (.lit _) hK
 by_cases hl:(ns.length:Int)=cs.length;rotate_left
 ·simp only[go_sem,l1,l2,hl];exact unl fun h=>hl (by rw[<- h,bP])
 simp only[go_sem,l1,l2,hl];refine W.aG 274877382704 (by rfl) (fun ρ H'=>H'=H1/\∃ k:Nat,ρ 5=aa k/\k<=ns.length/\(ar ns).take k=cs.take k) (fun ρ H=>ns.length - (iv (ρ 5)).toNat) ?_ ?_
 ·simp only[go_sem];exact⟨0,rfl,by omega,rfl⟩
 rintro ρ H' ⟨rfl,k,h5,hk,he⟩;refine ab _ _ _ (by rfl) ?_;by_cases hb:(k:Int)<cs.length
 ·obtain⟨x,hx⟩:=get_of_lt (l:=ns) (i:=k) (by omega);obtain⟨c,hc⟩:=get_of_lt (l:=cs) (i:=k) (by omega);have hne:=dQ hx;have e0:=iF hx;have hcn:=aJ hc;have hbn:(k:Int)<ns.length:=by omega
  simp only[go_sem,h5,hb,l2];refine W.draw 11 [0,1,0,7,15,31,0,64,0,448,960] Try.mixed (by kernel_rfl) (by kernel_rfl) ?_;by_cases hd:x.card=c
  ·have w1:=IntWalk.i64_in ((k:Int)+1) (by omega);simp only[go_sem,h5,hb,hl,hne,e0,l1,l2,hc,hcn,hd,w1];exact⟨⟨k+1,rfl,by omega,by rw[aL (cK hx),aL hc,he,hd]⟩,by omega⟩
  ·simp only[go_sem,h5,hb,hl,hne,e0,l1,l2,hc,hcn,hd];exact unl fun h=>hd (by have:=cK hx;rw[h,hc]at this;exact(Option.some.inj this).symm)
 ·simp only[go_sem,h5,hb,l2];rw[List.take_of_length_le (by rw[bP];omega),List.take_of_length_le (by omega)]at he;unfold gS at hK;rw[if_pos hN,if_pos hD,if_pos he]at hK;exact av.bA aP hcl o1 (.lit _) hK
theorem MY (g:Int)(ns:List NodeP)(cs:List Int)(xs:List (List Int)):mW [(g,ns)] cs xs=gS g ns cs xs:=by
 unfold mW gS;simp
theorem MZ (l:List (Int × List NodeP))(cs:List Int)(xs:List (List Int))(hn:∀ p∈l,iJ p.2)(hf:kO cs xs)(hl4:l.length<=4)(H:AHeap){id:Nat}(hg:H.get id=some (.arr 0 35 (eu l))):
  af Try.prog G0 40 [.agg [.vec cs.length (ints cs),.vec xs.length (xs.map ae)],.own id 0 0 l.length 2] H fun r H'=>r=.ret (aa (mW l cs xs))/\H'=H:=by
 refine af.frame (H:=H) (args:=[.agg [.vec cs.length (ints cs),.vec xs.length (xs.map ae)],.own id 0 0 l.length 2]) (args':=[cj cs xs,.vec l.length (eu l)]) (v':=aa (mW l cs xs)) aP rfl (fun i hi _=>match i,hi with
  | 0,_=>?_
  | 1,_=>?_) (MG l cs xs hn hf hl4 cH _ ⟨_,rfl,.lit _⟩)
 ·exact .agg rfl fun i hi _=>match i,hi with
   | 0,_=>.dk _
   | 1,_=>.aA _
 ·refine .frz trivial hg (by rw[uk]) fun i hi h2 h'=>?_;have hm:∀ c∈eu l,Fz (fun _=>True) H 0 c c:=fun c hc=>by
   unfold eu at hc;obtain⟨q,hq,hcq⟩:=List.mem_flatten.1 hc;obtain⟨p,_,rfl⟩:=List.mem_map.1 hq;rcases List.mem_cons.1 hcq with rfl|hcq
   ·exact .lit _
   ·rw[List.mem_singleton.1 hcq];exact rT _
  have e:(eu l)[0+i]=(eu l)[i]:=by congr 1;omega
  rw[e];exact hm _ (List.getElem_mem _)
theorem yf {g:Int}{ns:List NodeP}{cs:List Int}{xs:List (List Int)}(h:gS g ns cs xs=0):NetOk g ns/\DataOk cs xs/\ar ns=cs:=by
 unfold gS at h;split at h
 ·rename_i h1;split at h
  ·rename_i h2;split at h
   ·rename_i h3;exact⟨DW.1 h1,NT.1 h2,h3⟩
   ·cases h
  ·cases h
 ·cases h
theorem Ci {g:Int}{ns:List NodeP}{cs:List Int}{xs:List (List Int)}(h:gS g ns cs xs=0):ns.length<=6/\xs.length<=40/\∀ r∈xs,r.length=ns.length:=by
 obtain⟨h1,h2,h3⟩:=yf h;have e:ns.length=cs.length:=by rw[<- h3,bP]
 refine⟨by have:=h2.c1;omega,h2.x1,fun r hr=>by rw[(h2.row r hr).1,e]⟩
end Go.Proofs
namespace Go.Proofs.R01
open Go.Hx
section
variable {P:Program} {t:TypeId} {x y:Operand} {k k':IntKind} {a b:Int}
end
section
variable {P:Program} {G:Nat->Option (List AVal)}
end
end Go.Proofs.R01
namespace Go.Proofs.R01
open Go.Hx
def val:List Int -> Nat
  | [] => 0
  | a :: l => a.toNat + 10000 * val l
end Go.Proofs.R01
namespace Go.Proofs.R01
open Go.Hx
theorem nD {H H' H2:AHeap}{v:AVal}{cs:List AVal}{e:TypeId}(ov:Over H H')(h:aD H.next H' e v cs)(hn:H'.next<=H2.next)(hp:∀ k,k<H'.next->(∀ g n,v≠.own k g 0 n 1)->H2.get k=H'.get k):Over H H2 :=
 ⟨by have:=ov.next;omega,fun id hid=>by
  rw[hp id (by have:=ov.next;omega) fun g n he=>?_,ov.old id hid];rcases h with ⟨h,_⟩|⟨i2,g2,a1,_,h,_⟩
  ·rw[h]at he;cases he
  ·rw[h]at he;have:=AVal.own.inj he;omega⟩
end Go.Proofs.R01
namespace Go.Proofs.R01
open Go.Hx
end Go.Proofs.R01
namespace Go.Proofs.R01
open Go.Hx
theorem dM {l:List Int}{k:Nat}(v:Int)(h:k<l.length):setAt (ints l) k [.lit (.int .i64 v)]=ints (l.set k v):=by
 unfold setAt ints;rw[List.map_set,List.set_eq_take_append_cons_drop,if_pos (by simpa using h)];simp [aa]
end Go.Proofs.R01
namespace Go.Proofs.R01
open Go.Hx
end Go.Proofs.R01
namespace Go.Proofs.R01
open Go.Hx
end Go.Proofs.R01
namespace Go.Proofs.R01
open Go.Hx
end Go.Proofs.R01
namespace Go.Proofs.R01
open Go.Hx
end Go.Proofs.R01
namespace Go.Proofs
open Go.Hx
def aY (l:List Int):List AVal:=l.map fun n=>.lit (.int .u8 n)
theorem ru {l:List Int}{k:Nat}{a:Int}(h:l[k]?=some a):(aY l)[k]?=some (.lit (.int .u8 a)):=by unfold aY;rw[List.getElem?_map,h];rfl
theorem NJ (l:List Int):(aY l).length=l.length:=by simp [aY]
end Go.Proofs
namespace Go.Hx
variable {P:Program} {H H':AHeap}
theorem pL {t e:TypeId}{lo n m:Nat}{v x:AVal}{cs src:List AVal}{z:List AVal}(ht:P.underlying t=some (.slice e))(hz:P.cellsOf e=1)(hzero:bR P e=some z)(hsrc:cD H 1 x=some (m,src))(hm:src.length=m)(hx:src.all AVal.one=true)
  (hb:(cs.length+m)*P.bytesOf e<=2 ^ 46/\cs.length+m<=2 ^ 46) (ho:aD lo H e v cs) (hlo:lo<=H.next) (hn:n=H.next):
  ∃ v' H',bC P H n t t v x=some (v',H')/\aD lo H' e v' (cs++src)/\H.next<=H'.next/\(∀ k,k<H.next->(∀ g n,v≠.own k g 0 n 1)->H'.get k=H.get k):=by
 subst hm;obtain⟨v',H',hA,h2⟩:=qH (H:=H) (n:=n) ht hz hzero hx hb ho hlo hn;refine⟨v',H',?_,h2⟩;rw[<- hA];have e2:cD H 1 (.vec src.length src)=some (src.length,src):=by unfold cD;simp
 unfold bC;rw[ht];simp only[hz,hsrc,e2]
end Go.Hx
namespace Go.Proofs
open Go.Hx
def U8 (n:Int):Prop:=0<=n/\n<256
theorem P6 (n:Nat)(hn:n<=5)(ord:List Int)(H:AHeap)(K:ARes->AHeap->Prop)(hK:K (.ret (ae (List.replicate n 1))) H):
  af Try.prog G0 66 [.agg [.vec n (aY (List.replicate n 0)),(.lit (.int .u16 0)),.vec ord.length (aY ord)]] H K:=by
 refine af.clo ⟨_,Try.func66,rfl,rfl⟩ fun hcl=>?_;refine af.bf (n:=28) (rs:=[.tmp 2]) Try.func66 rfl rfl rfl (by decide) (by kernel_rfl) (by simp) ?_;simp only[go_sem];obtain⟨H1,hH1⟩:∃ H1,H1=ext H [.arr 0 83 [.vec n (aY (List.replicate n 0)),.lit (.int .u16 0),.vec ord.length (aY ord)]]:=⟨_,rfl⟩
 have l1:=ah (show H1.get H.next=some (.arr 0 83 [.vec n (aY (List.replicate n 0)),.lit (.int .u16 0),.vec ord.length (aY ord)]) by rw[hH1];exact cJ ..);have n1:H1.next=H.next+1:=by rw[hH1];rfl
 have o1:Over H H1:=by rw[hH1];exact .ext _ _
 rw[<- hH1];refine W.aG 134217720 (by rfl) (fun ρ H'=>∃ k:Nat,ρ 4=aa k/\k<=n/\Over H1 H'/\aD H1.next H' 3 (ρ 3) (ints (List.replicate k 1))) (fun ρ H=>n - (iv (ρ 4)).toNat) ?_ ?_
 ·simp only[go_sem];exact⟨0,rfl,by omega,.refl _,.nil⟩
 rintro ρ H' ⟨k,h4,hk,ov,h3⟩;refine W.env fun E hE=>?_;have e1:E 1=.ptr H.next 0 0:=by rw[hE];simp only[go_sem]
 have e3:E 3=ρ 3:=by rw[hE];simp only[go_sem]
 have e4:E 4=aa k:=by rw[hE];simp only[go_sem,h4]
 clear hE;refine ab _ _ _ (by rfl) ?_;have l2:=(ov.live (g:=0) (by omega:H.next<H1.next)).trans l1;by_cases hb:(k:Int)<n
 ·have h5:(k:Int)<5:=by omega
  have hg:(aY (List.replicate n 0))[k]?=some (.lit (.int .u8 0)):=ru (by rw[List.getElem?_replicate,if_pos (by omega)]);have hne:=aJ hg;obtain⟨v',H2,hA,ov2,hO,hn2,_⟩:=kX 1 ov h3 (by simp;omega);have w1:=IntWalk.i64_in ((k:Int)+1) (by omega);have hk0:(k:Int) >= 0:=by omega
  have w5:IntKind.i64.wrap (1+IntKind.i64.wrap (Int.tmod 0 4))=1:=by decide
  simp only[go_sem,e1,e3,e4,l2,hb,h5,hk0,hg,hne,w1,w5,hA];refine⟨by have:=ov2.next;omega,⟨k+1,rfl,by omega,ov2,?_⟩,by rw[h4];simp only[aa,aK];omega⟩;rw[List.replicate_succ'];exact hO
 ·simp only[go_sem,e1,e3,e4,l2,hb];obtain rfl:k=n:=by omega
  exact av.bA aP hcl (o1.trans ov) (h3.gJ fun i hi=>by omega) hK
structure IsPerm (n:Nat)(p:List Int):Prop where
 len:p.length=n
 nd:p.Nodup
 rng:∀ x∈p,0<=x/\x<n
theorem P7 {n:Nat}{p:List Int}(h:IsPerm n p)(at':Nat)(ha:at'<=n):IsPerm (n+1) (p.take at'++(n:Int) :: p.drop at'):=by
 have hperm:(p.take at'++(n:Int) :: p.drop at').Perm ((n:Int) :: p):=by
  have:=List.perm_middle (a:=(n:Int)) (l₁:=p.take at') (l₂:=p.drop at')
  rwa [List.take_append_drop]at this
 refine⟨by rw[hperm.length_eq];simp [h.len],(hperm.nodup_iff).2 (List.nodup_cons.2 ⟨fun hm=>?_,h.nd⟩),fun x hx=>?_⟩
 ·have:=h.rng _ hm;omega
 ·rcases List.mem_cons.1 (hperm.mem_iff.1 hx) with rfl|h2
  ·omega
  ·have:=h.rng x h2;omega
def kV (ord:List Int)(k:Nat):Nat:=if k<ord.length then (ord.getD k 0 % ((k:Int)+1)).toNat else 0
def fW (ord:List Int):Nat->List Int
 | 0=>[]
 | k+1=>(fW ord k).take (kV ord k)++(k:Int) :: (fW ord k).drop (kV ord k)
theorem P8 (ord:List Int)(k:Nat):kV ord k<=k:=by
 unfold kV;split
 ·have:=Int.emod_lt_of_pos (ord.getD k 0) (show 0<(k:Int)+1 by omega);omega
 ·omega
theorem yJ (ord:List Int):∀ n:Nat,IsPerm n (fW ord n)
 | 0=>⟨rfl,by simp [fW],by simp [fW]⟩
 | n+1=>P7 (yJ ord n) _ (P8 ord n)
set_option maxHeartbeats 1000000 in
theorem P9 (n:Nat)(hn:n<=5)(ord:List Int)(hol:(ord.length:Int)<2 ^ 63)(ho8:∀ x∈ord,U8 x)(H:AHeap)(K:ARes->AHeap->Prop)(hK:∀ v H',Over H H'->aD H.next H' 3 v (ints (fW ord n))->K (.ret v) H'):
  af Try.prog G0 35 [.agg [.vec n (aY (List.replicate n 0)),.lit (.int .u16 0),.vec ord.length (aY ord)]] H K:=by
 refine af.clo ⟨_,Try.func35,rfl,rfl⟩ fun hcl=>?_;refine af.bf (n:=42) (rs:=[.tmp 2]) Try.func35 rfl rfl rfl (by decide) (by kernel_rfl) (by simp) ?_;simp only[go_sem];obtain⟨H1,hH1⟩:∃ H1,H1=ext H [.arr 0 83 [.vec n (aY (List.replicate n 0)),.lit (.int .u16 0),.vec ord.length (aY ord)]]:=⟨_,rfl⟩
 have l1:=ah (show H1.get H.next=some (.arr 0 83 [.vec n (aY (List.replicate n 0)),.lit (.int .u16 0),.vec ord.length (aY ord)]) by rw[hH1];exact cJ ..);have n1:H1.next=H.next+1:=by rw[hH1];rfl
 have o1:Over H H1:=by rw[hH1];exact .ext _ _
 rw[<- hH1];refine W.aG 2199023255544 (by rfl) (fun ρ H'=>∃ (k:Nat) (p:List Int),ρ 4=aa k/\k<=n/\p=fW ord k/\Over H1 H'/\aD H1.next H' 3 (ρ 3) (ints p)) (fun ρ H=>n - (iv (ρ 4)).toNat) ?_ ?_
 ·simp only[go_sem];exact⟨0,[],rfl,by omega,rfl,.refl _,.nil⟩
 rintro ρ H' ⟨k,p,h4,hk,hpe,ov,h3⟩;have hp:IsPerm k p:=by rw[hpe];exact yJ ord k
 refine W.env fun E hE=>?_;have e1:E 1=.ptr H.next 0 0:=by rw[hE];simp only[go_sem]
 have e3:E 3=ρ 3:=by rw[hE];simp only[go_sem]
 have e4:E 4=aa k:=by rw[hE];simp only[go_sem,h4]
 clear hE;refine ab _ _ _ (by rfl) ?_;have l2:=(ov.live (g:=0) (by omega:H.next<H1.next)).trans l1;simp only[go_sem,e1,l2];refine aB.clo (P6 n hn ord _ _ ⟨trivial,?_⟩);by_cases hb:(k:Int)<n;rotate_left
 ·simp only[go_sem,List.length_replicate,e3,e4,hb];obtain rfl:k=n:=by omega
  exact av.mk (o1.trans ov).next (hK _ _ (o1.trans ov) (by rw[<- hpe];exact h3.keep (by omega) (Nat.le_refl _) fun _ _ _ _ _ _=>rfl))
  -- the place
 rcases h3 with ⟨h3n,hpn⟩|⟨oi,og,hoi1,hoi2,h3o,hog⟩
 ·have p0:p=[]:=by cases p with
   | nil=>rfl
   | cons a l=>simp [ints]at hpn
  have pl:=hp.len;rw[p0]at pl;obtain rfl:k=0:=by simpa using pl.symm
  rw[h3n]at e3;have e4':E 4=aa 0:=e4;have hb':(0:Int)<n:=hb;by_cases ho:(0:Int)<ord.length
  ·obtain⟨b,hbg⟩:=get_of_lt (l:=ord) (i:=0) (by omega);have b8:=ho8 b (List.mem_of_getElem? hbg);have hbg':=ru hbg;have hbne:=aJ hbg';have w2:IntKind.i64.wrap b=b:=IntWalk.i64_in b (by have:=b8.1;have:=b8.2;omega);have w1:IntKind.i64.wrap 1=1:=(by decide);have m1:b.tmod 1=0:=(by simp);obtain⟨v2,Hb,hA2,ovB,hO2,hn2,hp2⟩:=kX (H:=H') (H':=H') (l:=[]) (v:=.lit (.slice none 0 0)) (0:Int) (.refl _) aD.nil (by simp);obtain⟨v3,Hc,hA3,hO3,hn3,hp3⟩:=pL (P:=Try.prog) (H:=Hb) (t:=39) (n:=Hb.next) (m:=0) (v:=v2) (x:=.lit (.slice none 0 0)) (src:=[]) Try.underlying39 Try.dW Try.ew rfl rfl rfl (by rw[Try.eU];exact⟨by decide,by decide⟩) hO2 ovB.next rfl;have ovC:Over H' Hc:=nD ovB hO2 hn3 hp3;have hA1:bC Try.prog H' H'.next 39 39 (.lit (.slice none 0 0)) (.lit (.slice none 0 0))=some (.lit (.slice none 0 0),H'):=by
    unfold bC;rw[Try.underlying39];simp only[Try.ew,Try.dW,Option.bind_some,wD,if_true]
   have hO3':aD H1.next Hc 3 v3 (ints [0]):=by
    rw[List.append_nil]at hO3;exact hO3.keep ov.next (Nat.le_refl _) fun _ _ _ _ _ _=>rfl
   simp only[go_sem,List.length_replicate,e1,e3,e4',l2,hb',ho,hbg',hbne,w1,w2,m1,hA1,hA2,hA3];refine⟨by have:=ovC.next;have:=ov.next;omega,⟨1,[0],rfl,by omega,by simp [fW],ov.trans ovC,hO3'⟩,by rw[h4];simp only[aa,aK];omega⟩
  ·have w1:IntKind.i64.wrap 1=1:=(by decide);obtain⟨v2,Hb,hA2,ovB,hO2,hn2,hp2⟩:=kX (H:=H') (H':=H') (l:=[]) (v:=.lit (.slice none 0 0)) (0:Int) (.refl _) aD.nil (by simp);obtain⟨v3,Hc,hA3,hO3,hn3,hp3⟩:=pL (P:=Try.prog) (H:=Hb) (t:=39) (n:=Hb.next) (m:=0) (v:=v2) (x:=.lit (.slice none 0 0)) (src:=[]) Try.underlying39 Try.dW Try.ew rfl rfl rfl (by rw[Try.eU];exact⟨by decide,by decide⟩) hO2 ovB.next rfl;have ovC:Over H' Hc:=nD ovB hO2 hn3 hp3;have hA1:bC Try.prog H' H'.next 39 39 (.lit (.slice none 0 0)) (.lit (.slice none 0 0))=some (.lit (.slice none 0 0),H'):=by
    unfold bC;rw[Try.underlying39];simp only[Try.ew,Try.dW,Option.bind_some,wD,if_true]
   have hO3':aD H1.next Hc 3 v3 (ints [0]):=by
    rw[List.append_nil]at hO3;exact hO3.keep ov.next (Nat.le_refl _) fun _ _ _ _ _ _=>rfl
   simp only[go_sem,List.length_replicate,e1,e3,e4',l2,hb',ho,w1,hA1,hA2,hA3];refine⟨by have:=ovC.next;have:=ov.next;omega,⟨1,[0],rfl,by omega,by simp [fW],ov.trans ovC,hO3'⟩,by rw[h4];simp only[aa,aK];omega⟩
 rw[h3o]at e3;have lo:=ah hog;by_cases ho:(k:Int)<ord.length
 ·obtain⟨b,hbg⟩:=get_of_lt (l:=ord) (i:=k) (by omega);have b8:=ho8 b (List.mem_of_getElem? hbg);have hbg':=ru hbg;have hbne:=aJ hbg';have w0:=IntWalk.i64_in ((k:Int)+1) (by omega);have w1:=w0;have w2:IntKind.i64.wrap b=b:=IntWalk.i64_in b (by have:=b8.1;have:=b8.2;omega);have m1:b.tmod ((k:Int)+1)=b % ((k:Int)+1):=Int.tmod_eq_emod_of_nonneg b8.1;have m2:=Int.emod_nonneg b (show (k:Int)+1≠0 by omega);have m3:=Int.emod_lt_of_pos b (show 0<(k:Int)+1 by omega);have hz:¬ (k:Int)+1=0:=by omega
  obtain⟨a,hat⟩:=Int.eq_ofNat_of_zero_le m2;have ha:a<=k:=by omega
  have hac:(0:Int)<=(a:Int):=by omega
  have hap:(a:Int)<=(p.length:Int):=by rw[hp.len];omega
  have hak:(0:Int)<=(a:Int)/\(a:Int)<=(p.length:Int):=⟨hac,hap⟩
  have pl:p.length=k:=hp.len;obtain⟨v1,Ha,hA1,hO1,hn1,hp1⟩:=pL (P:=Try.prog) (H:=H') (t:=39) (n:=H'.next) (m:=a) (v:=.lit (.slice none 0 0)) (x:=.own oi og 0 a 1) (src:=(ints p).take a) Try.underlying39 Try.dW Try.ew
   (by rw[qF,if_pos rfl,lo];simp) (by simp [aM]<;>omega) (List.all_eq_true.2 fun c hc=>by
    obtain⟨z,_,rfl⟩:=List.mem_map.1 (List.mem_of_mem_take hc);rfl) (by rw[Try.eU];simp<;>omega) aD.nil (Nat.le_refl _) rfl
  have ovA:Over H' Ha:=⟨hn1,fun id hi=>hp1 id hi fun g n h=>by cases h⟩
  rw[List.nil_append,D6]at hO1;obtain⟨v2,Hb,hA2,ovB,hO2,hn2,hp2⟩:=kX (k:Int) ovA hO1 (by simp<;>omega);have hcl2:(ints (p.take a++[(k:Int)])).length<=k+1:=by rw[aM,List.length_append,List.length_take];simp<;>omega
  have hlb:Hb.live oi og=some (3,ints p):=(ovB.live hoi2).trans lo;obtain⟨v3,Hc,hA3,hO3,hn3,hp3⟩:=pL (P:=Try.prog) (H:=Hb) (t:=39) (n:=Hb.next) (m:=p.length - a) (v:=v2) (x:=.own oi og a (p.length - a) 1) (src:=(ints p).drop a) Try.underlying39 Try.dW Try.ew
   (by rw[qF,if_pos rfl,hlb];simp [List.take_of_length_le,aM]) (by simp [aM]) (List.all_eq_true.2 fun c hc=>by
    obtain⟨z,_,rfl⟩:=List.mem_map.1 (List.mem_of_mem_drop hc);rfl) (by rw[Try.eU];omega) hO2 ovB.next rfl
  have ovC:Over H' Hc:=nD ovB hO2 hn3 hp3;have hla:Ha.live oi og=some (3,ints p):=(ovA.live hoi2).trans lo;rw[D7]at hO3;have hO3':aD H1.next Hc 3 v3 (ints (p.take a++(k:Int) :: p.drop a)):=by
   have:ints (p.take a++[(k:Int)])++ints (p.drop a)=ints (p.take a++(k:Int) :: p.drop a):=(by simp [ints]);rw[this]at hO3;exact hO3.keep ov.next (Nat.le_refl _) fun _ _ _ _ _ _=>rfl
  simp only[go_sem,List.length_replicate,e1,e3,e4,l2,hb,ho,hbg',hbne,w0,w2,m1,hz,hat,hac,hap,Int.toNat_natCast,lo,hlb,hA1,hA2,hA3];refine⟨by have:=ovC.next;omega,⟨k+1,_,rfl,by omega,by rw[fW,<- hpe,show kV ord k=a by unfold kV;rw[if_pos (by omega),bG hbg,hat];rfl],ov.trans ovC,hO3'⟩,by rw[h4];simp only[aa,aK];omega⟩
 ·have w0:=IntWalk.i64_in ((k:Int)+1) (by omega);have pl:p.length=k:=hp.len;obtain⟨v1,Ha,hA1,hO1,hn1,hp1⟩:=pL (P:=Try.prog) (H:=H') (t:=39) (n:=H'.next) (m:=0) (v:=.lit (.slice none 0 0)) (x:=.own oi og 0 0 1) (src:=(ints p).take 0) Try.underlying39 Try.dW Try.ew
   (by rw[qF,if_pos rfl,lo];simp) (by simp [aM]<;>omega) (List.all_eq_true.2 fun c hc=>by
    obtain⟨z,_,rfl⟩:=List.mem_map.1 (List.mem_of_mem_take hc);rfl) (by rw[Try.eU];simp<;>omega) aD.nil (Nat.le_refl _) rfl
  have ovA:Over H' Ha:=⟨hn1,fun id hi=>hp1 id hi fun g n h=>by cases h⟩
  rw[List.nil_append,D6]at hO1;obtain⟨v2,Hb,hA2,ovB,hO2,hn2,hp2⟩:=kX (k:Int) ovA hO1 (by simp<;>omega);have hcl2:(ints (p.take 0++[(k:Int)])).length<=k+1:=by rw[aM,List.length_append,List.length_take];simp<;>omega
  have hlb:Hb.live oi og=some (3,ints p):=(ovB.live hoi2).trans lo;obtain⟨v3,Hc,hA3,hO3,hn3,hp3⟩:=pL (P:=Try.prog) (H:=Hb) (t:=39) (n:=Hb.next) (m:=p.length) (v:=v2) (x:=.own oi og 0 (p.length) 1) (src:=(ints p).drop 0) Try.underlying39 Try.dW Try.ew
   (by rw[qF,if_pos rfl,hlb];simp [List.take_of_length_le,aM]) (by simp [aM]) (List.all_eq_true.2 fun c hc=>by
    obtain⟨z,_,rfl⟩:=List.mem_map.1 (List.mem_of_mem_drop hc);rfl) (by rw[Try.eU];omega) hO2 ovB.next rfl
  have ovC:Over H' Hc:=nD ovB hO2 hn3 hp3;have hla:Ha.live oi og=some (3,ints p):=(ovA.live hoi2).trans lo;rw[D7]at hO3;have hO3':aD H1.next Hc 3 v3 (ints (p.take 0++(k:Int) :: p.drop 0)):=by
   have:ints (p.take 0++[(k:Int)])++ints (p.drop 0)=ints (p.take 0++(k:Int) :: p.drop 0):=(by simp [ints]);rw[this]at hO3;exact hO3.keep ov.next (Nat.le_refl _) fun _ _ _ _ _ _=>rfl
  simp only[go_sem,List.length_replicate,e1,e3,e4,l2,hb,ho,w0,lo,hlb,hA1,hA2,hA3];refine⟨by have:=ovC.next;omega,⟨k+1,_,rfl,by omega,by rw[fW,<- hpe,show kV ord k=0 by unfold kV;rw[if_neg (by omega)]],ov.trans ovC,hO3'⟩,by rw[h4];simp only[aa,aK];omega⟩
structure D25 where
 cards:List Int
 cases:List (List Int)
 follow:Int
 miss:List Int
def NW (l:List (List Int)):List AVal:=(l.map aY).flatten
def D25.cells (d:D25):List AVal:=[.vec d.cards.length (aY d.cards),.vec d.cases.length (NW d.cases),.lit (.int .u8 d.follow),.vec d.miss.length (aY d.miss)]
structure D25.Ok (d:D25):Prop where
 cl:(d.cards.length:Int)<2 ^ 63
 c8:∀ x∈d.cards,U8 x
 xl:(d.cases.length:Int)<2 ^ 63
 x8:∀ r∈d.cases,r.length=5/\∀ x∈r,U8 x
 f8:U8 d.follow
 ml:(d.miss.length:Int)<2 ^ 63
 m8:∀ x∈d.miss,U8 x
def ng (n:Nat)(xs:List (List Int)):Prop:=∀ r∈xs,r.length=n
theorem ng.set {n:Nat}{xs:List (List Int)}(h:ng n xs){i:Nat}{r:List Int}(hr:r.length=n):ng n (xs.set i r):=fun q hq=>by
 rcases List.mem_or_eq_of_mem_set hq with h'|rfl
 ·exact h q h'
 ·exact hr
end Go.Proofs
namespace Go.Hx
variable {P:Program} {G:Nat->Option (List AVal)}
def AHeap.fo (H:AHeap)(n ob:Nat)(b:Blk):AHeap:=⟨fun id=>if n<=id then none else if id=ob then some b else H.get id,H.next⟩
theorem Dm {H:AHeap}{n ob:Nat}{b:Blk}(h:ob<n):(H.fo n ob b).get ob=some b:=by simp [AHeap.fo,Nat.not_le.2 h]
theorem Dn {H:AHeap}{n ob id:Nat}{b:Blk}(h:id<n)(h2:id≠ob):(H.fo n ob b).get id=H.get id:=by simp [AHeap.fo,Nat.not_le.2 h,h2]
theorem P5 {H:AHeap}(hc:Clo H){n ob g:Nat}{e:TypeId}{cells cells':List AVal}(hob:H.get ob=some (.arr g e cells))(hlt:ob<n)(hl:cells'.length=cells.length)
  (hcell:∀ i (h:i<cells.length) (h':i<cells'.length),Fz (fun id=>n<=id) H H.next cells[i] cells'[i]):FzH (fun id=>n<=id) H (H.fo n ob (.arr g e cells')) where
 gone id hs:=by simp [AHeap.fo,hs]
 kept id b hs hb:=by
  have hbb:=hc.below id b hb;refine⟨hc.lt id b hb,?_⟩;by_cases h:id=ob
  ·subst h;rw[hob]at hb;cases hb;exact⟨.arr g e cells',by simp [AHeap.fo,hs],rfl,rfl,hl,hcell⟩
  ·refine⟨b,by simp [AHeap.fo,hs,h,hb],?_⟩;cases b with
   | rsv=>trivial
   | mp=>rfl
   | arr g e cells=>exact⟨rfl,rfl,rfl,fun i h _=>.dead (hbb i h)⟩
   | loop st pend n env ps asg body=>exact⟨rfl,rfl,rfl,rfl,rfl,rfl,rfl,fun t ht=>.dead (hbb t ht)⟩
 none id hs hb:=by
  by_cases h:id=ob
  ·subst h;rw[hob]at hb;cases hb
  ·simp [AHeap.fo,hs,h,hb]
theorem dG.fo (hG:fP G){s:St}{n ob g:Nat}{e:TypeId}{cells cells':List AVal}(hob:s.H.get ob=some (.arr g e cells))(hlt:ob<n)(hl:cells'.length=cells.length)
  (hcell:∀ i (h:i<cells.length) (h':i<cells'.length),Fz (fun id=>n<=id) s.H s.H.next cells[i] cells'[i]):dG P G s ⟨s.ρ,s.H.fo n ob (.arr g e cells')⟩:=by
 intro n' wb Γ a w hs;exact dG.freeze (s:=s) (s':=⟨s.ρ,s.H.fo n ob (.arr g e cells')⟩) hG (P5 hs.heap.clo hob hlt hl hcell) (fun t=>.dead (hs.env t).qz) n' wb Γ a w hs
theorem iV.upd {lo:Nat}{H:AHeap}{e1 e0:TypeId}{v:AVal}{rows:List (List AVal)}(h:iV lo H e1 e0 v rows){k:Nat}{b:Blk}(hk:k<lo):iV lo (H.upd k b) e1 e0 v rows:=by
 obtain⟨cs,c1,c2,c3⟩:=h;refine⟨cs,c1.keep (Nat.le_refl _) (by rw[az];exact Nat.le_refl _) fun id _ h1 _ _ _=>by rw[ag,if_neg (by omega)],c2,fun j r c hr hc=>(c3 j r c hr hc).keep (Nat.le_refl _) (by rw[az];exact Nat.le_refl _) fun id _ h1 _ _ _=>by rw[ag,if_neg (by omega)]⟩
end Go.Hx
