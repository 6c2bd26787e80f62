/- Own work: contracts. -/
import Derived.Test.YtakancljiekbhaaConBb
set_option linter.all false
set_option maxRecDepth 100000
namespace Go.Hx
theorem af.fin {P:Program}{G:Nat->Option (List AVal)}{f:FuncId}{args:List AVal}{H:AHeap}{K:ARes->AHeap->Prop}(h:af P G f args H fun r H'=>∃ v,r=.ret v/\av P G H K v H'):af P G f args H K:=by
 refine⟨h.1,fun Γ w cargs R hr=>(h.2 Γ w cargs R hr).mono ?_⟩;rintro e w' ⟨r,H',Γ',hend,⟨v,rfl,v',H2,hw,hn2,hk⟩,R',E,hn⟩;obtain⟨Γ2,R2,E2,hv⟩:=hw Γ' w' R';refine⟨.ret v',H2,Γ2,?_,hk,R2,E.trans hn E2,hn2⟩;cases e with
 | returned cv=>exact hv cv hend
 | _=>exact hend.elim
end Go.Hx
namespace Go.Proofs
open Go.Hx
open Classical in
noncomputable def tK (least sp:Int)(c:List Int):List Int:=if h:∃ s,iT least sp c s then h.choose else []
theorem xH {least sp:Int}{c s:List Int}(h:iT least sp c s):s=tK least sp c:=by
 have hex:∃ s,iT least sp c s:=⟨s,h⟩
 unfold tK;rw[dif_pos hex];exact h.unique hex.choose_spec
def mH (c:List Int)(grain least:Int):Prop:=(1<=c.length/\c.length<=1024)/\(∀ x∈c,0<=x/\x<=1099511627776)/\(1<=grain/\grain<=720)/\0<=least/\least*c.length<=grain
theorem mH.le {c:List Int}{grain least:Int}(h:mH c grain least):least<=720:=by
 obtain⟨h1,_,h3,h4,h5⟩:=h;have:least*1<=least*c.length:=Int.mul_le_mul_of_nonneg_left (by omega) h4;omega
theorem Ol {c:List Int}{grain least:Int}(h:mH c grain least)(H:AHeap)(K:ARes->AHeap->Prop)(hK:K (.ret (ae (tK least (dQ grain least c) c))) H):af Try.prog G0 46 [ae c,aa grain,aa least] H K:=by
 have h7:=h.le;obtain⟨h1,h2,h3,h4,h5⟩:=h;exact NZ rfl h1.1 h1.2 h2 h3 ⟨h4,h7⟩ h5 H K fun s hs=>by rw[xH hs];exact hK
theorem Lq {n:Nat}{D:Nat->Bool}{f:Nat->Int}(h:∀ v,v<n->1<=f v):1<=dx n D f/\dx n D f<=au ((List.range n).map f):=by
 induction n with
 | zero=>exact⟨Int.le_refl 1,Int.le_refl 1⟩
 | succ n ih =>
  obtain⟨h1,h2⟩:=ih fun v hv=>h v (by omega);have hf:=h n (by omega);rw[tt,List.range_succ,List.map_append,tL];have e:au ([n].map f)=f n:=by simp [fE,fj]
  rw[e];cases D n
  ·rw[if_neg (by decide),Int.mul_one];exact⟨h1,Int.le_trans h2 (by have:=Int.mul_le_mul_of_nonneg_left hf (show 0<=au ((List.range n).map f) by omega);omega)⟩
  ·rw[if_pos rfl];exact⟨by have:=Int.mul_le_mul h1 hf (by omega) (by omega);omega,Int.mul_le_mul_of_nonneg_right h2 (by omega)⟩
theorem Lr {n:Nat}(f:Nat->Int):∀ {l:List Nat},l.Nodup->(∀ v∈l,v<n)->dx n (fun v=>decide (v∈l)) f=au (l.map f):=by
 intro l
 induction l with
 | nil=>intro _ _;rw[show (fun v=>decide (v∈([]:List Nat)))=fun _=>false from funext fun v=>by simp,A5];rfl
 | cons a l ih =>
  intro hn hl;obtain⟨h1,h2⟩:=List.nodup_cons.1 hn;have ha:=hl a (by simp);rw[tu (D:=fun v=>decide (v∈l)) (v:=a) f (by simpa using h1) (by simp) (fun i hi=>by simp [hi]),if_pos ha,ih h2 fun v hv=>hl v (by simp [hv]),List.map_cons,fE,Int.mul_comm]
theorem Ls {g:Int}{ns:List NodeP}(h:NetOk g ns){v:Nat}{x:NodeP}(hx:ns[v]?=some x):(v:Int) ∉ x.parents:=by
 intro hm;have ha:=h.acyc v (by rw[qu];exact get_lt hx);rw[bE (mS hx)]at ha;have hpos:=fun q hq=>((h.node x (List.mem_of_getElem? hx)).2.2 q hq).1;have hb:(dK x.parents).testBit v=true:=by rw[lI hpos];exact decide_eq_true hm
 have:=tR (bt ns) (bt ns).length (dK x.parents) v hb;unfold fG at ha;rw[ha]at this;cases this
theorem qv {g:Int}{ns:List NodeP}(h:NetOk g ns){v:Nat}{x:NodeP}(hx:ns[v]?=some x):1<=(x.rows.length:Int)*x.card/\(x.rows.length:Int)*x.card<=1024:=by
 have hxm:=List.mem_of_getElem? hx;obtain⟨hpw,hpr⟩:=(h.node x hxm).2;have hl:(x.parents.map Int.toNat).Nodup:=by
  refine List.pairwise_map.2 (hpw.imp_of_mem fun {a b} ha hb hab=>?_);have:=(hpr a ha).1;omega
 have hno:=Ls h hx;have hn2:(v :: x.parents.map Int.toNat).Nodup:=List.nodup_cons.2 ⟨fun hm=>by
  obtain⟨q,hq,hqv⟩:=List.mem_map.1 hm;exact hno (by rw[<- hqv,Int.toNat_of_nonneg (hpr q hq).1];exact hq),hl⟩
 have hr2:∀ u∈(v :: x.parents.map Int.toNat),u<ns.length:=fun u hu=>by
  rcases List.mem_cons.1 hu with rfl|hu
  ·exact get_lt hx
  ·obtain⟨q,hq,rfl⟩:=List.mem_map.1 hu;have:=hpr q hq;omega
 have e:=Lr (fun u=>(ar ns).getD u 0) hn2 hr2;have hge:=Lq (n:=ns.length) (D:=fun u=>decide (u∈v :: x.parents.map Int.toNat)) (f:=fun u=>(ar ns).getD u 0) fun u hu=>by
  obtain⟨y,hy⟩:=get_of_lt hu;show 1<=(ar ns).getD u 0;rw[bE (cI hy)];exact(h.node y (List.mem_of_getElem? hy)).1.1
 rw[e,A8,List.map_cons,fE,List.map_map]at hge;have e2:au (x.parents.map ((fun u=>(ar ns).getD u 0) ∘ Int.toNat))=au (aR ns x):=rfl;rw[e2,bE (cI hx),<- (h.rows x hxm).1,Int.mul_comm]at hge;have:=h.size;omega
def kx (l:List Int)(i:Nat)(d:Int):List Int:=l.set i (l.getD i 0+d)
theorem Lt (l:List Int)(i:Nat)(d:Int):(kx l i d).length=l.length:=by simp [kx]
theorem Lu {l:List Int}{i:Nat}(h:i<l.length)(d:Int):(kx l i d).sum=l.sum+d:=by
 induction l generalizing i with
 | nil=>simp at h
 | cons a l ih =>
  cases i with
  | zero=>simp [kx];omega
  | succ i =>
   have:=ih (i:=i) (by simpa using h);unfold kx at this ⊢;simp only[List.set_cons_succ,List.sum_cons,List.getD_cons_succ,this];omega
theorem Lv {l:List Int}(h:∀ x∈l,0<=x)(i:Nat){d:Int}(hd:0<=d):∀ x∈kx l i d,0<=x:=fun x hx=>by
 rcases List.mem_or_eq_of_mem_set hx with hx|rfl
 ·exact h x hx
 ·rw[List.getD_eq_getElem?_getD];cases hy:l[i]? with
  | none=>simpa using hd
  | some y=>have:=h y (List.mem_of_getElem? hy);simp;omega
def iL (ns:List NodeP)(x:NodeP)(v:Nat)(w:List Int):Int:=dp (aR ns x) (aS w x.parents)*x.card+w.getD v 0
def jT (ns:List NodeP)(x:NodeP)(v:Nat)(s w:List Int):List Int:=kx s (iL ns x v w).toNat (weight ns w)
def eD (ns:List NodeP)(x:NodeP)(v:Nat)(ws:List (List Int)):List Int:=ws.foldl (jT ns x v) (List.replicate (x.rows.length*x.card.toNat) 0)
theorem Bn (ns:List NodeP)(x:NodeP)(v:Nat)(ws:List (List Int))(w:List Int):eD ns x v (ws++[w])=jT ns x v (eD ns x v ws) w:=by unfold eD;rw[List.foldl_append];rfl
theorem w9 {g:Int}{ns:List NodeP}(h:NetOk g ns){v:Nat}{x:NodeP}(hx:ns[v]?=some x){w:List Int}(hw:cE (ar ns) w):0<=iL ns x v w/\iL ns x v w<x.rows.length*x.card:=by
 have hxm:=List.mem_of_getElem? hx;have hin:gp x.parents ns.length:=fun q hq=>by have:=(h.node x hxm).2.2 q hq;omega
 have h1:=mL (o9 hin hw);obtain⟨a,ha⟩:=get_of_lt (l:=w) (i:=v) (by rw[hw.1,bO];exact get_lt hx);have h2:=hw.2 v x.card a (cI hx) ha;have hl:=(h.rows x hxm).1;unfold iL;rw[bE ha];have hc:=(h.node x hxm).1;have m1:0<=dp (aR ns x) (aS w x.parents)*x.card:=Int.mul_nonneg h1.1 (by omega);have m2:(dp (aR ns x) (aS w x.parents)+1)*x.card<=x.rows.length*x.card:=Int.mul_le_mul_of_nonneg_right (by omega) (by omega);rw[Int.add_mul]at m2;omega
theorem oH {g:Int}{ns:List NodeP}(h:NetOk g ns){v:Nat}{x:NodeP}(hx:ns[v]?=some x)(ws:List (List Int))(hw:∀ w∈ws,cE (ar ns) w):
  ((eD ns x v ws).length:Int)=x.rows.length*x.card/\(∀ y∈eD ns x v ws,0<=y)/\(eD ns x v ws).sum=(ws.map (weight ns)).sum:=by
 have hc:=(h.node x (List.mem_of_getElem? hx)).1;have key:∀ (l:List (List Int)) (s:List Int),(∀ w∈l,cE (ar ns) w)->(s.length:Int)=x.rows.length*x.card->(∀ y∈s,0<=y) ->
   ((l.foldl (jT ns x v) s).length:Int)=x.rows.length*x.card/\(∀ y∈l.foldl (jT ns x v) s,0<=y)/\(l.foldl (jT ns x v) s).sum=s.sum+(l.map (weight ns)).sum:=by
  intro l
  induction l with
  | nil=>intro s _ h1 h2;exact⟨h1,h2,by simp⟩
  | cons w l ih =>
   intro s hl h1 h2;have hp:=w9 h hx (hl w (by simp));have hwt:=A9 h (hl w (by simp));obtain⟨a,b,c⟩:=ih (jT ns x v s w) (fun w' h'=>hl w' (by simp [h'])) (by unfold jT;rw[Lt];exact h1) (Lv h2 _ hwt.1);refine⟨a,b,?_⟩;rw[List.foldl_cons,c];unfold jT;rw[Lu (by omega),List.map_cons,List.sum_cons];omega
 have e:((List.replicate (x.rows.length*x.card.toNat) (0:Int)).length:Int)=x.rows.length*x.card:=by
  rw[List.length_replicate,Int.natCast_mul,Int.toNat_of_nonneg (by omega)]
 obtain⟨a,b,c⟩:=key ws _ hw e fun y hy=>by rw[List.eq_of_mem_replicate hy];exact Int.le_refl _
 refine⟨a,b,?_⟩;unfold eD;rw[c];have:(List.replicate (x.rows.length*x.card.toNat) (0:Int)).sum=0:=by rw[List.sum_replicate_int];simp
 omega
theorem Lw {α:Type}(f:α->Int)(p:α->Bool)(l:List α)(h:∀ a∈l,0<=f a):((l.filter p).map f).sum<=(l.map f).sum:=by
 induction l with
 | nil=>simp
 | cons a l ih =>
  have h1:=h a (by simp);have h2:=ih fun b hb=>h b (by simp [hb]);rw[List.filter_cons];split
  ·simp only[List.map_cons,List.sum_cons];omega
  ·simp only[List.map_cons,List.sum_cons];omega
theorem Lx {g:Int}{ns:List NodeP}(h:NetOk g ns)(h6:ns.length<=6){r:List Int}(hr:r.length=ns.length):fP ns r<=46656000000:=by
 unfold fP;rw[tq (by rw[hr,bO])];refine Int.le_trans (Lw _ _ _ fun w hw=>(A9 h (wU (gf h) hw)).1) ?_;rw[K8 h];have hg:=h.g1;obtain⟨k,rfl⟩:∃ k:Nat,g=k:=⟨g.toNat,by omega⟩
 have a1:k ^ ns.length<=60 ^ ns.length:=Nat.pow_le_pow_left (by omega) _;have a2:(60:Nat) ^ ns.length<=60 ^ 6:=Nat.pow_le_pow_right (by decide) h6;have a3:(60:Nat) ^ 6=46656000000:=by decide
 rw[<- Int.natCast_pow];omega
noncomputable def gh (c:List Int):List Int:=tK 0 (dQ 720 0 c) c
def g9 (ns:List NodeP)(x:NodeP)(v:Nat)(r:List Int):List Int:=eD ns x v (cZ (ar ns) r)
def fg (a b:List Int):List Int:=List.zipWith (·+·) a b
noncomputable def eE (ns:List NodeP)(x:NodeP)(v:Nat)(xs:List (List Int)):List Int:=xs.foldl (fun s r=>fg s (gh (g9 ns x v r))) (List.replicate (x.rows.length*x.card.toNat) 0)
theorem xc (ns:List NodeP)(x:NodeP)(v:Nat)(xs:List (List Int))(r:List Int):eE ns x v (xs++[r])=fg (eE ns x v xs) (gh (g9 ns x v r)):=by unfold eE;rw[List.foldl_append];rfl
theorem xd {g:Int}{ns:List NodeP}(h:NetOk g ns)(h6:ns.length<=6){v:Nat}{x:NodeP}(hx:ns[v]?=some x){r:List Int}(hr:r.length=ns.length):mH (g9 ns x v r) 720 0:=by
 have hl:=qv h hx;obtain⟨a,b,c⟩:=oH h hx (cZ (ar ns) r) fun w hw=>oF (gf h) (by rw[hr,bO]) hw;have hm:=Lx h h6 hr;have hs:(g9 ns x v r).sum=fP ns r:=c;refine⟨by unfold g9;omega,fun y hy=>⟨b y hy,?_⟩,by omega,by omega,by omega⟩;have:=mU (l:=g9 ns x v r) b y hy;omega
theorem xe {c:List Int}(h:mH c 720 0):iT 0 (dQ 720 0 c) c (gh c)/\(gh c).length=c.length/\(gh c).sum=720/\∀ x∈gh c,0<=x/\x<=720:=by
 obtain⟨s,hs⟩:=NT 0 (dQ 720 0 c) (c:=c) (by have:=h.1;omega);have e:gh c=s:=(xH hs).symm;rw[e];have h1:=Pe (by have:=h.1;omega) hs;have h2:=Pf (fun x hx=>(h.2.1 x hx).1) (by have:=h.1;omega) (by unfold dQ;omega) hs;refine⟨hs,h1.1,h1.2,fun x hx=>⟨h2 x hx,?_⟩⟩;have:=mU h2 x hx;omega
theorem xf {a b:List Int}(h:a.length=b.length):(fg a b).length=a.length:=by simp [fg,h]
theorem Ly {a b:List Int}{m n:Int}(ha:∀ x∈a,0<=x/\x<=m)(hb:∀ x∈b,0<=x/\x<=n):∀ x∈fg a b,0<=x/\x<=m+n:=fun x hx=>by
 obtain⟨i,hi⟩:=List.getElem?_of_mem hx;unfold fg at hi;rw[List.getElem?_zipWith]at hi;cases h1:a[i]? with
 | none=>rw[h1]at hi;simp at hi
 | some y =>
  cases h2:b[i]? with
  | none=>rw[h1,h2]at hi;simp at hi
  | some z =>
   rw[h1,h2]at hi;simp only[Option.some.injEq]at hi;have:=ha y (List.mem_of_getElem? h1);have:=hb z (List.mem_of_getElem? h2);omega
theorem xg {g:Int}{ns:List NodeP}(h:NetOk g ns)(h6:ns.length<=6){v:Nat}{x:NodeP}(hx:ns[v]?=some x)(xs:List (List Int))(hr:∀ r∈xs,r.length=ns.length):
  ((eE ns x v xs).length:Int)=x.rows.length*x.card/\∀ y∈eE ns x v xs,0<=y/\y<=720*xs.length:=by
 have hc:=(h.node x (List.mem_of_getElem? hx)).1;have key:∀ k,k<=xs.length->((eE ns x v (xs.take k)).length:Int)=x.rows.length*x.card/\∀ y∈eE ns x v (xs.take k),0<=y/\y<=720*k:=by
  intro k
  induction k with
  | zero =>
   intro _;refine⟨?_,fun y hy=>?_⟩
   ·show ((List.replicate (x.rows.length*x.card.toNat) (0:Int)).length:Int)=_;rw[List.length_replicate,Int.natCast_mul,Int.toNat_of_nonneg (by omega)]
   ·have hy':y∈List.replicate (x.rows.length*x.card.toNat) (0:Int):=hy;rw[List.eq_of_mem_replicate hy'];simp
  | succ k ih =>
   intro hk;obtain⟨r,hrk⟩:=get_of_lt (l:=xs) (i:=k) (by omega);have hrl:=hr r (List.mem_of_getElem? hrk);obtain⟨h1,h2⟩:=ih (by omega);have hp:=xd h h6 hx hrl;obtain⟨_,h4,_,h5⟩:=xe hp;obtain⟨a,_,_⟩:=oH h hx (cZ (ar ns) r) fun w hw=>oF (gf h) (by rw[hrl,bO]) hw;have a':((g9 ns x v r).length:Int)=x.rows.length*x.card:=a;rw[aL hrk,xc];refine⟨by rw[xf (by omega)];exact h1,fun y hy=>?_⟩;have:=Ly h2 h5 y hy;omega
 have:=key xs.length (Nat.le_refl _);rw[List.take_length]at this;exact this
theorem Bo:∀ {r vs:List Int},vs.length=r.length->(gG r vs=true↔∀ (k:Nat) (x y:Int),r[k]?=some x->vs[k]?=some y->x<0\/x=y):=by
 intro r
 induction r with
 | nil=>intro vs _;exact⟨fun _ k x y h=>by simp at h,fun _=>rfl⟩
 | cons a r ih =>
  intro vs hl;cases vs with
  | nil=>simp at hl
  | cons b vs =>
   show ((decide (a<0) || decide (a=b)) && gG r vs)=true↔_;rw[Bool.and_eq_true,ih (by simpa using hl),Bool.or_eq_true,decide_eq_true_iff,decide_eq_true_iff];constructor
   ·rintro⟨h1,h2⟩ k x y hx hy;cases k with
    | zero =>
     simp only[List.getElem?_cons_zero,Option.some.injEq]at hx hy;rw[<- hx,<- hy];exact h1
    | succ k=>exact h2 k x y (by simpa using hx) (by simpa using hy)
   ·intro hh;exact⟨hh 0 a b rfl rfl,fun k x y hx hy=>hh (k+1) x y (by simpa using hx) (by simpa using hy)⟩
theorem Bp (r vs:List Int)(hl:vs.length=r.length)(h64:vs.length<=64)(H:AHeap)(K:ARes->AHeap->Prop)(hK:K (.ret (.lit (.bool (gG r vs)))) H):af Try.prog G0 71 [ae vs,ae r] H K:=by
 refine af.bf (n:=28) (rs:=[.tmp 4]) Try.func71 rfl rfl rfl (by decide) (by kernel_rfl) (by simp) ?_;simp only[go_sem];refine W.aI 268435440 (by rfl) (fun ρ H'=>H'=H/\∃ k:Nat,ρ 5=aa k/\k<=vs.length/\∀ j,j<k->∀ x y,r[j]?=some x->vs[j]?=some y->x<0\/x=y) (fun ρ H=>vs.length - (iv (ρ 5)).toNat) ?_ ?_
 ·simp only[go_sem];exact⟨0,rfl,by omega,fun j h=>absurd h (Nat.not_lt_zero _)⟩
 rintro ρ H' ⟨hHx,k,h5,hk,hall⟩;rw[hHx];refine ab _ _ _ (by rfl) ?_;by_cases hb:(k:Int)<vs.length
 ·obtain⟨y,hy⟩:=get_of_lt (l:=vs) (i:=k) (by omega);obtain⟨x,hx⟩:=get_of_lt (l:=r) (i:=k) (by omega);have hyn:=aJ hy;have hxn:=aJ hx;have hrb:(k:Int)<r.length:=by omega
  have w1:=IntWalk.i64_in ((k:Int)+1) (by omega);have nx:(x<0\/x=y)->∀ j,j<k+1->∀ x y,r[j]?=some x->vs[j]?=some y->x<0\/x=y:=fun hh j hj x' y' h1 h2=>by
   rcases Nat.lt_or_ge j k with h|h
   ·exact hall j h x' y' h1 h2
   ·obtain rfl:j=k:=(by omega);rw[hx]at h1;rw[hy]at h2;cases h1;cases h2;exact hh
  by_cases x0:x<0
  ·have x0':¬ x >= 0:=(by omega);simp only[go_sem,h5,hb];refine W.draw 14 [0,0,3,7,15,31,63,63,255,511,63,63,3135,7231] Try.mixed (by kernel_rfl) (by kernel_rfl) ?_;simp only[go_sem,h5,hx,hxn,hrb,x0',w1];exact⟨⟨k+1,rfl,by omega,nx (.inl x0)⟩,by omega⟩
  have x0':x >= 0:=by omega
  by_cases xy:x=y
  ·have y0:0<=y:=(by omega);simp only[go_sem,h5,hb];refine W.draw 14 [0,0,3,7,15,31,63,63,255,511,63,63,3135,7231] Try.mixed (by kernel_rfl) (by kernel_rfl) ?_;simp only[go_sem,h5,hb,hx,hxn,hy,hyn,hrb,xy,y0,w1];exact⟨⟨k+1,rfl,by omega,nx (.inr xy)⟩,by omega⟩
  ·have hm:gG r vs=false:=by
    rw[<- Bool.not_eq_true,Bo hl];exact fun hh=>(hh k x y hx hy).elim x0 xy
   rw[hm]at hK;simp only[go_sem,h5,hb];refine W.draw 14 [0,0,3,7,15,31,63,63,255,511,63,63,3135,7231] Try.mixed (by kernel_rfl) (by kernel_rfl) ?_;simp only[go_sem,h5,hb,hx,hxn,hy,hyn,hrb,x0',xy];exact av.mk (Nat.le_refl _) hK
 ·simp only[go_sem,h5,hb];have hm:gG r vs=true:=(Bo hl).2 fun j x y hx hy=>hall j (by have:=get_lt hy;omega) x y hx hy;rw[hm]at hK;exact av.mk (Nat.le_refl _) hK
def dO (ns:List NodeP)(r:List Int)(k:Nat):List (List Int):=((List.range k).map fun (i:Nat)=>cD (ar ns) i).filter (gG r)
theorem Bq (ns:List NodeP)(r:List Int)(k:Nat):dO ns r (k+1)=if gG r (cD (ar ns) k)=true then dO ns r k++[cD (ar ns) k] else dO ns r k:=by
 unfold dO;rw[List.range_succ,List.map_append,List.filter_append];simp only[List.map_cons,List.map_nil,List.filter_cons,List.filter_nil];split<;>simp
theorem Br {g:Int}{ns:List NodeP}(h:NetOk g ns){r:List Int}(hr:r.length=ns.length):dO ns r (ik ns)=cZ (ar ns) r:=by
 rw[tq (by rw[hr,bO]),tp (gf h)];rfl
theorem Bs {g:Int}{ns:List NodeP}(h:NetOk g ns)(r:List Int)(k:Nat):∀ w∈dO ns r k,cE (ar ns) w:=fun w hw=>by
 obtain⟨i,_,rfl⟩:=List.mem_map.1 (List.mem_filter.1 hw).1;exact tM (gf h) _
theorem LB (ns:List NodeP)(r:List Int)(k:Nat):(dO ns r k).length<=k:=by
 unfold dO;refine Nat.le_trans (List.length_filter_le _ _) ?_;simp
theorem xh {g:Int}{ns:List NodeP}(h:NetOk g ns)(r:List Int){k:Nat}(hk:k<=1025):0<=((dO ns r k).map (weight ns)).sum/\((dO ns r k).map (weight ns)).sum<=172160640000000000:=by
 have h1:=Bi (l:=(dO ns r k).map (weight ns)) (b:=167961600000000) fun x hx=>by
  obtain⟨w,hw,rfl⟩:=List.mem_map.1 hx;exact tw h (Bs h r k w hw)
 have h2:=LB ns r k;rw[List.length_map]at h1;omega
set_option maxHeartbeats 1000000 in
theorem LC (g:Int)(ns:List NodeP)(h:NetOk g ns)(r:List Int)(hr:r.length=ns.length)(H:AHeap)(K:ARes->AHeap->Prop)(hK:K (.ret (aa (fP ns r))) H):af Try.prog G0 45 [aY g ns,ae r] H K:=by
 refine af.clo ⟨_,Try.func45,rfl,rfl⟩ fun hcl=>?_;have n8:=h.n1;have hc4:∀ y∈ns,1<=y.card/\y.card<=4:=fun y hy=>(h.node y hy).1;have hsz:=h.size;have hp:=iR (gf h);have hw:((ik ns:Nat):Int)=au (ar ns):=by unfold ik;omega
 refine af.bf (n:=24) (rs:=[.tmp 4]) Try.func45 rfl rfl rfl (by decide) (by kernel_rfl) (by simp) ?_;simp only[go_sem,aY,cH];obtain⟨H1,hH1⟩:∃ H1,H1=ext H [.arr 0 35 [.lit (.int .i64 g),.vec ns.length (az ns)]]:=⟨_,rfl⟩
 have l1:H1.live H.next 0=some (35,[.lit (.int .i64 g),.vec ns.length (az ns)]):=by rw[hH1];exact ak (cS ..)
 have o1:Over H H1:=by rw[hH1];exact .ext _ _
 rw[<- hH1];refine W.aI 8388576 (by rfl) (fun ρ H'=>H'=H1/\∃ k:Nat,ρ 6=aa k/\k<=ik ns/\ρ 5=aa ((dO ns r k).map (weight ns)).sum) (fun ρ H=>ik ns - (iv (ρ 6)).toNat) ?_ ?_
 ·simp only[go_sem];exact⟨0,rfl,by omega,rfl⟩
 rintro ρ H' ⟨hHx,k,h6,hk,h5⟩;rw[hHx];refine W.env fun E hE=>?_;have e1:E 1=ae r:=by rw[hE];simp only[go_sem]
 have e2:E 2=.ptr H.next 0 0:=by rw[hE];simp only[go_sem]
 have e5:E 5=aa ((dO ns r k).map (weight ns)).sum:=by rw[hE];simp only[go_sem,h5]
 have e6:E 6=aa k:=by rw[hE];simp only[go_sem,h6]
 clear hE;have s1:=xh h r (k:=k+1) (by omega);have s0:=xh h r (k:=k) (by omega);have ms:=Bq ns r k;refine ab _ _ _ (by rfl) ?_;simp only[go_sem,e2,e6,l1];refine aw.clo (xX g ns n8.2 hc4 _ _ ⟨trivial,?_⟩);rw[<- hw];by_cases hb:(k:Int)<ik ns;rotate_left
 ·have ek:k=ik ns:=by omega
  simp only[go_sem,e5,hb];rw[ek,Br h hr];exact av.bI aP hcl o1 (.lit _) hK
 simp only[go_sem,e2,e6,l1,hb];refine aw.clo (xW g ns n8.2 hc4 k (by omega) _ _ ⟨trivial,?_⟩);simp only[go_sem,e1];obtain⟨vals,hvals⟩:∃ vals,vals=cD (ar ns) (k:Int):=⟨_,rfl⟩
 have hvl:vals.length=r.length:=by rw[hvals,kB,bO,hr]
 have w1:=IntWalk.i64_in ((k:Int)+1) (by omega);rw[<- hvals]at ms ⊢;refine aw.clo (Bp r vals hvl (by omega) _ _ ⟨trivial,?_⟩);cases hm:gG r vals
 ·simp only[go_sem,e5,e6,w1];rw[hm,if_neg (by decide)]at ms;exact⟨⟨k+1,rfl,by omega,by rw[ms]⟩,by rw[h6];simp only[aa,aK];omega⟩
 ·rw[hm,if_pos rfl]at ms;have es:((dO ns r (k+1)).map (weight ns)).sum=((dO ns r k).map (weight ns)).sum+weight ns vals:=by rw[ms];simp
  rw[es]at s1;have w2:=IntWalk.i64_in (((dO ns r k).map (weight ns)).sum+weight ns vals) (by omega);simp only[go_sem,e2,e5,e6,l1];refine aw.clo (CI g ns h k (by omega) _ _ ⟨trivial,?_⟩);rw[<- hvals];simp only[go_sem,e5,e6,w1,w2];exact⟨⟨k+1,rfl,by omega,by rw[es]⟩,by rw[h6];simp only[aa,aK];omega⟩
set_option maxHeartbeats 4000000 in
theorem LD (g:Int)(ns:List NodeP)(h:NetOk g ns)(r:List Int)(hr:r.length=ns.length)(v:Nat)(x:NodeP)(hx:ns[v]?=some x)(H:AHeap)(K:ARes->AHeap->Prop)(hK:K (.ret (ae (g9 ns x v r))) H):
  af Try.prog G0 47 [aY g ns,ae r,aa v] H K:=by
 refine af.clo ⟨_,Try.func47,rfl,rfl⟩ fun hcl=>?_;have n8:=h.n1;have hc4:∀ y∈ns,1<=y.card/\y.card<=4:=fun y hy=>(h.node y hy).1;have hsz:=h.size;have hp:=iR (gf h);have hw:((ik ns:Nat):Int)=au (ar ns):=by unfold ik;omega
 have hxm:=List.mem_of_getElem? hx;have hxc:=(h.node x hxm).1;have hrc:=qv h hx;have hvn:(v:Int)<ns.length:=by have:=get_lt hx;omega
 have hne:=eS hx;have h0:=js hx;have h1:=lH hx;have h2:=oT hx;have wL:=IntWalk.i64_in ((x.rows.length:Int)*x.card) (by omega);obtain⟨L,hL⟩:∃ L:Nat,(x.rows.length:Int)*x.card=L:=⟨((x.rows.length:Int)*x.card).toNat,by omega⟩
 have hLn:x.rows.length*x.card.toNat=L:=by
  have:((x.rows.length*x.card.toNat:Nat):Int)=x.rows.length*x.card:=by rw[Int.natCast_mul,Int.toNat_of_nonneg (by omega)]
  omega
 rw[hL]at wL hrc;have hbL:(L:Int)*8<=2 ^ 46/\(L:Int)<=2 ^ 46:=by omega
 have hin:gp x.parents ns.length:=fun q hq=>by have:=(h.node x hxm).2.2 q hq;omega
 have sm:=pf n8.2 (h.node x hxm).2 fun y hy=>(h.node y hy).1;have pl:(aR ns x).length=x.parents.length:=gO _ _;have p12:=sm.1;refine af.bf (n:=77) (rs:=[.tmp 6]) Try.func47 rfl rfl rfl (by decide) (by kernel_rfl) (by simp) ?_;simp only[go_sem,aY,cH];refine W.draw 13 [0,1,0,7,15,31,63,0,128,0,896,1920,3968] Try.mixed (by kernel_rfl) (by kernel_rfl) ?_;simp only[go_sem,hvn,hne,h0,h2,aC,hL,wL,hbL];obtain⟨H1,hH1⟩:∃ H1,H1=ext H [.arr 0 35 [aa g,.vec ns.length (az ns)],.arr 0 3 (List.replicate L (aa 0))]:=⟨_,rfl⟩
 have n1:H1.next=H.next+2:=by rw[hH1];rfl
 have o1:Over H H1:=by rw[hH1];exact .ext _ _
 have g0:H1.get H.next=some (.arr 0 35 [aa g,.vec ns.length (az ns)]):=by rw[hH1];exact cS ..
 have hz:List.replicate L (aa 0)=ints (List.replicate L 0):=by simp [ints,aa]
 have g1:H1.get (H.next+1)=some (.arr 0 3 (ints (eD ns x v (dO ns r 0)))):=by
  rw[hH1,bG H _ 1 (by simp)];show some (Blk.arr 0 _ (List.replicate L (aa 0)))=some (.arr 0 _ (ints (List.replicate (x.rows.length*x.card.toNat) 0)));rw[hz,hLn]
 refine W.env fun E hE=>?_;have e1:E 1=ae r:=by rw[hE];simp only[go_sem]
 have e2:E 2=aa v:=by rw[hE];simp only[go_sem]
 have e3:E 3=.ptr H.next 0 0:=by rw[hE];simp only[go_sem]
 have e7:E 7=.own (H.next+1) 0 0 L 1:=by rw[hE];simp only[go_sem]
 have e8:E 8=aa 0:=by rw[hE];simp only[go_sem]
 clear hE;show W _ _ _ _ _ _ ⟨E,ext H [.arr 0 35 [aa g,.vec ns.length (az ns)],.arr 0 3 (List.replicate L (aa 0))]⟩;rw[<- hH1];refine W.aI 75557863725914189205248 (by rfl) (fun ρ H'=>∃ k:Nat,ρ 8=aa k/\k<=ik ns/\H1.next<=H'.next/\(∀ id,id<H1.next->id≠H.next+1->H'.get id=H1.get id)/\H'.get (H.next+1)=some (.arr 0 3 (ints (eD ns x v (dO ns r k))))) (fun ρ H=>ik ns - (iv (ρ 8)).toNat) ?_ ?_
 ·exact⟨0,e8,by omega,Nat.le_refl _,fun _ _ _=>rfl,g1⟩
 rintro ρ H' ⟨k,h8,hk,hn,hko,hg⟩;obtain⟨pa,pb,pc⟩:=oH h hx (dO ns r k) (Bs h r k);obtain⟨Pl,hPl⟩:∃ Pl,Pl=eD ns x v (dO ns r k):=⟨_,rfl⟩
 rw[<- hPl]at pa pb pc hg;rw[hL]at pa;have hpl2:Pl.length=L:=by omega
 have l0:=ak ((hko H.next (by omega) (by omega)).trans g0);have lP:=ak hg;refine W.env fun E1 hE1=>?_;have f1:E1 1=ae r:=by rw[hE1];simp only[go_sem,e1]
 have f2:E1 2=aa v:=by rw[hE1];simp only[go_sem,e2]
 have f3:E1 3=.ptr H.next 0 0:=by rw[hE1];simp only[go_sem,e3]
 have f7:E1 7=.own (H.next+1) 0 0 L 1:=by rw[hE1];simp only[go_sem,e7]
 have f8:E1 8=aa k:=by rw[hE1];simp only[go_sem,h8]
 clear hE1;have w1:=IntWalk.i64_in ((k:Int)+1) (by omega);have ms:=Bq ns r k;refine ab _ _ _ (by rfl) ?_;simp only[go_sem,f3,f8,l0];refine aw.clo (xX g ns n8.2 hc4 _ _ ⟨trivial,?_⟩);rw[<- hw];by_cases hb:(k:Int)<ik ns;rotate_left
 ·have ek:k=ik ns:=by omega
  simp only[go_sem,f7,hb];have eR:g9 ns x v r=Pl:=by rw[hPl,ek,Br h hr];rfl
  rw[eR]at hK;exact av.bI (v':=ae Pl) aP hcl ⟨by omega,fun id hi=>(hko id (by omega) (by omega)).trans (o1.old id hi)⟩ (Fz.ints (by omega) hg hpl2.symm fun j hj=>by rw[Nat.zero_add,fa];simp only[List.getElem?_eq_getElem hj,Option.map_some]) hK
 simp only[go_sem,f3,f8,l0,hb];refine aw.clo (xW g ns n8.2 hc4 k (by omega) _ _ ⟨trivial,?_⟩);simp only[go_sem,f1];obtain⟨vals,hvals⟩:∃ vals,vals=cD (ar ns) (k:Int):=⟨_,rfl⟩
 have hfit:cE (ar ns) vals:=by rw[hvals];exact tM (gf h) _
 have hvl:vals.length=r.length:=by rw[hvals,kB,bO,hr]
 have hvl2:vals.length=ns.length:=by rw[hvl,hr]
 rw[<- hvals]at ms ⊢;refine aw.clo (Bp r vals hvl (by omega) _ _ ⟨trivial,?_⟩);cases hm:gG r vals
 ·simp only[go_sem,f8,w1];rw[hm,if_neg (by decide)]at ms;exact⟨by omega,⟨k+1,rfl,by omega,hn,hko,by rw[ms,<- hPl];exact hg⟩,by rw[h8];simp only[aa,aK];omega⟩
 rw[hm,if_pos rfl]at ms;have hfp:=o9 hin hfit;have hin':∀ q∈x.parents,0<=q/\q<(vals.length:Int):=fun q hq=>by rw[hvl2];exact hin q hq
 obtain⟨a,ha⟩:=get_of_lt (l:=vals) (i:=v) (by omega);have han:=aJ ha;have hac:=hfit.2 v x.card a (cI hx) ha;have hpr:=w9 h hx hfit;have hpe:iL ns x v vals=dp (aR ns x) (aS vals x.parents)*x.card+a:=by unfold iL;rw[bE ha]
 obtain⟨z,hz2⟩:∃ z:Nat,iL ns x v vals=z:=⟨(iL ns x v vals).toNat,by omega⟩
 rw[hL,hz2]at hpr;rw[hz2]at hpe;have hPs:eD ns x v (dO ns r (k+1))=Pl.set z (Pl.getD z 0+weight ns vals):=by
  rw[ms,Bn,<- hPl];unfold jT kx;rw[hz2,Int.toNat_natCast]
 obtain⟨e0,he0⟩:=get_of_lt (l:=Pl) (i:=z) (by omega);rw[bE he0]at hPs;have he1:=pb e0 (List.mem_of_getElem? he0);have he2:=mU pb e0 (List.mem_of_getElem? he0);have s1:=xh h r (k:=k+1) (by omega);have es:((dO ns r (k+1)).map (weight ns)).sum=((dO ns r k).map (weight ns)).sum+weight ns vals:=by rw[ms];simp
 rw[es]at s1;have hwr:=tw h hfit;have hir:=mL hfp;have hip:=sm.prod;have m0:0<=dp (aR ns x) (aS vals x.parents)*x.card:=Int.mul_nonneg hir.1 (by omega);have w2:=IntWalk.i64_in (dp (aR ns x) (aS vals x.parents)*x.card) (by omega);have w3:=IntWalk.i64_in (z:Int) (by omega);have w4:=IntWalk.i64_in (e0+weight ns vals) (by omega);have hzL:(z:Int)<L:=by omega
 have hvw:(v:Int)<vals.length:=by omega
 simp only[go_sem];refine W.draw 10 [0,0,3,0,0,16,0,112,240,496] Try.mixed (by kernel_rfl) (by kernel_rfl) ?_;simp only[go_sem,f2,f3,l0];refine⟨ae (aR ns x),[],dI.pure (fun H2=>x7 g ns v x hx (by omega) (by omega) hin H2 _ ⟨rfl,rfl⟩),?_⟩;simp only[go_sem,f2,f3,hvn,hne,h1];refine aw.clo (x6 vals x.parents (by omega) (by omega) hin' _ _ ⟨trivial,?_⟩);simp only[go_sem,f2];refine aw.clo (CJ (aR ns x) (aS vals x.parents) sm hfp _ _ ⟨trivial,?_⟩);simp only[go_sem];refine W.draw 12 [0,0,2,0,14,30,62,127,0,0,768,1792] Try.mixed (by kernel_rfl) (by kernel_rfl) ?_;simp only[go_sem,f2,f3,l0,hvn,hne,h0,ha,han,hvw,<- hpe,w2,w3];refine W.draw 10 [0,0,0,0,12,28,0,0,192,508] Try.mixed (by kernel_rfl) (by kernel_rfl) ?_;simp only[go_sem,f3,f7,f8,l0,lP,he0,hzL];refine⟨aa (weight ns vals),[],dI.pure (fun H2=>CI g ns h k (by omega) H2 _ ⟨by rw[<- hvals],rfl⟩),?_⟩;simp only[go_sem,f3,f7,f8,lP,hpl2,hzL,w1,w4];refine⟨by omega,by rw[aA];omega,⟨k+1,rfl,by omega,by rw[aA];omega,fun id h1 h2=>by rw[ag,if_neg h2];exact hko id h1 h2,?_⟩,by rw[h8];simp only[aa,aK];omega⟩;rw[ag,if_pos rfl,dF (by omega),hPs]
set_option maxHeartbeats 1000000 in
theorem Mz (cs:List Int)(xs:List (List Int))(hf:kz cs xs)(H:AHeap)(K:ARes -> AHeap -> Prop)(hK:K (.ret (aa (if iQ cs xs then 0 else 250))) H):af Try.prog G0 62 [cB cs xs] H K := by
  refine af.clo ⟨_, Try.func62, rfl, rfl⟩ fun hcl => ?_;have no:¬ DataOk cs xs -> ∀ H', Over H H' -> av Try.prog G0 H K (aa 250) H' := fun h H' ov => av.bI aP hcl ov (.lit _) (by rw[BH h]at hK; exact hK);obtain⟨f1, f2, f3⟩ := hf;refine af.bf (n := 80) (rs := [.tmp 2]) Try.func62 rfl rfl rfl (by decide) (by kernel_rfl) (by simp) ?_;simp only[go_sem, cB, aC, bR];obtain⟨H1, hH1⟩:∃ H1, H1 = ext H [.arr 0 42 [.vec cs.length (ints cs), .vec xs.length (xs.map ae)]] := ⟨_, rfl⟩
  have l1:H1.live H.next 0 = some (42, [.vec cs.length (ints cs), .vec xs.length (xs.map ae)]) := by rw[hH1]; exact ak (cS ..)
  have o1:Over H H1 := by rw[hH1]; exact .ext _ _
  rw[<- hH1];by_cases c1:(cs.length:Int) < 1
  · simp only[go_sem, l1, c1, dW, bR];exact no (fun h => by have := h.c1; omega) _ o1
  by_cases c2:(cs.length:Int) > 6
  · simp only[go_sem, l1, c1, c2, dW, bR];exact no (fun h => by have := h.c1; omega) _ o1
  by_cases c3:(xs.length:Int) > 40
  · simp only[go_sem, l1, c1, c2, c3, dW, bR];exact no (fun h => by have := h.x1; omega) _ o1
  simp only[go_sem, l1, c1, c2, c3, dW, bR];refine W.aI 17591112302636 (by rfl) (fun ρ H' => H' = H1 /\ ∃ k:Nat, ρ 30 = aa k /\ k <= cs.length /\ (∀ c ∈ cs.take k, 2 <= c /\ c <= 4) /\ ρ 3 = aa (au (cs.take k))) (fun ρ H => cs.length - (iv (ρ 30)).toNat) ?_ ?_
  · simp only[go_sem, bR];exact⟨0, rfl, by omega, by simp, by simp [fj]⟩
  rintro ρ H' ⟨rfl, k, h30, hk, hall, h3⟩;refine ab _ _ _ (by rfl) ?_;by_cases hb:(k:Int) < cs.length
  · obtain⟨c, hc⟩ := get_of_lt (l := cs) (i := k) (by omega);have hne := aJ hc;have hcm := List.mem_of_getElem? hc;by_cases d1:c < 2
    · simp only[go_sem, h30, hb, hne, hc, d1, dW, bR];exact no (fun h => by have := h.card c hcm; omega) _ o1
    by_cases d2:c > 4
    · simp only[go_sem, h30, hb, hne, hc, d1, d2, dW, bR];exact no (fun h => by have := h.card c hcm; omega) _ o1
    have hall':∀ y ∈ cs.take (k + 1), 2 <= y /\ y <= 4 := fun y hy => by
      rw[aL hc]at hy;rcases List.mem_append.1 hy with hy | hy
      · exact hall y hy
      · obtain rfl := List.mem_singleton.1 hy; omega
    have b1 := BI hall' (by simp; omega);rw[aL hc, fR]at b1;have w1 := IntWalk.i64_in ((k:Int) + 1) (by omega);have w2 := IntWalk.i64_in (au (cs.take k) * c) (by omega);simp only[go_sem, h30, h3, hb, hne, hc, d1, d2, w1, w2, dW, bR];exact⟨⟨k + 1, rfl, by omega, hall', by rw[aL hc, fR]⟩, by omega⟩
  rw[List.take_of_length_le (by omega)]at hall h3;by_cases c4:au cs > 1024
  · simp only[go_sem, h30, h3, hb, c4, bR];exact no (fun h => by have := h.size; omega) _ o1
  simp only[go_sem, h30, h3, hb, c4, l1, bR];refine W.aI 604462909244364633933632 (by rfl) (fun ρ Ha => Ha = H' /\ ∃ k:Nat, ρ 49 = aa k /\ k <= xs.length /\ (∀ r ∈ xs.take k, qC cs r) /\ ρ 6 = aa 0) (fun ρ H => xs.length - (iv (ρ 49)).toNat) ?_ ?_
  · simp only[go_sem, bR];exact⟨0, rfl, by omega, by simp⟩
  rintro ρ' Ha ⟨rfl, i, h49, hi, hrows, h6⟩;refine ab _ _ _ (by rfl) ?_;by_cases hb2:(i:Int) < xs.length;rotate_left
  · simp only[go_sem, h49, h6, hb2, bR];rw[List.take_of_length_le (by omega)]at hrows;rw[BG ⟨by omega, by omega, hall, by omega, hrows⟩]at hK;exact av.bI aP hcl o1 (.lit _) hK
  obtain⟨r, hr⟩ := get_of_lt (l := xs) (i := i) (by omega);have hrm := List.mem_of_getElem? hr;have hr' := lu hr;have hrn := aJ hr';by_cases hl:(r.length:Int) = cs.length;rotate_left
  · simp only[go_sem, h49, hb2, hr', hrn, l1, hl, bR];exact no (fun h => hl (by have := (h.row r hrm).1; omega)) _ o1
  simp only[go_sem, h49, h6, hb2, hr', hrn, l1, hl, bR];refine W.aI 302229149060648079984192 (by rfl) (fun ρ2 Hb => Hb = Ha /\ ∃ j:Nat, ρ2 61 = aa j /\ j <= r.length /\ (∀ (v:Nat) (c x:Int), v < j -> cs[v]? = some c -> r[v]? = some x -> -1 <= x /\ x < c) /\ ρ2 6 = aa 0) (fun ρ2 H => r.length - (iv (ρ2 61)).toNat) ?_ ?_
  · simp only[go_sem, h6, bR];exact⟨0, rfl, by omega, fun v _ _ h => by omega⟩
  rintro ρ2 Hb ⟨rfl, j, h61, hj, hin, h6'⟩;refine ab _ _ _ (by rfl) ?_;have w1 := IntWalk.i64_in ((i:Int) + 1) (by omega);by_cases hb3:(j:Int) < cs.length
  · obtain⟨x, hx⟩ := get_of_lt (l := r) (i := j) (by omega);obtain⟨c, hc⟩ := get_of_lt (l := cs) (i := j) (by omega);have hxn := aJ hx;have hcn := aJ hc;by_cases d1:x < -1
    · simp only[go_sem, h61, hb3, hl, hx, hxn, d1, dW, bR];exact no (fun h => by have := (h.row r hrm).2 j c x hc hx; omega) _ o1
    by_cases d2:x >= c
    · simp only[go_sem, h61, hb3, hl, hx, hxn, hc, hcn, l1, d1, d2, dW, bR];exact no (fun h => by have := (h.row r hrm).2 j c x hc hx; omega) _ o1
    have w2 := IntWalk.i64_in ((j:Int) + 1) (by omega);simp only[go_sem, h61, h6', hb3, hl, hx, hxn, hc, hcn, l1, d1, d2, w2, dW, bR];refine⟨⟨j + 1, rfl, by omega, fun v c' x' hv h1 h2 => ?_⟩, by omega⟩;rcases Nat.lt_or_ge v j with h | h
    · exact hin v c' x' h h1 h2
    · obtain rfl:v = j :=(by omega);rw[hc]at h1; rw[hx]at h2;cases h1; cases h2; omega
  · simp only[go_sem, h61, h6', h49, hb3, hl, w1, bR];refine⟨⟨i + 1, rfl, by omega, fun q hq => ?_⟩, by omega⟩;rw[aL hr]at hq;rcases List.mem_append.1 hq with hq | hq
    · exact hrows q hq
    · obtain rfl := List.mem_singleton.1 hq;exact .of (by omega) fun v c x hv => hin v c x (by omega)
set_option maxHeartbeats 1000000 in
theorem MA (cs:List Int)(xs:List (List Int))(hf:kz cs xs)(H:AHeap)(K:ARes -> AHeap -> Prop)(hK:K (.ret (.lit (.bool (iQ cs xs)))) H):af Try.prog G0 44 [cB cs xs] H K := by
  refine af.clo ⟨_, Try.func44, rfl, rfl⟩ fun hcl => ?_;have no:¬ DataOk cs xs -> ∀ H', Over H H' -> av Try.prog G0 H K (.lit (.bool false)) H' := fun h H' ov => av.bI aP hcl ov (.lit _) (by rw[BH h]at hK; exact hK);obtain⟨f1, f2, f3⟩ := hf;refine af.bf (n := 102) (rs := [.tmp 2]) Try.func44 rfl rfl rfl (by decide) (by kernel_rfl) (by simp) ?_;simp only[go_sem, cB, aC, bR];obtain⟨H1, hH1⟩:∃ H1, H1 = ext H [.arr 0 42 [.vec cs.length (ints cs), .vec xs.length (xs.map ae)]] := ⟨_, rfl⟩
  have l1:H1.live H.next 0 = some (42, [.vec cs.length (ints cs), .vec xs.length (xs.map ae)]) := by rw[hH1]; exact ak (cS ..)
  have o1:Over H H1 := by rw[hH1]; exact .ext _ _
  rw[<- hH1];by_cases c1:(cs.length:Int) < 1
  · simp only[go_sem, l1, c1, dW, bR];exact no (fun h => by have := h.c1; omega) _ o1
  by_cases c2:(cs.length:Int) > 6
  · simp only[go_sem, l1, c1, c2, dW, bR];exact no (fun h => by have := h.c1; omega) _ o1
  by_cases c3:(xs.length:Int) > 40
  · simp only[go_sem, l1, c1, c2, c3, dW, bR];exact no (fun h => by have := h.x1; omega) _ o1
  simp only[go_sem, l1, c1, c2, c3, dW, bR];refine W.aI 2251799805296668 (by rfl) (fun ρ H' => H' = H1 /\ ∃ k:Nat, ρ 4 = aa k /\ k <= cs.length /\ (∀ c ∈ cs.take k, 2 <= c /\ c <= 4) /\ ρ 3 = aa (au (cs.take k))) (fun ρ H => cs.length - (iv (ρ 4)).toNat) ?_ ?_
  · simp only[go_sem, bR];exact⟨0, rfl, by omega, by simp, by simp [fj]⟩
  rintro ρ H' ⟨rfl, k, h30, hk, hall, h3⟩;refine ab _ _ _ (by rfl) ?_;by_cases hb:(k:Int) < cs.length
  · obtain⟨c, hc⟩ := get_of_lt (l := cs) (i := k) (by omega);have hne := aJ hc;have hcm := List.mem_of_getElem? hc;by_cases d1:c < 2
    · simp only[go_sem, h30, hb, hne, hc, d1, l1, dW, bR];exact no (fun h => by have := h.card c hcm; omega) _ o1
    by_cases d2:c > 4
    · simp only[go_sem, h30, hb, hne, hc, d1, d2, l1, dW, bR];exact no (fun h => by have := h.card c hcm; omega) _ o1
    have hall':∀ y ∈ cs.take (k + 1), 2 <= y /\ y <= 4 := fun y hy => by
      rw[aL hc]at hy;rcases List.mem_append.1 hy with hy | hy
      · exact hall y hy
      · obtain rfl := List.mem_singleton.1 hy; omega
    have b1 := BI hall' (by simp; omega);rw[aL hc, fR]at b1;have w1 := IntWalk.i64_in ((k:Int) + 1) (by omega);have w2 := IntWalk.i64_in (au (cs.take k) * c) (by omega);simp only[go_sem, h30, h3, hb, hne, hc, d1, d2, w1, w2, l1, dW, bR];exact⟨⟨k + 1, rfl, by omega, hall', by rw[aL hc, fR]⟩, by omega⟩
  rw[List.take_of_length_le (by omega)]at hall h3;simp only[go_sem, h30, h3, hb, l1, bR];refine W.aI 1267650600228227149696889520228 (by rfl) (fun ρ' Ha => Ha = H' /\ ∃ k:Nat, ρ' 5 = aa k /\ k <= xs.length /\ ∀ r ∈ xs.take k, qC cs r) (fun ρ' H => xs.length - (iv (ρ' 5)).toNat) ?_ ?_
  · simp only[go_sem, bR];exact⟨0, rfl, by omega, by simp⟩
  rintro ρ' Ha ⟨rfl, i, h5, hi, hrows⟩;refine ab _ _ _ (by rfl) ?_;by_cases hb2:(i:Int) < xs.length;rotate_left
  · rw[List.take_of_length_le (by omega)]at hrows;by_cases c4:au cs <= 1024
    · simp only[go_sem, h5, h3, hb2, l1, c4, bR];rw[BG ⟨by omega, by omega, hall, by omega, hrows⟩]at hK;exact av.bI aP hcl o1 (.lit _) hK
    · simp only[go_sem, h5, h3, hb2, l1, c4, bR];exact no (fun h => by have := h.size; omega) _ o1
  obtain⟨r, hr⟩ := get_of_lt (l := xs) (i := i) (by omega);have hrm := List.mem_of_getElem? hr;have hr' := lu hr;have hrn := aJ hr';simp only[go_sem, h5, hb2, l1, bR];refine W.draw 9 [0, 1, 0, 7, 15, 31, 0, 64, 192] Try.mixed (by kernel_rfl) (by kernel_rfl) ?_;by_cases hl:(r.length:Int) = cs.length;rotate_left
  · simp only[go_sem, h5, hb2, hr', hrn, l1, hl, bR];exact no (fun h => hl (by have := (h.row r hrm).1; omega)) _ o1
  simp only[go_sem, h5, hb2, hr', hrn, l1, hl, bR];refine W.aI 1267650599933081496317350379588 (by rfl) (fun ρ2 Hb => Hb = Ha /\ ∃ j:Nat, ρ2 6 = aa j /\ j <= r.length /\ (∀ (v:Nat) (c x:Int), v < j -> cs[v]? = some c -> r[v]? = some x -> -1 <= x /\ x < c)) (fun ρ2 H => r.length - (iv (ρ2 6)).toNat) ?_ ?_
  · simp only[go_sem, bR];exact⟨0, rfl, by omega, fun v _ _ h => by omega⟩
  rintro ρ2 Hb ⟨rfl, j, h6, hj, hin⟩;refine ab _ _ _ (by rfl) ?_;have w1 := IntWalk.i64_in ((i:Int) + 1) (by omega);by_cases hb3:(j:Int) < cs.length
  · obtain⟨x, hx⟩ := get_of_lt (l := r) (i := j) (by omega);obtain⟨c, hc⟩ := get_of_lt (l := cs) (i := j) (by omega);have hxn := aJ hx;have hcn := aJ hc;simp only[go_sem, h6, hb3, l1, bR];refine W.draw 23 [0, 1, 0, 7, 15, 0, 63, 127, 255, 511, 1023, 2047, 1023, 8191, 16383, 1023, 65535, 131071, 1023, 263167, 1023, 1836031, 3933183] Try.mixed (by kernel_rfl) (by kernel_rfl) ?_;by_cases d1:x < -1
    · simp only[go_sem, h6, h5, hb2, hr', hrn, hb3, hl, hx, hxn, l1, d1, dW, bR];exact no (fun h => by have := (h.row r hrm).2 j c x hc hx; omega) _ o1
    by_cases d2:x >= c
    · simp only[go_sem, h6, h5, hb2, hr', hrn, hb3, hl, hx, hxn, hc, hcn, l1, d1, d2, dW, bR];exact no (fun h => by have := (h.row r hrm).2 j c x hc hx; omega) _ o1
    have w2 := IntWalk.i64_in ((j:Int) + 1) (by omega);simp only[go_sem, h6, h5, hb2, hr', hrn, hb3, hl, hx, hxn, hc, hcn, l1, d1, d2, w2, dW, bR];refine⟨⟨j + 1, rfl, by omega, fun v c' x' hv h1 h2 => ?_⟩, by omega⟩;rcases Nat.lt_or_ge v j with h | h
    · exact hin v c' x' h h1 h2
    · obtain rfl:v = j :=(by omega);rw[hc]at h1; rw[hx]at h2;cases h1; cases h2; omega
  · simp only[go_sem, h6, h5, hb3, hl, l1, w1, bR];refine⟨⟨i + 1, rfl, by omega, fun q hq => ?_⟩, by omega⟩;rw[aL hr]at hq;rcases List.mem_append.1 hq with hq | hq
    · exact hrows q hq
    · obtain rfl := List.mem_singleton.1 hq;exact .of (by omega) fun v c x hv => hin v c x (by omega)
theorem Ll (l:List Int)(v:Int)(hl:(l.length:Int)<2 ^ 62)(H:AHeap)(K:ARes->AHeap->Prop)(hK:∀ i:Int,(0<=i↔v∈l)->K (.ret (aa i)) H):af Try.prog G0 87 [ae l,aa v] H K:=by
 refine af.bf (n:=19) (rs:=[.tmp 4]) Try.func87 rfl rfl rfl (by decide) (by kernel_rfl) (by simp) ?_;simp only[go_sem];refine W.aI 524080 (by rfl) (fun ρ H'=>H'=H/\∃ k:Nat,ρ 8=aa k/\k<=l.length/\∀ j,j<k->∀ b,l[j]?=some b->b≠v) (fun ρ H=>l.length - (iv (ρ 8)).toNat) ?_ ?_
 ·simp only[go_sem];exact⟨0,rfl,by omega,fun j h=>absurd h (Nat.not_lt_zero _)⟩
 rintro ρ H' ⟨rfl,k,h8,hk,hno⟩;refine ab _ _ _ (by rfl) ?_;by_cases hb:(k:Int)<l.length
 ·obtain⟨b,hkb⟩:=get_of_lt (l:=l) (i:=k) (by omega);have hne:=aJ hkb;have w1:=IntWalk.i64_in ((k:Int)+1) (by omega);by_cases he:v=b
  ·subst he;simp only[go_sem,h8,hb,hkb,hne];exact av.mk (Nat.le_refl _) (hK k ⟨fun _=>List.mem_of_getElem? hkb,fun _=>by omega⟩)
  ·simp only[go_sem,h8,hb,hkb,hne,he,w1];exact⟨⟨k+1,by simp,by omega,fun j hj b' hb'=>by
    by_cases hjk:j=k
    ·subst hjk;rw[hkb]at hb';cases hb';exact fun h=>he h.symm
    ·exact hno j (by omega) b' hb'⟩,by omega⟩
 ·simp only[go_sem,h8,hb];refine av.mk (Nat.le_refl _) (hK (-1) ⟨fun h=>absurd h (by decide),fun hv=>?_⟩);obtain⟨j,hj⟩:=List.mem_iff_getElem?.1 hv;exact absurd rfl (hno j (by have:=get_lt hj;omega) v hj)
theorem Lm (l:List Int)(v:Int)(hl:(l.length:Int)<2 ^ 62)(H:AHeap)(K:ARes->AHeap->Prop)(hK:K (.ret (.lit (.bool (decide (v∈l))))) H):af Try.prog G0 69 [ae l,aa v] H K:=by
 refine af.bf (n:=9) (rs:=[.tmp 4]) Try.func69 rfl rfl rfl (by decide) (by kernel_rfl) (by simp) ?_;simp only[go_sem];refine aw.clo (Ll l v hl H _ fun i hi=>⟨trivial,?_⟩);by_cases h0:0<=i
 ·simp only[go_sem,h0];rw[decide_eq_true (hi.1 h0)]at hK;exact av.mk (Nat.le_refl _) hK
 ·simp only[go_sem,h0];rw[decide_eq_false fun h=>h0 (hi.2 h)]at hK;exact av.mk (Nat.le_refl _) hK
theorem Lo (l:List Int)(hl:(l.length:Int)<2 ^ 62)(H:AHeap)(K:ARes->AHeap->Prop)(hK:K (.ret (.lit (.bool (decide ((0:Int)∈l))))) H):af Try.prog G0 41 [ae l] H K:=by
 refine af.bf (n:=5) (rs:=[.tmp 2]) Try.func41 rfl rfl rfl (by decide) (by kernel_rfl) (by simp) ?_;simp only[go_sem];refine aw.clo (Lm l 0 hl H _ ⟨trivial,?_⟩);simp only[go_sem];exact av.mk (Nat.le_refl _) hK
def wZ (p:Int × List NodeP):List AVal:=[aa p.1,.vec p.2.length (az p.2)]
def ef (l:List (Int × List NodeP)):List AVal:=(l.map wZ).flatten
theorem tx (l:List (Int × List NodeP)):(ef l).length=l.length*2:=lG (f:=wZ) (fun _=>rfl) l
theorem Bk {l:List (Int × List NodeP)}{i:Nat}{p:Int × List NodeP}(h:l[i]?=some p):((ef l).drop (i*2)).take 2=[aa p.1,.vec p.2.length (az p.2)]:=oS (f:=wZ) (z:=2) (fun _=>rfl) l i p h
theorem Bm {l:List (Int × List NodeP)}{i:Nat}{p:Int × List NodeP}(h:l[i]?=some p):¬ ef l=[]:=fun e=>by
 have h1:=tx l;have h2:=get_lt h;rw[e,List.length_nil]at h1;omega
noncomputable def mA (l:List (Int × List NodeP))(cs:List Int)(xs:List (List Int)):Int:=if (∀ p∈l,gu p.1 p.2=true) then (if iQ cs xs=true then (if ∀ p∈l,ar p.2=cs then 0 else 261) else 250) else 50
set_option maxHeartbeats 2000000 in
theorem Lp (l:List (Int × List NodeP))(cs:List Int)(xs:List (List Int))(hn:∀ p∈l,jY p.2)(hf:kz cs xs)(hl4:l.length<=4)(H:AHeap)(K:ARes->AHeap->Prop)(hK:K (.ret (aa (mA l cs xs))) H):
  af Try.prog G0 40 [cB cs xs,.vec l.length (ef l)] H K:=by
 refine af.clo ⟨_,Try.func40,rfl,rfl⟩ fun hcl=>?_;refine af.bf (n:=61) (rs:=[.tmp 4]) Try.func40 rfl rfl rfl (by decide) (by kernel_rfl) (by simp) ?_;simp only[go_sem,cB,aC];obtain⟨H1,hH1⟩:∃ H1,H1=ext H [.arr 0 42 [.vec cs.length (ints cs),.vec xs.length (xs.map ae)]]:=⟨_,rfl⟩
 have n1:H1.next=H.next+1:=by rw[hH1];rfl
 have o1:Over H H1:=by rw[hH1];exact .ext _ _
 have g1:H1.get H.next=some (.arr 0 42 [.vec cs.length (ints cs),.vec xs.length (xs.map ae)]):=by rw[hH1];exact cP
 rw[<- hH1];refine W.env fun E hE=>?_;have e1:E 1=.vec l.length (ef l):=by rw[hE];simp only[go_sem]
 have e2:E 2=.ptr H.next 0 0:=by rw[hE];simp only[go_sem]
 have e13:E 13=.vec l.length (ef l):=by rw[hE];simp only[go_sem]
 have e14:E 14=aa l.length:=by rw[hE];simp only[go_sem]
 have e15:E 15=aa 0:=by rw[hE];simp only[go_sem]
 clear hE;refine W.aI 33521872 (by rfl) (fun ρ H'=>Over H1 H'/\∃ k:Nat,ρ 15=aa k/\k<=l.length/\∀ p∈l.take k,gu p.1 p.2=true) (fun ρ H=>l.length - (iv (ρ 15)).toNat) ?_ ?_
 ·exact⟨.refl _,0,e15,by omega,fun p h=>by simp at h⟩
 rintro ρ H' ⟨o2,k,h15,hk,hall⟩;have n2:=o2.next;refine W.env fun F hF=>?_;have f1:F 1=.vec l.length (ef l):=by rw[hF];simp only[go_sem,e1]
 have f2:F 2=.ptr H.next 0 0:=by rw[hF];simp only[go_sem,e2]
 have f13:F 13=.vec l.length (ef l):=by rw[hF];simp only[go_sem,e13]
 have f14:F 14=aa l.length:=by rw[hF];simp only[go_sem,e14]
 have f15:F 15=aa k:=by rw[hF];simp only[go_sem,h15]
 clear hF;by_cases hb:(k:Int)<l.length
 ·obtain⟨p,hp⟩:=get_of_lt (l:=l) (i:=k) (by omega);have hpm:=List.mem_of_getElem? hp;have hne:=Bm hp;have hpt:=Bk hp;have hbd:k*2+2<=(ef l).length:=by rw[tx];omega
  have w1:=IntWalk.i64_in ((k:Int)+1) (by omega);refine ab _ _ _ (by rfl) ?_;simp only[go_sem,f13,f14,f15,hb,hne,hpt,hbd];refine aw.clo (PS p.1 p.2 (hn p hpm) _ _ ⟨trivial,?_⟩);cases hN:gu p.1 p.2
  ·simp only[go_sem];unfold mA at hK;rw[if_neg fun hh=>by rw[hh p hpm]at hN;cases hN]at hK;exact av.bI aP hcl (o1.trans (o2.trans (.ext _ _))) (.lit _) hK
  ·simp only[go_sem,f15,w1];refine⟨by omega,⟨o2.trans (.ext _ _),k+1,rfl,by omega,fun q hq=>?_⟩,by rw[h15];simp only[aa,aK];omega⟩;rw[aL hp]at hq;rcases List.mem_append.1 hq with hq|hq
   ·exact hall q hq
   ·rw[List.mem_singleton.1 hq];exact hN
 rw[List.take_of_length_le (by omega)]at hall;have l1:=ak ((o2.old H.next (by omega)).trans g1);refine ab _ _ _ (by rfl) ?_;simp only[go_sem,f2,f14,f15,hb,l1];refine aw.clo (Mz cs xs hf _ _ ⟨trivial,?_⟩);unfold mA at hK;rw[if_pos hall]at hK;cases hD:iQ cs xs
 ·simp only[go_sem];rw[if_neg (by rw[hD];decide)]at hK;exact av.bI aP hcl (o1.trans o2) (.lit _) hK
 rw[if_pos hD]at hK;have no:∀ p,p∈l->ar p.2≠cs->∀ Hx,Over H Hx->av Try.prog G0 H K (aa 261) Hx:=fun p hp hne Hx ov=>by
  rw[if_neg fun hh=>hne (hh p hp)]at hK;exact av.bI aP hcl ov (.lit _) hK
 simp only[go_sem,f1];refine W.env fun E1 hE1=>?_;have k2:E1 2=.ptr H.next 0 0:=by rw[hE1];simp only[go_sem,f2]
 have k30:E1 30=.vec l.length (ef l):=by rw[hE1];simp only[go_sem]
 have k31:E1 31=aa l.length:=by rw[hE1];simp only[go_sem]
 have k32:E1 32=aa 0:=by rw[hE1];simp only[go_sem]
 clear hE1;refine W.aI 2305843004918733840 (by rfl) (fun ρ Hx=>Over H' Hx/\∃ k:Nat,ρ 32=aa k/\k<=l.length/\∀ p∈l.take k,ar p.2=cs) (fun ρ H=>l.length - (iv (ρ 32)).toNat) ?_ ?_
 ·exact⟨.refl _,0,k32,by omega,fun p h=>by simp at h⟩
 rintro ρ4 Hx ⟨o3,m,h32,hm,hcar⟩;have n3:=o3.next;refine W.env fun F2 hF2=>?_;have m2:F2 2=.ptr H.next 0 0:=by rw[hF2];simp only[go_sem,k2]
 have m30:F2 30=.vec l.length (ef l):=by rw[hF2];simp only[go_sem,k30]
 have m31:F2 31=aa l.length:=by rw[hF2];simp only[go_sem,k31]
 have m32:F2 32=aa m:=by rw[hF2];simp only[go_sem,h32]
 clear hF2;by_cases hb2:(m:Int)<l.length;rotate_left
 ·refine ab _ _ _ (by rfl) ?_;simp only[go_sem,m31,m32,hb2];rw[List.take_of_length_le (by omega)]at hcar;rw[if_pos hcar]at hK;exact av.bI aP hcl (o1.trans (o2.trans o3)) (.lit _) hK
 obtain⟨p,hp⟩:=get_of_lt (l:=l) (i:=m) (by omega);obtain⟨g,ns⟩:=p;have hpm:=List.mem_of_getElem? hp;have hok:=CP.1 (hall _ hpm);have n8:1<=ns.length/\ns.length<=8:=hok.n1;have hne:=Bm hp;have hpt:=Bk hp;have hbd:m*2+2<=(ef l).length:=by rw[tx];omega
 have w1:=IntWalk.i64_in ((m:Int)+1) (by omega);have lE:∀ L,(ext Hx L).live H.next 0=some (42,[.vec cs.length (ints cs),.vec xs.length (xs.map ae)]):=fun L=>ak ((cb _ _ _ (by omega)).trans ((o3.old H.next (by omega)).trans ((o2.old H.next (by omega)).trans g1)));by_cases hlen:(ns.length:Int)=cs.length;rotate_left
 ·refine ab _ _ _ (by rfl) ?_;simp only[go_sem,m2,m30,m31,m32,hb2,hne,hpt,hbd,lE,hlen];exact no _ hpm (fun hh=>hlen (by rw[<- hh];exact congrArg Int.ofNat (bO ns).symm)) _ ((o1.trans o2).trans (o3.trans (.ext _ _)))
 refine ab _ _ _ (by rfl) ?_;simp only[go_sem,m2,m30,m31,m32,hb2,hne,hpt,hbd,lE,hlen];obtain⟨Hy,hHy⟩:∃ Hy,Hy=ext Hx [.arr 0 35 [aa g,.vec ns.length (az ns)]]:=⟨_,rfl⟩
 have oy:Over Hx Hy:=by rw[hHy];exact .ext _ _
 have ny:Hy.next=Hx.next+1:=by rw[hHy];rfl
 refine W.env fun E3 hE3=>?_;have p2:E3 2=.ptr H.next 0 0:=by rw[hE3];simp only[go_sem,m2]
 have p30:E3 30=.vec l.length (ef l):=by rw[hE3];simp only[go_sem,m30]
 have p31:E3 31=aa l.length:=by rw[hE3];simp only[go_sem,m31]
 have p32:E3 32=aa m:=by rw[hE3];simp only[go_sem,m32]
 have p44:E3 44=.vec ns.length (az ns):=by rw[hE3];simp only[go_sem]
 have p45:E3 45=aa ns.length:=by rw[hE3];simp only[go_sem,hlen]
 have p46:E3 46=aa 0:=by rw[hE3];simp only[go_sem]
 clear hE3;show W _ _ _ _ _ _ ⟨E3,ext Hx [.arr 0 35 [aa g,.vec ns.length (az ns)]]⟩;rw[<- hHy];refine W.aI 1152851135862675472 (by rfl) (fun ρ Hz=>Over Hy Hz/\∃ v:Nat,ρ 46=aa v/\v<=ns.length/\(ar ns).take v=cs.take v) (fun ρ H=>ns.length - (iv (ρ 46)).toNat) ?_ ?_
 ·exact⟨.refl _,0,p46,by omega,rfl⟩
 rintro ρ5 Hz ⟨oz,v,h46,hv,he⟩;have nz:=oz.next;refine W.env fun E4 hE4=>?_;have q2:E4 2=.ptr H.next 0 0:=by rw[hE4];simp only[go_sem,p2]
 have q30:E4 30=.vec l.length (ef l):=by rw[hE4];simp only[go_sem,p30]
 have q31:E4 31=aa l.length:=by rw[hE4];simp only[go_sem,p31]
 have q32:E4 32=aa m:=by rw[hE4];simp only[go_sem,p32]
 have q44:E4 44=.vec ns.length (az ns):=by rw[hE4];simp only[go_sem,p44]
 have q45:E4 45=aa ns.length:=by rw[hE4];simp only[go_sem,p45]
 have q46:E4 46=aa v:=by rw[hE4];simp only[go_sem,h46]
 clear hE4;have cl:=bO ns;by_cases hb3:(v:Int)<ns.length;rotate_left
 ·refine ab _ _ _ (by rfl) ?_;simp only[go_sem,q32,q45,q46,hb3,w1];rw[List.take_of_length_le (by omega),List.take_of_length_le (by omega)]at he;refine⟨by omega,⟨o3.trans (oy.trans oz),m+1,rfl,by omega,fun q hq=>?_⟩,by rw[h32];simp only[aa,aK];omega⟩
  ·rw[aL hp]at hq;rcases List.mem_append.1 hq with hq|hq
   ·exact hcar q hq
   ·rw[List.mem_singleton.1 hq];exact he
 obtain⟨x,hx⟩:=get_of_lt (l:=ns) (i:=v) (by omega);obtain⟨c,hc⟩:=get_of_lt (l:=cs) (i:=v) (by omega);have hxn:=eS hx;have hxp:=mI hx;have hcn:=aJ hc;have hbv:v*3+3<=(az ns).length:=by rw[jq];omega
 have hvc:(v:Int)<cs.length:=by omega
 have w2:=IntWalk.i64_in ((v:Int)+1) (by omega);have lF:∀ L,(ext Hz L).live H.next 0=some (42,[.vec cs.length (ints cs),.vec xs.length (xs.map ae)]):=fun L=>ak ((cb _ _ _ (by omega)).trans ((oz.old H.next (by omega)).trans ((oy.old H.next (by omega)).trans ((o3.old H.next (by omega)).trans ((o2.old H.next (by omega)).trans g1)))));refine ab _ _ _ (by rfl) ?_;simp only[go_sem,q44,q45,q46,hb3,hxn,hxp,hbv];refine W.draw 7 [0,1,0,4,0,28,60] Try.mixed (by kernel_rfl) (by kernel_rfl) ?_;by_cases hd:x.card=c
 ·simp only[go_sem,q2,q46,hc,hcn,hvc,lF,hd,w2];exact⟨by omega,⟨oz.trans (.ext _ _),v+1,rfl,by omega,by rw[aL (cI hx),aL hc,he,hd]⟩,by rw[h46];simp only[aa,aK];omega⟩
 ·simp only[go_sem,q2,hc,hcn,hvc,lF,hd];exact no _ hpm (fun hh=>hd (by have:=cI hx;rw[show ar ns=cs from hh,hc]at this;exact(Option.some.inj this).symm)) _ ((o1.trans o2).trans (o3.trans (oy.trans (oz.trans (.ext _ _)))))
theorem LA {c:List Int}(h:mH c 720 0)(H:AHeap){v:AVal}(hv:Fz (fun _=>True) H 0 v (ae c)):
  af Try.prog G0 48 [v,aa 720,aa 0] H fun r H'=>r=.ret (.tup [ae (gh c),aa 0])/\H'=H:=by
 obtain⟨h1,h2,h3,h4,h5⟩:=id h;refine af.frame (H:=H) (args:=[v,aa 720,aa 0]) (args':=[ae c,aa 720,aa 0]) (v':=.tup [ae (gh c),aa 0]) aP rfl (fun i hi _=>match i,hi with
  | 0,_=>hv
  | 1,_=>.lit _
  | 2,_=>.lit _) ?_
 refine Oj rfl h1.1 h1.2 h2 h3 ⟨h4,by decide⟩ cF _ (fun hlt=>absurd h5 (by omega)) fun s u H' _ hs ho hu=>⟨_,rfl,.tup rfl fun i hi _=>?_⟩
 match i,hi with
 | 0,_ =>
  have e:gh c=s:=(xH hs).symm;rw[e];exact hu.qQ
 | 1,_=>exact .lit _
set_option maxHeartbeats 4000000 in
theorem Lz (g:Int)(ns:List NodeP)(h:NetOk g ns)(h6:ns.length<=6)(cs:List Int)(xs:List (List Int))(hx40:xs.length<=64)(hrow:∀ r∈xs,r.length=ns.length)(v:Nat)(x:NodeP)(hx:ns[v]?=some x)
  (H:AHeap) (K:ARes->AHeap->Prop) (hK:K (.ret (.tup [ae (eE ns x v xs),aa 0])) H):
  af Try.prog G0 43 [aY g ns,cB cs xs,aa v] H K:=by
 refine af.clo ⟨_,Try.func43,rfl,rfl⟩ fun hcl=>?_;have n8:=h.n1;have hxm:=List.mem_of_getElem? hx;have hxc:=(h.node x hxm).1;have hrc:=qv h hx;have hvn:(v:Int)<ns.length:=by have:=get_lt hx;omega
 have hne:=eS hx;have hpt:=mI hx;have hbd:v*3+3<=(az ns).length:=by rw[jq];omega
 have wL:=IntWalk.i64_in ((x.rows.length:Int)*x.card) (by omega);obtain⟨L,hL⟩:∃ L:Nat,(x.rows.length:Int)*x.card=L:=⟨((x.rows.length:Int)*x.card).toNat,by omega⟩
 have hLn:x.rows.length*x.card.toNat=L:=by
  have:((x.rows.length*x.card.toNat:Nat):Int)=x.rows.length*x.card:=by rw[Int.natCast_mul,Int.toNat_of_nonneg (by omega)]
  omega
 rw[hL]at wL hrc;refine af.bf (n:=111) (rs:=[.tmp 6,.tmp 7]) Try.func43 rfl rfl rfl (by decide) (by kernel_rfl) (by simp) ?_;simp only[go_sem,aY,cH,cB,aC,hvn,hne,hpt,hbd,hL,wL];refine⟨by omega,?_⟩;obtain⟨H1,hH1⟩:∃ H1,H1=ext H [.arr 0 35 [aa g,.vec ns.length (az ns)],.arr 0 42 [.vec cs.length (ints cs),.vec xs.length (xs.map ae)],.arr 0 3 [aa v],.arr 0 69 [aa x.card,.vec x.parents.length (ints x.parents),.vec x.rows.length (x.rows.map ae)],.arr 0 3 (List.replicate L (aa 0))]:=⟨_,rfl⟩
 have n1:H1.next=H.next+5:=by rw[hH1];rfl
 have o1:Over H H1:=by rw[hH1];exact .ext _ _
 have g0:H1.get H.next=some (.arr 0 35 [aa g,.vec ns.length (az ns)]):=by rw[hH1];exact bG H _ 0 (by simp)
 have g2:H1.get (H.next+2)=some (.arr 0 3 [aa v]):=by rw[hH1];exact bG H _ 2 (by simp)
 have g3:H1.get (H.next+3)=some (.arr 0 69 [aa x.card,.vec x.parents.length (ints x.parents),.vec x.rows.length (x.rows.map ae)]):=by rw[hH1];exact bG H _ 3 (by simp)
 have hz:List.replicate L (aa 0)=ints (List.replicate L 0):=by simp [ints,aa]
 have g4:H1.get (H.next+4)=some (.arr 0 3 (ints (eE ns x v (xs.take 0)))):=by
  rw[hH1,bG H _ 4 (by simp)];show some (Blk.arr 0 _ (List.replicate L (aa 0)))=some (.arr 0 _ (ints (List.replicate (x.rows.length*x.card.toNat) 0)));rw[hz,hLn]
 refine W.env fun E hE=>?_;have e3:E 3=.ptr H.next 0 0:=by rw[hE];simp only[go_sem]
 have e5:E 5=.ptr (H.next+2) 0 0:=by rw[hE];simp only[go_sem]
 have e8:E 8=.ptr (H.next+3) 0 0:=by rw[hE];simp only[go_sem]
 have e9:E 9=.own (H.next+4) 0 0 L 1:=by rw[hE];simp only[go_sem]
 have e35:E 35=.vec xs.length (xs.map ae):=by rw[hE];simp only[go_sem]
 have e36:E 36=aa xs.length:=by rw[hE];simp only[go_sem]
 have e37:E 37=aa 0:=by rw[hE];simp only[go_sem]
 clear hE;show W _ _ _ _ _ _ ⟨E,ext H [.arr 0 35 [aa g,.vec ns.length (az ns)],.arr 0 42 [.vec cs.length (ints cs),.vec xs.length (xs.map ae)],.arr 0 3 [aa v],.arr 0 69 [aa x.card,.vec x.parents.length (ints x.parents),.vec x.rows.length (x.rows.map ae)],.arr 0 3 (List.replicate L (aa 0))]⟩;rw[<- hH1];refine W.aI 1298074137262454452077694442805440 (by kernel_rfl) (fun ρ H'=>∃ i:Nat,ρ 37=aa i/\i<=xs.length/\H1.next<=H'.next/\(∀ id,id<H1.next->id≠H.next+4->H'.get id=H1.get id)/\H'.get (H.next+4)=some (.arr 0 3 (ints (eE ns x v (xs.take i))))) (fun ρ H=>xs.length - (iv (ρ 37)).toNat) ?_ ?_
 ·exact⟨0,e37,by omega,Nat.le_refl _,fun _ _ _=>rfl,g4⟩
 rintro ρ H' ⟨i,h37,hi,hn,hk,hg4⟩;have hxt:∀ r∈xs.take i,r.length=ns.length:=fun r hr=>hrow r (List.mem_of_mem_take hr);obtain⟨el,er⟩:=xg h h6 hx (xs.take i) hxt;obtain⟨X,hX⟩:∃ X,X=eE ns x v (xs.take i):=⟨_,rfl⟩
 rw[<- hX]at el er hg4;rw[hL]at el;have hXl:X.length=L:=by omega
 refine W.env fun F hF=>?_;have f3:F 3=.ptr H.next 0 0:=by rw[hF];simp only[go_sem,e3]
 have f5:F 5=.ptr (H.next+2) 0 0:=by rw[hF];simp only[go_sem,e5]
 have f8:F 8=.ptr (H.next+3) 0 0:=by rw[hF];simp only[go_sem,e8]
 have f9:F 9=.own (H.next+4) 0 0 L 1:=by rw[hF];simp only[go_sem,e9]
 have f35:F 35=.vec xs.length (xs.map ae):=by rw[hF];simp only[go_sem,e35]
 have f36:F 36=aa xs.length:=by rw[hF];simp only[go_sem,e36]
 have f37:F 37=aa i:=by rw[hF];simp only[go_sem,h37]
 clear hF;by_cases hb:(i:Int)<xs.length;rotate_left
 ·have ei:i=xs.length:=by omega
  refine ab _ _ _ (by rfl) ?_;simp only[go_sem,f9,f36,f37,hb];rw[ei,List.take_length]at hX;rw[<- hX]at hK;have ovx:Over H H':=⟨by omega,fun id hi=>(hk id (by omega) (by omega)).trans (o1.old id hi)⟩
  exact av.bI (v':=.tup [ae X,aa 0]) aP hcl ovx (.tup rfl fun i hi _=>match i,hi with
   | 0,_=>Fz.ints (by omega) hg4 hXl.symm fun j hj=>by rw[Nat.zero_add,fa];simp only[List.getElem?_eq_getElem hj,Option.map_some]
   | 1,_=>.lit _) hK
 obtain⟨r,hr⟩:=get_of_lt (l:=xs) (i:=i) (by omega);have hr':=lu hr;have hrn:=aJ hr';have hrl:=hrow r (List.mem_of_getElem? hr);have lE:∀ L,(ext H' L).live H.next 0=some (35,[aa g,.vec ns.length (az ns)]):=fun L=>ak ((cb _ _ _ (by omega)).trans ((hk H.next (by omega) (by omega)).trans g0));have l4:H'.live (H.next+4) 0=some (3,ints X):=ak hg4;have hbL:(L:Int)*8<=2 ^ 46/\(L:Int)<=2 ^ 46:=by omega
 refine ab _ _ _ (by rfl) ?_;simp only[go_sem,f3,f9,f35,f36,f37,hb,hr',hrn,lE,l4,hbL];obtain⟨Ha,hHa⟩:∃ Ha,Ha=ext H' [.arr 0 3 (List.replicate L (aa 0)),.arr 0 39 [.own H'.next 0 0 L 1]]:=⟨_,rfl⟩
 obtain⟨Hb,hHb⟩:∃ Hb,Hb=ext Ha [.arr 0 127 [aa g,.vec ns.length (az ns),.vec r.length (ints r)]]:=⟨_,rfl⟩
 have na:Ha.next=H'.next+2:=by rw[hHa];rfl
 have nb:Hb.next=H'.next+3:=by rw[hHb];show Ha.next+1=_;rw[na]
 have ka:Ha.get H'.next=some (.arr 0 3 (ints (eD ns x v []))):=by
  rw[hHa,cS];show some (Blk.arr 0 _ (List.replicate L (aa 0)))=some (.arr 0 _ (ints (List.replicate (x.rows.length*x.card.toNat) 0)));rw[hz,hLn]
 have ka1:Ha.get (H'.next+1)=some (.arr 0 39 [.own H'.next 0 0 L 1]):=by rw[hHa];exact bG H' _ 1 (by simp)
 have kb:Hb.get (H'.next+2)=some (.arr 0 127 [aa g,.vec ns.length (az ns),.vec r.length (ints r)]):=by rw[hHb,<- na];exact cP
 have oab:∀ id,id<H'.next+2->Hb.get id=Ha.get id:=fun id hh=>by rw[hHb];exact ed (by omega)
 have oa:∀ id,id<H'.next->Hb.get id=H'.get id:=fun id hh=>by rw[oab id (by omega),hHa];exact cb _ _ _ hh
 refine aw.clo (Bh g ns r _ _ ⟨trivial,?_⟩);simp only[go_sem];refine W.env fun E1 hE1=>?_;have k3:E1 3=.ptr H.next 0 0:=by rw[hE1];simp only[go_sem,f3]
 have k5:E1 5=.ptr (H.next+2) 0 0:=by rw[hE1];simp only[go_sem,f5]
 have k8:E1 8=.ptr (H.next+3) 0 0:=by rw[hE1];simp only[go_sem,f8]
 have k9:E1 9=.own (H.next+4) 0 0 L 1:=by rw[hE1];simp only[go_sem,f9]
 have k12:E1 12=.ptr (H'.next+1) 0 0:=by rw[hE1];simp only[go_sem]
 have k35:E1 35=.vec xs.length (xs.map ae):=by rw[hE1];simp only[go_sem,f35]
 have k36:E1 36=aa xs.length:=by rw[hE1];simp only[go_sem,f36]
 have k37:E1 37=aa i:=by rw[hE1];simp only[go_sem,f37]
 have k47:E1 47=.clo 88 [] [.ptr (H'.next+2) 0 0]:=by rw[hE1];rfl
 clear hE1;show W _ _ _ _ _ _ ⟨E1,ext (ext H' [.arr 0 3 (List.replicate L (aa 0)),.arr 0 39 [.own H'.next 0 0 L 1]]) [.arr 0 127 [aa g,.vec ns.length (az ns),.vec r.length (ints r)]]⟩;rw[<- hHa,<- hHb];have w1:=IntWalk.i64_in ((i:Int)+1) (by omega);obtain⟨D,hD⟩:∃ D,D=cZ (ar ns) r:=⟨_,rfl⟩
 have hDf:∀ w∈D,cE (ar ns) w:=fun w hw=>oF (gf h) (by rw[hrl,bO]) (by rw[<- hD];exact hw);have hDl:(iK ns r (Hb.next+1)).length=D.length:=by unfold iK;rw[List.length_map,hD]
 have mt:=Bj h hrl;rw[<- hD]at mt;refine W.Bc (f:=88) (first:=[]) (cap:=[.ptr (H'.next+2) 0 0]) (by show E1 47=_;exact k47) (Bg g ns h r hrl (H'.next+2) (Hb.next+1) (by omega))
  (fun k Hx=>Hb.next<Hx.next/\(∀ id,id<Hb.next->id≠H'.next->Hx.get id=Hb.get id)/\Hx.get H'.next=some (.arr 0 3 (ints (eD ns x v (D.take k)))))
  (fun k Hx hj=>(hj.2.1 _ (by omega) (by omega)).trans kb)
  (fun k H1 H3 hj hw=>⟨by have:=hw.1;omega,fun id h1 h2=>(hw.2 _ (by omega) (by have:=hj.1;omega)).trans (hj.2.1 id h1 h2),(hw.2 _ (by omega) (by have:=hj.1;omega)).trans hj.2.2⟩)
  (fun k Hx hj=>hj.1)
  (fun k H1 b hj=>⟨hj.1,fun id h1 h2=>by rw[ag,if_neg (by omega)];exact hj.2.1 id h1 h2,by rw[ag,if_neg (by omega)];exact hj.2.2⟩)
  (fun b=>⟨by rw[bY];simp,fun id h1 h2=>ed h1,by rw[ed (by omega),oab _ (by omega)];exact ka⟩) (by decide)
  (fun x hx=>by
   unfold iK at hx;obtain⟨w,_,rfl⟩:=List.mem_map.1 hx;rfl) (fun _ _ _=>trivial) (fun k y Hx B Bb hy hj hs hn2 hB hBb=>?_) (fun Hx hj hn2=>?_)
 ·obtain⟨hh1,hh2,hh3⟩:=hj;obtain⟨w,hw,hwN⟩:=hs;rw[<- hD]at hw;have hwf:=hDf w (List.mem_of_getElem? hw);have hy':y=[.own (Hb.next+1+1) 0 0 ns.length 1,aa (weight ns w)]:=by
   unfold iK at hy;rw[<- hD,List.getElem?_map,hw]at hy;exact(Option.some.inj hy).symm
  subst hy';refine ab _ _ _ (by rfl) ?_;simp only[go_sem,km,de,qT,List.foldl_cons,List.foldl_nil,List.zip_cons_cons,List.zip_nil_right,hB];obtain⟨H3,hH3⟩:∃ H3,H3=Hx.upd Hb.next Bb:=⟨_,rfl⟩
  rw[<- hH3];obtain⟨st,pd,n',en,ps',as',bo,hBe⟩:=hBb;have n3:H3.next=Hx.next:=by rw[hH3];rfl
  have o3:∀ id,id≠Hb.next->H3.get id=Hx.get id:=fun id hh=>by rw[hH3,ag,if_neg hh]
  have jB:H3.get Hb.next=some Bb:=by rw[hH3,ag,if_pos rfl]
  refine W.env fun E2 hE2=>?_;have m3:E2 3=.ptr H.next 0 0:=by rw[hE2];simp only[go_sem,de,k3]
  have m5:E2 5=.ptr (H.next+2) 0 0:=by rw[hE2];simp only[go_sem,de,k5]
  have m8:E2 8=.ptr (H.next+3) 0 0:=by rw[hE2];simp only[go_sem,de,k8]
  have m12:E2 12=.ptr (H'.next+1) 0 0:=by rw[hE2];simp only[go_sem,de,k12]
  have m13:E2 13=.own (Hb.next+2) 0 0 ns.length 1:=by rw[hE2];simp only[go_sem,de]
  have m14:E2 14=aa (weight ns w):=by rw[hE2];simp only[go_sem,de]
  clear hE2;have hsm:=fun id (h1:id<H1.next) (h2:id≠H.next+4)=>(o3 id (by omega)).trans ((hh2 id (by omega) (by omega)).trans ((oa id (by omega)).trans (hk id h1 h2)));have l0:=ak ((hsm H.next (by omega) (by omega)).trans g0);have l2:=ak ((hsm (H.next+2) (by omega) (by omega)).trans g2);have l3:=ak ((hsm (H.next+3) (by omega) (by omega)).trans g3);have l12:=ak ((o3 (H'.next+1) (by omega)).trans ((hh2 _ (by omega) (by omega)).trans ((oab _ (by omega)).trans ka1)));have lP:=ak ((o3 H'.next (by omega)).trans hh3);have lW:=ak ((o3 (Hb.next+2) (by omega)).trans hwN);refine ab _ _ _ (by rfl) ?_;simp only[go_sem,m8,l3];refine W.env fun E3 hE3=>?_;have p3:E3 3=.ptr H.next 0 0:=by rw[hE3];simp only[go_sem,m3]
  have p5:E3 5=.ptr (H.next+2) 0 0:=by rw[hE3];simp only[go_sem,m5]
  have p8:E3 8=.ptr (H.next+3) 0 0:=by rw[hE3];simp only[go_sem,m8]
  have p12:E3 12=.ptr (H'.next+1) 0 0:=by rw[hE3];simp only[go_sem,m12]
  have p13:E3 13=.own (Hb.next+2) 0 0 ns.length 1:=by rw[hE3];simp only[go_sem,m13]
  have p14:E3 14=aa (weight ns w):=by rw[hE3];simp only[go_sem,m14]
  have p15:E3 15=aa 0:=by rw[hE3];simp only[go_sem]
  have p51:E3 51=ae x.parents:=by rw[hE3];simp only[go_sem]
  have p52:E3 52=aa x.parents.length:=by rw[hE3];simp only[go_sem]
  have p53:E3 53=aa 0:=by rw[hE3];simp only[go_sem]
  clear hE3;have hin:gp x.parents ns.length:=fun q hq=>by have:=(h.node x hxm).2.2 q hq;omega
  have hfp:=o9 hin hwf;have pl:(aR ns x).length=x.parents.length:=gO _ _;have vl:(aS w x.parents).length=x.parents.length:=gO _ _;have hsc:=pf n8.2 (h.node x hxm).2 fun y hy=>(h.node y hy).1;have hr0:=Bd hfp hsc;have l12n:=hsc.1;have hwl:w.length=ns.length:=by rw[hwf.1,bO]
  refine W.aI 2361174234235568029696 (by kernel_rfl) (fun ρ H4=>H4=H3/\∃ j:Nat,ρ 53=aa j/\j<=x.parents.length/\ρ 15=aa (fF ((aR ns x).take j) ((aS w x.parents).take j))) (fun ρ H=>x.parents.length - (iv (ρ 53)).toNat) ?_ ?_
  ·exact⟨rfl,0,p53,by omega,p15⟩
  rintro ρ4 H4 ⟨e4,j,h53,hj,h15⟩;rw[e4];refine W.env fun E4 hE4=>?_;have q3:E4 3=.ptr H.next 0 0:=by rw[hE4];simp only[go_sem,p3]
  have q5:E4 5=.ptr (H.next+2) 0 0:=by rw[hE4];simp only[go_sem,p5]
  have q8:E4 8=.ptr (H.next+3) 0 0:=by rw[hE4];simp only[go_sem,p8]
  have q12:E4 12=.ptr (H'.next+1) 0 0:=by rw[hE4];simp only[go_sem,p12]
  have q13:E4 13=.own (Hb.next+2) 0 0 ns.length 1:=by rw[hE4];simp only[go_sem,p13]
  have q14:E4 14=aa (weight ns w):=by rw[hE4];simp only[go_sem,p14]
  have q15:E4 15=aa (fF ((aR ns x).take j) ((aS w x.parents).take j)):=by rw[hE4];simp only[go_sem,h15]
  have q51:E4 51=ae x.parents:=by rw[hE4];simp only[go_sem,p51]
  have q52:E4 52=aa x.parents.length:=by rw[hE4];simp only[go_sem,p52]
  have q53:E4 53=aa j:=by rw[hE4];simp only[go_sem,h53]
  clear hE4;by_cases hb2:(j:Int)<x.parents.length
  ·obtain⟨q,hq⟩:=get_of_lt (l:=x.parents) (i:=j) (by omega);obtain⟨u,y,b,rfl,hy,hbv,a1,a2,a3⟩:=Be hin hwf hq;have hqn:=aJ hq;have hyn:=eS hy;have hy0:=js hy;have hun:(u:Int)<ns.length:=(by have:=get_lt hy;omega);have w2:=IntWalk.i64_in ((j:Int)+1) (by omega);have r1:=hr0 (j+1);rw[tP a1 a2]at r1;have r0:=hr0 j;have m0:0<=fF ((aR ns x).take j) ((aS w x.parents).take j)*y.card:=Int.mul_nonneg r0.1 (by omega);have w3:=IntWalk.i64_in (fF ((aR ns x).take j) ((aS w x.parents).take j)*y.card) (by omega);have w4:=IntWalk.i64_in (fF ((aR ns x).take j) ((aS w x.parents).take j)*y.card+b) (by omega);refine ab _ _ _ (by rfl) ?_;simp only[go_sem,q51,q52,q53,hb2,hq,hqn];refine W.draw 12 [0,0,2,0,14,30,62,127,0,0,768,1792] Try.mixed (by kernel_rfl) (by kernel_rfl) ?_;simp only[go_sem,l0,lW,q3,q13,q15,q53,hyn,hy0,hun,hbv,w2,w3,w4];exact⟨⟨_,_,_,_,_,_,_,by rw[jB,hBe]⟩,⟨j+1,rfl,by omega,by rw[tP a1 a2]⟩,by rw[h53];simp only[aa,aK];omega⟩
  have ej:j=x.parents.length:=by omega
  rw[ej,List.take_of_length_le (by rw[pl];exact Nat.le_refl _),List.take_of_length_le (by rw[vl];exact Nat.le_refl _),tO hfp.1]at q15;obtain⟨a,ha⟩:=get_of_lt (l:=w) (i:=v) (by omega);have hac:=hwf.2 v x.card a (cI hx) ha;have hpr:=w9 h hx hwf;have hpe:iL ns x v w=dp (aR ns x) (aS w x.parents)*x.card+a:=by unfold iL;rw[bE ha]
  obtain⟨z,hz2⟩:∃ z:Nat,iL ns x v w=z:=⟨(iL ns x v w).toNat,by omega⟩
  rw[hL,hz2]at hpr;rw[hz2]at hpe;obtain⟨pa,pb,pc⟩:=oH h hx (D.take k) fun w' h'=>hDf w' (List.mem_of_mem_take h');obtain⟨Pl,hPl⟩:∃ Pl,Pl=eD ns x v (D.take k):=⟨_,rfl⟩
  have hPs:eD ns x v (D.take (k+1))=Pl.set z (Pl.getD z 0+weight ns w):=by
   rw[aL hw,Bn,<- hPl];unfold jT kx;rw[hz2,Int.toNat_natCast]
  rw[<- hPl]at pa pb pc lP;rw[hL]at pa;obtain⟨e0,he0⟩:=get_of_lt (l:=Pl) (i:=z) (by omega);rw[bE he0]at hPs;have he1:=pb e0 (List.mem_of_getElem? he0);have he2:=mU pb e0 (List.mem_of_getElem? he0);have mt1:=mt (k+1);have hes:((D.take (k+1)).map (weight ns)).sum=((D.take k).map (weight ns)).sum+weight ns w:=by rw[aL hw];simp
  rw[hes]at mt1;have hwr:=tw h hwf;have hir:=hr0 x.parents.length;rw[List.take_of_length_le (by rw[pl];exact Nat.le_refl _),List.take_of_length_le (by rw[vl];exact Nat.le_refl _),tO hfp.1]at hir;have m0:0<=dp (aR ns x) (aS w x.parents)*x.card:=Int.mul_nonneg hir.1 (by omega);have w2:=IntWalk.i64_in (dp (aR ns x) (aS w x.parents)*x.card) (by omega);have w3:=IntWalk.i64_in (z:Int) (by omega);have w4:=IntWalk.i64_in (e0+weight ns w) (by omega);have hzL:(z:Int)<L:=by omega
  have hvw:(v:Int)<w.length:=by omega
  have hpl2:Pl.length=L:=by omega
  have hz0:¬ (z:Int)<0:=by omega
  refine ab _ _ _ (by rfl) ?_;simp only[go_sem,q52,q53,hb2];refine W.draw 13 [0,0,0,4,14,0,0,96,224,510,1023,2047,0] Try.mixed (by kernel_rfl) (by kernel_rfl) ?_;simp only[go_sem,l2,l3,l12,lP,lW,q5,q8,q12,q13,q14,q15,ha,hvn,<- hpe,he0,hpl2,hzL,w2,w3,w4,lT];refine⟨by omega,?_⟩;obtain⟨H5,hH5⟩:∃ H5,H5=H3.upd H'.next (.arr 0 3 (setAt (ints Pl) z [.lit (.int .i64 (e0+weight ns w))])):=⟨_,rfl⟩
  rw[<- hH5];have n5:H5.next=Hx.next:=by rw[hH5];exact n3
  have k5:∀ id,id≠H'.next->id≠Hb.next->H5.get id=Hx.get id:=fun id h1 h2=>by rw[hH5,ag,if_neg h1,o3 id h2]
  have e5:H5.get H'.next=some (.arr 0 3 (ints (eD ns x v (D.take (k+1))))):=by
   rw[hH5,ag,if_pos rfl,dF (by omega),hPs]
  exact⟨by rw[hH5,ag,if_neg (by omega)];exact jB,by omega,⟨by omega,fun id h1 h2=>(k5 id h2 (by omega)).trans (hh2 id h1 h2),e5⟩,fun id h1 h2=>k5 id (by omega) (by omega)⟩
 ·rw[hDl,List.take_of_length_le (Nat.le_refl _)]at hj;obtain⟨hh1,hh2,hh3⟩:=hj;have hro:=xd h h6 hx hrl;obtain⟨_,rl,_,rr⟩:=xe hro;obtain⟨pa,_,_⟩:=oH h hx D hDf;have hpR:g9 ns x v r=eD ns x v D:=by rw[hD];rfl
  rw[hpR]at hro rl rr;rw[hL]at pa;have hXs:eE ns x v (xs.take (i+1))=fg X (gh (eD ns x v D)):=by rw[aL hr,xc,<- hX,hpR]
  obtain⟨R,hR⟩:∃ R,R=gh (eD ns x v D):=⟨_,rfl⟩
  have l12:=ak ((hh2 (H'.next+1) (by omega) (by omega)).trans ((oab _ (by omega)).trans ka1));simp only[go_sem,k12,l12];refine aw.clo ((LA hro Hx (Fz.ints (S:=fun _=>True) trivial hh3 (by omega) fun j hj=>by rw[Nat.zero_add,fa];simp only[List.getElem?_eq_getElem hj,Option.map_some])).mono ?_);rintro rres Hq ⟨hrq,hHq⟩;rw[hHq];subst hrq;refine⟨trivial,?_⟩;rw[<- hR]at rl rr hXs ⊢;have hRl:R.length=L:=by omega
  simp only[go_sem];refine W.env fun E2 hE2=>?_;have m3:E2 3=.ptr H.next 0 0:=by rw[hE2];simp only[go_sem,k3]
  have m5:E2 5=.ptr (H.next+2) 0 0:=by rw[hE2];simp only[go_sem,k5]
  have m8:E2 8=.ptr (H.next+3) 0 0:=by rw[hE2];simp only[go_sem,k8]
  have m9:E2 9=.own (H.next+4) 0 0 L 1:=by rw[hE2];simp only[go_sem,k9]
  have m35:E2 35=.vec xs.length (xs.map ae):=by rw[hE2];simp only[go_sem,k35]
  have m36:E2 36=aa xs.length:=by rw[hE2];simp only[go_sem,k36]
  have m37:E2 37=aa i:=by rw[hE2];simp only[go_sem,k37]
  have m94:E2 94=ae R:=by rw[hE2];simp only[go_sem]
  have m95:E2 95=aa R.length:=by rw[hE2];simp only[go_sem]
  have m96:E2 96=aa 0:=by rw[hE2];simp only[go_sem]
  clear hE2;have gX:Hx.get (H.next+4)=some (.arr 0 3 (ints X)):=(hh2 _ (by omega) (by omega)).trans ((oa _ (by omega)).trans hg4);have hkx:∀ id,id<H1.next->id≠H.next+4->Hx.get id=H1.get id:=fun id h1 h2=>(hh2 id (by omega) (by omega)).trans ((oa id (by omega)).trans (hk id h1 h2));refine W.aI 648957879154339189228718500347904 (by kernel_rfl) (fun ρ H4=>∃ j:Nat,ρ 96=aa j/\j<=L/\Hx.next<=H4.next/\(∀ id,id<H1.next->id≠H.next+4->H4.get id=H1.get id)/\H4.get (H.next+4)=some (.arr 0 3 (ints (fg (X.take j) (R.take j)++X.drop j)))) (fun ρ H=>L - (iv (ρ 96)).toNat) ?_ ?_
  ·exact⟨0,m96,by omega,Nat.le_refl _,hkx,by rw[gX];rfl⟩
  rintro ρ4 H4 ⟨j,h96,hj,n4,hk4,hg4'⟩;refine W.env fun E3 hE3=>?_;have p9:E3 9=.own (H.next+4) 0 0 L 1:=by rw[hE3];simp only[go_sem,m9]
  have p37:E3 37=aa i:=by rw[hE3];simp only[go_sem,m37]
  have p94:E3 94=ae R:=by rw[hE3];simp only[go_sem,m94]
  have p95:E3 95=aa R.length:=by rw[hE3];simp only[go_sem,m95]
  have p96:E3 96=aa j:=by rw[hE3];simp only[go_sem,h96]
  clear hE3;by_cases hb3:(j:Int)<R.length;rotate_left
  ·have ej:j=L:=(by omega);refine ab _ _ _ (by rfl) ?_;simp only[go_sem,p37,p95,p96,hb3,w1];refine⟨by omega,⟨i+1,rfl,by omega,by omega,hk4,?_⟩,by rw[h37];simp only[aa,aK];omega⟩;rw[hg4',ej,List.take_of_length_le (by omega),List.take_of_length_le (by omega),List.drop_of_length_le (by omega),List.append_nil,hXs]
  obtain⟨a,ha⟩:=get_of_lt (l:=X) (i:=j) (by omega);obtain⟨b,hbj⟩:=get_of_lt (l:=R) (i:=j) (by omega);have hbn:=aJ hbj;have ha2:=er a (List.mem_of_getElem? ha);have hb2:=rr b (List.mem_of_getElem? hbj);have hil:(xs.take i).length<=64:=by rw[List.length_take];omega
  have w2:=IntWalk.i64_in (a+b) (by omega);have w3:=IntWalk.i64_in ((j:Int)+1) (by omega);have avl:(fg (X.take j) (R.take j)).length=j:=by rw[xf (by simp;omega)];simp;omega
  have hln:(fg (X.take j) (R.take j)++X.drop j).length=L:=by rw[List.length_append,avl,List.length_drop];omega
  have hgj:(fg (X.take j) (R.take j)++X.drop j)[j]?=some a:=by
   rw[List.getElem?_append_right (by omega),avl,Nat.sub_self,gK ha];rfl
  have lX:=ak hg4';have hjL:(j:Int)<L:=by omega
  refine ab _ _ _ (by rfl) ?_;simp only[go_sem,p9,p94,p95,p96,hb3,hbj,hbn,lX,hln,hgj,hjL,w2,w3];refine⟨by omega,by rw[aA];omega,⟨j+1,rfl,by omega,by rw[aA];omega,fun id h1 h2=>by rw[ag,if_neg h2];exact hk4 id h1 h2,?_⟩,by rw[h96];simp only[aa,aK];omega⟩;rw[ag,if_pos rfl,dF (by omega)];congr 3;rw[List.set_append_right _ _ (by omega),avl,Nat.sub_self,gK ha,aL ha,aL hbj];show _++(a+b) :: _=_;unfold fg;rw[List.zipWith_append (by simp;omega),List.append_assoc];rfl
end Go.Proofs
