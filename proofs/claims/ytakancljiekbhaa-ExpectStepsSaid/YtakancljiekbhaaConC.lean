/- Own work: contracts. -/
import Derived.Test.YtakancljiekbhaaConB
import Derived.Test.YtakancljiekbhaaLibC
import Derived.Test.YtakancljiekbhaaConA
set_option linter.all false
set_option maxRecDepth 100000
namespace Go.Proofs
open Go.Hx
def fT (ns:List NodeP)(r:List Int):Int:=((dc (ar ns) r).map (weight ns)).sum
theorem Mx {g:Int}{ns:List NodeP}(h:NetOk g ns){r:List Int}(hr:r.length=ns.length):(dc (ar ns) r).length<=1024:=by
 have h1:=gp h;rw[uf (by rw[hr,bP])];refine Nat.le_trans (List.length_filter_le _ _) ?_;rw[ue h1,List.length_map,List.length_range];have:=h.size;omega
theorem uj {g:Int}{ns:List NodeP}(h:NetOk g ns){w:List Int}(hw:cG (ar ns) w):0<=weight ns w/\weight ns w<=167961600000000:=by
 have:=yW h hw ns.length;rw[List.take_of_length_le (by rw[rG];exact Nat.le_refl _)]at this;exact this
theorem B8 {l:List Int}{b:Int}(h:∀ x∈l,0<=x/\x<=b):0<=l.sum/\l.sum<=l.length*b:=by
 induction l with
 | nil=>simp
 | cons a l ih =>
  have h1:=h a (by simp);have h2:=ih fun x hx=>h x (by simp [hx]);rw[List.sum_cons,List.length_cons,show ((l.length+1:Nat):Int)=l.length+1 from rfl,Int.add_mul];omega
theorem B9 {g:Int}{ns:List NodeP}(h:NetOk g ns){r:List Int}(hr:r.length=ns.length)(k:Nat):
  0<=(((dc (ar ns) r).take k).map (weight ns)).sum/\(((dc (ar ns) r).take k).map (weight ns)).sum<=171992678400000000:=by
 have h1:=B8 (l:=((dc (ar ns) r).take k).map (weight ns)) (b:=167961600000000) fun x hx=>by
  obtain⟨w,hw,rfl⟩:=List.mem_map.1 hx;exact uj h (px (gp h) (by rw[hr,bP]) (List.mem_of_mem_take hw))
 have h2:=Mx h hr;rw[List.length_map,List.length_take]at h1;have h3:((min k (dc (ar ns) r).length:Nat):Int)*167961600000000<=1024*167961600000000:=by omega
 omega
def fE (ns:List NodeP)(xs:List (List Int))(k:Nat):List Int:=(xs.take k).map (fT ns)++List.replicate (xs.length - k) 0
theorem My (ns:List NodeP)(xs:List (List Int))(k:Nat)(hk:k<=xs.length):(fE ns xs k).length=xs.length:=by simp [fE];omega
theorem Mz {ns:List NodeP}{xs:List (List Int)}{k:Nat}{r:List Int}(h:xs[k]?=some r):fE ns xs (k+1)=(fE ns xs k).set k (fT ns r):=by
 have hl:=get_lt h;unfold fE;rw[aL h,List.map_append,List.set_append_right _ _ (by simp;omega)];have e:k - ((xs.take k).map (fT ns)).length=0:=by simp;omega
 rw[e,show xs.length - k=(xs.length - (k+1))+1 by omega,List.replicate_succ];simp
theorem MA {α:Type}{l:List α}{i:Nat}{x:α}(h:l[i]?=some x):l.set i x=l:=by
 refine List.ext_getElem? fun j=>?_;rw[List.getElem?_set];split
 ·rename_i e;subst e;rw[if_pos (get_lt h),h]
 ·rfl
theorem MB {ns:List NodeP}{xs:List (List Int)}{k:Nat}{r:List Int}(h:xs[k]?=some r):(fE ns xs k)[k]?=some 0:=by
 have hl:=get_lt h;unfold fE;rw[List.getElem?_append_right (by simp;omega),List.getElem?_replicate];rw[if_pos (by simp;omega)]
set_option maxHeartbeats 2000000 in
theorem MC (g:Int)(ns:List NodeP)(h:NetOk g ns)(cs:List Int)(xs:List (List Int))(hx40:xs.length<=64)(hrow:∀ r∈xs,r.length=ns.length)(H:AHeap)(K:ARes->AHeap->Prop)(hK:K (.ret (ae (xs.map (fT ns)))) H):
  af Try.prog G0 42 [aQ g ns,cj cs xs] H K:=by
 refine af.clo ⟨_,Try.func42,rfl,rfl⟩ fun hcl=>?_;have n8:=h.n1;refine af.bf (n:=37) (rs:=[.tmp 4]) Try.func42 rfl rfl rfl (by decide) (by kernel_rfl) (by simp) ?_;simp only[go_sem,aQ,bW,cj,aA];refine⟨by omega,?_⟩;obtain⟨H1,hH1⟩:∃ H1,H1=ext H [.arr 0 35 [aa g,.vec ns.length (au ns)],.arr 0 42 [.vec cs.length (ints cs),.vec xs.length (xs.map ae)],.arr 0 3 (List.replicate xs.length (aa 0)),.arr 0 39 [.own (H.next+2) 0 0 xs.length 1]]:=⟨_,rfl⟩
 have n1:H1.next=H.next+4:=by rw[hH1];rfl
 have o1:Over H H1:=by rw[hH1];exact .ext _ _
 have g0:H1.get H.next=some (.arr 0 35 [aa g,.vec ns.length (au ns)]):=by rw[hH1];exact bg H _ 0 (by simp)
 have g2:H1.get (H.next+2)=some (.arr 0 3 (ints (fE ns xs 0))):=by
  rw[hH1,bg H _ 2 (by simp)];simp [fE,ints,aa]
 have g3:H1.get (H.next+3)=some (.arr 0 39 [.own (H.next+2) 0 0 xs.length 1]):=by rw[hH1];exact bg H _ 3 (by simp)
 refine W.env fun E hE=>?_;have e2:E 2=.ptr H.next 0 0:=by rw[hE];simp only[go_sem]
 have e5:E 5=.ptr (H.next+3) 0 0:=by rw[hE];simp only[go_sem]
 have e15:E 15=.vec xs.length (xs.map ae):=by rw[hE];simp only[go_sem]
 have e16:E 16=aa xs.length:=by rw[hE];simp only[go_sem]
 have e17:E 17=aa 0:=by rw[hE];simp only[go_sem]
 clear hE;show W _ _ _ _ _ _ ⟨E,ext H [.arr 0 35 [aa g,.vec ns.length (au ns)],.arr 0 42 [.vec cs.length (ints cs),.vec xs.length (xs.map ae)],.arr 0 3 (List.replicate xs.length (aa 0)),.arr 0 39 [.own (H.next+2) 0 0 xs.length 1]]⟩;rw[<- hH1];refine W.aG 34426716352 (by rfl) (fun ρ H'=>∃ i:Nat,ρ 17=aa i/\i<=xs.length/\H1.next<=H'.next/\(∀ id,id<H1.next->id≠H.next+2->H'.get id=H1.get id)/\H'.get (H.next+2)=some (.arr 0 3 (ints (fE ns xs i)))) (fun ρ H=>xs.length - (iv (ρ 17)).toNat) ?_ ?_
 ·exact⟨0,e17,by omega,Nat.le_refl _,fun _ _ _=>rfl,g2⟩
 rintro ρ H' ⟨i,h17,hi,hn,hk,hg2⟩;refine W.env fun F hF=>?_;have f2:F 2=.ptr H.next 0 0:=by rw[hF];simp only[go_sem,e2]
 have f5:F 5=.ptr (H.next+3) 0 0:=by rw[hF];simp only[go_sem,e5]
 have f15:F 15=.vec xs.length (xs.map ae):=by rw[hF];simp only[go_sem,e15]
 have f16:F 16=aa xs.length:=by rw[hF];simp only[go_sem,e16]
 have f17:F 17=aa i:=by rw[hF];simp only[go_sem,h17]
 clear hF;by_cases hb:(i:Int)<xs.length;rotate_left
 ·have ei:i=xs.length:=by omega
  refine ab _ _ _ (by rfl) ?_;have l3:=ah ((hk (H.next+3) (by omega) (by omega)).trans g3);simp only[go_sem,f5,f16,f17,hb,l3];have em:fE ns xs i=xs.map (fT ns):=by rw[ei];simp [fE]
  rw[em]at hg2;have ovx:Over H H':=⟨by omega,fun id hi=>(hk id (by omega) (by omega)).trans (o1.old id hi)⟩
  exact av.bA (v':=ae (xs.map (fT ns))) aP hcl ovx (Fz.ints (by omega) hg2 (by simp) fun j hj=>by rw[Nat.zero_add,fg];simp only[List.getElem?_eq_getElem hj,Option.map_some]) hK
 obtain⟨r,hr⟩:=get_of_lt (l:=xs) (i:=i) (by omega);have hr':=lY hr;have hrn:=aJ hr';have hrl:=hrow r (List.mem_of_getElem? hr);have lE:∀ L,(ext H' L).live H.next 0=some (35,[aa g,.vec ns.length (au ns)]):=fun L=>ah ((cb _ _ _ (by omega)).trans ((hk H.next (by omega) (by omega)).trans g0));refine ab _ _ _ (by rfl) ?_;simp only[go_sem,f2,f15,f16,f17,hb,hr',hrn,lE];obtain⟨Ha,hHa⟩:∃ Ha,Ha=ext H' [.arr 0 3 [aa i]]:=⟨_,rfl⟩
 obtain⟨Hb,hHb⟩:∃ Hb,Hb=ext Ha [.arr 0 127 [aa g,.vec ns.length (au ns),.vec r.length (ints r)]]:=⟨_,rfl⟩
 have na:Ha.next=H'.next+1:=by rw[hHa];rfl
 have nb:Hb.next=H'.next+2:=by rw[hHb];show Ha.next+1=_;rw[na]
 have ka:Ha.get H'.next=some (.arr 0 3 [aa i]):=by rw[hHa];exact cA
 have kb:Hb.get (H'.next+1)=some (.arr 0 127 [aa g,.vec ns.length (au ns),.vec r.length (ints r)]):=by rw[hHb,<- na];exact cA
 have oab:∀ id,id<H'.next+1->Hb.get id=Ha.get id:=fun id hh=>by rw[hHb];exact dK (by omega)
 have oa:∀ id,id<H'.next->Hb.get id=H'.get id:=fun id hh=>by rw[oab id (by omega),hHa];exact dK hh
 refine aB.clo (B7 g ns r _ _ ⟨trivial,?_⟩);simp only[go_sem];refine W.env fun E1 hE1=>?_;have k2:E1 2=.ptr H.next 0 0:=by rw[hE1];simp only[go_sem,f2]
 have k5:E1 5=.ptr (H.next+3) 0 0:=by rw[hE1];simp only[go_sem,f5]
 have k6:E1 6=.ptr H'.next 0 0:=by rw[hE1];simp only[go_sem]
 have k15:E1 15=.vec xs.length (xs.map ae):=by rw[hE1];simp only[go_sem,f15]
 have k16:E1 16=aa xs.length:=by rw[hE1];simp only[go_sem,f16]
 have k17:E1 17=aa i:=by rw[hE1];simp only[go_sem,f17]
 have k25:E1 25=.clo 88 [] [.ptr (H'.next+1) 0 0]:=by rw[hE1];rfl
 clear hE1;show W _ _ _ _ _ _ ⟨E1,ext (ext H' [.arr 0 3 [aa i]]) [.arr 0 127 [aa g,.vec ns.length (au ns),.vec r.length (ints r)]]⟩;rw[<- hHa,<- hHb];have w1:=IntWalk.i64_in ((i:Int)+1) (by omega);have mt:=B9 h hrl;obtain⟨D,hD⟩:∃ D,D=dc (ar ns) r:=⟨_,rfl⟩
 have hDl:(iX ns r (Hb.next+1)).length=D.length:=by unfold iX;rw[List.length_map,hD]
 rw[<- hD]at mt;have hm:fT ns r=(D.map (weight ns)).sum:=by rw[hD];rfl
 refine W.B2 (f:=88) (first:=[]) (cap:=[.ptr (H'.next+1) 0 0]) (by show E1 25=_;exact k25) (B6 g ns h r hrl (H'.next+1) (Hb.next+1) (by omega))
  (fun k Hx=>Hb.next<Hx.next/\(∀ id,id<Hb.next->id≠H.next+2->Hx.get id=Hb.get id)/\Hx.get (H.next+2)=some (.arr 0 3 (ints ((fE ns xs i).set i ((D.take k).map (weight ns)).sum))))
  (fun k Hx hj=>(hj.2.1 _ (by omega) (by omega)).trans kb)
  (fun k H1 H3 hj hw=>⟨by have:=hw.1;omega,fun id h1 h2=>(hw.2 _ (by omega) (by have:=hj.1;omega)).trans (hj.2.1 id h1 h2),(hw.2 _ (by omega) (by have:=hj.1;omega)).trans hj.2.2⟩)
  (fun k Hx hj=>hj.1)
  (fun k H1 b hj=>⟨hj.1,fun id h1 h2=>by rw[ag,if_neg (by omega)];exact hj.2.1 id h1 h2,by rw[ag,if_neg (by omega)];exact hj.2.2⟩)
  (fun b=>⟨by rw[bJ];simp,fun id h1 h2=>dK h1,by
   rw[dK (by omega),oa _ (by omega),hg2];congr 2;simp only[List.take_zero,List.map_nil,List.sum_nil];rw[MA (MB hr)]⟩) (by decide)
  (fun x hx=>by
   unfold iX at hx;obtain⟨w,_,rfl⟩:=List.mem_map.1 hx;rfl) (fun _ _ _=>trivial) (fun k y Hx B Bb hy hj hs hn2 hB hBb=>?_) (fun Hx hj hn2=>?_)
 ·obtain⟨hh1,hh2,hh3⟩:=hj;obtain⟨w,hw,hwN⟩:=hs;rw[<- hD]at hw;have hy':y=[.own (Hb.next+1+1) 0 0 ns.length 1,aa (weight ns w)]:=by
   unfold iX at hy;rw[<- hD,List.getElem?_map,hw]at hy;exact(Option.some.inj hy).symm
  subst hy';refine ab _ _ _ (by rfl) ?_;simp only[go_sem,kD,dp,rV,List.foldl_cons,List.foldl_nil,List.zip_cons_cons,List.zip_nil_right,hB];obtain⟨H3,hH3⟩:∃ H3,H3=Hx.upd Hb.next Bb:=⟨_,rfl⟩
  rw[<- hH3];obtain⟨st,pd,n',en,ps',as',bo,hBe⟩:=hBb;have n3:H3.next=Hx.next:=by rw[hH3];rfl
  have o3:∀ id,id≠Hb.next->H3.get id=Hx.get id:=fun id hh=>by rw[hH3,ag,if_neg hh]
  have jB:H3.get Hb.next=some Bb:=by rw[hH3,ag,if_pos rfl]
  refine W.env fun E2 hE2=>?_;have m5:E2 5=.ptr (H.next+3) 0 0:=by rw[hE2];simp only[go_sem,dp,k5]
  have m6:E2 6=.ptr H'.next 0 0:=by rw[hE2];simp only[go_sem,dp,k6]
  have m9:E2 9=aa (weight ns w):=by rw[hE2];simp only[go_sem,dp]
  clear hE2;have l3:=ah ((o3 (H.next+3) (by omega)).trans ((hh2 _ (by omega) (by omega)).trans ((oa _ (by omega)).trans ((hk _ (by omega) (by omega)).trans g3))));have l6:=ah ((o3 H'.next (by omega)).trans ((hh2 _ (by omega) (by omega)).trans ((oab _ (by omega)).trans ka)));have l2:=ah ((o3 (H.next+2) (by omega)).trans hh3);have hml:=My ns xs i hi;have hil:i<(fE ns xs i).length:=by omega
  have mt1:=mt (k+1);have es:((D.take (k+1)).map (weight ns)).sum=((D.take k).map (weight ns)).sum+weight ns w:=by rw[aL hw];simp
  rw[es]at mt1;have w2:=IntWalk.i64_in (((D.take k).map (weight ns)).sum+weight ns w) (by omega);have hgv:((fE ns xs i).set i ((D.take k).map (weight ns)).sum)[i]?=some ((D.take k).map (weight ns)).sum:=List.getElem?_set_self hil;refine ab _ _ _ (by rfl) ?_;simp only[go_sem,m5,m6,m9,l2,l3,l6,hb,hgv,w2,mv];refine⟨by rw[List.length_set];omega,?_⟩;obtain⟨H4,hH4⟩:∃ H4,H4=H3.upd (H.next+2) (.arr 0 3 (setAt (ints ((fE ns xs i).set i ((D.take k).map (weight ns)).sum)) i [.lit (.int .i64 (((D.take k).map (weight ns)).sum+weight ns w))])):=⟨_,rfl⟩
  rw[<- hH4];have n4:H4.next=Hx.next:=by rw[hH4];exact n3
  have k4:∀ id,id≠H.next+2->id≠Hb.next->H4.get id=Hx.get id:=fun id h1 h2=>by rw[hH4,ag,if_neg h1,o3 id h2]
  have e4:H4.get (H.next+2)=some (.arr 0 3 (ints ((fE ns xs i).set i ((D.take (k+1)).map (weight ns)).sum))):=by
   rw[hH4,ag,if_pos rfl,dM (by rw[List.length_set];omega),List.set_set,es]
  exact⟨by rw[hH4,ag,if_neg (by omega)];exact jB,by omega,⟨by omega,fun id h1 h2=>(k4 id h2 (by omega)).trans (hh2 id h1 h2),e4⟩,fun id h1 h2=>k4 id (by omega) (by omega)⟩
 ·rw[hDl,List.take_of_length_le (Nat.le_refl _),<- hm]at hj;simp only[go_sem,k17,w1];have hi1:(i:Int)<xs.length:=hb;refine⟨by omega,⟨i+1,rfl,by omega,by omega,fun id h1 h2=>(hj.2.1 id (by omega) h2).trans ((oa id (by omega)).trans (hk id h1 h2)),by rw[Mz hr];exact hj.2.2⟩,by rw[h17];simp only[aa,aK];omega⟩
end Go.Proofs
namespace Go.Proofs
def before (r:Nat->Int)(i j:Nat):Prop:=r j<r i\/(r i=r j/\i<j)
theorem Qo {r:Nat->Int}{i j:Nat}(h:before r i j):¬ before r j i:=fun k=>by unfold before at *;omega
theorem DB {r:Nat->Int}{i j:Nat}(h:i≠j):before r i j\/before r j i:=by unfold before;omega
structure Top (r:Nat->Int)(n k:Nat)(M:Nat->Bool):Prop where
 count:(List.range n).countP M=k
 first:∀ i j,i<n->j<n->M i=true->M j=false->before r i j
theorem Qp {l:List Nat}{p q:Nat->Bool}(h:∀ x∈l,p x=true->q x=true){a:Nat}(ha:a∈l)(hp:p a=false)(hq:q a=true):l.countP p<l.countP q:=by
 induction l with
 | nil=>cases ha
 | cons x l ih =>
  have hm:l.countP p<=l.countP q:=List.countP_mono_left fun y hy=>h y (by simp [hy]);rcases List.mem_cons.1 ha with rfl|ha
  ·rw[List.countP_cons,List.countP_cons,hp,hq];simp;omega
  ·have:=ih (fun y hy=>h y (by simp [hy])) ha;have hx:=h x (by simp);rw[List.countP_cons,List.countP_cons];cases hpx:p x
   ·simp;omega
   ·rw[hx hpx];simp;omega
theorem Top.unique {r:Nat->Int}{n k:Nat}{M M':Nat->Bool}(h:Top r n k M)(h':Top r n k M'):∀ i,i<n->M i=M' i:=by
 have key:∀ {M M':Nat->Bool},Top r n k M->Top r n k M'->∀ i,i<n->M i=true->M' i=true:=by
  intro M M' h h' i hi hm;rcases Bool.eq_false_or_eq_true (M' i) with e|e
  ·exact e
    -- some place of M' is not in M
  have:∃ j,j<n/\M' j=true/\M j=false:=by
   refine Classical.byContradiction fun hno=>?_;have hsub:∀ x∈List.range n,M' x=true->M x=true:=fun x hx hx'=>by
    rcases Bool.eq_false_or_eq_true (M x) with e|e
    ·exact e
    ·exact absurd ⟨x,List.mem_range.1 hx,hx',e⟩ hno
   have:=Qp hsub (List.mem_range.2 hi) e hm;rw[h.count,h'.count]at this;omega
  obtain⟨j,hj,a,b⟩:=this;exact absurd (h'.first j i hj hi a e) (Qo (h.first i j hi hj hm b))
 intro i hi;have a:=key h h' i hi;have b:=key h' h i hi;cases h1:M i<;>cases h2:M' i<;>simp_all
theorem Top.zero {r:Nat->Int}{n:Nat}:Top r n 0 (fun _=>false):=⟨by simp,fun _ _ _ _ h=>by cases h⟩
theorem Top.step {r:Nat->Int}{n k b:Nat}{M:Nat->Bool}(h:Top r n k M)(hb:b<n)(hm:M b=false)(hmin:∀ j,j<n->M j=false->j≠b->before r b j):
  Top r n (k+1) (fun i=>decide (i=b) || M i) where
 count:=by
  have:∀ l:List Nat,l.Nodup->b∈l->l.countP (fun i=>decide (i=b) || M i)=l.countP M+1:=by
   intro l
   induction l with
   | nil=>intro _ h;cases h
   | cons x l ih =>
    intro hnd hmem;obtain⟨h1,h2⟩:=List.nodup_cons.1 hnd;rw[List.countP_cons,List.countP_cons];rcases List.mem_cons.1 hmem with rfl|hmem
    ·have:l.countP (fun i=>decide (i=b) || M i)=l.countP M:=List.countP_congr fun y hy=>by
      have:y≠b:=(by rintro rfl;exact h1 hy);simp [this]
     rw[this];simp [hm]
    ·have hx:x≠b:=(by rintro rfl;exact h1 hmem);rw[ih h2 hmem];simp [hx];omega
  rw[this _ List.nodup_range (List.mem_range.2 hb),h.count]
 first i j hi hj h1 h2:=by
  simp only[Bool.or_eq_true,decide_eq_true_eq,Bool.or_eq_false_iff,decide_eq_false_iff_not]at h1 h2;rcases h1 with rfl|h1
  ·exact hmin j hj h2.2 h2.1
  ·exact h.first i j hi hj h1 h2.2
theorem Top.sorted {r:Nat->Int}{n k:Nat}{l:List Nat}(hp:l.Perm (List.range n))(hs:l.Pairwise (before r))(hk:k<=n):Top r n k (fun i=>decide (i∈l.take k)) where
 count:=by
  rw[<- hp.countP_eq];have hnd:l.Nodup:=hp.nodup_iff.2 List.nodup_range;have hl:l.length=n:=by simpa using hp.length_eq
  conv=>lhs;rw[<- List.take_append_drop k l]
  rw[List.countP_append];have e1:(l.take k).countP (fun i=>decide (i∈(List.take k l++List.drop k l).take k))=k:=by
   have:(l.take k).length=k:=by simp;omega
   conv=>rhs;rw[<- this]
   rw[List.countP_eq_length];intro x hx;simpa using hx
  have e2:(l.drop k).countP (fun i=>decide (i∈(List.take k l++List.drop k l).take k))=0:=by
   rw[List.countP_eq_zero];intro x hx;rw[List.take_append_drop];simp only[decide_eq_true_eq];intro hx2;have:=(List.take_append_drop k l) ▸ hnd;rw[List.nodup_append]at this;exact this.2.2 x hx2 x hx rfl
  rw[e1,e2];rfl
 first i j hi hj h1 h2:=by
  simp only[decide_eq_true_eq,decide_eq_false_iff_not]at h1 h2;have hjl:j∈l:=hp.mem_iff.2 (List.mem_range.2 hj);rw[<- List.take_append_drop k l]at hjl hs;rcases List.mem_append.1 hjl with h|h
  ·exact absurd h h2
  ·exact(List.pairwise_append.1 hs).2.2 i h1 j h
def dT (c:List Int):List Int:=if 0<c.sum then c else List.replicate c.length 1
def cV (c:List Int):Int:=if 0<c.sum then c.sum else c.length
def partAt (sp:Int)(c:List Int)(i:Nat):Int:=sp*(dT c).getD i 0 / cV c
def bH (sp:Int)(c:List Int)(i:Nat):Int:=sp*(dT c).getD i 0 % cV c
def cW (grain least:Int)(c:List Int):Int:=grain - least*c.length
def dN (sp:Int)(c:List Int):Int:=sp - ((List.range c.length).map (partAt sp c)).sum
theorem DC (c:List Int):(dT c).length=c.length:=by unfold dT;split<;>simp
theorem DD (c:List Int):(dT c).sum=cV c:=by
 unfold dT cV;split
 ·rfl
 ·simp
theorem DE {c:List Int}(h:∀ x∈c,0<=x):∀ x∈dT c,0<=x:=by
 unfold dT;split
 ·exact h
 ·intro x hx;rw[List.mem_replicate]at hx;omega
theorem nE {c:List Int}(h:0<c.length):0<cV c:=by unfold cV;split<;>omega
theorem Qq:∀ (l:List Int),((List.range l.length).map fun i=>l.getD i 0).sum=l.sum:=by
 intro l;have:((List.range l.length).map fun i=>l.getD i 0)=l:=by
  apply List.ext_getElem
  ·simp
  ·intro i h1 h2;simp at h1 ⊢;simp [h1]
 rw[this]
theorem uR (l:List Nat)(f g:Nat->Int):(l.map fun i=>f i+g i).sum=(l.map f).sum+(l.map g).sum:=by
 induction l with
 | nil=>rfl
 | cons x l ih=>simp only[List.map_cons,List.sum_cons,ih];omega
theorem yO (l:List Nat)(k:Int)(f:Nat->Int):(l.map fun i=>k*f i).sum=k*(l.map f).sum:=by
 induction l with
 | nil=>simp
 | cons x l ih=>simp only[List.map_cons,List.sum_cons,ih];rw[Int.mul_add]
theorem Qr {l:List Nat}{f:Nat->Int}{b:Int}(h:∀ i∈l,f i<=b):(l.map f).sum<=b*l.length:=by
 induction l with
 | nil=>simp
 | cons x l ih =>
  have h1:=ih fun i hi=>h i (by simp [hi]);have h2:=h x (by simp);simp only[List.map_cons,List.sum_cons,List.length_cons];have:b*((l.length+1:Nat):Int)=b*l.length+b:=by push_cast;rw[Int.mul_add];simp
  omega
theorem Qs {l:List Nat}{f:Nat->Int}(h:∀ i∈l,0<=f i):0<=(l.map f).sum:=by
 induction l with
 | nil=>simp
 | cons x l ih =>
  have h1:=ih fun i hi=>h i (by simp [hi]);have h2:=h x (by simp);simp only[List.map_cons,List.sum_cons];omega
theorem rJ {sp:Int}{c:List Int}(h:0<c.length)(i:Nat):0<=bH sp c i/\bH sp c i<cV c :=
 ⟨Int.emod_nonneg _ (by have:=nE h;omega),Int.emod_lt_of_pos _ (nE h)⟩
theorem Qt {sp:Int}{c:List Int}(h:0<c.length):dN sp c*cV c=((List.range c.length).map (bH sp c)).sum:=by
 have e:∀ i,sp*(dT c).getD i 0=cV c*partAt sp c i+bH sp c i:=fun i=>by
  unfold partAt bH;exact(Int.mul_ediv_add_emod _ _).symm
 have h1:((List.range c.length).map fun i=>sp*(dT c).getD i 0).sum=sp*cV c:=by
  rw[yO,<- DC c,Qq,DD]
 have h2:((List.range c.length).map fun i=>sp*(dT c).getD i 0).sum=cV c*((List.range c.length).map (partAt sp c)).sum+((List.range c.length).map (bH sp c)).sum:=by
  rw[<- yO,<- uR];congr 1;exact List.map_congr_left fun i _=>e i
 unfold dN;rw[Int.sub_mul,<- h1,h2,Int.mul_comm (cV c)];omega
theorem uS {sp:Int}{c:List Int}(h:0<c.length):0<=dN sp c/\dN sp c<c.length:=by
 have hT:=nE h;have e:=Qt (sp:=sp) h;have h0:0<=((List.range c.length).map (bH sp c)).sum:=Qs fun i _=>(rJ h i).1;have h1:((List.range c.length).map (bH sp c)).sum<=(cV c - 1)*(List.range c.length).length:=Qr fun i _=>by have:=(rJ (sp:=sp) h i).2;omega
 rw[<- e]at h0 h1;simp only[List.length_range]at h1;constructor
 ·exact Classical.byContradiction fun hn=>by
   have:dN sp c*cV c<0:=Int.mul_neg_of_neg_of_pos (by omega) hT;omega
 ·exact Classical.byContradiction fun hn=>by
   have h3:(c.length:Int)*cV c<=dN sp c*cV c:=Int.mul_le_mul_of_nonneg_right (by omega) (by omega);have h4:(cV c - 1)*(c.length:Int)=c.length*cV c - c.length:=(by rw[Int.sub_mul,Int.mul_comm];omega);omega
def cQ (least sp:Int)(c:List Int)(M:Nat->Bool):List Int:=(List.range c.length).map fun i=>least+partAt sp c i+if M i then 1 else 0
def je (least sp:Int)(c s:List Int):Prop:=∃ M,Top (bH sp c) c.length (dN sp c).toNat M/\s=cQ least sp c M
theorem je.unique {least sp:Int}{c s s':List Int}(h:je least sp c s)(h':je least sp c s'):s=s':=by
 obtain⟨M,h1,rfl⟩:=h;obtain⟨M',h2,rfl⟩:=h';unfold cQ;apply List.map_congr_left;intro i hi;rw[h1.unique h2 i (List.mem_range.1 hi)]
end Go.Proofs
namespace Go.Proofs
def cI (n:Nat)(f:Nat->Int):Int:=((List.range n).map f).sum
theorem uT (n:Nat)(f g:Nat->Int):cI n (fun i=>f i+g i)=cI n f+cI n g:=uR _ _ _
theorem rK (n:Nat)(k:Int)(f:Nat->Int):cI n (fun i=>k*f i)=k*cI n f:=yO _ _ _
theorem uU {n:Nat}{f g:Nat->Int}(h:∀ i,i<n->f i=g i):cI n f=cI n g:=by
 unfold cI;rw[List.map_congr_left fun i hi=>h i (List.mem_range.1 hi)]
theorem Qu {l:List Nat}{f g:Nat->Int}(h:∀ i∈l,f i<=g i):(l.map f).sum<=(l.map g).sum:=by
 induction l with
 | nil=>simp
 | cons x l ih =>
  have h1:=ih fun i hi=>h i (by simp [hi]);have h2:=h x (by simp);simp only[List.map_cons,List.sum_cons];omega
theorem yQ {n:Nat}{f g:Nat->Int}(h:∀ i,i<n->f i<=g i):cI n f<=cI n g:=Qu fun i hi=>h i (List.mem_range.1 hi)
theorem yR (l:List Nat)(p:Nat->Bool):((l.countP p:Nat):Int)=(l.map fun i=>if p i then (1:Int) else 0).sum:=by
 induction l with
 | nil=>rfl
 | cons x l ih =>
  rw[List.countP_cons];cases h:p x
  ·simp [ih,h]
  ·simp [ih,h];omega
theorem threshold (l:List Nat)(p:Nat->Bool)(g:Nat->Int):∃ θ:Int,0<=θ/\(∀ i∈l,p i=true->g i<=θ)/\(θ=0\/∃ i∈l,p i=true/\θ=g i):=by
 induction l with
 | nil=>exact⟨0,by omega,fun i h=>(by cases h),.inl rfl⟩
 | cons x l ih =>
  obtain⟨θ,h0,h1,h2⟩:=ih;by_cases hx:p x=true/\θ<g x
  ·refine⟨g x,by omega,fun i hi hp=>?_,.inr ⟨x,by simp,hx.1,rfl⟩⟩;rcases List.mem_cons.1 hi with rfl|hi
   ·exact Int.le_refl _
   ·have:=h1 i hi hp;omega
  ·refine⟨θ,h0,fun i hi hp=>?_,?_⟩
   ·rcases List.mem_cons.1 hi with rfl|hi
    ·exact Classical.byContradiction fun hn=>hx ⟨hp,by omega⟩
    ·exact h1 i hi hp
   ·rcases h2 with h2|⟨i,hi,hp,he⟩
    ·exact .inl h2
    ·exact .inr ⟨i,by simp [hi],hp,he⟩
theorem DF {n:Nat}{M N:Nat->Bool}{g:Nat->Int}(hg:∀ i,i<n->0<=g i)(hM:∀ i j,i<n->j<n->M i=true->M j=false->g i<=g j)(hc:(List.range n).countP M<=(List.range n).countP N):
  cI n (fun i=>if M i then g i else 0)<=cI n (fun i=>if N i then g i else 0):=by
 obtain⟨θ,h0,h1,h2⟩:=threshold (List.range n) M g;have h3:∀ j,j<n->M j=false->θ<=g j:=fun j hj hm=>by
  rcases h2 with rfl|⟨i,hi,hp,rfl⟩
  ·exact hg j hj
  ·exact hM i j (List.mem_range.1 hi) hj hp hm
 have hpt:cI n (fun i=>(if M i then g i else 0)+θ*(if N i then 1 else 0))<=cI n (fun i=>(if N i then g i else 0)+θ*(if M i then 1 else 0)):=by
  refine yQ fun i hi=>?_;have a:=h1 i (List.mem_range.2 hi);have b:=h3 i hi;cases hm:M i<;>cases hn:N i
  ·simp
  ·simp;exact b hm
  ·simp;exact a hm
  ·simp
 rw[uT,uT,rK,rK]at hpt;have e1:cI n (fun i=>if M i then (1:Int) else 0)=((List.range n).countP M:Nat):=(yR _ _).symm;have e2:cI n (fun i=>if N i then (1:Int) else 0)=((List.range n).countP N:Nat):=(yR _ _).symm;rw[e1,e2]at hpt;have h4:θ*((List.range n).countP M:Nat)<=θ*((List.range n).countP N:Nat):=Int.mul_le_mul_of_nonneg_left (by omega) h0;omega
def mo (d:Int):Int:=max d (-d)
def gY (d:Int):Int:=max d 0
theorem Qv (d:Int):mo d=2*gY d+(-1)*d:=by unfold mo gY;omega
theorem abs_neg (d:Int):mo d=2*gY (-d)+d:=by unfold mo gY;omega
theorem DG {n:Nat}{f:Nat->Int}(h:cI n f=0):cI n (fun i=>mo (f i))=2*cI n (fun i=>gY (f i)):=by
 rw[uU fun i _=>Qv _,uT,rK,rK,h];omega
theorem DH {n:Nat}{f:Nat->Int}(h:cI n f=0):cI n (fun i=>mo (f i))=2*cI n (fun i=>gY (-f i)):=by
 rw[uU fun i _=>abs_neg _,uT,rK,h];omega
theorem DI (l:List Nat)(p:Nat->Bool):l.countP (fun i=>!p i)+l.countP p=l.length:=by
 induction l with
 | nil=>rfl
 | cons x l ih =>
  rw[List.countP_cons,List.countP_cons,List.length_cons];cases h:p x<;>simp<;>omega
theorem nearest {n:Nat}{t k:Nat}{ρ q x:Nat->Int}{M:Nat->Bool}(hρ:∀ i,i<n->0<=ρ i/\ρ i<t)(hM:Top ρ n k M)
  (h0:cI n (fun i=>(t:Int)*(q i+(if M i then 1 else 0)) - (t*q i+ρ i))=0) (h1:cI n (fun i=>(t:Int)*x i - (t*q i+ρ i))=0):
  cI n (fun i=>mo (t*(q i+(if M i then 1 else 0)) - (t*q i+ρ i)))<=cI n (fun i=>mo (t*x i - (t*q i+ρ i))):=by
 let N:Nat->Bool:=fun i=>decide (q i+1<=x i)
 have ge:∀ i j,i<n->j<n->M i=true->M j=false->ρ j<=ρ i:=fun i j hi hj a b=>by
  have:=hM.first i j hi hj a b;unfold before at this;omega
 rcases Nat.le_total k ((List.range n).countP N) with hk|hk
 ·rw[DG h0,DG h1];have a1:cI n (fun i=>gY (t*(q i+(if M i then 1 else 0)) - (t*q i+ρ i)))=cI n (fun i=>if M i then t - ρ i else 0):=uU fun i hi=>by
   have:=hρ i hi;rw[Int.mul_add];unfold gY;cases M i<;>simp<;>omega
  have a2:cI n (fun i=>if N i then t - ρ i else 0)<=cI n (fun i=>gY (t*x i - (t*q i+ρ i))):=yQ fun i hi=>by
   have:=hρ i hi;unfold gY;by_cases h:q i+1<=x i
   ·have h5:(t:Int)*(q i+1)<=t*x i:=Int.mul_le_mul_of_nonneg_left h (by omega);rw[Int.mul_add]at h5;simp only[N,h,decide_true,if_true];omega
   ·simp only[N,h,decide_false,Bool.false_eq_true,if_false];omega
  have a3:=DF (M:=M) (N:=N) (g:=fun i=>t - ρ i) (fun i hi=>by have:=hρ i hi;omega) (fun i j hi hj a b=>by have:=ge i j hi hj a b;omega) (by rw[hM.count];exact hk);rw[a1];omega
 ·rw[DH h0,DH h1];have a1:cI n (fun i=>gY (-(t*(q i+(if M i then 1 else 0)) - (t*q i+ρ i))))=cI n (fun i=>if !M i then ρ i else 0):=uU fun i hi=>by
   have:=hρ i hi;rw[Int.mul_add];unfold gY;cases M i<;>simp<;>omega
  have a2:cI n (fun i=>if !N i then ρ i else 0)<=cI n (fun i=>gY (-(t*x i - (t*q i+ρ i)))):=yQ fun i hi=>by
   have:=hρ i hi;unfold gY;by_cases h:q i+1<=x i
   ·simp only[N,h,decide_true,Bool.not_true,Bool.false_eq_true,if_false];omega
   ·have h5:(t:Int)*x i<=t*q i:=Int.mul_le_mul_of_nonneg_left (by omega) (by omega);simp only[N,h,decide_false,Bool.not_false,if_true];omega
  have c1:=DI (List.range n) M;have c2:=DI (List.range n) N;have a3:=DF (M:=fun i=>!M i) (N:=fun i=>!N i) (g:=ρ) (fun i hi=>(hρ i hi).1) (fun i j hi hj a b=>by
   simp only[Bool.not_eq_true',Bool.not_eq_false']at a b;exact ge j i hj hi b a) (by have:=hM.count;omega)
  rw[a1];omega
end Go.Proofs
namespace Go.Proofs
theorem jf (least sp:Int)(c:List Int)(M:Nat->Bool):(cQ least sp c M).length=c.length:=by simp [cQ]
theorem mq {least sp:Int}{c:List Int}{M:Nat->Bool}{i:Nat}(h:i<c.length):(cQ least sp c M)[i]?=some (least+partAt sp c i+if M i then 1 else 0):=by
 unfold cQ;rw[List.getElem?_map,List.getElem?_range h];rfl
theorem Qw (n:Nat)(a:Int):((List.range n).map fun _=>a).sum=a*n:=by
 induction n with
 | zero=>simp
 | succ n ih=>rw[List.range_succ,List.map_append,List.sum_append,ih];simp;rw[Int.mul_add,Int.mul_one]
theorem Qx {c:List Int}(h:∀ x∈c,0<=x)(i:Nat):0<=(dT c).getD i 0:=by
 rw[List.getD_eq_getElem?_getD];cases e:(dT c)[i]? with
 | none=>exact Int.le_refl _
 | some a=>exact DE h a (List.mem_of_getElem? e)
theorem rL {c:List Int}(h:∀ x∈c,0<=x)(h0:0<c.length){sp:Int}(hs:0<=sp)(i:Nat):0<=partAt sp c i :=
 Int.ediv_nonneg (Int.mul_nonneg hs (Qx h i)) (Int.le_of_lt (nE h0))
theorem Qy {least grain:Int}{c s:List Int}(h0:0<c.length)(h:je least (cW grain least c) c s):s.length=c.length/\s.sum=grain:=by
 obtain⟨M,hM,rfl⟩:=h;refine⟨jf ..,?_⟩;have hb:=uS (sp:=cW grain least c) h0;have hc:=yR (List.range c.length) M;rw[hM.count]at hc;have e1:(cQ least (cW grain least c) c M).sum=((List.range c.length).map fun _=>least).sum+(((List.range c.length).map (partAt (cW grain least c) c)).sum+((List.range c.length).map fun i=>if M i then (1:Int) else 0).sum):=by
  rw[<- uR,<- uR];unfold cQ;congr 1;exact List.map_congr_left fun i _=>by omega
 rw[e1,Qw,<- hc];have:((dN (cW grain least c) c).toNat:Int)=dN (cW grain least c) c:=by omega
 rw[this];unfold dN cW;omega
theorem Qz {least grain:Int}{c s:List Int}(hc:∀ x∈c,0<=x)(h0:0<c.length)(hs:0<=cW grain least c)(h:je least (cW grain least c) c s):∀ x∈s,least<=x:=by
 obtain⟨M,hM,rfl⟩:=h;intro x hx;unfold cQ at hx;obtain⟨i,hi,rfl⟩:=List.mem_map.1 hx;have:=rL hc h0 hs i;split<;>omega
theorem DJ:∀ {l:List Int},(∀ x∈l,0<=x)->∀ x∈l,x<=l.sum
 | a :: l,h,x,hx=>by
  have h1:0<=l.sum:=by
   have:∀ l:List Int,(∀ x∈l,0<=x)->0<=l.sum:=by
    intro l
    induction l with
    | nil=>intro _;simp
    | cons b l ih=>intro h;have:=h b (by simp);have:=ih fun x hx=>h x (by simp [hx]);rw[List.sum_cons];omega
   exact this l fun x hx=>h x (by simp [hx])
  rw[List.sum_cons];rcases List.mem_cons.1 hx with rfl|hx
  ·omega
  ·have:=DJ (fun y hy=>h y (by simp [hy])) x hx;have:=h a (by simp);omega
end Go.Proofs
namespace Go.Proofs
open Go.Hx
theorem pO {α:Type}(l:List α)(i j:Nat)(a d:α)(hi:i<l.length):(l.set i a).getD j d=if i=j then a else l.getD j d:=by
 rw[List.getD_eq_getElem?_getD,List.getD_eq_getElem?_getD,List.getElem?_set];by_cases h:i=j
 ·subst h;rw[if_pos rfl,if_pos hi,if_pos rfl];rfl
 ·rw[if_neg h,if_neg h]
theorem jI {l:List Nat}{i:Nat}(h:i<l.length):l[i]?=some (l.getD i 0):=by
 rw[List.getD_eq_getElem?_getD,List.getElem?_eq_getElem h];rfl
def cf (l:List Nat)(i j:Nat):List Nat:=(l.set i (l.getD j 0)).set j (l.getD i 0)
theorem QA (l:List Nat)(i j:Nat):(cf l i j).length=l.length:=by simp [cf]
theorem QB {l:List Nat}{i j:Nat}(hi:i<l.length)(hj:j<l.length)(hij:i≠j)(a:Nat):(cf l i j).getD a 0=if a=j then l.getD i 0 else if a=i then l.getD j 0 else l.getD a 0:=by
 unfold cf;rw[pO _ _ _ _ _ (by rw[List.length_set];exact hj),pO _ _ _ _ _ hi];by_cases h1:a=j
 ·rw[if_pos h1,if_pos h1.symm]
 ·rw[if_neg h1,if_neg fun h=>h1 h.symm];by_cases h2:a=i
  ·rw[if_pos h2,if_pos h2.symm]
  ·rw[if_neg h2,if_neg fun h=>h2 h.symm]
def DK (f:Nat->Nat)(l:List Nat)(n:Nat):Prop:=∀ a b,a<b->b<n->f (l.getD a 0)<=f (l.getD b 0)
theorem QC {l:List Nat}{i j:Nat}(hi:i<l.length)(hj:j<l.length):(cf l i j).Perm l:=by
 unfold cf;rw[List.getD_eq_getElem?_getD,List.getD_eq_getElem?_getD,List.getElem?_eq_getElem hi,List.getElem?_eq_getElem hj];exact List.set_set_perm hi hj
def nF (r:Nat->Int)(T n:Nat)(i:Nat):Nat:=(T - (r i).toNat)*n+i
theorem uV {r:Nat->Int}{T n:Nat}(hr:∀ i,i<n->0<=r i/\r i<T){i j:Nat}(hi:i<n)(hj:j<n):nF r T n i<nF r T n j↔before r i j:=by
 have h1:=hr i hi;have h2:=hr j hj;unfold nF before;obtain⟨a,ha⟩:∃ a,a=T - (r i).toNat:=⟨_,rfl⟩
 obtain⟨b,hb⟩:∃ b,b=T - (r j).toNat:=⟨_,rfl⟩
 rw[<- ha,<- hb];rcases Nat.lt_trichotomy a b with h|h|h
 ·have:(a+1)*n<=b*n:=Nat.mul_le_mul_right _ h;rw[Nat.add_mul,Nat.one_mul]at this;constructor
  ·intro _;left;omega
  ·intro _;omega
 ·subst h;constructor
  ·intro h;right;omega
  ·rintro(h|h)<;>omega
 ·have:(b+1)*n<=a*n:=Nat.mul_le_mul_right _ h;rw[Nat.add_mul,Nat.one_mul]at this;constructor
  ·intro h;omega
  ·rintro(h|h)<;>omega
theorem QD {r:Nat->Int}{T n:Nat}(hr:∀ i,i<n->0<=r i/\r i<T){l:List Nat}(hp:l.Perm (List.range n))(hs:DK (nF r T n) l l.length):l.Pairwise (before r):=by
 have hm:∀ a∈l,a<n:=fun a ha=>List.mem_range.1 (hp.mem_iff.1 ha);have hnd:l.Nodup:=hp.nodup_iff.2 List.nodup_range;rw[List.pairwise_iff_getElem];intro i j hi hj hij;have h:=hs i j hij hj;rw[List.getD_eq_getElem?_getD,List.getD_eq_getElem?_getD,List.getElem?_eq_getElem hi,List.getElem?_eq_getElem hj]at h;simp only[Option.getD_some]at h;have hne:l[i]≠l[j]:=fun e=>by
  have:=(List.getElem?_inj hi hnd).1 (show l[i]?=l[j]? by rw[List.getElem?_eq_getElem hi,e,<- List.getElem?_eq_getElem hj]);omega
 rcases DB hne (r:=r) with b|b
 ·exact b
 ·have:=(uV hr (hm _ (List.getElem_mem hj)) (hm _ (List.getElem_mem hi))).2 b;omega
end Go.Proofs
namespace Go.Hx
variable {P:Program} {G:Nat->Option (List AVal)} {Γ Γ':aC} {H H':AHeap} {w w':World}
theorem W.de {n:Nat}{rd:Option Nat}{Q:AX->St->Prop}{s:St}{x y:Code}(Φ:St->Prop)(h:W P G n rd x (fun ax s'=>ax=.normal/\Φ s') s)(h2:∀ s',Φ s'->W P G n rd y Q s'):W P G n rd (.seq x y) Q s :=
 W.seq (h.mono fun ax s' ⟨e,hp⟩=>by subst e;exact h2 s' hp)
theorem Cx {H:AHeap}{id:Nat}{b:Blk}(h:H.get id=some b):H.upd id b=H:=by
 have e:(fun j=>if j=id then some b else H.get j)=H.get:=by
  funext j
  by_cases hj:j=id
  ·rw[if_pos hj,hj,h]
  ·rw[if_neg hj]
 show AHeap.mk (fun j=>if j=id then some b else H.get j) H.next=H;rw[e]
theorem lV (H:AHeap)(id:Nat)(b c:Blk):(H.upd id b).upd id c=H.upd id c:=by
 unfold AHeap.upd;congr 1
 funext j
 by_cases hj:j=id<;>simp [hj]
end Go.Hx
namespace Go.Proofs
open Go.Hx
def dL (l:List Nat):List Int:=l.map fun (v:Nat)=>(v:Int)
theorem pE (l:List Nat):(dL l).length=l.length:=by simp [dL]
theorem yu {l:List Nat}{i k:Nat}(h:l[i]?=some k):(dL l)[i]?=some (k:Int):=by simp [dL,h]
theorem Cy (l:List Nat)(i k:Nat):(dL l).set i (k:Int)=dL (l.set i k):=by unfold dL;rw[List.map_set]
def nB (g:Nat)(q:List Nat):Blk:=.arr g 3 (ints (dL q))
def CD (cv:AVal)(f:Nat->Nat)(l:List Nat)(Inv:AHeap->Prop):Prop:=∀ a b,a∈l->b∈l->∀ Hx,Inv Hx->∃ z:Int,(z<0↔f a<f b)/\∀ K,K (.ret (aa z)) Hx->aB Try.prog G0 cv [aa (a:Nat),aa (b:Nat)] Hx K
def aZ (a b:Nat)(l l':List Nat):Prop:=l'.Perm l/\∀ i,i<a\/b<=i->l'.getD i 0=l.getD i 0
theorem aZ.refl (a b:Nat)(l:List Nat):aZ a b l l:=⟨.refl _,fun _ _=>rfl⟩
theorem aZ.trans {a b:Nat}{l m r:List Nat}(h:aZ a b l m)(k:aZ a b m r):aZ a b l r:=⟨k.1.trans h.1,fun i hi=>(k.2 i hi).trans (h.2 i hi)⟩
theorem aZ.len {a b:Nat}{l m:List Nat}(h:aZ a b l m):m.length=l.length:=h.1.length_eq
theorem aZ.mono {a b a' b':Nat}{l m:List Nat}(h:aZ a b l m)(ha:a'<=a)(hb:b<=b'):aZ a' b' l m:=⟨h.1,fun i hi=>h.2 i (by omega)⟩
theorem aZ.swap {a b i j:Nat}{l:List Nat}(h1:a<=i)(h2:i<b)(h3:a<=j)(h4:j<b)(hb:b<=l.length):aZ a b l (cf l i j):=by
 refine⟨QC (by omega) (by omega),fun k hk=>?_⟩;unfold cf;rw[pO _ _ _ _ _ (by rw[List.length_set];omega),pO _ _ _ _ _ (by omega),if_neg (by omega),if_neg (by omega)]
theorem rD {l:List Nat}{i j:Nat}(hi:i<l.length)(hj:j<l.length)(a:Nat):(cf l i j).getD a 0=if a=j then l.getD i 0 else if a=i then l.getD j 0 else l.getD a 0:=by
 unfold cf;rw[pO _ _ _ _ _ (by rw[List.length_set];exact hj),pO _ _ _ _ _ hi];by_cases h1:a=j
 ·rw[if_pos h1,if_pos h1.symm]
 ·rw[if_neg h1,if_neg fun h=>h1 h.symm];by_cases h2:a=i
  ·rw[if_pos h2,if_pos h2.symm]
  ·rw[if_neg h2,if_neg fun h=>h2 h.symm]
theorem CU {a b:Nat}{l:List Nat}{x:Nat}:x∈(l.take b).drop a↔∃ i,a<=i/\i<b/\i<l.length/\l.getD i 0=x:=by
 rw[List.mem_iff_getElem?];constructor
 ·rintro⟨k,hk⟩;rw[List.getElem?_drop,List.getElem?_take]at hk;split at hk
  ·exact⟨a+k,by omega,by omega,get_lt hk,by rw[List.getD_eq_getElem?_getD,hk];rfl⟩
  ·cases hk
 ·rintro⟨i,h1,h2,h3,h4⟩;refine⟨i - a,?_⟩;rw[List.getElem?_drop,List.getElem?_take,if_pos (by omega),show a+(i - a)=i by omega,jI h3,h4]
theorem CV {l m:List Nat}(hl:l.length=m.length)(h:∀ i,i<l.length->l.getD i 0=m.getD i 0):l=m:=by
 apply List.ext_getElem?;intro i;rcases Nat.lt_or_ge i l.length with hi|hi
 ·rw[jI hi,jI (by omega),h i hi]
 ·rw[List.getElem?_eq_none hi,List.getElem?_eq_none (by omega)]
theorem aZ.Pn {a b:Nat}{l m:List Nat}(h:aZ a b l m)(hab:a<=b)(hb:b<=l.length):((m.take b).drop a).Perm ((l.take b).drop a):=by
 have hl:=h.len;have e1:m.take a=l.take a:=CV (by simp [hl]) fun i hi=>by
  rw[List.length_take]at hi;rw[List.getD_eq_getElem?_getD,List.getD_eq_getElem?_getD,List.getElem?_take,List.getElem?_take,if_pos (by omega),if_pos (by omega),jI (by omega),jI (by omega),h.2 i (by omega)]
 have e2:m.drop b=l.drop b:=CV (by simp [hl]) fun i hi=>by
  rw[List.length_drop]at hi;rw[List.getD_eq_getElem?_getD,List.getD_eq_getElem?_getD,List.getElem?_drop,List.getElem?_drop,jI (by omega),jI (by omega),h.2 (b+i) (by omega)]
 have cut:∀ l:List Nat,l=l.take a++((l.take b).drop a++l.drop b):=fun l=>by
  rw[<- List.append_assoc];have:l.take a++(l.take b).drop a=l.take b:=by
   have:=List.take_append_drop a (l.take b);rw[List.take_take,Nat.min_eq_left hab]at this;exact this
  rw[this,List.take_append_drop]
 have hp:=h.1;rw[cut m,cut l,e1,e2]at hp;exact(List.perm_append_right_iff _).1 ((List.perm_append_left_iff _).1 hp)
theorem aZ.all {a b:Nat}{l m:List Nat}(h:aZ a b l m)(hb:b<=l.length){p:Nat->Prop}(hp:∀ i,a<=i->i<b->p (l.getD i 0)):∀ i,a<=i->i<b->p (m.getD i 0):=by
 intro i h1 h2;have hl:=h.len;have:m.getD i 0∈(m.take b).drop a:=CU.2 ⟨i,h1,h2,by omega,rfl⟩;obtain⟨k,k1,k2,_,k4⟩:=CU.1 ((h.Pn (by omega) hb).mem_iff.1 this);rw[<- k4];exact hp k k1 k2
def df (f:Nat->Nat)(l:List Nat)(a b:Nat):Prop:=∀ i j,a<=i->i<j->j<b->f (l.getD i 0)<=f (l.getD j 0)
def kh (f:Nat->Nat)(l:List Nat):Prop:=(l.map f).Nodup
theorem kh.perm {f:Nat->Nat}{l m:List Nat}(h:kh f l)(hp:m.Perm l):kh f m:=(hp.map f).nodup_iff.2 h
theorem kh.ne {f:Nat->Nat}{l:List Nat}(h:kh f l){i j:Nat}(hij:i≠j)(hi:i<l.length)(hj:j<l.length):f (l.getD i 0)≠f (l.getD j 0):=by
 intro e;have g:∀ k,k<l.length->(l.map f)[k]?=some (f (l.getD k 0)):=fun k hk=>by rw[List.getElem?_map,jI hk];rfl
 refine hij ((List.getElem?_inj (by rw[List.length_map];exact hi) h).1 ?_);rw[g i hi,g j hj,e]
def Bl (f:Nat->Nat)(l:List Nat)(a b:Nat):Prop:=a=0\/∀ i,a<=i->i<b->f (l.getD (a - 1) 0)<f (l.getD i 0)
theorem Bl.perm {f:Nat->Nat}{l m:List Nat}{a b:Nat}(h:Bl f l a b)(hp:aZ a b l m)(hb:b<=l.length):Bl f m a b:=by
 rcases h with h|h
 ·exact .inl h
 ·by_cases ha:a=0
  ·exact .inl ha
  ·refine .inr fun i h1 h2=>?_;rw[hp.2 (a - 1) (by omega)];exact hp.all hb (p:=fun x=>f (l.getD (a - 1) 0)<f x) h i h1 h2
def eb (k c:Nat):Prop:=c=2*k+1\/c=2*k+2
def gT (f:Nat->Nat)(l:List Nat)(a lo hi:Nat):Prop:=∀ k c,lo<=k->eb k c->c<hi->f (l.getD (a+c) 0)<=f (l.getD (a+k) 0)
def md (f:Nat->Nat)(l:List Nat)(a lo hi r:Nat):Prop :=
 (∀ k c,lo<=k->k≠r->eb k c->c<hi->f (l.getD (a+c) 0)<=f (l.getD (a+k) 0))/\∀ k c,lo<=k->eb k r->eb r c->c<hi->f (l.getD (a+c) 0)<=f (l.getD (a+k) 0)
theorem md.start {f:Nat->Nat}{l:List Nat}{a lo hi:Nat}(h:gT f l a (lo+1) hi):md f l a lo hi lo :=
 ⟨fun k c h1 h2 h3 h4=>h k c (by omega) h3 h4,fun k c h1 h2 h3 h4=>by unfold eb at h2;omega⟩
theorem md.done {f:Nat->Nat}{l:List Nat}{a lo hi r:Nat}(h:md f l a lo hi r)(hd:∀ c,eb r c->c<hi->f (l.getD (a+c) 0)<=f (l.getD (a+r) 0)):gT f l a lo hi:=fun k c h1 h3 h4=>by
 by_cases hk:k=r
 ·subst hk;exact hd c h3 h4
 ·exact h.1 k c h1 hk h3 h4
theorem md.step {f:Nat->Nat}{l:List Nat}{a lo hi r c:Nat}(h:md f l a lo hi r)(hlo:lo<=r)(hb:a+hi<=l.length)(hc:eb r c)(hci:c<hi)(hmax:∀ d,eb r d->d<hi->f (l.getD (a+d) 0)<=f (l.getD (a+c) 0))(hlt:f (l.getD (a+r) 0)<=f (l.getD (a+c) 0)):
  md f (cf l (a+r) (a+c)) a lo hi c:=by
 have hrc:r<c:=by unfold eb at hc;omega
 have g:=fun k=>rD (l:=l) (i:=a+r) (j:=a+c) (by omega) (by omega) (a+k);have gk:∀ k,k≠r->k≠c->(cf l (a+r) (a+c)).getD (a+k) 0=l.getD (a+k) 0:=fun k h1 h2=>by rw[g,if_neg (by omega),if_neg (by omega)]
 have gr:(cf l (a+r) (a+c)).getD (a+r) 0=l.getD (a+c) 0:=by rw[g,if_neg (by omega),if_pos rfl]
 have gc:(cf l (a+r) (a+c)).getD (a+c) 0=l.getD (a+r) 0:=by rw[g,if_pos rfl]
 constructor
 ·intro k d h1 h2 h3 h4;by_cases hk:k=r
  ·subst hk;rw[gr];by_cases hd:d=c
   ·subst hd;rw[gc];exact hlt
   ·rw[gk d (by unfold eb at h3;omega) hd];exact hmax d h3 h4
  ·rw[gk k hk h2];by_cases hd:d=r
   ·subst hd;rw[gr];exact h.2 k c h1 h3 hc hci
   ·rw[gk d hd (by unfold eb at h3 hc;omega)];exact h.1 k d h1 hk h3 h4
 ·intro k d h1 h2 h3 h4;obtain rfl:k=r:=by unfold eb at h2 hc;omega
  rw[gr,gk d (by unfold eb at h3;omega) (by unfold eb at h3;omega)];exact h.1 c d (by omega) (by omega) h3 h4
theorem gT.Po {f:Nat->Nat}{l:List Nat}{a lo hi:Nat}(h:hi<=2*lo+1):gT f l a lo hi:=fun k c h1 h2 h3=>by unfold eb at h2;omega
theorem gT.max {f:Nat->Nat}{l:List Nat}{a hi:Nat}(h:gT f l a 0 hi):∀ k,k<hi->f (l.getD (a+k) 0)<=f (l.getD a 0):=by
 intro k
 induction k using Nat.strongRecOn with
 | _ k ih =>
  intro hk;by_cases h0:k=0
  ·subst h0;exact Nat.le_refl _
  ·have h1:=h ((k - 1) / 2) k (by omega) (by unfold eb;omega) hk;exact Nat.le_trans h1 (ih _ (by omega) (by omega))
theorem gT.pop {f:Nat->Nat}{l:List Nat}{a i:Nat}(h:gT f l a 0 (i+1))(hb:a+i<l.length):gT f (cf l a (a+i)) a 1 i:=by
 intro k c h1 h2 h3;have g:=fun k=>rD (l:=l) (i:=a) (j:=a+i) (by omega) (by omega) (a+k);rw[g,g,if_neg (by omega),if_neg (by unfold eb at h2;omega),if_neg (by unfold eb at h2;omega),if_neg (by omega)];exact h k c (by omega) h2 (by omega)
def me (f:Nat->Nat)(l:List Nat)(a m b:Nat):Prop:=∀ i j,a<=i->i<j->j<b->m<=j->f (l.getD i 0)<=f (l.getD j 0)
theorem me.start {f:Nat->Nat}{l:List Nat}{a b:Nat}:me f l a b b:=fun i j h1 h2 h3 h4=>by omega
theorem me.done {f:Nat->Nat}{l:List Nat}{a b:Nat}(h:me f l a a b):df f l a b:=fun i j h1 h2 h3=>h i j h1 h2 h3 (by omega)
theorem me.step {f:Nat->Nat}{l m:List Nat}{a i b:Nat}(h:me f l a (a+(i+1)) b)(hh:gT f l a 0 (i+1))(hi:a+i<b)(hb:b<=l.length)(hp:aZ a (a+i) (cf l a (a+i)) m):me f m a (a+i) b:=by
 have g:=fun k=>rD (l:=l) (i:=a) (j:=a+i) (by omega) (by omega) k;have mx:=hh.max;have sl:(cf l a (a+i)).length=l.length:=QA ..;have big:∀ k,a<=k->k<a+i->f ((cf l a (a+i)).getD k 0)<=f (l.getD a 0):=fun k h1 h2=>by
  rw[g,if_neg (by omega)];split
  ·have:=mx i (by omega);exact this
  ·have:=mx (k - a) (by omega);rw[show a+(k - a)=k by omega]at this;exact this
 have big':=hp.all (by omega) (p:=fun x=>f x<=f (l.getD a 0)) big;have tail:∀ k,a+i<=k->m.getD k 0=(cf l a (a+i)).getD k 0:=fun k hk=>hp.2 k (.inr hk);intro x y h1 h2 h3 h4;rw[tail y h4];by_cases hy:y=a+i
 ·subst hy;rw[g,if_pos rfl];exact big' x h1 h2
 ·rw[g,if_neg hy,if_neg (by omega)];rcases Nat.lt_or_ge x (a+i) with hx|hx
  ·have e:∀ z,a<=z->z<a+i->f ((cf l a (a+i)).getD z 0)<=f (l.getD y 0):=fun z z1 z2=>Nat.le_trans (big z z1 z2) (h a y (by omega) (by omega) h3 (by omega));exact hp.all (by omega) (p:=fun x=>f x<=f (l.getD y 0)) e x h1 hx
  ·rw[tail x hx,g];split
   ·exact h a y (by omega) (by omega) h3 (by omega)
   ·rw[if_neg (by omega)];exact h x y h1 h2 h3 (by omega)
def Out (f:Nat->Nat)(l:List Nat)(a b c d:Nat):Prop:=∀ i j,a<=i->i<j->j<b->(i<c\/d<=j)->f (l.getD i 0)<=f (l.getD j 0)
theorem Out.start {f:Nat->Nat}{l:List Nat}{a b:Nat}:Out f l a b a b:=fun i j h1 h2 h3 h4=>by omega
theorem Out.perm {f:Nat->Nat}{l m:List Nat}{a b c d:Nat}(h:Out f l a b c d)(hp:aZ c d l m)(h1:a<=c)(h2:d<=b)(hb:b<=l.length):Out f m a b c d:=by
 intro i j q1 q2 q3 q4;by_cases hi:c<=i/\i<d
 ·have hj:d<=j:=by omega
  rw[hp.2 j (.inr hj)];exact hp.all (by omega) (p:=fun x=>f x<=f (l.getD j 0)) (fun k k1 k2=>h k j (by omega) (by omega) q3 (.inr hj)) i hi.1 hi.2
 ·rw[hp.2 i (by omega)];by_cases hj:c<=j/\j<d
  ·have hic:i<c:=(by omega);exact hp.all (by omega) (p:=fun x=>f (l.getD i 0)<=f x) (fun k k1 k2=>h i k q1 (by omega) (by omega) (.inl hic)) j hj.1 hj.2
  ·rw[hp.2 j (by omega)];exact h i j q1 q2 q3 q4
theorem Out.done {f:Nat->Nat}{l:List Nat}{a b c d:Nat}(h:Out f l a b c d)(hs:df f l c d):df f l a b:=fun i j h1 h2 h3=>by
 by_cases hc:i<c\/d<=j
 ·exact h i j h1 h2 h3 hc
 ·exact hs i j (by omega) h2 (by omega)
def mg (f:Nat->Nat)(l:List Nat)(c d m:Nat):Prop:=(∀ i,c<=i->i<m->f (l.getD i 0)<=f (l.getD m 0))/\∀ i,m<i->i<d->f (l.getD m 0)<=f (l.getD i 0)
theorem mg.le {f:Nat->Nat}{l:List Nat}{c d m:Nat}(h:mg f l c d m){i j:Nat}(h1:c<=i)(h2:j<d)(h3:i<=m)(h4:m<=j):f (l.getD i 0)<=f (l.getD j 0):=by
 have a1:f (l.getD i 0)<=f (l.getD m 0):=by
  rcases Nat.lt_or_ge i m with q|q
  ·exact h.1 i h1 q
  ·rw[show i=m by omega];exact Nat.le_refl _
 have a2:f (l.getD m 0)<=f (l.getD j 0):=by
  rcases Nat.lt_or_ge m j with q|q
  ·exact h.2 j q h2
  ·rw[show j=m by omega];exact Nat.le_refl _
 omega
theorem Out.left {f:Nat->Nat}{l m:List Nat}{a b c d p:Nat}(h:Out f l a b c d)(hp:mg f l c d p)(h1:c<=p)(h2:p<d)(h3:a<=c)(h4:d<=b)(hb:b<=l.length)(hm:aZ c p l m)(hs:df f m c p):Out f m a b (p+1) d:=by
 have hout:=h.perm (hm.mono (Nat.le_refl _) (show p<=d by omega)) h3 h4 hb;have hm':mg f m c d p:=by
  have ep:=hm.2 p (.inr (Nat.le_refl _));refine⟨fun i i1 i2=>?_,fun i i1 i2=>?_⟩
  ·rw[ep];exact hm.all (by omega) (p:=fun x=>f x<=f (l.getD p 0)) hp.1 i i1 i2
  ·rw[ep,hm.2 i (by omega)];exact hp.2 i i1 i2
 intro i j q1 q2 q3 q4;by_cases hc:i<c\/d<=j
 ·exact hout i j q1 q2 q3 hc
 ·rcases Nat.lt_or_ge j p with hj|hj
  ·exact hs i j (by omega) q2 hj
  ·exact hm'.le (by omega) (by omega) (by omega) hj
theorem Out.right {f:Nat->Nat}{l m:List Nat}{a b c d p:Nat}(h:Out f l a b c d)(hp:mg f l c d p)(h1:c<=p)(h2:p<d)(h3:a<=c)(h4:d<=b)(hb:b<=l.length)(hm:aZ (p+1) d l m)(hs:df f m (p+1) d):Out f m a b c p:=by
 have hout:=h.perm (hm.mono (show c<=p+1 by omega) (Nat.le_refl _)) h3 h4 hb;have hm':mg f m c d p:=by
  have ep:=hm.2 p (.inl (by omega));refine⟨fun i i1 i2=>?_,fun i i1 i2=>?_⟩
  ·rw[ep,hm.2 i (by omega)];exact hp.1 i i1 i2
  ·rw[ep];exact hm.all (by omega) (p:=fun x=>f (l.getD p 0)<=f x) (fun k k1 k2=>hp.2 k (by omega) k2) i (by omega) i2
 intro i j q1 q2 q3 q4;by_cases hc:i<c\/d<=j
 ·exact hout i j q1 q2 q3 hc
 ·rcases Nat.lt_or_ge p i with hi|hi
  ·exact hs i j (by omega) q2 (by omega)
  ·exact hm'.le (by omega) (by omega) hi (by omega)
theorem Out.bl {f:Nat->Nat}{l:List Nat}{a b c d:Nat}(h:Out f l a b c d)(hB:Bl f l a b)(hD:kh f l)(h1:a<=c)(h2:d<=b)(hb:b<=l.length):Bl f l c d:=by
 by_cases hc:c=a
 ·subst hc;rcases hB with q|q
  ·exact .inl q
  ·exact .inr fun i i1 i2=>q i i1 (by omega)
 ·refine .inr fun i i1 i2=>?_;have h1:=h (c - 1) i (by omega) (by omega) (by omega) (.inl (by omega));have h2:=hD.ne (i:=c - 1) (j:=i) (by omega) (by omega) (by omega);omega
structure SH (cv:AVal)(f:Nat->Nat)(rid:Nat)(rb:Blk)(id g n:Nat)(l:List Nat)(H:AHeap):Prop where
 hl:l.length=n
 hn:n<=1024
 hg:H.get id=some (nB g l)
 hr:H.get rid=some rb
 ne:rid≠id
 il:id<H.next
 rl:rid<H.next
 cmp:CD cv f l fun Hx=>Hx.get rid=some rb
section
variable {cv:AVal} {f:Nat->Nat} {rid:Nat} {rb:Blk} {id g n:Nat} {l q:List Nat} {H H':AHeap}
theorem SH.upd (S:SH cv f rid rb id g n l H)(hp:q.Perm l):SH cv f rid rb id g n q (H.upd id (nB g q)) :=
 ⟨by rw[hp.length_eq,S.hl],S.hn,by rw[ag,if_pos rfl],by rw[ag,if_neg S.ne];exact S.hr,S.ne,S.il,S.rl,fun a b ha hb=>S.cmp a b (hp.mem_iff.1 ha) (hp.mem_iff.1 hb)⟩
theorem SH.over (S:SH cv f rid rb id g n l H)(ho:Over H H'):SH cv f rid rb id g n l H' :=
 ⟨S.hl,S.hn,(ho.old _ S.il).trans S.hg,(ho.old _ S.rl).trans S.hr,S.ne,by have:=S.il;have:=ho.next;omega,by have:=S.rl;have:=ho.next;omega,S.cmp⟩
theorem SH.live (S:SH cv f rid rb id g n l H):H.live id g=some (3,ints (dL l)):=ah S.hg
theorem SH.len (S:SH cv f rid rb id g n l H):(ints (dL l)).length=n:=by rw[aM,pE,S.hl]
theorem SH.cell (S:SH cv f rid rb id g n l H){i:Nat}(hi:i<n):(ints (dL l))[i]?=some (.lit (.int .i64 ((l.getD i 0:Nat):Int))):=by
 rw[fg,yu (jI (by rw[S.hl];exact hi))];rfl
theorem SH.ask (S:SH cv f rid rb id g n l H){i j:Nat}(hi:i<n)(hj:j<n):∃ z:Int,(z<0↔f (l.getD i 0)<f (l.getD j 0))/\∀ K,K (.ret (aa z)) H->aB Try.prog G0 cv [.lit (.int .i64 ((l.getD i 0:Nat):Int)),.lit (.int .i64 ((l.getD j 0:Nat):Int))] H K :=
 S.cmp _ _ (List.mem_of_getElem? (jI (by rw[S.hl];exact hi))) (List.mem_of_getElem? (jI (by rw[S.hl];exact hj))) H S.hr
theorem SH.s1 (S:SH cv f rid rb id g n l H){i:Nat}(hi:i<n)(x:Nat):setAt (ints (dL l)) i [.lit (.int .i64 (x:Int))]=ints (dL (l.set i x)):=by
 rw[dM (by rw[pE,S.hl];exact hi),Cy]
theorem SH.iD (S:SH cv f rid rb id g n l H)(i x:Nat):(ints (dL (l.set i x))).length=n:=by rw[aM,pE,List.length_set,S.hl]
theorem SH.iE (_S:SH cv f rid rb id g n l H)(q:List Nat):(H.upd id (.arr g 3 (ints (dL q)))).live id g=some (3,ints (dL q)):=ah (by rw[ag,if_pos rfl])
theorem SH.s2 (S:SH cv f rid rb id g n l H){i j:Nat}(hj:j<n):setAt (ints (dL (l.set i (l.getD j 0)))) j [.lit (.int .i64 ((l.getD i 0:Nat):Int))]=ints (dL (cf l i j)):=by
 rw[dM (by rw[pE,List.length_set,S.hl];exact hj),Cy];rfl
theorem SH.u2 (_S:SH cv f rid rb id g n l H)(p q:List Nat):(H.upd id (.arr g 3 (ints (dL p)))).upd id (.arr g 3 (ints (dL q)))=H.upd id (nB g q):=lV ..
theorem SH.self (S:SH cv f rid rb id g n l H):H.upd id (nB g l)=H:=Cx S.hg
end
theorem dX (H:AHeap)(id g:Nat)(p q:List Nat):(H.upd id (nB g p)).upd id (nB g q)=H.upd id (nB g q):=lV ..
section
variable {cv:AVal} {f:Nat->Nat} {rid:Nat} {rb:Blk} {id g n a b:Nat} {l:List Nat} {H:AHeap}
set_option maxHeartbeats 4000000 in
theorem Pp (S:SH cv f rid rb id g n l H)(hab:a<b)(hb:b<=n)(K:ARes->AHeap->Prop)(hK:∀ q,aZ a b l q->K (.ret (.tup [])) (H.upd id (nB g q))):
  af Try.prog G0 100 [.own id g 0 n 1,aa a,aa b,cv] H K:=by
 have hn:=S.hn;have w0:IntKind.i64.wrap ((b:Int) - 1)=((b - 1:Nat):Int):=by rw[IntWalk.i64_in _ (by omega)];omega
 refine af.cS (n:=34) (rs:=[]) Try.func100 rfl rfl rfl (by decide) (by simp) ?_;refine W.seq (ab _ _ _ (by rfl) ?_);simp only[go_sem];refine W.seq (ab _ _ _ (by rfl) ?_);simp only[go_sem,w0];refine W.env fun E hE=>?_;have e0:E 0=.own id g 0 n 1:=by rw[hE];simp only[go_sem]
 have e8:E 8=aa a:=by rw[hE];simp only[go_sem]
 have e9:E 9=aa ((b - 1:Nat):Int):=by rw[hE];simp only[go_sem]
 clear hE;refine W.block ?_;refine W.aG 17179861760 (by rfl) (fun ρ Hx=>∃ (i:Nat) (j:Int) (q:List Nat),ρ 8=aa i/\ρ 9=aa j/\a<=i/\j<b/\i+j=(a:Int)+b - 1/\aZ a b l q/\Hx=H.upd id (nB g q)) (fun ρ Hx=>(iv (ρ 9)+1).toNat) ?_ ?_
 ·exact⟨a,_,l,e8,e9,Nat.le_refl _,by omega,by omega,.refl _ _ _,S.self.symm⟩
 rintro ρ Hx ⟨i,j,q,h8,h9,hi,hj,hij,hp,hHx⟩;refine W.env fun E1 hE1=>?_;have f0:E1 0=.own id g 0 n 1:=by rw[hE1];simp only[go_sem,e0]
 have f8:E1 8=aa i:=by rw[hE1];simp only[go_sem,h8]
 have f9:E1 9=aa j:=by rw[hE1];simp only[go_sem,h9]
 clear hE1;by_cases hlt:(i:Int)<j;rotate_left
 ·refine ab _ _ _ (by rfl) ?_;simp only[go_sem,f8,f9,hlt];rw[hHx];exact av.mk (by rw[az];exact Nat.le_refl _) (hK q hp)
 obtain⟨j,rfl⟩:=Int.eq_ofNat_of_zero_le (show 0<=j by omega);have T:=S.upd hp.1;rw[<- hHx]at T;have b1:(i:Int)<n:=by omega
 have b2:(j:Int)<n:=by omega
 have w1:=IntWalk.i64_in ((i:Int)+1) (by omega);have w2:=IntWalk.i64_in ((j:Int) - 1) (by omega);refine W.seq (ab _ _ _ (by rfl) ?_);simp only[go_sem,f8,f9,hlt];refine W.block (W.seq ?_);refine W.draw 14 [0,0,0,0,0,0,48,112,0,0,768,1792,4083,8179] Try.mixed (by kernel_rfl) (by kernel_rfl) ?_;simp only[go_sem,f0,f8,f9,T.live,T.len,T.cell (show i<n by omega),T.cell (show j<n by omega),b1,b2,T.s1 (show i<n by omega),T.s2 (i:=i) (show j<n by omega),T.iD,T.iE];refine⟨by omega,by omega,?_⟩;refine ab _ _ _ (by rfl) ?_;simp only[go_sem,f8,f9,w1,w2];refine⟨by rw[hHx];exact Nat.le_refl _,⟨i+1,(j:Int) - 1,cf q i j,rfl,rfl,by omega,by omega,by omega,hp.trans (.swap (by omega) (by omega) (by omega) (by omega) (by rw[hp.len,S.hl];exact hb)),?_⟩,by rw[h9];simp only[aa,aK];omega⟩;rw[T.u2,hHx,dX]
end
end Go.Proofs
namespace Go.Proofs
open Go.Hx
def kQ (f:Nat->Nat)(l:List Nat)(a i j:Nat):Prop:=(∀ x y,a<=x->x<y->y<=i->x≠j->y≠j->f (l.getD x 0)<=f (l.getD y 0))/\∀ y,j<y->y<=i->f (l.getD j 0)<=f (l.getD y 0)
theorem kQ.start {f:Nat->Nat}{l:List Nat}{a i:Nat}(h:df f l a i):kQ f l a i i:=⟨fun x y h0 h1 h2 h3 h4=>h x y h0 h1 (by omega),fun b h1 h2=>by omega⟩
theorem kQ.done {f:Nat->Nat}{l:List Nat}{a i j:Nat}(h:kQ f l a i j)(hj:j<=i)(hd:j<=a\/f (l.getD (j - 1) 0)<=f (l.getD j 0)):df f l a (i+1):=by
 intro x y h0 h1 h2;by_cases hb:y=j
 ·subst hb;rcases hd with h3|h3
  ·omega
  ·by_cases ha:x=y - 1
   ·rw[ha];exact h3
   ·exact Nat.le_trans (h.1 x (y - 1) h0 (by omega) (by omega) (by omega) (by omega)) h3
 ·by_cases ha:x=j
  ·subst ha;exact h.2 y h1 (by omega)
  ·exact h.1 x y h0 h1 (by omega) ha hb
theorem kQ.step {f:Nat->Nat}{l:List Nat}{a i j:Nat}(h:kQ f l a i j)(hj:j<=i)(hi:i<l.length)(h0:a<j)(hlt:f (l.getD j 0)<f (l.getD (j - 1) 0)):kQ f (cf l j (j - 1)) a i (j - 1):=by
 have g:=QB (l:=l) (i:=j) (j:=j - 1) (by omega) (by omega) (by omega);constructor
 ·intro x y hx h1 h2 h3 h4;rw[g x,g y,if_neg h3,if_neg h4];by_cases ha:x=j
  ·rw[if_pos ha,if_neg (by omega)];exact h.1 (j - 1) y (by omega) (by omega) h2 (by omega) (by omega)
  ·rw[if_neg ha];by_cases hb:y=j
   ·rw[if_pos hb];exact h.1 x (j - 1) hx (by omega) (by omega) ha (by omega)
   ·rw[if_neg hb];exact h.1 x y hx h1 h2 ha hb
 ·intro b h1 h2;rw[g (j - 1),if_pos rfl,g b,if_neg (by omega)];by_cases hb:b=j
  ·rw[if_pos hb];exact Nat.le_of_lt hlt
  ·rw[if_neg hb];exact h.2 b (by omega) h2
section
variable {cv:AVal} {f:Nat->Nat} {rid:Nat} {rb:Blk} {id g n a b:Nat} {l:List Nat} {H:AHeap}
set_option maxHeartbeats 4000000 in
theorem Pq (S:SH cv f rid rb id g n l H)(hab:a<=b)(hb:b<=n)(K:ARes->AHeap->Prop)(hK:∀ q,aZ a b l q->df f q a b->K (.ret (.tup [])) (H.upd id (nB g q))):
  af Try.prog G0 96 [.own id g 0 n 1,aa a,aa b,cv] H K:=by
 have hn:=S.hn;have w0:=IntWalk.i64_in ((a:Int)+1) (by omega);refine af.cS (n:=53) (rs:=[]) Try.func96 rfl rfl rfl (by decide) (by simp) ?_;refine W.seq (ab _ _ _ (by rfl) ?_);simp only[go_sem,w0];refine W.env fun E hE=>?_;have e0:E 0=.own id g 0 n 1:=by rw[hE];simp only[go_sem]
 have e1:E 1=aa a:=by rw[hE];simp only[go_sem]
 have e2:E 2=aa b:=by rw[hE];simp only[go_sem]
 have e3:E 3=cv:=by rw[hE];simp only[go_sem]
 have e8:E 8=aa ((a+1:Nat):Int):=by rw[hE];simp only[go_sem];rfl
 clear hE;refine W.block ?_;refine W.aG 9007199254737664 (by rfl) (fun ρ Hx=>∃ (i:Nat) (q:List Nat),ρ 8=aa i/\a<i/\(i<=b\/i=a+1)/\aZ a b l q/\df f q a i/\Hx=H.upd id (nB g q)) (fun ρ Hx=>b+1 - (iv (ρ 8)).toNat) ?_ ?_
 ·exact⟨a+1,l,e8,by omega,.inr rfl,.refl _ _ _,fun x y h1 h2 h3=>by omega,S.self.symm⟩
 rintro ρ Hx ⟨i,q,h8,hi1,hi,hq,hS,hHx⟩;refine W.env fun E1 hE1=>?_;have f0:E1 0=.own id g 0 n 1:=by rw[hE1];simp only[go_sem,e0]
 have f1:E1 1=aa a:=by rw[hE1];simp only[go_sem,e1]
 have f2:E1 2=aa b:=by rw[hE1];simp only[go_sem,e2]
 have f3:E1 3=cv:=by rw[hE1];simp only[go_sem,e3]
 have f8:E1 8=aa i:=by rw[hE1];simp only[go_sem,h8]
 clear hE1;by_cases hib:(i:Int)<b;rotate_left
 ·refine ab _ _ _ (by rfl) ?_;simp only[go_sem,f8,f2,hib];rw[hHx];exact av.mk (by rw[az];exact Nat.le_refl _) (hK q hq fun x y h1 h2 h3=>hS x y h1 h2 (by omega))
 refine W.seq (ab _ _ _ (by rfl) ?_);simp only[go_sem,f8,f2,hib];refine W.seq (W.block ?_);refine W.seq (ab _ _ _ (by rfl) ?_);simp only[go_sem,f8];refine W.env fun E2 hE2=>?_;have m0:E2 0=.own id g 0 n 1:=by rw[hE2];simp only[go_sem,f0]
 have m1:E2 1=aa a:=by rw[hE2];simp only[go_sem,f1]
 have m3:E2 3=cv:=by rw[hE2];simp only[go_sem,f3]
 have m8:E2 8=aa i:=by rw[hE2];simp only[go_sem,f8]
 have m9:E2 9=aa i:=by rw[hE2];simp only[go_sem]
 clear hE2;refine W.block ?_;refine W.aG 9007199254479360 (by rfl) (fun ρ Hz=>∃ (j:Nat) (p:List Nat),ρ 9=aa j/\a<=j/\j<=i/\aZ a b l p/\kQ f p a i j/\Hz=H.upd id (nB g p)) (fun ρ Hz=>(iv (ρ 9)).toNat) ?_ ?_
 ·exact⟨i,q,m9,by omega,Nat.le_refl _,hq,.start hS,hHx⟩
 rintro ρ2 Hz ⟨j,p,h9,haj,hj,hp,hIn,hHz⟩;refine W.env fun E3 hE3=>?_;have u0:E3 0=.own id g 0 n 1:=by rw[hE3];simp only[go_sem,m0]
 have u1:E3 1=aa a:=by rw[hE3];simp only[go_sem,m1]
 have u3:E3 3=cv:=by rw[hE3];simp only[go_sem,m3]
 have u8:E3 8=aa i:=by rw[hE3];simp only[go_sem,m8]
 have u9:E3 9=aa j:=by rw[hE3];simp only[go_sem,h9]
 clear hE3;have T:=S.upd hp.1;rw[<- hHz]at T;have i1:i<n:=by omega
 refine W.seq (W.de (fun s'=>s'.H=Hz/\s'.ρ 0=.own id g 0 n 1/\s'.ρ 8=aa i/\s'.ρ 9=aa j/\s'.ρ 34=.lit (.bool (decide (a<j) && decide (f (p.getD j 0)<f (p.getD (j - 1) 0))))) ?_ ?_)
 ·refine W.draw 14 [0,0,3,7,15,15,15,111,239,15,15,1039,3599,7695] Try.mixed (by kernel_rfl) (by kernel_rfl) ?_;by_cases hjb:(j:Int) > a
  ·have wj:IntKind.i64.wrap ((j:Int) - 1)=((j - 1:Nat):Int):=(by rw[IntWalk.i64_in _ (by omega)];omega);have b1:(j:Int)<n:=(by omega);have b2:((j - 1:Nat):Int)<n:=(by omega);simp only[go_sem,u0,u1,u3,u9,T.live,hjb,wj,T.cell (show j<n by omega),T.cell (show j - 1<n by omega),b1,b2];obtain⟨z,hz,hc⟩:=T.ask (show j<n by omega) (show j - 1<n by omega);refine hc _ ⟨trivial,?_⟩;have hd1:decide (a<j)=true:=decide_eq_true (by omega);rw[hd1];by_cases hlt:f (p.getD j 0)<f (p.getD (j - 1) 0)
   ·have hlt':=hz.2 hlt;simp only[go_sem,u0,u8,u9,hlt',hlt]
    try rfl
   ·have hlt':¬ z<0:=fun h=>hlt (hz.1 h);simp only[go_sem,u0,u8,u9,hlt',hlt]
    try rfl
  ·simp only[go_sem,u0,u1,u8,u9,hjb];have hj0:decide (a<j)=false:=decide_eq_false (by omega);rw[hj0];rfl
 rintro⟨ρ3,Hq⟩ ⟨hHq,v0,v8,v9,v34⟩;simp only at hHq v0 v8 v9 v34;rw[hHq];clear hHq Hq;cases hfl:(decide (a<j) && decide (f (p.getD j 0)<f (p.getD (j - 1) 0))) with
 | false =>
  rw[hfl]at v34;refine W.cond (t:=false) v34 ?_;refine ab _ _ _ (by rfl) ?_;simp only[go_sem];have wi:=IntWalk.i64_in ((i:Int)+1) (by omega);have hd:j<=a\/f (p.getD (j - 1) 0)<=f (p.getD j 0):=by
   by_cases h0:j<=a
   ·exact .inl h0
   ·rw[decide_eq_true (by omega:a<j),Bool.true_and,decide_eq_false_iff_not]at hfl;exact .inr (by omega)
  have hS':=hIn.done hj hd;refine ab _ _ _ (by rfl) ?_;simp only[go_sem,v8,wi];exact⟨by rw[hHz,az];exact Nat.le_refl _,⟨i+1,p,rfl,by omega,by omega,hp,hS',hHz⟩,by rw[h8];simp only[aa,aK];omega⟩
 | true =>
  rw[hfl]at v34;refine W.cond (t:=true) v34 ?_;have hfl2:a<j/\f (p.getD j 0)<f (p.getD (j - 1) 0):=by simpa using hfl
  have wj:IntKind.i64.wrap ((j:Int) - 1)=((j - 1:Nat):Int):=by rw[IntWalk.i64_in _ (by omega)];omega
  have b1:(j:Int)<n:=by omega
  have b2:((j - 1:Nat):Int)<n:=by omega
  refine ab _ _ _ (by rfl) ?_;simp only[go_sem];refine W.seq (W.block ?_);refine W.draw 16 [0,0,0,0,8,0,0,64,224,480,0,0,3072,7168,16355,32739] Try.mixed (by kernel_rfl) (by kernel_rfl) ?_;simp only[go_sem,v0,v9,T.live,T.len,wj,T.cell (show j<n by omega),T.cell (show j - 1<n by omega),b1,b2,T.s1 (show j<n by omega),T.s2 (i:=j) (show j - 1<n by omega),T.iD,T.iE];refine⟨by omega,by omega,ab _ _ _ (by rfl) ?_⟩;simp only[go_sem,v9,wj];refine⟨by rw[hHx,hHz];simp only[az];exact Nat.le_refl _,⟨j - 1,cf p j (j - 1),rfl,by omega,by omega,hp.trans (.swap (by omega) (by omega) (by omega) (by omega) (by rw[hp.len,S.hl];exact hb)),hIn.step hj (by rw[hp.len,S.hl];exact i1) hfl2.1 hfl2.2,?_⟩,by rw[h9];simp only[aa,aK];omega⟩;rw[T.u2,hHz,dX]
end
end Go.Proofs
namespace Go.Proofs
open Go.Hx
section
variable {cv:AVal} {f:Nat->Nat} {rid:Nat} {rb:Blk} {id g n a b:Nat} {l:List Nat} {H:AHeap}
def jF (f:Nat->Nat)(q:List Nat)(a b i j:Nat):Prop:=a<i/\i<=j+1/\j<b/\(∀ k,a<k->k<i->f (q.getD k 0)<f (q.getD a 0))/\∀ k,j<k->k<b->f (q.getD a 0)<=f (q.getD k 0)
theorem jF.done {f:Nat->Nat}{q:List Nat}{a b i j:Nat}(h:jF f q a b i j)(hij:j<i)(hb:b<=q.length):mg f (cf q j a) a b j:=by
 obtain⟨h1,h2,h3,h4,h5⟩:=h;have g:=fun k=>rD (l:=q) (i:=j) (j:=a) (by omega) (by omega) k;have ej:(cf q j a).getD j 0=q.getD a 0:=by
  rw[g];split
  ·rename_i e;rw[e]
  ·rw[if_pos rfl]
 refine⟨fun k k1 k2=>?_,fun k k1 k2=>?_⟩
 ·rw[ej,g];split
  ·exact Nat.le_of_lt (h4 j (by omega) (by omega))
  ·rw[if_neg (by omega)];exact Nat.le_of_lt (h4 k (by omega) (by omega))
 ·rw[ej,g,if_neg (by omega),if_neg (by omega)];exact h5 k k1 k2
theorem jF.swap {f:Nat->Nat}{q:List Nat}{a b i j:Nat}(h:jF f q a b i j)(hij:i<=j)(hb:b<=q.length)(hi:¬ f (q.getD i 0)<f (q.getD a 0))(hj:f (q.getD j 0)<f (q.getD a 0)):i<j/\jF f (cf q i j) a b (i+1) (j - 1):=by
 obtain⟨h1,h2,h3,h4,h5⟩:=h;have hne:i≠j:=fun e=>hi (e ▸ hj);have g:=fun k=>rD (l:=q) (i:=i) (j:=j) (by omega) (by omega) k;have ea:(cf q i j).getD a 0=q.getD a 0:=by rw[g,if_neg (by omega),if_neg (by omega)]
 refine⟨by omega,by omega,by omega,by omega,fun k k1 k2=>?_,fun k k1 k2=>?_⟩
 ·rw[ea,g,if_neg (by omega)];split
  ·exact hj
  ·exact h4 k k1 (by omega)
 ·rw[ea,g];split
  ·exact Nat.le_of_not_lt hi
  ·rw[if_neg (by omega)];exact h5 k (by omega) k2
theorem jF.scan {f:Nat->Nat}{q:List Nat}{a b i j x y:Nat}(h:jF f q a b i j)(h1:i<=x)(h2:x<=j+1)(h3:∀ k,i<=k->k<x->f (q.getD k 0)<f (q.getD a 0))(h4:y<=j)(h5:x<=y+1)(h6:∀ k,y<k->k<=j->f (q.getD a 0)<=f (q.getD k 0)):jF f q a b x y:=by
 obtain⟨p1,p2,p3,p4,p5⟩:=h;refine⟨by omega,by omega,by omega,fun k k1 k2=>?_,fun k k1 k2=>?_⟩
 ·rcases Nat.lt_or_ge k i with hk|hk
  ·exact p4 k k1 hk
  ·exact h3 k hk k2
 ·rcases Nat.lt_or_ge j k with hk|hk
  ·exact p5 k hk k2
  ·exact h6 k k1 hk
set_option maxHeartbeats 16000000 in
theorem Pr {p:Nat}(S:SH cv f rid rb id g n l H)(hap:a<=p)(hpb:p<b)(hb:b<=n)(K:ARes->AHeap->Prop)(hK:∀ q m fl,aZ a b l q->mg f q a b m->a<=m->m<b->K (.ret (.tup [aa (m:Nat),.lit (.bool fl)])) (H.upd id (nB g q))):
  af Try.prog G0 103 [.own id g 0 n 1,aa a,aa b,aa p,cv] H K:=by
 have hn:=S.hn;have ba:(a:Int)<n:=by omega
 have bp:(p:Int)<n:=by omega
 have w0:IntKind.i64.wrap ((a:Int)+1)=((a+1:Nat):Int):=by rw[IntWalk.i64_in _ (by omega)];omega
 have w1:IntKind.i64.wrap ((b:Int) - 1)=((b - 1:Nat):Int):=by rw[IntWalk.i64_in _ (by omega)];omega
 refine af.cS (n:=178) (rs:=[.tmp 10,.tmp 11]) Try.func103 rfl rfl rfl (by decide) (by simp) ?_;refine W.seq (ab _ _ _ (by rfl) ?_);simp only[go_sem];refine W.seq ?_;refine W.draw 14 [0,0,0,0,0,0,48,112,0,0,768,1792,4083,8179] Try.mixed (by kernel_rfl) (by kernel_rfl) ?_;simp only[go_sem,S.live,S.len,S.cell (show a<n by omega),S.cell (show p<n by omega),ba,bp,S.s1 (show a<n by omega),S.s2 (i:=a) (show p<n by omega),S.iD,S.iE];refine⟨by omega,by omega,?_⟩;rw[S.u2];obtain⟨q0,hq0⟩:∃ q0,q0=cf l a p:=⟨_,rfl⟩
 rw[<- hq0];have hp0:aZ a b l q0:=by rw[hq0];exact .swap (Nat.le_refl _) (by omega) hap hpb (by rw[S.hl];exact hb)
 clear hq0;have T0:=S.upd hp0.1;obtain⟨H0,hH0⟩:∃ H0,H0=H.upd id (nB g q0):=⟨_,rfl⟩
 have n0:H0.next=H.next:=by rw[hH0];rfl
 rw[<- hH0]at T0 ⊢;refine W.seq (ab _ _ _ (by rfl) ?_);simp only[go_sem,w0,w1];refine W.env fun E hE=>?_;have e0:E 0=.own id g 0 n 1:=by rw[hE];simp only[go_sem]
 have e1:E 1=aa a:=by rw[hE];simp only[go_sem]
 have e4:E 4=cv:=by rw[hE];simp only[go_sem]
 have e12:E 12=aa ((a+1:Nat):Int):=by rw[hE];simp only[go_sem]
 have e13:E 13=aa ((b - 1:Nat):Int):=by rw[hE];simp only[go_sem]
 clear hE;have I0:jF f q0 a b (a+1) (b - 1):=⟨by omega,by omega,by omega,fun k k1 k2=>by omega,fun k k1 k2=>by omega⟩
 obtain⟨i0,hi0⟩:∃ i0,i0=a+1:=⟨_,rfl⟩
 obtain⟨j0,hj0⟩:∃ j0,j0=b - 1:=⟨_,rfl⟩
 rw[<- hi0]at e12 I0;rw[<- hj0]at e13 I0;refine W.de (fun s'=>s'.H=H0/\s'.ρ 0=.own id g 0 n 1/\s'.ρ 1=aa a/\s'.ρ 4=cv/\s'.ρ 13=aa j0/\∃ u:Nat,s'.ρ 12=aa u/\(i0<=u/\u<=j0+1/\∀ k,i0<=k->k<u->f ((q0).getD k 0)<f ((q0).getD a 0))/\(u<=j0->¬ f ((q0).getD u 0)<f ((q0).getD a 0))) ?_ ?_
 ·refine W.block ?_;refine W.aG 1125895611879424 (by kernel_rfl) (fun ρ Hk=>Hk=H0/\∃ u:Nat,ρ 12=aa u/\(i0<=u/\u<=j0+1/\∀ k,i0<=k->k<u->f ((q0).getD k 0)<f ((q0).getD a 0))) (fun ρ _=>j0+1 - (iv (ρ 12)).toNat) ?_ ?_
  ·exact⟨rfl,i0,e12,Nat.le_refl _,by omega,fun k h1 h2=>by omega⟩
  rintro ρ Hk ⟨hHk,u,hx,x1,x2,x3⟩;rw[hHk];refine W.env fun F hF=>?_;have d0:F 0=.own id g 0 n 1:=by rw[hF];simp only[go_sem,e0]
  have d1:F 1=aa a:=by rw[hF];simp only[go_sem,e1]
  have d4:F 4=cv:=by rw[hF];simp only[go_sem,e4]
  have d12:F 12=aa u:=by rw[hF];simp only[go_sem,hx]
  have d13:F 13=aa j0:=by rw[hF];simp only[go_sem,e13]
  clear hF;refine W.seq (W.de (fun s'=>s'.H=H0/\s'.ρ 0=.own id g 0 n 1/\s'.ρ 1=aa a/\s'.ρ 4=cv/\s'.ρ 12=aa u/\s'.ρ 13=aa j0/\s'.ρ 47=.lit (.bool (decide (u<=j0) && decide (f ((q0).getD u 0)<f ((q0).getD a 0))))) ?_ ?_)
  ·refine W.draw 13 [0,0,3,7,15,15,15,111,239,15,15,1551,3599] Try.mixed (by kernel_rfl) (by kernel_rfl) ?_;by_cases hc:(u:Int)<=j0
   ·have b1:(u:Int)<n:=(by omega);simp only[go_sem,d0,d1,d4,d12,d13,T0.live,hc,T0.cell (show u<n by omega),T0.cell (show a<n by omega),b1,ba];obtain⟨z,hz,hcc⟩:=T0.ask (show u<n by omega) (show a<n by omega);refine hcc _ ⟨trivial,?_⟩;have hd1:decide (u<=j0)=true:=decide_eq_true (by omega);rw[hd1];by_cases hlt:f ((q0).getD u 0)<f ((q0).getD a 0)
    ·have hlt':=hz.2 hlt;simp only[go_sem,d0,d1,d4,d12,d13,hlt',hlt]
     try rfl
    ·have hlt':¬ z<0:=fun h=>hlt (hz.1 h);simp only[go_sem,d0,d1,d4,d12,d13,hlt',hlt]
     try rfl
   ·simp only[go_sem,d0,d1,d4,d12,d13,hc];have hj0:decide (u<=j0)=false:=decide_eq_false (by omega);rw[hj0];rfl
  rintro⟨ρ3,Hs⟩ ⟨hHs,v0,v1,v4,v12,v13,vc⟩;simp only at hHs v0 v1 v4 v12 v13 vc;rw[hHs];clear hHs Hs;cases hfl:(decide (u<=j0) && decide (f ((q0).getD u 0)<f ((q0).getD a 0))) with
  | false =>
   rw[hfl]at vc;refine W.cond (t:=false) vc ?_;refine ab _ _ _ (by rfl) ?_;simp only[go_sem];refine⟨v0,v1,v4,v13,u,v12,⟨x1,x2,x3⟩,fun h hh=>?_⟩;rw[decide_eq_true h,decide_eq_true hh]at hfl;cases hfl
  | true =>
   rw[hfl]at vc;refine W.cond (t:=true) vc ?_;have hfl2:(u<=j0)/\f ((q0).getD u 0)<f ((q0).getD a 0):=(by simpa using hfl);have wx:=IntWalk.i64_in ((u:Int)+1) (by omega);refine ab _ _ _ (by rfl) ?_;simp only[go_sem];refine ab _ _ _ (by rfl) ?_;simp only[go_sem,v12,wx];exact⟨⟨u+1,rfl,by omega,by omega,fun k h1 h2=>by
    by_cases hk:k=u
    ·rw[hk];exact hfl2.2
    ·exact x3 k h1 (by omega)⟩,by rw[hx];simp only[aa,aK];omega⟩
 rintro⟨ρa,Ha⟩ ⟨hHa,a0,a1,a4,a13,x,a12,⟨x1,x2,x3⟩,x4⟩;simp only at hHa a0 a1 a4 a13 a12;rw[hHa];clear hHa Ha;refine W.de (fun s'=>s'.H=H0/\s'.ρ 0=.own id g 0 n 1/\s'.ρ 1=aa a/\s'.ρ 4=cv/\s'.ρ 12=aa x/\∃ u:Nat,s'.ρ 13=aa u/\(u<=j0/\x<=u+1/\∀ k,u<k->k<=j0->f ((q0).getD a 0)<=f ((q0).getD k 0))/\(x<=u->f ((q0).getD u 0)<f ((q0).getD a 0))) ?_ ?_
 ·refine W.block ?_;refine W.aG 590294684458798817280 (by kernel_rfl) (fun ρ Hk=>Hk=H0/\∃ u:Nat,ρ 13=aa u/\(u<=j0/\x<=u+1/\∀ k,u<k->k<=j0->f ((q0).getD a 0)<=f ((q0).getD k 0))) (fun ρ _=>(iv (ρ 13)).toNat) ?_ ?_
  ·exact⟨rfl,j0,a13,Nat.le_refl _,by omega,fun k h1 h2=>by omega⟩
  rintro ρ Hk ⟨hHk,u,hx,x1,x2,x3⟩;rw[hHk];refine W.env fun F hF=>?_;have d0:F 0=.own id g 0 n 1:=by rw[hF];simp only[go_sem,a0]
  have d1:F 1=aa a:=by rw[hF];simp only[go_sem,a1]
  have d4:F 4=cv:=by rw[hF];simp only[go_sem,a4]
  have d12:F 12=aa x:=by rw[hF];simp only[go_sem,a12]
  have d13:F 13=aa u:=by rw[hF];simp only[go_sem,hx]
  clear hF;refine W.seq (W.de (fun s'=>s'.H=H0/\s'.ρ 0=.own id g 0 n 1/\s'.ρ 1=aa a/\s'.ρ 4=cv/\s'.ρ 12=aa x/\s'.ρ 13=aa u/\s'.ρ 66=.lit (.bool (decide (x<=u) && !decide (f ((q0).getD u 0)<f ((q0).getD a 0))))) ?_ ?_)
  ·refine W.draw 13 [0,0,3,7,15,15,15,111,239,15,15,1551,3599] Try.mixed (by kernel_rfl) (by kernel_rfl) ?_;by_cases hc:(x:Int)<=u
   ·have b1:(u:Int)<n:=(by omega);simp only[go_sem,d0,d1,d4,d12,d13,T0.live,hc,T0.cell (show u<n by omega),T0.cell (show a<n by omega),b1,ba];obtain⟨z,hz,hcc⟩:=T0.ask (show u<n by omega) (show a<n by omega);refine hcc _ ⟨trivial,?_⟩;have hd1:decide (x<=u)=true:=decide_eq_true (by omega);rw[hd1];by_cases hlt:f ((q0).getD u 0)<f ((q0).getD a 0)
    ·have hlt':=hz.2 hlt;simp only[go_sem,d0,d1,d4,d12,d13,hlt',hlt]
     try rfl
    ·have hlt':¬ z<0:=fun h=>hlt (hz.1 h);simp only[go_sem,d0,d1,d4,d12,d13,hlt',hlt]
     try rfl
   ·simp only[go_sem,d0,d1,d4,d12,d13,hc];have hj0:decide (x<=u)=false:=decide_eq_false (by omega);rw[hj0];rfl
  rintro⟨ρ3,Hs⟩ ⟨hHs,v0,v1,v4,v12,v13,vc⟩;simp only at hHs v0 v1 v4 v12 v13 vc;rw[hHs];clear hHs Hs;cases hfl:(decide (x<=u) && !decide (f ((q0).getD u 0)<f ((q0).getD a 0))) with
  | false =>
   rw[hfl]at vc;refine W.cond (t:=false) vc ?_;refine ab _ _ _ (by rfl) ?_;simp only[go_sem];refine⟨v0,v1,v4,v12,u,v13,⟨x1,x2,x3⟩,fun h=>?_⟩;rw[decide_eq_true h,Bool.true_and,Bool.not_eq_false',decide_eq_true_iff]at hfl;exact hfl
  | true =>
   rw[hfl]at vc;refine W.cond (t:=true) vc ?_;have hfl2:(x<=u)/\¬ f ((q0).getD u 0)<f ((q0).getD a 0):=(by simpa using hfl);have wx:IntKind.i64.wrap ((u:Int) - 1)=((u - 1:Nat):Int):=(by rw[IntWalk.i64_in _ (by omega)];omega);refine ab _ _ _ (by rfl) ?_;simp only[go_sem];refine ab _ _ _ (by rfl) ?_;simp only[go_sem,v13,wx];exact⟨⟨u - 1,rfl,by omega,by omega,fun k h1 h2=>by
    by_cases hk:k=u
    ·rw[hk];exact Nat.le_of_not_lt hfl2.2
    ·exact x3 k (by omega) h2⟩,by rw[hx];simp only[aa,aK];omega⟩
 rintro⟨ρb,Hb⟩ ⟨hHb,c0,c1,c4,c12,y,c13,⟨y1,y2,y3⟩,y4⟩;simp only at hHb c0 c1 c4 c13 c12;rw[hHb];clear hHb Hb;have I1:=I0.scan x1 x2 x3 y1 y2 y3;clear x1 x2 x3 y1 y2 y3 I0;have yb:=I1.2.2.1;have yn:y<n:=by omega
 have xn:x<=n:=by have:=I1.2.1;omega
 have ax:a<x:=I1.1;have ay:a<=y:=by have:=I1.2.1;omega
 have by1:(y:Int)<n:=by omega
 have pl0:=hp0.len;rw[S.hl]at pl0;by_cases hxy:(x:Int) > y
 ·refine W.seq ?_;refine ab _ _ _ (by rfl) ?_;simp only[go_sem,c12,c13,hxy];refine W.draw 14 [0,0,0,0,0,0,48,112,0,0,768,1792,4083,8179] Try.mixed (by kernel_rfl) (by kernel_rfl) ?_;simp only[go_sem,c0,c1,c13,T0.live,T0.len,T0.cell (show a<n by omega),T0.cell yn,ba,by1,T0.s1 yn,T0.s2 (i:=y) (show a<n by omega),T0.iD,T0.iE];refine⟨by omega,by omega,?_⟩;rw[T0.u2,hH0,dX];exact av.mk (Nat.le_refl _) (hK _ y true (hp0.trans (.swap (by omega) (by omega) (Nat.le_refl _) (by omega) (by rw[pl0];exact hb))) (I1.done (by omega) (by rw[pl0];exact hb)) ay I1.2.2.1)
 obtain⟨xy,I2⟩:=I1.swap (by omega) (by rw[pl0];exact hb) (x4 (by have:=I1.2.2.1;omega)) (y4 (by omega));have bx1:(x:Int)<n:=by omega
 have wx:IntKind.i64.wrap ((x:Int)+1)=((x+1:Nat):Int):=by rw[IntWalk.i64_in _ (by omega)];omega
 have wy:IntKind.i64.wrap ((y:Int) - 1)=((y - 1:Nat):Int):=by rw[IntWalk.i64_in _ (by omega)];omega
 refine W.seq ?_;refine ab _ _ _ (by rfl) ?_;simp only[go_sem,c12,c13,hxy];refine W.seq ?_;refine W.draw 14 [0,0,0,0,0,0,48,112,0,0,768,1792,4083,8179] Try.mixed (by kernel_rfl) (by kernel_rfl) ?_;simp only[go_sem,c0,c12,c13,T0.live,T0.len,T0.cell (show x<n by omega),T0.cell yn,bx1,by1,T0.s1 (show x<n by omega),T0.s2 (i:=x) yn,T0.iD,T0.iE];refine⟨by omega,by omega,?_⟩;rw[T0.u2];refine W.seq (ab _ _ _ (by rfl) ?_);simp only[go_sem,c12,wx];refine W.seq (ab _ _ _ (by rfl) ?_);simp only[go_sem,c13,wy];rw[hH0,dX];refine W.env fun E2 hE2=>?_;have k0:E2 0=.own id g 0 n 1:=by rw[hE2];simp only[go_sem,c0]
 have k1:E2 1=aa a:=by rw[hE2];simp only[go_sem,c1]
 have k4:E2 4=cv:=by rw[hE2];simp only[go_sem,c4]
 have k12:E2 12=aa ((x+1:Nat):Int):=by rw[hE2];simp only[go_sem,c12]
 have k13:E2 13=aa ((y - 1:Nat):Int):=by rw[hE2];simp only[go_sem,c13]
 clear hE2;have hp1:aZ a b l (cf q0 x y):=hp0.trans (.swap (by omega) (by have:=I1.2.2.1;omega) (by omega) I1.2.2.1 (by rw[pl0];exact hb));refine W.de (fun s'=>∃ (q:List Nat) (i j:Nat),s'.H=H.upd id (nB g q)/\aZ a b l q/\jF f q a b i j/\j<i/\s'.ρ 0=.own id g 0 n 1/\s'.ρ 1=aa a/\s'.ρ 13=aa j) ?_ ?_
 ·refine W.block ?_;refine W.aG 11692013098647223305064659454426923309352957784064 (by kernel_rfl) (fun ρ Hx=>∃ (q:List Nat) (i j:Nat),ρ 12=aa i/\ρ 13=aa j/\aZ a b l q/\jF f q a b i j/\Hx=H.upd id (nB g q)) (fun ρ Hx=>(iv (ρ 13)).toNat) ?_ ?_
  ·exact⟨_,_,_,k12,k13,hp1,I2,rfl⟩
  rintro ρq Hx ⟨q,i,j,h12,h13,hp,I,hHx⟩;refine W.env fun E3 hE3=>?_;have m0:E3 0=.own id g 0 n 1:=by rw[hE3];simp only[go_sem,k0]
  have m1:E3 1=aa a:=by rw[hE3];simp only[go_sem,k1]
  have m4:E3 4=cv:=by rw[hE3];simp only[go_sem,k4]
  have m12:E3 12=aa i:=by rw[hE3];simp only[go_sem,h12]
  have m13:E3 13=aa j:=by rw[hE3];simp only[go_sem,h13]
  clear hE3;have T:=S.upd hp.1;rw[<- hHx]at T;have hxn:Hx.next=H.next:=by rw[hHx];rfl
  have Ib:=I.2.2.1;have Ia:=I.1;have Ij:=I.2.1;refine W.block ?_;refine W.de (fun s'=>s'.H=Hx/\s'.ρ 0=.own id g 0 n 1/\s'.ρ 1=aa a/\s'.ρ 4=cv/\s'.ρ 13=aa j/\∃ u:Nat,s'.ρ 12=aa u/\(i<=u/\u<=j+1/\∀ k,i<=k->k<u->f ((q).getD k 0)<f ((q).getD a 0))/\(u<=j->¬ f ((q).getD u 0)<f ((q).getD a 0))) ?_ ?_
  ·refine W.block ?_;refine W.aG 10633783401460119679889608587740188672 (by kernel_rfl) (fun ρ Hk=>Hk=Hx/\∃ u:Nat,ρ 12=aa u/\(i<=u/\u<=j+1/\∀ k,i<=k->k<u->f ((q).getD k 0)<f ((q).getD a 0))) (fun ρ _=>j+1 - (iv (ρ 12)).toNat) ?_ ?_
   ·exact⟨rfl,i,m12,Nat.le_refl _,by omega,fun k h1 h2=>by omega⟩
   rintro ρ Hk ⟨hHk,u,hx,x1,x2,x3⟩;rw[hHk];refine W.env fun F hF=>?_;have d0:F 0=.own id g 0 n 1:=(by rw[hF];simp only[go_sem,m0]);have d1:F 1=aa a:=(by rw[hF];simp only[go_sem,m1]);have d4:F 4=cv:=(by rw[hF];simp only[go_sem,m4]);have d12:F 12=aa u:=(by rw[hF];simp only[go_sem,hx]);have d13:F 13=aa j:=(by rw[hF];simp only[go_sem,m13]);clear hF;refine W.seq (W.de (fun s'=>s'.H=Hx/\s'.ρ 0=.own id g 0 n 1/\s'.ρ 1=aa a/\s'.ρ 4=cv/\s'.ρ 12=aa u/\s'.ρ 13=aa j/\s'.ρ 120=.lit (.bool (decide (u<=j) && decide (f ((q).getD u 0)<f ((q).getD a 0))))) ?_ ?_)
   ·refine W.draw 13 [0,0,3,7,15,15,15,111,239,15,15,1551,3599] Try.mixed (by kernel_rfl) (by kernel_rfl) ?_;by_cases hc:(u:Int)<=j
    ·have b1:(u:Int)<n:=(by omega);simp only[go_sem,d0,d1,d4,d12,d13,T.live,hc,T.cell (show u<n by omega),T.cell (show a<n by omega),b1,ba];obtain⟨z,hz,hcc⟩:=T.ask (show u<n by omega) (show a<n by omega);refine hcc _ ⟨trivial,?_⟩;have hd1:decide (u<=j)=true:=decide_eq_true (by omega);rw[hd1];by_cases hlt:f ((q).getD u 0)<f ((q).getD a 0)
     ·have hlt':=hz.2 hlt;simp only[go_sem,d0,d1,d4,d12,d13,hlt',hlt]
      try rfl
     ·have hlt':¬ z<0:=fun h=>hlt (hz.1 h);simp only[go_sem,d0,d1,d4,d12,d13,hlt',hlt]
      try rfl
    ·simp only[go_sem,d0,d1,d4,d12,d13,hc];have hj0:decide (u<=j)=false:=decide_eq_false (by omega);rw[hj0];rfl
   rintro⟨ρ3,Hs⟩ ⟨hHs,v0,v1,v4,v12,v13,vc⟩;simp only at hHs v0 v1 v4 v12 v13 vc;rw[hHs];clear hHs Hs;cases hfl:(decide (u<=j) && decide (f ((q).getD u 0)<f ((q).getD a 0))) with
   | false =>
    rw[hfl]at vc;refine W.cond (t:=false) vc ?_;refine ab _ _ _ (by rfl) ?_;simp only[go_sem];refine⟨v0,v1,v4,v13,u,v12,⟨x1,x2,x3⟩,fun h hh=>?_⟩;rw[decide_eq_true h,decide_eq_true hh]at hfl;cases hfl
   | true =>
    rw[hfl]at vc;refine W.cond (t:=true) vc ?_;have hfl2:(u<=j)/\f ((q).getD u 0)<f ((q).getD a 0):=(by simpa using hfl);have wx:=IntWalk.i64_in ((u:Int)+1) (by omega);refine ab _ _ _ (by rfl) ?_;simp only[go_sem];refine ab _ _ _ (by rfl) ?_;simp only[go_sem,v12,wx];exact⟨⟨u+1,rfl,by omega,by omega,fun k h1 h2=>by
     by_cases hk:k=u
     ·rw[hk];exact hfl2.2
     ·exact x3 k h1 (by omega)⟩,by rw[hx];simp only[aa,aK];omega⟩
  rintro⟨ρa,Ha⟩ ⟨hHa,a0,a1,a4,a13,x,a12,⟨x1,x2,x3⟩,x4⟩;simp only at hHa a0 a1 a4 a13 a12;rw[hHa];clear hHa Ha;refine W.de (fun s'=>s'.H=Hx/\s'.ρ 0=.own id g 0 n 1/\s'.ρ 1=aa a/\s'.ρ 4=cv/\s'.ρ 12=aa x/\∃ u:Nat,s'.ρ 13=aa u/\(u<=j/\x<=u+1/\∀ k,u<k->k<=j->f ((q).getD a 0)<=f ((q).getD k 0))/\(x<=u->f ((q).getD u 0)<f ((q).getD a 0))) ?_ ?_
  ·refine W.block ?_;refine W.aG 5575175665808689506056946337705608133746688 (by kernel_rfl) (fun ρ Hk=>Hk=Hx/\∃ u:Nat,ρ 13=aa u/\(u<=j/\x<=u+1/\∀ k,u<k->k<=j->f ((q).getD a 0)<=f ((q).getD k 0))) (fun ρ _=>(iv (ρ 13)).toNat) ?_ ?_
   ·exact⟨rfl,j,a13,Nat.le_refl _,by omega,fun k h1 h2=>by omega⟩
   rintro ρ Hk ⟨hHk,u,hx,x1,x2,x3⟩;rw[hHk];refine W.env fun F hF=>?_;have d0:F 0=.own id g 0 n 1:=(by rw[hF];simp only[go_sem,a0]);have d1:F 1=aa a:=(by rw[hF];simp only[go_sem,a1]);have d4:F 4=cv:=(by rw[hF];simp only[go_sem,a4]);have d12:F 12=aa x:=(by rw[hF];simp only[go_sem,a12]);have d13:F 13=aa u:=(by rw[hF];simp only[go_sem,hx]);clear hF;refine W.seq (W.de (fun s'=>s'.H=Hx/\s'.ρ 0=.own id g 0 n 1/\s'.ρ 1=aa a/\s'.ρ 4=cv/\s'.ρ 12=aa x/\s'.ρ 13=aa u/\s'.ρ 139=.lit (.bool (decide (x<=u) && !decide (f ((q).getD u 0)<f ((q).getD a 0))))) ?_ ?_)
   ·refine W.draw 13 [0,0,3,7,15,15,15,111,239,15,15,1551,3599] Try.mixed (by kernel_rfl) (by kernel_rfl) ?_;by_cases hc:(x:Int)<=u
    ·have b1:(u:Int)<n:=(by omega);simp only[go_sem,d0,d1,d4,d12,d13,T.live,hc,T.cell (show u<n by omega),T.cell (show a<n by omega),b1,ba];obtain⟨z,hz,hcc⟩:=T.ask (show u<n by omega) (show a<n by omega);refine hcc _ ⟨trivial,?_⟩;have hd1:decide (x<=u)=true:=decide_eq_true (by omega);rw[hd1];by_cases hlt:f ((q).getD u 0)<f ((q).getD a 0)
     ·have hlt':=hz.2 hlt;simp only[go_sem,d0,d1,d4,d12,d13,hlt',hlt]
      try rfl
     ·have hlt':¬ z<0:=fun h=>hlt (hz.1 h);simp only[go_sem,d0,d1,d4,d12,d13,hlt',hlt]
      try rfl
    ·simp only[go_sem,d0,d1,d4,d12,d13,hc];have hj0:decide (x<=u)=false:=decide_eq_false (by omega);rw[hj0];rfl
   rintro⟨ρ3,Hs⟩ ⟨hHs,v0,v1,v4,v12,v13,vc⟩;simp only at hHs v0 v1 v4 v12 v13 vc;rw[hHs];clear hHs Hs;cases hfl:(decide (x<=u) && !decide (f ((q).getD u 0)<f ((q).getD a 0))) with
   | false =>
    rw[hfl]at vc;refine W.cond (t:=false) vc ?_;refine ab _ _ _ (by rfl) ?_;simp only[go_sem];refine⟨v0,v1,v4,v12,u,v13,⟨x1,x2,x3⟩,fun h=>?_⟩;rw[decide_eq_true h,Bool.true_and,Bool.not_eq_false',decide_eq_true_iff]at hfl;exact hfl
   | true =>
    rw[hfl]at vc;refine W.cond (t:=true) vc ?_;have hfl2:(x<=u)/\¬ f ((q).getD u 0)<f ((q).getD a 0):=(by simpa using hfl);have wx:IntKind.i64.wrap ((u:Int) - 1)=((u - 1:Nat):Int):=(by rw[IntWalk.i64_in _ (by omega)];omega);refine ab _ _ _ (by rfl) ?_;simp only[go_sem];refine ab _ _ _ (by rfl) ?_;simp only[go_sem,v13,wx];exact⟨⟨u - 1,rfl,by omega,by omega,fun k h1 h2=>by
     by_cases hk:k=u
     ·rw[hk];exact Nat.le_of_not_lt hfl2.2
     ·exact x3 k (by omega) h2⟩,by rw[hx];simp only[aa,aK];omega⟩
  rintro⟨ρb,Hb⟩ ⟨hHb,c0,c1,c4,c12,y,c13,⟨y1,y2,y3⟩,y4⟩;simp only at hHb c0 c1 c4 c13 c12;rw[hHb];clear hHb Hb;have I1:=I.scan x1 x2 x3 y1 y2 y3;clear x2 x3 y2 y3 I;have yb:=I1.2.2.1;have yn:y<n:=by omega
  have xn:x<=n:=by have:=I1.2.1;omega
  have ax:a<x:=I1.1;have ay:a<=y:=by have:=I1.2.1;omega
  have by1:(y:Int)<n:=by omega
  have pl0:=hp.len;rw[S.hl]at pl0;by_cases hxy:(x:Int) > y
  ·refine ab _ _ _ (by rfl) ?_;simp only[go_sem,c12,c13,hxy];exact⟨q,x,y,hHx,hp,I1,by omega,c0,c1,rfl⟩
  obtain⟨xy,I2⟩:=I1.swap (by omega) (by rw[pl0];exact hb) (x4 (by omega)) (y4 (by omega));have bx1:(x:Int)<n:=by omega
  have wx:IntKind.i64.wrap ((x:Int)+1)=((x+1:Nat):Int):=by rw[IntWalk.i64_in _ (by omega)];omega
  have wy:IntKind.i64.wrap ((y:Int) - 1)=((y - 1:Nat):Int):=by rw[IntWalk.i64_in _ (by omega)];omega
  refine W.seq ?_;refine ab _ _ _ (by rfl) ?_;simp only[go_sem,c12,c13,hxy];refine W.seq ?_;refine W.draw 14 [0,0,0,0,0,0,48,112,0,0,768,1792,4083,8179] Try.mixed (by kernel_rfl) (by kernel_rfl) ?_;simp only[go_sem,c0,c12,c13,T.live,T.len,T.cell (show x<n by omega),T.cell yn,bx1,by1,T.s1 (show x<n by omega),T.s2 (i:=x) yn,T.iD,T.iE];refine⟨by omega,by omega,?_⟩;rw[T.u2];refine ab _ _ _ (by rfl) ?_;simp only[go_sem,c12,c13,wx,wy];refine⟨by simp only[az];omega,⟨cf q x y,x+1,y - 1,rfl,rfl,hp.trans (.swap (by omega) (by omega) (by omega) (by omega) (by rw[pl0];exact hb)),I2,?_⟩,by rw[h13];simp only[aa,aK];omega⟩;rw[hHx,dX]
 rintro⟨ρd,Hd⟩ ⟨q,i,j,hHd,hp,I,hji,q0',q1,q13⟩;simp only at hHd q0' q1 q13;have T:=S.upd hp.1;rw[<- hHd]at T;have Ib:=I.2.2.1;have Ia:=I.1;have Ij:=I.2.1;have jn:j<n:=by omega
 have bj:(j:Int)<n:=by omega
 have pl:=hp.len;rw[S.hl]at pl;refine W.seq ?_;refine W.draw 14 [0,0,0,0,0,0,48,112,0,0,768,1792,4083,8179] Try.mixed (by kernel_rfl) (by kernel_rfl) ?_;simp only[go_sem,q0',q1,q13,T.live,T.len,T.cell (show a<n by omega),T.cell jn,ba,bj,T.s1 jn,T.s2 (i:=j) (show a<n by omega),T.iD,T.iE];refine⟨by omega,by omega,?_⟩;rw[T.u2];refine ab _ _ _ (by rfl) ?_;simp only[go_sem,q13];rw[hHd,dX];exact av.mk (Nat.le_refl _) (hK _ j false (hp.trans (.swap (by omega) (by omega) (Nat.le_refl _) (by omega) (by rw[pl];exact hb))) (I.done hji (by rw[pl];exact hb)) (by omega) Ib)
end
end Go.Proofs
namespace Go.Proofs
open Go.Hx
theorem df.snoc {f:Nat->Nat}{q:List Nat}{a i:Nat}(h:df f q a i)(ha:a<i)(hi:¬ f (q.getD i 0)<f (q.getD (i - 1) 0)):df f q a (i+1):=fun x y h1 h2 h3=>by
 by_cases hy:y=i
 ·subst hy;by_cases hx:x=y - 1
  ·rw[hx];omega
  ·have:=h x (y - 1) h1 (by omega) (by omega);omega
 ·exact h x y h1 h2 (by omega)
theorem df.keep {f:Nat->Nat}{q p:List Nat}{a i b:Nat}(h:df f q a i)(hp:aZ i b q p):df f p a i:=fun x y h1 h2 h3=>by
 rw[hp.2 x (by omega),hp.2 y (by omega)];exact h x y h1 h2 h3
section
variable {cv:AVal} {f:Nat->Nat} {rid:Nat} {rb:Blk} {id g n a b:Nat} {l:List Nat} {H:AHeap}
set_option maxHeartbeats 16000000 in
theorem Ps (S:SH cv f rid rb id g n l H)(hab:a<b)(hb:b<=n)(hB:Bl f l a b)(K:ARes->AHeap->Prop)(hK:∀ q fl,aZ a b l q->(fl=true->df f q a b)->K (.ret (.lit (.bool fl))) (H.upd id (nB g q))):
  af Try.prog G0 101 [.own id g 0 n 1,aa a,aa b,cv] H K:=by
 have hn:=S.hn;have w0:IntKind.i64.wrap ((a:Int)+1)=((a+1:Nat):Int):=by rw[IntWalk.i64_in _ (by omega)];omega
 refine af.cS (n:=141) (rs:=[.tmp 8]) Try.func101 rfl rfl rfl (by decide) (by simp) ?_;refine W.seq (ab _ _ _ (by rfl) ?_);simp only[go_sem];refine W.seq (ab _ _ _ (by rfl) ?_);simp only[go_sem,w0];refine W.seq (ab _ _ _ (by rfl) ?_);simp only[go_sem];refine W.env fun E hE=>?_;have e0:E 0=.own id g 0 n 1:=by rw[hE];simp only[go_sem]
 have e1:E 1=aa a:=by rw[hE];simp only[go_sem]
 have e2:E 2=aa b:=by rw[hE];simp only[go_sem]
 have e3:E 3=cv:=by rw[hE];simp only[go_sem]
 have e9:E 9=aa ((a+1:Nat):Int):=by rw[hE];simp only[go_sem]
 have e10:E 10=aa 0:=by rw[hE];simp only[go_sem]
 clear hE;refine W.aG 2787593149816327892691964784081045188222720 (by kernel_rfl) (fun ρ Hx=>∃ (c i:Nat) (q:List Nat),ρ 9=aa i/\ρ 10=aa c/\c<=5/\a<i/\i<=b/\aZ a b l q/\df f q a i/\Hx=H.upd id (nB g q)) (fun ρ Hx=>5 - (iv (ρ 10)).toNat) ?_ ?_
 ·exact⟨0,a+1,l,e9,e10,by omega,by omega,by omega,.refl _ _ _,fun x y h1 h2 h3=>by omega,S.self.symm⟩
 rintro ρ Hx ⟨c,i,q,h9,h10,hc5,hai,hib,hp,hS,hHx⟩;refine W.env fun F hF=>?_;have d0:F 0=.own id g 0 n 1:=by rw[hF];simp only[go_sem,e0]
 have d1:F 1=aa a:=by rw[hF];simp only[go_sem,e1]
 have d2:F 2=aa b:=by rw[hF];simp only[go_sem,e2]
 have d3:F 3=cv:=by rw[hF];simp only[go_sem,e3]
 have d9:F 9=aa i:=by rw[hF];simp only[go_sem,h9]
 have d10:F 10=aa c:=by rw[hF];simp only[go_sem,h10]
 clear hF;by_cases hc:(c:Int)<5;rotate_left
 ·refine ab _ _ _ (by rfl) ?_;simp only[go_sem,d10,hc];rw[hHx];refine ab _ _ _ (by rfl) ?_;simp only[go_sem];exact av.mk (Nat.le_refl _) (hK q false hp fun h=>by cases h)
 have T:=S.upd hp.1;rw[<- hHx]at T;have wc:=IntWalk.i64_in ((c:Int)+1) (by omega);refine W.seq (ab _ _ _ (by rfl) ?_);simp only[go_sem,d10,hc];refine W.seq (W.block ?_);refine W.de (fun s'=>s'.H=Hx/\s'.ρ 0=.own id g 0 n 1/\s'.ρ 1=aa a/\s'.ρ 2=aa b/\s'.ρ 3=cv/\s'.ρ 10=aa c/\∃ u:Nat,s'.ρ 9=aa u/\a<u/\u<=b/\df f q a u/\(u<b->f (q.getD u 0)<f (q.getD (u - 1) 0))) ?_ ?_
 ·refine W.block ?_;refine W.aG 549755290112 (by kernel_rfl) (fun ρ Hk=>Hk=Hx/\∃ u:Nat,ρ 9=aa u/\a<u/\u<=b/\df f q a u) (fun ρ _=>b - (iv (ρ 9)).toNat) ?_ ?_
  ·exact⟨rfl,i,by simp only[go_sem,d9],hai,hib,hS⟩
  rintro ρk Hk ⟨hHk,u,hu,u1,u2,u3⟩;rw[hHk];refine W.env fun J hJ=>?_;have m0:J 0=.own id g 0 n 1:=by rw[hJ];simp only[go_sem,d0]
  have m1:J 1=aa a:=by rw[hJ];simp only[go_sem,d1]
  have m2:J 2=aa b:=by rw[hJ];simp only[go_sem,d2]
  have m3:J 3=cv:=by rw[hJ];simp only[go_sem,d3]
  have m9:J 9=aa u:=by rw[hJ];simp only[go_sem,hu]
  have m10:J 10=aa c:=by rw[hJ];simp only[go_sem,d10]
  clear hJ;refine W.seq (W.de (fun s'=>s'.H=Hx/\s'.ρ 0=.own id g 0 n 1/\s'.ρ 1=aa a/\s'.ρ 2=aa b/\s'.ρ 3=cv/\s'.ρ 9=aa u/\s'.ρ 10=aa c/\s'.ρ 36=.lit (.bool (decide (u<b) && !decide (f (q.getD u 0)<f (q.getD (u - 1) 0))))) ?_ ?_)
  ·refine W.draw 14 [0,0,3,7,15,15,15,111,239,15,15,1039,3599,7695] Try.mixed (by kernel_rfl) (by kernel_rfl) ?_;by_cases hub:(u:Int)<b
   ·have b1:(u:Int)<n:=(by omega);have b2:((u - 1:Nat):Int)<n:=(by omega);have wj:IntKind.i64.wrap ((u:Int) - 1)=((u - 1:Nat):Int):=(by rw[IntWalk.i64_in _ (by omega)];omega);simp only[go_sem,m0,m2,m3,m9,T.live,hub,wj,T.cell (show u<n by omega),T.cell (show u - 1<n by omega),b1,b2];obtain⟨z,hz,hcc⟩:=T.ask (show u<n by omega) (show u - 1<n by omega);refine hcc _ ⟨trivial,?_⟩;have hd1:decide (u<b)=true:=decide_eq_true (by omega);rw[hd1];by_cases hlt:f (q.getD u 0)<f (q.getD (u - 1) 0)
    ·have hlt':=hz.2 hlt;simp only[go_sem,m0,m1,m2,m3,m9,m10,hlt',hlt]
     try rfl
    ·have hlt':¬ z<0:=fun h=>hlt (hz.1 h);simp only[go_sem,m0,m1,m2,m3,m9,m10,hlt',hlt]
     try rfl
   ·simp only[go_sem,m0,m1,m2,m3,m9,m10,hub];have hj0:decide (u<b)=false:=decide_eq_false (by omega);rw[hj0];rfl
  rintro⟨ρ3,Hs⟩ ⟨hHs,v0,v1,v2,v3,v9,v10,vc⟩;simp only at hHs v0 v1 v2 v3 v9 v10 vc;rw[hHs];clear hHs Hs;cases hfl:(decide (u<b) && !decide (f (q.getD u 0)<f (q.getD (u - 1) 0))) with
  | false =>
   rw[hfl]at vc;refine W.cond (t:=false) vc ?_;refine ab _ _ _ (by rfl) ?_;simp only[go_sem];refine⟨v0,v1,v2,v3,v10,u,v9,u1,u2,u3,fun h=>?_⟩;rw[decide_eq_true h,Bool.true_and,Bool.not_eq_false',decide_eq_true_iff]at hfl;exact hfl
  | true =>
   rw[hfl]at vc;refine W.cond (t:=true) vc ?_;have hfl2:u<b/\¬ f (q.getD u 0)<f (q.getD (u - 1) 0):=(by simpa using hfl);have wx:=IntWalk.i64_in ((u:Int)+1) (by omega);refine ab _ _ _ (by rfl) ?_;simp only[go_sem];refine ab _ _ _ (by rfl) ?_;simp only[go_sem,v9,wx];exact⟨⟨u+1,rfl,by omega,by omega,u3.snoc u1 hfl2.2⟩,by rw[hu];simp only[aa,aK];omega⟩
 rintro⟨ρa,Ha⟩ ⟨hHa,a0,a1,a2,a3,a10,u,a9,u1,u2,u3,u4⟩;simp only at hHa a0 a1 a2 a3 a10 a9;rw[hHa];clear hHa Ha hS;by_cases hub:(u:Int)=b
 ·refine W.seq (ab _ _ _ (by rfl) ?_);simp only[go_sem,a9,a2,hub];rw[hHx];exact av.mk (Nat.le_refl _) (hK q true hp fun _=>by rw[show b=u by omega];exact u3)
 have wba:=IntWalk.i64_in ((b:Int) - (a:Int)) (by omega);by_cases h50:(b:Int) - a<50
 ·refine W.seq (ab _ _ _ (by rfl) ?_);simp only[go_sem,a9,a2,hub];refine W.seq (ab _ _ _ (by rfl) ?_);simp only[go_sem,a1,a2,wba,h50];rw[hHx];exact av.mk (Nat.le_refl _) (hK q false hp fun h=>by cases h)
 have hlt0:=u4 (by omega);have wu:IntKind.i64.wrap ((u:Int) - 1)=((u - 1:Nat):Int):=by rw[IntWalk.i64_in _ (by omega)];omega
 have bu:(u:Int)<n:=by omega
 have bu1:((u - 1:Nat):Int)<n:=by omega
 have pl:=hp.len;rw[S.hl]at pl;refine W.seq (ab _ _ _ (by rfl) ?_);simp only[go_sem,a9,a2,hub];refine W.seq (ab _ _ _ (by rfl) ?_);simp only[go_sem,a1,a2,wba,h50];refine W.seq ?_;refine W.draw 16 [0,0,0,0,8,0,0,64,224,480,0,0,3072,7168,16355,32739] Try.mixed (by kernel_rfl) (by kernel_rfl) ?_;simp only[go_sem,a0,a9,T.live,T.len,wu,T.cell (show u<n by omega),T.cell (show u - 1<n by omega),bu,bu1,T.s1 (show u<n by omega),T.s2 (i:=u) (show u - 1<n by omega),T.iD,T.iE];refine⟨by omega,by omega,?_⟩;rw[T.u2,hHx,dX];obtain⟨q1,hq1⟩:∃ q1,q1=cf q u (u - 1):=⟨_,rfl⟩
 have pq1:aZ (u - 1) (u+1) q q1:=by rw[hq1];exact .swap (by omega) (by omega) (Nat.le_refl _) (by omega) (by omega)
 rw[<- hq1];have hp1:aZ a b l q1:=hp.trans (pq1.mono (by omega) (by omega));have hS1:df f q1 a (u - 1):=(show df f q a (u - 1) from fun x y h1 h2 h3=>u3 x y h1 h2 (by omega)).keep pq1;clear hq1 pq1;refine W.env fun M hM=>?_;have r0:M 0=.own id g 0 n 1:=by rw[hM];simp only[go_sem,a0]
 have r1:M 1=aa a:=by rw[hM];simp only[go_sem,a1]
 have r2:M 2=aa b:=by rw[hM];simp only[go_sem,a2]
 have r3:M 3=cv:=by rw[hM];simp only[go_sem,a3]
 have r9:M 9=aa u:=by rw[hM];simp only[go_sem,a9]
 have r10:M 10=aa c:=by rw[hM];simp only[go_sem,a10]
 clear hM;have wua:=IntWalk.i64_in ((u:Int) - (a:Int)) (by omega);refine W.seq ?_;refine W.de (fun s'=>s'.H=H.upd id (nB g q1)/\s'.ρ 0=.own id g 0 n 1/\s'.ρ 1=aa a/\s'.ρ 2=aa b/\s'.ρ 3=cv/\s'.ρ 9=aa u/\s'.ρ 10=aa c/\s'.ρ 65=.lit (.bool (decide ((2:Int)<=(u:Int) - a)))) ?_ ?_
 ·refine ab _ _ _ (by rfl) ?_;simp only[go_sem,r0,r1,r2,r3,r9,r10,wua]
 rintro⟨ρb,Hb⟩ ⟨hHb,c0,c1,c2,c3,c9,c10,c65⟩;simp only at hHb c0 c1 c2 c3 c9 c10 c65;rw[hHb];clear hHb Hb;have T1:=S.upd hp1.1;refine W.mono (Q:=fun ax s'=>ax=.normal/\s'.ρ 0=.own id g 0 n 1/\s'.ρ 1=aa a/\s'.ρ 2=aa b/\s'.ρ 3=cv/\s'.ρ 9=aa u/\s'.ρ 10=aa c/\∃ p,aZ a b l p/\df f p a u/\s'.H=H.upd id (nB g p)) ?_ ?_
 ·by_cases h2:(2:Int)<=(u:Int) - a;rotate_left
  ·refine W.cond (t:=false) (by rw[show ak G0 ρb (.tmp 65)=ρb 65 from rfl,c65,decide_eq_false h2]) ?_;refine ab _ _ _ (by rfl) ?_;simp only[go_sem];exact⟨c0,c1,c2,c3,c9,c10,q1,hp1,fun x y x1 x2 x3=>by omega,rfl⟩
  refine W.cond (t:=true) (by rw[show ak G0 ρb (.tmp 65)=ρb 65 from rfl,c65,decide_eq_true h2]) ?_;refine W.seq (ab _ _ _ (by rfl) ?_);simp only[go_sem,c9,wu];refine W.env fun E4 hE4=>?_;have k0:E4 0=.own id g 0 n 1:=by rw[hE4];simp only[go_sem,c0]
  have k1:E4 1=aa a:=by rw[hE4];simp only[go_sem,c1]
  have k2:E4 2=aa b:=by rw[hE4];simp only[go_sem,c2]
  have k3:E4 3=cv:=by rw[hE4];simp only[go_sem,c3]
  have k9:E4 9=aa u:=by rw[hE4];simp only[go_sem,c9]
  have k10:E4 10=aa c:=by rw[hE4];simp only[go_sem,c10]
  have k11:E4 11=aa ((u - 1:Nat):Int):=by rw[hE4];simp only[go_sem]
  clear hE4;refine W.block ?_;refine W.aG 2535301200161310897814053586944 (by kernel_rfl) (fun ρ Hz=>∃ (j:Nat) (p:List Nat),ρ 11=aa j/\a<=j/\j<=u - 1/\aZ a b l p/\kQ f p a (u - 1) j/\Hz=H.upd id (nB g p)) (fun ρ Hz=>(iv (ρ 11)).toNat) ?_ ?_
  ·exact⟨u - 1,q1,k11,by omega,Nat.le_refl _,hp1,.start hS1,rfl⟩
  rintro ρ2 Hz ⟨j,p,h11,haj,hj,hpp,hIn,hHz⟩;refine W.env fun E5 hE5=>?_;have m0:E5 0=.own id g 0 n 1:=by rw[hE5];simp only[go_sem,k0]
  have m1:E5 1=aa a:=by rw[hE5];simp only[go_sem,k1]
  have m2:E5 2=aa b:=by rw[hE5];simp only[go_sem,k2]
  have m3:E5 3=cv:=by rw[hE5];simp only[go_sem,k3]
  have m9:E5 9=aa u:=by rw[hE5];simp only[go_sem,k9]
  have m10:E5 10=aa c:=by rw[hE5];simp only[go_sem,k10]
  have m11:E5 11=aa j:=by rw[hE5];simp only[go_sem,h11]
  clear hE5;have Tz:=S.upd hpp.1;rw[<- hHz]at Tz;have stop:(j<=a\/f (p.getD (j - 1) 0)<=f (p.getD j 0))->df f p a u:=fun h=>by
   have:=hIn.done hj h
   rwa [show u - 1+1=u by omega]at this
  by_cases hj1:(j:Int) >= 1;rotate_left
  ·refine ab _ _ _ (by rfl) ?_;simp only[go_sem,m11,hj1];exact⟨m0,m1,m2,m3,m9,m10,p,hpp,stop (.inl (by omega)),hHz⟩
  have wj:IntKind.i64.wrap ((j:Int) - 1)=((j - 1:Nat):Int):=by rw[IntWalk.i64_in _ (by omega)];omega
  have jn:j<n:=by omega
  have b1:(j:Int)<n:=by omega
  have b2:((j - 1:Nat):Int)<n:=by omega
  refine W.seq (ab _ _ _ (by rfl) ?_);simp only[go_sem,m11,hj1];refine W.seq (W.block ?_);refine W.seq (W.de (fun s'=>s'.H=Hz/\s'.ρ 0=.own id g 0 n 1/\s'.ρ 1=aa a/\s'.ρ 2=aa b/\s'.ρ 3=cv/\s'.ρ 9=aa u/\s'.ρ 10=aa c/\s'.ρ 11=aa j/\s'.ρ 84=.lit (.bool (!decide (f (p.getD j 0)<f (p.getD (j - 1) 0))))) ?_ ?_)
  ·refine W.draw 10 [0,0,0,6,14,0,0,64,224,480] Try.mixed (by kernel_rfl) (by kernel_rfl) ?_;simp only[go_sem,m0,m3,m11,Tz.live,wj,Tz.cell jn,Tz.cell (show j - 1<n by omega),b1,b2];obtain⟨z,hz,hcc⟩:=Tz.ask jn (show j - 1<n by omega);refine hcc _ ⟨trivial,?_⟩;by_cases hlt:f (p.getD j 0)<f (p.getD (j - 1) 0)
   ·have hlt':=hz.2 hlt;simp only[go_sem,m0,m1,m2,m3,m9,m10,m11,hlt',hlt]
   ·have hlt':¬ z<0:=fun h=>hlt (hz.1 h);simp only[go_sem,m0,m1,m2,m3,m9,m10,m11,hlt',hlt]
  rintro⟨ρ3,Hs⟩ ⟨hHs,v0,v1,v2,v3,v9,v10,v11,vc⟩;simp only at hHs v0 v1 v2 v3 v9 v10 v11 vc;rw[hHs];clear hHs Hs;by_cases hlt:f (p.getD j 0)<f (p.getD (j - 1) 0);rotate_left
  ·rw[decide_eq_false hlt]at vc;refine W.cond (t:=true) vc ?_;refine ab _ _ _ (by rfl) ?_;simp only[go_sem];exact⟨v0,v1,v2,v3,v9,v10,p,hpp,stop (.inr (by omega)),hHz⟩
  rw[decide_eq_true hlt]at vc;have haj2:a<j:=by
   rcases Nat.lt_or_ge a j with h|h
   ·exact h
   ·have e:j=a:=(by omega);rcases hB.perm hpp (by rw[S.hl];exact hb) with h3|h3
    ·omega
    ·have:=h3 j (by omega) (by omega);rw[e]at this hlt;omega
  have pl2:=hpp.len;rw[S.hl]at pl2;refine W.cond (t:=false) vc ?_;refine ab _ _ _ (by rfl) ?_;simp only[go_sem];refine W.draw 16 [0,0,0,0,8,0,0,64,224,480,0,0,3072,7168,16355,32739] Try.mixed (by kernel_rfl) (by kernel_rfl) ?_;simp only[go_sem,v0,v11,Tz.live,Tz.len,wj,Tz.cell jn,Tz.cell (show j - 1<n by omega),b1,b2,Tz.s1 jn,Tz.s2 (i:=j) (show j - 1<n by omega),Tz.iD,Tz.iE];refine⟨by omega,by omega,?_⟩
  try rw[Tz.u2]
  refine ab _ _ _ (by rfl) ?_;simp only[go_sem,v11,wj];refine⟨by simp only[az];rw[hHz];exact Nat.le_refl _,⟨j - 1,cf p j (j - 1),rfl,by omega,by omega,hpp.trans (.swap (by omega) (by omega) (by omega) (by omega) (by rw[pl2];exact hb)),hIn.step hj (by omega) haj2 hlt,?_⟩,by rw[h11];simp only[aa,aK];omega⟩;rw[hHz,dX]
 rintro ax ⟨ρc,Hc⟩ ⟨hax,x0,x1,x2,x3,x9,x10,p,hpp,hSp,hHc⟩;simp only at x0 x1 x2 x3 x9 x10 hHc;subst hax;rw[hHc];clear hHc Hc hp1 hS1 T1;have wbu:=IntWalk.i64_in ((b:Int) - (u:Int)) (by omega);refine W.de (fun s'=>s'.H=H.upd id (nB g p)/\s'.ρ 0=.own id g 0 n 1/\s'.ρ 2=aa b/\s'.ρ 3=cv/\s'.ρ 9=aa u/\s'.ρ 10=aa c/\s'.ρ 104=.lit (.bool (decide ((2:Int)<=(b:Int) - u)))) ?_ ?_
 ·refine ab _ _ _ (by rfl) ?_;simp only[go_sem,x0,x2,x3,x9,x10,wbu]
 rintro⟨ρd,Hd⟩ ⟨hHd,c0,c2,c3,c9,c10,c104⟩;simp only at hHd c0 c2 c3 c9 c10 c104;rw[hHd];clear hHd Hd;refine W.mono (Q:=fun ax s'=>ax=.normal/\s'.ρ 9=aa u/\s'.ρ 10=aa c/\∃ p,aZ a b l p/\df f p a u/\s'.H=H.upd id (nB g p)) ?_ ?_
 ·by_cases h2:(2:Int)<=(b:Int) - u;rotate_left
  ·refine W.cond (t:=false) (by rw[show ak G0 ρd (.tmp 104)=ρd 104 from rfl,c104,decide_eq_false h2]) ?_;refine ab _ _ _ (by rfl) ?_;simp only[go_sem];exact⟨c9,c10,p,hpp,hSp,rfl⟩
  refine W.cond (t:=true) (by rw[show ak G0 ρd (.tmp 104)=ρd 104 from rfl,c104,decide_eq_true h2]) ?_;have wu1:IntKind.i64.wrap ((u:Int)+1)=((u+1:Nat):Int):=by rw[IntWalk.i64_in _ (by omega)];omega
  refine W.seq (ab _ _ _ (by rfl) ?_);simp only[go_sem,c9,wu1];refine W.env fun E4 hE4=>?_;have k0:E4 0=.own id g 0 n 1:=by rw[hE4];simp only[go_sem,c0]
  have k2:E4 2=aa b:=by rw[hE4];simp only[go_sem,c2]
  have k3:E4 3=cv:=by rw[hE4];simp only[go_sem,c3]
  have k9:E4 9=aa u:=by rw[hE4];simp only[go_sem,c9]
  have k10:E4 10=aa c:=by rw[hE4];simp only[go_sem,c10]
  have k12:E4 12=aa ((u+1:Nat):Int):=by rw[hE4];simp only[go_sem]
  clear hE4;refine W.block ?_;refine W.aG 2787593149654068615862751420689467177963520 (by kernel_rfl) (fun ρ Hz=>∃ (j:Nat) (p:List Nat),ρ 12=aa j/\u<j/\j<=b/\aZ a b l p/\df f p a u/\Hz=H.upd id (nB g p)) (fun ρ Hz=>b - (iv (ρ 12)).toNat) ?_ ?_
  ·exact⟨u+1,p,k12,by omega,by omega,hpp,hSp,rfl⟩
  clear hpp hSp c0 c2 c3 c9 c10 c104 x0 x1 x2 x3 x9 x10;rintro ρ2 Hz ⟨j,p,h12,huj,hj,hpp,hSp,hHz⟩;refine W.env fun E5 hE5=>?_;have m0:E5 0=.own id g 0 n 1:=by rw[hE5];simp only[go_sem,k0]
  have m2:E5 2=aa b:=by rw[hE5];simp only[go_sem,k2]
  have m3:E5 3=cv:=by rw[hE5];simp only[go_sem,k3]
  have m9:E5 9=aa u:=by rw[hE5];simp only[go_sem,k9]
  have m10:E5 10=aa c:=by rw[hE5];simp only[go_sem,k10]
  have m12:E5 12=aa j:=by rw[hE5];simp only[go_sem,h12]
  clear hE5;have Tz:=S.upd hpp.1;rw[<- hHz]at Tz;by_cases hjb:(j:Int)<b;rotate_left
  ·refine ab _ _ _ (by rfl) ?_;simp only[go_sem,m12,m2,hjb];exact⟨m9,m10,p,hpp,hSp,hHz⟩
  have wj:IntKind.i64.wrap ((j:Int) - 1)=((j - 1:Nat):Int):=by rw[IntWalk.i64_in _ (by omega)];omega
  have wj1:=IntWalk.i64_in ((j:Int)+1) (by omega);have jn:j<n:=by omega
  have b1:(j:Int)<n:=by omega
  have b2:((j - 1:Nat):Int)<n:=by omega
  refine W.seq (ab _ _ _ (by rfl) ?_);simp only[go_sem,m12,m2,hjb];refine W.seq (W.block ?_);refine W.seq (W.de (fun s'=>s'.H=Hz/\s'.ρ 0=.own id g 0 n 1/\s'.ρ 9=aa u/\s'.ρ 10=aa c/\s'.ρ 12=aa j/\s'.ρ 124=.lit (.bool (!decide (f (p.getD j 0)<f (p.getD (j - 1) 0))))) ?_ ?_)
  ·refine W.draw 10 [0,0,0,6,14,0,0,64,224,480] Try.mixed (by kernel_rfl) (by kernel_rfl) ?_;simp only[go_sem,m0,m3,m12,Tz.live,wj,Tz.cell jn,Tz.cell (show j - 1<n by omega),b1,b2];obtain⟨z,hz,hcc⟩:=Tz.ask jn (show j - 1<n by omega);refine hcc _ ⟨trivial,?_⟩;by_cases hlt:f (p.getD j 0)<f (p.getD (j - 1) 0)
   ·have hlt':=hz.2 hlt;simp only[go_sem,m0,m3,m9,m10,m12,hlt',hlt]
   ·have hlt':¬ z<0:=fun h=>hlt (hz.1 h);simp only[go_sem,m0,m3,m9,m10,m12,hlt',hlt]
  rintro⟨ρ3,Hs⟩ ⟨hHs,v0,v9,v10,v12,vc⟩;simp only at hHs v0 v9 v10 v12 vc;rw[hHs];clear hHs Hs;by_cases hlt:f (p.getD j 0)<f (p.getD (j - 1) 0);rotate_left
  ·rw[decide_eq_false hlt]at vc;refine W.cond (t:=true) vc ?_;refine ab _ _ _ (by rfl) ?_;simp only[go_sem];exact⟨v9,v10,p,hpp,hSp,hHz⟩
  rw[decide_eq_true hlt]at vc;have pl2:=hpp.len;rw[S.hl]at pl2;have sw:aZ u b p (cf p j (j - 1)):=.swap (by omega) (by omega) (by omega) (by omega) (by rw[pl2];exact hb);refine W.cond (t:=false) vc ?_;refine ab _ _ _ (by rfl) ?_;simp only[go_sem];refine W.draw 16 [0,0,0,0,8,0,0,64,224,480,0,0,3072,7168,16355,32739] Try.mixed (by kernel_rfl) (by kernel_rfl) ?_;simp only[go_sem,v0,v12,Tz.live,Tz.len,wj,Tz.cell jn,Tz.cell (show j - 1<n by omega),b1,b2,Tz.s1 jn,Tz.s2 (i:=j) (show j - 1<n by omega),Tz.iD,Tz.iE];refine⟨by omega,by omega,?_⟩
  try rw[Tz.u2]
  refine ab _ _ _ (by rfl) ?_;simp only[go_sem,v12,wj1];refine⟨by simp only[az];rw[hHz];exact Nat.le_refl _,⟨j+1,cf p j (j - 1),rfl,by omega,by omega,hpp.trans (sw.mono (by omega) (Nat.le_refl _)),hSp.keep sw,?_⟩,by rw[h12];simp only[aa,aK];omega⟩;rw[hHz,dX]
 rintro ax ⟨ρe,He⟩ ⟨hax,y9,y10,p',hpp',hSp',hHe⟩;simp only at y9 y10 hHe;subst hax;rw[hHe];show W _ _ _ _ _ _ _;refine ab _ _ _ (by rfl) ?_;simp only[go_sem,y10,wc];exact⟨Nat.le_refl _,⟨c+1,u,p',y9,rfl,by omega,u1,u2,hpp',hSp',rfl⟩,by rw[h10];simp only[aa,aK];omega⟩
end
end Go.Proofs
namespace Go.Proofs
open Go.Hx
section
variable {cv:AVal} {f:Nat->Nat} {rid:Nat} {rb:Blk} {id g n a:Nat} {l:List Nat} {H:AHeap}
set_option maxHeartbeats 16000000 in
theorem CW {lo hi:Nat}(S:SH cv f rid rb id g n l H)(hb:a+hi<=n)(hl0:lo<=hi)(hh:gT f l a (lo+1) hi)(K:ARes->AHeap->Prop)(hK:∀ q,aZ (a+lo) (a+hi) l q->gT f q a lo hi->K (.ret (.tup [])) (H.upd id (nB g q))):
  af Try.prog G0 107 [.own id g 0 n 1,aa lo,aa hi,aa a,cv] H K:=by
 have hn:=S.hn;refine af.cS (n:=82) (rs:=[]) Try.func107 rfl rfl rfl (by decide) (by simp) ?_;refine W.seq (ab _ _ _ (by rfl) ?_);simp only[go_sem];refine W.env fun E hE=>?_;have e0:E 0=.own id g 0 n 1:=by rw[hE];simp only[go_sem]
 have e2:E 2=aa hi:=by rw[hE];simp only[go_sem]
 have e3:E 3=aa a:=by rw[hE];simp only[go_sem]
 have e4:E 4=cv:=by rw[hE];simp only[go_sem]
 have e10:E 10=aa lo:=by rw[hE];simp only[go_sem]
 clear hE;refine W.block ?_;refine W.aG 4835703278458516698819584 (by kernel_rfl) (fun ρ Hx=>∃ (r:Nat) (q:List Nat),ρ 10=aa r/\lo<=r/\(r<hi\/r=lo)/\aZ (a+lo) (a+hi) l q/\md f q a lo hi r/\Hx=H.upd id (nB g q)) (fun ρ Hx=>hi+1 - (iv (ρ 10)).toNat) ?_ ?_
 ·exact⟨lo,l,e10,Nat.le_refl _,.inr rfl,.refl _ _ _,.start hh,S.self.symm⟩
 rintro ρ Hx ⟨r,q,h10,hlr,hrh,hp,hI,hHx⟩;refine W.env fun F hF=>?_;have d0:F 0=.own id g 0 n 1:=by rw[hF];simp only[go_sem,e0]
 have d2:F 2=aa hi:=by rw[hF];simp only[go_sem,e2]
 have d3:F 3=aa a:=by rw[hF];simp only[go_sem,e3]
 have d4:F 4=cv:=by rw[hF];simp only[go_sem,e4]
 have d10:F 10=aa r:=by rw[hF];simp only[go_sem,h10]
 clear hF;have T:=S.upd hp.1;rw[<- hHx]at T;have wm:IntKind.i64.wrap (2*(r:Int))=((2*r:Nat):Int):=by rw[IntWalk.i64_in _ (by omega)];omega
 have wc:IntKind.i64.wrap (((2*r:Nat):Int)+1)=((2*r+1:Nat):Int):=by rw[IntWalk.i64_in _ (by omega)];omega
 obtain⟨c,hc⟩:∃ c,c=2*r+1:=⟨_,rfl⟩
 rw[<- hc]at wc;by_cases hce:(c:Int) >= hi
 ·refine W.block ?_;refine W.seq (ab _ _ _ (by rfl) ?_);simp only[go_sem,d10,wm,wc];refine ab _ _ _ (by rfl) ?_;simp only[go_sem,d2,hce];rw[hHx];exact av.mk (Nat.le_refl _) (hK q hp (hI.done fun k k1 k2=>by unfold eb at k1;omega))
 refine W.block ?_;refine W.seq (ab _ _ _ (by rfl) ?_);simp only[go_sem,d10,wm,wc];refine W.seq (ab _ _ _ (by rfl) ?_);simp only[go_sem,d2,hce];refine W.env fun J hJ=>?_;have m0:J 0=.own id g 0 n 1:=by rw[hJ];simp only[go_sem,d0]
 have m2:J 2=aa hi:=by rw[hJ];simp only[go_sem,d2]
 have m3:J 3=aa a:=by rw[hJ];simp only[go_sem,d3]
 have m4:J 4=cv:=by rw[hJ];simp only[go_sem,d4]
 have m10:J 10=aa r:=by rw[hJ];simp only[go_sem,d10]
 have m11:J 11=aa c:=by rw[hJ];simp only[go_sem]
 clear hJ;have wc1:IntKind.i64.wrap ((c:Int)+1)=((c+1:Nat):Int):=by rw[IntWalk.i64_in _ (by omega)];omega
 have wac:IntKind.i64.wrap ((a:Int)+(c:Int))=((a+c:Nat):Int):=by rw[IntWalk.i64_in _ (by omega)];omega
 have wac1:IntKind.i64.wrap (((a+c:Nat):Int)+1)=((a+c+1:Nat):Int):=by rw[IntWalk.i64_in _ (by omega)];omega
 have bc:((a+c:Nat):Int)<n:=by omega
 refine W.seq (W.mono (Q:=fun ax s'=>ax=.normal/\s'.H=Hx/\s'.ρ 0=.own id g 0 n 1/\s'.ρ 2=aa hi/\s'.ρ 3=aa a/\s'.ρ 4=cv/\s'.ρ 10=aa r/\∃ d:Nat,s'.ρ 11=aa d/\eb r d/\d<hi/\∀ e,eb r e->e<hi->f (q.getD (a+e) 0)<=f (q.getD (a+d) 0)) ?_ ?_)
 ·refine W.de (fun s'=>s'.H=Hx/\s'.ρ 0=.own id g 0 n 1/\s'.ρ 2=aa hi/\s'.ρ 3=aa a/\s'.ρ 4=cv/\s'.ρ 10=aa r/\s'.ρ 11=aa c/\s'.ρ 40=.lit (.bool (decide (c+1<hi) && decide (f (q.getD (a+c) 0)<f (q.getD (a+c+1) 0))))) ?_ ?_
  ·refine W.draw 19 [0,1,0,7,15,31,31,31,31,415,991,2015,31,31,31,24607,57375,127007,258079] Try.mixed (by kernel_rfl) (by kernel_rfl) ?_;by_cases hub:((c+1:Nat):Int)<hi
   ·have b2:((a+c+1:Nat):Int)<n:=(by omega);simp only[go_sem,m0,m2,m3,m4,m11,T.live,hub,wc1,wac,wac1,T.cell (show a+c<n by omega),T.cell (show a+c+1<n by omega),bc,b2];obtain⟨z,hz,hcc⟩:=T.ask (show a+c<n by omega) (show a+c+1<n by omega);refine hcc _ ⟨trivial,?_⟩;have hd1:decide (c+1<hi)=true:=decide_eq_true (by omega);rw[hd1];by_cases hlt:f (q.getD (a+c) 0)<f (q.getD (a+c+1) 0)
    ·have hlt':=hz.2 hlt;simp only[go_sem,m0,m2,m3,m4,m10,m11,hlt',hlt]
     try rfl
    ·have hlt':¬ z<0:=fun h=>hlt (hz.1 h);simp only[go_sem,m0,m2,m3,m4,m10,m11,hlt',hlt]
     try rfl
   ·simp only[go_sem,m0,m2,m3,m4,m10,m11,hub,wc1];have hj0:decide (c+1<hi)=false:=decide_eq_false (by omega);rw[hj0];rfl
  rintro⟨ρ3,Hs⟩ ⟨hHs,v0,v2,v3,v4,v10,v11,vc⟩;simp only at hHs v0 v2 v3 v4 v10 v11 vc;rw[hHs];clear hHs Hs;cases hfl:(decide (c+1<hi) && decide (f (q.getD (a+c) 0)<f (q.getD (a+c+1) 0))) with
  | false =>
   rw[hfl]at vc;refine W.cond (t:=false) vc ?_;refine ab _ _ _ (by rfl) ?_;simp only[go_sem];refine⟨v0,v2,v3,v4,v10,c,v11,.inl hc,by omega,fun e e1 e2=>?_⟩;rcases e1 with e1|e1
   ·rw[show e=c by omega];exact Nat.le_refl _
   ·rw[decide_eq_true (show c+1<hi by omega),Bool.true_and,decide_eq_false_iff_not]at hfl;rw[show a+e=a+c+1 by omega];omega
  | true =>
   rw[hfl]at vc;refine W.cond (t:=true) vc ?_;have hfl2:c+1<hi/\f (q.getD (a+c) 0)<f (q.getD (a+c+1) 0):=(by simpa using hfl);refine ab _ _ _ (by rfl) ?_;simp only[go_sem,v11,wc1];refine⟨v0,v2,v3,v4,v10,c+1,rfl,.inr (by omega),by omega,fun e e1 e2=>?_⟩;rcases e1 with e1|e1
   ·rw[show e=c by omega,<- Nat.add_assoc];omega
   ·rw[show e=c+1 by omega];exact Nat.le_refl _
 rintro ax ⟨ρa,Ha⟩ ⟨hax,hHa,a0,a2,a3,a4,a10,d,a11,kd,dh,dm⟩;simp only at hHa a0 a2 a3 a4 a10 a11;subst hax;rw[hHa];clear hHa Ha;show W _ _ _ _ _ _ _;have rd:r<d:=by unfold eb at kd;omega
 have war:IntKind.i64.wrap ((a:Int)+(r:Int))=((a+r:Nat):Int):=by rw[IntWalk.i64_in _ (by omega)];omega
 have wad:IntKind.i64.wrap ((a:Int)+(d:Int))=((a+d:Nat):Int):=by rw[IntWalk.i64_in _ (by omega)];omega
 have br:((a+r:Nat):Int)<n:=by omega
 have bd:((a+d:Nat):Int)<n:=by omega
 have rn:a+r<n:=by omega
 have dn:a+d<n:=by omega
 refine W.seq (W.de (fun s'=>s'.H=Hx/\s'.ρ 0=.own id g 0 n 1/\s'.ρ 3=aa a/\s'.ρ 10=aa r/\s'.ρ 11=aa d/\s'.ρ 58=.lit (.bool (!decide (f (q.getD (a+r) 0)<f (q.getD (a+d) 0))))) ?_ ?_)
 ·refine W.draw 13 [0,0,0,0,12,30,62,0,0,0,768,1920,3968] Try.mixed (by kernel_rfl) (by kernel_rfl) ?_;simp only[go_sem,a0,a3,a4,a10,a11,T.live,war,wad,T.cell rn,T.cell dn,br,bd];obtain⟨z,hz,hcc⟩:=T.ask rn dn;refine hcc _ ⟨trivial,?_⟩;by_cases hlt:f (q.getD (a+r) 0)<f (q.getD (a+d) 0)
  ·have hlt':=hz.2 hlt;simp only[go_sem,a0,a3,a4,a10,a11,hlt',hlt]
  ·have hlt':¬ z<0:=fun h=>hlt (hz.1 h);simp only[go_sem,a0,a3,a4,a10,a11,hlt',hlt]
 rintro⟨ρ4,Hs⟩ ⟨hHs,v0,v3,v10,v11,vc⟩;simp only at hHs v0 v3 v10 v11 vc;rw[hHs];clear hHs Hs;by_cases hlt:f (q.getD (a+r) 0)<f (q.getD (a+d) 0);rotate_left
 ·rw[decide_eq_false hlt]at vc;refine W.cond (t:=true) vc ?_;refine ab _ _ _ (by rfl) ?_;simp only[go_sem];rw[hHx];exact av.mk (Nat.le_refl _) (hK q hp (hI.done fun e e1 e2=>by have:=dm e e1 e2;omega))
 rw[decide_eq_true hlt]at vc;have pl:=hp.len;rw[S.hl]at pl;refine W.cond (t:=false) vc ?_;refine ab _ _ _ (by rfl) ?_;simp only[go_sem];refine W.seq ?_;refine W.draw 22 [0,0,0,6,0,0,0,96,0,0,0,1536,3840,7936,0,0,0,98304,245760,507904,1048335,2096911] Try.mixed (by kernel_rfl) (by kernel_rfl) ?_;simp only[go_sem,v0,v3,v10,v11,T.live,T.len,war,wad,T.cell rn,T.cell dn,br,bd,T.s1 rn,T.s2 (i:=a+r) dn,T.iD,T.iE];refine⟨by omega,by omega,?_⟩
 try rw[T.u2]
 refine ab _ _ _ (by rfl) ?_;simp only[go_sem,v11];refine⟨by simp only[az];rw[hHx];exact Nat.le_refl _,⟨d,cf q (a+r) (a+d),rfl,by omega,.inl dh,hp.trans (.swap (by omega) (by omega) (by omega) (by omega) (by omega)),hI.step hlr (by omega) kd dh dm (Nat.le_of_lt hlt),?_⟩,by rw[h10];simp only[aa,aK];omega⟩;rw[hHx,dX]
end
end Go.Proofs
