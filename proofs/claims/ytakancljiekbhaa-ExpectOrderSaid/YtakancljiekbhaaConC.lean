/-
  Rounding: which places get one more. Plain: no program stands in this text. No conditions.
-/
import Derived.Test.YtakancljiekbhaaLibC
import Derived.Test.YtakancljiekbhaaConA
set_option linter.all false
namespace Go.Proofs
def before (r:Nat->Int)(i j:Nat):Prop:=r j<r i\/(r i=r j/\i<j)
theorem Q4 {r:Nat->Int}{i j:Nat}(h:before r i j):¬ before r j i:=fun k=>by unfold before at *;omega
theorem D2 {r:Nat->Int}{i j:Nat}(h:i≠j):before r i j\/before r j i:=by unfold before;omega
structure Top (r:Nat->Int)(n k:Nat)(M:Nat->Bool):Prop where
 count:(List.range n).countP M=k
 first:∀ i j,i<n->j<n->M i=true->M j=false->before r i j
theorem Q5 {l:List Nat}{p q:Nat->Bool}(h:∀ x∈l,p x=true->q x=true){a:Nat}(ha:a∈l)(hp:p a=false)(hq:q a=true):l.countP p<l.countP q:=by
 induction l with
 | nil=>cases ha
 | cons x l ih =>
  have hm:l.countP p<=l.countP q:=List.countP_mono_left fun y hy=>h y (by simp [hy]);rcases List.mem_cons.1 ha with rfl|ha
  ·rw[List.countP_cons,List.countP_cons,hp,hq];simp;omega
  ·have:=ih (fun y hy=>h y (by simp [hy])) ha;have hx:=h x (by simp);rw[List.countP_cons,List.countP_cons];cases hpx:p x
   ·simp;omega
   ·rw[hx hpx];simp;omega
theorem Top.unique {r:Nat->Int}{n k:Nat}{M M':Nat->Bool}(h:Top r n k M)(h':Top r n k M'):∀ i,i<n->M i=M' i:=by
 have key:∀ {M M':Nat->Bool},Top r n k M->Top r n k M'->∀ i,i<n->M i=true->M' i=true:=by
  intro M M' h h' i hi hm;rcases Bool.eq_false_or_eq_true (M' i) with e|e
  ·exact e
    -- some place of M' is not in M
  have:∃ j,j<n/\M' j=true/\M j=false:=by
   refine Classical.byContradiction fun hno=>?_;have hsub:∀ x∈List.range n,M' x=true->M x=true:=fun x hx hx'=>by
    rcases Bool.eq_false_or_eq_true (M x) with e|e
    ·exact e
    ·exact absurd ⟨x,List.mem_range.1 hx,hx',e⟩ hno
   have:=Q5 hsub (List.mem_range.2 hi) e hm;rw[h.count,h'.count]at this;omega
  obtain⟨j,hj,a,b⟩:=this;exact absurd (h'.first j i hj hi a e) (Q4 (h.first i j hi hj hm b))
 intro i hi;have a:=key h h' i hi;have b:=key h' h i hi;cases h1:M i<;>cases h2:M' i<;>simp_all
theorem Top.zero {r:Nat->Int}{n:Nat}:Top r n 0 (fun _=>false):=⟨by simp,fun _ _ _ _ h=>by cases h⟩
theorem Top.step {r:Nat->Int}{n k b:Nat}{M:Nat->Bool}(h:Top r n k M)(hb:b<n)(hm:M b=false)(hmin:∀ j,j<n->M j=false->j≠b->before r b j):
  Top r n (k+1) (fun i=>decide (i=b) || M i) where
 count:=by
  have:∀ l:List Nat,l.Nodup->b∈l->l.countP (fun i=>decide (i=b) || M i)=l.countP M+1:=by
   intro l
   induction l with
   | nil=>intro _ h;cases h
   | cons x l ih =>
    intro hnd hmem;obtain⟨h1,h2⟩:=List.nodup_cons.1 hnd;rw[List.countP_cons,List.countP_cons];rcases List.mem_cons.1 hmem with rfl|hmem
    ·have:l.countP (fun i=>decide (i=b) || M i)=l.countP M:=List.countP_congr fun y hy=>by
      have:y≠b:=(by rintro rfl;exact h1 hy);simp [this]
     rw[this];simp [hm]
    ·have hx:x≠b:=(by rintro rfl;exact h1 hmem);rw[ih h2 hmem];simp [hx];omega
  rw[this _ List.nodup_range (List.mem_range.2 hb),h.count]
 first i j hi hj h1 h2:=by
  simp only[Bool.or_eq_true,decide_eq_true_eq,Bool.or_eq_false_iff,decide_eq_false_iff_not]at h1 h2;rcases h1 with rfl|h1
  ·exact hmin j hj h2.2 h2.1
  ·exact h.first i j hi hj h1 h2.2
theorem Top.sorted {r:Nat->Int}{n k:Nat}{l:List Nat}(hp:l.Perm (List.range n))(hs:l.Pairwise (before r))(hk:k<=n):Top r n k (fun i=>decide (i∈l.take k)) where
 count:=by
  rw[<- hp.countP_eq];have hnd:l.Nodup:=hp.nodup_iff.2 List.nodup_range;have hl:l.length=n:=by simpa using hp.length_eq
  conv=>lhs;rw[<- List.take_append_drop k l]
  rw[List.countP_append];have e1:(l.take k).countP (fun i=>decide (i∈(List.take k l++List.drop k l).take k))=k:=by
   have:(l.take k).length=k:=by simp;omega
   conv=>rhs;rw[<- this]
   rw[List.countP_eq_length];intro x hx;simpa using hx
  have e2:(l.drop k).countP (fun i=>decide (i∈(List.take k l++List.drop k l).take k))=0:=by
   rw[List.countP_eq_zero];intro x hx;rw[List.take_append_drop];simp only[decide_eq_true_eq];intro hx2;have:=(List.take_append_drop k l) ▸ hnd;rw[List.nodup_append]at this;exact this.2.2 x hx2 x hx rfl
  rw[e1,e2];rfl
 first i j hi hj h1 h2:=by
  simp only[decide_eq_true_eq,decide_eq_false_iff_not]at h1 h2;have hjl:j∈l:=hp.mem_iff.2 (List.mem_range.2 hj);rw[<- List.take_append_drop k l]at hjl hs;rcases List.mem_append.1 hjl with h|h
  ·exact absurd h h2
  ·exact(List.pairwise_append.1 hs).2.2 i h1 j h
def fI (c:List Int):List Int:=if 0<c.sum then c else List.replicate c.length 1
def dR (c:List Int):Int:=if 0<c.sum then c.sum else c.length
def partAt (sp:Int)(c:List Int)(i:Nat):Int:=sp*(fI c).getD i 0 / dR c
def dk (sp:Int)(c:List Int)(i:Nat):Int:=sp*(fI c).getD i 0 % dR c
def eC (grain least:Int)(c:List Int):Int:=grain - least*c.length
def iE (sp:Int)(c:List Int):Int:=sp - ((List.range c.length).map (partAt sp c)).sum
theorem Q6 (c:List Int):(fI c).length=c.length:=by unfold fI;split<;>simp
theorem D3 (c:List Int):(fI c).sum=dR c:=by
 unfold fI dR;split
 ·rfl
 ·simp
theorem D4 {c:List Int}(h:∀ x∈c,0<=x):∀ x∈fI c,0<=x:=by
 unfold fI;split
 ·exact h
 ·intro x hx;rw[List.mem_replicate]at hx;omega
theorem pF {c:List Int}(h:0<c.length):0<dR c:=by unfold dR;split<;>omega
theorem Q7:∀ (l:List Int),((List.range l.length).map fun i=>l.getD i 0).sum=l.sum:=by
 intro l;have:((List.range l.length).map fun i=>l.getD i 0)=l:=by
  apply List.ext_getElem
  ·simp
  ·intro i h1 h2;simp at h1 ⊢;simp [h1]
 rw[this]
theorem uJ (l:List Nat)(f g:Nat->Int):(l.map fun i=>f i+g i).sum=(l.map f).sum+(l.map g).sum:=by
 induction l with
 | nil=>rfl
 | cons x l ih=>simp only[List.map_cons,List.sum_cons,ih];omega
theorem yY (l:List Nat)(k:Int)(f:Nat->Int):(l.map fun i=>k*f i).sum=k*(l.map f).sum:=by
 induction l with
 | nil=>simp
 | cons x l ih=>simp only[List.map_cons,List.sum_cons,ih];rw[Int.mul_add]
theorem Q8 {l:List Nat}{f:Nat->Int}{b:Int}(h:∀ i∈l,f i<=b):(l.map f).sum<=b*l.length:=by
 induction l with
 | nil=>simp
 | cons x l ih =>
  have h1:=ih fun i hi=>h i (by simp [hi]);have h2:=h x (by simp);simp only[List.map_cons,List.sum_cons,List.length_cons];have:b*((l.length+1:Nat):Int)=b*l.length+b:=by push_cast;rw[Int.mul_add];simp
  omega
theorem Q9 {l:List Nat}{f:Nat->Int}(h:∀ i∈l,0<=f i):0<=(l.map f).sum:=by
 induction l with
 | nil=>simp
 | cons x l ih =>
  have h1:=ih fun i hi=>h i (by simp [hi]);have h2:=h x (by simp);simp only[List.map_cons,List.sum_cons];omega
theorem yZ {sp:Int}{c:List Int}(h:0<c.length)(i:Nat):0<=dk sp c i/\dk sp c i<dR c :=
 ⟨Int.emod_nonneg _ (by have:=pF h;omega),Int.emod_lt_of_pos _ (pF h)⟩
theorem Ra {sp:Int}{c:List Int}(h:0<c.length):iE sp c*dR c=((List.range c.length).map (dk sp c)).sum:=by
 have e:∀ i,sp*(fI c).getD i 0=dR c*partAt sp c i+dk sp c i:=fun i=>by
  unfold partAt dk;exact(Int.mul_ediv_add_emod _ _).symm
 have h1:((List.range c.length).map fun i=>sp*(fI c).getD i 0).sum=sp*dR c:=by
  rw[yY,<- Q6 c,Q7,D3]
 have h2:((List.range c.length).map fun i=>sp*(fI c).getD i 0).sum=dR c*((List.range c.length).map (partAt sp c)).sum+((List.range c.length).map (dk sp c)).sum:=by
  rw[<- yY,<- uJ];congr 1;exact List.map_congr_left fun i _=>e i
 unfold iE;rw[Int.sub_mul,<- h1,h2,Int.mul_comm (dR c)];omega
theorem y6 {sp:Int}{c:List Int}(h:0<c.length):0<=iE sp c/\iE sp c<c.length:=by
 have hT:=pF h;have e:=Ra (sp:=sp) h;have h0:0<=((List.range c.length).map (dk sp c)).sum:=Q9 fun i _=>(yZ h i).1;have h1:((List.range c.length).map (dk sp c)).sum<=(dR c - 1)*(List.range c.length).length:=Q8 fun i _=>by have:=(yZ (sp:=sp) h i).2;omega
 rw[<- e]at h0 h1;simp only[List.length_range]at h1;constructor
 ·exact Classical.byContradiction fun hn=>by
   have:iE sp c*dR c<0:=Int.mul_neg_of_neg_of_pos (by omega) hT;omega
 ·exact Classical.byContradiction fun hn=>by
   have h3:(c.length:Int)*dR c<=iE sp c*dR c:=Int.mul_le_mul_of_nonneg_right (by omega) (by omega);have h4:(dR c - 1)*(c.length:Int)=c.length*dR c - c.length:=(by rw[Int.sub_mul,Int.mul_comm];omega);omega
def dY (least sp:Int)(c:List Int)(M:Nat->Bool):List Int:=(List.range c.length).map fun i=>least+partAt sp c i+if M i then 1 else 0
def jC (least sp:Int)(c s:List Int):Prop:=∃ M,Top (dk sp c) c.length (iE sp c).toNat M/\s=dY least sp c M
theorem jC.unique {least sp:Int}{c s s':List Int}(h:jC least sp c s)(h':jC least sp c s'):s=s':=by
 obtain⟨M,h1,rfl⟩:=h;obtain⟨M',h2,rfl⟩:=h';unfold dY;apply List.map_congr_left;intro i hi;rw[h1.unique h2 i (List.mem_range.1 hi)]
end Go.Proofs
namespace Go.Proofs
def cF (n:Nat)(f:Nat->Int):Int:=((List.range n).map f).sum
theorem uK (n:Nat)(f g:Nat->Int):cF n (fun i=>f i+g i)=cF n f+cF n g:=uJ _ _ _
theorem rA (n:Nat)(k:Int)(f:Nat->Int):cF n (fun i=>k*f i)=k*cF n f:=yY _ _ _
theorem uL {n:Nat}{f g:Nat->Int}(h:∀ i,i<n->f i=g i):cF n f=cF n g:=by
 unfold cF;rw[List.map_congr_left fun i hi=>h i (List.mem_range.1 hi)]
theorem Rb {l:List Nat}{f g:Nat->Int}(h:∀ i∈l,f i<=g i):(l.map f).sum<=(l.map g).sum:=by
 induction l with
 | nil=>simp
 | cons x l ih =>
  have h1:=ih fun i hi=>h i (by simp [hi]);have h2:=h x (by simp);simp only[List.map_cons,List.sum_cons];omega
theorem y7 {n:Nat}{f g:Nat->Int}(h:∀ i,i<n->f i<=g i):cF n f<=cF n g:=Rb fun i hi=>h i (List.mem_range.1 hi)
theorem y8 (l:List Nat)(p:Nat->Bool):((l.countP p:Nat):Int)=(l.map fun i=>if p i then (1:Int) else 0).sum:=by
 induction l with
 | nil=>rfl
 | cons x l ih =>
  rw[List.countP_cons];cases h:p x
  ·simp [ih,h]
  ·simp [ih,h];omega
theorem threshold (l:List Nat)(p:Nat->Bool)(g:Nat->Int):∃ θ:Int,0<=θ/\(∀ i∈l,p i=true->g i<=θ)/\(θ=0\/∃ i∈l,p i=true/\θ=g i):=by
 induction l with
 | nil=>exact⟨0,by omega,fun i h=>(by cases h),.inl rfl⟩
 | cons x l ih =>
  obtain⟨θ,h0,h1,h2⟩:=ih;by_cases hx:p x=true/\θ<g x
  ·refine⟨g x,by omega,fun i hi hp=>?_,.inr ⟨x,by simp,hx.1,rfl⟩⟩;rcases List.mem_cons.1 hi with rfl|hi
   ·exact Int.le_refl _
   ·have:=h1 i hi hp;omega
  ·refine⟨θ,h0,fun i hi hp=>?_,?_⟩
   ·rcases List.mem_cons.1 hi with rfl|hi
    ·exact Classical.byContradiction fun hn=>hx ⟨hp,by omega⟩
    ·exact h1 i hi hp
   ·rcases h2 with h2|⟨i,hi,hp,he⟩
    ·exact .inl h2
    ·exact .inr ⟨i,by simp [hi],hp,he⟩
theorem D5 {n:Nat}{M N:Nat->Bool}{g:Nat->Int}(hg:∀ i,i<n->0<=g i)(hM:∀ i j,i<n->j<n->M i=true->M j=false->g i<=g j)(hc:(List.range n).countP M<=(List.range n).countP N):
  cF n (fun i=>if M i then g i else 0)<=cF n (fun i=>if N i then g i else 0):=by
 obtain⟨θ,h0,h1,h2⟩:=threshold (List.range n) M g;have h3:∀ j,j<n->M j=false->θ<=g j:=fun j hj hm=>by
  rcases h2 with rfl|⟨i,hi,hp,rfl⟩
  ·exact hg j hj
  ·exact hM i j (List.mem_range.1 hi) hj hp hm
 have hpt:cF n (fun i=>(if M i then g i else 0)+θ*(if N i then 1 else 0))<=cF n (fun i=>(if N i then g i else 0)+θ*(if M i then 1 else 0)):=by
  refine y7 fun i hi=>?_;have a:=h1 i (List.mem_range.2 hi);have b:=h3 i hi;cases hm:M i<;>cases hn:N i
  ·simp
  ·simp;exact b hm
  ·simp;exact a hm
  ·simp
 rw[uK,uK,rA,rA]at hpt;have e1:cF n (fun i=>if M i then (1:Int) else 0)=((List.range n).countP M:Nat):=(y8 _ _).symm;have e2:cF n (fun i=>if N i then (1:Int) else 0)=((List.range n).countP N:Nat):=(y8 _ _).symm;rw[e1,e2]at hpt;have h4:θ*((List.range n).countP M:Nat)<=θ*((List.range n).countP N:Nat):=Int.mul_le_mul_of_nonneg_left (by omega) h0;omega
def mr (d:Int):Int:=max d (-d)
def gV (d:Int):Int:=max d 0
theorem Rc (d:Int):mr d=2*gV d+(-1)*d:=by unfold mr gV;omega
theorem abs_neg (d:Int):mr d=2*gV (-d)+d:=by unfold mr gV;omega
theorem D6 {n:Nat}{f:Nat->Int}(h:cF n f=0):cF n (fun i=>mr (f i))=2*cF n (fun i=>gV (f i)):=by
 rw[uL fun i _=>Rc _,uK,rA,rA,h];omega
theorem D7 {n:Nat}{f:Nat->Int}(h:cF n f=0):cF n (fun i=>mr (f i))=2*cF n (fun i=>gV (-f i)):=by
 rw[uL fun i _=>abs_neg _,uK,rA,h];omega
theorem D8 (l:List Nat)(p:Nat->Bool):l.countP (fun i=>!p i)+l.countP p=l.length:=by
 induction l with
 | nil=>rfl
 | cons x l ih =>
  rw[List.countP_cons,List.countP_cons,List.length_cons];cases h:p x<;>simp<;>omega
theorem nearest {n:Nat}{t k:Nat}{ρ q x:Nat->Int}{M:Nat->Bool}(hρ:∀ i,i<n->0<=ρ i/\ρ i<t)(hM:Top ρ n k M)
  (h0:cF n (fun i=>(t:Int)*(q i+(if M i then 1 else 0)) - (t*q i+ρ i))=0) (h1:cF n (fun i=>(t:Int)*x i - (t*q i+ρ i))=0):
  cF n (fun i=>mr (t*(q i+(if M i then 1 else 0)) - (t*q i+ρ i)))<=cF n (fun i=>mr (t*x i - (t*q i+ρ i))):=by
 let N:Nat->Bool:=fun i=>decide (q i+1<=x i)
 have ge:∀ i j,i<n->j<n->M i=true->M j=false->ρ j<=ρ i:=fun i j hi hj a b=>by
  have:=hM.first i j hi hj a b;unfold before at this;omega
 rcases Nat.le_total k ((List.range n).countP N) with hk|hk
 ·rw[D6 h0,D6 h1];have a1:cF n (fun i=>gV (t*(q i+(if M i then 1 else 0)) - (t*q i+ρ i)))=cF n (fun i=>if M i then t - ρ i else 0):=uL fun i hi=>by
   have:=hρ i hi;rw[Int.mul_add];unfold gV;cases M i<;>simp<;>omega
  have a2:cF n (fun i=>if N i then t - ρ i else 0)<=cF n (fun i=>gV (t*x i - (t*q i+ρ i))):=y7 fun i hi=>by
   have:=hρ i hi;unfold gV;by_cases h:q i+1<=x i
   ·have h5:(t:Int)*(q i+1)<=t*x i:=Int.mul_le_mul_of_nonneg_left h (by omega);rw[Int.mul_add]at h5;simp only[N,h,decide_true,if_true];omega
   ·simp only[N,h,decide_false,Bool.false_eq_true,if_false];omega
  have a3:=D5 (M:=M) (N:=N) (g:=fun i=>t - ρ i) (fun i hi=>by have:=hρ i hi;omega) (fun i j hi hj a b=>by have:=ge i j hi hj a b;omega) (by rw[hM.count];exact hk);rw[a1];omega
 ·rw[D7 h0,D7 h1];have a1:cF n (fun i=>gV (-(t*(q i+(if M i then 1 else 0)) - (t*q i+ρ i))))=cF n (fun i=>if !M i then ρ i else 0):=uL fun i hi=>by
   have:=hρ i hi;rw[Int.mul_add];unfold gV;cases M i<;>simp<;>omega
  have a2:cF n (fun i=>if !N i then ρ i else 0)<=cF n (fun i=>gV (-(t*x i - (t*q i+ρ i)))):=y7 fun i hi=>by
   have:=hρ i hi;unfold gV;by_cases h:q i+1<=x i
   ·simp only[N,h,decide_true,Bool.not_true,Bool.false_eq_true,if_false];omega
   ·have h5:(t:Int)*x i<=t*q i:=Int.mul_le_mul_of_nonneg_left (by omega) (by omega);simp only[N,h,decide_false,Bool.not_false,if_true];omega
  have c1:=D8 (List.range n) M;have c2:=D8 (List.range n) N;have a3:=D5 (M:=fun i=>!M i) (N:=fun i=>!N i) (g:=ρ) (fun i hi=>(hρ i hi).1) (fun i j hi hj a b=>by
   simp only[Bool.not_eq_true',Bool.not_eq_false']at a b;exact ge j i hj hi b a) (by have:=hM.count;omega)
  rw[a1];omega
end Go.Proofs
namespace Go.Proofs
theorem pG (least sp:Int)(c:List Int)(M:Nat->Bool):(dY least sp c M).length=c.length:=by simp [dY]
theorem uM {least sp:Int}{c:List Int}{M:Nat->Bool}{i:Nat}(h:i<c.length):(dY least sp c M)[i]?=some (least+partAt sp c i+if M i then 1 else 0):=by
 unfold dY;rw[List.getElem?_map,List.getElem?_range h];rfl
theorem Rd (n:Nat)(a:Int):((List.range n).map fun _=>a).sum=a*n:=by
 induction n with
 | zero=>simp
 | succ n ih=>rw[List.range_succ,List.map_append,List.sum_append,ih];simp;rw[Int.mul_add,Int.mul_one]
theorem Re {c:List Int}(h:∀ x∈c,0<=x)(i:Nat):0<=(fI c).getD i 0:=by
 rw[List.getD_eq_getElem?_getD];cases e:(fI c)[i]? with
 | none=>exact Int.le_refl _
 | some a=>exact D4 h a (List.mem_of_getElem? e)
theorem za {c:List Int}(h:∀ x∈c,0<=x)(h0:0<c.length){sp:Int}(hs:0<=sp)(i:Nat):0<=partAt sp c i :=
 Int.ediv_nonneg (Int.mul_nonneg hs (Re h i)) (Int.le_of_lt (pF h0))
theorem Rf {least grain:Int}{c s:List Int}(h0:0<c.length)(h:jC least (eC grain least c) c s):s.length=c.length/\s.sum=grain:=by
 obtain⟨M,hM,rfl⟩:=h;refine⟨pG ..,?_⟩;have hb:=y6 (sp:=eC grain least c) h0;have hc:=y8 (List.range c.length) M;rw[hM.count]at hc;have e1:(dY least (eC grain least c) c M).sum=((List.range c.length).map fun _=>least).sum+(((List.range c.length).map (partAt (eC grain least c) c)).sum+((List.range c.length).map fun i=>if M i then (1:Int) else 0).sum):=by
  rw[<- uJ,<- uJ];unfold dY;congr 1;exact List.map_congr_left fun i _=>by omega
 rw[e1,Rd,<- hc];have:((iE (eC grain least c) c).toNat:Int)=iE (eC grain least c) c:=by omega
 rw[this];unfold iE eC;omega
theorem Rg {least grain:Int}{c s:List Int}(hc:∀ x∈c,0<=x)(h0:0<c.length)(hs:0<=eC grain least c)(h:jC least (eC grain least c) c s):∀ x∈s,least<=x:=by
 obtain⟨M,hM,rfl⟩:=h;intro x hx;unfold dY at hx;obtain⟨i,hi,rfl⟩:=List.mem_map.1 hx;have:=za hc h0 hs i;split<;>omega
theorem D9:∀ {l:List Int},(∀ x∈l,0<=x)->∀ x∈l,x<=l.sum
 | a :: l,h,x,hx=>by
  have h1:0<=l.sum:=by
   have:∀ l:List Int,(∀ x∈l,0<=x)->0<=l.sum:=by
    intro l
    induction l with
    | nil=>intro _;simp
    | cons b l ih=>intro h;have:=h b (by simp);have:=ih fun x hx=>h x (by simp [hx]);rw[List.sum_cons];omega
   exact this l fun x hx=>h x (by simp [hx])
  rw[List.sum_cons];rcases List.mem_cons.1 hx with rfl|hx
  ·omega
  ·have:=D9 (fun y hy=>h y (by simp [hy])) x hx;have:=h a (by simp);omega
end Go.Proofs
set_option maxRecDepth 100000
namespace Go.Proofs
open Go.Hx
theorem pH {α:Type}(l:List α)(i j:Nat)(a d:α)(hi:i<l.length):(l.set i a).getD j d=if i=j then a else l.getD j d:=by
 rw[List.getD_eq_getElem?_getD,List.getD_eq_getElem?_getD,List.getElem?_set];by_cases h:i=j
 ·subst h;rw[if_pos rfl,if_pos hi,if_pos rfl];rfl
 ·rw[if_neg h,if_neg h]
theorem jD {l:List Nat}{i:Nat}(h:i<l.length):l[i]?=some (l.getD i 0):=by
 rw[List.getD_eq_getElem?_getD,List.getElem?_eq_getElem h];rfl
def cj (l:List Nat)(i j:Nat):List Nat:=(l.set i (l.getD j 0)).set j (l.getD i 0)
theorem Rh (l:List Nat)(i j:Nat):(cj l i j).length=l.length:=by simp [cj]
theorem Ri {l:List Nat}{i j:Nat}(hi:i<l.length)(hj:j<l.length)(hij:i≠j)(a:Nat):(cj l i j).getD a 0=if a=j then l.getD i 0 else if a=i then l.getD j 0 else l.getD a 0:=by
 unfold cj;rw[pH _ _ _ _ _ (by rw[List.length_set];exact hj),pH _ _ _ _ _ hi];by_cases h1:a=j
 ·rw[if_pos h1,if_pos h1.symm]
 ·rw[if_neg h1,if_neg fun h=>h1 h.symm];by_cases h2:a=i
  ·rw[if_pos h2,if_pos h2.symm]
  ·rw[if_neg h2,if_neg fun h=>h2 h.symm]
def Ea (f:Nat->Nat)(l:List Nat)(n:Nat):Prop:=∀ a b,a<b->b<n->f (l.getD a 0)<=f (l.getD b 0)
theorem Rj {l:List Nat}{i j:Nat}(hi:i<l.length)(hj:j<l.length):(cj l i j).Perm l:=by
 unfold cj;rw[List.getD_eq_getElem?_getD,List.getD_eq_getElem?_getD,List.getElem?_eq_getElem hi,List.getElem?_eq_getElem hj];exact List.set_set_perm hi hj
def nu (r:Nat->Int)(T n:Nat)(i:Nat):Nat:=(T - (r i).toNat)*n+i
theorem uN {r:Nat->Int}{T n:Nat}(hr:∀ i,i<n->0<=r i/\r i<T){i j:Nat}(hi:i<n)(hj:j<n):nu r T n i<nu r T n j↔before r i j:=by
 have h1:=hr i hi;have h2:=hr j hj;unfold nu before;obtain⟨a,ha⟩:∃ a,a=T - (r i).toNat:=⟨_,rfl⟩
 obtain⟨b,hb⟩:∃ b,b=T - (r j).toNat:=⟨_,rfl⟩
 rw[<- ha,<- hb];rcases Nat.lt_trichotomy a b with h|h|h
 ·have:(a+1)*n<=b*n:=Nat.mul_le_mul_right _ h;rw[Nat.add_mul,Nat.one_mul]at this;constructor
  ·intro _;left;omega
  ·intro _;omega
 ·subst h;constructor
  ·intro h;right;omega
  ·rintro(h|h)<;>omega
 ·have:(b+1)*n<=a*n:=Nat.mul_le_mul_right _ h;rw[Nat.add_mul,Nat.one_mul]at this;constructor
  ·intro h;omega
  ·rintro(h|h)<;>omega
theorem Rk {r:Nat->Int}{T n:Nat}(hr:∀ i,i<n->0<=r i/\r i<T){l:List Nat}(hp:l.Perm (List.range n))(hs:Ea (nu r T n) l l.length):l.Pairwise (before r):=by
 have hm:∀ a∈l,a<n:=fun a ha=>List.mem_range.1 (hp.mem_iff.1 ha);have hnd:l.Nodup:=hp.nodup_iff.2 List.nodup_range;rw[List.pairwise_iff_getElem];intro i j hi hj hij;have h:=hs i j hij hj;rw[List.getD_eq_getElem?_getD,List.getD_eq_getElem?_getD,List.getElem?_eq_getElem hi,List.getElem?_eq_getElem hj]at h;simp only[Option.getD_some]at h;have hne:l[i]≠l[j]:=fun e=>by
  have:=(List.getElem?_inj hi hnd).1 (show l[i]?=l[j]? by rw[List.getElem?_eq_getElem hi,e,<- List.getElem?_eq_getElem hj]);omega
 rcases D2 hne (r:=r) with b|b
 ·exact b
 ·have:=(uN hr (hm _ (List.getElem_mem hj)) (hm _ (List.getElem_mem hi))).2 b;omega
end Go.Proofs
namespace Go.Hx
variable {P:Program} {G:Nat->Option (List AVal)} {Γ Γ':az} {H H':AHeap} {w w':World}
theorem W.cL {n:Nat}{rd:Option Nat}{Q:AX->St->Prop}{s:St}{x y:Code}(Φ:St->Prop)(h:W P G n rd x (fun ax s'=>ax=.normal/\Φ s') s)(h2:∀ s',Φ s'->W P G n rd y Q s'):W P G n rd (.seq x y) Q s :=
 W.seq (h.mono fun ax s' ⟨e,hp⟩=>by subst e;exact h2 s' hp)
theorem yu {H:AHeap}{id:Nat}{b:Blk}(h:H.get id=some b):H.upd id b=H:=by
 have e:(fun j=>if j=id then some b else H.get j)=H.get:=by
  funext j
  by_cases hj:j=id
  ·rw[if_pos hj,hj,h]
  ·rw[if_neg hj]
 show AHeap.mk (fun j=>if j=id then some b else H.get j) H.next=H;rw[e]
theorem j8 (H:AHeap)(id:Nat)(b c:Blk):(H.upd id b).upd id c=H.upd id c:=by
 unfold AHeap.upd;congr 1
 funext j
 by_cases hj:j=id<;>simp [hj]
end Go.Hx
namespace Go.Proofs
open Go.Hx
def dH (l:List Nat):List Int:=l.map fun (v:Nat)=>(v:Int)
theorem pe (l:List Nat):(dH l).length=l.length:=by simp [dH]
theorem yv {l:List Nat}{i k:Nat}(h:l[i]?=some k):(dH l)[i]?=some (k:Int):=by simp [dH,h]
theorem CQ (l:List Nat)(i k:Nat):(dH l).set i (k:Int)=dH (l.set i k):=by unfold dH;rw[List.map_set]
def nB (g:Nat)(q:List Nat):Blk:=.arr g 3 (ints (dH q))
def C3 (cv:AVal)(f:Nat->Nat)(l:List Nat)(Inv:AHeap->Prop):Prop:=∀ a b,a∈l->b∈l->∀ Hx,Inv Hx->∃ z:Int,(z<0↔f a<f b)/\∀ K,K (.ret (aa z)) Hx->aw Try.prog G0 cv [aa (a:Nat),aa (b:Nat)] Hx K
def bf (a b:Nat)(l l':List Nat):Prop:=l'.Perm l/\∀ i,i<a\/b<=i->l'.getD i 0=l.getD i 0
theorem bf.refl (a b:Nat)(l:List Nat):bf a b l l:=⟨.refl _,fun _ _=>rfl⟩
theorem bf.trans {a b:Nat}{l m r:List Nat}(h:bf a b l m)(k:bf a b m r):bf a b l r:=⟨k.1.trans h.1,fun i hi=>(k.2 i hi).trans (h.2 i hi)⟩
theorem bf.len {a b:Nat}{l m:List Nat}(h:bf a b l m):m.length=l.length:=h.1.length_eq
theorem bf.mono {a b a' b':Nat}{l m:List Nat}(h:bf a b l m)(ha:a'<=a)(hb:b<=b'):bf a' b' l m:=⟨h.1,fun i hi=>h.2 i (by omega)⟩
theorem bf.swap {a b i j:Nat}{l:List Nat}(h1:a<=i)(h2:i<b)(h3:a<=j)(h4:j<b)(hb:b<=l.length):bf a b l (cj l i j):=by
 refine⟨Rj (by omega) (by omega),fun k hk=>?_⟩;unfold cj;rw[pH _ _ _ _ _ (by rw[List.length_set];omega),pH _ _ _ _ _ (by omega),if_neg (by omega),if_neg (by omega)]
theorem rq {l:List Nat}{i j:Nat}(hi:i<l.length)(hj:j<l.length)(a:Nat):(cj l i j).getD a 0=if a=j then l.getD i 0 else if a=i then l.getD j 0 else l.getD a 0:=by
 unfold cj;rw[pH _ _ _ _ _ (by rw[List.length_set];exact hj),pH _ _ _ _ _ hi];by_cases h1:a=j
 ·rw[if_pos h1,if_pos h1.symm]
 ·rw[if_neg h1,if_neg fun h=>h1 h.symm];by_cases h2:a=i
  ·rw[if_pos h2,if_pos h2.symm]
  ·rw[if_neg h2,if_neg fun h=>h2 h.symm]
theorem Dm {a b:Nat}{l:List Nat}{x:Nat}:x∈(l.take b).drop a↔∃ i,a<=i/\i<b/\i<l.length/\l.getD i 0=x:=by
 rw[List.mem_iff_getElem?];constructor
 ·rintro⟨k,hk⟩;rw[List.getElem?_drop,List.getElem?_take]at hk;split at hk
  ·exact⟨a+k,by omega,by omega,get_lt hk,by rw[List.getD_eq_getElem?_getD,hk];rfl⟩
  ·cases hk
 ·rintro⟨i,h1,h2,h3,h4⟩;refine⟨i - a,?_⟩;rw[List.getElem?_drop,List.getElem?_take,if_pos (by omega),show a+(i - a)=i by omega,jD h3,h4]
theorem Do {l m:List Nat}(hl:l.length=m.length)(h:∀ i,i<l.length->l.getD i 0=m.getD i 0):l=m:=by
 apply List.ext_getElem?;intro i;rcases Nat.lt_or_ge i l.length with hi|hi
 ·rw[jD hi,jD (by omega),h i hi]
 ·rw[List.getElem?_eq_none hi,List.getElem?_eq_none (by omega)]
theorem bf.PS {a b:Nat}{l m:List Nat}(h:bf a b l m)(hab:a<=b)(hb:b<=l.length):((m.take b).drop a).Perm ((l.take b).drop a):=by
 have hl:=h.len;have e1:m.take a=l.take a:=Do (by simp [hl]) fun i hi=>by
  rw[List.length_take]at hi;rw[List.getD_eq_getElem?_getD,List.getD_eq_getElem?_getD,List.getElem?_take,List.getElem?_take,if_pos (by omega),if_pos (by omega),jD (by omega),jD (by omega),h.2 i (by omega)]
 have e2:m.drop b=l.drop b:=Do (by simp [hl]) fun i hi=>by
  rw[List.length_drop]at hi;rw[List.getD_eq_getElem?_getD,List.getD_eq_getElem?_getD,List.getElem?_drop,List.getElem?_drop,jD (by omega),jD (by omega),h.2 (b+i) (by omega)]
 have cut:∀ l:List Nat,l=l.take a++((l.take b).drop a++l.drop b):=fun l=>by
  rw[<- List.append_assoc];have:l.take a++(l.take b).drop a=l.take b:=by
   have:=List.take_append_drop a (l.take b);rw[List.take_take,Nat.min_eq_left hab]at this;exact this
  rw[this,List.take_append_drop]
 have hp:=h.1;rw[cut m,cut l,e1,e2]at hp;exact(List.perm_append_right_iff _).1 ((List.perm_append_left_iff _).1 hp)
theorem bf.all {a b:Nat}{l m:List Nat}(h:bf a b l m)(hb:b<=l.length){p:Nat->Prop}(hp:∀ i,a<=i->i<b->p (l.getD i 0)):∀ i,a<=i->i<b->p (m.getD i 0):=by
 intro i h1 h2;have hl:=h.len;have:m.getD i 0∈(m.take b).drop a:=Dm.2 ⟨i,h1,h2,by omega,rfl⟩;obtain⟨k,k1,k2,_,k4⟩:=Dm.1 ((h.PS (by omega) hb).mem_iff.1 this);rw[<- k4];exact hp k k1 k2
def cZ (f:Nat->Nat)(l:List Nat)(a b:Nat):Prop:=∀ i j,a<=i->i<j->j<b->f (l.getD i 0)<=f (l.getD j 0)
def j9 (f:Nat->Nat)(l:List Nat):Prop:=(l.map f).Nodup
theorem j9.perm {f:Nat->Nat}{l m:List Nat}(h:j9 f l)(hp:m.Perm l):j9 f m:=(hp.map f).nodup_iff.2 h
theorem j9.ne {f:Nat->Nat}{l:List Nat}(h:j9 f l){i j:Nat}(hij:i≠j)(hi:i<l.length)(hj:j<l.length):f (l.getD i 0)≠f (l.getD j 0):=by
 intro e;have g:∀ k,k<l.length->(l.map f)[k]?=some (f (l.getD k 0)):=fun k hk=>by rw[List.getElem?_map,jD hk];rfl
 refine hij ((List.getElem?_inj (by rw[List.length_map];exact hi) h).1 ?_);rw[g i hi,g j hj,e]
def Bl (f:Nat->Nat)(l:List Nat)(a b:Nat):Prop:=a=0\/∀ i,a<=i->i<b->f (l.getD (a - 1) 0)<f (l.getD i 0)
theorem Bl.perm {f:Nat->Nat}{l m:List Nat}{a b:Nat}(h:Bl f l a b)(hp:bf a b l m)(hb:b<=l.length):Bl f m a b:=by
 rcases h with h|h
 ·exact .inl h
 ·by_cases ha:a=0
  ·exact .inl ha
  ·refine .inr fun i h1 h2=>?_;rw[hp.2 (a - 1) (by omega)];exact hp.all hb (p:=fun x=>f (l.getD (a - 1) 0)<f x) h i h1 h2
def dV (k c:Nat):Prop:=c=2*k+1\/c=2*k+2
def gT (f:Nat->Nat)(l:List Nat)(a lo hi:Nat):Prop:=∀ k c,lo<=k->dV k c->c<hi->f (l.getD (a+c) 0)<=f (l.getD (a+k) 0)
def md (f:Nat->Nat)(l:List Nat)(a lo hi r:Nat):Prop :=
 (∀ k c,lo<=k->k≠r->dV k c->c<hi->f (l.getD (a+c) 0)<=f (l.getD (a+k) 0))/\∀ k c,lo<=k->dV k r->dV r c->c<hi->f (l.getD (a+c) 0)<=f (l.getD (a+k) 0)
theorem md.start {f:Nat->Nat}{l:List Nat}{a lo hi:Nat}(h:gT f l a (lo+1) hi):md f l a lo hi lo :=
 ⟨fun k c h1 h2 h3 h4=>h k c (by omega) h3 h4,fun k c h1 h2 h3 h4=>by unfold dV at h2;omega⟩
theorem md.done {f:Nat->Nat}{l:List Nat}{a lo hi r:Nat}(h:md f l a lo hi r)(hd:∀ c,dV r c->c<hi->f (l.getD (a+c) 0)<=f (l.getD (a+r) 0)):gT f l a lo hi:=fun k c h1 h3 h4=>by
 by_cases hk:k=r
 ·subst hk;exact hd c h3 h4
 ·exact h.1 k c h1 hk h3 h4
theorem md.step {f:Nat->Nat}{l:List Nat}{a lo hi r c:Nat}(h:md f l a lo hi r)(hlo:lo<=r)(hb:a+hi<=l.length)(hc:dV r c)(hci:c<hi)(hmax:∀ d,dV r d->d<hi->f (l.getD (a+d) 0)<=f (l.getD (a+c) 0))(hlt:f (l.getD (a+r) 0)<=f (l.getD (a+c) 0)):
  md f (cj l (a+r) (a+c)) a lo hi c:=by
 have hrc:r<c:=by unfold dV at hc;omega
 have g:=fun k=>rq (l:=l) (i:=a+r) (j:=a+c) (by omega) (by omega) (a+k);have gk:∀ k,k≠r->k≠c->(cj l (a+r) (a+c)).getD (a+k) 0=l.getD (a+k) 0:=fun k h1 h2=>by rw[g,if_neg (by omega),if_neg (by omega)]
 have gr:(cj l (a+r) (a+c)).getD (a+r) 0=l.getD (a+c) 0:=by rw[g,if_neg (by omega),if_pos rfl]
 have gc:(cj l (a+r) (a+c)).getD (a+c) 0=l.getD (a+r) 0:=by rw[g,if_pos rfl]
 constructor
 ·intro k d h1 h2 h3 h4;by_cases hk:k=r
  ·subst hk;rw[gr];by_cases hd:d=c
   ·subst hd;rw[gc];exact hlt
   ·rw[gk d (by unfold dV at h3;omega) hd];exact hmax d h3 h4
  ·rw[gk k hk h2];by_cases hd:d=r
   ·subst hd;rw[gr];exact h.2 k c h1 h3 hc hci
   ·rw[gk d hd (by unfold dV at h3 hc;omega)];exact h.1 k d h1 hk h3 h4
 ·intro k d h1 h2 h3 h4;obtain rfl:k=r:=by unfold dV at h2 hc;omega
  rw[gr,gk d (by unfold dV at h3;omega) (by unfold dV at h3;omega)];exact h.1 c d (by omega) (by omega) h3 h4
theorem gT.PT {f:Nat->Nat}{l:List Nat}{a lo hi:Nat}(h:hi<=2*lo+1):gT f l a lo hi:=fun k c h1 h2 h3=>by unfold dV at h2;omega
theorem gT.max {f:Nat->Nat}{l:List Nat}{a hi:Nat}(h:gT f l a 0 hi):∀ k,k<hi->f (l.getD (a+k) 0)<=f (l.getD a 0):=by
 intro k
 induction k using Nat.strongRecOn with
 | _ k ih =>
  intro hk;by_cases h0:k=0
  ·subst h0;exact Nat.le_refl _
  ·have h1:=h ((k - 1) / 2) k (by omega) (by unfold dV;omega) hk;exact Nat.le_trans h1 (ih _ (by omega) (by omega))
theorem gT.pop {f:Nat->Nat}{l:List Nat}{a i:Nat}(h:gT f l a 0 (i+1))(hb:a+i<l.length):gT f (cj l a (a+i)) a 1 i:=by
 intro k c h1 h2 h3;have g:=fun k=>rq (l:=l) (i:=a) (j:=a+i) (by omega) (by omega) (a+k);rw[g,g,if_neg (by omega),if_neg (by unfold dV at h2;omega),if_neg (by unfold dV at h2;omega),if_neg (by omega)];exact h k c (by omega) h2 (by omega)
def me (f:Nat->Nat)(l:List Nat)(a m b:Nat):Prop:=∀ i j,a<=i->i<j->j<b->m<=j->f (l.getD i 0)<=f (l.getD j 0)
theorem me.start {f:Nat->Nat}{l:List Nat}{a b:Nat}:me f l a b b:=fun i j h1 h2 h3 h4=>by omega
theorem me.done {f:Nat->Nat}{l:List Nat}{a b:Nat}(h:me f l a a b):cZ f l a b:=fun i j h1 h2 h3=>h i j h1 h2 h3 (by omega)
theorem me.step {f:Nat->Nat}{l m:List Nat}{a i b:Nat}(h:me f l a (a+(i+1)) b)(hh:gT f l a 0 (i+1))(hi:a+i<b)(hb:b<=l.length)(hp:bf a (a+i) (cj l a (a+i)) m):me f m a (a+i) b:=by
 have g:=fun k=>rq (l:=l) (i:=a) (j:=a+i) (by omega) (by omega) k;have mx:=hh.max;have sl:(cj l a (a+i)).length=l.length:=Rh ..;have big:∀ k,a<=k->k<a+i->f ((cj l a (a+i)).getD k 0)<=f (l.getD a 0):=fun k h1 h2=>by
  rw[g,if_neg (by omega)];split
  ·have:=mx i (by omega);exact this
  ·have:=mx (k - a) (by omega);rw[show a+(k - a)=k by omega]at this;exact this
 have big':=hp.all (by omega) (p:=fun x=>f x<=f (l.getD a 0)) big;have tail:∀ k,a+i<=k->m.getD k 0=(cj l a (a+i)).getD k 0:=fun k hk=>hp.2 k (.inr hk);intro x y h1 h2 h3 h4;rw[tail y h4];by_cases hy:y=a+i
 ·subst hy;rw[g,if_pos rfl];exact big' x h1 h2
 ·rw[g,if_neg hy,if_neg (by omega)];rcases Nat.lt_or_ge x (a+i) with hx|hx
  ·have e:∀ z,a<=z->z<a+i->f ((cj l a (a+i)).getD z 0)<=f (l.getD y 0):=fun z z1 z2=>Nat.le_trans (big z z1 z2) (h a y (by omega) (by omega) h3 (by omega));exact hp.all (by omega) (p:=fun x=>f x<=f (l.getD y 0)) e x h1 hx
  ·rw[tail x hx,g];split
   ·exact h a y (by omega) (by omega) h3 (by omega)
   ·rw[if_neg (by omega)];exact h x y h1 h2 h3 (by omega)
def Out (f:Nat->Nat)(l:List Nat)(a b c d:Nat):Prop:=∀ i j,a<=i->i<j->j<b->(i<c\/d<=j)->f (l.getD i 0)<=f (l.getD j 0)
theorem Out.start {f:Nat->Nat}{l:List Nat}{a b:Nat}:Out f l a b a b:=fun i j h1 h2 h3 h4=>by omega
theorem Out.perm {f:Nat->Nat}{l m:List Nat}{a b c d:Nat}(h:Out f l a b c d)(hp:bf c d l m)(h1:a<=c)(h2:d<=b)(hb:b<=l.length):Out f m a b c d:=by
 intro i j q1 q2 q3 q4;by_cases hi:c<=i/\i<d
 ·have hj:d<=j:=by omega
  rw[hp.2 j (.inr hj)];exact hp.all (by omega) (p:=fun x=>f x<=f (l.getD j 0)) (fun k k1 k2=>h k j (by omega) (by omega) q3 (.inr hj)) i hi.1 hi.2
 ·rw[hp.2 i (by omega)];by_cases hj:c<=j/\j<d
  ·have hic:i<c:=(by omega);exact hp.all (by omega) (p:=fun x=>f (l.getD i 0)<=f x) (fun k k1 k2=>h i k q1 (by omega) (by omega) (.inl hic)) j hj.1 hj.2
  ·rw[hp.2 j (by omega)];exact h i j q1 q2 q3 q4
theorem Out.done {f:Nat->Nat}{l:List Nat}{a b c d:Nat}(h:Out f l a b c d)(hs:cZ f l c d):cZ f l a b:=fun i j h1 h2 h3=>by
 by_cases hc:i<c\/d<=j
 ·exact h i j h1 h2 h3 hc
 ·exact hs i j (by omega) h2 (by omega)
def mg (f:Nat->Nat)(l:List Nat)(c d m:Nat):Prop:=(∀ i,c<=i->i<m->f (l.getD i 0)<=f (l.getD m 0))/\∀ i,m<i->i<d->f (l.getD m 0)<=f (l.getD i 0)
theorem mg.le {f:Nat->Nat}{l:List Nat}{c d m:Nat}(h:mg f l c d m){i j:Nat}(h1:c<=i)(h2:j<d)(h3:i<=m)(h4:m<=j):f (l.getD i 0)<=f (l.getD j 0):=by
 have a1:f (l.getD i 0)<=f (l.getD m 0):=by
  rcases Nat.lt_or_ge i m with q|q
  ·exact h.1 i h1 q
  ·rw[show i=m by omega];exact Nat.le_refl _
 have a2:f (l.getD m 0)<=f (l.getD j 0):=by
  rcases Nat.lt_or_ge m j with q|q
  ·exact h.2 j q h2
  ·rw[show j=m by omega];exact Nat.le_refl _
 omega
theorem Out.left {f:Nat->Nat}{l m:List Nat}{a b c d p:Nat}(h:Out f l a b c d)(hp:mg f l c d p)(h1:c<=p)(h2:p<d)(h3:a<=c)(h4:d<=b)(hb:b<=l.length)(hm:bf c p l m)(hs:cZ f m c p):Out f m a b (p+1) d:=by
 have hout:=h.perm (hm.mono (Nat.le_refl _) (show p<=d by omega)) h3 h4 hb;have hm':mg f m c d p:=by
  have ep:=hm.2 p (.inr (Nat.le_refl _));refine⟨fun i i1 i2=>?_,fun i i1 i2=>?_⟩
  ·rw[ep];exact hm.all (by omega) (p:=fun x=>f x<=f (l.getD p 0)) hp.1 i i1 i2
  ·rw[ep,hm.2 i (by omega)];exact hp.2 i i1 i2
 intro i j q1 q2 q3 q4;by_cases hc:i<c\/d<=j
 ·exact hout i j q1 q2 q3 hc
 ·rcases Nat.lt_or_ge j p with hj|hj
  ·exact hs i j (by omega) q2 hj
  ·exact hm'.le (by omega) (by omega) (by omega) hj
theorem Out.right {f:Nat->Nat}{l m:List Nat}{a b c d p:Nat}(h:Out f l a b c d)(hp:mg f l c d p)(h1:c<=p)(h2:p<d)(h3:a<=c)(h4:d<=b)(hb:b<=l.length)(hm:bf (p+1) d l m)(hs:cZ f m (p+1) d):Out f m a b c p:=by
 have hout:=h.perm (hm.mono (show c<=p+1 by omega) (Nat.le_refl _)) h3 h4 hb;have hm':mg f m c d p:=by
  have ep:=hm.2 p (.inl (by omega));refine⟨fun i i1 i2=>?_,fun i i1 i2=>?_⟩
  ·rw[ep,hm.2 i (by omega)];exact hp.1 i i1 i2
  ·rw[ep];exact hm.all (by omega) (p:=fun x=>f (l.getD p 0)<=f x) (fun k k1 k2=>hp.2 k (by omega) k2) i (by omega) i2
 intro i j q1 q2 q3 q4;by_cases hc:i<c\/d<=j
 ·exact hout i j q1 q2 q3 hc
 ·rcases Nat.lt_or_ge p i with hi|hi
  ·exact hs i j (by omega) q2 (by omega)
  ·exact hm'.le (by omega) (by omega) hi (by omega)
theorem Out.bl {f:Nat->Nat}{l:List Nat}{a b c d:Nat}(h:Out f l a b c d)(hB:Bl f l a b)(hD:j9 f l)(h1:a<=c)(h2:d<=b)(hb:b<=l.length):Bl f l c d:=by
 by_cases hc:c=a
 ·subst hc;rcases hB with q|q
  ·exact .inl q
  ·exact .inr fun i i1 i2=>q i i1 (by omega)
 ·refine .inr fun i i1 i2=>?_;have h1:=h (c - 1) i (by omega) (by omega) (by omega) (.inl (by omega));have h2:=hD.ne (i:=c - 1) (j:=i) (by omega) (by omega) (by omega);omega
structure SH (cv:AVal)(f:Nat->Nat)(rid:Nat)(rb:Blk)(id g n:Nat)(l:List Nat)(H:AHeap):Prop where
 hl:l.length=n
 hn:n<=1024
 hg:H.get id=some (nB g l)
 hr:H.get rid=some rb
 ne:rid≠id
 il:id<H.next
 rl:rid<H.next
 cmp:C3 cv f l fun Hx=>Hx.get rid=some rb
section
variable {cv:AVal} {f:Nat->Nat} {rid:Nat} {rb:Blk} {id g n:Nat} {l q:List Nat} {H H':AHeap}
theorem SH.upd (S:SH cv f rid rb id g n l H)(hp:q.Perm l):SH cv f rid rb id g n q (H.upd id (nB g q)) :=
 ⟨by rw[hp.length_eq,S.hl],S.hn,by rw[ag,if_pos rfl],by rw[ag,if_neg S.ne];exact S.hr,S.ne,S.il,S.rl,fun a b ha hb=>S.cmp a b (hp.mem_iff.1 ha) (hp.mem_iff.1 hb)⟩
theorem SH.over (S:SH cv f rid rb id g n l H)(ho:Over H H'):SH cv f rid rb id g n l H' :=
 ⟨S.hl,S.hn,(ho.old _ S.il).trans S.hg,(ho.old _ S.rl).trans S.hr,S.ne,by have:=S.il;have:=ho.next;omega,by have:=S.rl;have:=ho.next;omega,S.cmp⟩
theorem SH.live (S:SH cv f rid rb id g n l H):H.live id g=some (3,ints (dH l)):=ak S.hg
theorem SH.len (S:SH cv f rid rb id g n l H):(ints (dH l)).length=n:=by rw[aZ,pe,S.hl]
theorem SH.cell (S:SH cv f rid rb id g n l H){i:Nat}(hi:i<n):(ints (dH l))[i]?=some (.lit (.int .i64 ((l.getD i 0:Nat):Int))):=by
 rw[gF,yv (jD (by rw[S.hl];exact hi))];rfl
theorem SH.ask (S:SH cv f rid rb id g n l H){i j:Nat}(hi:i<n)(hj:j<n):∃ z:Int,(z<0↔f (l.getD i 0)<f (l.getD j 0))/\∀ K,K (.ret (aa z)) H->aw Try.prog G0 cv [.lit (.int .i64 ((l.getD i 0:Nat):Int)),.lit (.int .i64 ((l.getD j 0:Nat):Int))] H K :=
 S.cmp _ _ (List.mem_of_getElem? (jD (by rw[S.hl];exact hi))) (List.mem_of_getElem? (jD (by rw[S.hl];exact hj))) H S.hr
theorem SH.s1 (S:SH cv f rid rb id g n l H){i:Nat}(hi:i<n)(x:Nat):setAt (ints (dH l)) i [.lit (.int .i64 (x:Int))]=ints (dH (l.set i x)):=by
 rw[eS (by rw[pe,S.hl];exact hi),CQ]
theorem SH.iw (S:SH cv f rid rb id g n l H)(i x:Nat):(ints (dH (l.set i x))).length=n:=by rw[aZ,pe,List.length_set,S.hl]
theorem SH.iy (_S:SH cv f rid rb id g n l H)(q:List Nat):(H.upd id (.arr g 3 (ints (dH q)))).live id g=some (3,ints (dH q)):=ak (by rw[ag,if_pos rfl])
theorem SH.s2 (S:SH cv f rid rb id g n l H){i j:Nat}(hj:j<n):setAt (ints (dH (l.set i (l.getD j 0)))) j [.lit (.int .i64 ((l.getD i 0:Nat):Int))]=ints (dH (cj l i j)):=by
 rw[eS (by rw[pe,List.length_set,S.hl];exact hj),CQ];rfl
theorem SH.u2 (_S:SH cv f rid rb id g n l H)(p q:List Nat):(H.upd id (.arr g 3 (ints (dH p)))).upd id (.arr g 3 (ints (dH q)))=H.upd id (nB g q):=j8 ..
theorem SH.self (S:SH cv f rid rb id g n l H):H.upd id (nB g l)=H:=yu S.hg
end
theorem dQ (H:AHeap)(id g:Nat)(p q:List Nat):(H.upd id (nB g p)).upd id (nB g q)=H.upd id (nB g q):=j8 ..
section
variable {cv:AVal} {f:Nat->Nat} {rid:Nat} {rb:Blk} {id g n a b:Nat} {l:List Nat} {H:AHeap}
set_option maxHeartbeats 4000000 in
theorem PU (S:SH cv f rid rb id g n l H)(hab:a<b)(hb:b<=n)(K:ARes->AHeap->Prop)(hK:∀ q,bf a b l q->K (.ret (.tup [])) (H.upd id (nB g q))):
  ae Try.prog G0 100 [.own id g 0 n 1,aa a,aa b,cv] H K:=by
 have hn:=S.hn;have w0:IntKind.i64.wrap ((b:Int) - 1)=((b - 1:Nat):Int):=by rw[IntWalk.i64_in _ (by omega)];omega
 refine ae.cD (n:=34) (rs:=[]) Try.func100 rfl rfl rfl (by decide) (by simp) ?_;refine W.seq (ab _ _ _ (by rfl) ?_);simp only[go_sem];refine W.seq (ab _ _ _ (by rfl) ?_);simp only[go_sem,w0];refine W.env fun E hE=>?_;have e0:E 0=.own id g 0 n 1:=by rw[hE];simp only[go_sem]
 have e8:E 8=aa a:=by rw[hE];simp only[go_sem]
 have e9:E 9=aa ((b - 1:Nat):Int):=by rw[hE];simp only[go_sem]
 clear hE;refine W.block ?_;refine W.aI 17179861760 (by rfl) (fun ρ Hx=>∃ (i:Nat) (j:Int) (q:List Nat),ρ 8=aa i/\ρ 9=aa j/\a<=i/\j<b/\i+j=(a:Int)+b - 1/\bf a b l q/\Hx=H.upd id (nB g q)) (fun ρ Hx=>(iv (ρ 9)+1).toNat) ?_ ?_
 ·exact⟨a,_,l,e8,e9,Nat.le_refl _,by omega,by omega,.refl _ _ _,S.self.symm⟩
 rintro ρ Hx ⟨i,j,q,h8,h9,hi,hj,hij,hp,hHx⟩;refine W.env fun E1 hE1=>?_;have f0:E1 0=.own id g 0 n 1:=by rw[hE1];simp only[go_sem,e0]
 have f8:E1 8=aa i:=by rw[hE1];simp only[go_sem,h8]
 have f9:E1 9=aa j:=by rw[hE1];simp only[go_sem,h9]
 clear hE1;by_cases hlt:(i:Int)<j;rotate_left
 ·refine ab _ _ _ (by rfl) ?_;simp only[go_sem,f8,f9,hlt];rw[hHx];exact av.mk (by rw[aA];exact Nat.le_refl _) (hK q hp)
 obtain⟨j,rfl⟩:=Int.eq_ofNat_of_zero_le (show 0<=j by omega);have T:=S.upd hp.1;rw[<- hHx]at T;have b1:(i:Int)<n:=by omega
 have b2:(j:Int)<n:=by omega
 have w1:=IntWalk.i64_in ((i:Int)+1) (by omega);have w2:=IntWalk.i64_in ((j:Int) - 1) (by omega);refine W.seq (ab _ _ _ (by rfl) ?_);simp only[go_sem,f8,f9,hlt];refine W.block (W.seq ?_);refine W.draw 14 [0,0,0,0,0,0,48,112,0,0,768,1792,4083,8179] Try.mixed (by kernel_rfl) (by kernel_rfl) ?_;simp only[go_sem,f0,f8,f9,T.live,T.len,T.cell (show i<n by omega),T.cell (show j<n by omega),b1,b2,T.s1 (show i<n by omega),T.s2 (i:=i) (show j<n by omega),T.iw,T.iy];refine⟨by omega,by omega,?_⟩;refine ab _ _ _ (by rfl) ?_;simp only[go_sem,f8,f9,w1,w2];refine⟨by rw[hHx];exact Nat.le_refl _,⟨i+1,(j:Int) - 1,cj q i j,rfl,rfl,by omega,by omega,by omega,hp.trans (.swap (by omega) (by omega) (by omega) (by omega) (by rw[hp.len,S.hl];exact hb)),?_⟩,by rw[h9];simp only[aa,aM];omega⟩;rw[T.u2,hHx,dQ]
end
end Go.Proofs
namespace Go.Proofs
open Go.Hx
def kO (f:Nat->Nat)(l:List Nat)(a i j:Nat):Prop:=(∀ x y,a<=x->x<y->y<=i->x≠j->y≠j->f (l.getD x 0)<=f (l.getD y 0))/\∀ y,j<y->y<=i->f (l.getD j 0)<=f (l.getD y 0)
theorem kO.start {f:Nat->Nat}{l:List Nat}{a i:Nat}(h:cZ f l a i):kO f l a i i:=⟨fun x y h0 h1 h2 h3 h4=>h x y h0 h1 (by omega),fun b h1 h2=>by omega⟩
theorem kO.done {f:Nat->Nat}{l:List Nat}{a i j:Nat}(h:kO f l a i j)(hj:j<=i)(hd:j<=a\/f (l.getD (j - 1) 0)<=f (l.getD j 0)):cZ f l a (i+1):=by
 intro x y h0 h1 h2;by_cases hb:y=j
 ·subst hb;rcases hd with h3|h3
  ·omega
  ·by_cases ha:x=y - 1
   ·rw[ha];exact h3
   ·exact Nat.le_trans (h.1 x (y - 1) h0 (by omega) (by omega) (by omega) (by omega)) h3
 ·by_cases ha:x=j
  ·subst ha;exact h.2 y h1 (by omega)
  ·exact h.1 x y h0 h1 (by omega) ha hb
theorem kO.step {f:Nat->Nat}{l:List Nat}{a i j:Nat}(h:kO f l a i j)(hj:j<=i)(hi:i<l.length)(h0:a<j)(hlt:f (l.getD j 0)<f (l.getD (j - 1) 0)):kO f (cj l j (j - 1)) a i (j - 1):=by
 have g:=Ri (l:=l) (i:=j) (j:=j - 1) (by omega) (by omega) (by omega);constructor
 ·intro x y hx h1 h2 h3 h4;rw[g x,g y,if_neg h3,if_neg h4];by_cases ha:x=j
  ·rw[if_pos ha,if_neg (by omega)];exact h.1 (j - 1) y (by omega) (by omega) h2 (by omega) (by omega)
  ·rw[if_neg ha];by_cases hb:y=j
   ·rw[if_pos hb];exact h.1 x (j - 1) hx (by omega) (by omega) ha (by omega)
   ·rw[if_neg hb];exact h.1 x y hx h1 h2 ha hb
 ·intro b h1 h2;rw[g (j - 1),if_pos rfl,g b,if_neg (by omega)];by_cases hb:b=j
  ·rw[if_pos hb];exact Nat.le_of_lt hlt
  ·rw[if_neg hb];exact h.2 b (by omega) h2
section
variable {cv:AVal} {f:Nat->Nat} {rid:Nat} {rb:Blk} {id g n a b:Nat} {l:List Nat} {H:AHeap}
set_option maxHeartbeats 4000000 in
theorem PV (S:SH cv f rid rb id g n l H)(hab:a<=b)(hb:b<=n)(K:ARes->AHeap->Prop)(hK:∀ q,bf a b l q->cZ f q a b->K (.ret (.tup [])) (H.upd id (nB g q))):
  ae Try.prog G0 96 [.own id g 0 n 1,aa a,aa b,cv] H K:=by
 have hn:=S.hn;have w0:=IntWalk.i64_in ((a:Int)+1) (by omega);refine ae.cD (n:=53) (rs:=[]) Try.func96 rfl rfl rfl (by decide) (by simp) ?_;refine W.seq (ab _ _ _ (by rfl) ?_);simp only[go_sem,w0];refine W.env fun E hE=>?_;have e0:E 0=.own id g 0 n 1:=by rw[hE];simp only[go_sem]
 have e1:E 1=aa a:=by rw[hE];simp only[go_sem]
 have e2:E 2=aa b:=by rw[hE];simp only[go_sem]
 have e3:E 3=cv:=by rw[hE];simp only[go_sem]
 have e8:E 8=aa ((a+1:Nat):Int):=by rw[hE];simp only[go_sem];rfl
 clear hE;refine W.block ?_;refine W.aI 9007199254737664 (by rfl) (fun ρ Hx=>∃ (i:Nat) (q:List Nat),ρ 8=aa i/\a<i/\(i<=b\/i=a+1)/\bf a b l q/\cZ f q a i/\Hx=H.upd id (nB g q)) (fun ρ Hx=>b+1 - (iv (ρ 8)).toNat) ?_ ?_
 ·exact⟨a+1,l,e8,by omega,.inr rfl,.refl _ _ _,fun x y h1 h2 h3=>by omega,S.self.symm⟩
 rintro ρ Hx ⟨i,q,h8,hi1,hi,hq,hS,hHx⟩;refine W.env fun E1 hE1=>?_;have f0:E1 0=.own id g 0 n 1:=by rw[hE1];simp only[go_sem,e0]
 have f1:E1 1=aa a:=by rw[hE1];simp only[go_sem,e1]
 have f2:E1 2=aa b:=by rw[hE1];simp only[go_sem,e2]
 have f3:E1 3=cv:=by rw[hE1];simp only[go_sem,e3]
 have f8:E1 8=aa i:=by rw[hE1];simp only[go_sem,h8]
 clear hE1;by_cases hib:(i:Int)<b;rotate_left
 ·refine ab _ _ _ (by rfl) ?_;simp only[go_sem,f8,f2,hib];rw[hHx];exact av.mk (by rw[aA];exact Nat.le_refl _) (hK q hq fun x y h1 h2 h3=>hS x y h1 h2 (by omega))
 refine W.seq (ab _ _ _ (by rfl) ?_);simp only[go_sem,f8,f2,hib];refine W.seq (W.block ?_);refine W.seq (ab _ _ _ (by rfl) ?_);simp only[go_sem,f8];refine W.env fun E2 hE2=>?_;have m0:E2 0=.own id g 0 n 1:=by rw[hE2];simp only[go_sem,f0]
 have m1:E2 1=aa a:=by rw[hE2];simp only[go_sem,f1]
 have m3:E2 3=cv:=by rw[hE2];simp only[go_sem,f3]
 have m8:E2 8=aa i:=by rw[hE2];simp only[go_sem,f8]
 have m9:E2 9=aa i:=by rw[hE2];simp only[go_sem]
 clear hE2;refine W.block ?_;refine W.aI 9007199254479360 (by rfl) (fun ρ Hz=>∃ (j:Nat) (p:List Nat),ρ 9=aa j/\a<=j/\j<=i/\bf a b l p/\kO f p a i j/\Hz=H.upd id (nB g p)) (fun ρ Hz=>(iv (ρ 9)).toNat) ?_ ?_
 ·exact⟨i,q,m9,by omega,Nat.le_refl _,hq,.start hS,hHx⟩
 rintro ρ2 Hz ⟨j,p,h9,haj,hj,hp,hIn,hHz⟩;refine W.env fun E3 hE3=>?_;have u0:E3 0=.own id g 0 n 1:=by rw[hE3];simp only[go_sem,m0]
 have u1:E3 1=aa a:=by rw[hE3];simp only[go_sem,m1]
 have u3:E3 3=cv:=by rw[hE3];simp only[go_sem,m3]
 have u8:E3 8=aa i:=by rw[hE3];simp only[go_sem,m8]
 have u9:E3 9=aa j:=by rw[hE3];simp only[go_sem,h9]
 clear hE3;have T:=S.upd hp.1;rw[<- hHz]at T;have i1:i<n:=by omega
 refine W.seq (W.cL (fun s'=>s'.H=Hz/\s'.ρ 0=.own id g 0 n 1/\s'.ρ 8=aa i/\s'.ρ 9=aa j/\s'.ρ 34=.lit (.bool (decide (a<j) && decide (f (p.getD j 0)<f (p.getD (j - 1) 0))))) ?_ ?_)
 ·refine W.draw 14 [0,0,3,7,15,15,15,111,239,15,15,1039,3599,7695] Try.mixed (by kernel_rfl) (by kernel_rfl) ?_;by_cases hjb:(j:Int) > a
  ·have wj:IntKind.i64.wrap ((j:Int) - 1)=((j - 1:Nat):Int):=(by rw[IntWalk.i64_in _ (by omega)];omega);have b1:(j:Int)<n:=(by omega);have b2:((j - 1:Nat):Int)<n:=(by omega);simp only[go_sem,u0,u1,u3,u9,T.live,hjb,wj,T.cell (show j<n by omega),T.cell (show j - 1<n by omega),b1,b2];obtain⟨z,hz,hc⟩:=T.ask (show j<n by omega) (show j - 1<n by omega);refine hc _ ⟨trivial,?_⟩;have hd1:decide (a<j)=true:=decide_eq_true (by omega);rw[hd1];by_cases hlt:f (p.getD j 0)<f (p.getD (j - 1) 0)
   ·have hlt':=hz.2 hlt;simp only[go_sem,u0,u8,u9,hlt',hlt]
    try rfl
   ·have hlt':¬ z<0:=fun h=>hlt (hz.1 h);simp only[go_sem,u0,u8,u9,hlt',hlt]
    try rfl
  ·simp only[go_sem,u0,u1,u8,u9,hjb];have hj0:decide (a<j)=false:=decide_eq_false (by omega);rw[hj0];rfl
 rintro⟨ρ3,Hq⟩ ⟨hHq,v0,v8,v9,v34⟩;simp only at hHq v0 v8 v9 v34;rw[hHq];clear hHq Hq;cases hfl:(decide (a<j) && decide (f (p.getD j 0)<f (p.getD (j - 1) 0))) with
 | false =>
  rw[hfl]at v34;refine W.cond (t:=false) v34 ?_;refine ab _ _ _ (by rfl) ?_;simp only[go_sem];have wi:=IntWalk.i64_in ((i:Int)+1) (by omega);have hd:j<=a\/f (p.getD (j - 1) 0)<=f (p.getD j 0):=by
   by_cases h0:j<=a
   ·exact .inl h0
   ·rw[decide_eq_true (by omega:a<j),Bool.true_and,decide_eq_false_iff_not]at hfl;exact .inr (by omega)
  have hS':=hIn.done hj hd;refine ab _ _ _ (by rfl) ?_;simp only[go_sem,v8,wi];exact⟨by rw[hHz,aA];exact Nat.le_refl _,⟨i+1,p,rfl,by omega,by omega,hp,hS',hHz⟩,by rw[h8];simp only[aa,aM];omega⟩
 | true =>
  rw[hfl]at v34;refine W.cond (t:=true) v34 ?_;have hfl2:a<j/\f (p.getD j 0)<f (p.getD (j - 1) 0):=by simpa using hfl
  have wj:IntKind.i64.wrap ((j:Int) - 1)=((j - 1:Nat):Int):=by rw[IntWalk.i64_in _ (by omega)];omega
  have b1:(j:Int)<n:=by omega
  have b2:((j - 1:Nat):Int)<n:=by omega
  refine ab _ _ _ (by rfl) ?_;simp only[go_sem];refine W.seq (W.block ?_);refine W.draw 16 [0,0,0,0,8,0,0,64,224,480,0,0,3072,7168,16355,32739] Try.mixed (by kernel_rfl) (by kernel_rfl) ?_;simp only[go_sem,v0,v9,T.live,T.len,wj,T.cell (show j<n by omega),T.cell (show j - 1<n by omega),b1,b2,T.s1 (show j<n by omega),T.s2 (i:=j) (show j - 1<n by omega),T.iw,T.iy];refine⟨by omega,by omega,ab _ _ _ (by rfl) ?_⟩;simp only[go_sem,v9,wj];refine⟨by rw[hHx,hHz];simp only[aA];exact Nat.le_refl _,⟨j - 1,cj p j (j - 1),rfl,by omega,by omega,hp.trans (.swap (by omega) (by omega) (by omega) (by omega) (by rw[hp.len,S.hl];exact hb)),hIn.step hj (by rw[hp.len,S.hl];exact i1) hfl2.1 hfl2.2,?_⟩,by rw[h9];simp only[aa,aM];omega⟩;rw[T.u2,hHz,dQ]
end
end Go.Proofs
namespace Go.Proofs
open Go.Hx
section
variable {cv:AVal} {f:Nat->Nat} {rid:Nat} {rb:Blk} {id g n a b:Nat} {l:List Nat} {H:AHeap}
def jy (f:Nat->Nat)(q:List Nat)(a b i j:Nat):Prop:=a<i/\i<=j+1/\j<b/\(∀ k,a<k->k<i->f (q.getD k 0)<f (q.getD a 0))/\∀ k,j<k->k<b->f (q.getD a 0)<=f (q.getD k 0)
theorem jy.done {f:Nat->Nat}{q:List Nat}{a b i j:Nat}(h:jy f q a b i j)(hij:j<i)(hb:b<=q.length):mg f (cj q j a) a b j:=by
 obtain⟨h1,h2,h3,h4,h5⟩:=h;have g:=fun k=>rq (l:=q) (i:=j) (j:=a) (by omega) (by omega) k;have ej:(cj q j a).getD j 0=q.getD a 0:=by
  rw[g];split
  ·rename_i e;rw[e]
  ·rw[if_pos rfl]
 refine⟨fun k k1 k2=>?_,fun k k1 k2=>?_⟩
 ·rw[ej,g];split
  ·exact Nat.le_of_lt (h4 j (by omega) (by omega))
  ·rw[if_neg (by omega)];exact Nat.le_of_lt (h4 k (by omega) (by omega))
 ·rw[ej,g,if_neg (by omega),if_neg (by omega)];exact h5 k k1 k2
theorem jy.swap {f:Nat->Nat}{q:List Nat}{a b i j:Nat}(h:jy f q a b i j)(hij:i<=j)(hb:b<=q.length)(hi:¬ f (q.getD i 0)<f (q.getD a 0))(hj:f (q.getD j 0)<f (q.getD a 0)):i<j/\jy f (cj q i j) a b (i+1) (j - 1):=by
 obtain⟨h1,h2,h3,h4,h5⟩:=h;have hne:i≠j:=fun e=>hi (e ▸ hj);have g:=fun k=>rq (l:=q) (i:=i) (j:=j) (by omega) (by omega) k;have ea:(cj q i j).getD a 0=q.getD a 0:=by rw[g,if_neg (by omega),if_neg (by omega)]
 refine⟨by omega,by omega,by omega,by omega,fun k k1 k2=>?_,fun k k1 k2=>?_⟩
 ·rw[ea,g,if_neg (by omega)];split
  ·exact hj
  ·exact h4 k k1 (by omega)
 ·rw[ea,g];split
  ·exact Nat.le_of_not_lt hi
  ·rw[if_neg (by omega)];exact h5 k (by omega) k2
theorem jy.scan {f:Nat->Nat}{q:List Nat}{a b i j x y:Nat}(h:jy f q a b i j)(h1:i<=x)(h2:x<=j+1)(h3:∀ k,i<=k->k<x->f (q.getD k 0)<f (q.getD a 0))(h4:y<=j)(h5:x<=y+1)(h6:∀ k,y<k->k<=j->f (q.getD a 0)<=f (q.getD k 0)):jy f q a b x y:=by
 obtain⟨p1,p2,p3,p4,p5⟩:=h;refine⟨by omega,by omega,by omega,fun k k1 k2=>?_,fun k k1 k2=>?_⟩
 ·rcases Nat.lt_or_ge k i with hk|hk
  ·exact p4 k k1 hk
  ·exact h3 k hk k2
 ·rcases Nat.lt_or_ge j k with hk|hk
  ·exact p5 k hk k2
  ·exact h6 k k1 hk
set_option maxHeartbeats 16000000 in
theorem PW {p:Nat}(S:SH cv f rid rb id g n l H)(hap:a<=p)(hpb:p<b)(hb:b<=n)(K:ARes->AHeap->Prop)(hK:∀ q m fl,bf a b l q->mg f q a b m->a<=m->m<b->K (.ret (.tup [aa (m:Nat),.lit (.bool fl)])) (H.upd id (nB g q))):
  ae Try.prog G0 103 [.own id g 0 n 1,aa a,aa b,aa p,cv] H K:=by
 have hn:=S.hn;have ba:(a:Int)<n:=by omega
 have bp:(p:Int)<n:=by omega
 have w0:IntKind.i64.wrap ((a:Int)+1)=((a+1:Nat):Int):=by rw[IntWalk.i64_in _ (by omega)];omega
 have w1:IntKind.i64.wrap ((b:Int) - 1)=((b - 1:Nat):Int):=by rw[IntWalk.i64_in _ (by omega)];omega
 refine ae.cD (n:=178) (rs:=[.tmp 10,.tmp 11]) Try.func103 rfl rfl rfl (by decide) (by simp) ?_;refine W.seq (ab _ _ _ (by rfl) ?_);simp only[go_sem];refine W.seq ?_;refine W.draw 14 [0,0,0,0,0,0,48,112,0,0,768,1792,4083,8179] Try.mixed (by kernel_rfl) (by kernel_rfl) ?_;simp only[go_sem,S.live,S.len,S.cell (show a<n by omega),S.cell (show p<n by omega),ba,bp,S.s1 (show a<n by omega),S.s2 (i:=a) (show p<n by omega),S.iw,S.iy];refine⟨by omega,by omega,?_⟩;rw[S.u2];obtain⟨q0,hq0⟩:∃ q0,q0=cj l a p:=⟨_,rfl⟩
 rw[<- hq0];have hp0:bf a b l q0:=by rw[hq0];exact .swap (Nat.le_refl _) (by omega) hap hpb (by rw[S.hl];exact hb)
 clear hq0;have T0:=S.upd hp0.1;obtain⟨H0,hH0⟩:∃ H0,H0=H.upd id (nB g q0):=⟨_,rfl⟩
 have n0:H0.next=H.next:=by rw[hH0];rfl
 rw[<- hH0]at T0 ⊢;refine W.seq (ab _ _ _ (by rfl) ?_);simp only[go_sem,w0,w1];refine W.env fun E hE=>?_;have e0:E 0=.own id g 0 n 1:=by rw[hE];simp only[go_sem]
 have e1:E 1=aa a:=by rw[hE];simp only[go_sem]
 have e4:E 4=cv:=by rw[hE];simp only[go_sem]
 have e12:E 12=aa ((a+1:Nat):Int):=by rw[hE];simp only[go_sem]
 have e13:E 13=aa ((b - 1:Nat):Int):=by rw[hE];simp only[go_sem]
 clear hE;have I0:jy f q0 a b (a+1) (b - 1):=⟨by omega,by omega,by omega,fun k k1 k2=>by omega,fun k k1 k2=>by omega⟩
 obtain⟨i0,hi0⟩:∃ i0,i0=a+1:=⟨_,rfl⟩
 obtain⟨j0,hj0⟩:∃ j0,j0=b - 1:=⟨_,rfl⟩
 rw[<- hi0]at e12 I0;rw[<- hj0]at e13 I0;refine W.cL (fun s'=>s'.H=H0/\s'.ρ 0=.own id g 0 n 1/\s'.ρ 1=aa a/\s'.ρ 4=cv/\s'.ρ 13=aa j0/\∃ u:Nat,s'.ρ 12=aa u/\(i0<=u/\u<=j0+1/\∀ k,i0<=k->k<u->f ((q0).getD k 0)<f ((q0).getD a 0))/\(u<=j0->¬ f ((q0).getD u 0)<f ((q0).getD a 0))) ?_ ?_
 ·refine W.block ?_;refine W.aI 1125895611879424 (by kernel_rfl) (fun ρ Hk=>Hk=H0/\∃ u:Nat,ρ 12=aa u/\(i0<=u/\u<=j0+1/\∀ k,i0<=k->k<u->f ((q0).getD k 0)<f ((q0).getD a 0))) (fun ρ _=>j0+1 - (iv (ρ 12)).toNat) ?_ ?_
  ·exact⟨rfl,i0,e12,Nat.le_refl _,by omega,fun k h1 h2=>by omega⟩
  rintro ρ Hk ⟨hHk,u,hx,x1,x2,x3⟩;rw[hHk];refine W.env fun F hF=>?_;have d0:F 0=.own id g 0 n 1:=by rw[hF];simp only[go_sem,e0]
  have d1:F 1=aa a:=by rw[hF];simp only[go_sem,e1]
  have d4:F 4=cv:=by rw[hF];simp only[go_sem,e4]
  have d12:F 12=aa u:=by rw[hF];simp only[go_sem,hx]
  have d13:F 13=aa j0:=by rw[hF];simp only[go_sem,e13]
  clear hF;refine W.seq (W.cL (fun s'=>s'.H=H0/\s'.ρ 0=.own id g 0 n 1/\s'.ρ 1=aa a/\s'.ρ 4=cv/\s'.ρ 12=aa u/\s'.ρ 13=aa j0/\s'.ρ 47=.lit (.bool (decide (u<=j0) && decide (f ((q0).getD u 0)<f ((q0).getD a 0))))) ?_ ?_)
  ·refine W.draw 13 [0,0,3,7,15,15,15,111,239,15,15,1551,3599] Try.mixed (by kernel_rfl) (by kernel_rfl) ?_;by_cases hc:(u:Int)<=j0
   ·have b1:(u:Int)<n:=(by omega);simp only[go_sem,d0,d1,d4,d12,d13,T0.live,hc,T0.cell (show u<n by omega),T0.cell (show a<n by omega),b1,ba];obtain⟨z,hz,hcc⟩:=T0.ask (show u<n by omega) (show a<n by omega);refine hcc _ ⟨trivial,?_⟩;have hd1:decide (u<=j0)=true:=decide_eq_true (by omega);rw[hd1];by_cases hlt:f ((q0).getD u 0)<f ((q0).getD a 0)
    ·have hlt':=hz.2 hlt;simp only[go_sem,d0,d1,d4,d12,d13,hlt',hlt]
     try rfl
    ·have hlt':¬ z<0:=fun h=>hlt (hz.1 h);simp only[go_sem,d0,d1,d4,d12,d13,hlt',hlt]
     try rfl
   ·simp only[go_sem,d0,d1,d4,d12,d13,hc];have hj0:decide (u<=j0)=false:=decide_eq_false (by omega);rw[hj0];rfl
  rintro⟨ρ3,Hs⟩ ⟨hHs,v0,v1,v4,v12,v13,vc⟩;simp only at hHs v0 v1 v4 v12 v13 vc;rw[hHs];clear hHs Hs;cases hfl:(decide (u<=j0) && decide (f ((q0).getD u 0)<f ((q0).getD a 0))) with
  | false =>
   rw[hfl]at vc;refine W.cond (t:=false) vc ?_;refine ab _ _ _ (by rfl) ?_;simp only[go_sem];refine⟨v0,v1,v4,v13,u,v12,⟨x1,x2,x3⟩,fun h hh=>?_⟩;rw[decide_eq_true h,decide_eq_true hh]at hfl;cases hfl
  | true =>
   rw[hfl]at vc;refine W.cond (t:=true) vc ?_;have hfl2:(u<=j0)/\f ((q0).getD u 0)<f ((q0).getD a 0):=(by simpa using hfl);have wx:=IntWalk.i64_in ((u:Int)+1) (by omega);refine ab _ _ _ (by rfl) ?_;simp only[go_sem];refine ab _ _ _ (by rfl) ?_;simp only[go_sem,v12,wx];exact⟨⟨u+1,rfl,by omega,by omega,fun k h1 h2=>by
    by_cases hk:k=u
    ·rw[hk];exact hfl2.2
    ·exact x3 k h1 (by omega)⟩,by rw[hx];simp only[aa,aM];omega⟩
 rintro⟨ρa,Ha⟩ ⟨hHa,a0,a1,a4,a13,x,a12,⟨x1,x2,x3⟩,x4⟩;simp only at hHa a0 a1 a4 a13 a12;rw[hHa];clear hHa Ha;refine W.cL (fun s'=>s'.H=H0/\s'.ρ 0=.own id g 0 n 1/\s'.ρ 1=aa a/\s'.ρ 4=cv/\s'.ρ 12=aa x/\∃ u:Nat,s'.ρ 13=aa u/\(u<=j0/\x<=u+1/\∀ k,u<k->k<=j0->f ((q0).getD a 0)<=f ((q0).getD k 0))/\(x<=u->f ((q0).getD u 0)<f ((q0).getD a 0))) ?_ ?_
 ·refine W.block ?_;refine W.aI 590294684458798817280 (by kernel_rfl) (fun ρ Hk=>Hk=H0/\∃ u:Nat,ρ 13=aa u/\(u<=j0/\x<=u+1/\∀ k,u<k->k<=j0->f ((q0).getD a 0)<=f ((q0).getD k 0))) (fun ρ _=>(iv (ρ 13)).toNat) ?_ ?_
  ·exact⟨rfl,j0,a13,Nat.le_refl _,by omega,fun k h1 h2=>by omega⟩
  rintro ρ Hk ⟨hHk,u,hx,x1,x2,x3⟩;rw[hHk];refine W.env fun F hF=>?_;have d0:F 0=.own id g 0 n 1:=by rw[hF];simp only[go_sem,a0]
  have d1:F 1=aa a:=by rw[hF];simp only[go_sem,a1]
  have d4:F 4=cv:=by rw[hF];simp only[go_sem,a4]
  have d12:F 12=aa x:=by rw[hF];simp only[go_sem,a12]
  have d13:F 13=aa u:=by rw[hF];simp only[go_sem,hx]
  clear hF;refine W.seq (W.cL (fun s'=>s'.H=H0/\s'.ρ 0=.own id g 0 n 1/\s'.ρ 1=aa a/\s'.ρ 4=cv/\s'.ρ 12=aa x/\s'.ρ 13=aa u/\s'.ρ 66=.lit (.bool (decide (x<=u) && !decide (f ((q0).getD u 0)<f ((q0).getD a 0))))) ?_ ?_)
  ·refine W.draw 13 [0,0,3,7,15,15,15,111,239,15,15,1551,3599] Try.mixed (by kernel_rfl) (by kernel_rfl) ?_;by_cases hc:(x:Int)<=u
   ·have b1:(u:Int)<n:=(by omega);simp only[go_sem,d0,d1,d4,d12,d13,T0.live,hc,T0.cell (show u<n by omega),T0.cell (show a<n by omega),b1,ba];obtain⟨z,hz,hcc⟩:=T0.ask (show u<n by omega) (show a<n by omega);refine hcc _ ⟨trivial,?_⟩;have hd1:decide (x<=u)=true:=decide_eq_true (by omega);rw[hd1];by_cases hlt:f ((q0).getD u 0)<f ((q0).getD a 0)
    ·have hlt':=hz.2 hlt;simp only[go_sem,d0,d1,d4,d12,d13,hlt',hlt]
     try rfl
    ·have hlt':¬ z<0:=fun h=>hlt (hz.1 h);simp only[go_sem,d0,d1,d4,d12,d13,hlt',hlt]
     try rfl
   ·simp only[go_sem,d0,d1,d4,d12,d13,hc];have hj0:decide (x<=u)=false:=decide_eq_false (by omega);rw[hj0];rfl
  rintro⟨ρ3,Hs⟩ ⟨hHs,v0,v1,v4,v12,v13,vc⟩;simp only at hHs v0 v1 v4 v12 v13 vc;rw[hHs];clear hHs Hs;cases hfl:(decide (x<=u) && !decide (f ((q0).getD u 0)<f ((q0).getD a 0))) with
  | false =>
   rw[hfl]at vc;refine W.cond (t:=false) vc ?_;refine ab _ _ _ (by rfl) ?_;simp only[go_sem];refine⟨v0,v1,v4,v12,u,v13,⟨x1,x2,x3⟩,fun h=>?_⟩;rw[decide_eq_true h,Bool.true_and,Bool.not_eq_false',decide_eq_true_iff]at hfl;exact hfl
  | true =>
   rw[hfl]at vc;refine W.cond (t:=true) vc ?_;have hfl2:(x<=u)/\¬ f ((q0).getD u 0)<f ((q0).getD a 0):=(by simpa using hfl);have wx:IntKind.i64.wrap ((u:Int) - 1)=((u - 1:Nat):Int):=(by rw[IntWalk.i64_in _ (by omega)];omega);refine ab _ _ _ (by rfl) ?_;simp only[go_sem];refine ab _ _ _ (by rfl) ?_;simp only[go_sem,v13,wx];exact⟨⟨u - 1,rfl,by omega,by omega,fun k h1 h2=>by
    by_cases hk:k=u
    ·rw[hk];exact Nat.le_of_not_lt hfl2.2
    ·exact x3 k (by omega) h2⟩,by rw[hx];simp only[aa,aM];omega⟩
 rintro⟨ρb,Hb⟩ ⟨hHb,c0,c1,c4,c12,y,c13,⟨y1,y2,y3⟩,y4⟩;simp only at hHb c0 c1 c4 c13 c12;rw[hHb];clear hHb Hb;have I1:=I0.scan x1 x2 x3 y1 y2 y3;clear x1 x2 x3 y1 y2 y3 I0;have yb:=I1.2.2.1;have yn:y<n:=by omega
 have xn:x<=n:=by have:=I1.2.1;omega
 have ax:a<x:=I1.1;have ay:a<=y:=by have:=I1.2.1;omega
 have by1:(y:Int)<n:=by omega
 have pl0:=hp0.len;rw[S.hl]at pl0;by_cases hxy:(x:Int) > y
 ·refine W.seq ?_;refine ab _ _ _ (by rfl) ?_;simp only[go_sem,c12,c13,hxy];refine W.draw 14 [0,0,0,0,0,0,48,112,0,0,768,1792,4083,8179] Try.mixed (by kernel_rfl) (by kernel_rfl) ?_;simp only[go_sem,c0,c1,c13,T0.live,T0.len,T0.cell (show a<n by omega),T0.cell yn,ba,by1,T0.s1 yn,T0.s2 (i:=y) (show a<n by omega),T0.iw,T0.iy];refine⟨by omega,by omega,?_⟩;rw[T0.u2,hH0,dQ];exact av.mk (Nat.le_refl _) (hK _ y true (hp0.trans (.swap (by omega) (by omega) (Nat.le_refl _) (by omega) (by rw[pl0];exact hb))) (I1.done (by omega) (by rw[pl0];exact hb)) ay I1.2.2.1)
 obtain⟨xy,I2⟩:=I1.swap (by omega) (by rw[pl0];exact hb) (x4 (by have:=I1.2.2.1;omega)) (y4 (by omega));have bx1:(x:Int)<n:=by omega
 have wx:IntKind.i64.wrap ((x:Int)+1)=((x+1:Nat):Int):=by rw[IntWalk.i64_in _ (by omega)];omega
 have wy:IntKind.i64.wrap ((y:Int) - 1)=((y - 1:Nat):Int):=by rw[IntWalk.i64_in _ (by omega)];omega
 refine W.seq ?_;refine ab _ _ _ (by rfl) ?_;simp only[go_sem,c12,c13,hxy];refine W.seq ?_;refine W.draw 14 [0,0,0,0,0,0,48,112,0,0,768,1792,4083,8179] Try.mixed (by kernel_rfl) (by kernel_rfl) ?_;simp only[go_sem,c0,c12,c13,T0.live,T0.len,T0.cell (show x<n by omega),T0.cell yn,bx1,by1,T0.s1 (show x<n by omega),T0.s2 (i:=x) yn,T0.iw,T0.iy];refine⟨by omega,by omega,?_⟩;rw[T0.u2];refine W.seq (ab _ _ _ (by rfl) ?_);simp only[go_sem,c12,wx];refine W.seq (ab _ _ _ (by rfl) ?_);simp only[go_sem,c13,wy];rw[hH0,dQ];refine W.env fun E2 hE2=>?_;have k0:E2 0=.own id g 0 n 1:=by rw[hE2];simp only[go_sem,c0]
 have k1:E2 1=aa a:=by rw[hE2];simp only[go_sem,c1]
 have k4:E2 4=cv:=by rw[hE2];simp only[go_sem,c4]
 have k12:E2 12=aa ((x+1:Nat):Int):=by rw[hE2];simp only[go_sem,c12]
 have k13:E2 13=aa ((y - 1:Nat):Int):=by rw[hE2];simp only[go_sem,c13]
 clear hE2;have hp1:bf a b l (cj q0 x y):=hp0.trans (.swap (by omega) (by have:=I1.2.2.1;omega) (by omega) I1.2.2.1 (by rw[pl0];exact hb));refine W.cL (fun s'=>∃ (q:List Nat) (i j:Nat),s'.H=H.upd id (nB g q)/\bf a b l q/\jy f q a b i j/\j<i/\s'.ρ 0=.own id g 0 n 1/\s'.ρ 1=aa a/\s'.ρ 13=aa j) ?_ ?_
 ·refine W.block ?_;refine W.aI 11692013098647223305064659454426923309352957784064 (by kernel_rfl) (fun ρ Hx=>∃ (q:List Nat) (i j:Nat),ρ 12=aa i/\ρ 13=aa j/\bf a b l q/\jy f q a b i j/\Hx=H.upd id (nB g q)) (fun ρ Hx=>(iv (ρ 13)).toNat) ?_ ?_
  ·exact⟨_,_,_,k12,k13,hp1,I2,rfl⟩
  rintro ρq Hx ⟨q,i,j,h12,h13,hp,I,hHx⟩;refine W.env fun E3 hE3=>?_;have m0:E3 0=.own id g 0 n 1:=by rw[hE3];simp only[go_sem,k0]
  have m1:E3 1=aa a:=by rw[hE3];simp only[go_sem,k1]
  have m4:E3 4=cv:=by rw[hE3];simp only[go_sem,k4]
  have m12:E3 12=aa i:=by rw[hE3];simp only[go_sem,h12]
  have m13:E3 13=aa j:=by rw[hE3];simp only[go_sem,h13]
  clear hE3;have T:=S.upd hp.1;rw[<- hHx]at T;have hxn:Hx.next=H.next:=by rw[hHx];rfl
  have Ib:=I.2.2.1;have Ia:=I.1;have Ij:=I.2.1;refine W.block ?_;refine W.cL (fun s'=>s'.H=Hx/\s'.ρ 0=.own id g 0 n 1/\s'.ρ 1=aa a/\s'.ρ 4=cv/\s'.ρ 13=aa j/\∃ u:Nat,s'.ρ 12=aa u/\(i<=u/\u<=j+1/\∀ k,i<=k->k<u->f ((q).getD k 0)<f ((q).getD a 0))/\(u<=j->¬ f ((q).getD u 0)<f ((q).getD a 0))) ?_ ?_
  ·refine W.block ?_;refine W.aI 10633783401460119679889608587740188672 (by kernel_rfl) (fun ρ Hk=>Hk=Hx/\∃ u:Nat,ρ 12=aa u/\(i<=u/\u<=j+1/\∀ k,i<=k->k<u->f ((q).getD k 0)<f ((q).getD a 0))) (fun ρ _=>j+1 - (iv (ρ 12)).toNat) ?_ ?_
   ·exact⟨rfl,i,m12,Nat.le_refl _,by omega,fun k h1 h2=>by omega⟩
   rintro ρ Hk ⟨hHk,u,hx,x1,x2,x3⟩;rw[hHk];refine W.env fun F hF=>?_;have d0:F 0=.own id g 0 n 1:=(by rw[hF];simp only[go_sem,m0]);have d1:F 1=aa a:=(by rw[hF];simp only[go_sem,m1]);have d4:F 4=cv:=(by rw[hF];simp only[go_sem,m4]);have d12:F 12=aa u:=(by rw[hF];simp only[go_sem,hx]);have d13:F 13=aa j:=(by rw[hF];simp only[go_sem,m13]);clear hF;refine W.seq (W.cL (fun s'=>s'.H=Hx/\s'.ρ 0=.own id g 0 n 1/\s'.ρ 1=aa a/\s'.ρ 4=cv/\s'.ρ 12=aa u/\s'.ρ 13=aa j/\s'.ρ 120=.lit (.bool (decide (u<=j) && decide (f ((q).getD u 0)<f ((q).getD a 0))))) ?_ ?_)
   ·refine W.draw 13 [0,0,3,7,15,15,15,111,239,15,15,1551,3599] Try.mixed (by kernel_rfl) (by kernel_rfl) ?_;by_cases hc:(u:Int)<=j
    ·have b1:(u:Int)<n:=(by omega);simp only[go_sem,d0,d1,d4,d12,d13,T.live,hc,T.cell (show u<n by omega),T.cell (show a<n by omega),b1,ba];obtain⟨z,hz,hcc⟩:=T.ask (show u<n by omega) (show a<n by omega);refine hcc _ ⟨trivial,?_⟩;have hd1:decide (u<=j)=true:=decide_eq_true (by omega);rw[hd1];by_cases hlt:f ((q).getD u 0)<f ((q).getD a 0)
     ·have hlt':=hz.2 hlt;simp only[go_sem,d0,d1,d4,d12,d13,hlt',hlt]
      try rfl
     ·have hlt':¬ z<0:=fun h=>hlt (hz.1 h);simp only[go_sem,d0,d1,d4,d12,d13,hlt',hlt]
      try rfl
    ·simp only[go_sem,d0,d1,d4,d12,d13,hc];have hj0:decide (u<=j)=false:=decide_eq_false (by omega);rw[hj0];rfl
   rintro⟨ρ3,Hs⟩ ⟨hHs,v0,v1,v4,v12,v13,vc⟩;simp only at hHs v0 v1 v4 v12 v13 vc;rw[hHs];clear hHs Hs;cases hfl:(decide (u<=j) && decide (f ((q).getD u 0)<f ((q).getD a 0))) with
   | false =>
    rw[hfl]at vc;refine W.cond (t:=false) vc ?_;refine ab _ _ _ (by rfl) ?_;simp only[go_sem];refine⟨v0,v1,v4,v13,u,v12,⟨x1,x2,x3⟩,fun h hh=>?_⟩;rw[decide_eq_true h,decide_eq_true hh]at hfl;cases hfl
   | true =>
    rw[hfl]at vc;refine W.cond (t:=true) vc ?_;have hfl2:(u<=j)/\f ((q).getD u 0)<f ((q).getD a 0):=(by simpa using hfl);have wx:=IntWalk.i64_in ((u:Int)+1) (by omega);refine ab _ _ _ (by rfl) ?_;simp only[go_sem];refine ab _ _ _ (by rfl) ?_;simp only[go_sem,v12,wx];exact⟨⟨u+1,rfl,by omega,by omega,fun k h1 h2=>by
     by_cases hk:k=u
     ·rw[hk];exact hfl2.2
     ·exact x3 k h1 (by omega)⟩,by rw[hx];simp only[aa,aM];omega⟩
  rintro⟨ρa,Ha⟩ ⟨hHa,a0,a1,a4,a13,x,a12,⟨x1,x2,x3⟩,x4⟩;simp only at hHa a0 a1 a4 a13 a12;rw[hHa];clear hHa Ha;refine W.cL (fun s'=>s'.H=Hx/\s'.ρ 0=.own id g 0 n 1/\s'.ρ 1=aa a/\s'.ρ 4=cv/\s'.ρ 12=aa x/\∃ u:Nat,s'.ρ 13=aa u/\(u<=j/\x<=u+1/\∀ k,u<k->k<=j->f ((q).getD a 0)<=f ((q).getD k 0))/\(x<=u->f ((q).getD u 0)<f ((q).getD a 0))) ?_ ?_
  ·refine W.block ?_;refine W.aI 5575175665808689506056946337705608133746688 (by kernel_rfl) (fun ρ Hk=>Hk=Hx/\∃ u:Nat,ρ 13=aa u/\(u<=j/\x<=u+1/\∀ k,u<k->k<=j->f ((q).getD a 0)<=f ((q).getD k 0))) (fun ρ _=>(iv (ρ 13)).toNat) ?_ ?_
   ·exact⟨rfl,j,a13,Nat.le_refl _,by omega,fun k h1 h2=>by omega⟩
   rintro ρ Hk ⟨hHk,u,hx,x1,x2,x3⟩;rw[hHk];refine W.env fun F hF=>?_;have d0:F 0=.own id g 0 n 1:=(by rw[hF];simp only[go_sem,a0]);have d1:F 1=aa a:=(by rw[hF];simp only[go_sem,a1]);have d4:F 4=cv:=(by rw[hF];simp only[go_sem,a4]);have d12:F 12=aa x:=(by rw[hF];simp only[go_sem,a12]);have d13:F 13=aa u:=(by rw[hF];simp only[go_sem,hx]);clear hF;refine W.seq (W.cL (fun s'=>s'.H=Hx/\s'.ρ 0=.own id g 0 n 1/\s'.ρ 1=aa a/\s'.ρ 4=cv/\s'.ρ 12=aa x/\s'.ρ 13=aa u/\s'.ρ 139=.lit (.bool (decide (x<=u) && !decide (f ((q).getD u 0)<f ((q).getD a 0))))) ?_ ?_)
   ·refine W.draw 13 [0,0,3,7,15,15,15,111,239,15,15,1551,3599] Try.mixed (by kernel_rfl) (by kernel_rfl) ?_;by_cases hc:(x:Int)<=u
    ·have b1:(u:Int)<n:=(by omega);simp only[go_sem,d0,d1,d4,d12,d13,T.live,hc,T.cell (show u<n by omega),T.cell (show a<n by omega),b1,ba];obtain⟨z,hz,hcc⟩:=T.ask (show u<n by omega) (show a<n by omega);refine hcc _ ⟨trivial,?_⟩;have hd1:decide (x<=u)=true:=decide_eq_true (by omega);rw[hd1];by_cases hlt:f ((q).getD u 0)<f ((q).getD a 0)
     ·have hlt':=hz.2 hlt;simp only[go_sem,d0,d1,d4,d12,d13,hlt',hlt]
      try rfl
     ·have hlt':¬ z<0:=fun h=>hlt (hz.1 h);simp only[go_sem,d0,d1,d4,d12,d13,hlt',hlt]
      try rfl
    ·simp only[go_sem,d0,d1,d4,d12,d13,hc];have hj0:decide (x<=u)=false:=decide_eq_false (by omega);rw[hj0];rfl
   rintro⟨ρ3,Hs⟩ ⟨hHs,v0,v1,v4,v12,v13,vc⟩;simp only at hHs v0 v1 v4 v12 v13 vc;rw[hHs];clear hHs Hs;cases hfl:(decide (x<=u) && !decide (f ((q).getD u 0)<f ((q).getD a 0))) with
   | false =>
    rw[hfl]at vc;refine W.cond (t:=false) vc ?_;refine ab _ _ _ (by rfl) ?_;simp only[go_sem];refine⟨v0,v1,v4,v12,u,v13,⟨x1,x2,x3⟩,fun h=>?_⟩;rw[decide_eq_true h,Bool.true_and,Bool.not_eq_false',decide_eq_true_iff]at hfl;exact hfl
   | true =>
    rw[hfl]at vc;refine W.cond (t:=true) vc ?_;have hfl2:(x<=u)/\¬ f ((q).getD u 0)<f ((q).getD a 0):=(by simpa using hfl);have wx:IntKind.i64.wrap ((u:Int) - 1)=((u - 1:Nat):Int):=(by rw[IntWalk.i64_in _ (by omega)];omega);refine ab _ _ _ (by rfl) ?_;simp only[go_sem];refine ab _ _ _ (by rfl) ?_;simp only[go_sem,v13,wx];exact⟨⟨u - 1,rfl,by omega,by omega,fun k h1 h2=>by
     by_cases hk:k=u
     ·rw[hk];exact Nat.le_of_not_lt hfl2.2
     ·exact x3 k (by omega) h2⟩,by rw[hx];simp only[aa,aM];omega⟩
  rintro⟨ρb,Hb⟩ ⟨hHb,c0,c1,c4,c12,y,c13,⟨y1,y2,y3⟩,y4⟩;simp only at hHb c0 c1 c4 c13 c12;rw[hHb];clear hHb Hb;have I1:=I.scan x1 x2 x3 y1 y2 y3;clear x2 x3 y2 y3 I;have yb:=I1.2.2.1;have yn:y<n:=by omega
  have xn:x<=n:=by have:=I1.2.1;omega
  have ax:a<x:=I1.1;have ay:a<=y:=by have:=I1.2.1;omega
  have by1:(y:Int)<n:=by omega
  have pl0:=hp.len;rw[S.hl]at pl0;by_cases hxy:(x:Int) > y
  ·refine ab _ _ _ (by rfl) ?_;simp only[go_sem,c12,c13,hxy];exact⟨q,x,y,hHx,hp,I1,by omega,c0,c1,rfl⟩
  obtain⟨xy,I2⟩:=I1.swap (by omega) (by rw[pl0];exact hb) (x4 (by omega)) (y4 (by omega));have bx1:(x:Int)<n:=by omega
  have wx:IntKind.i64.wrap ((x:Int)+1)=((x+1:Nat):Int):=by rw[IntWalk.i64_in _ (by omega)];omega
  have wy:IntKind.i64.wrap ((y:Int) - 1)=((y - 1:Nat):Int):=by rw[IntWalk.i64_in _ (by omega)];omega
  refine W.seq ?_;refine ab _ _ _ (by rfl) ?_;simp only[go_sem,c12,c13,hxy];refine W.seq ?_;refine W.draw 14 [0,0,0,0,0,0,48,112,0,0,768,1792,4083,8179] Try.mixed (by kernel_rfl) (by kernel_rfl) ?_;simp only[go_sem,c0,c12,c13,T.live,T.len,T.cell (show x<n by omega),T.cell yn,bx1,by1,T.s1 (show x<n by omega),T.s2 (i:=x) yn,T.iw,T.iy];refine⟨by omega,by omega,?_⟩;rw[T.u2];refine ab _ _ _ (by rfl) ?_;simp only[go_sem,c12,c13,wx,wy];refine⟨by simp only[aA];omega,⟨cj q x y,x+1,y - 1,rfl,rfl,hp.trans (.swap (by omega) (by omega) (by omega) (by omega) (by rw[pl0];exact hb)),I2,?_⟩,by rw[h13];simp only[aa,aM];omega⟩;rw[hHx,dQ]
 rintro⟨ρd,Hd⟩ ⟨q,i,j,hHd,hp,I,hji,q0',q1,q13⟩;simp only at hHd q0' q1 q13;have T:=S.upd hp.1;rw[<- hHd]at T;have Ib:=I.2.2.1;have Ia:=I.1;have Ij:=I.2.1;have jn:j<n:=by omega
 have bj:(j:Int)<n:=by omega
 have pl:=hp.len;rw[S.hl]at pl;refine W.seq ?_;refine W.draw 14 [0,0,0,0,0,0,48,112,0,0,768,1792,4083,8179] Try.mixed (by kernel_rfl) (by kernel_rfl) ?_;simp only[go_sem,q0',q1,q13,T.live,T.len,T.cell (show a<n by omega),T.cell jn,ba,bj,T.s1 jn,T.s2 (i:=j) (show a<n by omega),T.iw,T.iy];refine⟨by omega,by omega,?_⟩;rw[T.u2];refine ab _ _ _ (by rfl) ?_;simp only[go_sem,q13];rw[hHd,dQ];exact av.mk (Nat.le_refl _) (hK _ j false (hp.trans (.swap (by omega) (by omega) (Nat.le_refl _) (by omega) (by rw[pl];exact hb))) (I.done hji (by rw[pl];exact hb)) (by omega) Ib)
end
end Go.Proofs
namespace Go.Proofs
open Go.Hx
theorem cZ.snoc {f:Nat->Nat}{q:List Nat}{a i:Nat}(h:cZ f q a i)(ha:a<i)(hi:¬ f (q.getD i 0)<f (q.getD (i - 1) 0)):cZ f q a (i+1):=fun x y h1 h2 h3=>by
 by_cases hy:y=i
 ·subst hy;by_cases hx:x=y - 1
  ·rw[hx];omega
  ·have:=h x (y - 1) h1 (by omega) (by omega);omega
 ·exact h x y h1 h2 (by omega)
theorem cZ.keep {f:Nat->Nat}{q p:List Nat}{a i b:Nat}(h:cZ f q a i)(hp:bf i b q p):cZ f p a i:=fun x y h1 h2 h3=>by
 rw[hp.2 x (by omega),hp.2 y (by omega)];exact h x y h1 h2 h3
section
variable {cv:AVal} {f:Nat->Nat} {rid:Nat} {rb:Blk} {id g n a b:Nat} {l:List Nat} {H:AHeap}
set_option maxHeartbeats 16000000 in
theorem PX (S:SH cv f rid rb id g n l H)(hab:a<b)(hb:b<=n)(hB:Bl f l a b)(K:ARes->AHeap->Prop)(hK:∀ q fl,bf a b l q->(fl=true->cZ f q a b)->K (.ret (.lit (.bool fl))) (H.upd id (nB g q))):
  ae Try.prog G0 101 [.own id g 0 n 1,aa a,aa b,cv] H K:=by
 have hn:=S.hn;have w0:IntKind.i64.wrap ((a:Int)+1)=((a+1:Nat):Int):=by rw[IntWalk.i64_in _ (by omega)];omega
 refine ae.cD (n:=141) (rs:=[.tmp 8]) Try.func101 rfl rfl rfl (by decide) (by simp) ?_;refine W.seq (ab _ _ _ (by rfl) ?_);simp only[go_sem];refine W.seq (ab _ _ _ (by rfl) ?_);simp only[go_sem,w0];refine W.seq (ab _ _ _ (by rfl) ?_);simp only[go_sem];refine W.env fun E hE=>?_;have e0:E 0=.own id g 0 n 1:=by rw[hE];simp only[go_sem]
 have e1:E 1=aa a:=by rw[hE];simp only[go_sem]
 have e2:E 2=aa b:=by rw[hE];simp only[go_sem]
 have e3:E 3=cv:=by rw[hE];simp only[go_sem]
 have e9:E 9=aa ((a+1:Nat):Int):=by rw[hE];simp only[go_sem]
 have e10:E 10=aa 0:=by rw[hE];simp only[go_sem]
 clear hE;refine W.aI 2787593149816327892691964784081045188222720 (by kernel_rfl) (fun ρ Hx=>∃ (c i:Nat) (q:List Nat),ρ 9=aa i/\ρ 10=aa c/\c<=5/\a<i/\i<=b/\bf a b l q/\cZ f q a i/\Hx=H.upd id (nB g q)) (fun ρ Hx=>5 - (iv (ρ 10)).toNat) ?_ ?_
 ·exact⟨0,a+1,l,e9,e10,by omega,by omega,by omega,.refl _ _ _,fun x y h1 h2 h3=>by omega,S.self.symm⟩
 rintro ρ Hx ⟨c,i,q,h9,h10,hc5,hai,hib,hp,hS,hHx⟩;refine W.env fun F hF=>?_;have d0:F 0=.own id g 0 n 1:=by rw[hF];simp only[go_sem,e0]
 have d1:F 1=aa a:=by rw[hF];simp only[go_sem,e1]
 have d2:F 2=aa b:=by rw[hF];simp only[go_sem,e2]
 have d3:F 3=cv:=by rw[hF];simp only[go_sem,e3]
 have d9:F 9=aa i:=by rw[hF];simp only[go_sem,h9]
 have d10:F 10=aa c:=by rw[hF];simp only[go_sem,h10]
 clear hF;by_cases hc:(c:Int)<5;rotate_left
 ·refine ab _ _ _ (by rfl) ?_;simp only[go_sem,d10,hc];rw[hHx];refine ab _ _ _ (by rfl) ?_;simp only[go_sem];exact av.mk (Nat.le_refl _) (hK q false hp fun h=>by cases h)
 have T:=S.upd hp.1;rw[<- hHx]at T;have wc:=IntWalk.i64_in ((c:Int)+1) (by omega);refine W.seq (ab _ _ _ (by rfl) ?_);simp only[go_sem,d10,hc];refine W.seq (W.block ?_);refine W.cL (fun s'=>s'.H=Hx/\s'.ρ 0=.own id g 0 n 1/\s'.ρ 1=aa a/\s'.ρ 2=aa b/\s'.ρ 3=cv/\s'.ρ 10=aa c/\∃ u:Nat,s'.ρ 9=aa u/\a<u/\u<=b/\cZ f q a u/\(u<b->f (q.getD u 0)<f (q.getD (u - 1) 0))) ?_ ?_
 ·refine W.block ?_;refine W.aI 549755290112 (by kernel_rfl) (fun ρ Hk=>Hk=Hx/\∃ u:Nat,ρ 9=aa u/\a<u/\u<=b/\cZ f q a u) (fun ρ _=>b - (iv (ρ 9)).toNat) ?_ ?_
  ·exact⟨rfl,i,by simp only[go_sem,d9],hai,hib,hS⟩
  rintro ρk Hk ⟨hHk,u,hu,u1,u2,u3⟩;rw[hHk];refine W.env fun J hJ=>?_;have m0:J 0=.own id g 0 n 1:=by rw[hJ];simp only[go_sem,d0]
  have m1:J 1=aa a:=by rw[hJ];simp only[go_sem,d1]
  have m2:J 2=aa b:=by rw[hJ];simp only[go_sem,d2]
  have m3:J 3=cv:=by rw[hJ];simp only[go_sem,d3]
  have m9:J 9=aa u:=by rw[hJ];simp only[go_sem,hu]
  have m10:J 10=aa c:=by rw[hJ];simp only[go_sem,d10]
  clear hJ;refine W.seq (W.cL (fun s'=>s'.H=Hx/\s'.ρ 0=.own id g 0 n 1/\s'.ρ 1=aa a/\s'.ρ 2=aa b/\s'.ρ 3=cv/\s'.ρ 9=aa u/\s'.ρ 10=aa c/\s'.ρ 36=.lit (.bool (decide (u<b) && !decide (f (q.getD u 0)<f (q.getD (u - 1) 0))))) ?_ ?_)
  ·refine W.draw 14 [0,0,3,7,15,15,15,111,239,15,15,1039,3599,7695] Try.mixed (by kernel_rfl) (by kernel_rfl) ?_;by_cases hub:(u:Int)<b
   ·have b1:(u:Int)<n:=(by omega);have b2:((u - 1:Nat):Int)<n:=(by omega);have wj:IntKind.i64.wrap ((u:Int) - 1)=((u - 1:Nat):Int):=(by rw[IntWalk.i64_in _ (by omega)];omega);simp only[go_sem,m0,m2,m3,m9,T.live,hub,wj,T.cell (show u<n by omega),T.cell (show u - 1<n by omega),b1,b2];obtain⟨z,hz,hcc⟩:=T.ask (show u<n by omega) (show u - 1<n by omega);refine hcc _ ⟨trivial,?_⟩;have hd1:decide (u<b)=true:=decide_eq_true (by omega);rw[hd1];by_cases hlt:f (q.getD u 0)<f (q.getD (u - 1) 0)
    ·have hlt':=hz.2 hlt;simp only[go_sem,m0,m1,m2,m3,m9,m10,hlt',hlt]
     try rfl
    ·have hlt':¬ z<0:=fun h=>hlt (hz.1 h);simp only[go_sem,m0,m1,m2,m3,m9,m10,hlt',hlt]
     try rfl
   ·simp only[go_sem,m0,m1,m2,m3,m9,m10,hub];have hj0:decide (u<b)=false:=decide_eq_false (by omega);rw[hj0];rfl
  rintro⟨ρ3,Hs⟩ ⟨hHs,v0,v1,v2,v3,v9,v10,vc⟩;simp only at hHs v0 v1 v2 v3 v9 v10 vc;rw[hHs];clear hHs Hs;cases hfl:(decide (u<b) && !decide (f (q.getD u 0)<f (q.getD (u - 1) 0))) with
  | false =>
   rw[hfl]at vc;refine W.cond (t:=false) vc ?_;refine ab _ _ _ (by rfl) ?_;simp only[go_sem];refine⟨v0,v1,v2,v3,v10,u,v9,u1,u2,u3,fun h=>?_⟩;rw[decide_eq_true h,Bool.true_and,Bool.not_eq_false',decide_eq_true_iff]at hfl;exact hfl
  | true =>
   rw[hfl]at vc;refine W.cond (t:=true) vc ?_;have hfl2:u<b/\¬ f (q.getD u 0)<f (q.getD (u - 1) 0):=(by simpa using hfl);have wx:=IntWalk.i64_in ((u:Int)+1) (by omega);refine ab _ _ _ (by rfl) ?_;simp only[go_sem];refine ab _ _ _ (by rfl) ?_;simp only[go_sem,v9,wx];exact⟨⟨u+1,rfl,by omega,by omega,u3.snoc u1 hfl2.2⟩,by rw[hu];simp only[aa,aM];omega⟩
 rintro⟨ρa,Ha⟩ ⟨hHa,a0,a1,a2,a3,a10,u,a9,u1,u2,u3,u4⟩;simp only at hHa a0 a1 a2 a3 a10 a9;rw[hHa];clear hHa Ha hS;by_cases hub:(u:Int)=b
 ·refine W.seq (ab _ _ _ (by rfl) ?_);simp only[go_sem,a9,a2,hub];rw[hHx];exact av.mk (Nat.le_refl _) (hK q true hp fun _=>by rw[show b=u by omega];exact u3)
 have wba:=IntWalk.i64_in ((b:Int) - (a:Int)) (by omega);by_cases h50:(b:Int) - a<50
 ·refine W.seq (ab _ _ _ (by rfl) ?_);simp only[go_sem,a9,a2,hub];refine W.seq (ab _ _ _ (by rfl) ?_);simp only[go_sem,a1,a2,wba,h50];rw[hHx];exact av.mk (Nat.le_refl _) (hK q false hp fun h=>by cases h)
 have hlt0:=u4 (by omega);have wu:IntKind.i64.wrap ((u:Int) - 1)=((u - 1:Nat):Int):=by rw[IntWalk.i64_in _ (by omega)];omega
 have bu:(u:Int)<n:=by omega
 have bu1:((u - 1:Nat):Int)<n:=by omega
 have pl:=hp.len;rw[S.hl]at pl;refine W.seq (ab _ _ _ (by rfl) ?_);simp only[go_sem,a9,a2,hub];refine W.seq (ab _ _ _ (by rfl) ?_);simp only[go_sem,a1,a2,wba,h50];refine W.seq ?_;refine W.draw 16 [0,0,0,0,8,0,0,64,224,480,0,0,3072,7168,16355,32739] Try.mixed (by kernel_rfl) (by kernel_rfl) ?_;simp only[go_sem,a0,a9,T.live,T.len,wu,T.cell (show u<n by omega),T.cell (show u - 1<n by omega),bu,bu1,T.s1 (show u<n by omega),T.s2 (i:=u) (show u - 1<n by omega),T.iw,T.iy];refine⟨by omega,by omega,?_⟩;rw[T.u2,hHx,dQ];obtain⟨q1,hq1⟩:∃ q1,q1=cj q u (u - 1):=⟨_,rfl⟩
 have pq1:bf (u - 1) (u+1) q q1:=by rw[hq1];exact .swap (by omega) (by omega) (Nat.le_refl _) (by omega) (by omega)
 rw[<- hq1];have hp1:bf a b l q1:=hp.trans (pq1.mono (by omega) (by omega));have hS1:cZ f q1 a (u - 1):=(show cZ f q a (u - 1) from fun x y h1 h2 h3=>u3 x y h1 h2 (by omega)).keep pq1;clear hq1 pq1;refine W.env fun M hM=>?_;have r0:M 0=.own id g 0 n 1:=by rw[hM];simp only[go_sem,a0]
 have r1:M 1=aa a:=by rw[hM];simp only[go_sem,a1]
 have r2:M 2=aa b:=by rw[hM];simp only[go_sem,a2]
 have r3:M 3=cv:=by rw[hM];simp only[go_sem,a3]
 have r9:M 9=aa u:=by rw[hM];simp only[go_sem,a9]
 have r10:M 10=aa c:=by rw[hM];simp only[go_sem,a10]
 clear hM;have wua:=IntWalk.i64_in ((u:Int) - (a:Int)) (by omega);refine W.seq ?_;refine W.cL (fun s'=>s'.H=H.upd id (nB g q1)/\s'.ρ 0=.own id g 0 n 1/\s'.ρ 1=aa a/\s'.ρ 2=aa b/\s'.ρ 3=cv/\s'.ρ 9=aa u/\s'.ρ 10=aa c/\s'.ρ 65=.lit (.bool (decide ((2:Int)<=(u:Int) - a)))) ?_ ?_
 ·refine ab _ _ _ (by rfl) ?_;simp only[go_sem,r0,r1,r2,r3,r9,r10,wua]
 rintro⟨ρb,Hb⟩ ⟨hHb,c0,c1,c2,c3,c9,c10,c65⟩;simp only at hHb c0 c1 c2 c3 c9 c10 c65;rw[hHb];clear hHb Hb;have T1:=S.upd hp1.1;refine W.mono (Q:=fun ax s'=>ax=.normal/\s'.ρ 0=.own id g 0 n 1/\s'.ρ 1=aa a/\s'.ρ 2=aa b/\s'.ρ 3=cv/\s'.ρ 9=aa u/\s'.ρ 10=aa c/\∃ p,bf a b l p/\cZ f p a u/\s'.H=H.upd id (nB g p)) ?_ ?_
 ·by_cases h2:(2:Int)<=(u:Int) - a;rotate_left
  ·refine W.cond (t:=false) (by rw[show aj G0 ρb (.tmp 65)=ρb 65 from rfl,c65,decide_eq_false h2]) ?_;refine ab _ _ _ (by rfl) ?_;simp only[go_sem];exact⟨c0,c1,c2,c3,c9,c10,q1,hp1,fun x y x1 x2 x3=>by omega,rfl⟩
  refine W.cond (t:=true) (by rw[show aj G0 ρb (.tmp 65)=ρb 65 from rfl,c65,decide_eq_true h2]) ?_;refine W.seq (ab _ _ _ (by rfl) ?_);simp only[go_sem,c9,wu];refine W.env fun E4 hE4=>?_;have k0:E4 0=.own id g 0 n 1:=by rw[hE4];simp only[go_sem,c0]
  have k1:E4 1=aa a:=by rw[hE4];simp only[go_sem,c1]
  have k2:E4 2=aa b:=by rw[hE4];simp only[go_sem,c2]
  have k3:E4 3=cv:=by rw[hE4];simp only[go_sem,c3]
  have k9:E4 9=aa u:=by rw[hE4];simp only[go_sem,c9]
  have k10:E4 10=aa c:=by rw[hE4];simp only[go_sem,c10]
  have k11:E4 11=aa ((u - 1:Nat):Int):=by rw[hE4];simp only[go_sem]
  clear hE4;refine W.block ?_;refine W.aI 2535301200161310897814053586944 (by kernel_rfl) (fun ρ Hz=>∃ (j:Nat) (p:List Nat),ρ 11=aa j/\a<=j/\j<=u - 1/\bf a b l p/\kO f p a (u - 1) j/\Hz=H.upd id (nB g p)) (fun ρ Hz=>(iv (ρ 11)).toNat) ?_ ?_
  ·exact⟨u - 1,q1,k11,by omega,Nat.le_refl _,hp1,.start hS1,rfl⟩
  rintro ρ2 Hz ⟨j,p,h11,haj,hj,hpp,hIn,hHz⟩;refine W.env fun E5 hE5=>?_;have m0:E5 0=.own id g 0 n 1:=by rw[hE5];simp only[go_sem,k0]
  have m1:E5 1=aa a:=by rw[hE5];simp only[go_sem,k1]
  have m2:E5 2=aa b:=by rw[hE5];simp only[go_sem,k2]
  have m3:E5 3=cv:=by rw[hE5];simp only[go_sem,k3]
  have m9:E5 9=aa u:=by rw[hE5];simp only[go_sem,k9]
  have m10:E5 10=aa c:=by rw[hE5];simp only[go_sem,k10]
  have m11:E5 11=aa j:=by rw[hE5];simp only[go_sem,h11]
  clear hE5;have Tz:=S.upd hpp.1;rw[<- hHz]at Tz;have stop:(j<=a\/f (p.getD (j - 1) 0)<=f (p.getD j 0))->cZ f p a u:=fun h=>by
   have:=hIn.done hj h
   rwa [show u - 1+1=u by omega]at this
  by_cases hj1:(j:Int) >= 1;rotate_left
  ·refine ab _ _ _ (by rfl) ?_;simp only[go_sem,m11,hj1];exact⟨m0,m1,m2,m3,m9,m10,p,hpp,stop (.inl (by omega)),hHz⟩
  have wj:IntKind.i64.wrap ((j:Int) - 1)=((j - 1:Nat):Int):=by rw[IntWalk.i64_in _ (by omega)];omega
  have jn:j<n:=by omega
  have b1:(j:Int)<n:=by omega
  have b2:((j - 1:Nat):Int)<n:=by omega
  refine W.seq (ab _ _ _ (by rfl) ?_);simp only[go_sem,m11,hj1];refine W.seq (W.block ?_);refine W.seq (W.cL (fun s'=>s'.H=Hz/\s'.ρ 0=.own id g 0 n 1/\s'.ρ 1=aa a/\s'.ρ 2=aa b/\s'.ρ 3=cv/\s'.ρ 9=aa u/\s'.ρ 10=aa c/\s'.ρ 11=aa j/\s'.ρ 84=.lit (.bool (!decide (f (p.getD j 0)<f (p.getD (j - 1) 0))))) ?_ ?_)
  ·refine W.draw 10 [0,0,0,6,14,0,0,64,224,480] Try.mixed (by kernel_rfl) (by kernel_rfl) ?_;simp only[go_sem,m0,m3,m11,Tz.live,wj,Tz.cell jn,Tz.cell (show j - 1<n by omega),b1,b2];obtain⟨z,hz,hcc⟩:=Tz.ask jn (show j - 1<n by omega);refine hcc _ ⟨trivial,?_⟩;by_cases hlt:f (p.getD j 0)<f (p.getD (j - 1) 0)
   ·have hlt':=hz.2 hlt;simp only[go_sem,m0,m1,m2,m3,m9,m10,m11,hlt',hlt]
   ·have hlt':¬ z<0:=fun h=>hlt (hz.1 h);simp only[go_sem,m0,m1,m2,m3,m9,m10,m11,hlt',hlt]
  rintro⟨ρ3,Hs⟩ ⟨hHs,v0,v1,v2,v3,v9,v10,v11,vc⟩;simp only at hHs v0 v1 v2 v3 v9 v10 v11 vc;rw[hHs];clear hHs Hs;by_cases hlt:f (p.getD j 0)<f (p.getD (j - 1) 0);rotate_left
  ·rw[decide_eq_false hlt]at vc;refine W.cond (t:=true) vc ?_;refine ab _ _ _ (by rfl) ?_;simp only[go_sem];exact⟨v0,v1,v2,v3,v9,v10,p,hpp,stop (.inr (by omega)),hHz⟩
  rw[decide_eq_true hlt]at vc;have haj2:a<j:=by
   rcases Nat.lt_or_ge a j with h|h
   ·exact h
   ·have e:j=a:=(by omega);rcases hB.perm hpp (by rw[S.hl];exact hb) with h3|h3
    ·omega
    ·have:=h3 j (by omega) (by omega);rw[e]at this hlt;omega
  have pl2:=hpp.len;rw[S.hl]at pl2;refine W.cond (t:=false) vc ?_;refine ab _ _ _ (by rfl) ?_;simp only[go_sem];refine W.draw 16 [0,0,0,0,8,0,0,64,224,480,0,0,3072,7168,16355,32739] Try.mixed (by kernel_rfl) (by kernel_rfl) ?_;simp only[go_sem,v0,v11,Tz.live,Tz.len,wj,Tz.cell jn,Tz.cell (show j - 1<n by omega),b1,b2,Tz.s1 jn,Tz.s2 (i:=j) (show j - 1<n by omega),Tz.iw,Tz.iy];refine⟨by omega,by omega,?_⟩
  try rw[Tz.u2]
  refine ab _ _ _ (by rfl) ?_;simp only[go_sem,v11,wj];refine⟨by simp only[aA];rw[hHz];exact Nat.le_refl _,⟨j - 1,cj p j (j - 1),rfl,by omega,by omega,hpp.trans (.swap (by omega) (by omega) (by omega) (by omega) (by rw[pl2];exact hb)),hIn.step hj (by omega) haj2 hlt,?_⟩,by rw[h11];simp only[aa,aM];omega⟩;rw[hHz,dQ]
 rintro ax ⟨ρc,Hc⟩ ⟨hax,x0,x1,x2,x3,x9,x10,p,hpp,hSp,hHc⟩;simp only at x0 x1 x2 x3 x9 x10 hHc;subst hax;rw[hHc];clear hHc Hc hp1 hS1 T1;have wbu:=IntWalk.i64_in ((b:Int) - (u:Int)) (by omega);refine W.cL (fun s'=>s'.H=H.upd id (nB g p)/\s'.ρ 0=.own id g 0 n 1/\s'.ρ 2=aa b/\s'.ρ 3=cv/\s'.ρ 9=aa u/\s'.ρ 10=aa c/\s'.ρ 104=.lit (.bool (decide ((2:Int)<=(b:Int) - u)))) ?_ ?_
 ·refine ab _ _ _ (by rfl) ?_;simp only[go_sem,x0,x2,x3,x9,x10,wbu]
 rintro⟨ρd,Hd⟩ ⟨hHd,c0,c2,c3,c9,c10,c104⟩;simp only at hHd c0 c2 c3 c9 c10 c104;rw[hHd];clear hHd Hd;refine W.mono (Q:=fun ax s'=>ax=.normal/\s'.ρ 9=aa u/\s'.ρ 10=aa c/\∃ p,bf a b l p/\cZ f p a u/\s'.H=H.upd id (nB g p)) ?_ ?_
 ·by_cases h2:(2:Int)<=(b:Int) - u;rotate_left
  ·refine W.cond (t:=false) (by rw[show aj G0 ρd (.tmp 104)=ρd 104 from rfl,c104,decide_eq_false h2]) ?_;refine ab _ _ _ (by rfl) ?_;simp only[go_sem];exact⟨c9,c10,p,hpp,hSp,rfl⟩
  refine W.cond (t:=true) (by rw[show aj G0 ρd (.tmp 104)=ρd 104 from rfl,c104,decide_eq_true h2]) ?_;have wu1:IntKind.i64.wrap ((u:Int)+1)=((u+1:Nat):Int):=by rw[IntWalk.i64_in _ (by omega)];omega
  refine W.seq (ab _ _ _ (by rfl) ?_);simp only[go_sem,c9,wu1];refine W.env fun E4 hE4=>?_;have k0:E4 0=.own id g 0 n 1:=by rw[hE4];simp only[go_sem,c0]
  have k2:E4 2=aa b:=by rw[hE4];simp only[go_sem,c2]
  have k3:E4 3=cv:=by rw[hE4];simp only[go_sem,c3]
  have k9:E4 9=aa u:=by rw[hE4];simp only[go_sem,c9]
  have k10:E4 10=aa c:=by rw[hE4];simp only[go_sem,c10]
  have k12:E4 12=aa ((u+1:Nat):Int):=by rw[hE4];simp only[go_sem]
  clear hE4;refine W.block ?_;refine W.aI 2787593149654068615862751420689467177963520 (by kernel_rfl) (fun ρ Hz=>∃ (j:Nat) (p:List Nat),ρ 12=aa j/\u<j/\j<=b/\bf a b l p/\cZ f p a u/\Hz=H.upd id (nB g p)) (fun ρ Hz=>b - (iv (ρ 12)).toNat) ?_ ?_
  ·exact⟨u+1,p,k12,by omega,by omega,hpp,hSp,rfl⟩
  clear hpp hSp c0 c2 c3 c9 c10 c104 x0 x1 x2 x3 x9 x10;rintro ρ2 Hz ⟨j,p,h12,huj,hj,hpp,hSp,hHz⟩;refine W.env fun E5 hE5=>?_;have m0:E5 0=.own id g 0 n 1:=by rw[hE5];simp only[go_sem,k0]
  have m2:E5 2=aa b:=by rw[hE5];simp only[go_sem,k2]
  have m3:E5 3=cv:=by rw[hE5];simp only[go_sem,k3]
  have m9:E5 9=aa u:=by rw[hE5];simp only[go_sem,k9]
  have m10:E5 10=aa c:=by rw[hE5];simp only[go_sem,k10]
  have m12:E5 12=aa j:=by rw[hE5];simp only[go_sem,h12]
  clear hE5;have Tz:=S.upd hpp.1;rw[<- hHz]at Tz;by_cases hjb:(j:Int)<b;rotate_left
  ·refine ab _ _ _ (by rfl) ?_;simp only[go_sem,m12,m2,hjb];exact⟨m9,m10,p,hpp,hSp,hHz⟩
  have wj:IntKind.i64.wrap ((j:Int) - 1)=((j - 1:Nat):Int):=by rw[IntWalk.i64_in _ (by omega)];omega
  have wj1:=IntWalk.i64_in ((j:Int)+1) (by omega);have jn:j<n:=by omega
  have b1:(j:Int)<n:=by omega
  have b2:((j - 1:Nat):Int)<n:=by omega
  refine W.seq (ab _ _ _ (by rfl) ?_);simp only[go_sem,m12,m2,hjb];refine W.seq (W.block ?_);refine W.seq (W.cL (fun s'=>s'.H=Hz/\s'.ρ 0=.own id g 0 n 1/\s'.ρ 9=aa u/\s'.ρ 10=aa c/\s'.ρ 12=aa j/\s'.ρ 124=.lit (.bool (!decide (f (p.getD j 0)<f (p.getD (j - 1) 0))))) ?_ ?_)
  ·refine W.draw 10 [0,0,0,6,14,0,0,64,224,480] Try.mixed (by kernel_rfl) (by kernel_rfl) ?_;simp only[go_sem,m0,m3,m12,Tz.live,wj,Tz.cell jn,Tz.cell (show j - 1<n by omega),b1,b2];obtain⟨z,hz,hcc⟩:=Tz.ask jn (show j - 1<n by omega);refine hcc _ ⟨trivial,?_⟩;by_cases hlt:f (p.getD j 0)<f (p.getD (j - 1) 0)
   ·have hlt':=hz.2 hlt;simp only[go_sem,m0,m3,m9,m10,m12,hlt',hlt]
   ·have hlt':¬ z<0:=fun h=>hlt (hz.1 h);simp only[go_sem,m0,m3,m9,m10,m12,hlt',hlt]
  rintro⟨ρ3,Hs⟩ ⟨hHs,v0,v9,v10,v12,vc⟩;simp only at hHs v0 v9 v10 v12 vc;rw[hHs];clear hHs Hs;by_cases hlt:f (p.getD j 0)<f (p.getD (j - 1) 0);rotate_left
  ·rw[decide_eq_false hlt]at vc;refine W.cond (t:=true) vc ?_;refine ab _ _ _ (by rfl) ?_;simp only[go_sem];exact⟨v9,v10,p,hpp,hSp,hHz⟩
  rw[decide_eq_true hlt]at vc;have pl2:=hpp.len;rw[S.hl]at pl2;have sw:bf u b p (cj p j (j - 1)):=.swap (by omega) (by omega) (by omega) (by omega) (by rw[pl2];exact hb);refine W.cond (t:=false) vc ?_;refine ab _ _ _ (by rfl) ?_;simp only[go_sem];refine W.draw 16 [0,0,0,0,8,0,0,64,224,480,0,0,3072,7168,16355,32739] Try.mixed (by kernel_rfl) (by kernel_rfl) ?_;simp only[go_sem,v0,v12,Tz.live,Tz.len,wj,Tz.cell jn,Tz.cell (show j - 1<n by omega),b1,b2,Tz.s1 jn,Tz.s2 (i:=j) (show j - 1<n by omega),Tz.iw,Tz.iy];refine⟨by omega,by omega,?_⟩
  try rw[Tz.u2]
  refine ab _ _ _ (by rfl) ?_;simp only[go_sem,v12,wj1];refine⟨by simp only[aA];rw[hHz];exact Nat.le_refl _,⟨j+1,cj p j (j - 1),rfl,by omega,by omega,hpp.trans (sw.mono (by omega) (Nat.le_refl _)),hSp.keep sw,?_⟩,by rw[h12];simp only[aa,aM];omega⟩;rw[hHz,dQ]
 rintro ax ⟨ρe,He⟩ ⟨hax,y9,y10,p',hpp',hSp',hHe⟩;simp only at y9 y10 hHe;subst hax;rw[hHe];show W _ _ _ _ _ _ _;refine ab _ _ _ (by rfl) ?_;simp only[go_sem,y10,wc];exact⟨Nat.le_refl _,⟨c+1,u,p',y9,rfl,by omega,u1,u2,hpp',hSp',rfl⟩,by rw[h10];simp only[aa,aM];omega⟩
end
end Go.Proofs
namespace Go.Proofs
open Go.Hx
section
variable {cv:AVal} {f:Nat->Nat} {rid:Nat} {rb:Blk} {id g n a:Nat} {l:List Nat} {H:AHeap}
set_option maxHeartbeats 16000000 in
theorem Dp {lo hi:Nat}(S:SH cv f rid rb id g n l H)(hb:a+hi<=n)(hl0:lo<=hi)(hh:gT f l a (lo+1) hi)(K:ARes->AHeap->Prop)(hK:∀ q,bf (a+lo) (a+hi) l q->gT f q a lo hi->K (.ret (.tup [])) (H.upd id (nB g q))):
  ae Try.prog G0 107 [.own id g 0 n 1,aa lo,aa hi,aa a,cv] H K:=by
 have hn:=S.hn;refine ae.cD (n:=82) (rs:=[]) Try.func107 rfl rfl rfl (by decide) (by simp) ?_;refine W.seq (ab _ _ _ (by rfl) ?_);simp only[go_sem];refine W.env fun E hE=>?_;have e0:E 0=.own id g 0 n 1:=by rw[hE];simp only[go_sem]
 have e2:E 2=aa hi:=by rw[hE];simp only[go_sem]
 have e3:E 3=aa a:=by rw[hE];simp only[go_sem]
 have e4:E 4=cv:=by rw[hE];simp only[go_sem]
 have e10:E 10=aa lo:=by rw[hE];simp only[go_sem]
 clear hE;refine W.block ?_;refine W.aI 4835703278458516698819584 (by kernel_rfl) (fun ρ Hx=>∃ (r:Nat) (q:List Nat),ρ 10=aa r/\lo<=r/\(r<hi\/r=lo)/\bf (a+lo) (a+hi) l q/\md f q a lo hi r/\Hx=H.upd id (nB g q)) (fun ρ Hx=>hi+1 - (iv (ρ 10)).toNat) ?_ ?_
 ·exact⟨lo,l,e10,Nat.le_refl _,.inr rfl,.refl _ _ _,.start hh,S.self.symm⟩
 rintro ρ Hx ⟨r,q,h10,hlr,hrh,hp,hI,hHx⟩;refine W.env fun F hF=>?_;have d0:F 0=.own id g 0 n 1:=by rw[hF];simp only[go_sem,e0]
 have d2:F 2=aa hi:=by rw[hF];simp only[go_sem,e2]
 have d3:F 3=aa a:=by rw[hF];simp only[go_sem,e3]
 have d4:F 4=cv:=by rw[hF];simp only[go_sem,e4]
 have d10:F 10=aa r:=by rw[hF];simp only[go_sem,h10]
 clear hF;have T:=S.upd hp.1;rw[<- hHx]at T;have wm:IntKind.i64.wrap (2*(r:Int))=((2*r:Nat):Int):=by rw[IntWalk.i64_in _ (by omega)];omega
 have wc:IntKind.i64.wrap (((2*r:Nat):Int)+1)=((2*r+1:Nat):Int):=by rw[IntWalk.i64_in _ (by omega)];omega
 obtain⟨c,hc⟩:∃ c,c=2*r+1:=⟨_,rfl⟩
 rw[<- hc]at wc;by_cases hce:(c:Int) >= hi
 ·refine W.block ?_;refine W.seq (ab _ _ _ (by rfl) ?_);simp only[go_sem,d10,wm,wc];refine ab _ _ _ (by rfl) ?_;simp only[go_sem,d2,hce];rw[hHx];exact av.mk (Nat.le_refl _) (hK q hp (hI.done fun k k1 k2=>by unfold dV at k1;omega))
 refine W.block ?_;refine W.seq (ab _ _ _ (by rfl) ?_);simp only[go_sem,d10,wm,wc];refine W.seq (ab _ _ _ (by rfl) ?_);simp only[go_sem,d2,hce];refine W.env fun J hJ=>?_;have m0:J 0=.own id g 0 n 1:=by rw[hJ];simp only[go_sem,d0]
 have m2:J 2=aa hi:=by rw[hJ];simp only[go_sem,d2]
 have m3:J 3=aa a:=by rw[hJ];simp only[go_sem,d3]
 have m4:J 4=cv:=by rw[hJ];simp only[go_sem,d4]
 have m10:J 10=aa r:=by rw[hJ];simp only[go_sem,d10]
 have m11:J 11=aa c:=by rw[hJ];simp only[go_sem]
 clear hJ;have wc1:IntKind.i64.wrap ((c:Int)+1)=((c+1:Nat):Int):=by rw[IntWalk.i64_in _ (by omega)];omega
 have wac:IntKind.i64.wrap ((a:Int)+(c:Int))=((a+c:Nat):Int):=by rw[IntWalk.i64_in _ (by omega)];omega
 have wac1:IntKind.i64.wrap (((a+c:Nat):Int)+1)=((a+c+1:Nat):Int):=by rw[IntWalk.i64_in _ (by omega)];omega
 have bc:((a+c:Nat):Int)<n:=by omega
 refine W.seq (W.mono (Q:=fun ax s'=>ax=.normal/\s'.H=Hx/\s'.ρ 0=.own id g 0 n 1/\s'.ρ 2=aa hi/\s'.ρ 3=aa a/\s'.ρ 4=cv/\s'.ρ 10=aa r/\∃ d:Nat,s'.ρ 11=aa d/\dV r d/\d<hi/\∀ e,dV r e->e<hi->f (q.getD (a+e) 0)<=f (q.getD (a+d) 0)) ?_ ?_)
 ·refine W.cL (fun s'=>s'.H=Hx/\s'.ρ 0=.own id g 0 n 1/\s'.ρ 2=aa hi/\s'.ρ 3=aa a/\s'.ρ 4=cv/\s'.ρ 10=aa r/\s'.ρ 11=aa c/\s'.ρ 40=.lit (.bool (decide (c+1<hi) && decide (f (q.getD (a+c) 0)<f (q.getD (a+c+1) 0))))) ?_ ?_
  ·refine W.draw 19 [0,1,0,7,15,31,31,31,31,415,991,2015,31,31,31,24607,57375,127007,258079] Try.mixed (by kernel_rfl) (by kernel_rfl) ?_;by_cases hub:((c+1:Nat):Int)<hi
   ·have b2:((a+c+1:Nat):Int)<n:=(by omega);simp only[go_sem,m0,m2,m3,m4,m11,T.live,hub,wc1,wac,wac1,T.cell (show a+c<n by omega),T.cell (show a+c+1<n by omega),bc,b2];obtain⟨z,hz,hcc⟩:=T.ask (show a+c<n by omega) (show a+c+1<n by omega);refine hcc _ ⟨trivial,?_⟩;have hd1:decide (c+1<hi)=true:=decide_eq_true (by omega);rw[hd1];by_cases hlt:f (q.getD (a+c) 0)<f (q.getD (a+c+1) 0)
    ·have hlt':=hz.2 hlt;simp only[go_sem,m0,m2,m3,m4,m10,m11,hlt',hlt]
     try rfl
    ·have hlt':¬ z<0:=fun h=>hlt (hz.1 h);simp only[go_sem,m0,m2,m3,m4,m10,m11,hlt',hlt]
     try rfl
   ·simp only[go_sem,m0,m2,m3,m4,m10,m11,hub,wc1];have hj0:decide (c+1<hi)=false:=decide_eq_false (by omega);rw[hj0];rfl
  rintro⟨ρ3,Hs⟩ ⟨hHs,v0,v2,v3,v4,v10,v11,vc⟩;simp only at hHs v0 v2 v3 v4 v10 v11 vc;rw[hHs];clear hHs Hs;cases hfl:(decide (c+1<hi) && decide (f (q.getD (a+c) 0)<f (q.getD (a+c+1) 0))) with
  | false =>
   rw[hfl]at vc;refine W.cond (t:=false) vc ?_;refine ab _ _ _ (by rfl) ?_;simp only[go_sem];refine⟨v0,v2,v3,v4,v10,c,v11,.inl hc,by omega,fun e e1 e2=>?_⟩;rcases e1 with e1|e1
   ·rw[show e=c by omega];exact Nat.le_refl _
   ·rw[decide_eq_true (show c+1<hi by omega),Bool.true_and,decide_eq_false_iff_not]at hfl;rw[show a+e=a+c+1 by omega];omega
  | true =>
   rw[hfl]at vc;refine W.cond (t:=true) vc ?_;have hfl2:c+1<hi/\f (q.getD (a+c) 0)<f (q.getD (a+c+1) 0):=(by simpa using hfl);refine ab _ _ _ (by rfl) ?_;simp only[go_sem,v11,wc1];refine⟨v0,v2,v3,v4,v10,c+1,rfl,.inr (by omega),by omega,fun e e1 e2=>?_⟩;rcases e1 with e1|e1
   ·rw[show e=c by omega,<- Nat.add_assoc];omega
   ·rw[show e=c+1 by omega];exact Nat.le_refl _
 rintro ax ⟨ρa,Ha⟩ ⟨hax,hHa,a0,a2,a3,a4,a10,d,a11,kd,dh,dm⟩;simp only at hHa a0 a2 a3 a4 a10 a11;subst hax;rw[hHa];clear hHa Ha;show W _ _ _ _ _ _ _;have rd:r<d:=by unfold dV at kd;omega
 have war:IntKind.i64.wrap ((a:Int)+(r:Int))=((a+r:Nat):Int):=by rw[IntWalk.i64_in _ (by omega)];omega
 have wad:IntKind.i64.wrap ((a:Int)+(d:Int))=((a+d:Nat):Int):=by rw[IntWalk.i64_in _ (by omega)];omega
 have br:((a+r:Nat):Int)<n:=by omega
 have bd:((a+d:Nat):Int)<n:=by omega
 have rn:a+r<n:=by omega
 have dn:a+d<n:=by omega
 refine W.seq (W.cL (fun s'=>s'.H=Hx/\s'.ρ 0=.own id g 0 n 1/\s'.ρ 3=aa a/\s'.ρ 10=aa r/\s'.ρ 11=aa d/\s'.ρ 58=.lit (.bool (!decide (f (q.getD (a+r) 0)<f (q.getD (a+d) 0))))) ?_ ?_)
 ·refine W.draw 13 [0,0,0,0,12,30,62,0,0,0,768,1920,3968] Try.mixed (by kernel_rfl) (by kernel_rfl) ?_;simp only[go_sem,a0,a3,a4,a10,a11,T.live,war,wad,T.cell rn,T.cell dn,br,bd];obtain⟨z,hz,hcc⟩:=T.ask rn dn;refine hcc _ ⟨trivial,?_⟩;by_cases hlt:f (q.getD (a+r) 0)<f (q.getD (a+d) 0)
  ·have hlt':=hz.2 hlt;simp only[go_sem,a0,a3,a4,a10,a11,hlt',hlt]
  ·have hlt':¬ z<0:=fun h=>hlt (hz.1 h);simp only[go_sem,a0,a3,a4,a10,a11,hlt',hlt]
 rintro⟨ρ4,Hs⟩ ⟨hHs,v0,v3,v10,v11,vc⟩;simp only at hHs v0 v3 v10 v11 vc;rw[hHs];clear hHs Hs;by_cases hlt:f (q.getD (a+r) 0)<f (q.getD (a+d) 0);rotate_left
 ·rw[decide_eq_false hlt]at vc;refine W.cond (t:=true) vc ?_;refine ab _ _ _ (by rfl) ?_;simp only[go_sem];rw[hHx];exact av.mk (Nat.le_refl _) (hK q hp (hI.done fun e e1 e2=>by have:=dm e e1 e2;omega))
 rw[decide_eq_true hlt]at vc;have pl:=hp.len;rw[S.hl]at pl;refine W.cond (t:=false) vc ?_;refine ab _ _ _ (by rfl) ?_;simp only[go_sem];refine W.seq ?_;refine W.draw 22 [0,0,0,6,0,0,0,96,0,0,0,1536,3840,7936,0,0,0,98304,245760,507904,1048335,2096911] Try.mixed (by kernel_rfl) (by kernel_rfl) ?_;simp only[go_sem,v0,v3,v10,v11,T.live,T.len,war,wad,T.cell rn,T.cell dn,br,bd,T.s1 rn,T.s2 (i:=a+r) dn,T.iw,T.iy];refine⟨by omega,by omega,?_⟩
 try rw[T.u2]
 refine ab _ _ _ (by rfl) ?_;simp only[go_sem,v11];refine⟨by simp only[aA];rw[hHx];exact Nat.le_refl _,⟨d,cj q (a+r) (a+d),rfl,by omega,.inl dh,hp.trans (.swap (by omega) (by omega) (by omega) (by omega) (by omega)),hI.step hlr (by omega) kd dh dm (Nat.le_of_lt hlt),?_⟩,by rw[h10];simp only[aa,aM];omega⟩;rw[hHx,dQ]
end
end Go.Proofs
namespace Go.Proofs
open Go.Hx
section
variable {cv:AVal} {f:Nat->Nat} {rid:Nat} {rb:Blk} {id g n a b:Nat} {l:List Nat} {H:AHeap}
set_option maxHeartbeats 16000000 in
theorem PY (S:SH cv f rid rb id g n l H)(hab:a<b)(hb:b<=n)(K:ARes->AHeap->Prop)(hK:∀ q,bf a b l q->cZ f q a b->K (.ret (.tup [])) (H.upd id (nB g q))):
  ae Try.prog G0 97 [.own id g 0 n 1,aa a,aa b,cv] H K:=by
 have hn:=S.hn;have w0:IntKind.i64.wrap ((b:Int) - (a:Int))=((b - a:Nat):Int):=by rw[IntWalk.i64_in _ (by omega)];omega
 have w1:IntKind.i64.wrap (((b - a:Nat):Int) - 1)=((b - a - 1:Nat):Int):=by rw[IntWalk.i64_in _ (by omega)];omega
 have w2:(((b - a - 1:Nat):Int)).tdiv 2=(((b - a - 1) / 2:Nat):Int):=by rw[Int.tdiv_eq_ediv_of_nonneg (by omega)];push_cast;rfl
 have w3:IntKind.i64.wrap (((b - a - 1) / 2:Nat):Int)=(((b - a - 1) / 2:Nat):Int):=IntWalk.i64_in _ (by omega);refine ae.cD (n:=60) (rs:=[]) Try.func97 rfl rfl rfl (by decide) (by simp) ?_;refine W.seq (ab _ _ _ (by rfl) ?_);simp only[go_sem];refine W.seq (ab _ _ _ (by rfl) ?_);simp only[go_sem];refine W.seq (ab _ _ _ (by rfl) ?_);simp only[go_sem,w0];refine W.seq (ab _ _ _ (by rfl) ?_);simp only[go_sem,w1,w2,w3];refine W.env fun E hE=>?_;have e0:E 0=.own id g 0 n 1:=by rw[hE];simp only[go_sem]
 have e3:E 3=cv:=by rw[hE];simp only[go_sem]
 have e8:E 8=aa a:=by rw[hE];simp only[go_sem]
 have e9:E 9=aa 0:=by rw[hE];simp only[go_sem]
 have e10:E 10=aa ((b - a:Nat):Int):=by rw[hE];simp only[go_sem]
 have e11:E 11=aa (((b - a - 1) / 2:Nat):Int):=by rw[hE];simp only[go_sem]
 clear hE;refine W.aI 1072695296 (by kernel_rfl) (fun ρ Hx=>∃ (k:Nat) (q:List Nat),ρ 11=aa ((k:Int) - 1)/\k<=b - a/\bf a b l q/\gT f q a k (b - a)/\Hx=H.upd id (nB g q)) (fun ρ Hx=>(iv (ρ 11)+1).toNat) ?_ ?_
 ·exact⟨(b - a - 1) / 2+1,l,e11.trans (by congr 3;omega),by omega,.refl _ _ _,.PT (by omega),S.self.symm⟩
 rintro ρ Hx ⟨k,q,h11,hk,hp,hh,hHx⟩;refine W.env fun F hF=>?_;have d0:F 0=.own id g 0 n 1:=by rw[hF];simp only[go_sem,e0]
 have d3:F 3=cv:=by rw[hF];simp only[go_sem,e3]
 have d8:F 8=aa a:=by rw[hF];simp only[go_sem,e8]
 have d9:F 9=aa 0:=by rw[hF];simp only[go_sem,e9]
 have d10:F 10=aa ((b - a:Nat):Int):=by rw[hF];simp only[go_sem,e10]
 have d11:F 11=aa ((k:Int) - 1):=by rw[hF];simp only[go_sem,h11]
 clear hF;have T:=S.upd hp.1;rw[<- hHx]at T;by_cases hk0:(k:Int) - 1 >= 0
 ·obtain⟨i,rfl⟩:∃ i,k=i+1:=⟨k - 1,by omega⟩
  have ei:((i+1:Nat):Int) - 1=(i:Int):=by omega
  rw[ei]at d11 hk0 h11;have wi:=IntWalk.i64_in ((i:Int) - 1) (by omega);refine W.seq (ab _ _ _ (by rfl) ?_);simp only[go_sem,d11,hk0];refine W.seq (W.block ?_);refine ab _ _ _ (by rfl) ?_;simp only[go_sem,d0,d3,d8,d10,d11];refine aw.clo (Dp (hi:=b - a) T (by omega) (by omega) hh _ fun q' hq' hh'=>⟨trivial,?_⟩);simp only[go_sem];refine ab _ _ _ (by rfl) ?_;simp only[go_sem,d11,wi];refine⟨by rw[hHx];exact Nat.le_refl _,⟨i,q',rfl,by omega,hp.trans (hq'.mono (by omega) (by omega)),hh',?_⟩,by rw[h11];simp only[aa,aM];omega⟩;rw[hHx,dQ]
 refine ab _ _ _ (by rfl) ?_;simp only[go_sem,d11,hk0];obtain rfl:k=0:=by omega
 refine W.seq (ab _ _ _ (by rfl) ?_);simp only[go_sem,d10,w1];refine W.env fun J hJ=>?_;have m0:J 0=.own id g 0 n 1:=by rw[hJ];simp only[go_sem,d0]
 have m3:J 3=cv:=by rw[hJ];simp only[go_sem,d3]
 have m8:J 8=aa a:=by rw[hJ];simp only[go_sem,d8]
 have m9:J 9=aa 0:=by rw[hJ];simp only[go_sem,d9]
 have m10:J 10=aa ((b - a:Nat):Int):=by rw[hJ];simp only[go_sem,d10]
 have m12:J 12=aa ((b - a - 1:Nat):Int):=by rw[hJ];simp only[go_sem]
 clear hJ;refine W.block ?_;refine W.aI 1152921500311883776 (by kernel_rfl) (fun ρ Hz=>∃ (k:Nat) (p:List Nat),ρ 12=aa ((k:Int) - 1)/\k<=b - a/\bf a b l p/\gT f p a 0 k/\me f p a (a+k) b/\Hz=H.upd id (nB g p)) (fun ρ Hz=>(iv (ρ 12)+1).toNat) ?_ ?_
 ·exact⟨b - a,q,m12.trans (by congr 3;omega),Nat.le_refl _,hp,hh,by rw[show a+(b - a)=b by omega];exact .start,hHx⟩
 rintro ρ2 Hz ⟨k,p,h12,hkb,hpp,hhp,hPI,hHz⟩;refine W.env fun M hM=>?_;have u0:M 0=.own id g 0 n 1:=by rw[hM];simp only[go_sem,m0]
 have u3:M 3=cv:=by rw[hM];simp only[go_sem,m3]
 have u8:M 8=aa a:=by rw[hM];simp only[go_sem,m8]
 have u9:M 9=aa 0:=by rw[hM];simp only[go_sem,m9]
 have u10:M 10=aa ((b - a:Nat):Int):=by rw[hM];simp only[go_sem,m10]
 have u12:M 12=aa ((k:Int) - 1):=by rw[hM];simp only[go_sem,h12]
 clear hM;have Tz:=S.upd hpp.1;rw[<- hHz]at Tz;by_cases hk1:(k:Int) - 1 >= 0;rotate_left
 ·refine ab _ _ _ (by rfl) ?_;simp only[go_sem,u12,hk1];obtain rfl:k=0:=by omega
  rw[hHz];exact av.mk (Nat.le_refl _) (hK p hpp hPI.done)
 obtain⟨i,rfl⟩:∃ i,k=i+1:=⟨k - 1,by omega⟩
 have ei:((i+1:Nat):Int) - 1=(i:Int):=by omega
 rw[ei]at u12 hk1 h12;have wi:=IntWalk.i64_in ((i:Int) - 1) (by omega);have wai:IntKind.i64.wrap ((a:Int)+(i:Int))=((a+i:Nat):Int):=by rw[IntWalk.i64_in _ (by omega)];omega
 have an:a<n:=by omega
 have ain:a+i<n:=by omega
 have ba:(a:Int)<n:=by omega
 have bai:((a+i:Nat):Int)<n:=by omega
 have pl:=hpp.len;rw[S.hl]at pl;refine W.seq (ab _ _ _ (by rfl) ?_);simp only[go_sem,u12,hk1];refine W.seq (W.block (W.seq ?_));refine W.draw 18 [0,0,0,0,0,24,0,0,0,384,960,1984,0,0,12288,28672,65475,131011] Try.mixed (by kernel_rfl) (by kernel_rfl) ?_;simp only[go_sem,u0,u8,u12,Tz.live,Tz.len,wai,Tz.cell an,Tz.cell ain,ba,bai,Tz.s1 an,Tz.s2 (i:=a) ain,Tz.iw,Tz.iy];refine⟨by omega,by omega,?_⟩
 try rw[Tz.u2]
 have sw:bf a b p (cj p a (a+i)):=.swap (Nat.le_refl _) (by omega) (by omega) (by omega) (by omega);have Ts:=Tz.upd sw.1;refine ab _ _ _ (by rfl) ?_;simp only[go_sem,u0,u3,u8,u9,u12];refine aw.clo (Dp (lo:=0) (hi:=i) Ts (by omega) (by omega) (hhp.pop (by omega)) _ fun q' hq' hh'=>⟨trivial,?_⟩);simp only[go_sem];refine ab _ _ _ (by rfl) ?_;simp only[go_sem,u12,wi];refine⟨by simp only[aA];rw[hHz,hHx];exact Nat.le_refl _,⟨i,q',rfl,by omega,hpp.trans (sw.trans (hq'.mono (by omega) (by omega))),hh',hPI.step hhp (by omega) (by omega) hq',?_⟩,by rw[h12];simp only[aa,aM];omega⟩;rw[hHz,dQ,dQ]
end
end Go.Proofs
