/-
  Rounding: which places get one more. Plain: no program stands in this text. No conditions.
-/
import Derived.Test.YtakancljiekbhaaDoorLibC
import Derived.Test.YtakancljiekbhaaDoorConA
set_option linter.all false
namespace Go.Proofs
def before (r:Nat->Int)(i j:Nat):Prop:=r j<r i\/(r i=r j/\i<j)
theorem TO {r:Nat->Int}{i j:Nat}(h:before r i j):¬ before r j i:=fun k=>by unfold before at *;omega
theorem FZ {r:Nat->Int}{i j:Nat}(h:i≠j):before r i j\/before r j i:=by unfold before;omega
structure Top (r:Nat->Int)(n k:Nat)(M:Nat->Bool):Prop where
 count:(List.range n).countP M=k
 first:∀ i j,i<n->j<n->M i=true->M j=false->before r i j
theorem TP {l:List Nat}{p q:Nat->Bool}(h:∀ x∈l,p x=true->q x=true){a:Nat}(ha:a∈l)(hp:p a=false)(hq:q a=true):l.countP p<l.countP q:=by
 induction l with
 | nil=>cases ha
 | cons x l ih =>
  have hm:l.countP p<=l.countP q:=Y5 fun y hy=>h y (by simp [hy]);rcases List.mem_cons.1 ha with rfl|ha
  ·rw[Wr,Wr,hp,hq];simp;omega
  ·have:=ih (fun y hy=>h y (by simp [hy])) ha;have hx:=h x (by simp);rw[Wr,Wr];cases hpx:p x
   ·simp;omega
   ·rw[hx hpx];simp;omega
theorem Top.unique {r:Nat->Int}{n k:Nat}{M M':Nat->Bool}(h:Top r n k M)(h':Top r n k M'):∀ i,i<n->M i=M' i:=by
 have key:∀ {M M':Nat->Bool},Top r n k M->Top r n k M'->∀ i,i<n->M i=true->M' i=true:=by
  intro M M' h h' i hi hm;rcases Wf (M' i) with e|e
  ·exact e
    -- some place of M' is not in M
  have:∃ j,j<n/\M' j=true/\M j=false:=by
   refine V2 fun hno=>?_;have hsub:∀ x∈List.range n,M' x=true->M x=true:=fun x hx hx'=>by
    rcases Wf (M x) with e|e
    ·exact e
    ·exact absurd ⟨x,VJ.1 hx,hx',e⟩ hno
   have:=TP hsub (VJ.2 hi) e hm;rw[h.count,h'.count]at this;omega
  obtain⟨j,hj,a,b⟩:=this;exact absurd (h'.first j i hj hi a e) (TO (h.first i j hi hj hm b))
 intro i hi;have a:=key h h' i hi;have b:=key h' h i hi;cases h1:M i<;>cases h2:M' i<;>simp_all
theorem Top.zero {r:Nat->Int}{n:Nat}:Top r n 0 (fun _=>false):=⟨by simp,fun _ _ _ _ h=>by cases h⟩
theorem Top.step {r:Nat->Int}{n k b:Nat}{M:Nat->Bool}(h:Top r n k M)(hb:b<n)(hm:M b=false)(hmin:∀ j,j<n->M j=false->j≠b->before r b j):
  Top r n (k+1) (fun i=>decide (i=b) || M i) where
 count:=by
  have:∀ l:List Nat,l.Nodup->b∈l->l.countP (fun i=>decide (i=b) || M i)=l.countP M+1:=by
   intro l
   induction l with
   | nil=>intro _ h;cases h
   | cons x l ih =>
    intro hnd hmem;obtain⟨h1,h2⟩:=XS.1 hnd;rw[Wr,Wr];rcases List.mem_cons.1 hmem with rfl|hmem
    ·have:l.countP (fun i=>decide (i=b) || M i)=l.countP M:=YH fun y hy=>by
      have:y≠b:=(by rintro rfl;exact h1 hy);simp [this]
     rw[this];simp [hm]
    ·have hx:x≠b:=(by rintro rfl;exact h1 hmem);rw[ih h2 hmem];simp [hx];omega
  rw[this _ Xw (VJ.2 hb),h.count]
 first i j hi hj h1 h2:=by
  simp only[Xu,decide_eq_true_eq,Bool.or_eq_false_iff,WS]at h1 h2;rcases h1 with rfl|h1
  ·exact hmin j hj h2.2 h2.1
  ·exact h.first i j hi hj h1 h2.2
theorem Top.sorted {r:Nat->Int}{n k:Nat}{l:List Nat}(hp:l.Perm (List.range n))(hs:l.Pairwise (before r))(hk:k<=n):Top r n k (fun i=>decide (i∈l.take k)) where
 count:=by
  rw[<- hp.countP_eq];have hnd:l.Nodup:=hp.nodup_iff.2 Xw;have hl:l.length=n:=by simpa using hp.length_eq
  conv=>lhs;rw[<- V4 k l]
  rw[List.countP_append];have e1:(l.take k).countP (fun i=>decide (i∈(List.take k l++List.drop k l).take k))=k:=by
   have:(l.take k).length=k:=by simp;omega
   conv=>rhs;rw[<- this]
   rw[X3];intro x hx;simpa using hx
  have e2:(l.drop k).countP (fun i=>decide (i∈(List.take k l++List.drop k l).take k))=0:=by
   rw[Zi];intro x hx;rw[V4];simp only[decide_eq_true_eq];intro hx2;have:=(V4 k l) ▸ hnd;rw[List.nodup_append]at this;exact this.2.2 x hx2 x hx rfl
  rw[e1,e2];rfl
 first i j hi hj h1 h2:=by
  simp only[decide_eq_true_eq,WS]at h1 h2;have hjl:j∈l:=hp.mem_iff.2 (VJ.2 hj);rw[<- V4 k l]at hjl hs;rcases VP.1 hjl with h|h
  ·exact absurd h h2
  ·exact(X6.1 hs).2.2 i h1 j h
def fI (c:List Int):List Int:=if 0<c.sum then c else List.replicate c.length 1
def dM (c:List Int):Int:=if 0<c.sum then c.sum else c.length
def partAt (sp:Int)(c:List Int)(i:Nat):Int:=sp*(fI c).getD i 0 / dM c
def dq (sp:Int)(c:List Int)(i:Nat):Int:=sp*(fI c).getD i 0 % dM c
def dQ (grain least:Int)(c:List Int):Int:=grain - least*c.length
def js (sp:Int)(c:List Int):Int:=sp - ((List.range c.length).map (partAt sp c)).sum
theorem TR (c:List Int):(fI c).length=c.length:=by unfold fI;split<;>simp
theorem F1 (c:List Int):(fI c).sum=dM c:=by
 unfold fI dM;split
 ·rfl
 ·simp
theorem F5 {c:List Int}(h:∀ x∈c,0<=x):∀ x∈fI c,0<=x:=by
 unfold fI;split
 ·exact h
 ·intro x hx;rw[List.mem_replicate]at hx;omega
theorem re {c:List Int}(h:0<c.length):0<dM c:=by unfold dM;split<;>omega
theorem TS:∀ (l:List Int),((List.range l.length).map fun i=>l.getD i 0).sum=l.sum:=by
 intro l;have:((List.range l.length).map fun i=>l.getD i 0)=l:=by
  apply List.ext_getElem
  ·simp
  ·intro i h1 h2;simp at h1 ⊢;simp [h1]
 rw[this]
theorem wT (l:List Nat)(f g:Nat->Int):(l.map fun i=>f i+g i).sum=(l.map f).sum+(l.map g).sum:=by
 induction l with
 | nil=>rfl
 | cons x l ih=>simp only[List.map_cons,V5,ih];omega
theorem wU (l:List Nat)(k:Int)(f:Nat->Int):(l.map fun i=>k*f i).sum=k*(l.map f).sum:=by
 induction l with
 | nil=>simp
 | cons x l ih=>simp only[List.map_cons,V5,ih];rw[Xh]
theorem TT {l:List Nat}{f:Nat->Int}{b:Int}(h:∀ i∈l,f i<=b):(l.map f).sum<=b*l.length:=by
 induction l with
 | nil=>simp
 | cons x l ih =>
  have h1:=ih fun i hi=>h i (by simp [hi]);have h2:=h x (by simp);simp only[List.map_cons,V5,List.length_cons];have:b*((l.length+1:Nat):Int)=b*l.length+b:=by push_cast;rw[Xh];simp
  omega
theorem TU {l:List Nat}{f:Nat->Int}(h:∀ i∈l,0<=f i):0<=(l.map f).sum:=by
 induction l with
 | nil=>simp
 | cons x l ih =>
  have h1:=ih fun i hi=>h i (by simp [hi]);have h2:=h x (by simp);simp only[List.map_cons,V5];omega
theorem wV {sp:Int}{c:List Int}(h:0<c.length)(i:Nat):0<=dq sp c i/\dq sp c i<dM c :=
 ⟨Xs _ (by have:=re h;omega),Xf _ (re h)⟩
theorem F6 {sp:Int}{c:List Int}(h:0<c.length):js sp c*dM c=((List.range c.length).map (dq sp c)).sum:=by
 have e:∀ i,sp*(fI c).getD i 0=dM c*partAt sp c i+dq sp c i:=fun i=>by
  unfold partAt dq;exact(Y6 _ _).symm
 have h1:((List.range c.length).map fun i=>sp*(fI c).getD i 0).sum=sp*dM c:=by
  rw[wU,<- TR c,TS,F1]
 have h2:((List.range c.length).map fun i=>sp*(fI c).getD i 0).sum=dM c*((List.range c.length).map (partAt sp c)).sum+((List.range c.length).map (dq sp c)).sum:=by
  rw[<- wU,<- wT];congr 1;exact V7 fun i _=>e i
 unfold js;rw[Zj,<- h1,h2,WZ (dM c)];omega
theorem wW {sp:Int}{c:List Int}(h:0<c.length):0<=js sp c/\js sp c<c.length:=by
 have hT:=re h;have e:=F6 (sp:=sp) h;have h0:0<=((List.range c.length).map (dq sp c)).sum:=TU fun i _=>(wV h i).1;have h1:((List.range c.length).map (dq sp c)).sum<=(dM c - 1)*(List.range c.length).length:=TT fun i _=>by have:=(wV (sp:=sp) h i).2;omega
 rw[<- e]at h0 h1;simp only[WB]at h1;constructor
 ·exact V2 fun hn=>by
   have:js sp c*dM c<0:=Int.mul_neg_of_neg_of_pos (by omega) hT;omega
 ·exact V2 fun hn=>by
   have h3:(c.length:Int)*dM c<=js sp c*dM c:=Wv (by omega) (by omega);have h4:(dM c - 1)*(c.length:Int)=c.length*dM c - c.length:=(by rw[Zj,WZ];omega);omega
def eF (least sp:Int)(c:List Int)(M:Nat->Bool):List Int:=(List.range c.length).map fun i=>least+partAt sp c i+if M i then 1 else 0
def iS (least sp:Int)(c s:List Int):Prop:=∃ M,Top (dq sp c) c.length (js sp c).toNat M/\s=eF least sp c M
theorem iS.unique {least sp:Int}{c s s':List Int}(h:iS least sp c s)(h':iS least sp c s'):s=s':=by
 obtain⟨M,h1,rfl⟩:=h;obtain⟨M',h2,rfl⟩:=h';unfold eF;apply V7;intro i hi;rw[h1.unique h2 i (VJ.1 hi)]
end Go.Proofs
namespace Go.Proofs
def cQ (n:Nat)(f:Nat->Int):Int:=((List.range n).map f).sum
theorem wX (n:Nat)(f g:Nat->Int):cQ n (fun i=>f i+g i)=cQ n f+cQ n g:=wT _ _ _
theorem tq (n:Nat)(k:Int)(f:Nat->Int):cQ n (fun i=>k*f i)=k*cQ n f:=wU _ _ _
theorem wY {n:Nat}{f g:Nat->Int}(h:∀ i,i<n->f i=g i):cQ n f=cQ n g:=by
 unfold cQ;rw[V7 fun i hi=>h i (VJ.1 hi)]
theorem F7 {l:List Nat}{f g:Nat->Int}(h:∀ i∈l,f i<=g i):(l.map f).sum<=(l.map g).sum:=by
 induction l with
 | nil=>simp
 | cons x l ih =>
  have h1:=ih fun i hi=>h i (by simp [hi]);have h2:=h x (by simp);simp only[List.map_cons,V5];omega
theorem AY {n:Nat}{f g:Nat->Int}(h:∀ i,i<n->f i<=g i):cQ n f<=cQ n g:=F7 fun i hi=>h i (VJ.1 hi)
theorem wZ (l:List Nat)(p:Nat->Bool):((l.countP p:Nat):Int)=(l.map fun i=>if p i then (1:Int) else 0).sum:=by
 induction l with
 | nil=>rfl
 | cons x l ih =>
  rw[Wr];cases h:p x
  ·simp [ih,h]
  ·simp [ih,h];omega
theorem threshold (l:List Nat)(p:Nat->Bool)(g:Nat->Int):∃ θ:Int,0<=θ/\(∀ i∈l,p i=true->g i<=θ)/\(θ=0\/∃ i∈l,p i=true/\θ=g i):=by
 induction l with
 | nil=>exact⟨0,by omega,fun i h=>(by cases h),.inl rfl⟩
 | cons x l ih =>
  obtain⟨θ,h0,h1,h2⟩:=ih;by_cases hx:p x=true/\θ<g x
  ·refine⟨g x,by omega,fun i hi hp=>?_,.inr ⟨x,by simp,hx.1,rfl⟩⟩;rcases List.mem_cons.1 hi with rfl|hi
   ·exact Int.le_refl _
   ·have:=h1 i hi hp;omega
  ·refine⟨θ,h0,fun i hi hp=>?_,?_⟩
   ·rcases List.mem_cons.1 hi with rfl|hi
    ·exact V2 fun hn=>hx ⟨hp,by omega⟩
    ·exact h1 i hi hp
   ·rcases h2 with h2|⟨i,hi,hp,he⟩
    ·exact .inl h2
    ·exact .inr ⟨i,by simp [hi],hp,he⟩
theorem F8 {n:Nat}{M N:Nat->Bool}{g:Nat->Int}(hg:∀ i,i<n->0<=g i)(hM:∀ i j,i<n->j<n->M i=true->M j=false->g i<=g j)(hc:(List.range n).countP M<=(List.range n).countP N):
  cQ n (fun i=>if M i then g i else 0)<=cQ n (fun i=>if N i then g i else 0):=by
 obtain⟨θ,h0,h1,h2⟩:=threshold (List.range n) M g;have h3:∀ j,j<n->M j=false->θ<=g j:=fun j hj hm=>by
  rcases h2 with rfl|⟨i,hi,hp,rfl⟩
  ·exact hg j hj
  ·exact hM i j (VJ.1 hi) hj hp hm
 have hpt:cQ n (fun i=>(if M i then g i else 0)+θ*(if N i then 1 else 0))<=cQ n (fun i=>(if N i then g i else 0)+θ*(if M i then 1 else 0)):=by
  refine AY fun i hi=>?_;have a:=h1 i (VJ.2 hi);have b:=h3 i hi;cases hm:M i<;>cases hn:N i
  ·simp
  ·simp;exact b hm
  ·simp;exact a hm
  ·simp
 rw[wX,wX,tq,tq]at hpt;have e1:cQ n (fun i=>if M i then (1:Int) else 0)=((List.range n).countP M:Nat):=(wZ _ _).symm;have e2:cQ n (fun i=>if N i then (1:Int) else 0)=((List.range n).countP N:Nat):=(wZ _ _).symm;rw[e1,e2]at hpt;have h4:θ*((List.range n).countP M:Nat)<=θ*((List.range n).countP N:Nat):=V8 (by omega) h0;omega
def nM (d:Int):Int:=max d (-d)
def iT (d:Int):Int:=max d 0
theorem TV (d:Int):nM d=2*iT d+(-1)*d:=by unfold nM iT;omega
theorem abs_neg (d:Int):nM d=2*iT (-d)+d:=by unfold nM iT;omega
theorem F9 {n:Nat}{f:Nat->Int}(h:cQ n f=0):cQ n (fun i=>nM (f i))=2*cQ n (fun i=>iT (f i)):=by
 rw[wY fun i _=>TV _,wX,tq,tq,h];omega
theorem Ga {n:Nat}{f:Nat->Int}(h:cQ n f=0):cQ n (fun i=>nM (f i))=2*cQ n (fun i=>iT (-f i)):=by
 rw[wY fun i _=>abs_neg _,wX,tq,h];omega
theorem Gb (l:List Nat)(p:Nat->Bool):l.countP (fun i=>!p i)+l.countP p=l.length:=by
 induction l with
 | nil=>rfl
 | cons x l ih =>
  rw[Wr,Wr,List.length_cons];cases h:p x<;>simp<;>omega
theorem nearest {n:Nat}{t k:Nat}{ρ q x:Nat->Int}{M:Nat->Bool}(hρ:∀ i,i<n->0<=ρ i/\ρ i<t)(hM:Top ρ n k M)
  (h0:cQ n (fun i=>(t:Int)*(q i+(if M i then 1 else 0)) - (t*q i+ρ i))=0) (h1:cQ n (fun i=>(t:Int)*x i - (t*q i+ρ i))=0):
  cQ n (fun i=>nM (t*(q i+(if M i then 1 else 0)) - (t*q i+ρ i)))<=cQ n (fun i=>nM (t*x i - (t*q i+ρ i))):=by
 let N:Nat->Bool:=fun i=>decide (q i+1<=x i)
 have ge:∀ i j,i<n->j<n->M i=true->M j=false->ρ j<=ρ i:=fun i j hi hj a b=>by
  have:=hM.first i j hi hj a b;unfold before at this;omega
 rcases Nat.le_total k ((List.range n).countP N) with hk|hk
 ·rw[F9 h0,F9 h1];have a1:cQ n (fun i=>iT (t*(q i+(if M i then 1 else 0)) - (t*q i+ρ i)))=cQ n (fun i=>if M i then t - ρ i else 0):=wY fun i hi=>by
   have:=hρ i hi;rw[Xh];unfold iT;cases M i<;>simp<;>omega
  have a2:cQ n (fun i=>if N i then t - ρ i else 0)<=cQ n (fun i=>iT (t*x i - (t*q i+ρ i))):=AY fun i hi=>by
   have:=hρ i hi;unfold iT;by_cases h:q i+1<=x i
   ·have h5:(t:Int)*(q i+1)<=t*x i:=V8 h (by omega);rw[Xh]at h5;simp only[N,h,decide_true,if_true];omega
   ·simp only[N,h,decide_false,Bool.false_eq_true,if_false];omega
  have a3:=F8 (M:=M) (N:=N) (g:=fun i=>t - ρ i) (fun i hi=>by have:=hρ i hi;omega) (fun i j hi hj a b=>by have:=ge i j hi hj a b;omega) (by rw[hM.count];exact hk);rw[a1];omega
 ·rw[Ga h0,Ga h1];have a1:cQ n (fun i=>iT (-(t*(q i+(if M i then 1 else 0)) - (t*q i+ρ i))))=cQ n (fun i=>if !M i then ρ i else 0):=wY fun i hi=>by
   have:=hρ i hi;rw[Xh];unfold iT;cases M i<;>simp<;>omega
  have a2:cQ n (fun i=>if !N i then ρ i else 0)<=cQ n (fun i=>iT (-(t*x i - (t*q i+ρ i)))):=AY fun i hi=>by
   have:=hρ i hi;unfold iT;by_cases h:q i+1<=x i
   ·simp only[N,h,decide_true,Bool.not_true,Bool.false_eq_true,if_false];omega
   ·have h5:(t:Int)*x i<=t*q i:=V8 (by omega) (by omega);simp only[N,h,decide_false,Bool.not_false,if_true];omega
  have c1:=Gb (List.range n) M;have c2:=Gb (List.range n) N;have a3:=F8 (M:=fun i=>!M i) (N:=fun i=>!N i) (g:=ρ) (fun i hi=>(hρ i hi).1) (fun i j hi hj a b=>by
   simp only[Yj,Yi]at a b;exact ge j i hj hi b a) (by have:=hM.count;omega)
  rw[a1];omega
end Go.Proofs
namespace Go.Proofs
theorem rf (least sp:Int)(c:List Int)(M:Nat->Bool):(eF least sp c M).length=c.length:=by simp [eF]
theorem tt {least sp:Int}{c:List Int}{M:Nat->Bool}{i:Nat}(h:i<c.length):(eF least sp c M)[i]?=some (least+partAt sp c i+if M i then 1 else 0):=by
 unfold eF;rw[List.getElem?_map,Wu h];rfl
theorem TW (n:Nat)(a:Int):((List.range n).map fun _=>a).sum=a*n:=by
 induction n with
 | zero=>simp
 | succ n ih=>rw[WI,Wo,XR,ih];simp;rw[Xh,YO]
theorem TX {c:List Int}(h:∀ x∈c,0<=x)(i:Nat):0<=(fI c).getD i 0:=by
 rw[Vy];cases e:(fI c)[i]? with
 | none=>exact Int.le_refl _
 | some a=>exact F5 h a (Vs e)
theorem AZ {c:List Int}(h:∀ x∈c,0<=x)(h0:0<c.length){sp:Int}(hs:0<=sp)(i:Nat):0<=partAt sp c i :=
 Xt (WE hs (TX h i)) (Y8 (re h0))
theorem Gc {least grain:Int}{c s:List Int}(h0:0<c.length)(h:iS least (dQ grain least c) c s):s.length=c.length/\s.sum=grain:=by
 obtain⟨M,hM,rfl⟩:=h;refine⟨rf ..,?_⟩;have hb:=wW (sp:=dQ grain least c) h0;have hc:=wZ (List.range c.length) M;rw[hM.count]at hc;have e1:(eF least (dQ grain least c) c M).sum=((List.range c.length).map fun _=>least).sum+(((List.range c.length).map (partAt (dQ grain least c) c)).sum+((List.range c.length).map fun i=>if M i then (1:Int) else 0).sum):=by
  rw[<- wT,<- wT];unfold eF;congr 1;exact V7 fun i _=>by omega
 rw[e1,TW,<- hc];have:((js (dQ grain least c) c).toNat:Int)=js (dQ grain least c) c:=by omega
 rw[this];unfold js dQ;omega
theorem Gd {least grain:Int}{c s:List Int}(hc:∀ x∈c,0<=x)(h0:0<c.length)(hs:0<=dQ grain least c)(h:iS least (dQ grain least c) c s):∀ x∈s,least<=x:=by
 obtain⟨M,hM,rfl⟩:=h;intro x hx;unfold eF at hx;obtain⟨i,hi,rfl⟩:=VN.1 hx;have:=AZ hc h0 hs i;split<;>omega
theorem w6:∀ {l:List Int},(∀ x∈l,0<=x)->∀ x∈l,x<=l.sum
 | a :: l,h,x,hx=>by
  have h1:0<=l.sum:=by
   have:∀ l:List Int,(∀ x∈l,0<=x)->0<=l.sum:=by
    intro l
    induction l with
    | nil=>intro _;simp
    | cons b l ih=>intro h;have:=h b (by simp);have:=ih fun x hx=>h x (by simp [hx]);rw[V5];omega
   exact this l fun x hx=>h x (by simp [hx])
  rw[V5];rcases List.mem_cons.1 hx with rfl|hx
  ·omega
  ·have:=w6 (fun y hy=>h y (by simp [hy])) x hx;have:=h a (by simp);omega
end Go.Proofs
set_option maxRecDepth 100000
namespace Go.Proofs
open Go.Hx
theorem rj {α:Type}(l:List α)(i j:Nat)(a d:α)(hi:i<l.length):(l.set i a).getD j d=if i=j then a else l.getD j d:=by
 rw[Vy,Vy,W3];by_cases h:i=j
 ·subst h;rw[Vx rfl,Vx hi,Vx rfl];rfl
 ·rw[Vw h,Vw h]
theorem ij {l:List Nat}{i:Nat}(h:i<l.length):l[i]?=some (l.getD i 0):=by
 rw[Vy,Vv h];rfl
def cC (l:List Nat)(i j:Nat):List Nat:=(l.set i (l.getD j 0)).set j (l.getD i 0)
theorem TY (l:List Nat)(i j:Nat):(cC l i j).length=l.length:=by simp [cC]
theorem TZ {l:List Nat}{i j:Nat}(hi:i<l.length)(hj:j<l.length)(hij:i≠j)(a:Nat):(cC l i j).getD a 0=if a=j then l.getD i 0 else if a=i then l.getD j 0 else l.getD a 0:=by
 unfold cC;rw[rj _ _ _ _ _ (by rw[VG];exact hj),rj _ _ _ _ _ hi];by_cases h1:a=j
 ·rw[Vx h1,Vx h1.symm]
 ·rw[Vw h1,Vw fun h=>h1 h.symm];by_cases h2:a=i
  ·rw[Vx h2,Vx h2.symm]
  ·rw[Vw h2,Vw fun h=>h2 h.symm]
def Ge (f:Nat->Nat)(l:List Nat)(n:Nat):Prop:=∀ a b,a<b->b<n->f (l.getD a 0)<=f (l.getD b 0)
theorem T2 {l:List Nat}{i j:Nat}(hi:i<l.length)(hj:j<l.length):(cC l i j).Perm l:=by
 unfold cC;rw[Vy,Vy,Vv hi,Vv hj];exact List.set_set_perm hi hj
def oX (r:Nat->Int)(T n:Nat)(i:Nat):Nat:=(T - (r i).toNat)*n+i
theorem w7 {r:Nat->Int}{T n:Nat}(hr:∀ i,i<n->0<=r i/\r i<T){i j:Nat}(hi:i<n)(hj:j<n):oX r T n i<oX r T n j↔before r i j:=by
 have h1:=hr i hi;have h2:=hr j hj;unfold oX before;obtain⟨a,ha⟩:∃ a,a=T - (r i).toNat:=⟨_,rfl⟩
 obtain⟨b,hb⟩:∃ b,b=T - (r j).toNat:=⟨_,rfl⟩
 rw[<- ha,<- hb];rcases W1 a b with h|h|h
 ·have:(a+1)*n<=b*n:=V3 _ h;rw[Wc,Yz]at this;constructor
  ·intro _;left;omega
  ·intro _;omega
 ·subst h;constructor
  ·intro h;right;omega
  ·rintro(h|h)<;>omega
 ·have:(b+1)*n<=a*n:=V3 _ h;rw[Wc,Yz]at this;constructor
  ·intro h;omega
  ·rintro(h|h)<;>omega
theorem T3 {r:Nat->Int}{T n:Nat}(hr:∀ i,i<n->0<=r i/\r i<T){l:List Nat}(hp:l.Perm (List.range n))(hs:Ge (oX r T n) l l.length):l.Pairwise (before r):=by
 have hm:∀ a∈l,a<n:=fun a ha=>VJ.1 (hp.mem_iff.1 ha);have hnd:l.Nodup:=hp.nodup_iff.2 Xw;rw[YT];intro i j hi hj hij;have h:=hs i j hij hj;rw[Vy,Vy,Vv hi,Vv hj]at h;simp only[Option.getD_some]at h;have hne:l[i]≠l[j]:=fun e=>by
  have:=(W4 hi hnd).1 (show l[i]?=l[j]? by rw[Vv hi,e,<- Vv hj]);omega
 rcases FZ hne (r:=r) with b|b
 ·exact b
 ·have:=(w7 hr (hm _ (Wh hj)) (hm _ (Wh hi))).2 b;omega
end Go.Proofs
namespace Go.Hx
variable {P:Program} {G:Nat->Option (List AVal)} {Γ Γ':az} {H H':AHeap} {w w':World}
theorem W.cP {n:Nat}{rd:Option Nat}{Q:AX->St->Prop}{s:St}{x y:Code}(Φ:St->Prop)(h:W P G n rd x (fun ax s'=>ax=.normal/\Φ s') s)(h2:∀ s',Φ s'->W P G n rd y Q s'):W P G n rd (.seq x y) Q s :=
 W.seq (h.mono fun ax s' ⟨e,hp⟩=>by subst e;exact h2 s' hp)
theorem Eo {H:AHeap}{id:Nat}{b:Blk}(h:H.get id=some b):H.upd id b=H:=by
 have e:(fun j=>if j=id then some b else H.get j)=H.get:=by
  funext j
  by_cases hj:j=id
  ·rw[Vx hj,hj,h]
  ·rw[Vw hj]
 show AHeap.mk (fun j=>if j=id then some b else H.get j) H.next=H;rw[e]
theorem nt (H:AHeap)(id:Nat)(b c:Blk):(H.upd id b).upd id c=H.upd id c:=by
 unfold AHeap.upd;congr 1
 funext j
 by_cases hj:j=id<;>simp [hj]
end Go.Hx
namespace Go.Proofs
open Go.Hx
def aK (l:List Nat):List Int:=l.map fun (v:Nat)=>(v:Int)
theorem ks (l:List Nat):(aK l).length=l.length:=by simp [aK]
theorem qH {l:List Nat}{i k:Nat}(h:l[i]?=some k):(aK l)[i]?=some (k:Int):=by simp [aK,h]
theorem Ep (l:List Nat)(i k:Nat):(aK l).set i (k:Int)=aK (l.set i k):=by unfold aK;rw[Ys]
def nB (g:Nat)(q:List Nat):Blk:=.arr g 3 (ints (aK q))
def EG (cv:AVal)(f:Nat->Nat)(l:List Nat)(Inv:AHeap->Prop):Prop:=∀ a b,a∈l->b∈l->∀ Hx,Inv Hx->∃ z:Int,(z<0↔f a<f b)/\∀ K,K (.ret (aa z)) Hx->aw Tryd.prog G0 cv [aa (a:Nat),aa (b:Nat)] Hx K
def bq (a b:Nat)(l l':List Nat):Prop:=l'.Perm l/\∀ i,i<a\/b<=i->l'.getD i 0=l.getD i 0
theorem bq.refl (a b:Nat)(l:List Nat):bq a b l l:=⟨.refl _,fun _ _=>rfl⟩
theorem bq.trans {a b:Nat}{l m r:List Nat}(h:bq a b l m)(k:bq a b m r):bq a b l r:=⟨k.1.trans h.1,fun i hi=>(k.2 i hi).trans (h.2 i hi)⟩
theorem bq.len {a b:Nat}{l m:List Nat}(h:bq a b l m):m.length=l.length:=h.1.length_eq
theorem bq.mono {a b a' b':Nat}{l m:List Nat}(h:bq a b l m)(ha:a'<=a)(hb:b<=b'):bq a' b' l m:=⟨h.1,fun i hi=>h.2 i (by omega)⟩
theorem bq.swap {a b i j:Nat}{l:List Nat}(h1:a<=i)(h2:i<b)(h3:a<=j)(h4:j<b)(hb:b<=l.length):bq a b l (cC l i j):=by
 refine⟨T2 (by omega) (by omega),fun k hk=>?_⟩;unfold cC;rw[rj _ _ _ _ _ (by rw[VG];omega),rj _ _ _ _ _ (by omega),Vw (by omega),Vw (by omega)]
theorem tg {l:List Nat}{i j:Nat}(hi:i<l.length)(hj:j<l.length)(a:Nat):(cC l i j).getD a 0=if a=j then l.getD i 0 else if a=i then l.getD j 0 else l.getD a 0:=by
 unfold cC;rw[rj _ _ _ _ _ (by rw[VG];exact hj),rj _ _ _ _ _ hi];by_cases h1:a=j
 ·rw[Vx h1,Vx h1.symm]
 ·rw[Vw h1,Vw fun h=>h1 h.symm];by_cases h2:a=i
  ·rw[Vx h2,Vx h2.symm]
  ·rw[Vw h2,Vw fun h=>h2 h.symm]
theorem Fm {a b:Nat}{l:List Nat}{x:Nat}:x∈(l.take b).drop a↔∃ i,a<=i/\i<b/\i<l.length/\l.getD i 0=x:=by
 rw[V0];constructor
 ·rintro⟨k,hk⟩;rw[WN,Xe]at hk;split at hk
  ·exact⟨a+k,by omega,by omega,get_lt hk,by rw[Vy,hk];rfl⟩
  ·cases hk
 ·rintro⟨i,h1,h2,h3,h4⟩;refine⟨i - a,?_⟩;rw[WN,Xe,Vx (by omega),show a+(i - a)=i by omega,ij h3,h4]
theorem Fo {l m:List Nat}(hl:l.length=m.length)(h:∀ i,i<l.length->l.getD i 0=m.getD i 0):l=m:=by
 apply V9;intro i;rcases VR i l.length with hi|hi
 ·rw[ij hi,ij (by omega),h i hi]
 ·rw[VB hi,VB (by omega)]
theorem bq.Ss {a b:Nat}{l m:List Nat}(h:bq a b l m)(hab:a<=b)(hb:b<=l.length):((m.take b).drop a).Perm ((l.take b).drop a):=by
 have hl:=h.len;have e1:m.take a=l.take a:=Fo (by simp [hl]) fun i hi=>by
  rw[VC]at hi;rw[Vy,Vy,Xe,Xe,Vx (by omega),Vx (by omega),ij (by omega),ij (by omega),h.2 i (by omega)]
 have e2:m.drop b=l.drop b:=Fo (by simp [hl]) fun i hi=>by
  rw[Wg]at hi;rw[Vy,Vy,WN,WN,ij (by omega),ij (by omega),h.2 (b+i) (by omega)]
 have cut:∀ l:List Nat,l=l.take a++((l.take b).drop a++l.drop b):=fun l=>by
  rw[<- List.append_assoc];have:l.take a++(l.take b).drop a=l.take b:=by
   have:=V4 a (l.take b);rw[X0,Xa hab]at this;exact this
  rw[this,V4]
 have hp:=h.1;rw[cut m,cut l,e1,e2]at hp;exact(List.perm_append_right_iff _).1 ((List.perm_append_left_iff _).1 hp)
theorem bq.all {a b:Nat}{l m:List Nat}(h:bq a b l m)(hb:b<=l.length){p:Nat->Prop}(hp:∀ i,a<=i->i<b->p (l.getD i 0)):∀ i,a<=i->i<b->p (m.getD i 0):=by
 intro i h1 h2;have hl:=h.len;have:m.getD i 0∈(m.take b).drop a:=Fm.2 ⟨i,h1,h2,by omega,rfl⟩;obtain⟨k,k1,k2,_,k4⟩:=Fm.1 ((h.Ss (by omega) hb).mem_iff.1 this);rw[<- k4];exact hp k k1 k2
def dH (f:Nat->Nat)(l:List Nat)(a b:Nat):Prop:=∀ i j,a<=i->i<j->j<b->f (l.getD i 0)<=f (l.getD j 0)
def lk (f:Nat->Nat)(l:List Nat):Prop:=(l.map f).Nodup
theorem lk.perm {f:Nat->Nat}{l m:List Nat}(h:lk f l)(hp:m.Perm l):lk f m:=(hp.map f).nodup_iff.2 h
theorem lk.ne {f:Nat->Nat}{l:List Nat}(h:lk f l){i j:Nat}(hij:i≠j)(hi:i<l.length)(hj:j<l.length):f (l.getD i 0)≠f (l.getD j 0):=by
 intro e;have g:∀ k,k<l.length->(l.map f)[k]?=some (f (l.getD k 0)):=fun k hk=>by rw[List.getElem?_map,ij hk];rfl
 refine hij ((W4 (by rw[VD];exact hi) h).1 ?_);rw[g i hi,g j hj,e]
def Bl (f:Nat->Nat)(l:List Nat)(a b:Nat):Prop:=a=0\/∀ i,a<=i->i<b->f (l.getD (a - 1) 0)<f (l.getD i 0)
theorem Bl.perm {f:Nat->Nat}{l m:List Nat}{a b:Nat}(h:Bl f l a b)(hp:bq a b l m)(hb:b<=l.length):Bl f m a b:=by
 rcases h with h|h
 ·exact .inl h
 ·by_cases ha:a=0
  ·exact .inl ha
  ·refine .inr fun i h1 h2=>?_;rw[hp.2 (a - 1) (by omega)];exact hp.all hb (p:=fun x=>f (l.getD (a - 1) 0)<f x) h i h1 h2
def eD (k c:Nat):Prop:=c=2*k+1\/c=2*k+2
def iP (f:Nat->Nat)(l:List Nat)(a lo hi:Nat):Prop:=∀ k c,lo<=k->eD k c->c<hi->f (l.getD (a+c) 0)<=f (l.getD (a+k) 0)
def nA (f:Nat->Nat)(l:List Nat)(a lo hi r:Nat):Prop :=
 (∀ k c,lo<=k->k≠r->eD k c->c<hi->f (l.getD (a+c) 0)<=f (l.getD (a+k) 0))/\∀ k c,lo<=k->eD k r->eD r c->c<hi->f (l.getD (a+c) 0)<=f (l.getD (a+k) 0)
theorem nA.start {f:Nat->Nat}{l:List Nat}{a lo hi:Nat}(h:iP f l a (lo+1) hi):nA f l a lo hi lo :=
 ⟨fun k c h1 h2 h3 h4=>h k c (by omega) h3 h4,fun k c h1 h2 h3 h4=>by unfold eD at h2;omega⟩
theorem nA.done {f:Nat->Nat}{l:List Nat}{a lo hi r:Nat}(h:nA f l a lo hi r)(hd:∀ c,eD r c->c<hi->f (l.getD (a+c) 0)<=f (l.getD (a+r) 0)):iP f l a lo hi:=fun k c h1 h3 h4=>by
 by_cases hk:k=r
 ·subst hk;exact hd c h3 h4
 ·exact h.1 k c h1 hk h3 h4
theorem nA.step {f:Nat->Nat}{l:List Nat}{a lo hi r c:Nat}(h:nA f l a lo hi r)(hlo:lo<=r)(hb:a+hi<=l.length)(hc:eD r c)(hci:c<hi)(hmax:∀ d,eD r d->d<hi->f (l.getD (a+d) 0)<=f (l.getD (a+c) 0))(hlt:f (l.getD (a+r) 0)<=f (l.getD (a+c) 0)):
  nA f (cC l (a+r) (a+c)) a lo hi c:=by
 have hrc:r<c:=by unfold eD at hc;omega
 have g:=fun k=>tg (l:=l) (i:=a+r) (j:=a+c) (by omega) (by omega) (a+k);have gk:∀ k,k≠r->k≠c->(cC l (a+r) (a+c)).getD (a+k) 0=l.getD (a+k) 0:=fun k h1 h2=>by rw[g,Vw (by omega),Vw (by omega)]
 have gr:(cC l (a+r) (a+c)).getD (a+r) 0=l.getD (a+c) 0:=by rw[g,Vw (by omega),Vx rfl]
 have gc:(cC l (a+r) (a+c)).getD (a+c) 0=l.getD (a+r) 0:=by rw[g,Vx rfl]
 constructor
 ·intro k d h1 h2 h3 h4;by_cases hk:k=r
  ·subst hk;rw[gr];by_cases hd:d=c
   ·subst hd;rw[gc];exact hlt
   ·rw[gk d (by unfold eD at h3;omega) hd];exact hmax d h3 h4
  ·rw[gk k hk h2];by_cases hd:d=r
   ·subst hd;rw[gr];exact h.2 k c h1 h3 hc hci
   ·rw[gk d hd (by unfold eD at h3 hc;omega)];exact h.1 k d h1 hk h3 h4
 ·intro k d h1 h2 h3 h4;obtain rfl:k=r:=by unfold eD at h2 hc;omega
  rw[gr,gk d (by unfold eD at h3;omega) (by unfold eD at h3;omega)];exact h.1 c d (by omega) (by omega) h3 h4
theorem iP.Su {f:Nat->Nat}{l:List Nat}{a lo hi:Nat}(h:hi<=2*lo+1):iP f l a lo hi:=fun k c h1 h2 h3=>by unfold eD at h2;omega
theorem iP.max {f:Nat->Nat}{l:List Nat}{a hi:Nat}(h:iP f l a 0 hi):∀ k,k<hi->f (l.getD (a+k) 0)<=f (l.getD a 0):=by
 intro k
 induction k using Nat.strongRecOn with
 | _ k ih =>
  intro hk;by_cases h0:k=0
  ·subst h0;exact Nat.le_refl _
  ·have h1:=h ((k - 1) / 2) k (by omega) (by unfold eD;omega) hk;exact We h1 (ih _ (by omega) (by omega))
theorem iP.pop {f:Nat->Nat}{l:List Nat}{a i:Nat}(h:iP f l a 0 (i+1))(hb:a+i<l.length):iP f (cC l a (a+i)) a 1 i:=by
 intro k c h1 h2 h3;have g:=fun k=>tg (l:=l) (i:=a) (j:=a+i) (by omega) (by omega) (a+k);rw[g,g,Vw (by omega),Vw (by unfold eD at h2;omega),Vw (by unfold eD at h2;omega),Vw (by omega)];exact h k c (by omega) h2 (by omega)
def nC (f:Nat->Nat)(l:List Nat)(a m b:Nat):Prop:=∀ i j,a<=i->i<j->j<b->m<=j->f (l.getD i 0)<=f (l.getD j 0)
theorem nC.start {f:Nat->Nat}{l:List Nat}{a b:Nat}:nC f l a b b:=fun i j h1 h2 h3 h4=>by omega
theorem nC.done {f:Nat->Nat}{l:List Nat}{a b:Nat}(h:nC f l a a b):dH f l a b:=fun i j h1 h2 h3=>h i j h1 h2 h3 (by omega)
theorem nC.step {f:Nat->Nat}{l m:List Nat}{a i b:Nat}(h:nC f l a (a+(i+1)) b)(hh:iP f l a 0 (i+1))(hi:a+i<b)(hb:b<=l.length)(hp:bq a (a+i) (cC l a (a+i)) m):nC f m a (a+i) b:=by
 have g:=fun k=>tg (l:=l) (i:=a) (j:=a+i) (by omega) (by omega) k;have mx:=hh.max;have sl:(cC l a (a+i)).length=l.length:=TY ..;have big:∀ k,a<=k->k<a+i->f ((cC l a (a+i)).getD k 0)<=f (l.getD a 0):=fun k h1 h2=>by
  rw[g,Vw (by omega)];split
  ·have:=mx i (by omega);exact this
  ·have:=mx (k - a) (by omega);rw[show a+(k - a)=k by omega]at this;exact this
 have big':=hp.all (by omega) (p:=fun x=>f x<=f (l.getD a 0)) big;have tail:∀ k,a+i<=k->m.getD k 0=(cC l a (a+i)).getD k 0:=fun k hk=>hp.2 k (.inr hk);intro x y h1 h2 h3 h4;rw[tail y h4];by_cases hy:y=a+i
 ·subst hy;rw[g,Vx rfl];exact big' x h1 h2
 ·rw[g,Vw hy,Vw (by omega)];rcases VR x (a+i) with hx|hx
  ·have e:∀ z,a<=z->z<a+i->f ((cC l a (a+i)).getD z 0)<=f (l.getD y 0):=fun z z1 z2=>We (big z z1 z2) (h a y (by omega) (by omega) h3 (by omega));exact hp.all (by omega) (p:=fun x=>f x<=f (l.getD y 0)) e x h1 hx
  ·rw[tail x hx,g];split
   ·exact h a y (by omega) (by omega) h3 (by omega)
   ·rw[Vw (by omega)];exact h x y h1 h2 h3 (by omega)
def Out (f:Nat->Nat)(l:List Nat)(a b c d:Nat):Prop:=∀ i j,a<=i->i<j->j<b->(i<c\/d<=j)->f (l.getD i 0)<=f (l.getD j 0)
theorem Out.start {f:Nat->Nat}{l:List Nat}{a b:Nat}:Out f l a b a b:=fun i j h1 h2 h3 h4=>by omega
theorem Out.perm {f:Nat->Nat}{l m:List Nat}{a b c d:Nat}(h:Out f l a b c d)(hp:bq c d l m)(h1:a<=c)(h2:d<=b)(hb:b<=l.length):Out f m a b c d:=by
 intro i j q1 q2 q3 q4;by_cases hi:c<=i/\i<d
 ·have hj:d<=j:=by omega
  rw[hp.2 j (.inr hj)];exact hp.all (by omega) (p:=fun x=>f x<=f (l.getD j 0)) (fun k k1 k2=>h k j (by omega) (by omega) q3 (.inr hj)) i hi.1 hi.2
 ·rw[hp.2 i (by omega)];by_cases hj:c<=j/\j<d
  ·have hic:i<c:=(by omega);exact hp.all (by omega) (p:=fun x=>f (l.getD i 0)<=f x) (fun k k1 k2=>h i k q1 (by omega) (by omega) (.inl hic)) j hj.1 hj.2
  ·rw[hp.2 j (by omega)];exact h i j q1 q2 q3 q4
theorem Out.done {f:Nat->Nat}{l:List Nat}{a b c d:Nat}(h:Out f l a b c d)(hs:dH f l c d):dH f l a b:=fun i j h1 h2 h3=>by
 by_cases hc:i<c\/d<=j
 ·exact h i j h1 h2 h3 hc
 ·exact hs i j (by omega) h2 (by omega)
def nD (f:Nat->Nat)(l:List Nat)(c d m:Nat):Prop:=(∀ i,c<=i->i<m->f (l.getD i 0)<=f (l.getD m 0))/\∀ i,m<i->i<d->f (l.getD m 0)<=f (l.getD i 0)
theorem nD.le {f:Nat->Nat}{l:List Nat}{c d m:Nat}(h:nD f l c d m){i j:Nat}(h1:c<=i)(h2:j<d)(h3:i<=m)(h4:m<=j):f (l.getD i 0)<=f (l.getD j 0):=by
 have a1:f (l.getD i 0)<=f (l.getD m 0):=by
  rcases VR i m with q|q
  ·exact h.1 i h1 q
  ·rw[show i=m by omega];exact Nat.le_refl _
 have a2:f (l.getD m 0)<=f (l.getD j 0):=by
  rcases VR m j with q|q
  ·exact h.2 j q h2
  ·rw[show j=m by omega];exact Nat.le_refl _
 omega
theorem Out.left {f:Nat->Nat}{l m:List Nat}{a b c d p:Nat}(h:Out f l a b c d)(hp:nD f l c d p)(h1:c<=p)(h2:p<d)(h3:a<=c)(h4:d<=b)(hb:b<=l.length)(hm:bq c p l m)(hs:dH f m c p):Out f m a b (p+1) d:=by
 have hout:=h.perm (hm.mono (Nat.le_refl _) (show p<=d by omega)) h3 h4 hb;have hm':nD f m c d p:=by
  have ep:=hm.2 p (.inr (Nat.le_refl _));refine⟨fun i i1 i2=>?_,fun i i1 i2=>?_⟩
  ·rw[ep];exact hm.all (by omega) (p:=fun x=>f x<=f (l.getD p 0)) hp.1 i i1 i2
  ·rw[ep,hm.2 i (by omega)];exact hp.2 i i1 i2
 intro i j q1 q2 q3 q4;by_cases hc:i<c\/d<=j
 ·exact hout i j q1 q2 q3 hc
 ·rcases VR j p with hj|hj
  ·exact hs i j (by omega) q2 hj
  ·exact hm'.le (by omega) (by omega) (by omega) hj
theorem Out.right {f:Nat->Nat}{l m:List Nat}{a b c d p:Nat}(h:Out f l a b c d)(hp:nD f l c d p)(h1:c<=p)(h2:p<d)(h3:a<=c)(h4:d<=b)(hb:b<=l.length)(hm:bq (p+1) d l m)(hs:dH f m (p+1) d):Out f m a b c p:=by
 have hout:=h.perm (hm.mono (show c<=p+1 by omega) (Nat.le_refl _)) h3 h4 hb;have hm':nD f m c d p:=by
  have ep:=hm.2 p (.inl (by omega));refine⟨fun i i1 i2=>?_,fun i i1 i2=>?_⟩
  ·rw[ep,hm.2 i (by omega)];exact hp.1 i i1 i2
  ·rw[ep];exact hm.all (by omega) (p:=fun x=>f (l.getD p 0)<=f x) (fun k k1 k2=>hp.2 k (by omega) k2) i (by omega) i2
 intro i j q1 q2 q3 q4;by_cases hc:i<c\/d<=j
 ·exact hout i j q1 q2 q3 hc
 ·rcases VR p i with hi|hi
  ·exact hs i j (by omega) q2 (by omega)
  ·exact hm'.le (by omega) (by omega) hi (by omega)
theorem Out.bl {f:Nat->Nat}{l:List Nat}{a b c d:Nat}(h:Out f l a b c d)(hB:Bl f l a b)(hD:lk f l)(h1:a<=c)(h2:d<=b)(hb:b<=l.length):Bl f l c d:=by
 by_cases hc:c=a
 ·subst hc;rcases hB with q|q
  ·exact .inl q
  ·exact .inr fun i i1 i2=>q i i1 (by omega)
 ·refine .inr fun i i1 i2=>?_;have h1:=h (c - 1) i (by omega) (by omega) (by omega) (.inl (by omega));have h2:=hD.ne (i:=c - 1) (j:=i) (by omega) (by omega) (by omega);omega
structure SH (cv:AVal)(f:Nat->Nat)(rid:Nat)(rb:Blk)(id g n:Nat)(l:List Nat)(H:AHeap):Prop where
 hl:l.length=n
 hn:n<=1024
 hg:H.get id=some (nB g l)
 hr:H.get rid=some rb
 ne:rid≠id
 il:id<H.next
 rl:rid<H.next
 cmp:EG cv f l fun Hx=>Hx.get rid=some rb
section
variable {cv:AVal} {f:Nat->Nat} {rid:Nat} {rb:Blk} {id g n:Nat} {l q:List Nat} {H H':AHeap}
theorem SH.upd (S:SH cv f rid rb id g n l H)(hp:q.Perm l):SH cv f rid rb id g n q (H.upd id (nB g q)) :=
 ⟨by rw[hp.length_eq,S.hl],S.hn,by rw[ag,Vx rfl],by rw[ag,Vw S.ne];exact S.hr,S.ne,S.il,S.rl,fun a b ha hb=>S.cmp a b (hp.mem_iff.1 ha) (hp.mem_iff.1 hb)⟩
theorem SH.over (S:SH cv f rid rb id g n l H)(ho:Over H H'):SH cv f rid rb id g n l H' :=
 ⟨S.hl,S.hn,(ho.old _ S.il).trans S.hg,(ho.old _ S.rl).trans S.hr,S.ne,by have:=S.il;have:=ho.next;omega,by have:=S.rl;have:=ho.next;omega,S.cmp⟩
theorem SH.live (S:SH cv f rid rb id g n l H):H.live id g=some (3,ints (aK l)):=ak S.hg
theorem SH.len (S:SH cv f rid rb id g n l H):(ints (aK l)).length=n:=by rw[aR,ks,S.hl]
theorem SH.cell (S:SH cv f rid rb id g n l H){i:Nat}(hi:i<n):(ints (aK l))[i]?=some (.lit (.int .i64 ((l.getD i 0:Nat):Int))):=by
 rw[eZ,qH (ij (by rw[S.hl];exact hi))];rfl
theorem SH.ask (S:SH cv f rid rb id g n l H){i j:Nat}(hi:i<n)(hj:j<n):∃ z:Int,(z<0↔f (l.getD i 0)<f (l.getD j 0))/\∀ K,K (.ret (aa z)) H->aw Tryd.prog G0 cv [.lit (.int .i64 ((l.getD i 0:Nat):Int)),.lit (.int .i64 ((l.getD j 0:Nat):Int))] H K :=
 S.cmp _ _ (Vs (ij (by rw[S.hl];exact hi))) (Vs (ij (by rw[S.hl];exact hj))) H S.hr
theorem SH.s1 (S:SH cv f rid rb id g n l H){i:Nat}(hi:i<n)(x:Nat):setAt (ints (aK l)) i [.lit (.int .i64 (x:Int))]=ints (aK (l.set i x)):=by
 rw[fo (by rw[ks,S.hl];exact hi),Ep]
theorem SH.jk (S:SH cv f rid rb id g n l H)(i x:Nat):(ints (aK (l.set i x))).length=n:=by rw[aR,ks,VG,S.hl]
theorem SH.jm (_S:SH cv f rid rb id g n l H)(q:List Nat):(H.upd id (.arr g 3 (ints (aK q)))).live id g=some (3,ints (aK q)):=ak (by rw[ag,Vx rfl])
theorem SH.s2 (S:SH cv f rid rb id g n l H){i j:Nat}(hj:j<n):setAt (ints (aK (l.set i (l.getD j 0)))) j [.lit (.int .i64 ((l.getD i 0:Nat):Int))]=ints (aK (cC l i j)):=by
 rw[fo (by rw[ks,VG,S.hl];exact hj),Ep];rfl
theorem SH.u2 (_S:SH cv f rid rb id g n l H)(p q:List Nat):(H.upd id (.arr g 3 (ints (aK p)))).upd id (.arr g 3 (ints (aK q)))=H.upd id (nB g q):=nt ..
theorem SH.self (S:SH cv f rid rb id g n l H):H.upd id (nB g l)=H:=Eo S.hg
end
theorem eh (H:AHeap)(id g:Nat)(p q:List Nat):(H.upd id (nB g p)).upd id (nB g q)=H.upd id (nB g q):=nt ..
section
variable {cv:AVal} {f:Nat->Nat} {rid:Nat} {rb:Blk} {id g n a b:Nat} {l:List Nat} {H:AHeap}
set_option maxHeartbeats 4000000 in
theorem Sv (S:SH cv f rid rb id g n l H)(hab:a<b)(hb:b<=n)(K:ARes->AHeap->Prop)(hK:∀ q,bq a b l q->K (.ret (.tup [])) (H.upd id (nB g q))):
  ae Tryd.prog G0 71 [.own id g 0 n 1,aa a,aa b,cv] H K:=by
 have hn:=S.hn;have w0:IntKind.i64.wrap ((b:Int) - 1)=((b - 1:Nat):Int):=by rw[Vt _ (by omega)];omega
 refine ae.cX (n:=34) (rs:=[]) Tryd.func71 rfl rfl rfl (by decide) (by simp) ?_;refine W.sq ?_;simp only[go_sem];refine W.sq ?_;simp only[go_sem,w0];refine W.en (fun E=>E 0=.own id g 0 n 1 /\ E 8=aa a /\ E 9=aa ((b - 1:Nat):Int)) (by simp only[go_sem]) fun E ⟨e0,e8,e9⟩=>?_
 refine W.block ?_;refine W.aG 17179861760 (by rfl) (fun ρ Hx=>∃ (i:Nat) (j:Int) (q:List Nat),ρ 8=aa i/\ρ 9=aa j/\a<=i/\j<b/\i+j=(a:Int)+b - 1/\bq a b l q/\Hx=H.upd id (nB g q)) (fun ρ Hx=>(iv (ρ 9)+1).toNat) ?_ ?_
 ·exact⟨a,_,l,e8,e9,Nat.le_refl _,by omega,by omega,.refl _ _ _,S.self.symm⟩
 rintro ρ Hx ⟨i,j,q,h8,h9,hi,hj,hij,hp,hHx⟩;refine W.en (fun E1=>E1 0=.own id g 0 n 1 /\ E1 8=aa i /\ E1 9=aa j) (by simp only[go_sem,e0,h8,h9]) fun E1 ⟨f0,f8,f9⟩=>?_
 by_cases hlt:(i:Int)<j;rotate_left
 ·refine W.vs ?_;simp only[go_sem,f8,f9,hlt];rw[hHx];exact av.mk (by rw[aE];exact Nat.le_refl _) (hK q hp)
 obtain⟨j,rfl⟩:=VU (show 0<=j by omega);have T:=S.upd hp.1;rw[<- hHx]at T;have b1:(i:Int)<n:=by omega
 have b2:(j:Int)<n:=by omega
 have w1:=Vt ((i:Int)+1) (by omega);have w2:=Vt ((j:Int) - 1) (by omega);refine W.sq ?_;simp only[go_sem,f8,f9,hlt];refine W.block (W.seq ?_);refine W.draw 14 [0,0,0,0,0,0,48,112,0,0,768,1792,4083,8179] Tryd.mixed (by kernel_rfl) (by kernel_rfl) ?_;simp only[go_sem,f0,f8,f9,T.live,T.len,T.cell (show i<n by omega),T.cell (show j<n by omega),b1,b2,T.s1 (show i<n by omega),T.s2 (i:=i) (show j<n by omega),T.jk,T.jm];refine⟨by omega,by omega,?_⟩;refine W.vs ?_;simp only[go_sem,f8,f9,w1,w2];refine⟨by rw[hHx];exact Nat.le_refl _,⟨i+1,(j:Int) - 1,cC q i j,rfl,rfl,by omega,by omega,by omega,hp.trans (.swap (by omega) (by omega) (by omega) (by omega) (by rw[hp.len,S.hl];exact hb)),?_⟩,by rw[h9];simp only[aa,aN];omega⟩;rw[T.u2,hHx,eh]
end
end Go.Proofs
namespace Go.Proofs
open Go.Hx
def mn (f:Nat->Nat)(l:List Nat)(a i j:Nat):Prop:=(∀ x y,a<=x->x<y->y<=i->x≠j->y≠j->f (l.getD x 0)<=f (l.getD y 0))/\∀ y,j<y->y<=i->f (l.getD j 0)<=f (l.getD y 0)
theorem mn.start {f:Nat->Nat}{l:List Nat}{a i:Nat}(h:dH f l a i):mn f l a i i:=⟨fun x y h0 h1 h2 h3 h4=>h x y h0 h1 (by omega),fun b h1 h2=>by omega⟩
theorem mn.done {f:Nat->Nat}{l:List Nat}{a i j:Nat}(h:mn f l a i j)(hj:j<=i)(hd:j<=a\/f (l.getD (j - 1) 0)<=f (l.getD j 0)):dH f l a (i+1):=by
 intro x y h0 h1 h2;by_cases hb:y=j
 ·subst hb;rcases hd with h3|h3
  ·omega
  ·by_cases ha:x=y - 1
   ·rw[ha];exact h3
   ·exact We (h.1 x (y - 1) h0 (by omega) (by omega) (by omega) (by omega)) h3
 ·by_cases ha:x=j
  ·subst ha;exact h.2 y h1 (by omega)
  ·exact h.1 x y h0 h1 (by omega) ha hb
theorem mn.step {f:Nat->Nat}{l:List Nat}{a i j:Nat}(h:mn f l a i j)(hj:j<=i)(hi:i<l.length)(h0:a<j)(hlt:f (l.getD j 0)<f (l.getD (j - 1) 0)):mn f (cC l j (j - 1)) a i (j - 1):=by
 have g:=TZ (l:=l) (i:=j) (j:=j - 1) (by omega) (by omega) (by omega);constructor
 ·intro x y hx h1 h2 h3 h4;rw[g x,g y,Vw h3,Vw h4];by_cases ha:x=j
  ·rw[Vx ha,Vw (by omega)];exact h.1 (j - 1) y (by omega) (by omega) h2 (by omega) (by omega)
  ·rw[Vw ha];by_cases hb:y=j
   ·rw[Vx hb];exact h.1 x (j - 1) hx (by omega) (by omega) ha (by omega)
   ·rw[Vw hb];exact h.1 x y hx h1 h2 ha hb
 ·intro b h1 h2;rw[g (j - 1),Vx rfl,g b,Vw (by omega)];by_cases hb:b=j
  ·rw[Vx hb];exact X1 hlt
  ·rw[Vw hb];exact h.2 b (by omega) h2
section
variable {cv:AVal} {f:Nat->Nat} {rid:Nat} {rb:Blk} {id g n a b:Nat} {l:List Nat} {H:AHeap}
set_option maxHeartbeats 4000000 in
theorem Sw (S:SH cv f rid rb id g n l H)(hab:a<=b)(hb:b<=n)(K:ARes->AHeap->Prop)(hK:∀ q,bq a b l q->dH f q a b->K (.ret (.tup [])) (H.upd id (nB g q))):
  ae Tryd.prog G0 67 [.own id g 0 n 1,aa a,aa b,cv] H K:=by
 have hn:=S.hn;have w0:=Vt ((a:Int)+1) (by omega);refine ae.cX (n:=53) (rs:=[]) Tryd.func67 rfl rfl rfl (by decide) (by simp) ?_;refine W.sq ?_;simp only[go_sem,w0];refine W.env fun E hE=>?_;have e0:E 0=.own id g 0 n 1:=by rw[hE];simp only[go_sem]
 have e1:E 1=aa a:=by rw[hE];simp only[go_sem]
 have e2:E 2=aa b:=by rw[hE];simp only[go_sem]
 have e3:E 3=cv:=by rw[hE];simp only[go_sem]
 have e8:E 8=aa ((a+1:Nat):Int):=by rw[hE];simp only[go_sem];rfl
 clear hE;refine W.block ?_;refine W.aG 9007199254737664 (by rfl) (fun ρ Hx=>∃ (i:Nat) (q:List Nat),ρ 8=aa i/\a<i/\(i<=b\/i=a+1)/\bq a b l q/\dH f q a i/\Hx=H.upd id (nB g q)) (fun ρ Hx=>b+1 - (iv (ρ 8)).toNat) ?_ ?_
 ·exact⟨a+1,l,e8,by omega,.inr rfl,.refl _ _ _,fun x y h1 h2 h3=>by omega,S.self.symm⟩
 rintro ρ Hx ⟨i,q,h8,hi1,hi,hq,hS,hHx⟩;refine W.en (fun E1=>E1 0=.own id g 0 n 1 /\ E1 1=aa a /\ E1 2=aa b /\ E1 3=cv /\ E1 8=aa i) (by simp only[go_sem,e0,e1,e2,e3,h8]) fun E1 ⟨f0,f1,f2,f3,f8⟩=>?_
 by_cases hib:(i:Int)<b;rotate_left
 ·refine W.vs ?_;simp only[go_sem,f8,f2,hib];rw[hHx];exact av.mk (by rw[aE];exact Nat.le_refl _) (hK q hq fun x y h1 h2 h3=>hS x y h1 h2 (by omega))
 refine W.sq ?_;simp only[go_sem,f8,f2,hib];refine W.seq (W.block ?_);refine W.sq ?_;simp only[go_sem,f8];refine W.en (fun E2=>E2 0=.own id g 0 n 1 /\ E2 1=aa a /\ E2 3=cv /\ E2 8=aa i /\ E2 9=aa i) (by simp only[go_sem,f0,f1,f3,f8]) fun E2 ⟨m0,m1,m3,m8,m9⟩=>?_
 refine W.block ?_;refine W.aG 9007199254479360 (by rfl) (fun ρ Hz=>∃ (j:Nat) (p:List Nat),ρ 9=aa j/\a<=j/\j<=i/\bq a b l p/\mn f p a i j/\Hz=H.upd id (nB g p)) (fun ρ Hz=>(iv (ρ 9)).toNat) ?_ ?_
 ·exact⟨i,q,m9,by omega,Nat.le_refl _,hq,.start hS,hHx⟩
 rintro ρ2 Hz ⟨j,p,h9,haj,hj,hp,hIn,hHz⟩;refine W.en (fun E3=>E3 0=.own id g 0 n 1 /\ E3 1=aa a /\ E3 3=cv /\ E3 8=aa i /\ E3 9=aa j) (by simp only[go_sem,m0,m1,m3,m8,h9]) fun E3 ⟨u0,u1,u3,u8,u9⟩=>?_
 have T:=S.upd hp.1;rw[<- hHz]at T;have i1:i<n:=by omega
 refine W.seq (W.cP (fun s'=>s'.H=Hz/\s'.ρ 0=.own id g 0 n 1/\s'.ρ 8=aa i/\s'.ρ 9=aa j/\s'.ρ 34=.lit (.bool (decide (a<j) && decide (f (p.getD j 0)<f (p.getD (j - 1) 0))))) ?_ ?_)
 ·refine W.draw 14 [0,0,3,7,15,15,15,111,239,15,15,1039,3599,7695] Tryd.mixed (by kernel_rfl) (by kernel_rfl) ?_;by_cases hjb:(j:Int) > a
  ·have wj:IntKind.i64.wrap ((j:Int) - 1)=((j - 1:Nat):Int):=(by rw[Vt _ (by omega)];omega);have b1:(j:Int)<n:=(by omega);have b2:((j - 1:Nat):Int)<n:=(by omega);simp only[go_sem,u0,u1,u3,u9,T.live,hjb,wj,T.cell (show j<n by omega),T.cell (show j - 1<n by omega),b1,b2];obtain⟨z,hz,hc⟩:=T.ask (show j<n by omega) (show j - 1<n by omega);refine hc _ ⟨trivial,?_⟩;have hd1:decide (a<j)=true:=VM (by omega);rw[hd1];by_cases hlt:f (p.getD j 0)<f (p.getD (j - 1) 0)
   ·have hlt':=hz.2 hlt;simp only[go_sem,u0,u8,u9,hlt',hlt]
    try rfl
   ·have hlt':¬ z<0:=fun h=>hlt (hz.1 h);simp only[go_sem,u0,u8,u9,hlt',hlt]
    try rfl
  ·simp only[go_sem,u0,u1,u8,u9,hjb];have hj0:decide (a<j)=false:=VZ (by omega);rw[hj0];rfl
 rintro⟨ρ3,Hq⟩ ⟨hHq,v0,v8,v9,v34⟩;simp only at hHq v0 v8 v9 v34;rw[hHq];clear hHq Hq;cases hfl:(decide (a<j) && decide (f (p.getD j 0)<f (p.getD (j - 1) 0))) with
 | false =>
  rw[hfl]at v34;refine W.cond (t:=false) v34 ?_;refine W.vs ?_;simp only[go_sem];have wi:=Vt ((i:Int)+1) (by omega);have hd:j<=a\/f (p.getD (j - 1) 0)<=f (p.getD j 0):=by
   by_cases h0:j<=a
   ·exact .inl h0
   ·rw[VM (by omega:a<j),Ym,WS]at hfl;exact .inr (by omega)
  have hS':=hIn.done hj hd;refine W.vs ?_;simp only[go_sem,v8,wi];exact⟨by rw[hHz,aE];exact Nat.le_refl _,⟨i+1,p,rfl,by omega,by omega,hp,hS',hHz⟩,by rw[h8];simp only[aa,aN];omega⟩
 | true =>
  rw[hfl]at v34;refine W.cond (t:=true) v34 ?_;have hfl2:a<j/\f (p.getD j 0)<f (p.getD (j - 1) 0):=by simpa using hfl
  have wj:IntKind.i64.wrap ((j:Int) - 1)=((j - 1:Nat):Int):=by rw[Vt _ (by omega)];omega
  have b1:(j:Int)<n:=by omega
  have b2:((j - 1:Nat):Int)<n:=by omega
  refine W.vs ?_;simp only[go_sem];refine W.seq (W.block ?_);refine W.draw 16 [0,0,0,0,8,0,0,64,224,480,0,0,3072,7168,16355,32739] Tryd.mixed (by kernel_rfl) (by kernel_rfl) ?_;simp only[go_sem,v0,v9,T.live,T.len,wj,T.cell (show j<n by omega),T.cell (show j - 1<n by omega),b1,b2,T.s1 (show j<n by omega),T.s2 (i:=j) (show j - 1<n by omega),T.jk,T.jm];refine⟨by omega,by omega,pO _ _ _ (by rfl) ?_⟩;simp only[go_sem,v9,wj];refine⟨by rw[hHx,hHz];simp only[aE];exact Nat.le_refl _,⟨j - 1,cC p j (j - 1),rfl,by omega,by omega,hp.trans (.swap (by omega) (by omega) (by omega) (by omega) (by rw[hp.len,S.hl];exact hb)),hIn.step hj (by rw[hp.len,S.hl];exact i1) hfl2.1 hfl2.2,?_⟩,by rw[h9];simp only[aa,aN];omega⟩;rw[T.u2,hHz,eh]
end
end Go.Proofs
namespace Go.Proofs
open Go.Hx
section
variable {cv:AVal} {f:Nat->Nat} {rid:Nat} {rb:Blk} {id g n a b:Nat} {l:List Nat} {H:AHeap}
def kB (f:Nat->Nat)(q:List Nat)(a b i j:Nat):Prop:=a<i/\i<=j+1/\j<b/\(∀ k,a<k->k<i->f (q.getD k 0)<f (q.getD a 0))/\∀ k,j<k->k<b->f (q.getD a 0)<=f (q.getD k 0)
theorem kB.done {f:Nat->Nat}{q:List Nat}{a b i j:Nat}(h:kB f q a b i j)(hij:j<i)(hb:b<=q.length):nD f (cC q j a) a b j:=by
 obtain⟨h1,h2,h3,h4,h5⟩:=h;have g:=fun k=>tg (l:=q) (i:=j) (j:=a) (by omega) (by omega) k;have ej:(cC q j a).getD j 0=q.getD a 0:=by
  rw[g];split
  ·rename_i e;rw[e]
  ·rw[Vx rfl]
 refine⟨fun k k1 k2=>?_,fun k k1 k2=>?_⟩
 ·rw[ej,g];split
  ·exact X1 (h4 j (by omega) (by omega))
  ·rw[Vw (by omega)];exact X1 (h4 k (by omega) (by omega))
 ·rw[ej,g,Vw (by omega),Vw (by omega)];exact h5 k k1 k2
theorem kB.swap {f:Nat->Nat}{q:List Nat}{a b i j:Nat}(h:kB f q a b i j)(hij:i<=j)(hb:b<=q.length)(hi:¬ f (q.getD i 0)<f (q.getD a 0))(hj:f (q.getD j 0)<f (q.getD a 0)):i<j/\kB f (cC q i j) a b (i+1) (j - 1):=by
 obtain⟨h1,h2,h3,h4,h5⟩:=h;have hne:i≠j:=fun e=>hi (e ▸ hj);have g:=fun k=>tg (l:=q) (i:=i) (j:=j) (by omega) (by omega) k;have ea:(cC q i j).getD a 0=q.getD a 0:=by rw[g,Vw (by omega),Vw (by omega)]
 refine⟨by omega,by omega,by omega,by omega,fun k k1 k2=>?_,fun k k1 k2=>?_⟩
 ·rw[ea,g,Vw (by omega)];split
  ·exact hj
  ·exact h4 k k1 (by omega)
 ·rw[ea,g];split
  ·exact XI hi
  ·rw[Vw (by omega)];exact h5 k (by omega) k2
theorem kB.scan {f:Nat->Nat}{q:List Nat}{a b i j x y:Nat}(h:kB f q a b i j)(h1:i<=x)(h2:x<=j+1)(h3:∀ k,i<=k->k<x->f (q.getD k 0)<f (q.getD a 0))(h4:y<=j)(h5:x<=y+1)(h6:∀ k,y<k->k<=j->f (q.getD a 0)<=f (q.getD k 0)):kB f q a b x y:=by
 obtain⟨p1,p2,p3,p4,p5⟩:=h;refine⟨by omega,by omega,by omega,fun k k1 k2=>?_,fun k k1 k2=>?_⟩
 ·rcases VR k i with hk|hk
  ·exact p4 k k1 hk
  ·exact h3 k hk k2
 ·rcases VR j k with hk|hk
  ·exact p5 k hk k2
  ·exact h6 k k1 hk
set_option maxHeartbeats 16000000 in
theorem Sx {p:Nat}(S:SH cv f rid rb id g n l H)(hap:a<=p)(hpb:p<b)(hb:b<=n)(K:ARes->AHeap->Prop)(hK:∀ q m fl,bq a b l q->nD f q a b m->a<=m->m<b->K (.ret (.tup [aa (m:Nat),.lit (.bool fl)])) (H.upd id (nB g q))):
  ae Tryd.prog G0 74 [.own id g 0 n 1,aa a,aa b,aa p,cv] H K:=by
 have hn:=S.hn;have ba:(a:Int)<n:=by omega
 have bp:(p:Int)<n:=by omega
 have w0:IntKind.i64.wrap ((a:Int)+1)=((a+1:Nat):Int):=by rw[Vt _ (by omega)];omega
 have w1:IntKind.i64.wrap ((b:Int) - 1)=((b - 1:Nat):Int):=by rw[Vt _ (by omega)];omega
 refine ae.cX (n:=178) (rs:=[.tmp 10,.tmp 11]) Tryd.func74 rfl rfl rfl (by decide) (by simp) ?_;refine W.sq ?_;simp only[go_sem];refine W.seq ?_;refine W.draw 14 [0,0,0,0,0,0,48,112,0,0,768,1792,4083,8179] Tryd.mixed (by kernel_rfl) (by kernel_rfl) ?_;simp only[go_sem,S.live,S.len,S.cell (show a<n by omega),S.cell (show p<n by omega),ba,bp,S.s1 (show a<n by omega),S.s2 (i:=a) (show p<n by omega),S.jk,S.jm];refine⟨by omega,by omega,?_⟩;rw[S.u2];obtain⟨q0,hq0⟩:∃ q0,q0=cC l a p:=⟨_,rfl⟩
 rw[<- hq0];have hp0:bq a b l q0:=by rw[hq0];exact .swap (Nat.le_refl _) (by omega) hap hpb (by rw[S.hl];exact hb)
 clear hq0;have T0:=S.upd hp0.1;obtain⟨H0,hH0⟩:∃ H0,H0=H.upd id (nB g q0):=⟨_,rfl⟩
 have n0:H0.next=H.next:=by rw[hH0];rfl
 rw[<- hH0]at T0 ⊢;refine W.sq ?_;simp only[go_sem,w0,w1];refine W.en (fun E=>E 0=.own id g 0 n 1 /\ E 1=aa a /\ E 4=cv /\ E 12=aa ((a+1:Nat):Int) /\ E 13=aa ((b - 1:Nat):Int)) (by simp only[go_sem]) fun E ⟨e0,e1,e4,e12,e13⟩=>?_
 have I0:kB f q0 a b (a+1) (b - 1):=⟨by omega,by omega,by omega,fun k k1 k2=>by omega,fun k k1 k2=>by omega⟩
 obtain⟨i0,hi0⟩:∃ i0,i0=a+1:=⟨_,rfl⟩
 obtain⟨j0,hj0⟩:∃ j0,j0=b - 1:=⟨_,rfl⟩
 rw[<- hi0]at e12 I0;rw[<- hj0]at e13 I0;refine W.cP (fun s'=>s'.H=H0/\s'.ρ 0=.own id g 0 n 1/\s'.ρ 1=aa a/\s'.ρ 4=cv/\s'.ρ 13=aa j0/\∃ u:Nat,s'.ρ 12=aa u/\(i0<=u/\u<=j0+1/\∀ k,i0<=k->k<u->f ((q0).getD k 0)<f ((q0).getD a 0))/\(u<=j0->¬ f ((q0).getD u 0)<f ((q0).getD a 0))) ?_ ?_
 ·refine W.block ?_;refine W.aG 1125895611879424 (by kernel_rfl) (fun ρ Hk=>Hk=H0/\∃ u:Nat,ρ 12=aa u/\(i0<=u/\u<=j0+1/\∀ k,i0<=k->k<u->f ((q0).getD k 0)<f ((q0).getD a 0))) (fun ρ _=>j0+1 - (iv (ρ 12)).toNat) ?_ ?_
  ·exact⟨rfl,i0,e12,Nat.le_refl _,by omega,fun k h1 h2=>by omega⟩
  rintro ρ Hk ⟨hHk,u,hx,x1,x2,x3⟩;rw[hHk];refine W.en (fun F=>F 0=.own id g 0 n 1 /\ F 1=aa a /\ F 4=cv /\ F 12=aa u /\ F 13=aa j0) (by simp only[go_sem,e0,e1,e4,hx,e13]) fun F ⟨d0,d1,d4,d12,d13⟩=>?_
  refine W.seq (W.cP (fun s'=>s'.H=H0/\s'.ρ 0=.own id g 0 n 1/\s'.ρ 1=aa a/\s'.ρ 4=cv/\s'.ρ 12=aa u/\s'.ρ 13=aa j0/\s'.ρ 47=.lit (.bool (decide (u<=j0) && decide (f ((q0).getD u 0)<f ((q0).getD a 0))))) ?_ ?_)
  ·refine W.draw 13 [0,0,3,7,15,15,15,111,239,15,15,1551,3599] Tryd.mixed (by kernel_rfl) (by kernel_rfl) ?_;by_cases hc:(u:Int)<=j0
   ·have b1:(u:Int)<n:=(by omega);simp only[go_sem,d0,d1,d4,d12,d13,T0.live,hc,T0.cell (show u<n by omega),T0.cell (show a<n by omega),b1,ba];obtain⟨z,hz,hcc⟩:=T0.ask (show u<n by omega) (show a<n by omega);refine hcc _ ⟨trivial,?_⟩;have hd1:decide (u<=j0)=true:=VM (by omega);rw[hd1];by_cases hlt:f ((q0).getD u 0)<f ((q0).getD a 0)
    ·have hlt':=hz.2 hlt;simp only[go_sem,d0,d1,d4,d12,d13,hlt',hlt]
     try rfl
    ·have hlt':¬ z<0:=fun h=>hlt (hz.1 h);simp only[go_sem,d0,d1,d4,d12,d13,hlt',hlt]
     try rfl
   ·simp only[go_sem,d0,d1,d4,d12,d13,hc];have hj0:decide (u<=j0)=false:=VZ (by omega);rw[hj0];rfl
  rintro⟨ρ3,Hs⟩ ⟨hHs,v0,v1,v4,v12,v13,vc⟩;simp only at hHs v0 v1 v4 v12 v13 vc;rw[hHs];clear hHs Hs;cases hfl:(decide (u<=j0) && decide (f ((q0).getD u 0)<f ((q0).getD a 0))) with
  | false =>
   rw[hfl]at vc;refine W.cond (t:=false) vc ?_;refine W.vs ?_;simp only[go_sem];refine⟨v0,v1,v4,v13,u,v12,⟨x1,x2,x3⟩,fun h hh=>?_⟩;rw[VM h,VM hh]at hfl;cases hfl
  | true =>
   rw[hfl]at vc;refine W.cond (t:=true) vc ?_;have hfl2:(u<=j0)/\f ((q0).getD u 0)<f ((q0).getD a 0):=(by simpa using hfl);have wx:=Vt ((u:Int)+1) (by omega);refine W.vs ?_;simp only[go_sem];refine W.vs ?_;simp only[go_sem,v12,wx];exact⟨⟨u+1,rfl,by omega,by omega,fun k h1 h2=>by
    by_cases hk:k=u
    ·rw[hk];exact hfl2.2
    ·exact x3 k h1 (by omega)⟩,by rw[hx];simp only[aa,aN];omega⟩
 rintro⟨ρa,Ha⟩ ⟨hHa,a0,a1,a4,a13,x,a12,⟨x1,x2,x3⟩,x4⟩;simp only at hHa a0 a1 a4 a13 a12;rw[hHa];clear hHa Ha;refine W.cP (fun s'=>s'.H=H0/\s'.ρ 0=.own id g 0 n 1/\s'.ρ 1=aa a/\s'.ρ 4=cv/\s'.ρ 12=aa x/\∃ u:Nat,s'.ρ 13=aa u/\(u<=j0/\x<=u+1/\∀ k,u<k->k<=j0->f ((q0).getD a 0)<=f ((q0).getD k 0))/\(x<=u->f ((q0).getD u 0)<f ((q0).getD a 0))) ?_ ?_
 ·refine W.block ?_;refine W.aG 590294684458798817280 (by kernel_rfl) (fun ρ Hk=>Hk=H0/\∃ u:Nat,ρ 13=aa u/\(u<=j0/\x<=u+1/\∀ k,u<k->k<=j0->f ((q0).getD a 0)<=f ((q0).getD k 0))) (fun ρ _=>(iv (ρ 13)).toNat) ?_ ?_
  ·exact⟨rfl,j0,a13,Nat.le_refl _,by omega,fun k h1 h2=>by omega⟩
  rintro ρ Hk ⟨hHk,u,hx,x1,x2,x3⟩;rw[hHk];refine W.en (fun F=>F 0=.own id g 0 n 1 /\ F 1=aa a /\ F 4=cv /\ F 12=aa x /\ F 13=aa u) (by simp only[go_sem,a0,a1,a4,a12,hx]) fun F ⟨d0,d1,d4,d12,d13⟩=>?_
  refine W.seq (W.cP (fun s'=>s'.H=H0/\s'.ρ 0=.own id g 0 n 1/\s'.ρ 1=aa a/\s'.ρ 4=cv/\s'.ρ 12=aa x/\s'.ρ 13=aa u/\s'.ρ 66=.lit (.bool (decide (x<=u) && !decide (f ((q0).getD u 0)<f ((q0).getD a 0))))) ?_ ?_)
  ·refine W.draw 13 [0,0,3,7,15,15,15,111,239,15,15,1551,3599] Tryd.mixed (by kernel_rfl) (by kernel_rfl) ?_;by_cases hc:(x:Int)<=u
   ·have b1:(u:Int)<n:=(by omega);simp only[go_sem,d0,d1,d4,d12,d13,T0.live,hc,T0.cell (show u<n by omega),T0.cell (show a<n by omega),b1,ba];obtain⟨z,hz,hcc⟩:=T0.ask (show u<n by omega) (show a<n by omega);refine hcc _ ⟨trivial,?_⟩;have hd1:decide (x<=u)=true:=VM (by omega);rw[hd1];by_cases hlt:f ((q0).getD u 0)<f ((q0).getD a 0)
    ·have hlt':=hz.2 hlt;simp only[go_sem,d0,d1,d4,d12,d13,hlt',hlt]
     try rfl
    ·have hlt':¬ z<0:=fun h=>hlt (hz.1 h);simp only[go_sem,d0,d1,d4,d12,d13,hlt',hlt]
     try rfl
   ·simp only[go_sem,d0,d1,d4,d12,d13,hc];have hj0:decide (x<=u)=false:=VZ (by omega);rw[hj0];rfl
  rintro⟨ρ3,Hs⟩ ⟨hHs,v0,v1,v4,v12,v13,vc⟩;simp only at hHs v0 v1 v4 v12 v13 vc;rw[hHs];clear hHs Hs;cases hfl:(decide (x<=u) && !decide (f ((q0).getD u 0)<f ((q0).getD a 0))) with
  | false =>
   rw[hfl]at vc;refine W.cond (t:=false) vc ?_;refine W.vs ?_;simp only[go_sem];refine⟨v0,v1,v4,v12,u,v13,⟨x1,x2,x3⟩,fun h=>?_⟩;rw[VM h,Ym,Yi,WW]at hfl;exact hfl
  | true =>
   rw[hfl]at vc;refine W.cond (t:=true) vc ?_;have hfl2:(x<=u)/\¬ f ((q0).getD u 0)<f ((q0).getD a 0):=(by simpa using hfl);have wx:IntKind.i64.wrap ((u:Int) - 1)=((u - 1:Nat):Int):=(by rw[Vt _ (by omega)];omega);refine W.vs ?_;simp only[go_sem];refine W.vs ?_;simp only[go_sem,v13,wx];exact⟨⟨u - 1,rfl,by omega,by omega,fun k h1 h2=>by
    by_cases hk:k=u
    ·rw[hk];exact XI hfl2.2
    ·exact x3 k (by omega) h2⟩,by rw[hx];simp only[aa,aN];omega⟩
 rintro⟨ρb,Hb⟩ ⟨hHb,c0,c1,c4,c12,y,c13,⟨y1,y2,y3⟩,y4⟩;simp only at hHb c0 c1 c4 c13 c12;rw[hHb];clear hHb Hb;have I1:=I0.scan x1 x2 x3 y1 y2 y3;clear x1 x2 x3 y1 y2 y3 I0;have yb:=I1.2.2.1;have yn:y<n:=by omega
 have xn:x<=n:=by have:=I1.2.1;omega
 have ax:a<x:=I1.1;have ay:a<=y:=by have:=I1.2.1;omega
 have by1:(y:Int)<n:=by omega
 have pl0:=hp0.len;rw[S.hl]at pl0;by_cases hxy:(x:Int) > y
 ·refine W.seq ?_;refine W.vs ?_;simp only[go_sem,c12,c13,hxy];refine W.draw 14 [0,0,0,0,0,0,48,112,0,0,768,1792,4083,8179] Tryd.mixed (by kernel_rfl) (by kernel_rfl) ?_;simp only[go_sem,c0,c1,c13,T0.live,T0.len,T0.cell (show a<n by omega),T0.cell yn,ba,by1,T0.s1 yn,T0.s2 (i:=y) (show a<n by omega),T0.jk,T0.jm];refine⟨by omega,by omega,?_⟩;rw[T0.u2,hH0,eh];exact av.mk (Nat.le_refl _) (hK _ y true (hp0.trans (.swap (by omega) (by omega) (Nat.le_refl _) (by omega) (by rw[pl0];exact hb))) (I1.done (by omega) (by rw[pl0];exact hb)) ay I1.2.2.1)
 obtain⟨xy,I2⟩:=I1.swap (by omega) (by rw[pl0];exact hb) (x4 (by have:=I1.2.2.1;omega)) (y4 (by omega));have bx1:(x:Int)<n:=by omega
 have wx:IntKind.i64.wrap ((x:Int)+1)=((x+1:Nat):Int):=by rw[Vt _ (by omega)];omega
 have wy:IntKind.i64.wrap ((y:Int) - 1)=((y - 1:Nat):Int):=by rw[Vt _ (by omega)];omega
 refine W.seq ?_;refine W.vs ?_;simp only[go_sem,c12,c13,hxy];refine W.seq ?_;refine W.draw 14 [0,0,0,0,0,0,48,112,0,0,768,1792,4083,8179] Tryd.mixed (by kernel_rfl) (by kernel_rfl) ?_;simp only[go_sem,c0,c12,c13,T0.live,T0.len,T0.cell (show x<n by omega),T0.cell yn,bx1,by1,T0.s1 (show x<n by omega),T0.s2 (i:=x) yn,T0.jk,T0.jm];refine⟨by omega,by omega,?_⟩;rw[T0.u2];refine W.sq ?_;simp only[go_sem,c12,wx];refine W.sq ?_;simp only[go_sem,c13,wy];rw[hH0,eh];refine W.en (fun E2=>E2 0=.own id g 0 n 1 /\ E2 1=aa a /\ E2 4=cv /\ E2 12=aa ((x+1:Nat):Int) /\ E2 13=aa ((y - 1:Nat):Int)) (by simp only[go_sem,c0,c1,c4,c12,c13]) fun E2 ⟨k0,k1,k4,k12,k13⟩=>?_
 have hp1:bq a b l (cC q0 x y):=hp0.trans (.swap (by omega) (by have:=I1.2.2.1;omega) (by omega) I1.2.2.1 (by rw[pl0];exact hb));refine W.cP (fun s'=>∃ (q:List Nat) (i j:Nat),s'.H=H.upd id (nB g q)/\bq a b l q/\kB f q a b i j/\j<i/\s'.ρ 0=.own id g 0 n 1/\s'.ρ 1=aa a/\s'.ρ 13=aa j) ?_ ?_
 ·refine W.block ?_;refine W.aG 11692013098647223305064659454426923309352957784064 (by kernel_rfl) (fun ρ Hx=>∃ (q:List Nat) (i j:Nat),ρ 12=aa i/\ρ 13=aa j/\bq a b l q/\kB f q a b i j/\Hx=H.upd id (nB g q)) (fun ρ Hx=>(iv (ρ 13)).toNat) ?_ ?_
  ·exact⟨_,_,_,k12,k13,hp1,I2,rfl⟩
  rintro ρq Hx ⟨q,i,j,h12,h13,hp,I,hHx⟩;refine W.en (fun E3=>E3 0=.own id g 0 n 1 /\ E3 1=aa a /\ E3 4=cv /\ E3 12=aa i /\ E3 13=aa j) (by simp only[go_sem,k0,k1,k4,h12,h13]) fun E3 ⟨m0,m1,m4,m12,m13⟩=>?_
  have T:=S.upd hp.1;rw[<- hHx]at T;have hxn:Hx.next=H.next:=by rw[hHx];rfl
  have Ib:=I.2.2.1;have Ia:=I.1;have Ij:=I.2.1;refine W.block ?_;refine W.cP (fun s'=>s'.H=Hx/\s'.ρ 0=.own id g 0 n 1/\s'.ρ 1=aa a/\s'.ρ 4=cv/\s'.ρ 13=aa j/\∃ u:Nat,s'.ρ 12=aa u/\(i<=u/\u<=j+1/\∀ k,i<=k->k<u->f ((q).getD k 0)<f ((q).getD a 0))/\(u<=j->¬ f ((q).getD u 0)<f ((q).getD a 0))) ?_ ?_
  ·refine W.block ?_;refine W.aG 10633783401460119679889608587740188672 (by kernel_rfl) (fun ρ Hk=>Hk=Hx/\∃ u:Nat,ρ 12=aa u/\(i<=u/\u<=j+1/\∀ k,i<=k->k<u->f ((q).getD k 0)<f ((q).getD a 0))) (fun ρ _=>j+1 - (iv (ρ 12)).toNat) ?_ ?_
   ·exact⟨rfl,i,m12,Nat.le_refl _,by omega,fun k h1 h2=>by omega⟩
   rintro ρ Hk ⟨hHk,u,hx,x1,x2,x3⟩;rw[hHk];refine W.env fun F hF=>?_;have d0:F 0=.own id g 0 n 1:=(by rw[hF];simp only[go_sem,m0]);have d1:F 1=aa a:=(by rw[hF];simp only[go_sem,m1]);have d4:F 4=cv:=(by rw[hF];simp only[go_sem,m4]);have d12:F 12=aa u:=(by rw[hF];simp only[go_sem,hx]);have d13:F 13=aa j:=(by rw[hF];simp only[go_sem,m13]);clear hF;refine W.seq (W.cP (fun s'=>s'.H=Hx/\s'.ρ 0=.own id g 0 n 1/\s'.ρ 1=aa a/\s'.ρ 4=cv/\s'.ρ 12=aa u/\s'.ρ 13=aa j/\s'.ρ 120=.lit (.bool (decide (u<=j) && decide (f ((q).getD u 0)<f ((q).getD a 0))))) ?_ ?_)
   ·refine W.draw 13 [0,0,3,7,15,15,15,111,239,15,15,1551,3599] Tryd.mixed (by kernel_rfl) (by kernel_rfl) ?_;by_cases hc:(u:Int)<=j
    ·have b1:(u:Int)<n:=(by omega);simp only[go_sem,d0,d1,d4,d12,d13,T.live,hc,T.cell (show u<n by omega),T.cell (show a<n by omega),b1,ba];obtain⟨z,hz,hcc⟩:=T.ask (show u<n by omega) (show a<n by omega);refine hcc _ ⟨trivial,?_⟩;have hd1:decide (u<=j)=true:=VM (by omega);rw[hd1];by_cases hlt:f ((q).getD u 0)<f ((q).getD a 0)
     ·have hlt':=hz.2 hlt;simp only[go_sem,d0,d1,d4,d12,d13,hlt',hlt]
      try rfl
     ·have hlt':¬ z<0:=fun h=>hlt (hz.1 h);simp only[go_sem,d0,d1,d4,d12,d13,hlt',hlt]
      try rfl
    ·simp only[go_sem,d0,d1,d4,d12,d13,hc];have hj0:decide (u<=j)=false:=VZ (by omega);rw[hj0];rfl
   rintro⟨ρ3,Hs⟩ ⟨hHs,v0,v1,v4,v12,v13,vc⟩;simp only at hHs v0 v1 v4 v12 v13 vc;rw[hHs];clear hHs Hs;cases hfl:(decide (u<=j) && decide (f ((q).getD u 0)<f ((q).getD a 0))) with
   | false =>
    rw[hfl]at vc;refine W.cond (t:=false) vc ?_;refine W.vs ?_;simp only[go_sem];refine⟨v0,v1,v4,v13,u,v12,⟨x1,x2,x3⟩,fun h hh=>?_⟩;rw[VM h,VM hh]at hfl;cases hfl
   | true =>
    rw[hfl]at vc;refine W.cond (t:=true) vc ?_;have hfl2:(u<=j)/\f ((q).getD u 0)<f ((q).getD a 0):=(by simpa using hfl);have wx:=Vt ((u:Int)+1) (by omega);refine W.vs ?_;simp only[go_sem];refine W.vs ?_;simp only[go_sem,v12,wx];exact⟨⟨u+1,rfl,by omega,by omega,fun k h1 h2=>by
     by_cases hk:k=u
     ·rw[hk];exact hfl2.2
     ·exact x3 k h1 (by omega)⟩,by rw[hx];simp only[aa,aN];omega⟩
  rintro⟨ρa,Ha⟩ ⟨hHa,a0,a1,a4,a13,x,a12,⟨x1,x2,x3⟩,x4⟩;simp only at hHa a0 a1 a4 a13 a12;rw[hHa];clear hHa Ha;refine W.cP (fun s'=>s'.H=Hx/\s'.ρ 0=.own id g 0 n 1/\s'.ρ 1=aa a/\s'.ρ 4=cv/\s'.ρ 12=aa x/\∃ u:Nat,s'.ρ 13=aa u/\(u<=j/\x<=u+1/\∀ k,u<k->k<=j->f ((q).getD a 0)<=f ((q).getD k 0))/\(x<=u->f ((q).getD u 0)<f ((q).getD a 0))) ?_ ?_
  ·refine W.block ?_;refine W.aG 5575175665808689506056946337705608133746688 (by kernel_rfl) (fun ρ Hk=>Hk=Hx/\∃ u:Nat,ρ 13=aa u/\(u<=j/\x<=u+1/\∀ k,u<k->k<=j->f ((q).getD a 0)<=f ((q).getD k 0))) (fun ρ _=>(iv (ρ 13)).toNat) ?_ ?_
   ·exact⟨rfl,j,a13,Nat.le_refl _,by omega,fun k h1 h2=>by omega⟩
   rintro ρ Hk ⟨hHk,u,hx,x1,x2,x3⟩;rw[hHk];refine W.env fun F hF=>?_;have d0:F 0=.own id g 0 n 1:=(by rw[hF];simp only[go_sem,a0]);have d1:F 1=aa a:=(by rw[hF];simp only[go_sem,a1]);have d4:F 4=cv:=(by rw[hF];simp only[go_sem,a4]);have d12:F 12=aa x:=(by rw[hF];simp only[go_sem,a12]);have d13:F 13=aa u:=(by rw[hF];simp only[go_sem,hx]);clear hF;refine W.seq (W.cP (fun s'=>s'.H=Hx/\s'.ρ 0=.own id g 0 n 1/\s'.ρ 1=aa a/\s'.ρ 4=cv/\s'.ρ 12=aa x/\s'.ρ 13=aa u/\s'.ρ 139=.lit (.bool (decide (x<=u) && !decide (f ((q).getD u 0)<f ((q).getD a 0))))) ?_ ?_)
   ·refine W.draw 13 [0,0,3,7,15,15,15,111,239,15,15,1551,3599] Tryd.mixed (by kernel_rfl) (by kernel_rfl) ?_;by_cases hc:(x:Int)<=u
    ·have b1:(u:Int)<n:=(by omega);simp only[go_sem,d0,d1,d4,d12,d13,T.live,hc,T.cell (show u<n by omega),T.cell (show a<n by omega),b1,ba];obtain⟨z,hz,hcc⟩:=T.ask (show u<n by omega) (show a<n by omega);refine hcc _ ⟨trivial,?_⟩;have hd1:decide (x<=u)=true:=VM (by omega);rw[hd1];by_cases hlt:f ((q).getD u 0)<f ((q).getD a 0)
     ·have hlt':=hz.2 hlt;simp only[go_sem,d0,d1,d4,d12,d13,hlt',hlt]
      try rfl
     ·have hlt':¬ z<0:=fun h=>hlt (hz.1 h);simp only[go_sem,d0,d1,d4,d12,d13,hlt',hlt]
      try rfl
    ·simp only[go_sem,d0,d1,d4,d12,d13,hc];have hj0:decide (x<=u)=false:=VZ (by omega);rw[hj0];rfl
   rintro⟨ρ3,Hs⟩ ⟨hHs,v0,v1,v4,v12,v13,vc⟩;simp only at hHs v0 v1 v4 v12 v13 vc;rw[hHs];clear hHs Hs;cases hfl:(decide (x<=u) && !decide (f ((q).getD u 0)<f ((q).getD a 0))) with
   | false =>
    rw[hfl]at vc;refine W.cond (t:=false) vc ?_;refine W.vs ?_;simp only[go_sem];refine⟨v0,v1,v4,v12,u,v13,⟨x1,x2,x3⟩,fun h=>?_⟩;rw[VM h,Ym,Yi,WW]at hfl;exact hfl
   | true =>
    rw[hfl]at vc;refine W.cond (t:=true) vc ?_;have hfl2:(x<=u)/\¬ f ((q).getD u 0)<f ((q).getD a 0):=(by simpa using hfl);have wx:IntKind.i64.wrap ((u:Int) - 1)=((u - 1:Nat):Int):=(by rw[Vt _ (by omega)];omega);refine W.vs ?_;simp only[go_sem];refine W.vs ?_;simp only[go_sem,v13,wx];exact⟨⟨u - 1,rfl,by omega,by omega,fun k h1 h2=>by
     by_cases hk:k=u
     ·rw[hk];exact XI hfl2.2
     ·exact x3 k (by omega) h2⟩,by rw[hx];simp only[aa,aN];omega⟩
  rintro⟨ρb,Hb⟩ ⟨hHb,c0,c1,c4,c12,y,c13,⟨y1,y2,y3⟩,y4⟩;simp only at hHb c0 c1 c4 c13 c12;rw[hHb];clear hHb Hb;have I1:=I.scan x1 x2 x3 y1 y2 y3;clear x2 x3 y2 y3 I;have yb:=I1.2.2.1;have yn:y<n:=by omega
  have xn:x<=n:=by have:=I1.2.1;omega
  have ax:a<x:=I1.1;have ay:a<=y:=by have:=I1.2.1;omega
  have by1:(y:Int)<n:=by omega
  have pl0:=hp.len;rw[S.hl]at pl0;by_cases hxy:(x:Int) > y
  ·refine W.vs ?_;simp only[go_sem,c12,c13,hxy];exact⟨q,x,y,hHx,hp,I1,by omega,c0,c1,rfl⟩
  obtain⟨xy,I2⟩:=I1.swap (by omega) (by rw[pl0];exact hb) (x4 (by omega)) (y4 (by omega));have bx1:(x:Int)<n:=by omega
  have wx:IntKind.i64.wrap ((x:Int)+1)=((x+1:Nat):Int):=by rw[Vt _ (by omega)];omega
  have wy:IntKind.i64.wrap ((y:Int) - 1)=((y - 1:Nat):Int):=by rw[Vt _ (by omega)];omega
  refine W.seq ?_;refine W.vs ?_;simp only[go_sem,c12,c13,hxy];refine W.seq ?_;refine W.draw 14 [0,0,0,0,0,0,48,112,0,0,768,1792,4083,8179] Tryd.mixed (by kernel_rfl) (by kernel_rfl) ?_;simp only[go_sem,c0,c12,c13,T.live,T.len,T.cell (show x<n by omega),T.cell yn,bx1,by1,T.s1 (show x<n by omega),T.s2 (i:=x) yn,T.jk,T.jm];refine⟨by omega,by omega,?_⟩;rw[T.u2];refine W.vs ?_;simp only[go_sem,c12,c13,wx,wy];refine⟨by simp only[aE];omega,⟨cC q x y,x+1,y - 1,rfl,rfl,hp.trans (.swap (by omega) (by omega) (by omega) (by omega) (by rw[pl0];exact hb)),I2,?_⟩,by rw[h13];simp only[aa,aN];omega⟩;rw[hHx,eh]
 rintro⟨ρd,Hd⟩ ⟨q,i,j,hHd,hp,I,hji,q0',q1,q13⟩;simp only at hHd q0' q1 q13;have T:=S.upd hp.1;rw[<- hHd]at T;have Ib:=I.2.2.1;have Ia:=I.1;have Ij:=I.2.1;have jn:j<n:=by omega
 have bj:(j:Int)<n:=by omega
 have pl:=hp.len;rw[S.hl]at pl;refine W.seq ?_;refine W.draw 14 [0,0,0,0,0,0,48,112,0,0,768,1792,4083,8179] Tryd.mixed (by kernel_rfl) (by kernel_rfl) ?_;simp only[go_sem,q0',q1,q13,T.live,T.len,T.cell (show a<n by omega),T.cell jn,ba,bj,T.s1 jn,T.s2 (i:=j) (show a<n by omega),T.jk,T.jm];refine⟨by omega,by omega,?_⟩;rw[T.u2];refine W.vs ?_;simp only[go_sem,q13];rw[hHd,eh];exact av.mk (Nat.le_refl _) (hK _ j false (hp.trans (.swap (by omega) (by omega) (Nat.le_refl _) (by omega) (by rw[pl];exact hb))) (I.done hji (by rw[pl];exact hb)) (by omega) Ib)
end
end Go.Proofs
namespace Go.Proofs
open Go.Hx
theorem dH.snoc {f:Nat->Nat}{q:List Nat}{a i:Nat}(h:dH f q a i)(ha:a<i)(hi:¬ f (q.getD i 0)<f (q.getD (i - 1) 0)):dH f q a (i+1):=fun x y h1 h2 h3=>by
 by_cases hy:y=i
 ·subst hy;by_cases hx:x=y - 1
  ·rw[hx];omega
  ·have:=h x (y - 1) h1 (by omega) (by omega);omega
 ·exact h x y h1 h2 (by omega)
theorem dH.keep {f:Nat->Nat}{q p:List Nat}{a i b:Nat}(h:dH f q a i)(hp:bq i b q p):dH f p a i:=fun x y h1 h2 h3=>by
 rw[hp.2 x (by omega),hp.2 y (by omega)];exact h x y h1 h2 h3
section
variable {cv:AVal} {f:Nat->Nat} {rid:Nat} {rb:Blk} {id g n a b:Nat} {l:List Nat} {H:AHeap}
set_option maxHeartbeats 16000000 in
theorem Sy (S:SH cv f rid rb id g n l H)(hab:a<b)(hb:b<=n)(hB:Bl f l a b)(K:ARes->AHeap->Prop)(hK:∀ q fl,bq a b l q->(fl=true->dH f q a b)->K (.ret (.lit (.bool fl))) (H.upd id (nB g q))):
  ae Tryd.prog G0 72 [.own id g 0 n 1,aa a,aa b,cv] H K:=by
 have hn:=S.hn;have w0:IntKind.i64.wrap ((a:Int)+1)=((a+1:Nat):Int):=by rw[Vt _ (by omega)];omega
 refine ae.cX (n:=141) (rs:=[.tmp 8]) Tryd.func72 rfl rfl rfl (by decide) (by simp) ?_;refine W.sq ?_;simp only[go_sem];refine W.sq ?_;simp only[go_sem,w0];refine W.sq ?_;simp only[go_sem];refine W.en (fun E=>E 0=.own id g 0 n 1 /\ E 1=aa a /\ E 2=aa b /\ E 3=cv /\ E 9=aa ((a+1:Nat):Int) /\ E 10=aa 0) (by simp only[go_sem]) fun E ⟨e0,e1,e2,e3,e9,e10⟩=>?_
 refine W.aG 2787593149816327892691964784081045188222720 (by kernel_rfl) (fun ρ Hx=>∃ (c i:Nat) (q:List Nat),ρ 9=aa i/\ρ 10=aa c/\c<=5/\a<i/\i<=b/\bq a b l q/\dH f q a i/\Hx=H.upd id (nB g q)) (fun ρ Hx=>5 - (iv (ρ 10)).toNat) ?_ ?_
 ·exact⟨0,a+1,l,e9,e10,by omega,by omega,by omega,.refl _ _ _,fun x y h1 h2 h3=>by omega,S.self.symm⟩
 rintro ρ Hx ⟨c,i,q,h9,h10,hc5,hai,hib,hp,hS,hHx⟩;refine W.en (fun F=>F 0=.own id g 0 n 1 /\ F 1=aa a /\ F 2=aa b /\ F 3=cv /\ F 9=aa i /\ F 10=aa c) (by simp only[go_sem,e0,e1,e2,e3,h9,h10]) fun F ⟨d0,d1,d2,d3,d9,d10⟩=>?_
 by_cases hc:(c:Int)<5;rotate_left
 ·refine W.vs ?_;simp only[go_sem,d10,hc];rw[hHx];refine W.vs ?_;simp only[go_sem];exact av.mk (Nat.le_refl _) (hK q false hp fun h=>by cases h)
 have T:=S.upd hp.1;rw[<- hHx]at T;have wc:=Vt ((c:Int)+1) (by omega);refine W.sq ?_;simp only[go_sem,d10,hc];refine W.seq (W.block ?_);refine W.cP (fun s'=>s'.H=Hx/\s'.ρ 0=.own id g 0 n 1/\s'.ρ 1=aa a/\s'.ρ 2=aa b/\s'.ρ 3=cv/\s'.ρ 10=aa c/\∃ u:Nat,s'.ρ 9=aa u/\a<u/\u<=b/\dH f q a u/\(u<b->f (q.getD u 0)<f (q.getD (u - 1) 0))) ?_ ?_
 ·refine W.block ?_;refine W.aG 549755290112 (by kernel_rfl) (fun ρ Hk=>Hk=Hx/\∃ u:Nat,ρ 9=aa u/\a<u/\u<=b/\dH f q a u) (fun ρ _=>b - (iv (ρ 9)).toNat) ?_ ?_
  ·exact⟨rfl,i,by simp only[go_sem,d9],hai,hib,hS⟩
  rintro ρk Hk ⟨hHk,u,hu,u1,u2,u3⟩;rw[hHk];refine W.en (fun J=>J 0=.own id g 0 n 1 /\ J 1=aa a /\ J 2=aa b /\ J 3=cv /\ J 9=aa u /\ J 10=aa c) (by simp only[go_sem,d0,d1,d2,d3,hu,d10]) fun J ⟨m0,m1,m2,m3,m9,m10⟩=>?_
  refine W.seq (W.cP (fun s'=>s'.H=Hx/\s'.ρ 0=.own id g 0 n 1/\s'.ρ 1=aa a/\s'.ρ 2=aa b/\s'.ρ 3=cv/\s'.ρ 9=aa u/\s'.ρ 10=aa c/\s'.ρ 36=.lit (.bool (decide (u<b) && !decide (f (q.getD u 0)<f (q.getD (u - 1) 0))))) ?_ ?_)
  ·refine W.draw 14 [0,0,3,7,15,15,15,111,239,15,15,1039,3599,7695] Tryd.mixed (by kernel_rfl) (by kernel_rfl) ?_;by_cases hub:(u:Int)<b
   ·have b1:(u:Int)<n:=(by omega);have b2:((u - 1:Nat):Int)<n:=(by omega);have wj:IntKind.i64.wrap ((u:Int) - 1)=((u - 1:Nat):Int):=(by rw[Vt _ (by omega)];omega);simp only[go_sem,m0,m2,m3,m9,T.live,hub,wj,T.cell (show u<n by omega),T.cell (show u - 1<n by omega),b1,b2];obtain⟨z,hz,hcc⟩:=T.ask (show u<n by omega) (show u - 1<n by omega);refine hcc _ ⟨trivial,?_⟩;have hd1:decide (u<b)=true:=VM (by omega);rw[hd1];by_cases hlt:f (q.getD u 0)<f (q.getD (u - 1) 0)
    ·have hlt':=hz.2 hlt;simp only[go_sem,m0,m1,m2,m3,m9,m10,hlt',hlt]
     try rfl
    ·have hlt':¬ z<0:=fun h=>hlt (hz.1 h);simp only[go_sem,m0,m1,m2,m3,m9,m10,hlt',hlt]
     try rfl
   ·simp only[go_sem,m0,m1,m2,m3,m9,m10,hub];have hj0:decide (u<b)=false:=VZ (by omega);rw[hj0];rfl
  rintro⟨ρ3,Hs⟩ ⟨hHs,v0,v1,v2,v3,v9,v10,vc⟩;simp only at hHs v0 v1 v2 v3 v9 v10 vc;rw[hHs];clear hHs Hs;cases hfl:(decide (u<b) && !decide (f (q.getD u 0)<f (q.getD (u - 1) 0))) with
  | false =>
   rw[hfl]at vc;refine W.cond (t:=false) vc ?_;refine W.vs ?_;simp only[go_sem];refine⟨v0,v1,v2,v3,v10,u,v9,u1,u2,u3,fun h=>?_⟩;rw[VM h,Ym,Yi,WW]at hfl;exact hfl
  | true =>
   rw[hfl]at vc;refine W.cond (t:=true) vc ?_;have hfl2:u<b/\¬ f (q.getD u 0)<f (q.getD (u - 1) 0):=(by simpa using hfl);have wx:=Vt ((u:Int)+1) (by omega);refine W.vs ?_;simp only[go_sem];refine W.vs ?_;simp only[go_sem,v9,wx];exact⟨⟨u+1,rfl,by omega,by omega,u3.snoc u1 hfl2.2⟩,by rw[hu];simp only[aa,aN];omega⟩
 rintro⟨ρa,Ha⟩ ⟨hHa,a0,a1,a2,a3,a10,u,a9,u1,u2,u3,u4⟩;simp only at hHa a0 a1 a2 a3 a10 a9;rw[hHa];clear hHa Ha hS;by_cases hub:(u:Int)=b
 ·refine W.sq ?_;simp only[go_sem,a9,a2,hub];rw[hHx];exact av.mk (Nat.le_refl _) (hK q true hp fun _=>by rw[show b=u by omega];exact u3)
 have wba:=Vt ((b:Int) - (a:Int)) (by omega);by_cases h50:(b:Int) - a<50
 ·refine W.sq ?_;simp only[go_sem,a9,a2,hub];refine W.sq ?_;simp only[go_sem,a1,a2,wba,h50];rw[hHx];exact av.mk (Nat.le_refl _) (hK q false hp fun h=>by cases h)
 have hlt0:=u4 (by omega);have wu:IntKind.i64.wrap ((u:Int) - 1)=((u - 1:Nat):Int):=by rw[Vt _ (by omega)];omega
 have bu:(u:Int)<n:=by omega
 have bu1:((u - 1:Nat):Int)<n:=by omega
 have pl:=hp.len;rw[S.hl]at pl;refine W.sq ?_;simp only[go_sem,a9,a2,hub];refine W.sq ?_;simp only[go_sem,a1,a2,wba,h50];refine W.seq ?_;refine W.draw 16 [0,0,0,0,8,0,0,64,224,480,0,0,3072,7168,16355,32739] Tryd.mixed (by kernel_rfl) (by kernel_rfl) ?_;simp only[go_sem,a0,a9,T.live,T.len,wu,T.cell (show u<n by omega),T.cell (show u - 1<n by omega),bu,bu1,T.s1 (show u<n by omega),T.s2 (i:=u) (show u - 1<n by omega),T.jk,T.jm];refine⟨by omega,by omega,?_⟩;rw[T.u2,hHx,eh];obtain⟨q1,hq1⟩:∃ q1,q1=cC q u (u - 1):=⟨_,rfl⟩
 have pq1:bq (u - 1) (u+1) q q1:=by rw[hq1];exact .swap (by omega) (by omega) (Nat.le_refl _) (by omega) (by omega)
 rw[<- hq1];have hp1:bq a b l q1:=hp.trans (pq1.mono (by omega) (by omega));have hS1:dH f q1 a (u - 1):=(show dH f q a (u - 1) from fun x y h1 h2 h3=>u3 x y h1 h2 (by omega)).keep pq1;clear hq1 pq1;refine W.env fun M hM=>?_;have r0:M 0=.own id g 0 n 1:=by rw[hM];simp only[go_sem,a0]
 have r1:M 1=aa a:=by rw[hM];simp only[go_sem,a1]
 have r2:M 2=aa b:=by rw[hM];simp only[go_sem,a2]
 have r3:M 3=cv:=by rw[hM];simp only[go_sem,a3]
 have r9:M 9=aa u:=by rw[hM];simp only[go_sem,a9]
 have r10:M 10=aa c:=by rw[hM];simp only[go_sem,a10]
 clear hM;have wua:=Vt ((u:Int) - (a:Int)) (by omega);refine W.seq ?_;refine W.cP (fun s'=>s'.H=H.upd id (nB g q1)/\s'.ρ 0=.own id g 0 n 1/\s'.ρ 1=aa a/\s'.ρ 2=aa b/\s'.ρ 3=cv/\s'.ρ 9=aa u/\s'.ρ 10=aa c/\s'.ρ 65=.lit (.bool (decide ((2:Int)<=(u:Int) - a)))) ?_ ?_
 ·refine W.vs ?_;simp only[go_sem,r0,r1,r2,r3,r9,r10,wua]
 rintro⟨ρb,Hb⟩ ⟨hHb,c0,c1,c2,c3,c9,c10,c65⟩;simp only at hHb c0 c1 c2 c3 c9 c10 c65;rw[hHb];clear hHb Hb;have T1:=S.upd hp1.1;refine W.mono (Q:=fun ax s'=>ax=.normal/\s'.ρ 0=.own id g 0 n 1/\s'.ρ 1=aa a/\s'.ρ 2=aa b/\s'.ρ 3=cv/\s'.ρ 9=aa u/\s'.ρ 10=aa c/\∃ p,bq a b l p/\dH f p a u/\s'.H=H.upd id (nB g p)) ?_ ?_
 ·by_cases h2:(2:Int)<=(u:Int) - a;rotate_left
  ·refine W.cond (t:=false) (by rw[show ah G0 ρb (.tmp 65)=ρb 65 from rfl,c65,VZ h2]) ?_;refine W.vs ?_;simp only[go_sem];exact⟨c0,c1,c2,c3,c9,c10,q1,hp1,fun x y x1 x2 x3=>by omega,rfl⟩
  refine W.cond (t:=true) (by rw[show ah G0 ρb (.tmp 65)=ρb 65 from rfl,c65,VM h2]) ?_;refine W.sq ?_;simp only[go_sem,c9,wu];refine W.en (fun E4=>E4 0=.own id g 0 n 1 /\ E4 1=aa a /\ E4 2=aa b /\ E4 3=cv /\ E4 9=aa u /\ E4 10=aa c /\ E4 11=aa ((u - 1:Nat):Int)) (by simp only[go_sem,c0,c1,c2,c3,c9,c10]) fun E4 ⟨k0,k1,k2,k3,k9,k10,k11⟩=>?_
  refine W.block ?_;refine W.aG 2535301200161310897814053586944 (by kernel_rfl) (fun ρ Hz=>∃ (j:Nat) (p:List Nat),ρ 11=aa j/\a<=j/\j<=u - 1/\bq a b l p/\mn f p a (u - 1) j/\Hz=H.upd id (nB g p)) (fun ρ Hz=>(iv (ρ 11)).toNat) ?_ ?_
  ·exact⟨u - 1,q1,k11,by omega,Nat.le_refl _,hp1,.start hS1,rfl⟩
  rintro ρ2 Hz ⟨j,p,h11,haj,hj,hpp,hIn,hHz⟩;refine W.en (fun E5=>E5 0=.own id g 0 n 1 /\ E5 1=aa a /\ E5 2=aa b /\ E5 3=cv /\ E5 9=aa u /\ E5 10=aa c /\ E5 11=aa j) (by simp only[go_sem,k0,k1,k2,k3,k9,k10,h11]) fun E5 ⟨m0,m1,m2,m3,m9,m10,m11⟩=>?_
  have Tz:=S.upd hpp.1;rw[<- hHz]at Tz;have stop:(j<=a\/f (p.getD (j - 1) 0)<=f (p.getD j 0))->dH f p a u:=fun h=>by
   have:=hIn.done hj h
   rwa [show u - 1+1=u by omega]at this
  by_cases hj1:(j:Int) >= 1;rotate_left
  ·refine W.vs ?_;simp only[go_sem,m11,hj1];exact⟨m0,m1,m2,m3,m9,m10,p,hpp,stop (.inl (by omega)),hHz⟩
  have wj:IntKind.i64.wrap ((j:Int) - 1)=((j - 1:Nat):Int):=by rw[Vt _ (by omega)];omega
  have jn:j<n:=by omega
  have b1:(j:Int)<n:=by omega
  have b2:((j - 1:Nat):Int)<n:=by omega
  refine W.sq ?_;simp only[go_sem,m11,hj1];refine W.seq (W.block ?_);refine W.seq (W.cP (fun s'=>s'.H=Hz/\s'.ρ 0=.own id g 0 n 1/\s'.ρ 1=aa a/\s'.ρ 2=aa b/\s'.ρ 3=cv/\s'.ρ 9=aa u/\s'.ρ 10=aa c/\s'.ρ 11=aa j/\s'.ρ 84=.lit (.bool (!decide (f (p.getD j 0)<f (p.getD (j - 1) 0))))) ?_ ?_)
  ·refine W.draw 10 [0,0,0,6,14,0,0,64,224,480] Tryd.mixed (by kernel_rfl) (by kernel_rfl) ?_;simp only[go_sem,m0,m3,m11,Tz.live,wj,Tz.cell jn,Tz.cell (show j - 1<n by omega),b1,b2];obtain⟨z,hz,hcc⟩:=Tz.ask jn (show j - 1<n by omega);refine hcc _ ⟨trivial,?_⟩;by_cases hlt:f (p.getD j 0)<f (p.getD (j - 1) 0)
   ·have hlt':=hz.2 hlt;simp only[go_sem,m0,m1,m2,m3,m9,m10,m11,hlt',hlt]
   ·have hlt':¬ z<0:=fun h=>hlt (hz.1 h);simp only[go_sem,m0,m1,m2,m3,m9,m10,m11,hlt',hlt]
  rintro⟨ρ3,Hs⟩ ⟨hHs,v0,v1,v2,v3,v9,v10,v11,vc⟩;simp only at hHs v0 v1 v2 v3 v9 v10 v11 vc;rw[hHs];clear hHs Hs;by_cases hlt:f (p.getD j 0)<f (p.getD (j - 1) 0);rotate_left
  ·rw[VZ hlt]at vc;refine W.cond (t:=true) vc ?_;refine W.vs ?_;simp only[go_sem];exact⟨v0,v1,v2,v3,v9,v10,p,hpp,stop (.inr (by omega)),hHz⟩
  rw[VM hlt]at vc;have haj2:a<j:=by
   rcases VR a j with h|h
   ·exact h
   ·have e:j=a:=(by omega);rcases hB.perm hpp (by rw[S.hl];exact hb) with h3|h3
    ·omega
    ·have:=h3 j (by omega) (by omega);rw[e]at this hlt;omega
  have pl2:=hpp.len;rw[S.hl]at pl2;refine W.cond (t:=false) vc ?_;refine W.vs ?_;simp only[go_sem];refine W.draw 16 [0,0,0,0,8,0,0,64,224,480,0,0,3072,7168,16355,32739] Tryd.mixed (by kernel_rfl) (by kernel_rfl) ?_;simp only[go_sem,v0,v11,Tz.live,Tz.len,wj,Tz.cell jn,Tz.cell (show j - 1<n by omega),b1,b2,Tz.s1 jn,Tz.s2 (i:=j) (show j - 1<n by omega),Tz.jk,Tz.jm];refine⟨by omega,by omega,?_⟩
  try rw[Tz.u2]
  refine W.vs ?_;simp only[go_sem,v11,wj];refine⟨by simp only[aE];rw[hHz];exact Nat.le_refl _,⟨j - 1,cC p j (j - 1),rfl,by omega,by omega,hpp.trans (.swap (by omega) (by omega) (by omega) (by omega) (by rw[pl2];exact hb)),hIn.step hj (by omega) haj2 hlt,?_⟩,by rw[h11];simp only[aa,aN];omega⟩;rw[hHz,eh]
 rintro ax ⟨ρc,Hc⟩ ⟨hax,x0,x1,x2,x3,x9,x10,p,hpp,hSp,hHc⟩;simp only at x0 x1 x2 x3 x9 x10 hHc;subst hax;rw[hHc];clear hHc Hc hp1 hS1 T1;have wbu:=Vt ((b:Int) - (u:Int)) (by omega);refine W.cP (fun s'=>s'.H=H.upd id (nB g p)/\s'.ρ 0=.own id g 0 n 1/\s'.ρ 2=aa b/\s'.ρ 3=cv/\s'.ρ 9=aa u/\s'.ρ 10=aa c/\s'.ρ 104=.lit (.bool (decide ((2:Int)<=(b:Int) - u)))) ?_ ?_
 ·refine W.vs ?_;simp only[go_sem,x0,x2,x3,x9,x10,wbu]
 rintro⟨ρd,Hd⟩ ⟨hHd,c0,c2,c3,c9,c10,c104⟩;simp only at hHd c0 c2 c3 c9 c10 c104;rw[hHd];clear hHd Hd;refine W.mono (Q:=fun ax s'=>ax=.normal/\s'.ρ 9=aa u/\s'.ρ 10=aa c/\∃ p,bq a b l p/\dH f p a u/\s'.H=H.upd id (nB g p)) ?_ ?_
 ·by_cases h2:(2:Int)<=(b:Int) - u;rotate_left
  ·refine W.cond (t:=false) (by rw[show ah G0 ρd (.tmp 104)=ρd 104 from rfl,c104,VZ h2]) ?_;refine W.vs ?_;simp only[go_sem];exact⟨c9,c10,p,hpp,hSp,rfl⟩
  refine W.cond (t:=true) (by rw[show ah G0 ρd (.tmp 104)=ρd 104 from rfl,c104,VM h2]) ?_;have wu1:IntKind.i64.wrap ((u:Int)+1)=((u+1:Nat):Int):=by rw[Vt _ (by omega)];omega
  refine W.sq ?_;simp only[go_sem,c9,wu1];refine W.en (fun E4=>E4 0=.own id g 0 n 1 /\ E4 2=aa b /\ E4 3=cv /\ E4 9=aa u /\ E4 10=aa c /\ E4 12=aa ((u+1:Nat):Int)) (by simp only[go_sem,c0,c2,c3,c9,c10]) fun E4 ⟨k0,k2,k3,k9,k10,k12⟩=>?_
  refine W.block ?_;refine W.aG 2787593149654068615862751420689467177963520 (by kernel_rfl) (fun ρ Hz=>∃ (j:Nat) (p:List Nat),ρ 12=aa j/\u<j/\j<=b/\bq a b l p/\dH f p a u/\Hz=H.upd id (nB g p)) (fun ρ Hz=>b - (iv (ρ 12)).toNat) ?_ ?_
  ·exact⟨u+1,p,k12,by omega,by omega,hpp,hSp,rfl⟩
  clear hpp hSp c0 c2 c3 c9 c10 c104 x0 x1 x2 x3 x9 x10;rintro ρ2 Hz ⟨j,p,h12,huj,hj,hpp,hSp,hHz⟩;refine W.en (fun E5=>E5 0=.own id g 0 n 1 /\ E5 2=aa b /\ E5 3=cv /\ E5 9=aa u /\ E5 10=aa c /\ E5 12=aa j) (by simp only[go_sem,k0,k2,k3,k9,k10,h12]) fun E5 ⟨m0,m2,m3,m9,m10,m12⟩=>?_
  have Tz:=S.upd hpp.1;rw[<- hHz]at Tz;by_cases hjb:(j:Int)<b;rotate_left
  ·refine W.vs ?_;simp only[go_sem,m12,m2,hjb];exact⟨m9,m10,p,hpp,hSp,hHz⟩
  have wj:IntKind.i64.wrap ((j:Int) - 1)=((j - 1:Nat):Int):=by rw[Vt _ (by omega)];omega
  have wj1:=Vt ((j:Int)+1) (by omega);have jn:j<n:=by omega
  have b1:(j:Int)<n:=by omega
  have b2:((j - 1:Nat):Int)<n:=by omega
  refine W.sq ?_;simp only[go_sem,m12,m2,hjb];refine W.seq (W.block ?_);refine W.seq (W.cP (fun s'=>s'.H=Hz/\s'.ρ 0=.own id g 0 n 1/\s'.ρ 9=aa u/\s'.ρ 10=aa c/\s'.ρ 12=aa j/\s'.ρ 124=.lit (.bool (!decide (f (p.getD j 0)<f (p.getD (j - 1) 0))))) ?_ ?_)
  ·refine W.draw 10 [0,0,0,6,14,0,0,64,224,480] Tryd.mixed (by kernel_rfl) (by kernel_rfl) ?_;simp only[go_sem,m0,m3,m12,Tz.live,wj,Tz.cell jn,Tz.cell (show j - 1<n by omega),b1,b2];obtain⟨z,hz,hcc⟩:=Tz.ask jn (show j - 1<n by omega);refine hcc _ ⟨trivial,?_⟩;by_cases hlt:f (p.getD j 0)<f (p.getD (j - 1) 0)
   ·have hlt':=hz.2 hlt;simp only[go_sem,m0,m3,m9,m10,m12,hlt',hlt]
   ·have hlt':¬ z<0:=fun h=>hlt (hz.1 h);simp only[go_sem,m0,m3,m9,m10,m12,hlt',hlt]
  rintro⟨ρ3,Hs⟩ ⟨hHs,v0,v9,v10,v12,vc⟩;simp only at hHs v0 v9 v10 v12 vc;rw[hHs];clear hHs Hs;by_cases hlt:f (p.getD j 0)<f (p.getD (j - 1) 0);rotate_left
  ·rw[VZ hlt]at vc;refine W.cond (t:=true) vc ?_;refine W.vs ?_;simp only[go_sem];exact⟨v9,v10,p,hpp,hSp,hHz⟩
  rw[VM hlt]at vc;have pl2:=hpp.len;rw[S.hl]at pl2;have sw:bq u b p (cC p j (j - 1)):=.swap (by omega) (by omega) (by omega) (by omega) (by rw[pl2];exact hb);refine W.cond (t:=false) vc ?_;refine W.vs ?_;simp only[go_sem];refine W.draw 16 [0,0,0,0,8,0,0,64,224,480,0,0,3072,7168,16355,32739] Tryd.mixed (by kernel_rfl) (by kernel_rfl) ?_;simp only[go_sem,v0,v12,Tz.live,Tz.len,wj,Tz.cell jn,Tz.cell (show j - 1<n by omega),b1,b2,Tz.s1 jn,Tz.s2 (i:=j) (show j - 1<n by omega),Tz.jk,Tz.jm];refine⟨by omega,by omega,?_⟩
  try rw[Tz.u2]
  refine W.vs ?_;simp only[go_sem,v12,wj1];refine⟨by simp only[aE];rw[hHz];exact Nat.le_refl _,⟨j+1,cC p j (j - 1),rfl,by omega,by omega,hpp.trans (sw.mono (by omega) (Nat.le_refl _)),hSp.keep sw,?_⟩,by rw[h12];simp only[aa,aN];omega⟩;rw[hHz,eh]
 rintro ax ⟨ρe,He⟩ ⟨hax,y9,y10,p',hpp',hSp',hHe⟩;simp only at y9 y10 hHe;subst hax;rw[hHe];show W _ _ _ _ _ _ _;refine W.vs ?_;simp only[go_sem,y10,wc];exact⟨Nat.le_refl _,⟨c+1,u,p',y9,rfl,by omega,u1,u2,hpp',hSp',rfl⟩,by rw[h10];simp only[aa,aN];omega⟩
end
end Go.Proofs
namespace Go.Proofs
open Go.Hx
section
variable {cv:AVal} {f:Nat->Nat} {rid:Nat} {rb:Blk} {id g n a:Nat} {l:List Nat} {H:AHeap}
set_option maxHeartbeats 16000000 in
theorem Fp {lo hi:Nat}(S:SH cv f rid rb id g n l H)(hb:a+hi<=n)(hl0:lo<=hi)(hh:iP f l a (lo+1) hi)(K:ARes->AHeap->Prop)(hK:∀ q,bq (a+lo) (a+hi) l q->iP f q a lo hi->K (.ret (.tup [])) (H.upd id (nB g q))):
  ae Tryd.prog G0 78 [.own id g 0 n 1,aa lo,aa hi,aa a,cv] H K:=by
 have hn:=S.hn;refine ae.cX (n:=82) (rs:=[]) Tryd.func78 rfl rfl rfl (by decide) (by simp) ?_;refine W.sq ?_;simp only[go_sem];refine W.en (fun E=>E 0=.own id g 0 n 1 /\ E 2=aa hi /\ E 3=aa a /\ E 4=cv /\ E 10=aa lo) (by simp only[go_sem]) fun E ⟨e0,e2,e3,e4,e10⟩=>?_
 refine W.block ?_;refine W.aG 4835703278458516698819584 (by kernel_rfl) (fun ρ Hx=>∃ (r:Nat) (q:List Nat),ρ 10=aa r/\lo<=r/\(r<hi\/r=lo)/\bq (a+lo) (a+hi) l q/\nA f q a lo hi r/\Hx=H.upd id (nB g q)) (fun ρ Hx=>hi+1 - (iv (ρ 10)).toNat) ?_ ?_
 ·exact⟨lo,l,e10,Nat.le_refl _,.inr rfl,.refl _ _ _,.start hh,S.self.symm⟩
 rintro ρ Hx ⟨r,q,h10,hlr,hrh,hp,hI,hHx⟩;refine W.en (fun F=>F 0=.own id g 0 n 1 /\ F 2=aa hi /\ F 3=aa a /\ F 4=cv /\ F 10=aa r) (by simp only[go_sem,e0,e2,e3,e4,h10]) fun F ⟨d0,d2,d3,d4,d10⟩=>?_
 have T:=S.upd hp.1;rw[<- hHx]at T;have wm:IntKind.i64.wrap (2*(r:Int))=((2*r:Nat):Int):=by rw[Vt _ (by omega)];omega
 have wc:IntKind.i64.wrap (((2*r:Nat):Int)+1)=((2*r+1:Nat):Int):=by rw[Vt _ (by omega)];omega
 obtain⟨c,hc⟩:∃ c,c=2*r+1:=⟨_,rfl⟩
 rw[<- hc]at wc;by_cases hce:(c:Int) >= hi
 ·refine W.block ?_;refine W.sq ?_;simp only[go_sem,d10,wm,wc];refine W.vs ?_;simp only[go_sem,d2,hce];rw[hHx];exact av.mk (Nat.le_refl _) (hK q hp (hI.done fun k k1 k2=>by unfold eD at k1;omega))
 refine W.block ?_;refine W.sq ?_;simp only[go_sem,d10,wm,wc];refine W.sq ?_;simp only[go_sem,d2,hce];refine W.en (fun J=>J 0=.own id g 0 n 1 /\ J 2=aa hi /\ J 3=aa a /\ J 4=cv /\ J 10=aa r /\ J 11=aa c) (by simp only[go_sem,d0,d2,d3,d4,d10]) fun J ⟨m0,m2,m3,m4,m10,m11⟩=>?_
 have wc1:IntKind.i64.wrap ((c:Int)+1)=((c+1:Nat):Int):=by rw[Vt _ (by omega)];omega
 have wac:IntKind.i64.wrap ((a:Int)+(c:Int))=((a+c:Nat):Int):=by rw[Vt _ (by omega)];omega
 have wac1:IntKind.i64.wrap (((a+c:Nat):Int)+1)=((a+c+1:Nat):Int):=by rw[Vt _ (by omega)];omega
 have bc:((a+c:Nat):Int)<n:=by omega
 refine W.seq (W.mono (Q:=fun ax s'=>ax=.normal/\s'.H=Hx/\s'.ρ 0=.own id g 0 n 1/\s'.ρ 2=aa hi/\s'.ρ 3=aa a/\s'.ρ 4=cv/\s'.ρ 10=aa r/\∃ d:Nat,s'.ρ 11=aa d/\eD r d/\d<hi/\∀ e,eD r e->e<hi->f (q.getD (a+e) 0)<=f (q.getD (a+d) 0)) ?_ ?_)
 ·refine W.cP (fun s'=>s'.H=Hx/\s'.ρ 0=.own id g 0 n 1/\s'.ρ 2=aa hi/\s'.ρ 3=aa a/\s'.ρ 4=cv/\s'.ρ 10=aa r/\s'.ρ 11=aa c/\s'.ρ 40=.lit (.bool (decide (c+1<hi) && decide (f (q.getD (a+c) 0)<f (q.getD (a+c+1) 0))))) ?_ ?_
  ·refine W.draw 19 [0,1,0,7,15,31,31,31,31,415,991,2015,31,31,31,24607,57375,127007,258079] Tryd.mixed (by kernel_rfl) (by kernel_rfl) ?_;by_cases hub:((c+1:Nat):Int)<hi
   ·have b2:((a+c+1:Nat):Int)<n:=(by omega);simp only[go_sem,m0,m2,m3,m4,m11,T.live,hub,wc1,wac,wac1,T.cell (show a+c<n by omega),T.cell (show a+c+1<n by omega),bc,b2];obtain⟨z,hz,hcc⟩:=T.ask (show a+c<n by omega) (show a+c+1<n by omega);refine hcc _ ⟨trivial,?_⟩;have hd1:decide (c+1<hi)=true:=VM (by omega);rw[hd1];by_cases hlt:f (q.getD (a+c) 0)<f (q.getD (a+c+1) 0)
    ·have hlt':=hz.2 hlt;simp only[go_sem,m0,m2,m3,m4,m10,m11,hlt',hlt]
     try rfl
    ·have hlt':¬ z<0:=fun h=>hlt (hz.1 h);simp only[go_sem,m0,m2,m3,m4,m10,m11,hlt',hlt]
     try rfl
   ·simp only[go_sem,m0,m2,m3,m4,m10,m11,hub,wc1];have hj0:decide (c+1<hi)=false:=VZ (by omega);rw[hj0];rfl
  rintro⟨ρ3,Hs⟩ ⟨hHs,v0,v2,v3,v4,v10,v11,vc⟩;simp only at hHs v0 v2 v3 v4 v10 v11 vc;rw[hHs];clear hHs Hs;cases hfl:(decide (c+1<hi) && decide (f (q.getD (a+c) 0)<f (q.getD (a+c+1) 0))) with
  | false =>
   rw[hfl]at vc;refine W.cond (t:=false) vc ?_;refine W.vs ?_;simp only[go_sem];refine⟨v0,v2,v3,v4,v10,c,v11,.inl hc,by omega,fun e e1 e2=>?_⟩;rcases e1 with e1|e1
   ·rw[show e=c by omega];exact Nat.le_refl _
   ·rw[VM (show c+1<hi by omega),Ym,WS]at hfl;rw[show a+e=a+c+1 by omega];omega
  | true =>
   rw[hfl]at vc;refine W.cond (t:=true) vc ?_;have hfl2:c+1<hi/\f (q.getD (a+c) 0)<f (q.getD (a+c+1) 0):=(by simpa using hfl);refine W.vs ?_;simp only[go_sem,v11,wc1];refine⟨v0,v2,v3,v4,v10,c+1,rfl,.inr (by omega),by omega,fun e e1 e2=>?_⟩;rcases e1 with e1|e1
   ·rw[show e=c by omega,<- W6];omega
   ·rw[show e=c+1 by omega];exact Nat.le_refl _
 rintro ax ⟨ρa,Ha⟩ ⟨hax,hHa,a0,a2,a3,a4,a10,d,a11,kd,dh,dm⟩;simp only at hHa a0 a2 a3 a4 a10 a11;subst hax;rw[hHa];clear hHa Ha;show W _ _ _ _ _ _ _;have rd:r<d:=by unfold eD at kd;omega
 have war:IntKind.i64.wrap ((a:Int)+(r:Int))=((a+r:Nat):Int):=by rw[Vt _ (by omega)];omega
 have wad:IntKind.i64.wrap ((a:Int)+(d:Int))=((a+d:Nat):Int):=by rw[Vt _ (by omega)];omega
 have br:((a+r:Nat):Int)<n:=by omega
 have bd:((a+d:Nat):Int)<n:=by omega
 have rn:a+r<n:=by omega
 have dn:a+d<n:=by omega
 refine W.seq (W.cP (fun s'=>s'.H=Hx/\s'.ρ 0=.own id g 0 n 1/\s'.ρ 3=aa a/\s'.ρ 10=aa r/\s'.ρ 11=aa d/\s'.ρ 58=.lit (.bool (!decide (f (q.getD (a+r) 0)<f (q.getD (a+d) 0))))) ?_ ?_)
 ·refine W.draw 13 [0,0,0,0,12,30,62,0,0,0,768,1920,3968] Tryd.mixed (by kernel_rfl) (by kernel_rfl) ?_;simp only[go_sem,a0,a3,a4,a10,a11,T.live,war,wad,T.cell rn,T.cell dn,br,bd];obtain⟨z,hz,hcc⟩:=T.ask rn dn;refine hcc _ ⟨trivial,?_⟩;by_cases hlt:f (q.getD (a+r) 0)<f (q.getD (a+d) 0)
  ·have hlt':=hz.2 hlt;simp only[go_sem,a0,a3,a4,a10,a11,hlt',hlt]
  ·have hlt':¬ z<0:=fun h=>hlt (hz.1 h);simp only[go_sem,a0,a3,a4,a10,a11,hlt',hlt]
 rintro⟨ρ4,Hs⟩ ⟨hHs,v0,v3,v10,v11,vc⟩;simp only at hHs v0 v3 v10 v11 vc;rw[hHs];clear hHs Hs;by_cases hlt:f (q.getD (a+r) 0)<f (q.getD (a+d) 0);rotate_left
 ·rw[VZ hlt]at vc;refine W.cond (t:=true) vc ?_;refine W.vs ?_;simp only[go_sem];rw[hHx];exact av.mk (Nat.le_refl _) (hK q hp (hI.done fun e e1 e2=>by have:=dm e e1 e2;omega))
 rw[VM hlt]at vc;have pl:=hp.len;rw[S.hl]at pl;refine W.cond (t:=false) vc ?_;refine W.vs ?_;simp only[go_sem];refine W.seq ?_;refine W.draw 22 [0,0,0,6,0,0,0,96,0,0,0,1536,3840,7936,0,0,0,98304,245760,507904,1048335,2096911] Tryd.mixed (by kernel_rfl) (by kernel_rfl) ?_;simp only[go_sem,v0,v3,v10,v11,T.live,T.len,war,wad,T.cell rn,T.cell dn,br,bd,T.s1 rn,T.s2 (i:=a+r) dn,T.jk,T.jm];refine⟨by omega,by omega,?_⟩
 try rw[T.u2]
 refine W.vs ?_;simp only[go_sem,v11];refine⟨by simp only[aE];rw[hHx];exact Nat.le_refl _,⟨d,cC q (a+r) (a+d),rfl,by omega,.inl dh,hp.trans (.swap (by omega) (by omega) (by omega) (by omega) (by omega)),hI.step hlr (by omega) kd dh dm (X1 hlt),?_⟩,by rw[h10];simp only[aa,aN];omega⟩;rw[hHx,eh]
end
end Go.Proofs
namespace Go.Proofs
open Go.Hx
section
variable {cv:AVal} {f:Nat->Nat} {rid:Nat} {rb:Blk} {id g n a b:Nat} {l:List Nat} {H:AHeap}
set_option maxHeartbeats 16000000 in
theorem Sz (S:SH cv f rid rb id g n l H)(hab:a<b)(hb:b<=n)(K:ARes->AHeap->Prop)(hK:∀ q,bq a b l q->dH f q a b->K (.ret (.tup [])) (H.upd id (nB g q))):
  ae Tryd.prog G0 68 [.own id g 0 n 1,aa a,aa b,cv] H K:=by
 have hn:=S.hn;have w0:IntKind.i64.wrap ((b:Int) - (a:Int))=((b - a:Nat):Int):=by rw[Vt _ (by omega)];omega
 have w1:IntKind.i64.wrap (((b - a:Nat):Int) - 1)=((b - a - 1:Nat):Int):=by rw[Vt _ (by omega)];omega
 have w2:(((b - a - 1:Nat):Int)).tdiv 2=(((b - a - 1) / 2:Nat):Int):=by rw[Wa (by omega)];push_cast;rfl
 have w3:IntKind.i64.wrap (((b - a - 1) / 2:Nat):Int)=(((b - a - 1) / 2:Nat):Int):=Vt _ (by omega);refine ae.cX (n:=60) (rs:=[]) Tryd.func68 rfl rfl rfl (by decide) (by simp) ?_;refine W.sq ?_;simp only[go_sem];refine W.sq ?_;simp only[go_sem];refine W.sq ?_;simp only[go_sem,w0];refine W.sq ?_;simp only[go_sem,w1,w2,w3];refine W.en (fun E=>E 0=.own id g 0 n 1 /\ E 3=cv /\ E 8=aa a /\ E 9=aa 0 /\ E 10=aa ((b - a:Nat):Int) /\ E 11=aa (((b - a - 1) / 2:Nat):Int)) (by simp only[go_sem]) fun E ⟨e0,e3,e8,e9,e10,e11⟩=>?_
 refine W.aG 1072695296 (by kernel_rfl) (fun ρ Hx=>∃ (k:Nat) (q:List Nat),ρ 11=aa ((k:Int) - 1)/\k<=b - a/\bq a b l q/\iP f q a k (b - a)/\Hx=H.upd id (nB g q)) (fun ρ Hx=>(iv (ρ 11)+1).toNat) ?_ ?_
 ·exact⟨(b - a - 1) / 2+1,l,e11.trans (by congr 3;omega),by omega,.refl _ _ _,.Su (by omega),S.self.symm⟩
 rintro ρ Hx ⟨k,q,h11,hk,hp,hh,hHx⟩;refine W.en (fun F=>F 0=.own id g 0 n 1 /\ F 3=cv /\ F 8=aa a /\ F 9=aa 0 /\ F 10=aa ((b - a:Nat):Int) /\ F 11=aa ((k:Int) - 1)) (by simp only[go_sem,e0,e3,e8,e9,e10,h11]) fun F ⟨d0,d3,d8,d9,d10,d11⟩=>?_
 have T:=S.upd hp.1;rw[<- hHx]at T;by_cases hk0:(k:Int) - 1 >= 0
 ·obtain⟨i,rfl⟩:∃ i,k=i+1:=⟨k - 1,by omega⟩
  have ei:((i+1:Nat):Int) - 1=(i:Int):=by omega
  rw[ei]at d11 hk0 h11;have wi:=Vt ((i:Int) - 1) (by omega);refine W.sq ?_;simp only[go_sem,d11,hk0];refine W.seq (W.block ?_);refine W.vs ?_;simp only[go_sem,d0,d3,d8,d10,d11];refine aw.clo (Fp (hi:=b - a) T (by omega) (by omega) hh _ fun q' hq' hh'=>⟨trivial,?_⟩);simp only[go_sem];refine W.vs ?_;simp only[go_sem,d11,wi];refine⟨by rw[hHx];exact Nat.le_refl _,⟨i,q',rfl,by omega,hp.trans (hq'.mono (by omega) (by omega)),hh',?_⟩,by rw[h11];simp only[aa,aN];omega⟩;rw[hHx,eh]
 refine W.vs ?_;simp only[go_sem,d11,hk0];obtain rfl:k=0:=by omega
 refine W.sq ?_;simp only[go_sem,d10,w1];refine W.en (fun J=>J 0=.own id g 0 n 1 /\ J 3=cv /\ J 8=aa a /\ J 9=aa 0 /\ J 10=aa ((b - a:Nat):Int) /\ J 12=aa ((b - a - 1:Nat):Int)) (by simp only[go_sem,d0,d3,d8,d9,d10]) fun J ⟨m0,m3,m8,m9,m10,m12⟩=>?_
 refine W.block ?_;refine W.aG 1152921500311883776 (by kernel_rfl) (fun ρ Hz=>∃ (k:Nat) (p:List Nat),ρ 12=aa ((k:Int) - 1)/\k<=b - a/\bq a b l p/\iP f p a 0 k/\nC f p a (a+k) b/\Hz=H.upd id (nB g p)) (fun ρ Hz=>(iv (ρ 12)+1).toNat) ?_ ?_
 ·exact⟨b - a,q,m12.trans (by congr 3;omega),Nat.le_refl _,hp,hh,by rw[show a+(b - a)=b by omega];exact .start,hHx⟩
 rintro ρ2 Hz ⟨k,p,h12,hkb,hpp,hhp,hPI,hHz⟩;refine W.env fun M hM=>?_;have u0:M 0=.own id g 0 n 1:=by rw[hM];simp only[go_sem,m0]
 have u3:M 3=cv:=by rw[hM];simp only[go_sem,m3]
 have u8:M 8=aa a:=by rw[hM];simp only[go_sem,m8]
 have u9:M 9=aa 0:=by rw[hM];simp only[go_sem,m9]
 have u10:M 10=aa ((b - a:Nat):Int):=by rw[hM];simp only[go_sem,m10]
 have u12:M 12=aa ((k:Int) - 1):=by rw[hM];simp only[go_sem,h12]
 clear hM;have Tz:=S.upd hpp.1;rw[<- hHz]at Tz;by_cases hk1:(k:Int) - 1 >= 0;rotate_left
 ·refine W.vs ?_;simp only[go_sem,u12,hk1];obtain rfl:k=0:=by omega
  rw[hHz];exact av.mk (Nat.le_refl _) (hK p hpp hPI.done)
 obtain⟨i,rfl⟩:∃ i,k=i+1:=⟨k - 1,by omega⟩
 have ei:((i+1:Nat):Int) - 1=(i:Int):=by omega
 rw[ei]at u12 hk1 h12;have wi:=Vt ((i:Int) - 1) (by omega);have wai:IntKind.i64.wrap ((a:Int)+(i:Int))=((a+i:Nat):Int):=by rw[Vt _ (by omega)];omega
 have an:a<n:=by omega
 have ain:a+i<n:=by omega
 have ba:(a:Int)<n:=by omega
 have bai:((a+i:Nat):Int)<n:=by omega
 have pl:=hpp.len;rw[S.hl]at pl;refine W.sq ?_;simp only[go_sem,u12,hk1];refine W.seq (W.block (W.seq ?_));refine W.draw 18 [0,0,0,0,0,24,0,0,0,384,960,1984,0,0,12288,28672,65475,131011] Tryd.mixed (by kernel_rfl) (by kernel_rfl) ?_;simp only[go_sem,u0,u8,u12,Tz.live,Tz.len,wai,Tz.cell an,Tz.cell ain,ba,bai,Tz.s1 an,Tz.s2 (i:=a) ain,Tz.jk,Tz.jm];refine⟨by omega,by omega,?_⟩
 try rw[Tz.u2]
 have sw:bq a b p (cC p a (a+i)):=.swap (Nat.le_refl _) (by omega) (by omega) (by omega) (by omega);have Ts:=Tz.upd sw.1;refine W.vs ?_;simp only[go_sem,u0,u3,u8,u9,u12];refine aw.clo (Fp (lo:=0) (hi:=i) Ts (by omega) (by omega) (hhp.pop (by omega)) _ fun q' hq' hh'=>⟨trivial,?_⟩);simp only[go_sem];refine W.vs ?_;simp only[go_sem,u12,wi];refine⟨by simp only[aE];rw[hHz,hHx];exact Nat.le_refl _,⟨i,q',rfl,by omega,hpp.trans (sw.trans (hq'.mono (by omega) (by omega))),hh',hPI.step hhp (by omega) (by omega) hq',?_⟩,by rw[h12];simp only[aa,aN];omega⟩;rw[hHz,eh,eh]
end
end Go.Proofs
namespace Go.Hx
theorem SA {P:Program}{t:TypeId}{x y:Operand}{k':IntKind}{a:Nat}:aU P .shr t x y (.lit (.int .u64 (a:Int))) (.lit (.int k' 8))=some (.lit (.int .u64 ((a / 256:Nat):Int))):=by
 rw[ru (by decide)];have e:(a:Int).fdiv (2 ^ (min (8:Int).toNat (IntKind.bits .u64)))=((a / 256:Nat):Int):=by
  rw[Yd _ (by exact_mod_cast XY _)]
  push_cast
  rfl
 rw[e]
theorem Clo.SB {H:AHeap}(hc:Clo H){id:Nat}(hi:id<H.next)(g:Nat)(e:TypeId)(x:List Int):Clo (H.upd id (.arr g e (ints x))):=by
 refine⟨fun j b hb=>?_,fun j b hb=>?_⟩
 ·rw[ag]at hb;split at hb
  ·rename_i h;rw[h];exact hi
  ·exact hc.lt j b hb
 ·rw[ag]at hb;split at hb
  ·cases hb;exact fun i hi=>by simp only[ints,VF];exact .lit _
  ·exact hc.below j b hb
end Go.Hx
namespace Go.Proofs
open Go.Hx
def Fq (s:ByteArray):Bool:=s.size == 256 && (List.range 256).all fun i=>Nat.ble (s[i]!).toNat 8 && (i == 0 || (Nat.ble 1 (s[i]!).toNat && Nat.ble (2 ^ ((s[i]!).toNat - 1)) i))
theorem Fs {s:ByteArray}{i:Nat}{F:AVal->Prop}(hs:Fq s=true)(h0:i≠0)(hi:i<256)(h:∀ L:Nat,L<=8->1<=L->2 ^ (L - 1)<=i->F (.lit (.int .u8 (L:Int)))):aW (mG Tryd.prog 9 (.lit (.string s)) (.lit (.int .u8 (i:Int)))) F:=by
 unfold Fq at hs;rw[VY,V1]at hs;have h1:=hs.2 i (VJ.2 hi);have hz:s.size=256:=by simpa using hs.1
 have ix:mG Tryd.prog 9 (.lit (.string s)) (.lit (.int .u8 (i:Int)))=some (.lit (.int .u8 (((s[i]!).toNat:Nat):Int))):=by
  unfold mG;simp only[];have e1:s[i]?=some s[i]!:=by
   rw[getElem!_pos s i (by omega)];exact getElem?_pos s i (by omega)
  have ht:Tryd.prog.underlying 9=some .string:=Tryd.underlying9;simp [Instr.index,asIntOf,underlying,program,ht,cF,bind,Sem.bind,pure,e1]
 rw[ix,mL];simp only[VY,Xu,beq_iff_eq]at h1;have b2:=WG h1.1;rcases h1.2 with h2|h2
 ·exact absurd h2 h0
 ·exact h _ b2 (WG h2.1) (WG h2.2)
theorem SC {n:Nat}(h1:1<=n)(hn:n<=1024)(H:AHeap)(K:ARes->AHeap->Prop)(hK:∀ L:Nat,L<=16->2 ^ L<=2*n->K (.ret (aa L)) H):ae Tryd.prog G0 76 [.lit (.int .u64 (n:Int))] H K:=by
 have g1:¬ (4294967296:Int)<=(n:Int):=by omega
 have g2:¬ (65536:Int)<=(n:Int):=by omega
 have wr:∀ i:Nat,i<256->IntKind.u8.wrap ((i:Nat):Int)=(i:Int):=fun i hi=>by simp [IntKind.wrap,IntKind.bits,IntKind.signed];omega
 have k8:IntKind.i64.wrap 8=8:=by decide
 have pw:∀ L,1<=L->2 ^ L=2*2 ^ (L - 1):=fun L h=>by rw[show L=(L - 1)+1 by omega,W9,Xq,Xl]
 refine ae.cX (n:=25) (rs:=[.tmp 2]) Tryd.func76 rfl rfl rfl (by decide) (by simp) ?_;refine W.sq ?_;simp only[go_sem];refine W.sq ?_;simp only[go_sem,g1];refine W.sq ?_;simp only[go_sem,g2];by_cases g3:(256:Int)<=(n:Int)
 ·have ww:=wr (n / 256) (by omega);refine W.sq ?_;simp only[go_sem,g3,SA,k8];refine W.vs ?_;simp only[go_sem,ww];refine Fs (by kernel_rfl) (by omega) (by omega) fun L hL h1L h2L=>?_;have w:=Vt (8+(L:Int)) (by omega);have w0:=Vt (L:Int) (by omega);simp only[go_sem,w0,w];have e:8+(L:Int)=((8+L:Nat):Int):=by omega
  rw[e];refine av.mk (Nat.le_refl _) (hK _ (by omega) ?_);rw[Nat.pow_add,pw L h1L];omega
 ·have ww:=wr n (by omega);refine W.sq ?_;simp only[go_sem,g3];refine W.vs ?_;simp only[go_sem,ww];refine Fs (by kernel_rfl) (by omega) (by omega) fun L hL h1L h2L=>?_;have w:IntKind.i64.wrap (0+(L:Int))=(L:Int):=by rw[Int.zero_add];exact Vt (L:Int) (by omega)
  have w0:=Vt (L:Int) (by omega);simp only[go_sem,w0,w];refine av.mk (Nat.le_refl _) (hK _ (by omega) ?_);rw[pw L h1L];omega
theorem Ft {n:Nat}(h1:1<=n)(hn:n<=1024)(H:AHeap)(K:ARes->AHeap->Prop)(hK:∀ L:Nat,L<=16->2 ^ L<=2*n->K (.ret (aa L)) H):ae Tryd.prog G0 64 [.lit (.int .u64 (n:Int))] H K:=by
 refine ae.cX (n:=8) (rs:=[.tmp 2]) Tryd.func64 rfl rfl rfl (by decide) (by simp) ?_;refine W.vs ?_;simp only[go_sem];refine aw.clo (SC h1 hn H _ fun L hL h2=>⟨trivial,?_⟩);simp only[go_sem];exact av.mk (Nat.le_refl _) (hK L hL h2)
theorem SD {n:Nat}(h1:1<=n)(hn:n<=1024)(H:AHeap)(K:ARes->AHeap->Prop)(hK:∀ M:Nat,1<=M->M<=2*n->K (.ret (.lit (.int .u64 (M:Int)))) H):ae Tryd.prog G0 79 [aa n] H K:=by
 have wn:IntKind.u64.wrap ((n:Nat):Int)=(n:Int):=by simp [IntKind.wrap,IntKind.bits,IntKind.signed];omega
 refine ae.cX (n:=7) (rs:=[.tmp 2]) Tryd.func79 rfl rfl rfl (by decide) (by simp) ?_;refine W.sq ?_;simp only[go_sem];refine W.vs ?_;simp only[go_sem,wn];refine aw.clo (Ft h1 hn H _ fun L hL h2=>⟨trivial,?_⟩);obtain⟨M,hM⟩:∃ M,M=2 ^ L:=⟨_,rfl⟩
 have sh:∀ t o1 o2,aU Tryd.prog .shl t o1 o2 (.lit (.int .u64 1)) (.lit (.int .i64 (L:Int)))=some (.lit (.int .u64 (M:Int))):=fun t o1 o2=>by
  have e:min L (IntKind.bits .u64)=L:=Xa (show L<=64 by omega);have e2:((2:Int) ^ L)=(M:Int):=by rw[hM];push_cast;rfl
  rw[ry (Int.natCast_nonneg L),Int.toNat_natCast,e,XM,e2,Wl _ (by omega)]
 simp only[go_sem,sh];exact av.mk (Nat.le_refl _) (hK M (by rw[hM];exact Yr L) (by omega))
theorem SE {rd:Nat}{a:Int}(H:AHeap)(hg:H.get rd=some (.arr 0 140 [.lit (.int .u64 a)]))(K:ARes->AHeap->Prop)(hK:∀ c,K (.ret (.lit (.int .u64 c))) (H.upd rd (.arr 0 140 [.lit (.int .u64 c)]))):ae Tryd.prog G0 80 [.ptr rd 0 0] H K:=by
 obtain⟨f1,h1⟩:∃ f1:Int->Int,∀ t x y a,aU Tryd.prog .shl t x y (.lit (.int .u64 a)) (.lit (.int .u64 13))=some (.lit (.int .u64 (f1 a))):=⟨_,fun t x y a=>ry (by decide)⟩
 obtain⟨f2,h2⟩:∃ f2:Int->Int,∀ t x y a,aU Tryd.prog .shr t x y (.lit (.int .u64 a)) (.lit (.int .u64 7))=some (.lit (.int .u64 (f2 a))):=⟨_,fun t x y a=>ru (by decide)⟩
 obtain⟨f3,h3⟩:∃ f3:Int->Int,∀ t x y a,aU Tryd.prog .shl t x y (.lit (.int .u64 a)) (.lit (.int .u64 17))=some (.lit (.int .u64 (f3 a))):=⟨_,fun t x y a=>ry (by decide)⟩
 obtain⟨f4,h4⟩:∃ f4:Int->Int->Int,∀ t x y a b,aU Tryd.prog .xor t x y (.lit (.int .u64 a)) (.lit (.int .u64 b))=some (.lit (.int .u64 (f4 a b))):=⟨fun a b=>_,fun t x y a b=>UW⟩
 have up:∀ (H:AHeap) (x y:Blk),(H.upd rd x).upd rd y=H.upd rd y:=fun H x y=>nt ..;have lv:∀ (H:AHeap) (x:List AVal),(H.upd rd (.arr 0 140 x)).live rd 0=some (140,x):=fun H x=>ak (by rw[ag,Vx rfl]);have l0:=ak hg;refine ae.cX (n:=33) (rs:=[.tmp 2]) Tryd.func80 rfl rfl rfl (by decide) (by simp) ?_;refine W.sq ?_;simp only[go_sem];refine W.seq ?_;refine W.draw 7 [0,1,3,0,8,24,56] Tryd.mixed (by kernel_rfl) (by kernel_rfl) ?_;simp only[go_sem,l0,h1,h4];refine W.en (fun E1=>E1 0=.ptr rd 0 0) (by simp only[go_sem]) fun E1 e0=>?_
 obtain⟨c1,hc1⟩:∃ c1,c1=f4 a (f1 a):=⟨_,rfl⟩
 rw[<- hc1];refine W.seq ?_;refine W.draw 7 [0,1,3,0,8,24,56] Tryd.mixed (by kernel_rfl) (by kernel_rfl) ?_;simp only[go_sem,e0,lv,h2,h4];rw[up];refine W.en (fun E2=>E2 0=.ptr rd 0 0) (by simp only[go_sem,e0]) fun E2 m0=>?_
 obtain⟨c2,hc2⟩:∃ c2,c2=f4 c1 (f2 c1):=⟨_,rfl⟩
 rw[<- hc2];refine W.seq ?_;refine W.draw 7 [0,1,3,0,8,24,56] Tryd.mixed (by kernel_rfl) (by kernel_rfl) ?_;simp only[go_sem,m0,lv,h3,h4];rw[up];refine W.en (fun E3=>E3 0=.ptr rd 0 0) (by simp only[go_sem,m0]) fun E3 u0=>?_
 refine W.vs ?_;simp only[go_sem,u0,lv];exact av.mk (Nat.le_refl _) (hK _)
section
variable {cv:AVal} {f:Nat->Nat} {rid:Nat} {rb:Blk} {id g n a b:Nat} {l:List Nat} {H:AHeap}
set_option maxHeartbeats 8000000 in
theorem SF (S:SH cv f rid rb id g n l H)(hab:a+8<=b)(hb:b<=n)(K:ARes->AHeap->Prop)(hK:∀ q,bq a b l q->K (.ret (.tup [])) (H.upd id (nB g q))):
  ae Tryd.prog G0 69 [.own id g 0 n 1,aa a,aa b,cv] H K:=by
 refine ae.clo ⟨_,Tryd.func69,rfl,rfl⟩ fun hcl=>?_;have hn:=S.hn;have hil:=S.il;have hrl:=S.rl;have w0:IntKind.i64.wrap ((b:Int) - (a:Int))=((b - a:Nat):Int):=by rw[Vt _ (by omega)];omega
 obtain⟨L,hL⟩:∃ L,L=b - a:=⟨_,rfl⟩
 rw[<- hL]at w0;have g8:(L:Int) >= 8:=by omega
 have w1:IntKind.u64.wrap (L:Int)=(L:Int):=Wl _ (by omega);have q1:((L:Int)).tdiv 4=((L / 4:Nat):Int):=by rw[Wa (by omega)];push_cast;rfl
 have q2:IntKind.i64.wrap ((L / 4:Nat):Int)=((L / 4:Nat):Int):=Vt _ (by omega);have q3:IntKind.i64.wrap (((L / 4:Nat):Int)*2)=((L / 4*2:Nat):Int):=by rw[Vt _ (by omega)];omega
 have q4:IntKind.i64.wrap ((a:Int)+((L / 4*2:Nat):Int))=((a+L / 4*2:Nat):Int):=by rw[Vt _ (by omega)];omega
 have q5:IntKind.i64.wrap (((a+L / 4*2:Nat):Int) - 1)=((a+L / 4*2 - 1:Nat):Int):=by rw[Vt _ (by omega)];omega
 have q6:IntKind.i64.wrap (((a+L / 4*2:Nat):Int)+1)=((a+L / 4*2+1:Nat):Int):=by rw[Vt _ (by omega)];omega
 refine ae.cX (n:=67) (rs:=[]) Tryd.func69 rfl rfl rfl (by decide) (by simp) ?_;refine W.sq ?_;simp only[go_sem,w0];refine W.sq ?_;simp only[go_sem,g8];refine W.vs ?_;simp only[go_sem,w1];obtain⟨H1,hH1⟩:∃ H1,H1=ext H [.arr 0 140 [.lit (.int .u64 (L:Int))]]:=⟨_,rfl⟩
 have n1:H1.next=H.next+1:=by rw[hH1];rfl
 have o1:Over H H1:=by rw[hH1];exact .ext _ _
 have gr:H1.get H.next=some (.arr 0 140 [.lit (.int .u64 (L:Int))]):=by rw[hH1];exact cS
 refine aw.clo (SD (n:=L) (by omega) (by omega) _ _ fun M hM1 hM2=>⟨trivial,?_⟩);simp only[go_sem,q1,q2,q3,q4,q5];rw[<- hH1];refine W.en (fun E=>E 0=.own id g 0 n 1 /\ E 1=aa a /\ E 8=aa L /\ E 9=.ptr H.next 0 0 /\ E 10=.lit (.int .u64 (M:Int)) /\ E 11=aa ((a+L / 4*2 - 1:Nat):Int)) (by simp only[go_sem]) fun E ⟨e0,e1,e8,e9,e10,e11⟩=>?_
 have S1:=S.over o1;refine W.aG 147573952589407983616 (by kernel_rfl) (fun ρ Hx=>∃ (i:Nat) (q:List Nat) (c:Int),ρ 11=aa i/\a<=i/\i<=a+L / 4*2+2/\bq a b l q/\Hx.next=H1.next/\(∀ j,j<H.next->j≠id->Hx.get j=H.get j)/\Hx.get id=some (nB g q)/\Hx.get H.next=some (.arr 0 140 [.lit (.int .u64 c)])) (fun ρ Hx=>a+L / 4*2+2 - (iv (ρ 11)).toNat) ?_ ?_
 ·exact⟨_,l,_,e11,by omega,by omega,.refl _ _ _,rfl,fun j h _=>o1.old j h,S1.hg,gr⟩
 rintro ρ Hx ⟨i,q,c,h11,hi1,hi2,hp,hnx,hold,hgd,hgr⟩;refine W.en (fun F=>F 0=.own id g 0 n 1 /\ F 1=aa a /\ F 8=aa L /\ F 9=.ptr H.next 0 0 /\ F 10=.lit (.int .u64 (M:Int)) /\ F 11=aa i) (by simp only[go_sem,e0,e1,e8,e9,e10,h11]) fun F ⟨d0,d1,d8,d9,d10,d11⟩=>?_
 have ov:Over (H.upd id (nB g q)) Hx:=⟨by rw[aE,hnx];omega,fun j hj=>by
  rw[aE]at hj;rw[ag];by_cases h:j=id
  ·rw[Vx h,h,hgd]
  ·rw[Vw h];exact hold j hj h⟩
 by_cases hle:(i:Int)<=((a+L / 4*2+1:Nat):Int)
 rotate_left
 ·refine W.vs ?_;simp only[go_sem,d1,d8,d11,q1,q2,q3,q4,q6,hle];exact⟨.tup [],H.upd id (nB g q),.freeze aT (CD (hcl.SB hil g _ _) ov) (.tup rfl fun i h=>absurd h (VX _)),Nat.le_refl _,hK q hp⟩
 have wi:=Vt ((i:Int)+1) (by omega);have wm:IntKind.u64.wrap ((M:Int) - 1)=((M - 1:Nat):Int):=by rw[Wl _ (by omega)];omega
 refine W.sq ?_;simp only[go_sem,d1,d8,d11,q1,q2,q3,q4,q6,hle];refine W.seq (W.block ?_);refine W.sq ?_;simp only[go_sem,d9];refine aw.clo (SE Hx hgr _ fun c'=>⟨trivial,?_⟩);obtain⟨y,hy⟩:∃ y,y=(BitVec.ofInt (IntKind.bits .u64) c' &&& BitVec.ofInt (IntKind.bits .u64) ((M - 1:Nat):Int)).toNat:=⟨_,rfl⟩
 have hy1:y<=M - 1:=by
  rw[hy,BitVec.toNat_and];refine We Nat.and_le_right ?_;show (BitVec.ofInt 64 _).toNat<=_;rw[BitVec.ofInt_natCast,BitVec.toNat_ofNat];exact Nat.mod_le _ _
 have ha:∀ t o1 o2,aU Tryd.prog .and t o1 o2 (.lit (.int .u64 c')) (.lit (.int .u64 ((M - 1:Nat):Int)))=some (.lit (.int .u64 (y:Int))):=fun t o1 o2=>by
  rw[tB,<- hy,Wl _ (by omega)]
 have wy:=Vt (y:Int) (by omega);simp only[go_sem,d10,wm,ha,wy];obtain⟨Hy,hHy⟩:∃ Hy,Hy=Hx.upd H.next (.arr 0 140 [.lit (.int .u64 c')]):=⟨_,rfl⟩
 have yn:Hy.next=H1.next:=by rw[hHy,aE,hnx]
 have yold:∀ j,j<H.next->j≠id->Hy.get j=H.get j:=fun j h h2=>by rw[hHy,ag,Vw (by omega)];exact hold j h h2
 have yd:Hy.get id=some (nB g q):=by rw[hHy,ag,Vw (by omega)];exact hgd
 have yr:Hy.get H.next=some (.arr 0 140 [.lit (.int .u64 c')]):=by rw[hHy,ag,Vx rfl]
 rw[<- hHy];clear hHy;refine W.cP (fun s'=>s'.H=Hy/\s'.ρ 0=.own id g 0 n 1/\s'.ρ 1=aa a/\s'.ρ 11=aa i/\∃ z:Nat,s'.ρ 12=aa z/\z<L) ?_ ?_
 ·by_cases hyL:(y:Int) >= L
  ·have wz:IntKind.i64.wrap ((y:Int) - (L:Int))=((y - L:Nat):Int):=(by rw[Vt _ (by omega)];omega);refine W.vs ?_;simp only[go_sem,d0,d1,d8,d11,hyL,wz];exact⟨y - L,rfl,by omega⟩
  ·refine W.vs ?_;simp only[go_sem,d0,d1,d8,d11,hyL];exact⟨y,rfl,by omega⟩
 rintro⟨ρ3,Hs⟩ ⟨hHs,v0,v1,v11,z,v12,hz⟩;simp only at hHs v0 v1 v11 v12;rw[hHs];clear hHs Hs;have pl:=hp.len;rw[S.hl]at pl;have T:SH cv f rid rb id g n q Hy:=⟨pl,hn,yd,by rw[yold rid hrl S.ne];exact S.hr,S.ne,by omega,by omega,fun x y hx hy=>S.cmp x y (hp.1.mem_iff.1 hx) (hp.1.mem_iff.1 hy)⟩
 have waz:IntKind.i64.wrap ((a:Int)+(z:Int))=((a+z:Nat):Int):=by rw[Vt _ (by omega)];omega
 have i1:i<n:=by omega
 have z1:a+z<n:=by omega
 have bi:(i:Int)<n:=by omega
 have bz:((a+z:Nat):Int)<n:=by omega
 refine W.draw 18 [0,0,0,0,0,24,0,0,0,384,960,1984,0,0,12288,28672,65475,131011] Tryd.mixed (by kernel_rfl) (by kernel_rfl) ?_;simp only[go_sem,v0,v1,v11,v12,T.live,T.len,waz,T.cell i1,T.cell z1,bi,bz,T.s1 i1,T.s2 (i:=i) z1,T.jk,T.jm];refine⟨by omega,by omega,?_⟩
 try rw[T.u2]
 refine W.vs ?_;simp only[go_sem,v11,wi];refine⟨by simp only[aE];omega,⟨i+1,cC q i (a+z),c',rfl,by omega,by omega,hp.trans (.swap (by omega) (by omega) (by omega) (by omega) (by omega)),by simp only[aE];omega,fun j h h2=>?_,?_,?_⟩,by rw[h11];simp only[aa,aN];omega⟩
 ·rw[ag,Vw h2];exact yold j h h2
 ·rw[ag,Vx rfl]
 ·rw[ag,Vw (by omega)];exact yr
end
end Go.Proofs
