/-
  Rounding: which places get one more. Plain: no program stands in this text. No conditions.
-/
import Derived.Test.YtakancljiekbhaaLibC
import Derived.Test.YtakancljiekbhaaConA
import Derived.Test.YtakancljiekbhaaConB
set_option linter.all false
namespace Go.Proofs
def before (r:Nat->Int)(i j:Nat):Prop:=r j<r i\/(r i=r j/\i<j)
structure Top (r:Nat->Int)(n k:Nat)(M:Nat->Bool):Prop where
 count:(List.range n).countP M=k
 first:∀ i j,i<n->j<n->M i=true->M j=false->before r i j
theorem Top.zero {r:Nat->Int}{n:Nat}:Top r n 0 (fun _=>false):=⟨by simp,fun _ _ _ _ h=>by cases h⟩
theorem Top.step {r:Nat->Int}{n k b:Nat}{M:Nat->Bool}(h:Top r n k M)(hb:b<n)(hm:M b=false)(hmin:∀ j,j<n->M j=false->j≠b->before r b j):
  Top r n (k+1) (fun i=>decide (i=b) || M i) where
 count:=by
  have:∀ l:List Nat,l.Nodup->b∈l->l.countP (fun i=>decide (i=b) || M i)=l.countP M+1:=by
   intro l
   induction l with
   | nil=>intro _ h;cases h
   | cons x l ih =>
    intro hnd hmem;obtain⟨h1,h2⟩:=Sk.1 hnd;rw[Qo,Qo];rcases List.mem_cons.1 hmem with rfl|hmem
    ·have:l.countP (fun i=>decide (i=b) || M i)=l.countP M:=Sv fun y hy=>by
      have:y≠b:=(by rintro rfl;exact h1 hy);simp [this]
     rw[this];simp [hm]
    ·have hx:x≠b:=(by rintro rfl;exact h1 hmem);rw[ih h2 hmem];simp [hx];omega
  rw[this _ Sb (PU.2 hb),h.count]
 first i j hi hj h1 h2:=by
  simp only[Rm,decide_eq_true_eq,Bool.or_eq_false_iff,QI]at h1 h2;rcases h1 with rfl|h1
  ·exact hmin j hj h2.2 h2.1
  ·exact h.first i j hi hj h1 h2.2
theorem Top.sorted {r:Nat->Int}{n k:Nat}{l:List Nat}(hp:l.Perm (List.range n))(hs:l.Pairwise (before r))(hk:k<=n):Top r n k (fun i=>decide (i∈l.take k)) where
 count:=by
  rw[<- hp.countP_eq];have hnd:l.Nodup:=hp.nodup_iff.2 Sb;have hl:l.length=n:=by simpa using hp.length_eq
  conv=>lhs;rw[<- PV k l]
  rw[List.countP_append];have e1:(l.take k).countP (fun i=>decide (i∈(List.take k l++List.drop k l).take k))=k:=by
   have:(l.take k).length=k:=by simp;omega
   conv=>rhs;rw[<- this]
   rw[RG];intro x hx;simpa using hx
  have e2:(l.drop k).countP (fun i=>decide (i∈(List.take k l++List.drop k l).take k))=0:=by
   rw[S2];intro x hx;rw[PV];simp only[decide_eq_true_eq];intro hx2;have:=(PV k l) ▸ hnd;rw[List.nodup_append]at this;exact this.2.2 x hx2 x hx rfl
  rw[e1,e2];rfl
 first i j hi hj h1 h2:=by
  simp only[decide_eq_true_eq,QI]at h1 h2;have hjl:j∈l:=hp.mem_iff.2 (PU.2 hj);rw[<- PV k l]at hjl hs;rcases PK.1 hjl with h|h
  ·exact absurd h h2
  ·exact(RN.1 hs).2.2 i h1 j h
def On (c:List Int):List Int:=if 0<c.sum then c else List.replicate c.length 1
def Oo (c:List Int):Int:=if 0<c.sum then c.sum else c.length
def partAt (sp:Int)(c:List Int)(i:Nat):Int:=sp*(On c).getD i 0 / Oo c
theorem Oq (l:List Nat)(f g:Nat->Int):(l.map fun i=>f i+g i).sum=(l.map f).sum+(l.map g).sum:=by
 induction l with
 | nil=>rfl
 | cons x l ih=>simp only[List.map_cons,Qd,ih];omega
theorem Ot (l:List Nat)(k:Int)(f:Nat->Int):(l.map fun i=>k*f i).sum=k*(l.map f).sum:=by
 induction l with
 | nil=>simp
 | cons x l ih=>simp only[List.map_cons,Qd,ih];rw[Rl]
end Go.Proofs
namespace Go.Proofs
def cq (n:Nat)(f:Nat->Int):Int:=((List.range n).map f).sum
theorem tB (n:Nat)(f g:Nat->Int):cq n (fun i=>f i+g i)=cq n f+cq n g:=Oq _ _ _
theorem qv (n:Nat)(k:Int)(f:Nat->Int):cq n (fun i=>k*f i)=k*cq n f:=Ot _ _ _
theorem tC {n:Nat}{f g:Nat->Int}(h:∀ i,i<n->f i=g i):cq n f=cq n g:=by
 unfold cq;rw[P9 fun i hi=>h i (PU.1 hi)]
theorem Ou {l:List Nat}{f g:Nat->Int}(h:∀ i∈l,f i<=g i):(l.map f).sum<=(l.map g).sum:=by
 induction l with
 | nil=>simp
 | cons x l ih =>
  have h1:=ih fun i hi=>h i (by simp [hi]);have h2:=h x (by simp);simp only[List.map_cons,Qd];omega
theorem xg {n:Nat}{f g:Nat->Int}(h:∀ i,i<n->f i<=g i):cq n f<=cq n g:=Ou fun i hi=>h i (PU.1 hi)
theorem B9 (l:List Nat)(p:Nat->Bool):((l.countP p:Nat):Int)=(l.map fun i=>if p i then (1:Int) else 0).sum:=by
 induction l with
 | nil=>rfl
 | cons x l ih =>
  rw[Qo];cases h:p x
  ·simp [ih,h]
  ·simp [ih,h];omega
theorem threshold (l:List Nat)(p:Nat->Bool)(g:Nat->Int):∃ θ:Int,0<=θ/\(∀ i∈l,p i=true->g i<=θ)/\(θ=0\/∃ i∈l,p i=true/\θ=g i):=by
 induction l with
 | nil=>exact⟨0,by omega,fun i h=>(by cases h),.inl rfl⟩
 | cons x l ih =>
  obtain⟨θ,h0,h1,h2⟩:=ih;by_cases hx:p x=true/\θ<g x
  ·refine⟨g x,by omega,fun i hi hp=>?_,.inr ⟨x,by simp,hx.1,rfl⟩⟩;rcases List.mem_cons.1 hi with rfl|hi
   ·exact Int.le_refl _
   ·have:=h1 i hi hp;omega
  ·refine⟨θ,h0,fun i hi hp=>?_,?_⟩
   ·rcases List.mem_cons.1 hi with rfl|hi
    ·exact P5 fun hn=>hx ⟨hp,by omega⟩
    ·exact h1 i hi hp
   ·rcases h2 with h2|⟨i,hi,hp,he⟩
    ·exact .inl h2
    ·exact .inr ⟨i,by simp [hi],hp,he⟩
theorem Ca {n:Nat}{M N:Nat->Bool}{g:Nat->Int}(hg:∀ i,i<n->0<=g i)(hM:∀ i j,i<n->j<n->M i=true->M j=false->g i<=g j)(hc:(List.range n).countP M<=(List.range n).countP N):
  cq n (fun i=>if M i then g i else 0)<=cq n (fun i=>if N i then g i else 0):=by
 obtain⟨θ,h0,h1,h2⟩:=threshold (List.range n) M g;have h3:∀ j,j<n->M j=false->θ<=g j:=fun j hj hm=>by
  rcases h2 with rfl|⟨i,hi,hp,rfl⟩
  ·exact hg j hj
  ·exact hM i j (PU.1 hi) hj hp hm
 have hpt:cq n (fun i=>(if M i then g i else 0)+θ*(if N i then 1 else 0))<=cq n (fun i=>(if N i then g i else 0)+θ*(if M i then 1 else 0)):=by
  refine xg fun i hi=>?_;have a:=h1 i (PU.2 hi);have b:=h3 i hi;cases hm:M i<;>cases hn:N i
  ·simp
  ·simp;exact b hm
  ·simp;exact a hm
  ·simp
 rw[tB,tB,qv,qv]at hpt;have e1:cq n (fun i=>if M i then (1:Int) else 0)=((List.range n).countP M:Nat):=(B9 _ _).symm;have e2:cq n (fun i=>if N i then (1:Int) else 0)=((List.range n).countP N:Nat):=(B9 _ _).symm;rw[e1,e2]at hpt;have h4:θ*((List.range n).countP M:Nat)<=θ*((List.range n).countP N:Nat):=Qy (by omega) h0;omega
def kW (d:Int):Int:=max d (-d)
def gi (d:Int):Int:=max d 0
theorem Ov (d:Int):kW d=2*gi d+(-1)*d:=by unfold kW gi;omega
theorem abs_neg (d:Int):kW d=2*gi (-d)+d:=by unfold kW gi;omega
theorem Cb {n:Nat}{f:Nat->Int}(h:cq n f=0):cq n (fun i=>kW (f i))=2*cq n (fun i=>gi (f i)):=by
 rw[tC fun i _=>Ov _,tB,qv,qv,h];omega
theorem Cc {n:Nat}{f:Nat->Int}(h:cq n f=0):cq n (fun i=>kW (f i))=2*cq n (fun i=>gi (-f i)):=by
 rw[tC fun i _=>abs_neg _,tB,qv,h];omega
theorem Cd (l:List Nat)(p:Nat->Bool):l.countP (fun i=>!p i)+l.countP p=l.length:=by
 induction l with
 | nil=>rfl
 | cons x l ih =>
  rw[Qo,Qo,List.length_cons];cases h:p x<;>simp<;>omega
theorem nearest {n:Nat}{t k:Nat}{ρ q x:Nat->Int}{M:Nat->Bool}(hρ:∀ i,i<n->0<=ρ i/\ρ i<t)(hM:Top ρ n k M)
  (h0:cq n (fun i=>(t:Int)*(q i+(if M i then 1 else 0)) - (t*q i+ρ i))=0) (h1:cq n (fun i=>(t:Int)*x i - (t*q i+ρ i))=0):
  cq n (fun i=>kW (t*(q i+(if M i then 1 else 0)) - (t*q i+ρ i)))<=cq n (fun i=>kW (t*x i - (t*q i+ρ i))):=by
 let N:Nat->Bool:=fun i=>decide (q i+1<=x i)
 have ge:∀ i j,i<n->j<n->M i=true->M j=false->ρ j<=ρ i:=fun i j hi hj a b=>by
  have:=hM.first i j hi hj a b;unfold before at this;omega
 rcases Nat.le_total k ((List.range n).countP N) with hk|hk
 ·rw[Cb h0,Cb h1];have a1:cq n (fun i=>gi (t*(q i+(if M i then 1 else 0)) - (t*q i+ρ i)))=cq n (fun i=>if M i then t - ρ i else 0):=tC fun i hi=>by
   have:=hρ i hi;rw[Rl];unfold gi;cases M i<;>simp<;>omega
  have a2:cq n (fun i=>if N i then t - ρ i else 0)<=cq n (fun i=>gi (t*x i - (t*q i+ρ i))):=xg fun i hi=>by
   have:=hρ i hi;unfold gi;by_cases h:q i+1<=x i
   ·have h5:(t:Int)*(q i+1)<=t*x i:=Qy h (by omega);rw[Rl]at h5;simp only[N,h,decide_true,if_true];omega
   ·simp only[N,h,decide_false,Bool.false_eq_true,if_false];omega
  have a3:=Ca (M:=M) (N:=N) (g:=fun i=>t - ρ i) (fun i hi=>by have:=hρ i hi;omega) (fun i j hi hj a b=>by have:=ge i j hi hj a b;omega) (by rw[hM.count];exact hk);rw[a1];omega
 ·rw[Cc h0,Cc h1];have a1:cq n (fun i=>gi (-(t*(q i+(if M i then 1 else 0)) - (t*q i+ρ i))))=cq n (fun i=>if !M i then ρ i else 0):=tC fun i hi=>by
   have:=hρ i hi;rw[Rl];unfold gi;cases M i<;>simp<;>omega
  have a2:cq n (fun i=>if !N i then ρ i else 0)<=cq n (fun i=>gi (-(t*x i - (t*q i+ρ i)))):=xg fun i hi=>by
   have:=hρ i hi;unfold gi;by_cases h:q i+1<=x i
   ·simp only[N,h,decide_true,Bool.not_true,Bool.false_eq_true,if_false];omega
   ·have h5:(t:Int)*x i<=t*q i:=Qy (by omega) (by omega);simp only[N,h,decide_false,Bool.not_false,if_true];omega
  have c1:=Cd (List.range n) M;have c2:=Cd (List.range n) N;have a3:=Ca (M:=fun i=>!M i) (N:=fun i=>!N i) (g:=ρ) (fun i hi=>(hρ i hi).1) (fun i j hi hj a b=>by
   simp only[R8,Bool.not_eq_false']at a b;exact ge j i hj hi b a) (by have:=hM.count;omega)
  rw[a1];omega
end Go.Proofs
namespace Go.Proofs
end Go.Proofs
set_option maxRecDepth 100000
namespace Go.Proofs
open Go.Hx
theorem tD {α:Type}(l:List α)(i j:Nat)(a d:α)(hi:i<l.length):(l.set i a).getD j d=if i=j then a else l.getD j d:=by
 rw[Pz,Pz,Rp];by_cases h:i=j
 ·subst h;rw[Pv rfl,Pv hi,Pv rfl];rfl
 ·rw[Pt h,Pt h]
theorem jX {l:List Nat}{i:Nat}(h:i<l.length):l[i]?=some (l.getD i 0):=by
 rw[Pz,Pr h];rfl
def eo (l:List Nat)(i j:Nat):List Nat:=(l.set i (l.getD j 0)).set j (l.getD i 0)
theorem Ow (l:List Nat)(i j:Nat):(eo l i j).length=l.length:=by simp [eo]
theorem Ox {l:List Nat}{i j:Nat}(hi:i<l.length)(hj:j<l.length)(hij:i≠j)(a:Nat):(eo l i j).getD a 0=if a=j then l.getD i 0 else if a=i then l.getD j 0 else l.getD a 0:=by
 unfold eo;rw[tD _ _ _ _ _ (by rw[Py];exact hj),tD _ _ _ _ _ hi];by_cases h1:a=j
 ·rw[Pv h1,Pv h1.symm]
 ·rw[Pt h1,Pt fun h=>h1 h.symm];by_cases h2:a=i
  ·rw[Pv h2,Pv h2.symm]
  ·rw[Pt h2,Pt fun h=>h2 h.symm]
end Go.Proofs
namespace Go.Hx
variable {P:Program} {G:Nat->Option (List AVal)} {Γ Γ':aw} {H H':AHeap} {w w':World}
theorem W.Bd {n:Nat}{rd:Option Nat}{Q:AX->St->Prop}{s:St}{x y:Code}(Φ:St->Prop)(h:W P G n rd x (fun ax s'=>ax=.normal/\Φ s') s)(h2:∀ s',Φ s'->W P G n rd y Q s'):W P G n rd (.seq x y) Q s :=
 W.seq (h.mono fun ax s' ⟨e,hp⟩=>by subst e;exact h2 s' hp)
theorem Mg (H:AHeap)(id:Nat)(b c:Blk):(H.upd id b).upd id c=H.upd id c:=by
 unfold AHeap.upd;congr 1
 funext j
 by_cases hj:j=id<;>simp [hj]
end Go.Hx
namespace Go.Proofs
open Go.Hx
def br (l:List Nat):List Int:=l.map fun (v:Nat)=>(v:Int)
theorem ga (l:List Nat):(br l).length=l.length:=by simp [br]
theorem lY {l:List Nat}{i k:Nat}(h:l[i]?=some k):(br l)[i]?=some (k:Int):=by simp [br,h]
theorem Be (l:List Nat)(i k:Nat):(br l).set i (k:Int)=br (l.set i k):=by unfold br;rw[RY]
def nB (g:Nat)(q:List Nat):Blk:=.arr g 3 (ints (br q))
def Mx (cv:AVal)(f:Nat->Nat)(l:List Nat)(Inv:AHeap->Prop):Prop:=∀ a b,a∈l->b∈l->∀ Hx,Inv Hx->∃ z:Int,(z<0↔f a<f b)/\∀ K,K (.ret (aa z)) Hx->az Try.prog G0 cv [aa (a:Nat),aa (b:Nat)] Hx K
def dY (a b:Nat)(l l':List Nat):Prop:=l'.Perm l/\∀ i,i<a\/b<=i->l'.getD i 0=l.getD i 0
theorem dY.refl (a b:Nat)(l:List Nat):dY a b l l:=⟨.refl _,fun _ _=>rfl⟩
theorem dY.trans {a b:Nat}{l m r:List Nat}(h:dY a b l m)(k:dY a b m r):dY a b l r:=⟨k.1.trans h.1,fun i hi=>(k.2 i hi).trans (h.2 i hi)⟩
theorem dY.len {a b:Nat}{l m:List Nat}(h:dY a b l m):m.length=l.length:=h.1.length_eq
theorem dY.mono {a b a' b':Nat}{l m:List Nat}(h:dY a b l m)(ha:a'<=a)(hb:b<=b'):dY a' b' l m:=⟨h.1,fun i hi=>h.2 i (by omega)⟩
theorem wV {l:List Nat}{i j:Nat}(hi:i<l.length)(hj:j<l.length)(a:Nat):(eo l i j).getD a 0=if a=j then l.getD i 0 else if a=i then l.getD j 0 else l.getD a 0:=by
 unfold eo;rw[tD _ _ _ _ _ (by rw[Py];exact hj),tD _ _ _ _ _ hi];by_cases h1:a=j
 ·rw[Pv h1,Pv h1.symm]
 ·rw[Pt h1,Pt fun h=>h1 h.symm];by_cases h2:a=i
  ·rw[Pv h2,Pv h2.symm]
  ·rw[Pt h2,Pt fun h=>h2 h.symm]
theorem Bw {a b:Nat}{l:List Nat}{x:Nat}:x∈(l.take b).drop a↔∃ i,a<=i/\i<b/\i<l.length/\l.getD i 0=x:=by
 rw[PT];constructor
 ·rintro⟨k,hk⟩;rw[Qn,Rh]at hk;split at hk
  ·exact⟨a+k,by omega,by omega,get_lt hk,by rw[Pz,hk];rfl⟩
  ·cases hk
 ·rintro⟨i,h1,h2,h3,h4⟩;refine⟨i - a,?_⟩;rw[Qn,Rh,Pv (by omega),show a+(i - a)=i by omega,jX h3,h4]
theorem Bx {l m:List Nat}(hl:l.length=m.length)(h:∀ i,i<l.length->l.getD i 0=m.getD i 0):l=m:=by
 apply Qf;intro i;rcases PR i l.length with hi|hi
 ·rw[jX hi,jX (by omega),h i hi]
 ·rw[PD hi,PD (by omega)]
theorem dY.mid {a b:Nat}{l m:List Nat}(h:dY a b l m)(hab:a<=b)(hb:b<=l.length):((m.take b).drop a).Perm ((l.take b).drop a):=by
 have hl:=h.len;have e1:m.take a=l.take a:=Bx (by simp [hl]) fun i hi=>by
  rw[PC]at hi;rw[Pz,Pz,Rh,Rh,Pv (by omega),Pv (by omega),jX (by omega),jX (by omega),h.2 i (by omega)]
 have e2:m.drop b=l.drop b:=Bx (by simp [hl]) fun i hi=>by
  rw[P0]at hi;rw[Pz,Pz,Qn,Qn,jX (by omega),jX (by omega),h.2 (b+i) (by omega)]
 have cut:∀ l:List Nat,l=l.take a++((l.take b).drop a++l.drop b):=fun l=>by
  rw[<- List.append_assoc];have:l.take a++(l.take b).drop a=l.take b:=by
   have:=PV a (l.take b);rw[So,QR hab]at this;exact this
  rw[this,PV]
 have hp:=h.1;rw[cut m,cut l,e1,e2]at hp;exact(List.perm_append_right_iff _).1 ((List.perm_append_left_iff _).1 hp)
theorem dY.all {a b:Nat}{l m:List Nat}(h:dY a b l m)(hb:b<=l.length){p:Nat->Prop}(hp:∀ i,a<=i->i<b->p (l.getD i 0)):∀ i,a<=i->i<b->p (m.getD i 0):=by
 intro i h1 h2;have hl:=h.len;have:m.getD i 0∈(m.take b).drop a:=Bw.2 ⟨i,h1,h2,by omega,rfl⟩;obtain⟨k,k1,k2,_,k4⟩:=Bw.1 ((h.mid (by omega) hb).mem_iff.1 this);rw[<- k4];exact hp k k1 k2
def jv (f:Nat->Nat)(l:List Nat)(a b:Nat):Prop:=∀ i j,a<=i->i<j->j<b->f (l.getD i 0)<=f (l.getD j 0)
def wW (f:Nat->Nat)(l:List Nat):Prop:=(l.map f).Nodup
theorem wW.ne {f:Nat->Nat}{l:List Nat}(h:wW f l){i j:Nat}(hij:i≠j)(hi:i<l.length)(hj:j<l.length):f (l.getD i 0)≠f (l.getD j 0):=by
 intro e;have g:∀ k,k<l.length->(l.map f)[k]?=some (f (l.getD k 0)):=fun k hk=>by rw[List.getElem?_map,jX hk];rfl
 refine hij ((Q5 (by rw[Px];exact hi) h).1 ?_);rw[g i hi,g j hj,e]
def Bl (f:Nat->Nat)(l:List Nat)(a b:Nat):Prop:=a=0\/∀ i,a<=i->i<b->f (l.getD (a - 1) 0)<f (l.getD i 0)
def fH (k c:Nat):Prop:=c=2*k+1\/c=2*k+2
def qi (f:Nat->Nat)(l:List Nat)(a lo hi:Nat):Prop:=∀ k c,lo<=k->fH k c->c<hi->f (l.getD (a+c) 0)<=f (l.getD (a+k) 0)
def mg (f:Nat->Nat)(l:List Nat)(a lo hi r:Nat):Prop :=
 (∀ k c,lo<=k->k≠r->fH k c->c<hi->f (l.getD (a+c) 0)<=f (l.getD (a+k) 0))/\∀ k c,lo<=k->fH k r->fH r c->c<hi->f (l.getD (a+c) 0)<=f (l.getD (a+k) 0)
theorem mg.start {f:Nat->Nat}{l:List Nat}{a lo hi:Nat}(h:qi f l a (lo+1) hi):mg f l a lo hi lo :=
 ⟨fun k c h1 h2 h3 h4=>h k c (by omega) h3 h4,fun k c h1 h2 h3 h4=>by unfold fH at h2;omega⟩
theorem mg.done {f:Nat->Nat}{l:List Nat}{a lo hi r:Nat}(h:mg f l a lo hi r)(hd:∀ c,fH r c->c<hi->f (l.getD (a+c) 0)<=f (l.getD (a+r) 0)):qi f l a lo hi:=fun k c h1 h3 h4=>by
 by_cases hk:k=r
 ·subst hk;exact hd c h3 h4
 ·exact h.1 k c h1 hk h3 h4
theorem mg.step {f:Nat->Nat}{l:List Nat}{a lo hi r c:Nat}(h:mg f l a lo hi r)(hlo:lo<=r)(hb:a+hi<=l.length)(hc:fH r c)(hci:c<hi)(hmax:∀ d,fH r d->d<hi->f (l.getD (a+d) 0)<=f (l.getD (a+c) 0))(hlt:f (l.getD (a+r) 0)<=f (l.getD (a+c) 0)):
  mg f (eo l (a+r) (a+c)) a lo hi c:=by
 have hrc:r<c:=by unfold fH at hc;omega
 have g:=fun k=>wV (l:=l) (i:=a+r) (j:=a+c) (by omega) (by omega) (a+k);have gk:∀ k,k≠r->k≠c->(eo l (a+r) (a+c)).getD (a+k) 0=l.getD (a+k) 0:=fun k h1 h2=>by rw[g,Pt (by omega),Pt (by omega)]
 have gr:(eo l (a+r) (a+c)).getD (a+r) 0=l.getD (a+c) 0:=by rw[g,Pt (by omega),Pv rfl]
 have gc:(eo l (a+r) (a+c)).getD (a+c) 0=l.getD (a+r) 0:=by rw[g,Pv rfl]
 constructor
 ·intro k d h1 h2 h3 h4;by_cases hk:k=r
  ·subst hk;rw[gr];by_cases hd:d=c
   ·subst hd;rw[gc];exact hlt
   ·rw[gk d (by unfold fH at h3;omega) hd];exact hmax d h3 h4
  ·rw[gk k hk h2];by_cases hd:d=r
   ·subst hd;rw[gr];exact h.2 k c h1 h3 hc hci
   ·rw[gk d hd (by unfold fH at h3 hc;omega)];exact h.1 k d h1 hk h3 h4
 ·intro k d h1 h2 h3 h4;obtain rfl:k=r:=by unfold fH at h2 hc;omega
  rw[gr,gk d (by unfold fH at h3;omega) (by unfold fH at h3;omega)];exact h.1 c d (by omega) (by omega) h3 h4
theorem qi.max {f:Nat->Nat}{l:List Nat}{a hi:Nat}(h:qi f l a 0 hi):∀ k,k<hi->f (l.getD (a+k) 0)<=f (l.getD a 0):=by
 intro k
 induction k using Nat.strongRecOn with
 | _ k ih =>
  intro hk;by_cases h0:k=0
  ·subst h0;exact Nat.le_refl _
  ·have h1:=h ((k - 1) / 2) k (by omega) (by unfold fH;omega) hk;exact PY h1 (ih _ (by omega) (by omega))
def mh (f:Nat->Nat)(l:List Nat)(a m b:Nat):Prop:=∀ i j,a<=i->i<j->j<b->m<=j->f (l.getD i 0)<=f (l.getD j 0)
theorem mh.start {f:Nat->Nat}{l:List Nat}{a b:Nat}:mh f l a b b:=fun i j h1 h2 h3 h4=>by omega
theorem mh.done {f:Nat->Nat}{l:List Nat}{a b:Nat}(h:mh f l a a b):jv f l a b:=fun i j h1 h2 h3=>h i j h1 h2 h3 (by omega)
theorem mh.step {f:Nat->Nat}{l m:List Nat}{a i b:Nat}(h:mh f l a (a+(i+1)) b)(hh:qi f l a 0 (i+1))(hi:a+i<b)(hb:b<=l.length)(hp:dY a (a+i) (eo l a (a+i)) m):mh f m a (a+i) b:=by
 have g:=fun k=>wV (l:=l) (i:=a) (j:=a+i) (by omega) (by omega) k;have mx:=hh.max;have sl:(eo l a (a+i)).length=l.length:=Ow ..;have big:∀ k,a<=k->k<a+i->f ((eo l a (a+i)).getD k 0)<=f (l.getD a 0):=fun k h1 h2=>by
  rw[g,Pt (by omega)];split
  ·have:=mx i (by omega);exact this
  ·have:=mx (k - a) (by omega);rw[show a+(k - a)=k by omega]at this;exact this
 have big':=hp.all (by omega) (p:=fun x=>f x<=f (l.getD a 0)) big;have tail:∀ k,a+i<=k->m.getD k 0=(eo l a (a+i)).getD k 0:=fun k hk=>hp.2 k (.inr hk);intro x y h1 h2 h3 h4;rw[tail y h4];by_cases hy:y=a+i
 ·subst hy;rw[g,Pv rfl];exact big' x h1 h2
 ·rw[g,Pt hy,Pt (by omega)];rcases PR x (a+i) with hx|hx
  ·have e:∀ z,a<=z->z<a+i->f ((eo l a (a+i)).getD z 0)<=f (l.getD y 0):=fun z z1 z2=>PY (big z z1 z2) (h a y (by omega) (by omega) h3 (by omega));exact hp.all (by omega) (p:=fun x=>f x<=f (l.getD y 0)) e x h1 hx
  ·rw[tail x hx,g];split
   ·exact h a y (by omega) (by omega) h3 (by omega)
   ·rw[Pt (by omega)];exact h x y h1 h2 h3 (by omega)
def Out (f:Nat->Nat)(l:List Nat)(a b c d:Nat):Prop:=∀ i j,a<=i->i<j->j<b->(i<c\/d<=j)->f (l.getD i 0)<=f (l.getD j 0)
theorem Out.start {f:Nat->Nat}{l:List Nat}{a b:Nat}:Out f l a b a b:=fun i j h1 h2 h3 h4=>by omega
theorem Out.perm {f:Nat->Nat}{l m:List Nat}{a b c d:Nat}(h:Out f l a b c d)(hp:dY c d l m)(h1:a<=c)(h2:d<=b)(hb:b<=l.length):Out f m a b c d:=by
 intro i j q1 q2 q3 q4;by_cases hi:c<=i/\i<d
 ·have hj:d<=j:=by omega
  rw[hp.2 j (.inr hj)];exact hp.all (by omega) (p:=fun x=>f x<=f (l.getD j 0)) (fun k k1 k2=>h k j (by omega) (by omega) q3 (.inr hj)) i hi.1 hi.2
 ·rw[hp.2 i (by omega)];by_cases hj:c<=j/\j<d
  ·have hic:i<c:=(by omega);exact hp.all (by omega) (p:=fun x=>f (l.getD i 0)<=f x) (fun k k1 k2=>h i k q1 (by omega) (by omega) (.inl hic)) j hj.1 hj.2
  ·rw[hp.2 j (by omega)];exact h i j q1 q2 q3 q4
theorem Out.done {f:Nat->Nat}{l:List Nat}{a b c d:Nat}(h:Out f l a b c d)(hs:jv f l c d):jv f l a b:=fun i j h1 h2 h3=>by
 by_cases hc:i<c\/d<=j
 ·exact h i j h1 h2 h3 hc
 ·exact hs i j (by omega) h2 (by omega)
def mi (f:Nat->Nat)(l:List Nat)(c d m:Nat):Prop:=(∀ i,c<=i->i<m->f (l.getD i 0)<=f (l.getD m 0))/\∀ i,m<i->i<d->f (l.getD m 0)<=f (l.getD i 0)
theorem mi.le {f:Nat->Nat}{l:List Nat}{c d m:Nat}(h:mi f l c d m){i j:Nat}(h1:c<=i)(h2:j<d)(h3:i<=m)(h4:m<=j):f (l.getD i 0)<=f (l.getD j 0):=by
 have a1:f (l.getD i 0)<=f (l.getD m 0):=by
  rcases PR i m with q|q
  ·exact h.1 i h1 q
  ·rw[show i=m by omega];exact Nat.le_refl _
 have a2:f (l.getD m 0)<=f (l.getD j 0):=by
  rcases PR m j with q|q
  ·exact h.2 j q h2
  ·rw[show j=m by omega];exact Nat.le_refl _
 omega
theorem Out.left {f:Nat->Nat}{l m:List Nat}{a b c d p:Nat}(h:Out f l a b c d)(hp:mi f l c d p)(h1:c<=p)(h2:p<d)(h3:a<=c)(h4:d<=b)(hb:b<=l.length)(hm:dY c p l m)(hs:jv f m c p):Out f m a b (p+1) d:=by
 have hout:=h.perm (hm.mono (Nat.le_refl _) (show p<=d by omega)) h3 h4 hb;have hm':mi f m c d p:=by
  have ep:=hm.2 p (.inr (Nat.le_refl _));refine⟨fun i i1 i2=>?_,fun i i1 i2=>?_⟩
  ·rw[ep];exact hm.all (by omega) (p:=fun x=>f x<=f (l.getD p 0)) hp.1 i i1 i2
  ·rw[ep,hm.2 i (by omega)];exact hp.2 i i1 i2
 intro i j q1 q2 q3 q4;by_cases hc:i<c\/d<=j
 ·exact hout i j q1 q2 q3 hc
 ·rcases PR j p with hj|hj
  ·exact hs i j (by omega) q2 hj
  ·exact hm'.le (by omega) (by omega) (by omega) hj
theorem Out.right {f:Nat->Nat}{l m:List Nat}{a b c d p:Nat}(h:Out f l a b c d)(hp:mi f l c d p)(h1:c<=p)(h2:p<d)(h3:a<=c)(h4:d<=b)(hb:b<=l.length)(hm:dY (p+1) d l m)(hs:jv f m (p+1) d):Out f m a b c p:=by
 have hout:=h.perm (hm.mono (show c<=p+1 by omega) (Nat.le_refl _)) h3 h4 hb;have hm':mi f m c d p:=by
  have ep:=hm.2 p (.inl (by omega));refine⟨fun i i1 i2=>?_,fun i i1 i2=>?_⟩
  ·rw[ep,hm.2 i (by omega)];exact hp.1 i i1 i2
  ·rw[ep];exact hm.all (by omega) (p:=fun x=>f (l.getD p 0)<=f x) (fun k k1 k2=>hp.2 k (by omega) k2) i (by omega) i2
 intro i j q1 q2 q3 q4;by_cases hc:i<c\/d<=j
 ·exact hout i j q1 q2 q3 hc
 ·rcases PR p i with hi|hi
  ·exact hs i j (by omega) q2 (by omega)
  ·exact hm'.le (by omega) (by omega) hi (by omega)
theorem Out.bl {f:Nat->Nat}{l:List Nat}{a b c d:Nat}(h:Out f l a b c d)(hB:Bl f l a b)(hD:wW f l)(h1:a<=c)(h2:d<=b)(hb:b<=l.length):Bl f l c d:=by
 by_cases hc:c=a
 ·subst hc;rcases hB with q|q
  ·exact .inl q
  ·exact .inr fun i i1 i2=>q i i1 (by omega)
 ·refine .inr fun i i1 i2=>?_;have h1:=h (c - 1) i (by omega) (by omega) (by omega) (.inl (by omega));have h2:=hD.ne (i:=c - 1) (j:=i) (by omega) (by omega) (by omega);omega
structure SH (cv:AVal)(f:Nat->Nat)(rid:Nat)(rb:Blk)(id g n:Nat)(l:List Nat)(H:AHeap):Prop where
 hl:l.length=n
 hn:n<=1024
 hg:H.get id=some (nB g l)
 hr:H.get rid=some rb
 ne:rid≠id
 il:id<H.next
 rl:rid<H.next
 cmp:Mx cv f l fun Hx=>Hx.get rid=some rb
section
variable {cv:AVal} {f:Nat->Nat} {rid:Nat} {rb:Blk} {id g n:Nat} {l q:List Nat} {H H':AHeap}
theorem SH.upd (S:SH cv f rid rb id g n l H)(hp:q.Perm l):SH cv f rid rb id g n q (H.upd id (nB g q)) :=
 ⟨by rw[hp.length_eq,S.hl],S.hn,by rw[ag,Pv rfl],by rw[ag,Pt S.ne];exact S.hr,S.ne,S.il,S.rl,fun a b ha hb=>S.cmp a b (hp.mem_iff.1 ha) (hp.mem_iff.1 hb)⟩
theorem SH.over (S:SH cv f rid rb id g n l H)(ho:Over H H'):SH cv f rid rb id g n l H' :=
 ⟨S.hl,S.hn,(ho.old _ S.il).trans S.hg,(ho.old _ S.rl).trans S.hr,S.ne,by have:=S.il;have:=ho.next;omega,by have:=S.rl;have:=ho.next;omega,S.cmp⟩
theorem SH.live (S:SH cv f rid rb id g n l H):H.live id g=some (3,ints (br l)):=aj S.hg
theorem SH.len (S:SH cv f rid rb id g n l H):(ints (br l)).length=n:=by rw[aS,ga,S.hl]
theorem SH.cell (S:SH cv f rid rb id g n l H){i:Nat}(hi:i<n):(ints (br l))[i]?=some (.lit (.int .i64 ((l.getD i 0:Nat):Int))):=by
 rw[fU,lY (jX (by rw[S.hl];exact hi))];rfl
theorem SH.s1 (S:SH cv f rid rb id g n l H){i:Nat}(hi:i<n)(x:Nat):setAt (ints (br l)) i [.lit (.int .i64 (x:Int))]=ints (br (l.set i x)):=by
 rw[fL (by rw[ga,S.hl];exact hi),Be]
theorem SH.s2 (S:SH cv f rid rb id g n l H){i j:Nat}(hj:j<n):setAt (ints (br (l.set i (l.getD j 0)))) j [.lit (.int .i64 ((l.getD i 0:Nat):Int))]=ints (br (eo l i j)):=by
 rw[fL (by rw[ga,Py,S.hl];exact hj),Be];rfl
theorem SH.u2 (_S:SH cv f rid rb id g n l H)(p q:List Nat):(H.upd id (.arr g 3 (ints (br p)))).upd id (.arr g 3 (ints (br q)))=H.upd id (nB g q):=Mg ..
end
section
variable {cv:AVal} {f:Nat->Nat} {rid:Nat} {rb:Blk} {id g n a b:Nat} {l:List Nat} {H:AHeap}
end
end Go.Proofs
namespace Go.Proofs
open Go.Hx
def mj (f:Nat->Nat)(l:List Nat)(a i j:Nat):Prop:=(∀ x y,a<=x->x<y->y<=i->x≠j->y≠j->f (l.getD x 0)<=f (l.getD y 0))/\∀ y,j<y->y<=i->f (l.getD j 0)<=f (l.getD y 0)
theorem mj.start {f:Nat->Nat}{l:List Nat}{a i:Nat}(h:jv f l a i):mj f l a i i:=⟨fun x y h0 h1 h2 h3 h4=>h x y h0 h1 (by omega),fun b h1 h2=>by omega⟩
theorem mj.done {f:Nat->Nat}{l:List Nat}{a i j:Nat}(h:mj f l a i j)(hj:j<=i)(hd:j<=a\/f (l.getD (j - 1) 0)<=f (l.getD j 0)):jv f l a (i+1):=by
 intro x y h0 h1 h2;by_cases hb:y=j
 ·subst hb;rcases hd with h3|h3
  ·omega
  ·by_cases ha:x=y - 1
   ·rw[ha];exact h3
   ·exact PY (h.1 x (y - 1) h0 (by omega) (by omega) (by omega) (by omega)) h3
 ·by_cases ha:x=j
  ·subst ha;exact h.2 y h1 (by omega)
  ·exact h.1 x y h0 h1 (by omega) ha hb
theorem mj.step {f:Nat->Nat}{l:List Nat}{a i j:Nat}(h:mj f l a i j)(hj:j<=i)(hi:i<l.length)(h0:a<j)(hlt:f (l.getD j 0)<f (l.getD (j - 1) 0)):mj f (eo l j (j - 1)) a i (j - 1):=by
 have g:=Ox (l:=l) (i:=j) (j:=j - 1) (by omega) (by omega) (by omega);constructor
 ·intro x y hx h1 h2 h3 h4;rw[g x,g y,Pt h3,Pt h4];by_cases ha:x=j
  ·rw[Pv ha,Pt (by omega)];exact h.1 (j - 1) y (by omega) (by omega) h2 (by omega) (by omega)
  ·rw[Pt ha];by_cases hb:y=j
   ·rw[Pv hb];exact h.1 x (j - 1) hx (by omega) (by omega) ha (by omega)
   ·rw[Pt hb];exact h.1 x y hx h1 h2 ha hb
 ·intro b h1 h2;rw[g (j - 1),Pv rfl,g b,Pt (by omega)];by_cases hb:b=j
  ·rw[Pv hb];exact RV hlt
  ·rw[Pt hb];exact h.2 b (by omega) h2
section
variable {cv:AVal} {f:Nat->Nat} {rid:Nat} {rb:Blk} {id g n a b:Nat} {l:List Nat} {H:AHeap}
end
end Go.Proofs
namespace Go.Proofs
open Go.Hx
section
variable {cv:AVal} {f:Nat->Nat} {rid:Nat} {rb:Blk} {id g n a b:Nat} {l:List Nat} {H:AHeap}
def By (f:Nat->Nat)(q:List Nat)(a b i j:Nat):Prop:=a<i/\i<=j+1/\j<b/\(∀ k,a<k->k<i->f (q.getD k 0)<f (q.getD a 0))/\∀ k,j<k->k<b->f (q.getD a 0)<=f (q.getD k 0)
theorem By.done {f:Nat->Nat}{q:List Nat}{a b i j:Nat}(h:By f q a b i j)(hij:j<i)(hb:b<=q.length):mi f (eo q j a) a b j:=by
 obtain⟨h1,h2,h3,h4,h5⟩:=h;have g:=fun k=>wV (l:=q) (i:=j) (j:=a) (by omega) (by omega) k;have ej:(eo q j a).getD j 0=q.getD a 0:=by
  rw[g];split
  ·rename_i e;rw[e]
  ·rw[Pv rfl]
 refine⟨fun k k1 k2=>?_,fun k k1 k2=>?_⟩
 ·rw[ej,g];split
  ·exact RV (h4 j (by omega) (by omega))
  ·rw[Pt (by omega)];exact RV (h4 k (by omega) (by omega))
 ·rw[ej,g,Pt (by omega),Pt (by omega)];exact h5 k k1 k2
end
end Go.Proofs
namespace Go.Proofs
open Go.Hx
theorem jv.keep {f:Nat->Nat}{q p:List Nat}{a i b:Nat}(h:jv f q a i)(hp:dY i b q p):jv f p a i:=fun x y h1 h2 h3=>by
 rw[hp.2 x (by omega),hp.2 y (by omega)];exact h x y h1 h2 h3
section
variable {cv:AVal} {f:Nat->Nat} {rid:Nat} {rb:Blk} {id g n a b:Nat} {l:List Nat} {H:AHeap}
end
end Go.Proofs
namespace Go.Proofs
open Go.Hx
section
variable {cv:AVal} {f:Nat->Nat} {rid:Nat} {rb:Blk} {id g n a:Nat} {l:List Nat} {H:AHeap}
end
end Go.Proofs
namespace Go.Proofs
open Go.Hx
section
variable {cv:AVal} {f:Nat->Nat} {rid:Nat} {rb:Blk} {id g n a b:Nat} {l:List Nat} {H:AHeap}
end
end Go.Proofs
namespace Go.Hx
end Go.Hx
namespace Go.Proofs
open Go.Hx
section
variable {cv:AVal} {f:Nat->Nat} {rid:Nat} {rb:Blk} {id g n a b:Nat} {l:List Nat} {H:AHeap}
end
end Go.Proofs
namespace Go.Proofs
open Go.Hx
section
variable {cv:AVal} {f:Nat->Nat} {rid:Nat} {rb:Blk} {id g n a b:Nat} {l:List Nat} {H:AHeap}
def sB (s:Int):Blk:=.arr 0 3 [aa s]
end
end Go.Proofs
namespace Go.Hx
end Go.Hx
namespace Go.Proofs
open Go.Hx
theorem Bl.sub {f:Nat->Nat}{l:List Nat}{a b c:Nat}(h:Bl f l a b)(hc:c<=b):Bl f l a c:=h.imp id fun h i h1 h2=>h i h1 (by omega)
section
variable {cv:AVal} {f:Nat->Nat} {rid:Nat} {rb:Blk} {id g n:Nat}
end
end Go.Proofs
set_option linter.unusedVariables false
namespace Go.Proofs
end Go.Proofs
namespace Go.Proofs
open Go.Hx
end Go.Proofs
namespace Go.Hx
variable {P:Program}
structure Own2 (lo:Nat)(H:AHeap)(e:TypeId)(v:AVal)(l:List AVal)(u:AVal)(m:List AVal):Prop where
 a:aA lo H e v l
 b:aA lo H e u m
 ne:∀ i g n g' n',v=.own i g 0 n 1->u≠.own i g' 0 n' 1
theorem Own2.symm {lo:Nat}{H:AHeap}{e:TypeId}{v u:AVal}{l m:List AVal}(h:Own2 lo H e v l u m):Own2 lo H e u m v l:=⟨h.b,h.a,fun i g n g' n' h1 h2=>h.ne i g' n' g n h2 h1⟩
theorem Own2.nil {lo:Nat}{H:AHeap}{e:TypeId}:Own2 lo H e (.lit (.slice none 0 0)) [] (.lit (.slice none 0 0)) []:=⟨.nil,.nil,fun _ _ _ _ _ h=>(by cases h)⟩
theorem Own2.keep {lo:Nat}{H H':AHeap}{e:TypeId}{v u:AVal}{l m:List AVal}(h:Own2 lo H e v l u m)(hn:H.next<=H'.next)(hk:∀ id,lo<=id->id<H.next->H'.get id=H.get id):Own2 lo H' e v l u m :=
 ⟨h.a.keep (Nat.le_refl _) hn fun id _ h1 h2 _ _=>hk id h1 h2,h.b.keep (Nat.le_refl _) hn fun id _ h1 h2 _ _=>hk id h1 h2,h.ne⟩
end Go.Hx
namespace Go.Hx
theorem aA.tv {lo:Nat}{H:AHeap}{e:TypeId}{v:AVal}{cs:List AVal}(h:aA lo H e v cs){k:Nat}(hk:k<lo):∀ g n,v≠.own k g 0 n 1:=fun g n he=>by
 rcases h with ⟨h,_⟩|⟨id,g',a,_,h,_⟩
 ·rw[h]at he;cases he
 ·rw[h]at he;have:=(AVal.own.inj he).1;omega
end Go.Hx
namespace Go.Proofs
open Go.Hx
theorem Bu {r:Nat->Int}{M:Nat->Bool}:∀ m,(∃ j,j<m/\M j=false)->∃ b,b<m/\M b=false/\∀ j,j<m->M j=false->j≠b->before r b j
 | 0,⟨j,h,_⟩=>absurd h (PL _)
 | m+1,⟨j,hj,hM⟩=>by
  by_cases hex:∃ j,j<m/\M j=false
  ·obtain⟨b,hb,hMb,hmin⟩:=Bu m hex;cases hm:M m with
   | true=>exact⟨b,by omega,hMb,fun j hj h1 h2=>hmin j (by have:j≠m:=(by rintro rfl;rw[hm]at h1;cases h1);omega) h1 h2⟩
   | false =>
    by_cases hlt:r b<r m
    ·refine⟨m,by omega,hm,fun j hj h1 h2=>?_⟩;have hjm:j<m:=(by omega);by_cases hjb:j=b
     ·subst hjb;exact .inl hlt
     ·have:=hmin j hjm h1 hjb;unfold before at this ⊢;omega
    ·refine⟨b,by omega,hMb,fun j hj h1 h2=>?_⟩;by_cases hjm:j=m
     ·subst hjm;unfold before;omega
     ·exact hmin j (by omega) h1 h2
  ·have:j=m:=by
    refine P5 fun h=>hex ⟨j,by omega,hM⟩
   subst this;exact⟨j,by omega,hM,fun i hi h1 h2=>absurd ⟨i,by omega,h1⟩ hex⟩
theorem Top.some {r:Nat->Int}{n k:Nat}{M:Nat->Bool}(h:Top r n k M)(hk:k<n):∃ j,j<n/\M j=false:=by
 refine P5 fun hno=>?_;have:=h.count;have e:(List.range n).countP M=(List.range n).length:=RG.2 fun x hx=>by
  rcases Qm (M x) with e|e
  ·exact e
  ·exact absurd ⟨x,PU.1 hx,e⟩ hno
 rw[e,QO]at this;omega
theorem Top.ex (r:Nat->Int)(n:Nat):∀ k,k<=n->∃ M,Top r n k M
 | 0,_=>⟨_,.zero⟩
 | k+1,h=>by
  obtain⟨M,hM⟩:=Top.ex r n k (by omega);obtain⟨b,hb,hMb,hmin⟩:=Bu (r:=r) n (hM.some (by omega));exact⟨_,hM.step hb hMb hmin⟩
end Go.Proofs
namespace Go.Hx
theorem ab.fin {P:Program}{G:Nat->Option (List AVal)}{f:FuncId}{args:List AVal}{H:AHeap}{K:ARes->AHeap->Prop}(h:ab P G f args H fun r H'=>∃ v,r=.ret v/\av P G H K v H'):ab P G f args H K:=by
 refine⟨h.1,fun Γ w cargs R hr=>(h.2 Γ w cargs R hr).mono ?_⟩;rintro e w' ⟨r,H',Γ',hend,⟨v,rfl,v',H2,hw,hn2,hk⟩,R',E,hn⟩;obtain⟨Γ2,R2,E2,hv⟩:=hw Γ' w' R';refine⟨.ret v',H2,Γ2,?_,hk,R2,E.trans hn E2,hn2⟩;cases e with
 | returned cv=>exact hv cv hend
 | _=>exact hend.elim
end Go.Hx
namespace Go.Proofs
open Go.Hx
def Bz (c:List Int)(grain least:Int):Prop:=(1<=c.length/\c.length<=1024)/\(∀ x∈c,0<=x/\x<=1099511627776)/\(1<=grain/\grain<=720)/\0<=least/\least*c.length<=grain
theorem Bz.le {c:List Int}{grain least:Int}(h:Bz c grain least):least<=720:=by
 obtain⟨h1,_,h3,h4,h5⟩:=h;have:least*1<=least*c.length:=Qy (by omega) h4;omega
theorem KX {α:Type}(f:α->Int)(p:α->Bool)(l:List α)(h:∀ a∈l,0<=f a):((l.filter p).map f).sum<=(l.map f).sum:=by
 induction l with
 | nil=>simp
 | cons a l ih =>
  have h1:=h a (by simp);have h2:=ih fun b hb=>h b (by simp [hb]);rw[List.filter_cons];split
  ·simp only[List.map_cons,Qd];omega
  ·simp only[List.map_cons,Qd];omega
theorem wq {g:Int}{ns:List NodeP}(h:NetOk g ns)(h6:ns.length<=6){r:List Int}(hr:r.length=ns.length):dc ns r<=46656000000:=by
 unfold dc;rw[sU (by rw[hr,bR])];refine Int.le_trans (KX _ _ _ fun w hw=>(KB h (vW (jQ h) hw)).1) ?_;rw[Kz h];have hg:=h.g1;obtain⟨k,rfl⟩:∃ k:Nat,g=k:=⟨g.toNat,by omega⟩
 have a1:k ^ ns.length<=60 ^ ns.length:=Ra (by omega) _;have a2:(60:Nat) ^ ns.length<=60 ^ 6:=PJ (by decide) h6;have a3:(60:Nat) ^ 6=46656000000:=by decide
 rw[<- Sm];omega
theorem AE:∀ {r vs:List Int},vs.length=r.length->(gG r vs=true↔∀ (k:Nat) (x y:Int),r[k]?=some x->vs[k]?=some y->x<0\/x=y):=by
 intro r
 induction r with
 | nil=>intro vs _;exact⟨fun _ k x y h=>by simp at h,fun _=>rfl⟩
 | cons a r ih =>
  intro vs hl;cases vs with
  | nil=>simp at hl
  | cons b vs =>
   show ((decide (a<0) || decide (a=b)) && gG r vs)=true↔_;rw[PS,ih (by simpa using hl),Rm,QV,QV];constructor
   ·rintro⟨h1,h2⟩ k x y hx hy;cases k with
    | zero =>
     simp only[List.getElem?_cons_zero,Option.some.injEq]at hx hy;rw[<- hx,<- hy];exact h1
    | succ k=>exact h2 k x y (by simpa using hx) (by simpa using hy)
   ·intro hh;exact⟨hh 0 a b rfl rfl,fun k x y hx hy=>hh (k+1) x y (by simpa using hx) (by simpa using hy)⟩
theorem KY (r vs:List Int)(hl:vs.length=r.length)(h64:vs.length<=64)(H:AHeap)(K:ARes->AHeap->Prop)(hK:K (.ret (.lit (.bool (gG r vs)))) H):ab Try.prog G0 71 [ae vs,ae r] H K:=by
 refine ab.aZ (n:=28) (rs:=[.tmp 4]) Try.func71 rfl rfl rfl (by decide) (by kernel_rfl) (by simp) ?_;simp only[go_sem];refine W.aN 268435440 (by rfl) (fun ρ H'=>H'=H/\∃ k:Nat,ρ 5=aa k/\k<=vs.length/\∀ j,j<k->∀ x y,r[j]?=some x->vs[j]?=some y->x<0\/x=y) (fun ρ H=>vs.length - (iv (ρ 5)).toNat) ?_ ?_
 ·simp only[go_sem];exact⟨0,rfl,by omega,fun j h=>absurd h (PL _)⟩
 rintro ρ H' ⟨hHx,k,h5,hk,hall⟩;rw[hHx];refine W.vs ?_;by_cases hb:(k:Int)<vs.length
 ·obtain⟨y,hy⟩:=get_of_lt (l:=vs) (i:=k) (by omega);obtain⟨x,hx⟩:=get_of_lt (l:=r) (i:=k) (by omega);have hyn:=aL hy;have hxn:=aL hx;have hrb:(k:Int)<r.length:=by omega
  have w1:=Ps ((k:Int)+1) (by omega);have nx:(x<0\/x=y)->∀ j,j<k+1->∀ x y,r[j]?=some x->vs[j]?=some y->x<0\/x=y:=fun hh j hj x' y' h1 h2=>by
   rcases PR j k with h|h
   ·exact hall j h x' y' h1 h2
   ·obtain rfl:j=k:=(by omega);rw[hx]at h1;rw[hy]at h2;cases h1;cases h2;exact hh
  by_cases x0:x<0
  ·have x0':¬ x >= 0:=(by omega);simp only[go_sem,h5,hb];refine W.draw 14 [0,0,3,7,15,31,63,63,255,511,63,63,3135,7231] Try.mixed (by kernel_rfl) (by kernel_rfl) ?_;simp only[go_sem,h5,hx,hxn,hrb,x0',w1];exact⟨⟨k+1,rfl,by omega,nx (.inl x0)⟩,by omega⟩
  have x0':x >= 0:=by omega
  by_cases xy:x=y
  ·have y0:0<=y:=(by omega);simp only[go_sem,h5,hb];refine W.draw 14 [0,0,3,7,15,31,63,63,255,511,63,63,3135,7231] Try.mixed (by kernel_rfl) (by kernel_rfl) ?_;simp only[go_sem,h5,hb,hx,hxn,hy,hyn,hrb,xy,y0,w1];exact⟨⟨k+1,rfl,by omega,nx (.inr xy)⟩,by omega⟩
  ·have hm:gG r vs=false:=by
    rw[<- Bool.not_eq_true,AE hl];exact fun hh=>(hh k x y hx hy).elim x0 xy
   rw[hm]at hK;simp only[go_sem,h5,hb];refine W.draw 14 [0,0,3,7,15,31,63,63,255,511,63,63,3135,7231] Try.mixed (by kernel_rfl) (by kernel_rfl) ?_;simp only[go_sem,h5,hb,hx,hxn,hy,hyn,hrb,x0',xy];exact av.mk (Nat.le_refl _) hK
 ·simp only[go_sem,h5,hb];have hm:gG r vs=true:=(AE hl).2 fun j x y hx hy=>hall j (by have:=get_lt hy;omega) x y hx hy;rw[hm]at hK;exact av.mk (Nat.le_refl _) hK
def fm (ns:List NodeP)(r:List Int)(k:Nat):List (List Int):=((List.range k).map fun (i:Nat)=>cj (ar ns) i).filter (gG r)
theorem KZ (ns:List NodeP)(r:List Int)(k:Nat):fm ns r (k+1)=if gG r (cj (ar ns) k)=true then fm ns r k++[cj (ar ns) k] else fm ns r k:=by
 unfold fm;rw[Qx,Qj,List.filter_append];simp only[List.map_cons,List.map_nil,List.filter_cons,List.filter_nil];split<;>simp
theorem K0 {g:Int}{ns:List NodeP}(h:NetOk g ns){r:List Int}(hr:r.length=ns.length):fm ns r (mr ns)=dp (ar ns) r:=by
 rw[sU (by rw[hr,bR]),sT (jQ h)];rfl
theorem K2 {g:Int}{ns:List NodeP}(h:NetOk g ns)(r:List Int)(k:Nat):∀ w∈fm ns r k,cL (ar ns) w:=fun w hw=>by
 obtain⟨i,_,rfl⟩:=PQ.1 (List.mem_filter.1 hw).1;exact wZ (jQ h) _
theorem K3 (ns:List NodeP)(r:List Int)(k:Nat):(fm ns r k).length<=k:=by
 unfold fm;refine PY (SQ _ _) ?_;simp
theorem AF {g:Int}{ns:List NodeP}(h:NetOk g ns)(r:List Int){k:Nat}(hk:k<=1025):0<=((fm ns r k).map (weight ns)).sum/\((fm ns r k).map (weight ns)).sum<=172160640000000000:=by
 have h1:=Az (l:=(fm ns r k).map (weight ns)) (b:=167961600000000) fun x hx=>by
  obtain⟨w,hw,rfl⟩:=PQ.1 hx;exact Ay h (K2 h r k w hw)
 have h2:=K3 ns r k;rw[Px]at h1;omega
set_option maxHeartbeats 1000000 in
theorem AG (g:Int)(ns:List NodeP)(h:NetOk g ns)(r:List Int)(hr:r.length=ns.length)(H:AHeap)(K:ARes->AHeap->Prop)(hK:K (.ret (aa (dc ns r))) H):ab Try.prog G0 45 [aG g ns,ae r] H K:=by
 refine ab.clo ⟨_,Try.func45,rfl,rfl⟩ fun hcl=>?_;have n8:=h.n1;have hc4:∀ y∈ns,1<=y.card/\y.card<=4:=fun y hy=>(h.node y hy).1;have hsz:=h.size;have hp:=hZ (jQ h);have hw:((mr ns:Nat):Int)=au (ar ns):=by unfold mr;omega
 refine ab.aZ (n:=24) (rs:=[.tmp 4]) Try.func45 rfl rfl rfl (by decide) (by kernel_rfl) (by simp) ?_;simp only[go_sem,aG,cf];obtain⟨H1,hH1⟩:∃ H1,H1=ext H [.arr 0 35 [.lit (.int .i64 g),.vec ns.length (aq ns)]]:=⟨_,rfl⟩
 have l1:H1.live H.next 0=some (35,[.lit (.int .i64 g),.vec ns.length (aq ns)]):=by rw[hH1];exact aj (cD ..)
 have o1:Over H H1:=by rw[hH1];exact .ext _ _
 rw[<- hH1];refine W.aN 8388576 (by rfl) (fun ρ H'=>H'=H1/\∃ k:Nat,ρ 6=aa k/\k<=mr ns/\ρ 5=aa ((fm ns r k).map (weight ns)).sum) (fun ρ H=>mr ns - (iv (ρ 6)).toNat) ?_ ?_
 ·simp only[go_sem];exact⟨0,rfl,by omega,rfl⟩
 rintro ρ H' ⟨hHx,k,h6,hk,h5⟩;rw[hHx];refine W.en (fun E=>E 1=ae r /\ E 2=.ptr H.next 0 0 /\ E 5=aa ((fm ns r k).map (weight ns)).sum /\ E 6=aa k) (by simp only[go_sem,h5,h6]) fun E ⟨e1,e2,e5,e6⟩=>?_
 have s1:=AF h r (k:=k+1) (by omega);have s0:=AF h r (k:=k) (by omega);have ms:=KZ ns r k;refine W.vs ?_;simp only[go_sem,e2,e6,l1];refine az.clo (Cf g ns n8.2 hc4 _ _ ⟨trivial,?_⟩);rw[<- hw];by_cases hb:(k:Int)<mr ns;rotate_left
 ·have ek:k=mr ns:=by omega
  simp only[go_sem,e5,hb];rw[ek,K0 h hr];exact av.bq aK hcl o1 (.lit _) hK
 simp only[go_sem,e2,e6,l1,hb];refine az.clo (Ce g ns n8.2 hc4 k (by omega) _ _ ⟨trivial,?_⟩);simp only[go_sem,e1];obtain⟨vals,hvals⟩:∃ vals,vals=cj (ar ns) (k:Int):=⟨_,rfl⟩
 have hvl:vals.length=r.length:=by rw[hvals,kP,bR,hr]
 have w1:=Ps ((k:Int)+1) (by omega);rw[<- hvals]at ms ⊢;refine az.clo (KY r vals hvl (by omega) _ _ ⟨trivial,?_⟩);cases hm:gG r vals
 ·simp only[go_sem,e5,e6,w1];rw[hm,Pt (by decide)]at ms;exact⟨⟨k+1,rfl,by omega,by rw[ms]⟩,by rw[h6];simp only[aa,aW];omega⟩
 ·rw[hm,Pv rfl]at ms;have es:((fm ns r (k+1)).map (weight ns)).sum=((fm ns r k).map (weight ns)).sum+weight ns vals:=by rw[ms];simp
  rw[es]at s1;have w2:=Ps (((fm ns r k).map (weight ns)).sum+weight ns vals) (by omega);simp only[go_sem,e2,e5,e6,l1];refine az.clo (OA g ns h k (by omega) _ _ ⟨trivial,?_⟩);rw[<- hvals];simp only[go_sem,e5,e6,w1,w2];exact⟨⟨k+1,rfl,by omega,by rw[es]⟩,by rw[h6];simp only[aa,aW];omega⟩
set_option maxHeartbeats 1000000 in
theorem Mi (cs:List Int)(xs:List (List Int))(hf:js cs xs)(H:AHeap)(K:ARes -> AHeap -> Prop)(hK:K (.ret (aa (if gL cs xs then 0 else 250))) H):ab Try.prog G0 62 [bt cs xs] H K := by
  refine ab.clo ⟨_, Try.func62, rfl, rfl⟩ fun hcl => ?_;have no:¬ DataOk cs xs -> ∀ H', Over H H' -> av Try.prog G0 H K (aa 250) H' := fun h H' ov => av.bq aK hcl ov (.lit _) (by rw[Bg h]at hK; exact hK);obtain⟨f1, f2, f3⟩ := hf;refine ab.aZ (n := 80) (rs := [.tmp 2]) Try.func62 rfl rfl rfl (by decide) (by kernel_rfl) (by simp) ?_;simp only[go_sem, bt, ay, bJ];obtain⟨H1, hH1⟩:∃ H1, H1 = ext H [.arr 0 42 [.vec cs.length (ints cs), .vec xs.length (xs.map ae)]] := ⟨_, rfl⟩
  have l1:H1.live H.next 0 = some (42, [.vec cs.length (ints cs), .vec xs.length (xs.map ae)]) := by rw[hH1]; exact aj (cD ..)
  have o1:Over H H1 := by rw[hH1]; exact .ext _ _
  rw[<- hH1];by_cases c1:(cs.length:Int) < 1
  · simp only[go_sem, l1, c1, dJ, bJ];exact no (fun h => by have := h.c1; omega) _ o1
  by_cases c2:(cs.length:Int) > 6
  · simp only[go_sem, l1, c1, c2, dJ, bJ];exact no (fun h => by have := h.c1; omega) _ o1
  by_cases c3:(xs.length:Int) > 40
  · simp only[go_sem, l1, c1, c2, c3, dJ, bJ];exact no (fun h => by have := h.x1; omega) _ o1
  simp only[go_sem, l1, c1, c2, c3, dJ, bJ];refine W.aN 17591112302636 (by rfl) (fun ρ H' => H' = H1 /\ ∃ k:Nat, ρ 30 = aa k /\ k <= cs.length /\ (∀ c ∈ cs.take k, 2 <= c /\ c <= 4) /\ ρ 3 = aa (au (cs.take k))) (fun ρ H => cs.length - (iv (ρ 30)).toNat) ?_ ?_
  · simp only[go_sem, bJ];exact⟨0, rfl, by omega, by simp, by simp [eY]⟩
  rintro ρ H' ⟨rfl, k, h30, hk, hall, h3⟩;refine W.vs ?_;by_cases hb:(k:Int) < cs.length
  · obtain⟨c, hc⟩ := get_of_lt (l := cs) (i := k) (by omega);have hne := aL hc;have hcm := Pq hc;by_cases d1:c < 2
    · simp only[go_sem, h30, hb, hne, hc, d1, dJ, bJ];exact no (fun h => by have := h.card c hcm; omega) _ o1
    by_cases d2:c > 4
    · simp only[go_sem, h30, hb, hne, hc, d1, d2, dJ, bJ];exact no (fun h => by have := h.card c hcm; omega) _ o1
    have hall':∀ y ∈ cs.take (k + 1), 2 <= y /\ y <= 4 := fun y hy => by
      rw[aO hc]at hy;rcases PK.1 hy with hy | hy
      · exact hall y hy
      · obtain rfl := List.mem_singleton.1 hy; omega
    have b1 := Bh hall' (by simp; omega);rw[aO hc, fq]at b1;have w1 := Ps ((k:Int) + 1) (by omega);have w2 := Ps (au (cs.take k) * c) (by omega);simp only[go_sem, h30, h3, hb, hne, hc, d1, d2, w1, w2, dJ, bJ];exact⟨⟨k + 1, rfl, by omega, hall', by rw[aO hc, fq]⟩, by omega⟩
  rw[Pw (by omega)]at hall h3;by_cases c4:au cs > 1024
  · simp only[go_sem, h30, h3, hb, c4, bJ];exact no (fun h => by have := h.size; omega) _ o1
  simp only[go_sem, h30, h3, hb, c4, l1, bJ];refine W.aN 604462909244364633933632 (by rfl) (fun ρ Ha => Ha = H' /\ ∃ k:Nat, ρ 49 = aa k /\ k <= xs.length /\ (∀ r ∈ xs.take k, qh cs r) /\ ρ 6 = aa 0) (fun ρ H => xs.length - (iv (ρ 49)).toNat) ?_ ?_
  · simp only[go_sem, bJ];exact⟨0, rfl, by omega, by simp⟩
  rintro ρ' Ha ⟨rfl, i, h49, hi, hrows, h6⟩;refine W.vs ?_;by_cases hb2:(i:Int) < xs.length;rotate_left
  · simp only[go_sem, h49, h6, hb2, bJ];rw[Pw (by omega)]at hrows;rw[Bf ⟨by omega, by omega, hall, by omega, hrows⟩]at hK;exact av.bq aK hcl o1 (.lit _) hK
  obtain⟨r, hr⟩ := get_of_lt (l := xs) (i := i) (by omega);have hrm := Pq hr;have hr' := lZ hr;have hrn := aL hr';by_cases hl:(r.length:Int) = cs.length;rotate_left
  · simp only[go_sem, h49, hb2, hr', hrn, l1, hl, bJ];exact no (fun h => hl (by have := (h.row r hrm).1; omega)) _ o1
  simp only[go_sem, h49, h6, hb2, hr', hrn, l1, hl, bJ];refine W.aN 302229149060648079984192 (by rfl) (fun ρ2 Hb => Hb = Ha /\ ∃ j:Nat, ρ2 61 = aa j /\ j <= r.length /\ (∀ (v:Nat) (c x:Int), v < j -> cs[v]? = some c -> r[v]? = some x -> -1 <= x /\ x < c) /\ ρ2 6 = aa 0) (fun ρ2 H => r.length - (iv (ρ2 61)).toNat) ?_ ?_
  · simp only[go_sem, h6, bJ];exact⟨0, rfl, by omega, fun v _ _ h => by omega⟩
  rintro ρ2 Hb ⟨rfl, j, h61, hj, hin, h6'⟩;refine W.vs ?_;have w1 := Ps ((i:Int) + 1) (by omega);by_cases hb3:(j:Int) < cs.length
  · obtain⟨x, hx⟩ := get_of_lt (l := r) (i := j) (by omega);obtain⟨c, hc⟩ := get_of_lt (l := cs) (i := j) (by omega);have hxn := aL hx;have hcn := aL hc;by_cases d1:x < -1
    · simp only[go_sem, h61, hb3, hl, hx, hxn, d1, dJ, bJ];exact no (fun h => by have := (h.row r hrm).2 j c x hc hx; omega) _ o1
    by_cases d2:x >= c
    · simp only[go_sem, h61, hb3, hl, hx, hxn, hc, hcn, l1, d1, d2, dJ, bJ];exact no (fun h => by have := (h.row r hrm).2 j c x hc hx; omega) _ o1
    have w2 := Ps ((j:Int) + 1) (by omega);simp only[go_sem, h61, h6', hb3, hl, hx, hxn, hc, hcn, l1, d1, d2, w2, dJ, bJ];refine⟨⟨j + 1, rfl, by omega, fun v c' x' hv h1 h2 => ?_⟩, by omega⟩;rcases PR v j with h | h
    · exact hin v c' x' h h1 h2
    · obtain rfl:v = j :=(by omega);rw[hc]at h1; rw[hx]at h2;cases h1; cases h2; omega
  · simp only[go_sem, h61, h6', h49, hb3, hl, w1, bJ];refine⟨⟨i + 1, rfl, by omega, fun q hq => ?_⟩, by omega⟩;rw[aO hr]at hq;rcases PK.1 hq with hq | hq
    · exact hrows q hq
    · obtain rfl := List.mem_singleton.1 hq;exact .of (by omega) fun v c x hv => hin v c x (by omega)
set_option maxHeartbeats 1000000 in
theorem Mj (cs:List Int)(xs:List (List Int))(hf:js cs xs)(H:AHeap)(K:ARes -> AHeap -> Prop)(hK:K (.ret (.lit (.bool (gL cs xs)))) H):ab Try.prog G0 44 [bt cs xs] H K := by
  refine ab.clo ⟨_, Try.func44, rfl, rfl⟩ fun hcl => ?_;have no:¬ DataOk cs xs -> ∀ H', Over H H' -> av Try.prog G0 H K (.lit (.bool false)) H' := fun h H' ov => av.bq aK hcl ov (.lit _) (by rw[Bg h]at hK; exact hK);obtain⟨f1, f2, f3⟩ := hf;refine ab.aZ (n := 102) (rs := [.tmp 2]) Try.func44 rfl rfl rfl (by decide) (by kernel_rfl) (by simp) ?_;simp only[go_sem, bt, ay, bJ];obtain⟨H1, hH1⟩:∃ H1, H1 = ext H [.arr 0 42 [.vec cs.length (ints cs), .vec xs.length (xs.map ae)]] := ⟨_, rfl⟩
  have l1:H1.live H.next 0 = some (42, [.vec cs.length (ints cs), .vec xs.length (xs.map ae)]) := by rw[hH1]; exact aj (cD ..)
  have o1:Over H H1 := by rw[hH1]; exact .ext _ _
  rw[<- hH1];by_cases c1:(cs.length:Int) < 1
  · simp only[go_sem, l1, c1, dJ, bJ];exact no (fun h => by have := h.c1; omega) _ o1
  by_cases c2:(cs.length:Int) > 6
  · simp only[go_sem, l1, c1, c2, dJ, bJ];exact no (fun h => by have := h.c1; omega) _ o1
  by_cases c3:(xs.length:Int) > 40
  · simp only[go_sem, l1, c1, c2, c3, dJ, bJ];exact no (fun h => by have := h.x1; omega) _ o1
  simp only[go_sem, l1, c1, c2, c3, dJ, bJ];refine W.aN 2251799805296668 (by rfl) (fun ρ H' => H' = H1 /\ ∃ k:Nat, ρ 4 = aa k /\ k <= cs.length /\ (∀ c ∈ cs.take k, 2 <= c /\ c <= 4) /\ ρ 3 = aa (au (cs.take k))) (fun ρ H => cs.length - (iv (ρ 4)).toNat) ?_ ?_
  · simp only[go_sem, bJ];exact⟨0, rfl, by omega, by simp, by simp [eY]⟩
  rintro ρ H' ⟨rfl, k, h30, hk, hall, h3⟩;refine W.vs ?_;by_cases hb:(k:Int) < cs.length
  · obtain⟨c, hc⟩ := get_of_lt (l := cs) (i := k) (by omega);have hne := aL hc;have hcm := Pq hc;by_cases d1:c < 2
    · simp only[go_sem, h30, hb, hne, hc, d1, l1, dJ, bJ];exact no (fun h => by have := h.card c hcm; omega) _ o1
    by_cases d2:c > 4
    · simp only[go_sem, h30, hb, hne, hc, d1, d2, l1, dJ, bJ];exact no (fun h => by have := h.card c hcm; omega) _ o1
    have hall':∀ y ∈ cs.take (k + 1), 2 <= y /\ y <= 4 := fun y hy => by
      rw[aO hc]at hy;rcases PK.1 hy with hy | hy
      · exact hall y hy
      · obtain rfl := List.mem_singleton.1 hy; omega
    have b1 := Bh hall' (by simp; omega);rw[aO hc, fq]at b1;have w1 := Ps ((k:Int) + 1) (by omega);have w2 := Ps (au (cs.take k) * c) (by omega);simp only[go_sem, h30, h3, hb, hne, hc, d1, d2, w1, w2, l1, dJ, bJ];exact⟨⟨k + 1, rfl, by omega, hall', by rw[aO hc, fq]⟩, by omega⟩
  rw[Pw (by omega)]at hall h3;simp only[go_sem, h30, h3, hb, l1, bJ];refine W.aN 1267650600228227149696889520228 (by rfl) (fun ρ' Ha => Ha = H' /\ ∃ k:Nat, ρ' 5 = aa k /\ k <= xs.length /\ ∀ r ∈ xs.take k, qh cs r) (fun ρ' H => xs.length - (iv (ρ' 5)).toNat) ?_ ?_
  · simp only[go_sem, bJ];exact⟨0, rfl, by omega, by simp⟩
  rintro ρ' Ha ⟨rfl, i, h5, hi, hrows⟩;refine W.vs ?_;by_cases hb2:(i:Int) < xs.length;rotate_left
  · rw[Pw (by omega)]at hrows;by_cases c4:au cs <= 1024
    · simp only[go_sem, h5, h3, hb2, l1, c4, bJ];rw[Bf ⟨by omega, by omega, hall, by omega, hrows⟩]at hK;exact av.bq aK hcl o1 (.lit _) hK
    · simp only[go_sem, h5, h3, hb2, l1, c4, bJ];exact no (fun h => by have := h.size; omega) _ o1
  obtain⟨r, hr⟩ := get_of_lt (l := xs) (i := i) (by omega);have hrm := Pq hr;have hr' := lZ hr;have hrn := aL hr';simp only[go_sem, h5, hb2, l1, bJ];refine W.draw 9 [0, 1, 0, 7, 15, 31, 0, 64, 192] Try.mixed (by kernel_rfl) (by kernel_rfl) ?_;by_cases hl:(r.length:Int) = cs.length;rotate_left
  · simp only[go_sem, h5, hb2, hr', hrn, l1, hl, bJ];exact no (fun h => hl (by have := (h.row r hrm).1; omega)) _ o1
  simp only[go_sem, h5, hb2, hr', hrn, l1, hl, bJ];refine W.aN 1267650599933081496317350379588 (by rfl) (fun ρ2 Hb => Hb = Ha /\ ∃ j:Nat, ρ2 6 = aa j /\ j <= r.length /\ (∀ (v:Nat) (c x:Int), v < j -> cs[v]? = some c -> r[v]? = some x -> -1 <= x /\ x < c)) (fun ρ2 H => r.length - (iv (ρ2 6)).toNat) ?_ ?_
  · simp only[go_sem, bJ];exact⟨0, rfl, by omega, fun v _ _ h => by omega⟩
  rintro ρ2 Hb ⟨rfl, j, h6, hj, hin⟩;refine W.vs ?_;have w1 := Ps ((i:Int) + 1) (by omega);by_cases hb3:(j:Int) < cs.length
  · obtain⟨x, hx⟩ := get_of_lt (l := r) (i := j) (by omega);obtain⟨c, hc⟩ := get_of_lt (l := cs) (i := j) (by omega);have hxn := aL hx;have hcn := aL hc;simp only[go_sem, h6, hb3, l1, bJ];refine W.draw 23 [0, 1, 0, 7, 15, 0, 63, 127, 255, 511, 1023, 2047, 1023, 8191, 16383, 1023, 65535, 131071, 1023, 263167, 1023, 1836031, 3933183] Try.mixed (by kernel_rfl) (by kernel_rfl) ?_;by_cases d1:x < -1
    · simp only[go_sem, h6, h5, hb2, hr', hrn, hb3, hl, hx, hxn, l1, d1, dJ, bJ];exact no (fun h => by have := (h.row r hrm).2 j c x hc hx; omega) _ o1
    by_cases d2:x >= c
    · simp only[go_sem, h6, h5, hb2, hr', hrn, hb3, hl, hx, hxn, hc, hcn, l1, d1, d2, dJ, bJ];exact no (fun h => by have := (h.row r hrm).2 j c x hc hx; omega) _ o1
    have w2 := Ps ((j:Int) + 1) (by omega);simp only[go_sem, h6, h5, hb2, hr', hrn, hb3, hl, hx, hxn, hc, hcn, l1, d1, d2, w2, dJ, bJ];refine⟨⟨j + 1, rfl, by omega, fun v c' x' hv h1 h2 => ?_⟩, by omega⟩;rcases PR v j with h | h
    · exact hin v c' x' h h1 h2
    · obtain rfl:v = j :=(by omega);rw[hc]at h1; rw[hx]at h2;cases h1; cases h2; omega
  · simp only[go_sem, h6, h5, hb3, hl, l1, w1, bJ];refine⟨⟨i + 1, rfl, by omega, fun q hq => ?_⟩, by omega⟩;rw[aO hr]at hq;rcases PK.1 hq with hq | hq
    · exact hrows q hq
    · obtain rfl := List.mem_singleton.1 hq;exact .of (by omega) fun v c x hv => hin v c x (by omega)
theorem KT (l:List Int)(v:Int)(hl:(l.length:Int)<2 ^ 62)(H:AHeap)(K:ARes->AHeap->Prop)(hK:∀ i:Int,(0<=i↔v∈l)->K (.ret (aa i)) H):ab Try.prog G0 87 [ae l,aa v] H K:=by
 refine ab.aZ (n:=19) (rs:=[.tmp 4]) Try.func87 rfl rfl rfl (by decide) (by kernel_rfl) (by simp) ?_;simp only[go_sem];refine W.aN 524080 (by rfl) (fun ρ H'=>H'=H/\∃ k:Nat,ρ 8=aa k/\k<=l.length/\∀ j,j<k->∀ b,l[j]?=some b->b≠v) (fun ρ H=>l.length - (iv (ρ 8)).toNat) ?_ ?_
 ·simp only[go_sem];exact⟨0,rfl,by omega,fun j h=>absurd h (PL _)⟩
 rintro ρ H' ⟨rfl,k,h8,hk,hno⟩;refine W.vs ?_;by_cases hb:(k:Int)<l.length
 ·obtain⟨b,hkb⟩:=get_of_lt (l:=l) (i:=k) (by omega);have hne:=aL hkb;have w1:=Ps ((k:Int)+1) (by omega);by_cases he:v=b
  ·subst he;simp only[go_sem,h8,hb,hkb,hne];exact av.mk (Nat.le_refl _) (hK k ⟨fun _=>Pq hkb,fun _=>by omega⟩)
  ·simp only[go_sem,h8,hb,hkb,hne,he,w1];exact⟨⟨k+1,by simp,by omega,fun j hj b' hb'=>by
    by_cases hjk:j=k
    ·subst hjk;rw[hkb]at hb';cases hb';exact fun h=>he h.symm
    ·exact hno j (by omega) b' hb'⟩,by omega⟩
 ·simp only[go_sem,h8,hb];refine av.mk (Nat.le_refl _) (hK (-1) ⟨fun h=>absurd h (by decide),fun hv=>?_⟩);obtain⟨j,hj⟩:=PT.1 hv;exact absurd rfl (hno j (by have:=get_lt hj;omega) v hj)
theorem KU (l:List Int)(v:Int)(hl:(l.length:Int)<2 ^ 62)(H:AHeap)(K:ARes->AHeap->Prop)(hK:K (.ret (.lit (.bool (decide (v∈l))))) H):ab Try.prog G0 69 [ae l,aa v] H K:=by
 refine ab.aZ (n:=9) (rs:=[.tmp 4]) Try.func69 rfl rfl rfl (by decide) (by kernel_rfl) (by simp) ?_;simp only[go_sem];refine az.clo (KT l v hl H _ fun i hi=>⟨trivial,?_⟩);by_cases h0:0<=i
 ·simp only[go_sem,h0];rw[QL (hi.1 h0)]at hK;exact av.mk (Nat.le_refl _) hK
 ·simp only[go_sem,h0];rw[Q1 fun h=>h0 (hi.2 h)]at hK;exact av.mk (Nat.le_refl _) hK
theorem KV (l:List Int)(hl:(l.length:Int)<2 ^ 62)(H:AHeap)(K:ARes->AHeap->Prop)(hK:K (.ret (.lit (.bool (decide ((0:Int)∈l))))) H):ab Try.prog G0 41 [ae l] H K:=by
 refine ab.aZ (n:=5) (rs:=[.tmp 2]) Try.func41 rfl rfl rfl (by decide) (by kernel_rfl) (by simp) ?_;simp only[go_sem];refine az.clo (KU l 0 hl H _ ⟨trivial,?_⟩);simp only[go_sem];exact av.mk (Nat.le_refl _) hK
def wo (p:Int × List NodeP):List AVal:=[aa p.1,.vec p.2.length (aq p.2)]
def dG (l:List (Int × List NodeP)):List AVal:=(l.map wo).flatten
theorem sX (l:List (Int × List NodeP)):(dG l).length=l.length*2:=kL (f:=wo) (fun _=>rfl) l
theorem AC {l:List (Int × List NodeP)}{i:Nat}{p:Int × List NodeP}(h:l[i]?=some p):((dG l).drop (i*2)).take 2=[aa p.1,.vec p.2.length (aq p.2)]:=om (f:=wo) (z:=2) (fun _=>rfl) l i p h
theorem AD {l:List (Int × List NodeP)}{i:Nat}{p:Int × List NodeP}(h:l[i]?=some p):¬ dG l=[]:=fun e=>by
 have h1:=sX l;have h2:=get_lt h;rw[e,List.length_nil]at h1;omega
noncomputable def jm (l:List (Int × List NodeP))(cs:List Int)(xs:List (List Int)):Int:=if (∀ p∈l,fy p.1 p.2=true) then (if gL cs xs=true then (if ∀ p∈l,ar p.2=cs then 0 else 261) else 250) else 50
set_option maxHeartbeats 2000000 in
theorem KW (l:List (Int × List NodeP))(cs:List Int)(xs:List (List Int))(hn:∀ p∈l,fM p.2)(hf:js cs xs)(hl4:l.length<=4)(H:AHeap)(K:ARes->AHeap->Prop)(hK:K (.ret (aa (jm l cs xs))) H):
  ab Try.prog G0 40 [bt cs xs,.vec l.length (dG l)] H K:=by
 refine ab.clo ⟨_,Try.func40,rfl,rfl⟩ fun hcl=>?_;refine ab.aZ (n:=61) (rs:=[.tmp 4]) Try.func40 rfl rfl rfl (by decide) (by kernel_rfl) (by simp) ?_;simp only[go_sem,bt,ay];obtain⟨H1,hH1⟩:∃ H1,H1=ext H [.arr 0 42 [.vec cs.length (ints cs),.vec xs.length (xs.map ae)]]:=⟨_,rfl⟩
 have n1:H1.next=H.next+1:=by rw[hH1];rfl
 have o1:Over H H1:=by rw[hH1];exact .ext _ _
 have g1:H1.get H.next=some (.arr 0 42 [.vec cs.length (ints cs),.vec xs.length (xs.map ae)]):=by rw[hH1];exact cJ
 rw[<- hH1];refine W.en (fun E=>E 1=.vec l.length (dG l) /\ E 2=.ptr H.next 0 0 /\ E 13=.vec l.length (dG l) /\ E 14=aa l.length /\ E 15=aa 0) (by simp only[go_sem]) fun E ⟨e1,e2,e13,e14,e15⟩=>?_
 refine W.aN 33521872 (by rfl) (fun ρ H'=>Over H1 H'/\∃ k:Nat,ρ 15=aa k/\k<=l.length/\∀ p∈l.take k,fy p.1 p.2=true) (fun ρ H=>l.length - (iv (ρ 15)).toNat) ?_ ?_
 ·exact⟨.refl _,0,e15,by omega,fun p h=>by simp at h⟩
 rintro ρ H' ⟨o2,k,h15,hk,hall⟩;have n2:=o2.next;refine W.en (fun F=>F 1=.vec l.length (dG l) /\ F 2=.ptr H.next 0 0 /\ F 13=.vec l.length (dG l) /\ F 14=aa l.length /\ F 15=aa k) (by simp only[go_sem,e1,e2,e13,e14,h15]) fun F ⟨f1,f2,f13,f14,f15⟩=>?_
 by_cases hb:(k:Int)<l.length
 ·obtain⟨p,hp⟩:=get_of_lt (l:=l) (i:=k) (by omega);have hpm:=Pq hp;have hne:=AD hp;have hpt:=AC hp;have hbd:k*2+2<=(dG l).length:=by rw[sX];omega
  have w1:=Ps ((k:Int)+1) (by omega);refine W.vs ?_;simp only[go_sem,f13,f14,f15,hb,hne,hpt,hbd];refine az.clo (O0 p.1 p.2 (hn p hpm) _ _ ⟨trivial,?_⟩);cases hN:fy p.1 p.2
  ·simp only[go_sem];unfold jm at hK;rw[Pt fun hh=>by rw[hh p hpm]at hN;cases hN]at hK;exact av.bq aK hcl (o1.trans (o2.trans (.ext _ _))) (.lit _) hK
  ·simp only[go_sem,f15,w1];refine⟨by omega,⟨o2.trans (.ext _ _),k+1,rfl,by omega,fun q hq=>?_⟩,by rw[h15];simp only[aa,aW];omega⟩;rw[aO hp]at hq;rcases PK.1 hq with hq|hq
   ·exact hall q hq
   ·rw[List.mem_singleton.1 hq];exact hN
 rw[Pw (by omega)]at hall;have l1:=aj ((o2.old H.next (by omega)).trans g1);refine W.vs ?_;simp only[go_sem,f2,f14,f15,hb,l1];refine az.clo (Mi cs xs hf _ _ ⟨trivial,?_⟩);unfold jm at hK;rw[Pv hall]at hK;cases hD:gL cs xs
 ·simp only[go_sem];rw[Pt (by rw[hD];decide)]at hK;exact av.bq aK hcl (o1.trans o2) (.lit _) hK
 rw[Pv hD]at hK;have no:∀ p,p∈l->ar p.2≠cs->∀ Hx,Over H Hx->av Try.prog G0 H K (aa 261) Hx:=fun p hp hne Hx ov=>by
  rw[Pt fun hh=>hne (hh p hp)]at hK;exact av.bq aK hcl ov (.lit _) hK
 simp only[go_sem,f1];refine W.en (fun E1=>E1 2=.ptr H.next 0 0 /\ E1 30=.vec l.length (dG l) /\ E1 31=aa l.length /\ E1 32=aa 0) (by simp only[go_sem,f2]) fun E1 ⟨k2,k30,k31,k32⟩=>?_
 refine W.aN 2305843004918733840 (by rfl) (fun ρ Hx=>Over H' Hx/\∃ k:Nat,ρ 32=aa k/\k<=l.length/\∀ p∈l.take k,ar p.2=cs) (fun ρ H=>l.length - (iv (ρ 32)).toNat) ?_ ?_
 ·exact⟨.refl _,0,k32,by omega,fun p h=>by simp at h⟩
 rintro ρ4 Hx ⟨o3,m,h32,hm,hcar⟩;have n3:=o3.next;refine W.en (fun F2=>F2 2=.ptr H.next 0 0 /\ F2 30=.vec l.length (dG l) /\ F2 31=aa l.length /\ F2 32=aa m) (by simp only[go_sem,k2,k30,k31,h32]) fun F2 ⟨m2,m30,m31,m32⟩=>?_
 by_cases hb2:(m:Int)<l.length;rotate_left
 ·refine W.vs ?_;simp only[go_sem,m31,m32,hb2];rw[Pw (by omega)]at hcar;rw[Pv hcar]at hK;exact av.bq aK hcl (o1.trans (o2.trans o3)) (.lit _) hK
 obtain⟨p,hp⟩:=get_of_lt (l:=l) (i:=m) (by omega);obtain⟨g,ns⟩:=p;have hpm:=Pq hp;have hok:=Cm.1 (hall _ hpm);have n8:1<=ns.length/\ns.length<=8:=hok.n1;have hne:=AD hp;have hpt:=AC hp;have hbd:m*2+2<=(dG l).length:=by rw[sX];omega
 have w1:=Ps ((m:Int)+1) (by omega);have lE:∀ L,(ext Hx L).live H.next 0=some (42,[.vec cs.length (ints cs),.vec xs.length (xs.map ae)]):=fun L=>aj ((bY _ _ _ (by omega)).trans ((o3.old H.next (by omega)).trans ((o2.old H.next (by omega)).trans g1)));by_cases hlen:(ns.length:Int)=cs.length;rotate_left
 ·refine W.vs ?_;simp only[go_sem,m2,m30,m31,m32,hb2,hne,hpt,hbd,lE,hlen];exact no _ hpm (fun hh=>hlen (by rw[<- hh];exact congrArg Int.ofNat (bR ns).symm)) _ ((o1.trans o2).trans (o3.trans (.ext _ _)))
 refine W.vs ?_;simp only[go_sem,m2,m30,m31,m32,hb2,hne,hpt,hbd,lE,hlen];obtain⟨Hy,hHy⟩:∃ Hy,Hy=ext Hx [.arr 0 35 [aa g,.vec ns.length (aq ns)]]:=⟨_,rfl⟩
 have oy:Over Hx Hy:=by rw[hHy];exact .ext _ _
 have ny:Hy.next=Hx.next+1:=by rw[hHy];rfl
 refine W.en (fun E3=>E3 2=.ptr H.next 0 0 /\ E3 30=.vec l.length (dG l) /\ E3 31=aa l.length /\ E3 32=aa m /\ E3 44=.vec ns.length (aq ns) /\ E3 45=aa ns.length /\ E3 46=aa 0) (by simp only[go_sem,m2,m30,m31,m32,hlen]) fun E3 ⟨p2,p30,p31,p32,p44,p45,p46⟩=>?_
 show W _ _ _ _ _ _ ⟨E3,ext Hx [.arr 0 35 [aa g,.vec ns.length (aq ns)]]⟩;rw[<- hHy];refine W.aN 1152851135862675472 (by rfl) (fun ρ Hz=>Over Hy Hz/\∃ v:Nat,ρ 46=aa v/\v<=ns.length/\(ar ns).take v=cs.take v) (fun ρ H=>ns.length - (iv (ρ 46)).toNat) ?_ ?_
 ·exact⟨.refl _,0,p46,by omega,rfl⟩
 rintro ρ5 Hz ⟨oz,v,h46,hv,he⟩;have nz:=oz.next;refine W.en (fun E4=>E4 2=.ptr H.next 0 0 /\ E4 30=.vec l.length (dG l) /\ E4 31=aa l.length /\ E4 32=aa m /\ E4 44=.vec ns.length (aq ns) /\ E4 45=aa ns.length /\ E4 46=aa v) (by simp only[go_sem,p2,p30,p31,p32,p44,p45,h46]) fun E4 ⟨q2,q30,q31,q32,q44,q45,q46⟩=>?_
 have cl:=bR ns;by_cases hb3:(v:Int)<ns.length;rotate_left
 ·refine W.vs ?_;simp only[go_sem,q32,q45,q46,hb3,w1];rw[Pw (by omega),Pw (by omega)]at he;refine⟨by omega,⟨o3.trans (oy.trans oz),m+1,rfl,by omega,fun q hq=>?_⟩,by rw[h32];simp only[aa,aW];omega⟩
  ·rw[aO hp]at hq;rcases PK.1 hq with hq|hq
   ·exact hcar q hq
   ·rw[List.mem_singleton.1 hq];exact he
 obtain⟨x,hx⟩:=get_of_lt (l:=ns) (i:=v) (by omega);obtain⟨c,hc⟩:=get_of_lt (l:=cs) (i:=v) (by omega);have hxn:=fI hx;have hxp:=oo hx;have hcn:=aL hc;have hbv:v*3+3<=(aq ns).length:=by rw[hU];omega
 have hvc:(v:Int)<cs.length:=by omega
 have w2:=Ps ((v:Int)+1) (by omega);have lF:∀ L,(ext Hz L).live H.next 0=some (42,[.vec cs.length (ints cs),.vec xs.length (xs.map ae)]):=fun L=>aj ((bY _ _ _ (by omega)).trans ((oz.old H.next (by omega)).trans ((oy.old H.next (by omega)).trans ((o3.old H.next (by omega)).trans ((o2.old H.next (by omega)).trans g1)))));refine W.vs ?_;simp only[go_sem,q44,q45,q46,hb3,hxn,hxp,hbv];refine W.draw 7 [0,1,0,4,0,28,60] Try.mixed (by kernel_rfl) (by kernel_rfl) ?_;by_cases hd:x.card=c
 ·simp only[go_sem,q2,q46,hc,hcn,hvc,lF,hd,w2];exact⟨by omega,⟨oz.trans (.ext _ _),v+1,rfl,by omega,by rw[aO (cQ hx),aO hc,he,hd]⟩,by rw[h46];simp only[aa,aW];omega⟩
 ·simp only[go_sem,q2,hc,hcn,hvc,lF,hd];exact no _ hpm (fun hh=>hd (by have:=cQ hx;rw[show ar ns=cs from hh,hc]at this;exact(Option.some.inj this).symm)) _ ((o1.trans o2).trans (o3.trans (oy.trans (oz.trans (.ext _ _)))))
def lT (ns:List NodeP)(xs:List (List Int)):Bool:=decide ((0:Int) ∉ xs.map (dc ns))
set_option maxHeartbeats 1000000 in
theorem AH (g:Int)(ns:List NodeP)(h:NetOk g ns)(cs:List Int)(xs:List (List Int))(hx40:xs.length<=64)(hrow:∀ r∈xs,r.length=ns.length)(H:AHeap)(K:ARes->AHeap->Prop)(hK:K (.ret (.lit (.bool (lT ns xs)))) H):
  ab Try.prog G0 14 [aG g ns,bt cs xs] H K:=by
 refine ab.clo ⟨_,Try.func14,rfl,rfl⟩ fun hcl=>?_;refine ab.aZ (n:=21) (rs:=[.tmp 4]) Try.func14 rfl rfl rfl (by decide) (by kernel_rfl) (by simp) ?_;simp only[go_sem,aG,cf,bt,ay];obtain⟨H1,hH1⟩:∃ H1,H1=ext H [.arr 0 35 [.lit (.int .i64 g),.vec ns.length (aq ns)],.arr 0 42 [.vec cs.length (ints cs),.vec xs.length (xs.map ae)]]:=⟨_,rfl⟩
 have l1:H1.live H.next 0=some (35,[.lit (.int .i64 g),.vec ns.length (aq ns)]):=by rw[hH1];exact aj (cD ..)
 have l2:H1.live (H.next+1) 0=some (42,[.vec cs.length (ints cs),.vec xs.length (xs.map ae)]):=by rw[hH1];exact aj (aY H _ 1 (by simp))
 have o1:Over H H1:=by rw[hH1];exact .ext _ _
 rw[<- hH1];refine W.aN 2097136 (by rfl) (fun ρ H'=>H'=H1/\∃ k:Nat,ρ 5=aa k/\k<=xs.length/\∀ j,j<k->∀ r,xs[j]?=some r->dc ns r≠0) (fun ρ H=>xs.length - (iv (ρ 5)).toNat) ?_ ?_
 ·simp only[go_sem];exact⟨0,rfl,by omega,fun j h=>absurd h (PL _)⟩
 rintro ρ H' ⟨hHx,k,h5,hk,hall⟩;rw[hHx];refine W.en (fun E=>E 2=.ptr H.next 0 0 /\ E 3=.ptr (H.next+1) 0 0 /\ E 5=aa k) (by simp only[go_sem,h5]) fun E ⟨e2,e3,e5⟩=>?_
 have w1:=Ps ((k:Int)+1) (by omega);refine W.vs ?_;by_cases hb:(k:Int)<xs.length;rotate_left
 ·simp only[go_sem,e3,e5,l2,hb];have:lT ns xs=true:=by
   refine QL fun hm=>?_;obtain⟨r,hr,h0⟩:=PQ.1 hm;obtain⟨j,hj⟩:=List.getElem?_of_mem hr;exact hall j (by have:=get_lt hj;omega) r hj h0
  rw[this]at hK;exact av.bq aK hcl o1 (.lit _) hK
 obtain⟨r,hr⟩:=get_of_lt (l:=xs) (i:=k) (by omega);have hr':=lZ hr;have hrn:=aL hr';have hrm:=Pq hr;simp only[go_sem,e3,e5,l2,hb];refine W.draw 6 [0,0,2,0,14,30] Try.mixed (by kernel_rfl) (by kernel_rfl) ?_;simp only[go_sem,e2,e3,e5,l1,l2,hb,hr',hrn];refine az.clo (AG g ns h r (hrow r hrm) _ _ ⟨trivial,?_⟩);by_cases h0:dc ns r=0
 ·simp only[go_sem,h0];have:lT ns xs=false:=by
   refine Q1 fun hm=>hm ?_;rw[<- h0];exact PQ.2 ⟨r,hrm,rfl⟩
  rw[this]at hK;exact av.bq aK hcl o1 (.lit _) hK
 ·simp only[go_sem,e5,h0,w1];refine⟨⟨k+1,rfl,by omega,fun j hj r' hr2=>?_⟩,by rw[h5];simp only[aa,aW];omega⟩;rcases PR j k with hh|hh
  ·exact hall j hh r' hr2
  ·obtain rfl:j=k:=(by omega);rw[hr]at hr2;cases hr2;exact h0
theorem tt {S:Nat->Prop}{H:AHeap}{nx:Nat}{cv xv:AVal}{cs:List Int}{xs:List (List Int)}(h1:Fz S H nx cv (ae cs))(h2:Fz S H nx xv (ay xs)):Fz S H nx (.agg [cv,xv]) (bt cs xs):=by
 refine .agg rfl fun i hi _=>?_
 match i,hi with
 | 0,_=>exact h1
 | 1,_=>exact h2
noncomputable def eW (g:Int)(ns:List NodeP)(cs:List Int)(xs:List (List Int)):Int:=if fy g ns=true then (if gL cs xs=true then (if ar ns=cs then 0 else 261) else 250) else 50
set_option maxHeartbeats 1000000 in
theorem od (g:Int)(ns:List NodeP)(cs:List Int)(xs:List (List Int))(hn:fM ns)(hf:js cs xs)(H:AHeap)(K:ARes->AHeap->Prop)(hK:K (.ret (aa (eW g ns cs xs))) H):ab Try.prog G0 13 [aG g ns,bt cs xs] H K:=by
 refine ab.clo ⟨_,Try.func13,rfl,rfl⟩ fun hcl=>?_;have hf':=hf;obtain⟨f1,f2,f3⟩:=hf;have hn1:=hn.1;refine ab.aZ (n:=38) (rs:=[.tmp 4]) Try.func13 rfl rfl rfl (by decide) (by kernel_rfl) (by simp) ?_;simp only[go_sem,bt,ay,aG,cf];obtain⟨H1,hH1⟩:∃ H1,H1=ext H [.arr 0 35 [.lit (.int .i64 g),.vec ns.length (aq ns)],.arr 0 42 [.vec cs.length (ints cs),.vec xs.length (xs.map ae)]]:=⟨_,rfl⟩
 have l1:H1.live H.next 0=some (35,[.lit (.int .i64 g),.vec ns.length (aq ns)]):=by rw[hH1];exact aj (cD ..)
 have l2:H1.live (H.next+1) 0=some (42,[.vec cs.length (ints cs),.vec xs.length (xs.map ae)]):=by rw[hH1];exact aj (aY H _ 1 (by simp))
 have o1:Over H H1:=by rw[hH1];exact .ext _ _
 rw[<- hH1];refine az.clo (OJ g ns hn _ _ ⟨trivial,?_⟩);cases hN:fy g ns
 ·simp only[go_sem];unfold eW at hK;rw[Pt (by rw[hN];decide)]at hK;exact av.bq aK hcl o1 (.lit _) hK
 simp only[go_sem,l2];refine az.clo (Mj cs xs hf' _ _ ⟨trivial,?_⟩);cases hD:gL cs xs
 ·simp only[go_sem];unfold eW at hK;rw[Pv hN,Pt (by rw[hD];decide)]at hK;exact av.bq aK hcl o1 (.lit _) hK
 have unl:¬ ar ns=cs->av Try.prog G0 H K (aa 261) H1:=fun h=>by
  unfold eW at hK;rw[Pv hN,Pv hD,Pt h]at hK;exact av.bq aK hcl o1 (.lit _) hK
 by_cases hl:(ns.length:Int)=cs.length;rotate_left
 ·simp only[go_sem,l1,l2,hl];exact unl fun h=>hl (by rw[<- h,bR])
 simp only[go_sem,l1,l2,hl];refine W.aN 274877382704 (by rfl) (fun ρ H'=>H'=H1/\∃ k:Nat,ρ 5=aa k/\k<=ns.length/\(ar ns).take k=cs.take k) (fun ρ H=>ns.length - (iv (ρ 5)).toNat) ?_ ?_
 ·simp only[go_sem];exact⟨0,rfl,by omega,rfl⟩
 rintro ρ H' ⟨rfl,k,h5,hk,he⟩;refine W.vs ?_;by_cases hb:(k:Int)<cs.length
 ·obtain⟨x,hx⟩:=get_of_lt (l:=ns) (i:=k) (by omega);obtain⟨c,hc⟩:=get_of_lt (l:=cs) (i:=k) (by omega);have hne:=fI hx;have e0:=jS hx;have hcn:=aL hc;have hbn:(k:Int)<ns.length:=by omega
  simp only[go_sem,h5,hb,l2];refine W.draw 11 [0,1,0,7,15,31,0,64,0,448,960] Try.mixed (by kernel_rfl) (by kernel_rfl) ?_;by_cases hd:x.card=c
  ·have w1:=Ps ((k:Int)+1) (by omega);simp only[go_sem,h5,hb,hl,hne,e0,l1,l2,hc,hcn,hd,w1];exact⟨⟨k+1,rfl,by omega,by rw[aO (cQ hx),aO hc,he,hd]⟩,by omega⟩
  ·simp only[go_sem,h5,hb,hl,hne,e0,l1,l2,hc,hcn,hd];exact unl fun h=>hd (by have:=cQ hx;rw[h,hc]at this;exact(Option.some.inj this).symm)
 ·simp only[go_sem,h5,hb,l2];rw[Pw (by rw[bR];omega),Pw (by omega)]at he;unfold eW at hK;rw[Pv hN,Pv hD,Pv he]at hK;exact av.bq aK hcl o1 (.lit _) hK
theorem AI (l:List (Int × List NodeP))(cs:List Int)(xs:List (List Int))(hn:∀ p∈l,fM p.2)(hf:js cs xs)(hl4:l.length<=4)(H:AHeap){id:Nat}(hg:H.get id=some (.arr 0 35 (dG l))):
  ab Try.prog G0 40 [.agg [.vec cs.length (ints cs),.vec xs.length (xs.map ae)],.own id 0 0 l.length 2] H fun r H'=>r=.ret (aa (jm l cs xs))/\H'=H:=by
 refine ab.frame (H:=H) (args:=[.agg [.vec cs.length (ints cs),.vec xs.length (xs.map ae)],.own id 0 0 l.length 2]) (args':=[bt cs xs,.vec l.length (dG l)]) (v':=aa (jm l cs xs)) aK rfl (fun i hi _=>match i,hi with
  | 0,_=>?_
  | 1,_=>?_) (KW l cs xs hn hf hl4 cF _ ⟨_,rfl,.lit _⟩)
 ·exact .agg rfl fun i hi _=>match i,hi with
   | 0,_=>.dm _
   | 1,_=>.ay _
 ·refine .frz trivial hg (by rw[sX]) fun i hi h2 h'=>?_;have hm:∀ c∈dG l,Fz (fun _=>True) H 0 c c:=fun c hc=>by
   unfold dG at hc;obtain⟨q,hq,hcq⟩:=RI.1 hc;obtain⟨p,_,rfl⟩:=PQ.1 hq;rcases List.mem_cons.1 hcq with rfl|hcq
   ·exact .lit _
   ·rw[List.mem_singleton.1 hcq];exact qA _
  have e:(dG l)[0+i]=(dG l)[i]:=by congr 1;omega
  rw[e];exact hm _ (Qe _)
theorem lU {g:Int}{ns:List NodeP}{cs:List Int}{xs:List (List Int)}(h:eW g ns cs xs=0):NetOk g ns/\DataOk cs xs/\ar ns=cs:=by
 unfold eW at h;split at h
 ·rename_i h1;split at h
  ·rename_i h2;split at h
   ·rename_i h3;exact⟨Cm.1 h1,Mh.1 h2,h3⟩
   ·cases h
  ·cases h
 ·cases h
theorem nT {g:Int}{ns:List NodeP}{cs:List Int}{xs:List (List Int)}(h:eW g ns cs xs=0):ns.length<=6/\xs.length<=40/\∀ r∈xs,r.length=ns.length:=by
 obtain⟨h1,h2,h3⟩:=lU h;have e:ns.length=cs.length:=by rw[<- h3,bR]
 refine⟨by have:=h2.c1;omega,h2.x1,fun r hr=>by rw[(h2.row r hr).1,e]⟩
end Go.Proofs
namespace Go.Proofs.R01
open Go.Hx
section
variable {P:Program} {t:TypeId} {x y:Operand} {k k':IntKind} {a b:Int}
end
section
variable {P:Program} {G:Nat->Option (List AVal)}
end
end Go.Proofs.R01
namespace Go.Proofs.R01
open Go.Hx
def val:List Int -> Nat
  | [] => 0
  | a :: l => a.toNat + 10000 * val l
end Go.Proofs.R01
namespace Go.Proofs.R01
open Go.Hx
theorem my {H H' H2:AHeap}{v:AVal}{cs:List AVal}{e:TypeId}(ov:Over H H')(h:aA H.next H' e v cs)(hn:H'.next<=H2.next)(hp:∀ k,k<H'.next->(∀ g n,v≠.own k g 0 n 1)->H2.get k=H'.get k):Over H H2 :=
 ⟨by have:=ov.next;omega,fun id hid=>by
  rw[hp id (by have:=ov.next;omega) fun g n he=>?_,ov.old id hid];rcases h with ⟨h,_⟩|⟨i2,g2,a1,_,h,_⟩
  ·rw[h]at he;cases he
  ·rw[h]at he;have:=AVal.own.inj he;omega⟩
end Go.Proofs.R01
namespace Go.Proofs.R01
open Go.Hx
end Go.Proofs.R01
namespace Go.Proofs.R01
open Go.Hx
theorem fL {l:List Int}{k:Nat}(v:Int)(h:k<l.length):setAt (ints l) k [.lit (.int .i64 v)]=ints (l.set k v):=by
 unfold setAt ints;rw[RY,Sq,Pv (by simpa using h)];simp [aa]
end Go.Proofs.R01
namespace Go.Proofs.R01
open Go.Hx
end Go.Proofs.R01
namespace Go.Proofs.R01
open Go.Hx
end Go.Proofs.R01
namespace Go.Proofs.R01
open Go.Hx
end Go.Proofs.R01
namespace Go.Proofs.R01
open Go.Hx
end Go.Proofs.R01
namespace Go.Proofs
open Go.Hx
def aU (l:List Int):List AVal:=l.map fun n=>.lit (.int .u8 n)
theorem qf {l:List Int}{k:Nat}{a:Int}(h:l[k]?=some a):(aU l)[k]?=some (.lit (.int .u8 a)):=by unfold aU;rw[List.getElem?_map,h];rfl
theorem L5 (l:List Int):(aU l).length=l.length:=by simp [aU]
end Go.Proofs
namespace Go.Hx
variable {P:Program} {H H':AHeap}
theorem ow {t e:TypeId}{lo n m:Nat}{v x:AVal}{cs src:List AVal}{z:List AVal}(ht:P.underlying t=some (.slice e))(hz:P.cellsOf e=1)(hzero:bM P e=some z)(hsrc:ct H 1 x=some (m,src))(hm:src.length=m)(hx:src.all AVal.one=true)
  (hb:(cs.length+m)*P.bytesOf e<=2 ^ 46/\cs.length+m<=2 ^ 46) (ho:aA lo H e v cs) (hlo:lo<=H.next) (hn:n=H.next):
  ∃ v' H',bC P H n t t v x=some (v',H')/\aA lo H' e v' (cs++src)/\H.next<=H'.next/\(∀ k,k<H.next->(∀ g n,v≠.own k g 0 n 1)->H'.get k=H.get k):=by
 subst hm;obtain⟨v',H',hA,h2⟩:=pE (H:=H) (n:=n) ht hz hzero hx hb ho hlo hn;refine⟨v',H',?_,h2⟩;rw[<- hA];have e2:ct H 1 (.vec src.length src)=some (src.length,src):=by unfold ct;simp
 unfold bC;rw[ht];simp only[hz,hsrc,e2]
end Go.Hx
namespace Go.Proofs
open Go.Hx
def U8 (n:Int):Prop:=0<=n/\n<256
theorem N3 (n:Nat)(hn:n<=5)(ord:List Int)(H:AHeap)(K:ARes->AHeap->Prop)(hK:K (.ret (ae (List.replicate n 1))) H):
  ab Try.prog G0 66 [.agg [.vec n (aU (List.replicate n 0)),(.lit (.int .u16 0)),.vec ord.length (aU ord)]] H K:=by
 refine ab.clo ⟨_,Try.func66,rfl,rfl⟩ fun hcl=>?_;refine ab.aZ (n:=28) (rs:=[.tmp 2]) Try.func66 rfl rfl rfl (by decide) (by kernel_rfl) (by simp) ?_;simp only[go_sem];obtain⟨H1,hH1⟩:∃ H1,H1=ext H [.arr 0 83 [.vec n (aU (List.replicate n 0)),.lit (.int .u16 0),.vec ord.length (aU ord)]]:=⟨_,rfl⟩
 have l1:=aj (show H1.get H.next=some (.arr 0 83 [.vec n (aU (List.replicate n 0)),.lit (.int .u16 0),.vec ord.length (aU ord)]) by rw[hH1];exact cD ..);have n1:H1.next=H.next+1:=by rw[hH1];rfl
 have o1:Over H H1:=by rw[hH1];exact .ext _ _
 rw[<- hH1];refine W.aN 134217720 (by rfl) (fun ρ H'=>∃ k:Nat,ρ 4=aa k/\k<=n/\Over H1 H'/\aA H1.next H' 3 (ρ 3) (ints (List.replicate k 1))) (fun ρ H=>n - (iv (ρ 4)).toNat) ?_ ?_
 ·simp only[go_sem];exact⟨0,rfl,by omega,.refl _,.nil⟩
 rintro ρ H' ⟨k,h4,hk,ov,h3⟩;refine W.en (fun E=>E 1=.ptr H.next 0 0 /\ E 3=ρ 3 /\ E 4=aa k) (by simp only[go_sem,h4]) fun E ⟨e1,e3,e4⟩=>?_
 refine W.vs ?_;have l2:=(ov.live (g:=0) (by omega:H.next<H1.next)).trans l1;by_cases hb:(k:Int)<n
 ·have h5:(k:Int)<5:=by omega
  have hg:(aU (List.replicate n 0))[k]?=some (.lit (.int .u8 0)):=qf (by rw[R9,Pv (by omega)]);have hne:=aL hg;obtain⟨v',H2,hA,ov2,hO,hn2,_⟩:=iS 1 ov h3 (by simp;omega);have w1:=Ps ((k:Int)+1) (by omega);have hk0:(k:Int) >= 0:=by omega
  have w5:IntKind.i64.wrap (1+IntKind.i64.wrap (Int.tmod 0 4))=1:=by decide
  simp only[go_sem,e1,e3,e4,l2,hb,h5,hk0,hg,hne,w1,w5,hA];refine⟨by have:=ov2.next;omega,⟨k+1,rfl,by omega,ov2,?_⟩,by rw[h4];simp only[aa,aW];omega⟩;rw[RM];exact hO
 ·simp only[go_sem,e1,e3,e4,l2,hb];obtain rfl:k=n:=by omega
  exact av.bq aK hcl (o1.trans ov) (h3.ja fun i hi=>by omega) hK
structure IsPerm (n:Nat)(p:List Int):Prop where
 len:p.length=n
 nd:p.Nodup
 rng:∀ x∈p,0<=x/\x<n
theorem N4 {n:Nat}{p:List Int}(h:IsPerm n p)(at':Nat)(ha:at'<=n):IsPerm (n+1) (p.take at'++(n:Int) :: p.drop at'):=by
 have hperm:(p.take at'++(n:Int) :: p.drop at').Perm ((n:Int) :: p):=by
  have:=List.perm_middle (a:=(n:Int)) (l₁:=p.take at') (l₂:=p.drop at')
  rwa [PV]at this
 refine⟨by rw[hperm.length_eq];simp [h.len],(hperm.nodup_iff).2 (Sk.2 ⟨fun hm=>?_,h.nd⟩),fun x hx=>?_⟩
 ·have:=h.rng _ hm;omega
 ·rcases List.mem_cons.1 (hperm.mem_iff.1 hx) with rfl|h2
  ·omega
  ·have:=h.rng x h2;omega
def jU (ord:List Int)(k:Nat):Nat:=if k<ord.length then (ord.getD k 0 % ((k:Int)+1)).toNat else 0
def dR (ord:List Int):Nat->List Int
 | 0=>[]
 | k+1=>(dR ord k).take (jU ord k)++(k:Int) :: (dR ord k).drop (jU ord k)
theorem N5 (ord:List Int)(k:Nat):jU ord k<=k:=by
 unfold jU;split
 ·have:=Qq (ord.getD k 0) (show 0<(k:Int)+1 by omega);omega
 ·omega
theorem tz (ord:List Int):∀ n:Nat,IsPerm n (dR ord n)
 | 0=>⟨rfl,by simp [dR],by simp [dR]⟩
 | n+1=>N4 (tz ord n) _ (N5 ord n)
set_option maxHeartbeats 1000000 in
theorem N6 (n:Nat)(hn:n<=5)(ord:List Int)(hol:(ord.length:Int)<2 ^ 63)(ho8:∀ x∈ord,U8 x)(H:AHeap)(K:ARes->AHeap->Prop)(hK:∀ v H',Over H H'->aA H.next H' 3 v (ints (dR ord n))->K (.ret v) H'):
  ab Try.prog G0 35 [.agg [.vec n (aU (List.replicate n 0)),.lit (.int .u16 0),.vec ord.length (aU ord)]] H K:=by
 refine ab.clo ⟨_,Try.func35,rfl,rfl⟩ fun hcl=>?_;refine ab.aZ (n:=42) (rs:=[.tmp 2]) Try.func35 rfl rfl rfl (by decide) (by kernel_rfl) (by simp) ?_;simp only[go_sem];obtain⟨H1,hH1⟩:∃ H1,H1=ext H [.arr 0 83 [.vec n (aU (List.replicate n 0)),.lit (.int .u16 0),.vec ord.length (aU ord)]]:=⟨_,rfl⟩
 have l1:=aj (show H1.get H.next=some (.arr 0 83 [.vec n (aU (List.replicate n 0)),.lit (.int .u16 0),.vec ord.length (aU ord)]) by rw[hH1];exact cD ..);have n1:H1.next=H.next+1:=by rw[hH1];rfl
 have o1:Over H H1:=by rw[hH1];exact .ext _ _
 rw[<- hH1];refine W.aN 2199023255544 (by rfl) (fun ρ H'=>∃ (k:Nat) (p:List Int),ρ 4=aa k/\k<=n/\p=dR ord k/\Over H1 H'/\aA H1.next H' 3 (ρ 3) (ints p)) (fun ρ H=>n - (iv (ρ 4)).toNat) ?_ ?_
 ·simp only[go_sem];exact⟨0,[],rfl,by omega,rfl,.refl _,.nil⟩
 rintro ρ H' ⟨k,p,h4,hk,hpe,ov,h3⟩;have hp:IsPerm k p:=by rw[hpe];exact tz ord k
 refine W.en (fun E=>E 1=.ptr H.next 0 0 /\ E 3=ρ 3 /\ E 4=aa k) (by simp only[go_sem,h4]) fun E ⟨e1,e3,e4⟩=>?_
 refine W.vs ?_;have l2:=(ov.live (g:=0) (by omega:H.next<H1.next)).trans l1;simp only[go_sem,e1,l2];refine az.clo (N3 n hn ord _ _ ⟨trivial,?_⟩);by_cases hb:(k:Int)<n;rotate_left
 ·simp only[go_sem,PZ,e3,e4,hb];obtain rfl:k=n:=by omega
  exact av.mk (o1.trans ov).next (hK _ _ (o1.trans ov) (by rw[<- hpe];exact h3.keep (by omega) (Nat.le_refl _) fun _ _ _ _ _ _=>rfl))
  -- the place
 rcases h3 with ⟨h3n,hpn⟩|⟨oi,og,hoi1,hoi2,h3o,hog⟩
 ·have p0:p=[]:=by cases p with
   | nil=>rfl
   | cons a l=>simp [ints]at hpn
  have pl:=hp.len;rw[p0]at pl;obtain rfl:k=0:=by simpa using pl.symm
  rw[h3n]at e3;have e4':E 4=aa 0:=e4;have hb':(0:Int)<n:=hb;by_cases ho:(0:Int)<ord.length
  ·obtain⟨b,hbg⟩:=get_of_lt (l:=ord) (i:=0) (by omega);have b8:=ho8 b (Pq hbg);have hbg':=qf hbg;have hbne:=aL hbg';have w2:IntKind.i64.wrap b=b:=Ps b (by have:=b8.1;have:=b8.2;omega);have w1:IntKind.i64.wrap 1=1:=(by decide);have m1:b.tmod 1=0:=(by simp);obtain⟨v2,Hb,hA2,ovB,hO2,hn2,hp2⟩:=iS (H:=H') (H':=H') (l:=[]) (v:=.lit (.slice none 0 0)) (0:Int) (.refl _) aA.nil (by simp);obtain⟨v3,Hc,hA3,hO3,hn3,hp3⟩:=ow (P:=Try.prog) (H:=Hb) (t:=39) (n:=Hb.next) (m:=0) (v:=v2) (x:=.lit (.slice none 0 0)) (src:=[]) Try.underlying39 Try.eg Try.eX rfl rfl rfl (by rw[Try.fG];exact⟨by decide,by decide⟩) hO2 ovB.next rfl;have ovC:Over H' Hc:=my ovB hO2 hn3 hp3;have hA1:bC Try.prog H' H'.next 39 39 (.lit (.slice none 0 0)) (.lit (.slice none 0 0))=some (.lit (.slice none 0 0),H'):=by
    unfold bC;rw[Try.underlying39];simp only[Try.eX,Try.eg,Option.bind_some,uN,if_true]
   have hO3':aA H1.next Hc 3 v3 (ints [0]):=by
    rw[List.append_nil]at hO3;exact hO3.keep ov.next (Nat.le_refl _) fun _ _ _ _ _ _=>rfl
   simp only[go_sem,PZ,e1,e3,e4',l2,hb',ho,hbg',hbne,w1,w2,m1,hA1,hA2,hA3];refine⟨by have:=ovC.next;have:=ov.next;omega,⟨1,[0],rfl,by omega,by simp [dR],ov.trans ovC,hO3'⟩,by rw[h4];simp only[aa,aW];omega⟩
  ·have w1:IntKind.i64.wrap 1=1:=(by decide);obtain⟨v2,Hb,hA2,ovB,hO2,hn2,hp2⟩:=iS (H:=H') (H':=H') (l:=[]) (v:=.lit (.slice none 0 0)) (0:Int) (.refl _) aA.nil (by simp);obtain⟨v3,Hc,hA3,hO3,hn3,hp3⟩:=ow (P:=Try.prog) (H:=Hb) (t:=39) (n:=Hb.next) (m:=0) (v:=v2) (x:=.lit (.slice none 0 0)) (src:=[]) Try.underlying39 Try.eg Try.eX rfl rfl rfl (by rw[Try.fG];exact⟨by decide,by decide⟩) hO2 ovB.next rfl;have ovC:Over H' Hc:=my ovB hO2 hn3 hp3;have hA1:bC Try.prog H' H'.next 39 39 (.lit (.slice none 0 0)) (.lit (.slice none 0 0))=some (.lit (.slice none 0 0),H'):=by
    unfold bC;rw[Try.underlying39];simp only[Try.eX,Try.eg,Option.bind_some,uN,if_true]
   have hO3':aA H1.next Hc 3 v3 (ints [0]):=by
    rw[List.append_nil]at hO3;exact hO3.keep ov.next (Nat.le_refl _) fun _ _ _ _ _ _=>rfl
   simp only[go_sem,PZ,e1,e3,e4',l2,hb',ho,w1,hA1,hA2,hA3];refine⟨by have:=ovC.next;have:=ov.next;omega,⟨1,[0],rfl,by omega,by simp [dR],ov.trans ovC,hO3'⟩,by rw[h4];simp only[aa,aW];omega⟩
 rw[h3o]at e3;have lo:=aj hog;by_cases ho:(k:Int)<ord.length
 ·obtain⟨b,hbg⟩:=get_of_lt (l:=ord) (i:=k) (by omega);have b8:=ho8 b (Pq hbg);have hbg':=qf hbg;have hbne:=aL hbg';have w0:=Ps ((k:Int)+1) (by omega);have w1:=w0;have w2:IntKind.i64.wrap b=b:=Ps b (by have:=b8.1;have:=b8.2;omega);have m1:b.tmod ((k:Int)+1)=b % ((k:Int)+1):=PP b8.1;have m2:=QA b (show (k:Int)+1≠0 by omega);have m3:=Qq b (show 0<(k:Int)+1 by omega);have hz:¬ (k:Int)+1=0:=by omega
  obtain⟨a,hat⟩:=PM m2;have ha:a<=k:=by omega
  have hac:(0:Int)<=(a:Int):=by omega
  have hap:(a:Int)<=(p.length:Int):=by rw[hp.len];omega
  have hak:(0:Int)<=(a:Int)/\(a:Int)<=(p.length:Int):=⟨hac,hap⟩
  have pl:p.length=k:=hp.len;obtain⟨v1,Ha,hA1,hO1,hn1,hp1⟩:=ow (P:=Try.prog) (H:=H') (t:=39) (n:=H'.next) (m:=a) (v:=.lit (.slice none 0 0)) (x:=.own oi og 0 a 1) (src:=(ints p).take a) Try.underlying39 Try.eg Try.eX
   (by rw[pD,Pv rfl,lo];simp) (by simp [aS]<;>omega) (PX.2 fun c hc=>by
    obtain⟨z,_,rfl⟩:=PQ.1 (PW hc);rfl) (by rw[Try.fG];simp<;>omega) aA.nil (Nat.le_refl _) rfl
  have ovA:Over H' Ha:=⟨hn1,fun id hi=>hp1 id hi fun g n h=>by cases h⟩
  rw[List.nil_append,Cv]at hO1;obtain⟨v2,Hb,hA2,ovB,hO2,hn2,hp2⟩:=iS (k:Int) ovA hO1 (by simp<;>omega);have hcl2:(ints (p.take a++[(k:Int)])).length<=k+1:=by rw[aS,List.length_append,PC];simp<;>omega
  have hlb:Hb.live oi og=some (3,ints p):=(ovB.live hoi2).trans lo;obtain⟨v3,Hc,hA3,hO3,hn3,hp3⟩:=ow (P:=Try.prog) (H:=Hb) (t:=39) (n:=Hb.next) (m:=p.length - a) (v:=v2) (x:=.own oi og a (p.length - a) 1) (src:=(ints p).drop a) Try.underlying39 Try.eg Try.eX
   (by rw[pD,Pv rfl,hlb];simp [Pw,aS]) (by simp [aS]) (PX.2 fun c hc=>by
    obtain⟨z,_,rfl⟩:=PQ.1 (QB hc);rfl) (by rw[Try.fG];omega) hO2 ovB.next rfl
  have ovC:Over H' Hc:=my ovB hO2 hn3 hp3;have hla:Ha.live oi og=some (3,ints p):=(ovA.live hoi2).trans lo;rw[Cw]at hO3;have hO3':aA H1.next Hc 3 v3 (ints (p.take a++(k:Int) :: p.drop a)):=by
   have:ints (p.take a++[(k:Int)])++ints (p.drop a)=ints (p.take a++(k:Int) :: p.drop a):=(by simp [ints]);rw[this]at hO3;exact hO3.keep ov.next (Nat.le_refl _) fun _ _ _ _ _ _=>rfl
  simp only[go_sem,PZ,e1,e3,e4,l2,hb,ho,hbg',hbne,w0,w2,m1,hz,hat,hac,hap,Int.toNat_natCast,lo,hlb,hA1,hA2,hA3];refine⟨by have:=ovC.next;omega,⟨k+1,_,rfl,by omega,by rw[dR,<- hpe,show jU ord k=a by unfold jU;rw[Pv (by omega),bH hbg,hat];rfl],ov.trans ovC,hO3'⟩,by rw[h4];simp only[aa,aW];omega⟩
 ·have w0:=Ps ((k:Int)+1) (by omega);have pl:p.length=k:=hp.len;obtain⟨v1,Ha,hA1,hO1,hn1,hp1⟩:=ow (P:=Try.prog) (H:=H') (t:=39) (n:=H'.next) (m:=0) (v:=.lit (.slice none 0 0)) (x:=.own oi og 0 0 1) (src:=(ints p).take 0) Try.underlying39 Try.eg Try.eX
   (by rw[pD,Pv rfl,lo];simp) (by simp [aS]<;>omega) (PX.2 fun c hc=>by
    obtain⟨z,_,rfl⟩:=PQ.1 (PW hc);rfl) (by rw[Try.fG];simp<;>omega) aA.nil (Nat.le_refl _) rfl
  have ovA:Over H' Ha:=⟨hn1,fun id hi=>hp1 id hi fun g n h=>by cases h⟩
  rw[List.nil_append,Cv]at hO1;obtain⟨v2,Hb,hA2,ovB,hO2,hn2,hp2⟩:=iS (k:Int) ovA hO1 (by simp<;>omega);have hcl2:(ints (p.take 0++[(k:Int)])).length<=k+1:=by rw[aS,List.length_append,PC];simp<;>omega
  have hlb:Hb.live oi og=some (3,ints p):=(ovB.live hoi2).trans lo;obtain⟨v3,Hc,hA3,hO3,hn3,hp3⟩:=ow (P:=Try.prog) (H:=Hb) (t:=39) (n:=Hb.next) (m:=p.length) (v:=v2) (x:=.own oi og 0 (p.length) 1) (src:=(ints p).drop 0) Try.underlying39 Try.eg Try.eX
   (by rw[pD,Pv rfl,hlb];simp [Pw,aS]) (by simp [aS]) (PX.2 fun c hc=>by
    obtain⟨z,_,rfl⟩:=PQ.1 (QB hc);rfl) (by rw[Try.fG];omega) hO2 ovB.next rfl
  have ovC:Over H' Hc:=my ovB hO2 hn3 hp3;have hla:Ha.live oi og=some (3,ints p):=(ovA.live hoi2).trans lo;rw[Cw]at hO3;have hO3':aA H1.next Hc 3 v3 (ints (p.take 0++(k:Int) :: p.drop 0)):=by
   have:ints (p.take 0++[(k:Int)])++ints (p.drop 0)=ints (p.take 0++(k:Int) :: p.drop 0):=(by simp [ints]);rw[this]at hO3;exact hO3.keep ov.next (Nat.le_refl _) fun _ _ _ _ _ _=>rfl
  simp only[go_sem,PZ,e1,e3,e4,l2,hb,ho,w0,lo,hlb,hA1,hA2,hA3];refine⟨by have:=ovC.next;omega,⟨k+1,_,rfl,by omega,by rw[dR,<- hpe,show jU ord k=0 by unfold jU;rw[Pt (by omega)]],ov.trans ovC,hO3'⟩,by rw[h4];simp only[aa,aW];omega⟩
structure D25 where
 cards:List Int
 cases:List (List Int)
 follow:Int
 miss:List Int
def Mk (l:List (List Int)):List AVal:=(l.map aU).flatten
def D25.cells (d:D25):List AVal:=[.vec d.cards.length (aU d.cards),.vec d.cases.length (Mk d.cases),.lit (.int .u8 d.follow),.vec d.miss.length (aU d.miss)]
structure D25.Ok (d:D25):Prop where
 cl:(d.cards.length:Int)<2 ^ 63
 c8:∀ x∈d.cards,U8 x
 xl:(d.cases.length:Int)<2 ^ 63
 x8:∀ r∈d.cases,r.length=5/\∀ x∈r,U8 x
 f8:U8 d.follow
 ml:(d.miss.length:Int)<2 ^ 63
 m8:∀ x∈d.miss,U8 x
def l8 (n:Nat)(xs:List (List Int)):Prop:=∀ r∈xs,r.length=n
theorem l8.set {n:Nat}{xs:List (List Int)}(h:l8 n xs){i:Nat}{r:List Int}(hr:r.length=n):l8 n (xs.set i r):=fun q hq=>by
 rcases P3 hq with h'|rfl
 ·exact h q h'
 ·exact hr
end Go.Proofs
namespace Go.Hx
variable {P:Program} {G:Nat->Option (List AVal)}
theorem gY.upd {lo:Nat}{H:AHeap}{e1 e0:TypeId}{v:AVal}{rows:List (List AVal)}(h:gY lo H e1 e0 v rows){k:Nat}{b:Blk}(hk:k<lo):gY lo (H.upd k b) e1 e0 v rows:=by
 obtain⟨cs,c1,c2,c3⟩:=h;refine⟨cs,c1.keep (Nat.le_refl _) (by rw[aC];exact Nat.le_refl _) fun id _ h1 _ _ _=>by rw[ag,Pt (by omega)],c2,fun j r c hr hc=>(c3 j r c hr hc).keep (Nat.le_refl _) (by rw[aC];exact Nat.le_refl _) fun id _ h1 _ _ _=>by rw[ag,Pt (by omega)]⟩
end Go.Hx
namespace Go.Proofs
open Go.Hx
theorem mu {l:List Int}(h:∀ x∈l,0<=x):0<=l.sum:=by
 induction l with
 | nil=>simp
 | cons a l ih =>
  rw[Qd];have:=h a (by simp);have:=ih fun x hx=>h x (by simp [hx]);omega
theorem BR {l:List Int}{i:Nat}{a b:Int}(h:l[i]?=some a):(l.set i b).sum=l.sum - a+b:=by
 induction l generalizing i with
 | nil=>simp at h
 | cons x l ih =>
  cases i with
  | zero=>simp at h;subst h;simp only[List.set_cons_zero,Qd];omega
  | succ i =>
   simp only[List.set_cons_succ,Qd];rw[ih (by simpa using h)];omega
theorem N7 {l:List Int}{b:Int}(h:∀ x∈l,0<=x/\x<=b):l.sum<=b*l.length:=by
 induction l with
 | nil=>simp
 | cons a l ih =>
  rw[Qd,List.length_cons];have:=(h a (by simp)).2;have:=ih fun x hx=>h x (by simp [hx]);rw[show b*((l.length+1:Nat):Int)=b*l.length+b by rw[Int.natCast_add,Rl];simp];omega
def wF (n:Nat)(bs:List Int)(from':Int):List Int:=(List.range n).map fun (k:Nat)=>if bs.length=0 then 0 else bs.getD ((from'+(k:Int)) % (bs.length:Int)).toNat 0 % 8
theorem BS (n:Nat)(bs:List Int)(from':Int):(wF n bs from').length=n:=by simp [wF]
theorem BU {n:Nat}(bs:List Int)(from':Int){k:Nat}(h:k<n):(wF n bs from')[k]?=some (if bs.length=0 then 0 else bs.getD ((from'+(k:Int)) % (bs.length:Int)).toNat 0 % 8):=by
 unfold wF;rw[List.getElem?_map,Rc h];rfl
theorem N8 (n:Nat)(bs:List Int)(from':Int):∀ x∈wF n bs from',0<=x/\x<=7:=fun x hx=>by
 unfold wF at hx;obtain⟨k,_,rfl⟩:=PQ.1 hx;split<;>omega
def tA (g s:Int)(st:List Int × Nat)(m:Nat):List Int × Nat:=if 0<st.1.getD m 0 then (st.1.set m (g*st.1.getD m 0 / s),m) else st
def gM (g:Int)(c:List Int)(m:Nat):List Int × Nat:=(List.range m).foldl (tA g c.sum) (c,0)
theorem BV (g:Int)(c:List Int)(m:Nat):gM g c (m+1)=tA g c.sum (gM g c m) m:=by unfold gM;rw[Qx,QP];rfl
def kT (g:Int)(n:Nat)(bs:List Int)(from':Int):List Int:=(gM g (wF n bs from') n).1.set (gM g (wF n bs from') n).2 ((gM g (wF n bs from') n).1.getD (gM g (wF n bs from') n).2 0+(g - (gM g (wF n bs from') n).1.sum))
structure RInv (g:Int)(c:List Int)(m:Nat)(d:List Int)(last:Nat):Prop where
 dl:d.length=c.length
 d0:∀ x∈d,0<=x
 dd:d.drop m=c.drop m
 dg:(d.take m).sum<=g
 ds:c.sum*(d.take m).sum<=g*(c.take m).sum
 la:last<c.length
theorem BW {g:Int}{c:List Int}(hg:1<=g)(hc:∀ x∈c,0<=x)(hl:0<c.length):∀ m,m<=c.length->RInv g c m (gM g c m).1 (gM g c m).2:=by
 intro m
 induction m with
 | zero=>intro _;exact⟨rfl,hc,rfl,by simp;omega,by simp,hl⟩
 | succ m ih =>
  intro hm;obtain⟨hdl,hd0,hdd,hdg,hds,hla⟩:=ih (by omega);rw[BV];generalize gM g c m=st at *
  obtain⟨d,last⟩:=st;simp only at hdl hd0 hdd hdg hds hla;obtain⟨x,hcx⟩:=get_of_lt (l:=c) (i:=m) (by omega);have hx0:=hc x (Pq hcx);have hdx:d[m]?=some x:=by
   have h1:(d.drop m)[0]?=d[m]?:=(by rw[Qn];rfl);have h2:(c.drop m)[0]?=c[m]?:=(by rw[Qn];rfl);rw[<- h1,hdd,h2,hcx]
  have hdd':d.drop (m+1)=c.drop (m+1):=by
   have:=congrArg (List.drop 1) hdd
   rwa [Rs,Rs]at this
  have hct:(c.take (m+1)).sum=(c.take m).sum+x:=by rw[aO hcx];simp
  have hcs:(c.take (m+1)).sum+(c.drop (m+1)).sum=c.sum:=by rw[<- Sj,PV]
  have hcd0:=mu (l:=c.drop (m+1)) fun y hy=>hc y (QB hy);have hc00:=mu (l:=c.take m) fun y hy=>hc y (PW hy);have hd00:=mu (l:=d.take m) fun y hy=>hd0 y (PW hy);unfold tA;rw[bH hdx];by_cases hx:0<x
  ·rw[Pv hx];have gx:0<=g*x:=Rt (by omega) hx0;have y0:0<=g*x / c.sum:=RD gx (by omega);have y2:c.sum*(g*x / c.sum)<=g*x:=SX (by omega);have dt:((d.set m (g*x / c.sum)).take (m+1)).sum=(d.take m).sum+g*x / c.sum:=by
    rw[aO (PF (by omega)),Rx (Nat.le_refl _)];simp
   have hs2:c.sum*((d.take m).sum+g*x / c.sum)<=g*(c.take (m+1)).sum:=by
    rw[Rl,hct,Rl];omega
   have hle:(d.take m).sum+g*x / c.sum<=g:=by
    have h1:g*(c.take (m+1)).sum<=g*c.sum:=Qy (by omega) (by omega);have h2:c.sum*((d.take m).sum+g*x / c.sum)<=c.sum*g:=(by rw[QM c.sum g];omega);exact SG h2 (by omega)
   refine⟨by simp [hdl],fun y hy=>?_,?_,by dsimp only;rw[dt];exact hle,by dsimp only;rw[dt];exact hs2,by dsimp only;omega⟩
   ·rcases P3 hy with h|h
    ·exact hd0 y h
    ·omega
   ·rw[<- hdd',List.drop_set_of_lt (by omega)]
  ·rw[Pt hx];have x0:x=0:=(by omega);have dt:(d.take (m+1)).sum=(d.take m).sum:=(by rw[aO hdx,x0];simp);rw[x0,Sx]at hct;exact⟨hdl,hd0,hdd',by dsimp only;rw[dt];exact hdg,by dsimp only;rw[dt,hct];exact hds,hla⟩
theorem BX {g:Int}{n:Nat}(hg:1<=g)(hn:1<=n)(bs:List Int)(from':Int):iQ g n (kT g n bs from'):=by
 have hw:=BS n bs from';have I:=BW (g:=g) (c:=wF n bs from') hg (fun x hx=>(N8 n bs from' x hx).1) (by omega) n (by omega);unfold kT;generalize gM g (wF n bs from') n=st at *
 obtain⟨d,last⟩:=st;obtain⟨hdl,hd0,hdd,hdg,hds,hla⟩:=I;dsimp only at hdl hd0 hdd hdg hds hla ⊢;obtain⟨y,hy⟩:=get_of_lt (l:=d) (i:=last) (by omega);have y0:=hd0 y (Pq hy);rw[bH hy];rw[Pw (by omega)]at hdg;have hs:(d.set last (y+(g - d.sum))).sum=g:=by rw[BR hy];omega
 have h0:∀ w∈d.set last (y+(g - d.sum)),0<=w:=fun w hw=>by
  rcases P3 hw with h|h
  ·exact hd0 w h
  ·omega
 exact⟨by simp [hdl,hw],fun w hw=>⟨h0 w hw,by have:=xu h0 w hw;omega⟩,hs⟩
set_option maxHeartbeats 2000000 in
theorem N9 (g:Int)(n:Nat)(hg:1<=g/\g<=60)(hn:1<=n/\n<=4)(bs:List Int)(hbl:(bs.length:Int)<2 ^ 63)(hb8:∀ x∈bs,U8 x)(from':Int)(hf:0<=from'/\from'<=1000000)(H:AHeap)(K:ARes->AHeap->Prop)(hK:∀ v H',Over H H'->aA H.next H' 3 v (ints (kT g n bs from'))->K (.ret v) H'):
  ab Try.prog G0 38 [aa g,aa n,.vec bs.length (aU bs),aa from'] H K:=by
 refine ab.clo ⟨_,Try.func38,rfl,rfl⟩ fun hcl=>?_;refine ab.aZ (n:=84) (rs:=[.tmp 8]) Try.func38 rfl rfl rfl (by decide) (by kernel_rfl) (by simp) ?_;simp only[go_sem];refine⟨by omega,?_⟩;refine W.aN 35184371960832 (by rfl) (fun ρ H'=>∃ (k:Nat) (c:List Int),ρ 11=aa k/\k<=n/\c.length=n/\(∀ x∈c,0<=x/\x<=7)/\(∀ j x,k<=j->c[j]?=some x->x=0)/\(∀ j,j<k->c[j]?=(wF n bs from')[j]?)/\ρ 10=aa c.sum/\OwnI H H' H.next c) (fun ρ H=>n - (iv (ρ 11)).toNat) ?_ ?_
 ·simp only[go_sem];refine⟨0,List.replicate n 0,rfl,by omega,by simp,fun x hx=>?_,fun j x _ hx=>?_,fun j hj=>by omega,by simp,?_⟩
  ·have:=Q6 hx;omega
  ·exact Q6 (Pq hx)
  ·exact .new [] _
 rintro ρ H' ⟨k,c,h11,hk,hcl',hc7,hc0,hcw,h10,ho⟩;refine W.en (fun E=>E 0=aa g /\ E 1=aa n /\ E 2=.vec bs.length (aU bs) /\ E 3=aa from' /\ E 9=.own H.next 0 0 n 1 /\ E 10=aa c.sum /\ E 11=aa k) (by simp only[go_sem,h10,h11]) fun E ⟨e0,e1,e2,e3,e9,e10,e11⟩=>?_
 refine W.vs ?_;have lN:=ho.live;have hs0:=mu fun x hx=>(hc7 x hx).1;have hs1:=N7 hc7;by_cases hb:(k:Int)<n
 ·have hck:c[k]?=some 0:=by
   obtain⟨a,ha⟩:=get_of_lt (l:=c) (i:=k) (by omega);rw[ha,hc0 k a (Nat.le_refl _) ha]
  have hcne:=aL hck;have hk0:(k:Int) >= 0:=by omega
  have w1:=Ps ((k:Int)+1) (by omega);by_cases hz:(0:Int)<bs.length
  ·have hzn:¬ (bs.length:Int)=0:=(by omega);have w2:=Ps (from'+k) (by omega);have m1:(from'+(k:Int)).tmod bs.length=(from'+k) % bs.length:=PP (by omega);have m2:=QA (from'+k) hzn;have m3:=Qq (from'+k) hz;obtain⟨q,hq⟩:=PM m2;have hq0:(q:Int) >= 0:=(by omega);have hql:(q:Int)<bs.length:=(by omega);obtain⟨b,hbg⟩:=get_of_lt (l:=bs) (i:=q) (by omega);have b8:=hb8 b (Pq hbg);have hbg':=qf hbg;have hbne:=aL hbg';have t1:b.tmod 8=b % 8:=PP b8.1;have w3:IntKind.u8.wrap (b % 8)=b % 8:=Sa _ (by omega);have w4:IntKind.i64.wrap (b % 8)=b % 8:=Ps _ (by omega);have w5:=Ps (c.sum+b % 8) (by omega);have hsg:(setAt (ints c) k [.lit (.int .i64 (b % 8))])[k]?=some (.lit (.int .i64 (b % 8))):=by
    rw[fL (by omega),fU,PF (by omega)];rfl
   simp only[go_sem,hsg,e1,e2,e3,e9,e10,e11,hb,hz,hzn,w1,w2,m1,hq,hq0,hql,hbg',hbne,t1,w4,w5,hk0,lN];refine⟨by omega,by have:=ho.hi;rw[aC];omega,⟨k+1,c.set k (b % 8),rfl,by omega,by simp [hcl'],fun x hx=>?_,fun j x hj hx=>?_,fun j hj=>?_,by rw[BR hck,Int.sub_zero],ho.store (by omega) _⟩,by rw[h11];simp only[aa,aW];omega⟩
   ·rcases P3 hx with h|h
    ·exact hc7 x h
    ·omega
   ·rw[PO (by omega)]at hx;exact hc0 j x (by omega) hx
   ·by_cases hjk:j=k
    ·subst hjk;rw[PF (by omega),BU bs from' (by omega),Pt (by omega),hq,Int.toNat_natCast,bH hbg]
    ·rw[PO (by omega)];exact hcw j (by omega)
  ·have w5:=Ps (c.sum+0) (by omega);rw[Sx]at w5;simp only[go_sem,e1,e2,e9,e10,e11,hb,hz,w1,w5,Sx,hk0,hck,lN];refine⟨by have:=ho.hi;omega,⟨k+1,c,rfl,by omega,hcl',hc7,fun j x hj hx=>hc0 j x (by omega) hx,fun j hj=>by
    by_cases hjk:j=k
    ·subst hjk;rw[hck,BU bs from' (by omega),Pv (by omega)]
    ·exact hcw j (by omega),rfl,ho⟩,by rw[h11];simp only[aa,aW];omega⟩
 ·obtain rfl:k=n:=by omega
  simp only[go_sem,e1,e11,hb];have hcwF:c=wF k bs from':=by
   apply Qf;intro j;rcases PR j k with h|h
   ·exact hcw j h
   ·rw[PD (by omega),PD (by rw[BS];exact h)]
  have hRI:=fun m (hm:m<=k)=>BW (g:=g) (c:=c) hg.1 (fun x hx=>(hc7 x hx).1) (by omega) m (by omega);refine W.aN 18889465861109836705792 (by rfl) (fun ρ H2=>∃ (m last:Nat) (d:List Int),ρ 14=aa m/\m<=k/\gM g c m=(d,last)/\ρ 12=aa (g - (d.take m).sum)/\ρ 13=aa last/\H'.next<=H2.next/\OwnI H H2 H.next d) (fun ρ H=>k - (iv (ρ 14)).toNat) ?_ ?_
  ·simp only[go_sem,e0];exact⟨0,0,c,rfl,by omega,rfl,by simp,rfl,ho⟩
  rintro ρ2 H2 ⟨m,last,d,h14,hm,hrf,h12,h13,hnn,hod⟩;obtain⟨hdl,hd0,hdd,hdg,hds,hlast⟩:RInv g c m d last:=by have:=hRI m hm;rw[hrf]at this;exact this
  rw[hcl']at hdl hlast;have hrs:=BV g c m;rw[hrf]at hrs;unfold tA at hrs;dsimp only at hrs;refine W.en (fun E2=>E2 0=aa g /\ E2 1=aa k /\ E2 9=.own H.next 0 0 k 1 /\ E2 10=aa c.sum /\ E2 12=aa (g - (d.take m).sum) /\ E2 13=aa last /\ E2 14=aa m) (by simp only[go_sem,e0,e1,e9,e10,h12,h13,h14]) fun E2 ⟨f0,f1,f9,f10,f12,f13,f14⟩=>?_
  refine W.vs ?_;have lN2:=hod.live;by_cases hb2:(m:Int)<k
  ·obtain⟨x,hcx⟩:=get_of_lt (l:=c) (i:=m) (by omega);have hx7:=hc7 x (Pq hcx);have hdx:d[m]?=some x:=by
    have h1:(d.drop m)[0]?=d[m]?:=(by rw[Qn];rfl);have h2:(c.drop m)[0]?=c[m]?:=(by rw[Qn];rfl);rw[<- h1,hdd,h2,hcx]
   have hdne:=aL hdx;have hm0:(m:Int) >= 0:=(by omega);have w1:=Ps ((m:Int)+1) (by omega);have hdd':d.drop (m+1)=c.drop (m+1):=by
    have:=congrArg (List.drop 1) hdd
    rwa [Rs,Rs]at this
   have hct:(c.take (m+1)).sum=(c.take m).sum+x:=(by rw[aO hcx];simp);have hcs:(c.take (m+1)).sum+(c.drop (m+1)).sum=c.sum:=(by rw[<- Sj,PV]);have hcd0:=mu (l:=c.drop (m+1)) fun y hy=>(hc7 y (QB hy)).1;have hc00:=mu (l:=c.take m) fun y hy=>(hc7 y (PW hy)).1;have hd00:=mu (l:=d.take m) fun y hy=>hd0 y (PW hy);by_cases hx:0<x
   ·have hsz:¬ c.sum=0:=(by omega);have gx:0<=g*x:=Rt (by omega) hx7.1;have gx2:g*x<=60*7:=Rg hg.2 hx7.2 hx7.1 (by omega);have w2:=Ps (g*x) (by omega);have t1:(g*x).tdiv c.sum=g*x / c.sum:=Qu gx;have y0:0<=g*x / c.sum:=RD gx hs0;have y1:g*x / c.sum<=g*x:=RK _ gx;have y2:c.sum*(g*x / c.sum)<=g*x:=SX (by omega);have w3:=Ps (g*x / c.sum) (by omega);have w4:=Ps (g - (d.take m).sum - g*x / c.sum) (by omega);have hsg:(setAt (ints d) m [.lit (.int .i64 (g*x / c.sum))])[m]?=some (.lit (.int .i64 (g*x / c.sum))):=by
     rw[fL (by omega),fU,PF (by omega)];rfl
    have dt:((d.set m (g*x / c.sum)).take (m+1)).sum=(d.take m).sum+g*x / c.sum:=by
     rw[aO (PF (by omega)),Rx (Nat.le_refl _)];simp
    have hs2:c.sum*((d.take m).sum+g*x / c.sum)<=g*(c.take (m+1)).sum:=by
     rw[Rl,hct,Rl];omega
    have hle:(d.take m).sum+g*x / c.sum<=g:=by
     have h1:g*(c.take (m+1)).sum<=g*c.sum:=Qy (by omega) (by omega);have h2:c.sum*((d.take m).sum+g*x / c.sum)<=c.sum*g:=(by rw[QM c.sum g];omega);exact SG h2 (by omega)
    simp only[go_sem,hsg,f0,f1,f9,f10,f12,f13,f14,hb2,hx,hsz,w1,w2,t1,w3,w4,hm0,hdx,lN2];rw[bH hdx,Pv hx]at hrs;exact⟨by omega,by rw[aC];exact hnn,⟨m+1,m,d.set m (g*x / c.sum),rfl,by omega,hrs,by rw[dt];congr 2;omega,rfl,by rw[aC];exact hnn,hod.store (by omega) _⟩,by rw[h14];simp only[aa,aW];omega⟩
   ·have x0:x=0:=(by omega);have w4:=Ps (g - (d.take m).sum) (by omega);simp only[go_sem,f1,f9,f12,f13,f14,hb2,x0,w1,w4,hm0,hdx,Int.sub_zero,lN2];have dt:(d.take (m+1)).sum=(d.take m).sum:=(by rw[aO hdx,x0];simp);rw[x0,Sx]at hct;rw[bH hdx,Pt hx]at hrs;exact⟨hnn,⟨m+1,last,d,rfl,by omega,hrs,by rw[dt],rfl,hnn,hod⟩,by rw[h14];simp only[aa,aW];omega⟩
  ·obtain rfl:m=k:=(by omega);obtain⟨y,hy⟩:=get_of_lt (l:=d) (i:=last) (by omega);have hyne:=aL hy;have hl0:(last:Int) >= 0:=(by omega);have hlk:(last:Int)<m:=(by omega);have y0:=hd0 y (Pq hy);rw[Pw (by omega)]at hdg hds h12 f12;have hyle:=xu hd0 y (Pq hy);have w1:=Ps (y+(g - d.sum)) (by omega);have hle:last+1<=d.length:=(by omega);simp only[go_sem,f1,f9,f12,f13,f14,hb2,hl0,hlk,hy,lN2,w1];refine⟨hle,?_⟩;have hrow:kT g m bs from'=d.set last (y+(g - d.sum)):=by
    unfold kT;rw[<- hcwF,hrf];dsimp only;rw[bH hy]
   rw[hrow]at hK;have ho2:=hod.store (k:=last) (by omega) (y+(g - d.sum));refine av.mk ho2.ov.next (hK _ _ ho2.ov (.inr ⟨_,0,ho2.lo,ho2.hi,?_,ho2.get⟩));rw[aS,Py,hdl]
end Go.Proofs
