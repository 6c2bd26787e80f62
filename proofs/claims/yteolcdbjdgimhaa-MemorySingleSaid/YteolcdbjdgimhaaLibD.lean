/-
  Slices of a call's own, by what lies in the heap; blocks let go at a call. Own work: no program stands in this text.
-/
import Derived.Test.YteolcdbjdgimhaaLibC
set_option linter.all false
namespace Go.Hx
variable {P:Program} {G:Nat->Option (List AVal)} {H H':AHeap}
def AHeap.cut (H:AHeap)(n:Nat):AHeap:=⟨fun j=>if j<n then H.get j else none,H.next⟩
theorem cut_get {n id:Nat}(h:id<n):(H.cut n).get id=H.get id:=by simp [AHeap.cut,h]
theorem cut_none {n id:Nat}(h:n<=id):(H.cut n).get id=none:=by simp [AHeap.cut,Nat.not_lt.2 h]
theorem Over.cut {B:AHeap}(h:Over B H):Over B (H.cut B.next):=⟨h.next,fun id hi=>(cut_get hi).trans (h.old id hi)⟩
open Classical in
theorem Fz.dead {S:Nat->Prop}{H:AHeap}{nx:Nat}{v:AVal}(h:Below nx v):Fz S H nx v v:=by
 induction h with
 | lit v=>exact .lit v
 | vec _ ih=>exact .vec rfl fun i h _=>ih i h
 | vptr _ ih=>exact .vptr rfl fun i h _=>ih i h
 | agg _ ih=>exact .agg rfl fun i h _=>ih i h
 | tup _ ih=>exact .tup rfl fun i h _=>ih i h
 | clo _ _ ih1 ih2=>exact .clo rfl rfl (fun i h _=>ih1 i h) fun i h _=>ih2 i h
 | @own id _ _ _ _ h=>by_cases hs:S id;exact .deadOwn h hs;exact .own h hs
 | @ptr id _ _ h=>by_cases hs:S id;exact .deadPtr h hs;exact .ptr h hs
 | @yld id h=>by_cases hs:S id;exact .deadYld h hs;exact .yld h hs
theorem fzH_cut (hc:Clo H)(n:Nat):FzH (fun id=>n<=id) H (H.cut n) where
 gone id hs:=cut_none hs
 kept id b hs hb:=by
  have hlt:id<n:=Nat.lt_of_not_le hs
  have hbb:=hc.below id b hb
  refine⟨hc.lt id b hb,b,by rw[cut_get hlt];exact hb,?_⟩
  cases b with
  | rsv=>trivial
  | mp=>rfl
  | arr g e cells=>exact⟨rfl,rfl,rfl,fun i h _=>.dead (hbb i h)⟩
  | loop st pend n env ps asg body=>exact⟨rfl,rfl,rfl,rfl,rfl,rfl,rfl,fun t ht=>.dead (hbb t ht)⟩
 none id hs hb:=by rw[cut_get (Nat.lt_of_not_le hs)];exact hb
theorem ACall.cutArgs {f:FuncId}{args args':List AVal}{K:ARes->AHeap->Prop}(n:Nat)(hG:GOk G)(hl:args'.length=args.length)(hv:∀ i (h:i<args.length) (h':i<args'.length),Fz (fun id=>n<=id) H H.next args[i] args'[i])
  (h:ACall P G f args' (H.cut n) K):ACall P G f args H K:=by
 refine⟨h.1,fun Γ w cargs R hr=>?_⟩
 have F:=fzH_cut R.clo n
 have R0:=F.rel hG R
 have E0:Evo Γ H w (gamF (fun id=>n<=id) Γ) (H.cut n) w:=F.evo
 refine(h.2 _ w cargs R0 ⟨by have:=hr.1;omega,fun i h1 h2=>(hv i (by omega) h1).sound R F (hr.2 i (by omega) h2)⟩).mono ?_
 rintro e w' ⟨r,H',Γ',h1,h2,h3,h4,h5⟩
 exact⟨r,H',Γ',h1,h2,h3,E0.trans (Nat.le_refl _) h4,h5⟩
theorem AApply.cutArgs {f:FuncId}{args args':List AVal}{K:ARes->AHeap->Prop}(n:Nat)(hG:GOk G)(hl:args'.length=args.length)(hv:∀ i (h:i<args.length) (h':i<args'.length),Fz (fun id=>n<=id) H H.next args[i] args'[i])
  (h:ACall P G f args' (H.cut n) K):AApply P G (.clo f [] []) args H K:=by
 refine AApply.clo (by simpa using ACall.cutArgs n hG hl hv h)
def OwnG (lo:Nat)(H:AHeap)(e:TypeId)(v:AVal)(cs:List AVal):Prop :=
 (v=.lit (.slice none 0 0)/\cs=[])\/∃ id g,lo<=id/\id<H.next/\v=.own id g 0 cs.length 1/\H.get id=some (.arr g e cs)
theorem OwnG.nil {lo:Nat}{e:TypeId}:OwnG lo H e (.lit (.slice none 0 0)) []:=.inl ⟨rfl,rfl⟩
theorem OwnG.keep {lo lo':Nat}{e:TypeId}{v:AVal}{cs:List AVal}(h:OwnG lo H e v cs)(hl:lo'<=lo)(hn:H.next<=H'.next)(hk:∀ id g,lo<=id->id<H.next->H.get id=some (.arr g e cs)->v=.own id g 0 cs.length 1->H'.get id=H.get id):OwnG lo' H' e v cs:=by
 rcases h with h|⟨id,g,h1,h2,h3,h4⟩
 ·exact .inl h
 ·exact .inr ⟨id,g,by omega,by omega,h3,by rw[hk id g h1 h2 h4 h3];exact h4⟩
theorem OwnG.over {lo:Nat}{e:TypeId}{v:AVal}{cs:List AVal}(h:OwnG lo H e v cs)(ho:Over H H'):OwnG lo H' e v cs:=h.keep (Nat.le_refl _) ho.next fun id _ _ h2 _ _=>ho.old id h2
theorem OwnG.one {lo:Nat}{e:TypeId}{v:AVal}{cs:List AVal}(h:OwnG lo H e v cs):v.one=true:=by
 rcases h with ⟨rfl,_⟩|⟨_,_,_,_,rfl,_⟩<;>rfl
theorem OwnG.cells {lo:Nat}{e:TypeId}{v:AVal}{cs:List AVal}(h:OwnG lo H e v cs):v.cells=[v]:=by
 rcases h with ⟨rfl,_⟩|⟨_,_,_,_,rfl,_⟩<;>rfl
theorem OwnG.fz {S:Nat->Prop}{lo nx:Nat}{e:TypeId}{v:AVal}{cs cs':List AVal}(h:OwnG lo H e v cs)(hS:∀ i,lo<=i->S i)(hl:cs'.length=cs.length)
  (hc:∀ i (h:i<cs.length) (h':i<cs'.length),Fz S H nx cs[i] cs'[i]):Fz S H nx v (.vec cs'.length cs'):=by
 rcases h with ⟨rfl,rfl⟩|⟨id,g,h1,_,rfl,h4⟩
 ·obtain rfl:=List.eq_nil_of_length_eq_zero hl
  exact .nil
 ·rw[hl]
  refine .frz (hS id h1) h4 (by omega) fun j hj h2 h'=>?_
  simp only[Nat.zero_add]at h2 ⊢
  exact hc j h2 h'
theorem OwnG.fzI {S:Nat->Prop}{lo nx:Nat}{e:TypeId}{v:AVal}{l:List Int}(h:OwnG lo H e v (ints l))(hS:∀ i,lo<=i->S i):Fz S H nx v (vecI l):=by
 have:=h.fz (S:=S) (nx:=nx) (cs':=ints l) hS rfl fun i hi _=>by simp only[ints,List.getElem_map];exact .lit _
 rw[ints_length]at this
 exact this
theorem OwnG.new {e:TypeId}{cs:List AVal}:OwnG H.next (ext H [.arr 0 e cs]) e (.own H.next 0 0 cs.length 1) cs :=
 .inr ⟨H.next,0,Nat.le_refl _,by simp [ext_next],rfl,by simpa using get_ext H [.arr 0 e cs] 0 (by simp)⟩
theorem ext1_get_old {b:Blk}{id:Nat}(h:id<H.next):(ext H [b]).get id=H.get id:=get_ext_old H [b] id h
theorem ext1_get_new {b:Blk}:(ext H [b]).get H.next=some b:=by simpa using get_ext H [b] 0 (by simp)
theorem lay_at {n:Nat}{b:Blk}(h:n=H.next):H.lay n b=some (ext H [b]):=by subst h;exact lay_next H b
theorem app_vecG {t e:TypeId}{lo n:Nat}{v:AVal}{cs src:List AVal}{z:List AVal}(ht:P.underlying t=some (.slice e))(hz:P.cellsOf e=1)(hzero:zeroA P e=some z)(hx:src.all AVal.one=true)
  (hb:(cs.length+src.length)*P.bytesOf e<=2 ^ 46/\cs.length+src.length<=2 ^ 46) (ho:OwnG lo H e v cs) (hlo:lo<=H.next) (hn:n=H.next):
  ∃ v' H',appendA P H n t t v (.vec src.length src)=some (v',H')/\OwnG lo H' e v' (cs++src)/\H.next<=H'.next/\(∀ k,k<H.next->(∀ g n,v≠.own k g 0 n 1)->H'.get k=H.get k):=by
 have hsrc:sourceA H 1 (.vec src.length src)=some (src.length,src):=by
  unfold sourceA;simp
 by_cases h0:src.length=0
 ·have e0:src=[]:=List.eq_nil_of_length_eq_zero h0
  subst e0
  refine⟨v,H,?_,?_,Nat.le_refl _,fun _ _ _=>rfl⟩
  ·rcases ho with ⟨rfl,rfl⟩|⟨i,g,h1,h2,rfl,h4⟩
   ·unfold appendA;rw[ht]
    simp only[hzero,hz,Option.bind_some]
    rw[hsrc]
    rfl
   ·unfold appendA;rw[ht]
    have hl:=get_live h4
    simp only[hzero,hz,Option.bind_some,hsrc,hl]
    rw[if_pos ⟨trivial,trivial,by omega,hb.1,hb.2,rfl⟩]
    simp
  ·rw[List.append_nil]
   exact ho
 rcases ho with ⟨rfl,rfl⟩|⟨i,g,h1,h2,rfl,h4⟩
 ·refine⟨.own H.next 0 0 src.length 1,ext H [.arr 0 e src],?_,.inr ⟨H.next,0,hlo,by simp [ext_next],by simp,by simpa using ext1_get_new⟩,by simp [ext_next],fun k hk _=>ext1_get_old hk⟩
  unfold appendA;rw[ht]
  simp only[hzero,hz,Option.bind_some,hsrc]
  rw[if_neg h0,if_pos (by simpa using hb),lay_at hn,hn]
  rfl
 ·refine⟨.own i (g+1) 0 (cs.length+src.length) 1,H.upd i (.arr (g+1) e (cs++src)),?_,.inr ⟨i,g+1,h1,h2,by simp,by rw[upd_get,if_pos rfl]⟩,Nat.le_refl _,fun k hk hne=>?_⟩
  ·unfold appendA;rw[ht]
   have hl:=get_live h4
   simp only[hzero,hz,Option.bind_some,hsrc,hl]
   rw[if_pos ⟨trivial,trivial,by omega,hb.1,hb.2,hx⟩,if_neg h0]
   simp
  ·rw[upd_get,if_neg]
   rintro rfl;exact hne _ _ rfl
theorem app_oneG {t e:TypeId}{lo n:Nat}{v x:AVal}{cs:List AVal}{z:List AVal}(ht:P.underlying t=some (.slice e))(hz:P.cellsOf e=1)(hzero:zeroA P e=some z)(hx:x.one=true)
  (hb:(cs.length+1)*P.bytesOf e<=2 ^ 46/\cs.length+1<=2 ^ 46) (ho:OwnG lo H e v cs) (hlo:lo<=H.next) (hn:n=H.next+1):
  ∃ v' H',appendA P (ext H [.arr 0 e [x]]) n t t v (.own H.next 0 0 1 1)=some (v',H')/\OwnG lo H' e v' (cs++[x])/\H.next<=H'.next/\(∀ k,k<H.next->(∀ g n,v≠.own k g 0 n 1)->H'.get k=H.get k):=by
 have hsrc:sourceA (ext H [.arr 0 e [x]]) 1 (.own H.next 0 0 1 1)=some (1,[x]):=by
  unfold sourceA
  have:=get_live (H:=ext H [.arr 0 e [x]]) (g:=0) (ext1_get_new (b:=.arr 0 e [x]))
  simp [this]
 have hne:(ext H [Blk.arr 0 e [x]]).next=H.next+1:=rfl
 rcases ho with ⟨rfl,rfl⟩|⟨i,g,h1,h2,rfl,h4⟩
 ·refine⟨.own (H.next+1) 0 0 1 1,ext (ext H [.arr 0 e [x]]) [.arr 0 e [x]],?_,.inr ⟨H.next+1,0,by omega,by simp [ext_next],by simp,?_⟩,by simp [ext_next];omega,fun k hk _=>?_⟩
  ·unfold appendA;rw[ht]
   simp only[hzero,hz,Option.bind_some,hsrc]
   rw[if_neg (by decide),if_pos (by simpa using hb),lay_at (by rw[hn,hne]),hn]
   rfl
  ·rw[<- hne];exact ext1_get_new
  ·rw[ext1_get_old (by rw[hne];omega),ext1_get_old hk]
 ·have h4':(ext H [.arr 0 e [x]]).get i=some (.arr g e cs):=by rw[ext1_get_old h2];exact h4
  refine⟨.own i (g+1) 0 (cs.length+1) 1,(ext H [.arr 0 e [x]]).upd i (.arr (g+1) e (cs++[x])),?_,.inr ⟨i,g+1,h1,by rw[upd_next,hne];omega,by simp,by rw[upd_get,if_pos rfl]⟩,by rw[upd_next,hne];omega,fun k hk hne=>?_⟩
  ·unfold appendA;rw[ht]
   have hl:=get_live h4'
   simp only[hzero,hz,Option.bind_some,hsrc,hl]
   rw[if_pos ⟨trivial,trivial,by omega,hb.1,hb.2,by simp [hx]⟩]
   simp
  ·rw[upd_get,if_neg,ext1_get_old hk]
   rintro rfl;exact hne _ _ rfl
def OwnG2 (lo:Nat)(H:AHeap)(e1 e0:TypeId)(v:AVal)(rows:List (List AVal)):Prop :=
 ∃ cs:List AVal,OwnG lo H e1 v cs/\cs.length=rows.length/\∀ (j:Nat) (r:List AVal) (c:AVal),rows[j]?=some r->cs[j]?=some c->OwnG lo H e0 c r
theorem OwnG2.nil {lo:Nat}{e1 e0:TypeId}:OwnG2 lo H e1 e0 (.lit (.slice none 0 0)) []:=⟨[],.nil,rfl,fun j r c h=>by simp at h⟩
theorem OwnG2.over {lo:Nat}{e1 e0:TypeId}{v:AVal}{rows:List (List AVal)}(h:OwnG2 lo H e1 e0 v rows)(ho:Over H H'):OwnG2 lo H' e1 e0 v rows:=by
 obtain⟨cs,c1,c2,c3⟩:=h
 exact⟨cs,c1.over ho,c2,fun j r c hr hc=>(c3 j r c hr hc).over ho⟩
theorem OwnG2.fz {S:Nat->Prop}{lo nx:Nat}{e1 e0:TypeId}{v:AVal}{rows rows':List (List AVal)}(h:OwnG2 lo H e1 e0 v rows)(hS:∀ i,lo<=i->S i)(hl:rows'.length=rows.length)
  (hr:∀ (j:Nat) (r r':List AVal),rows[j]?=some r->rows'[j]?=some r'->r'.length=r.length/\∀ i (h:i<r.length) (h':i<r'.length),Fz S H nx r[i] r'[i]):
  Fz S H nx v (.vec rows'.length (rows'.map fun r=>.vec r.length r)):=by
 obtain⟨cs,h1,h2,h3⟩:=h
 have:=h1.fz (S:=S) (nx:=nx) (cs':=rows'.map fun r=>.vec r.length r) hS (by simp [h2,hl]) fun i hi hi'=>by
  simp only[List.getElem_map]
  have hi2:i<rows.length:=by omega
  have hi3:i<rows'.length:=by omega
  obtain⟨a1,a2⟩:=hr i rows[i] rows'[i] (List.getElem?_eq_getElem hi2) (List.getElem?_eq_getElem hi3)
  exact(h3 i rows[i] cs[i] (List.getElem?_eq_getElem hi2) (List.getElem?_eq_getElem hi)).fz (S:=S) (nx:=nx) (cs':=rows'[i]) hS a1 a2
 rw[List.length_map]at this
 exact this
theorem OwnG.otherE {lo lo':Nat}{e e':TypeId}{v u:AVal}{cs cs':List AVal}(hv:OwnG lo H e v cs)(hu:OwnG lo' H e' u cs')(hne:e≠e')(hn:H.next<=H'.next)
  (hp:∀ k,k<H.next->(∀ g n,v≠.own k g 0 n 1)->H'.get k=H.get k):OwnG lo' H' e' u cs':=by
 refine hu.keep (Nat.le_refl _) hn fun i g h1 h2 h3 _=>hp i h2 fun g' n he=>?_
 rcases hv with ⟨rfl,_⟩|⟨j,g2,_,_,rfl,h4⟩
 ·cases he
 ·have:=AVal.own.inj he
  obtain rfl:j=i:=this.1
  rw[h3]at h4
  cases h4
  exact hne rfl
theorem OwnG2.app {lo n:Nat}{e1 e0:TypeId}{v x:AVal}{rows:List (List AVal)}{r:List AVal}{t:TypeId}{z:List AVal}(ht:P.underlying t=some (.slice e1))(hz:P.cellsOf e1=1)(hzero:zeroA P e1=some z)(hby:P.bytesOf e1=24)(hne:e1≠e0)
  (hb:rows.length<2 ^ 40) (h:OwnG2 lo H e1 e0 v rows) (hlo:lo<=H.next) (hx:OwnG lo H e0 x r) (hn:n=H.next+1):
  ∃ v' H',appendA P (ext H [.arr 0 e1 [x]]) n t t v (.own H.next 0 0 1 1)=some (v',H')/\OwnG2 lo H' e1 e0 v' (rows++[r])/\H.next<=H'.next/\(∀ k,k<H.next->k<lo->H'.get k=H.get k):=by
 obtain⟨cs,h1,h2,h3⟩:=h
 obtain⟨v',H',hA,hO,hL,hp⟩:=app_oneG (t:=t) ht hz hzero hx.one (by rw[hby,h2];omega) h1 hlo hn
 refine⟨v',H',hA,⟨cs++[x],hO,by simp [h2],fun j r' c hr hc=>?_⟩,hL,fun k hk hkl=>hp k hk fun g n he=>?_⟩
 ·have key:∀ u l,OwnG lo H e0 u l->OwnG lo H' e0 u l:=fun u l hu=>h1.otherE hu hne hL hp
  rcases Nat.lt_or_ge j rows.length with hj|hj
  ·rw[List.getElem?_append_left hj]at hr
   rw[List.getElem?_append_left (by omega)]at hc
   exact key _ _ (h3 j r' c hr hc)
  ·rw[List.getElem?_append_right hj]at hr
   rw[List.getElem?_append_right (by omega)]at hc
   have hj0:j - rows.length=0:=by
    rcases Nat.eq_zero_or_pos (j - rows.length) with h|h
    ·exact h
    ·rw[List.getElem?_eq_none (by simp;omega)]at hr;cases hr
   have hj1:j - cs.length=0:=by omega
   rw[hj0]at hr
   rw[hj1]at hc
   cases hr
   cases hc
   exact key _ _ hx
 ·rcases h1 with ⟨rfl,_⟩|⟨i,g2,a1,_,rfl,_⟩
  ·cases he
  ·have:=AVal.own.inj he;omega
attribute [go_sem] Int.reduceToNat Int.reduceLE Int.reduceLT Int.reduceAdd Int.reduceSub Int.reduceMul Int.reduceEq Int.reduceNe Nat.reduceEqDiff Nat.reducePow Nat.reduceDiv Nat.reduceMod Nat.reduceAdd Nat.reduceMul Nat.reduceSub Nat.reduceLT Nat.reduceLeDiff reduceIte reduceCtorEq
end Go.Hx
