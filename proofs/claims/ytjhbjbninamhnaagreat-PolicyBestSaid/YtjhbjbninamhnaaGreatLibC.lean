/-
  What an argument, or a listed variable, is as an abstract value: it is read off what can be read of it. Own work: no program stands in this text.
-/
import Derived.Test.YtjhbjbninamhnaaGreatLibB
import Derived.MakeChecks
import Derived.OpenShut
set_option linter.all false
namespace Go.Hx
open Go.ChangeShapes Go.WideShapes Go.RowKit
variable {P:Program} {W:World} {H:Type} {enc:TypeId × Value->H} {spare:Nat->Bool} {held:Bool}
def iI (P:Program)(W:World)(as:List AVal)(cs:List Value):Prop:=cs.length=as.length/\∀ i (h:i<as.length) (h':i<cs.length),RelV P kj dw W as[i] cs[i]
def fF (enc:TypeId × Value->H)(P:Program)(W:World)(spare:Nat->Bool)(held:Bool)(t:TypeId)(φ:DataW H->List AVal->Prop):Prop :=
 ∀ fuel cs x,DataW.trod enc P W 0 spare held fuel t cs=some x->∃ as,iI P W as cs/\φ x.1 as
theorem iI.nil:iI P W [] []:=⟨rfl,fun i h _=>absurd h (Nat.not_lt_zero _)⟩
theorem iI.one {a:AVal}{c:Value}(h:RelV P kj dw W a c):iI P W [a] [c]:=⟨rfl,fun i hi _=>by
 match i,hi with
 | 0,_=>exact h⟩
theorem iI.append {as bs:List AVal}{cs ds:List Value}(h1:iI P W as cs)(h2:iI P W bs ds):iI P W (as++bs) (cs++ds):=by
 refine⟨by simp [h1.1,h2.1],fun i h h'=>?_⟩;by_cases hi:i<as.length
 ·rw[List.getElem_append_left hi,List.getElem_append_left (by rw[h1.1];exact hi)];exact h1.2 i hi _
 ·have e:=h1.1;rw[List.getElem_append_right (by omega),List.getElem_append_right (by omega)];have:=h2.2 (i - as.length) (by simp at h;omega) (by rw[h2.1];simp at h;omega);simpa [e] using this
theorem FK {t:TypeId}(ht:P.underlying t=some .bool):fF enc P W spare held t fun d as=>∃ b,d=.lit (.bool b)/\as=[.lit (.bool b)]:=by
 intro fuel cs x h;cases fuel with
 | zero=>simp [DataW.trod]at h
 | succ n =>
  unfold DataW.trod at h;rw[ht]at h;split at h
  ·cases h;exact⟨_,.one (.lit _),_,rfl,rfl⟩
  all_goals simp_all
theorem pY {t:TypeId}{k:IntKind}(ht:P.underlying t=some (.int k)):fF enc P W spare held t fun d as=>∃ n,d=.lit (.int k n)/\as=[.lit (.int k n)]/\(Lit.int k n).wf=true:=by
 intro fuel cs x h;cases fuel with
 | zero=>simp [DataW.trod]at h
 | succ n =>
  unfold DataW.trod at h;rw[ht]at h;split at h<;>simp_all
  rename_i k' n' _ _;obtain⟨⟨rfl,hw⟩,rfl⟩:=h;exact⟨_,.one (.lit _),_,rfl,rfl,hw⟩
theorem wY:∀ {rows:List (List AVal)} {css:List (List Value)},css.length=rows.length->(∀ i (h:i<rows.length) (h':i<css.length),iI P W rows[i] css[i])->iI P W rows.flatten css.flatten:=by
 intro rows
 induction rows with
 | nil=>intro css h _;obtain rfl:=List.eq_nil_of_length_eq_zero h;exact .nil
 | cons r rows ih =>
  intro css h h'
  match css,h with
  | c :: css,h =>
   simp only[List.flatten_cons];exact(h' 0 (by simp) (by simp)).append (ih (by simpa using h) fun i hi hi'=>h' (i+1) (by simpa using hi) (by simpa using hi'))
theorem wZ {α:Type}{Q:Nat->α->Prop}:∀ n,(∀ i,i<n->∃ a,Q i a)->∃ l:List α,l.length=n/\∀ i (h:i<l.length),Q i l[i]:=by
 intro n
 induction n with
 | zero=>intro _;exact⟨[],rfl,fun i h=>absurd h (Nat.not_lt_zero _)⟩
 | succ n ih =>
  intro h;obtain⟨l,hl,hq⟩:=ih fun i hi=>h i (by omega);obtain⟨a,ha⟩:=h n (by omega);refine⟨l++[a],by simp [hl],fun i hi=>?_⟩;by_cases hi':i<l.length
  ·rw[List.getElem_append_left hi'];exact hq i hi'
  ·have:i=l.length:=(by simp at hi;omega);subst this;simp only[List.getElem_concat_length];rw[hl];exact ha
theorem FL {α:Type}{z:Nat}:∀ {rows:List (List α)},(∀ i (h:i<rows.length),rows[i].length=z)->rows.flatten.length=rows.length*z:=by
 intro rows
 induction rows with
 | nil=>intro _;simp
 | cons r rows ih =>
  intro h;have h0:=h 0 (by simp);have:=ih fun i hi=>h (i+1) (by simpa using hi);simp only[List.getElem_cons_zero]at h0;simp only[List.flatten_cons,List.length_append,List.length_cons,this,h0,Nat.succ_mul];omega
theorem FM {α:Type}{z:Nat}:∀ {rows:List (List α)},(∀ i (h:i<rows.length),rows[i].length=z)->∀ i j (hi:i<rows.length) (hj:j<z),rows.flatten[i*z+j]?=(rows[i])[j]?:=by
 intro rows
 induction rows with
 | nil=>intro _ i j hi;exact absurd hi (Nat.not_lt_zero _)
 | cons r rows ih =>
  intro h i j hi hj;have h0:=h 0 (by simp);simp only[List.getElem_cons_zero]at h0;cases i with
  | zero=>simp only[List.flatten_cons,List.getElem_cons_zero,Nat.zero_mul,Nat.zero_add];rw[List.getElem?_append_left (by omega)]
  | succ i =>
   simp only[List.flatten_cons,List.getElem_cons_succ];rw[List.getElem?_append_right (by rw[h0,Nat.succ_mul];omega),<- ih (fun i hi=>h (i+1) (by simpa using hi)) i j (by simpa using hi) hj];congr 1;rw[h0,Nat.succ_mul];omega
def xa (φ:DataW H->List AVal->Prop)(ds:List (DataW H))(rows:List (List AVal)):Prop:=ds.length=rows.length/\∀ i (h:i<rows.length) (h':i<ds.length),φ ds[i] rows[i]
theorem Aq {t e:TypeId}{φ:DataW H->List AVal->Prop}(ht:P.underlying t=some (.slice e))(hz:0<P.cellsOf e)(he:fF enc P W spare held e φ):
  fF enc P W spare held t fun d as=>(d=.nil/\as=[.vec 0 []])\/∃ ds rest rows,d=.slice ds rest/\as=[.vec rows.length rows.flatten]/\xa φ ds rows/\(∀ i (h:i<rows.length),rows[i].length=P.cellsOf e)/\rows.length<=maxLen:=by
 intro fuel cs x h;rcases DataW.trod_slice ht h with ⟨rfl,rfl⟩|⟨a,len,cap,elems,rest,n,rfl,rfl,rfl,_,hl,hm,hlen,hel,_,_⟩
 ·exact⟨_,.one (.vec0 _ _),.inl ⟨rfl,rfl⟩⟩
 have hrow:∀ i,i<len->∃ p:List Value × List AVal,W.cells? 0 (a.add (i*P.cellsOf e)) (P.cellsOf e)=some p.1/\iI P W p.2 p.1/\∃ x,elems[i]?=some x/\φ x.1 p.2:=by
  intro i hi;have:=hel i hi;rw[List.getElem?_eq_getElem (by omega),Option.bind_eq_some_iff]at this;obtain⟨cs,hc,hx⟩:=this;obtain⟨as,ha,hφ⟩:=he _ _ _ hx;exact⟨(cs,as),hc,ha,_,List.getElem?_eq_getElem (by omega),hφ⟩
 obtain⟨l,hll,hQ⟩:=wZ len hrow;have hzr:∀ i (h:i<(l.map Prod.snd).length),(l.map Prod.snd)[i].length=P.cellsOf e:=by
  intro i h;simp only[List.length_map]at h;simp only[List.getElem_map];obtain⟨hc,hr,_⟩:=hQ i h;rw[<- hr.1];exact(World.cells?_some hc).2.1
 have hzc:∀ i (h:i<(l.map Prod.fst).length),(l.map Prod.fst)[i].length=P.cellsOf e:=by
  intro i h;simp only[List.length_map]at h;simp only[List.getElem_map];exact(World.cells?_some (hQ i h).1).2.1
 refine⟨[.vec (l.map Prod.snd).length (l.map Prod.snd).flatten],.one ?_,.inr ⟨_,_,l.map Prod.snd,rfl,rfl,⟨by simp [hll,hlen],fun i h h'=>?_⟩,hzr,by simp only[List.length_map];omega⟩⟩
 ·rcases Nat.eq_zero_or_pos len with h0|h0
  ·subst h0;obtain rfl:=List.eq_nil_of_length_eq_zero hll;exact .vec0 _ _
  have hrc:iI P W (l.map Prod.snd).flatten (l.map Prod.fst).flatten:=wY (by simp) fun i h h'=>by
   simp only[List.length_map]at h;simp only[List.getElem_map];exact(hQ i h).2.1
  have hla:(l.map Prod.snd).length=len:=by simp [hll]
  have hsp:∀ i,i<len->∀ j,j<P.cellsOf e->∃ v,W.cell? ((a.add (i*P.cellsOf e)).add j)=some v/\(l.map Prod.fst).flatten[i*P.cellsOf e+j]?=some v:=by
   intro i hi j hj;obtain⟨hc,_⟩:=hQ i (by omega);obtain⟨_,hcl,hcell⟩:=World.cells?_some hc;refine⟨(l[i]'(by omega)).1[j]'(by omega),?_,?_⟩
   ·rw[hcell j hj,List.getElem?_eq_getElem]
   ·rw[FM hzc i j (by simp;omega) hj];simp only[List.getElem_map];rw[List.getElem?_eq_getElem]
  have hspot:a.spot=none:=by
   obtain⟨v,hv,_⟩:=hsp 0 h0 0 hz;unfold World.cell? at hv;split at hv
   ·split at hv
    ·cases hv
    ·rename_i hs;simpa [Addr.add] using hs
   ·cases hv
  obtain⟨b,off,spot⟩:=a;simp only at hspot;subst hspot;have hadd:∀ (b off n:Nat),(⟨b,off,none⟩:Addr).add n=⟨b,off+n,none⟩:=by
   intro b off n;unfold Addr.add;by_cases hn:n=0
   ·subst hn;simp
   ·simp [hn]
  have hlt:b<W.heap.size:=by
   obtain⟨v,hv,_⟩:=hsp 0 h0 0 hz;rw[hadd,hadd]at hv;unfold World.cell? at hv;rcases Nat.lt_or_ge b W.heap.size with h|h
   ·exact h
   ·rw[Array.getElem?_eq_none h]at hv;cases hv
  rw[hla];refine .vec (zC b) hlt hl hrc.1 (fun i hi=>?_) fun i h h'=>hrc.2 i h h';have hlc:=FL hzc;simp only[List.length_map,hll]at hlc;have hi':i<len*P.cellsOf e:=by omega
  obtain⟨v,hv,hg⟩:=hsp (i / P.cellsOf e) (Nat.div_lt_of_lt_mul (by rw[Nat.mul_comm];exact hi')) (i % P.cellsOf e) (Nat.mod_lt _ hz);have hdm:i / P.cellsOf e*P.cellsOf e+i % P.cellsOf e=i:=by rw[Nat.mul_comm];exact Nat.div_add_mod _ _
  rw[hdm]at hg;rw[List.getElem?_eq_getElem hi]at hg;rw[Option.some.inj hg,<- hv,hadd,hadd];congr 2;omega
 ·simp only[List.length_map]at h h';obtain⟨_,_,y,hy,hφ⟩:=hQ i h;simp only[List.getElem_map];rw[List.getElem?_eq_getElem h']at hy;rw[Option.some.inj hy];exact hφ
theorem FN {α:Type}{z:Nat}:∀ {n:Nat} {cs:List α},cs.length=n*z->((List.range n).map fun i=>(cs.drop (i*z)).take z).flatten=cs:=by
 intro n
 induction n with
 | zero=>intro cs h;simp at h;subst h;rfl
 | succ n ih =>
  intro cs h;have h1:(cs.take (n*z)).length=n*z:=by rw[List.length_take,h,Nat.succ_mul];omega
  have:=ih h1;rw[List.range_succ,List.map_append,List.flatten_append];have e:((List.range n).map fun i=>(cs.drop (i*z)).take z)=(List.range n).map fun i=>((cs.take (n*z)).drop (i*z)).take z:=by
   refine List.map_congr_left fun i hi=>?_;have hi':=List.mem_range.1 hi;rw[List.drop_take,List.take_take];congr 1;have:i*z+z<=n*z:=(by rw[<- Nat.succ_mul];exact Nat.mul_le_mul_right _ hi');omega
  rw[e,this];simp only[List.map_cons,List.map_nil,List.flatten_cons,List.flatten_nil,List.append_nil];rw[List.take_of_length_le (l:=cs.drop (n*z)) (by simp [h,Nat.succ_mul])];exact List.take_append_drop _ _
theorem FO {t e:TypeId}{n:Nat}{φ:DataW H->List AVal->Prop}(ht:P.underlying t=some (.array n e))(hz:P.cellsOf t=n*P.cellsOf e)(he:fF enc P W spare held e φ):
  fF enc P W spare held t fun d as=>∃ ds rows,d=.agg ds/\as=rows.flatten/\xa φ ds rows/\rows.length=n/\∀ i (h:i<rows.length),rows[i].length=P.cellsOf e:=by
 intro fuel cs x h;obtain⟨xs,m,rfl,rfl,hcl,hxl,hel⟩:=DataW.trod_array ht h;have hrow:∀ i,i<n->∃ as:List AVal,iI P W as ((cs.drop (i*P.cellsOf e)).take (P.cellsOf e))/\∃ x,xs[i]?=some x/\φ x.1 as:=by
  intro i hi;have:=hel i hi;rw[List.getElem?_eq_getElem (by omega)]at this;obtain⟨as,ha,hφ⟩:=he _ _ _ this;exact⟨as,ha,_,List.getElem?_eq_getElem (by omega),hφ⟩
 obtain⟨l,hll,hQ⟩:=wZ n hrow;refine⟨l.flatten,?_,_,l,rfl,rfl,⟨by simp [hxl,hll],fun i h h'=>?_⟩,hll,fun i h=>?_⟩
 ·rw[<- FN (n:=n) (hcl.trans hz)];refine wY (by simp [hll]) fun i h h'=>?_;simp only[List.getElem_map,List.getElem_range];exact(hQ i h).1
 ·obtain⟨_,y,hy,hφ⟩:=hQ i h;simp only[List.length_map]at h';simp only[List.getElem_map];rw[List.getElem?_eq_getElem h']at hy;rw[Option.some.inj hy];exact hφ
 ·obtain⟨hr,_⟩:=hQ i h;rw[<- hr.1,List.length_take,List.length_drop,hcl,hz];have:i*P.cellsOf e+P.cellsOf e<=n*P.cellsOf e:=by rw[<- Nat.succ_mul];exact Nat.mul_le_mul_right _ (by omega)
  omega
theorem tK {t:TypeId}{fs:Array Field}{φ:Nat->DataW H->List AVal->Prop}(ht:P.underlying t=some (.struct fs))
  (hlay:∀ cs:List Value,cs.length=P.cellsOf t->(fs.toList.map fun f=>(cs.drop f.offset).take (P.cellsOf f.type)).flatten=cs)
  (he:∀ i (h:i<fs.size),fF enc P W spare held fs[i].type (φ i)):
  fF enc P W spare held t fun d as=>∃ (ds:List (DataW H)) (rows:List (List AVal)),d=.agg ds/\as=rows.flatten/\ds.length=fs.size/\rows.length=fs.size/\∀ i (h:i<rows.length) (h':i<ds.length),φ i ds[i] rows[i]:=by
 intro fuel cs x h;obtain⟨xs,m,rfl,rfl,hcl,hxl,hel⟩:=DataW.trod_struct ht h;have hrow:∀ i,i<fs.size->∃ as:List AVal,(∀ h:i<fs.size,iI P W as ((cs.drop fs[i].offset).take (P.cellsOf fs[i].type)))/\∃ x,xs[i]?=some x/\φ i x.1 as:=by
  intro i hi;have:=hel i fs[i] (Array.getElem?_eq_getElem hi);rw[List.getElem?_eq_getElem (by omega)]at this;obtain⟨as,ha,hφ⟩:=he i hi _ _ _ this;exact⟨as,fun _=>ha,_,List.getElem?_eq_getElem (by omega),hφ⟩
 obtain⟨l,hll,hQ⟩:=wZ fs.size hrow;refine⟨l.flatten,?_,_,l,rfl,rfl,by simp [hxl],hll,fun i h h'=>?_⟩
 ·rw[<- hlay cs hcl];refine wY (by simp [hll]) fun i h h'=>?_;simp only[List.getElem_map,Array.getElem_toList];exact(hQ i h).1 (by omega)
 ·obtain⟨_,y,hy,hφ⟩:=hQ i h;simp only[List.length_map]at h';simp only[List.getElem_map];rw[List.getElem?_eq_getElem h']at hy;rw[Option.some.inj hy];exact hφ
end Go.Hx
namespace Go.Hx
variable {P:Program} {G:Nat->Option (List AVal)} {H:AHeap}
theorem Kr:(1=0)=False:=by simp
theorem Ks (l:List AVal)(i:Nat):nj (.tup l) i=l[i]?:=rfl
theorem Kt (cells:List AVal)(off:Nat):kW H (.vptr cells off)=some (.vptr cells off):=rfl
theorem Ku (id gen off:Nat):kW H (.ptr id gen off)=(H.live id gen).map fun _=>.ptr id gen off:=by
 simp only[kW]
theorem Kv (t:TypeId)(f:Nat)(id gen off:Nat):tV P H t f (.ptr id gen off)=(bK P t f).bind fun of=>(H.live id gen).map fun _=>.ptr id gen (off+of.1):=rfl
theorem Kw (t:TypeId)(f:Nat)(cells:List AVal)(off:Nat):tV P H t f (.vptr cells off)=(bK P t f).bind fun of=>some (.vptr cells (off+of.1)):=rfl
def dp (H:AHeap)(L:List Blk)(e:TypeId)(lo hi:Nat)(v:AVal)(cs:List AVal):Prop :=
 (v=.lit (.slice none 0 0)/\cs=[])\/∃ i g,lo<=i/\i<hi/\v=.own (H.next+i) g 0 cs.length 1/\L[i]?=some (.arr g e cs)
theorem dp.nil {L:List Blk}{e:TypeId}{lo hi:Nat}:dp H L e lo hi (.lit (.slice none 0 0)) []:=.inl ⟨rfl,rfl⟩
theorem dp.keep {L L':List Blk}{e:TypeId}{lo hi lo' hi':Nat}{v:AVal}{cs:List AVal}(h:dp H L e lo hi v cs)(hl:lo'<=lo)(hh:hi<=hi')(hk:∀ i g,lo<=i->i<hi->L[i]?=some (.arr g e cs)->L'[i]?=L[i]?):
  dp H L' e lo' hi' v cs:=by
 rcases h with h|⟨i,g,h1,h2,h3,h4⟩
 ·exact .inl h
 ·exact .inr ⟨i,g,by omega,by omega,h3,by rw[hk i g h1 h2 h4];exact h4⟩
theorem AQ {L:List Blk}{i g:Nat}{e:TypeId}{cs:List AVal}(h:L[i]?=some (.arr g e cs)):(ext H L).live (H.next+i) g=some (e,cs):=by
 have hi:i<L.length:=by
  rcases Nat.lt_or_ge i L.length with h'|h'
  ·exact h'
  ·rw[List.getElem?_eq_none h']at h;cases h
 rw[xk H L i g hi,h];simp [rN]
theorem Kx {L:List Blk}{t e:TypeId}{lo hi:Nat}{v x:AVal}{cs:List AVal}{z:List AVal}(ht:P.underlying t=some (.slice e))(hz:P.cellsOf e=1)(hzero:bZ P e=some z)(hx:x.one=true)
  (hb:(cs.length+1)*P.bytesOf e<=2 ^ 46/\cs.length+1<=2 ^ 46) (ho:dp H L e lo hi v cs) (hlo:lo<=L.length) (hhi:hi<=L.length):
  ∃ v' L',bO P (ext H (L++[.arr 0 e [x]])) (H.next+(L.length+1)) t t v (.own (H.next+L.length) 0 0 1 1)=some (v',ext H L')/\dp H L' e lo L'.length v' (cs++[x])/\L.length<=L'.length /\
   (∀ k,k<L.length->(∀ g n,v≠.own (H.next+k) g 0 n 1)->L'[k]?=L[k]?):=by
 have hsrc:cZ (ext H (L++[.arr 0 e [x]])) 1 (.own (H.next+L.length) 0 0 1 1)=some (1,[x]):=by
  unfold cZ;have:=AQ (H:=H) (L:=L++[Blk.arr 0 e [x]]) (i:=L.length) (g:=0) (e:=e) (cs:=[x]) (by simp);simp [this]
 rcases ho with ⟨rfl,rfl⟩|⟨i,g,h1,h2,rfl,h4⟩
 ·refine⟨.own (H.next+(L.length+1)) 0 0 1 1,L++[.arr 0 e [x]]++[.arr 0 e [x]],?_,.inr ⟨L.length+1,0,by omega,by simp,by simp,by simp⟩,by simp,fun k hk _=>?_⟩
  ·unfold bO;rw[ht];simp only[hzero,hz,Option.bind_some,hsrc,Kr,if_false];have h1:1*P.bytesOf e<=2 ^ 46/\1<=2 ^ 46:=(by simpa using hb);rw[if_pos h1,AC H _ (L.length+1) _ (by simp)];rfl
  ·rw[List.append_assoc,List.getElem?_append_left hk]
 ·have hi':i<L.length:=by omega
  refine⟨.own (H.next+i) (g+1) 0 (cs.length+1) 1,(L++[Blk.arr 0 e [x]]).set i (Blk.arr (g+1) e (cs++[x])),?_,.inr ⟨i,g+1,h1,by simp;omega,by simp,?_⟩,by simp,fun k hk hne=>?_⟩
  ·unfold bO;rw[ht];simp only[hzero,hz,Option.bind_some,hsrc];have hl:=AQ (H:=H) (L:=L++[Blk.arr 0 e [x]]) (i:=i) (g:=g) (e:=e) (cs:=cs) (by rw[List.getElem?_append_left hi'];exact h4);simp only[hl,Option.bind_some];rw[if_pos ⟨trivial,trivial,by omega,hb.1,hb.2,by simp [hx]⟩];rw[xj H _ i _ (by simp;omega)];simp
  ·rw[List.getElem?_set_self (by simp;omega)]
  ·have:i≠k:=(by rintro rfl;exact hne _ _ rfl);rw[List.getElem?_set_ne this,List.getElem?_append_left hk]
theorem dp.fz {S:Nat->Prop}{L:List Blk}{e:TypeId}{lo hi:Nat}{v:AVal}{cs cs':List AVal}{nx:Nat}(h:dp H L e lo hi v cs)(hS:∀ i,S (H.next+i))(hl:cs'.length=cs.length)
  (hc:∀ i (h:i<cs.length) (h':i<cs'.length),Fz S (ext H L) nx cs[i] cs'[i]):Fz S (ext H L) nx v (.vec cs'.length cs'):=by
 rcases h with ⟨rfl,rfl⟩|⟨i,g,_,_,rfl,h4⟩
 ·obtain rfl:=List.eq_nil_of_length_eq_zero hl;exact .nil
 ·rw[hl];have hi:i<L.length:=by
   rcases Nat.lt_or_ge i L.length with h'|h'
   ·exact h'
   ·rw[List.getElem?_eq_none h']at h4;cases h4
  refine .frz (hS i) (by rw[aZ H L i hi];exact h4) (by omega) fun j hj h2 h'=>?_;simp only[Nat.zero_add]at h2 ⊢;exact hc j h2 h'
end Go.Hx
namespace Go.Hx
variable {P:Program} {G:Nat->Option (List AVal)} {H:AHeap}
def xE (P:Program)(s d:TypeId)(x:Bool)(y:Option TypeDesc)(v:AVal):Option AVal :=
 if x=true then (match y,v with
  | some (.int k'),.lit (.int _ a)=>some (.lit (.int k' (k'.wrap a)))
  | _,_=>kU P s d v) else kU P s d v
theorem Ky (s d:TypeId)(v:AVal):kU P s d v=xE P s d (P.underlying s).isSome (P.underlying d) v:=by
 unfold xE;split
 ·rename_i hs;split
  ·rename_i k' k a hd;exact HY hs hd
  ·rfl
 ·rfl
theorem Kz (s d:TypeId)(k k':IntKind)(a:Int):xE P s d true (some (.int k')) (.lit (.int k a))=some (.lit (.int k' (k'.wrap a))):=rfl
def AR (P:Program)(d:Option TypeDesc)(cells:List AVal)(i:Int):Option AVal:=match d with
 | some (.array n e)=>if 0<=i/\i<(n:Int) then iG P e cells (i.toNat*P.cellsOf e) else none
 | _=>none
theorem KA (t:TypeId)(cells:List AVal)(k:IntKind)(i:Int):ou P t (.agg cells) (.lit (.int k i))=AR P (P.underlying t) cells i:=rfl
theorem KB (n:Nat)(e:TypeId)(cells:List AVal)(i:Int):AR P (some (.array n e)) cells i=if 0<=i/\i<(n:Int) then iG P e cells (i.toNat*P.cellsOf e) else none:=rfl
theorem KC {k:IntKind}{a:Int}:pN P .neg (.lit (.int k a))=some (.lit (.int k (k.wrap (0 - a)))):=HU rfl
theorem ag {id g:Nat}{e:TypeId}{c:List AVal}(h:H.get id=some (.arr g e c)):H.live id g=some (e,c):=by
 unfold AHeap.live;rw[h];simp
theorem aG (a:Nat)(x:Blk):(H.upd a x).next=H.next:=rfl
theorem eT {L:List Blk}{id g:Nat}(h:id<H.next):(ext H L).live id g=H.live id g:=by
 unfold AHeap.live;rw[dD H L id h]
def lj (H:AHeap)(L:List Blk)(e1 e0:TypeId)(v:AVal)(rows:List (List AVal)):Prop :=
 ∃ cs:List AVal,dp H L e1 0 L.length v cs/\cs.length=rows.length/\∀ (j:Nat) (r:List AVal) (c:AVal),rows[j]?=some r->cs[j]?=some c->dp H L e0 0 L.length c r
theorem lj.nil {L:List Blk}{e1 e0:TypeId}:lj H L e1 e0 (.lit (.slice none 0 0)) []:=⟨[],.nil,rfl,fun j r c h=>by simp at h⟩
theorem dp.lt {L:List Blk}{e:TypeId}{lo hi i g n z:Nat}{cs:List AVal}(h:dp H L e lo hi (.own (H.next+i) g 0 n z) cs):i<L.length/\L[i]?=some (.arr g e cs)/\n=cs.length/\z=1:=by
 rcases h with ⟨h,_⟩|⟨j,g2,_,_,h3,h4⟩
 ·cases h
 ·have:=AVal.own.inj h3;obtain rfl:i=j:=by omega
  obtain⟨_,rfl,_,rfl,rfl⟩:=this;refine⟨?_,h4,rfl,rfl⟩;rcases Nat.lt_or_ge i L.length with h|h
  ·exact h
  ·rw[List.getElem?_eq_none h]at h4;cases h4
theorem dp.rW {L L':List Blk}{e e':TypeId}{lo hi lo' hi':Nat}{v u:AVal}{cs cs':List AVal}(hv:dp H L e lo hi v cs)(hu:dp H L e' lo' hi' u cs')(hne:e≠e')(hh:hi'<=L.length)
  (hp:∀ k,k<L.length->(∀ g n,v≠.own (H.next+k) g 0 n 1)->L'[k]?=L[k]?):dp H L' e' lo' hi' u cs':=by
 refine hu.keep (Nat.le_refl _) (Nat.le_refl _) fun i g h1 h2 h3=>hp i (by omega) fun g' n he=>?_;rcases hv with ⟨rfl,_⟩|⟨j,g2,_,_,rfl,h4⟩
 ·cases he
 ·have hj:j=i:=by
   have:=AVal.own.inj he;omega
  subst hj;rw[h3]at h4;cases h4;exact hne rfl
theorem dp.nk {L:List Blk}{e:TypeId}{lo hi:Nat}{v:AVal}{cs:List AVal}(hv:dp H L e lo hi v cs):v.one=true:=by
 rcases hv with ⟨rfl,_⟩|⟨_,_,_,_,rfl,_⟩<;>rfl
theorem dp.fS {L:List Blk}{e:TypeId}{lo hi:Nat}{v:AVal}{cs:List AVal}(hv:dp H L e lo hi v cs):v.cells=[v]:=by
 rcases hv with ⟨rfl,_⟩|⟨_,_,_,_,rfl,_⟩<;>rfl
theorem dp.other {L L':List Blk}{e e':TypeId}{lo hi lo' hi':Nat}{v u:AVal}{cs cs':List AVal}(hv:dp H L e lo hi v cs)(hu:dp H L e' lo' hi' u cs')(hne:e≠e')(hh:hi'<=L.length)
  (hp:∀ k,k<L.length->(∀ g n,v≠.own (H.next+k) g 0 n 1)->L'[k]?=L[k]?):dp H L' e' lo' hi' u cs':=hv.rW hu hne hh hp
theorem dp.one {L:List Blk}{e:TypeId}{lo hi:Nat}{v:AVal}{cs:List AVal}(hv:dp H L e lo hi v cs):v.one=true:=hv.nk
theorem dp.cells {L:List Blk}{e:TypeId}{lo hi:Nat}{v:AVal}{cs:List AVal}(hv:dp H L e lo hi v cs):v.cells=[v]:=hv.fS
theorem lj.keep {L L':List Blk}{e1 e0:TypeId}{v:AVal}{rows:List (List AVal)}(h:lj H L e1 e0 v rows)(hl:L.length<=L'.length)(hk:∀ i,i<L.length->L'[i]?=L[i]?):lj H L' e1 e0 v rows:=by
 obtain⟨cs,c1,c2,c3⟩:=h;exact⟨cs,c1.keep (Nat.le_refl _) hl fun i _ _ hi _=>hk i hi,c2,fun j r c hr hc=>(c3 j r c hr hc).keep (Nat.le_refl _) hl fun i _ _ hi _=>hk i hi⟩
theorem lj.fz {S:Nat->Prop}{L:List Blk}{e1 e0:TypeId}{v:AVal}{rows rows':List (List AVal)}{nx:Nat}(h:lj H L e1 e0 v rows)(hS:∀ i,S (H.next+i))(hl:rows'.length=rows.length)
  (hr:∀ (j:Nat) (r r':List AVal),rows[j]?=some r->rows'[j]?=some r'->r'.length=r.length/\∀ i (h:i<r.length) (h':i<r'.length),Fz S (ext H L) nx r[i] r'[i]):
  Fz S (ext H L) nx v (.vec rows'.length (rows'.map fun r=>.vec r.length r)):=by
 obtain⟨cs,h1,h2,h3⟩:=h;have:=h1.fz (S:=S) (nx:=nx) (cs':=rows'.map fun r=>.vec r.length r) hS (by simp [h2,hl]) fun i hi hi'=>by
  simp only[List.getElem_map];have hi2:i<rows.length:=by omega
  have hi3:i<rows'.length:=by omega
  obtain⟨a1,a2⟩:=hr i rows[i] rows'[i] (List.getElem?_eq_getElem hi2) (List.getElem?_eq_getElem hi3);exact(h3 i rows[i] cs[i] (List.getElem?_eq_getElem hi2) (List.getElem?_eq_getElem hi)).fz (S:=S) (nx:=nx) (cs':=rows'[i]) hS a1 a2
 rw[List.length_map]at this;exact this
theorem lj.app {L:List Blk}{e1 e0:TypeId}{v x:AVal}{rows:List (List AVal)}{r:List AVal}{t:TypeId}{z:List AVal}(ht:P.underlying t=some (.slice e1))(hz:P.cellsOf e1=1)(hzero:bZ P e1=some z)(hby:P.bytesOf e1=24)(hne:e1≠e0)
  (hb:rows.length<2 ^ 40) (h:lj H L e1 e0 v rows) (hx:dp H L e0 0 L.length x r):
  ∃ v' L',bO P (ext H (L++[.arr 0 e1 [x]])) (H.next+(L.length+1)) t t v (.own (H.next+L.length) 0 0 1 1)=some (v',ext H L')/\lj H L' e1 e0 v' (rows++[r])/\L.length<=L'.length:=by
 obtain⟨cs,h1,h2,h3⟩:=h;obtain⟨v',L',hA,hO,hL,hp⟩:=Kx (t:=t) ht hz hzero hx.nk (by rw[hby,h2];omega) h1 (Nat.zero_le _) (Nat.le_refl _);refine⟨v',L',hA,⟨cs++[x],hO,by simp [h2],fun j r' c hr hc=>?_⟩,hL⟩;have key:∀ u l,dp H L e0 0 L.length u l->dp H L' e0 0 L'.length u l:=fun u l hu=>(h1.rW hu hne (Nat.le_refl _) hp).keep (Nat.le_refl _) hL fun _ _ _ _ _=>rfl;rcases Nat.lt_or_ge j rows.length with hj|hj
 ·rw[List.getElem?_append_left hj]at hr;rw[List.getElem?_append_left (by omega)]at hc;exact key _ _ (h3 j r' c hr hc)
 ·rw[List.getElem?_append_right hj]at hr;rw[List.getElem?_append_right (by omega)]at hc;have hj0:j - rows.length=0:=by
   rcases Nat.eq_zero_or_pos (j - rows.length) with h|h
   ·exact h
   ·rw[List.getElem?_eq_none (by simp;omega)]at hr;cases hr
  have hj1:j - cs.length=0:=by omega
  rw[hj0]at hr;rw[hj1]at hc;cases hr;cases hc;exact key _ _ hx
theorem dH (H:AHeap)(L L':List Blk):ext (ext H L) L'=ext H (L++L'):=by
 unfold ext;simp only[List.length_append];congr 1
 ·funext j
  by_cases h1:H.next+L.length<=j/\j<H.next+L.length+L'.length
  ·rw[if_pos h1,if_pos (by omega),List.getElem?_append_right (by omega)];congr 1;omega
  ·rw[if_neg h1];by_cases h2:H.next<=j/\j<H.next+L.length
   ·rw[if_pos h2,if_pos (by omega),List.getElem?_append_left (by omega)]
   ·rw[if_neg h2,if_neg (by omega)]
 ·omega
structure Over (H H2:AHeap):Prop where
 next:H.next<=H2.next
 old:∀ id,id<H.next->H2.get id=H.get id
theorem Over.refl (H:AHeap):Over H H:=⟨Nat.le_refl _,fun _ _=>rfl⟩
theorem Over.trans {H H2 H3:AHeap}(a:Over H H2)(b:Over H2 H3):Over H H3 :=
 ⟨Nat.le_trans a.next b.next,fun id h=>(b.old id (Nat.lt_of_lt_of_le h a.next)).trans (a.old id h)⟩
theorem Over.ext (H:AHeap)(L:List Blk):Over H (ext H L):=⟨by simp [aY],fun id h=>dD H L id h⟩
def jd (H:AHeap)(n:Nat):AHeap:=⟨fun j=>if j<H.next then H.get j else none,H.next+n⟩
theorem rX (H:AHeap)(n:Nat):(jd H n).next=H.next+n:=rfl
theorem xF {H:AHeap}{n id:Nat}(h:id<H.next):(jd H n).get id=H.get id:=by simp [jd,h]
theorem Over.jd (H:AHeap)(n:Nat):Over H (jd H n):=⟨by simp [rX],fun id h=>xF h⟩
theorem KD {H H2:AHeap}(hc:Clo H)(ho:Over H H2):FzH (fun id=>H.next<=id) H2 H where
 gone id hs:=by
  cases h:H.get id with
  | none=>rfl
  | some b=>have:=hc.lt id b h;omega
 kept id b hs hb:=by
  have hlt:id<H.next:=Nat.lt_of_not_le hs;rw[ho.old id hlt]at hb;have hbb:=hc.below id b hb;refine⟨hlt,b,hb,?_⟩;have hno:∀ i,i<H.next->¬ H.next<=i:=fun i h=>Nat.not_le_of_lt h;cases b with
  | rsv=>trivial
  | mp=>rfl
  | arr g e cells=>exact⟨rfl,rfl,rfl,fun i h _=>.refl (hbb i h) hno⟩
  | loop st pend n env ps asg body=>exact⟨rfl,rfl,rfl,rfl,rfl,rfl,rfl,fun t ht=>.refl (hbb t ht) hno⟩
 none id hs hb:=by
  rw[ho.old id (Nat.lt_of_not_le hs)]at hb;exact hb
theorem ar.bB {H2:AHeap}(hG:fu G)(hc:Clo H)(ho:Over H H2){K:ARes->AHeap->Prop}{v v':AVal}(hv:Fz (fun id=>H.next<=id) H2 H.next v v')(hk:K (.ret v') H):ar P G H K v H2 :=
 ⟨v',H,.freeze hG (KD hc ho) hv,Nat.le_refl _,hk⟩
theorem Fz.old {H H2:AHeap}{nx:Nat}{v:AVal}(h:Below H.next v)(hn:H.next<=nx):Fz (fun id=>H.next<=id) H2 nx v v:=by
 induction h with
 | lit v=>exact .lit v
 | vec _ ih=>exact .vec rfl fun i h _=>ih i h
 | vptr _ ih=>exact .vptr rfl fun i h _=>ih i h
 | agg _ ih=>exact .agg rfl fun i h _=>ih i h
 | tup _ ih=>exact .tup rfl fun i h _=>ih i h
 | clo _ _ ih1 ih2=>exact .clo rfl rfl (fun i h _=>ih1 i h) fun i h _=>ih2 i h
 | own h=>exact .own (by omega) (by omega)
 | ptr h=>exact .ptr (by omega) (by omega)
 | yld h=>exact .yld (by omega) (by omega)
theorem KE {H H2:AHeap}(hc:Clo H)(ho:Over H H2):FzH (fun id=>H.next<=id) H2 (jd H (H2.next - H.next)) where
 gone id hs:=by simp [jd,Nat.not_lt.2 hs]
 kept id b hs hb:=by
  have hlt:id<H.next:=Nat.lt_of_not_le hs;rw[ho.old id hlt]at hb;have hbb:=hc.below id b hb;refine⟨by rw[rX];omega,b,by rw[xF hlt];exact hb,?_⟩;cases b with
  | rsv=>trivial
  | mp=>rfl
  | arr g e cells=>exact⟨rfl,rfl,rfl,fun i h _=>.old (hbb i h) (by rw[rX];omega)⟩
  | loop st pend n env ps asg body=>exact⟨rfl,rfl,rfl,rfl,rfl,rfl,rfl,fun t ht=>.old (hbb t ht) (by rw[rX];omega)⟩
 none id hs hb:=by
  have hlt:=Nat.lt_of_not_le hs;rw[ho.old id hlt]at hb;rw[xF hlt];exact hb
theorem W.KF {n:Nat}{rd:Option Nat}{Q:AX->St->Prop}{c:Code}{ρ ρ':Env}{H H2:AHeap}(hG:fu G)(hc:Clo H)(ho:Over H H2)(hv:∀ t,Fz (fun id=>H.next<=id) H2 H2.next (ρ t) (ρ' t))
  (hri:fm (jd H (H2.next - H.next)) rd) (h:W P G n rd c Q ⟨ρ',jd H (H2.next - H.next)⟩):W P G n rd c Q ⟨ρ,H2⟩:=by
 have hnx:(jd H (H2.next - H.next)).next=H2.next:=by rw[rX];have:=ho.next;omega
 refine W.Fw (s:=⟨ρ,H2⟩) (s':=⟨ρ',jd H (H2.next - H.next)⟩) (dM.freeze hG (KE hc ho) fun t=>?_) (Nat.le_of_eq hnx.symm) hri h;show Fz _ H2 (jd H (H2.next - H.next)).next _ _;rw[hnx];exact hv t
theorem Fz.put {S:Nat->Prop}{H:AHeap}{nx d:Nat}{ρ ρ':Env}{v v':AVal}(h:∀ t,Fz S H nx (ρ t) (ρ' t))(hv:Fz S H nx v v'):∀ t,Fz S H nx (aO ρ (some d) v t) (aO ρ' (some d) v' t):=by
 intro t;simp only[aO];split
 ·exact hv
 ·exact h t
theorem Fz.KG {S:Nat->Prop}{H:AHeap}{nx d:Nat}{ρ ρ':Env}{v v':AVal}(hv:Fz S H nx v v')(h:∀ t,Fz S H nx (ρ t) (ρ' t)):∀ t,Fz S H nx (aO ρ (some d) v t) (aO ρ' (some d) v' t):=.put h hv
theorem Fz.aA {S:Nat->Prop}{H:AHeap}{nx:Nat}(rows:List (List Int)):Fz S H nx (.vec rows.length (rows.map ah)) (.vec rows.length (rows.map ah)) :=
 .vec rfl fun i h _=>by simp only[List.getElem_map];exact .dG _
theorem Fz.env {S:Nat->Prop}{H:AHeap}{nx:Nat}{args args':List AVal}(hl:args'.length=args.length)(h:∀ i (h:i<args.length) (h':i<args'.length),Fz S H nx args[i] args'[i]):∀ t,Fz S H nx (jb args t) (jb args' t):=by
 intro t;rw[xi,xi];by_cases ht:t<args.length
 ·rw[List.getElem?_eq_getElem ht,List.getElem?_eq_getElem (by omega)];exact h t ht (by omega)
 ·rw[List.getElem?_eq_none (by omega),List.getElem?_eq_none (by omega)];exact .lit _
theorem Fz.KH {H H2:AHeap}{nx:Nat}{args:List AVal}(h:∀ v,v∈args->Below H.next v)(hn:H.next<=nx):∀ t,Fz (fun id=>H.next<=id) H2 nx (jb args t) (jb args t) :=
 .env rfl fun i hi _=>.old (h _ (List.getElem_mem _)) hn
end Go.Hx
namespace Go.Hx
open Go.ChangeShapes Go.WideShapes Go.RowKit
variable {P:Program} {W:World} {H:Type} {enc:TypeId × Value->H} {spare:Nat->Bool} {held:Bool}
theorem fF.mono {t:TypeId}{φ ψ:DataW H->List AVal->Prop}(h:fF enc P W spare held t φ)(hm:∀ d as,φ d as->ψ d as):fF enc P W spare held t ψ:=fun fuel cs x hx =>
 let ⟨as,h1,h2⟩:=h fuel cs x hx;⟨as,h1,hm _ _ h2⟩
def rL (k:IntKind)(l:List Int):List AVal:=l.map fun n=>.lit (.int k n)
theorem xc {α:Type}{φ:DataW H->List AVal->Prop}{f:α->List AVal}{q:α->Prop}(hφ:∀ d as,φ d as->∃ a,as=f a/\q a):∀ {rows:List (List AVal)} {ds:List (DataW H)},xa φ ds rows ->
  ∃ l:List α,rows=l.map f/\∀ a,a∈l->q a:=by
 intro rows
 induction rows with
 | nil=>intro ds _;exact⟨[],rfl,fun a h=>by cases h⟩
 | cons r rows ih =>
  intro ds h;obtain⟨h1,h2⟩:=h;cases ds with
  | nil=>simp at h1
  | cons d ds =>
   obtain⟨a,ha,hq⟩:=hφ _ _ (h2 0 (by simp) (by simp));obtain⟨l,hl,hq2⟩:=ih (ds:=ds) ⟨by simpa using h1,fun i hi hi'=>h2 (i+1) (by simpa using hi) (by simpa using hi')⟩;refine⟨a :: l,by simp only[List.map_cons,<- hl];simp only[List.getElem_cons_zero]at ha;rw[ha],fun b hb=>?_⟩;rcases List.mem_cons.1 hb with rfl|hb
   ·exact hq
   ·exact hq2 b hb
theorem Ar {α β:Type}(f:α->β)(l:List α):(l.map fun a=>[f a]).flatten=l.map f:=by
 induction l with
 | nil=>rfl
 | cons a l ih=>simp only[List.map_cons,List.flatten_cons,ih];rfl
theorem tL {t e:TypeId}{k:IntKind}(ht:P.underlying t=some (.slice e))(he:P.underlying e=some (.int k))(hc:P.cellsOf e=1):
  fF enc P W spare held t fun _ as=>∃ l:List Int,as=[.vec l.length (rL k l)]/\l.length<=maxLen/\∀ c,c∈l->(Lit.int k c).wf=true :=
 (Aq ht (by omega) (pY he)).mono fun d as h=>by
  rcases h with ⟨_,rfl⟩|⟨ds,rest,rows,_,rfl,hr,_,hl⟩
  ·exact⟨[],rfl,by decide,fun c h=>by cases h⟩
  ·obtain⟨l,rfl,hq⟩:=xc (f:=fun n=>[AVal.lit (.int k n)]) (q:=fun n=>(Lit.int k n).wf=true) (fun d as ⟨n,_,h2,h3⟩=>⟨n,h2,h3⟩) hr;refine⟨l,?_,by simpa using hl,hq⟩;rw[List.length_map];congr 2;exact Ar _ l
theorem As {r:Reach}{b:Nat}{t:TypeId}{v:Value}{d:DataW H}{ps:List MemPlace}{φ:DataW H->List AVal->Prop}(hop:fF enc P W spare held t φ)
  (ht:(∃ fs,P.underlying t=some (.struct fs))\/∃ n e,P.underlying t=some (.array n e)) (hval:Value.okWide P W r b t v) (hd:DataW.Trod enc P W 0 spare held t v d ps):
  ∃ as,RelV P kj dw W (.agg as) v/\φ d as:=by
 obtain⟨cs,rfl⟩:∃ cs,v=.agg cs:=by
  unfold Value.okWide at hval;rcases ht with ⟨fs,ht⟩|⟨n,e,ht⟩
  ·rw[ht]at hval;obtain⟨cs,h,_⟩:=hval;exact⟨cs,h⟩
  ·rw[ht]at hval;obtain⟨cs,h,_⟩:=hval;exact⟨cs,h⟩
 obtain⟨fuel,hf⟩:=hd;obtain⟨as,hr,hφ⟩:=hop _ _ _ hf;refine⟨as,?_,hφ⟩;have:=RelV.agg (P:=P) (Γ:=kj) (H:=dw) (w:=W) (cells:=as) (cs:=cs.toList) hr.1 hr.2;simpa using this
theorem wf_u8 {n:Int}(h:(Lit.int .u8 n).wf=true):0<=n/\n<=255:=by
 simpa [Lit.wf,IntKind.min,IntKind.max,IntKind.signed,IntKind.bits] using h
end Go.Hx
namespace Go.Hx
attribute [go_sem] List.replicate_one List.flatten_cons List.flatten_nil List.length_append List.append_nil Nat.sub_zero Bool.not_true Bool.not_false
attribute [go_sem] Bool.true_eq_false List.map_eq_nil_iff xq Int.le_refl decide_true decide_false eq_self List.getElem?_map
attribute [go_sem] Gg Gh Gi Gj Gk Gl Gm Gn
attribute [go_sem] Gp Gq Gr Gs Gu Gt Gv Gw
attribute [go_sem] Gx Gy Gz GA F6 F7 F8 F9
attribute [go_sem] Ga Gb Gc Gd Ge Gf noGoto_normal noGoto_exit
attribute [go_sem] noGoto_ret noGoto_panic nA tT xh ij Ay F2
attribute [go_sem] F3 GK GL Ih Ic Ie If Ig
attribute [go_sem] List.getElem?_toArray Option.bind_some Ii Ij Ik Il Im Io
attribute [go_sem] Ip Iq Ir Is It Iu Iv Iw
attribute [go_sem] Ix Iy Iz IA IB IC ID IE
attribute [go_sem] IF IG IH II IJ Jk qg Jl
attribute [go_sem] Jm Jn AN Jo Jp Jq Jr Js
attribute [go_sem] Jt Ju Jv Jw Jx Jy Jz List.set_cons_zero
attribute [go_sem] List.set_cons_succ JA JB JC JD JE JF JG
attribute [go_sem] JH JI JJ JK JL JM JN JO
attribute [go_sem] JP JQ JR JS JT JU JV
attribute [go_sem] rV xB JW JX JY JZ J0
attribute [go_sem] J1 J2 J3 J4 J5 J6 J7 J8
attribute [go_sem] J9 Ka Kc Kd Ke Kf Kg Kh
attribute [go_sem] Ki Kj Kk Kl Km Kn Ko Kp
attribute [go_sem] Kq d9 aR aa Int.toNat_natCast Int.natCast_nonneg ah List.all_cons
attribute [go_sem] List.all_nil Bool.and_true Nat.mul_one IK IL IM IN IP
attribute [go_sem] IQ IR IS IT IU IV IW
attribute [go_sem] IY IZ I1 I0
attribute [go_sem] I3 I4 I5 I6 List.take_succ_cons List.take_zero
attribute [go_sem] List.take_nil List.drop_succ_cons List.drop_zero List.drop_nil List.forall_mem_cons List.not_mem_nil List.mem_cons List.mem_singleton
attribute [go_sem] or_false false_or or_true true_or not_or false_implies implies_true forall_const
attribute [go_sem] GO GP GQ GR GS GT GU GV
attribute [go_sem] GW GX GY GZ G1 G2 G3 G4
attribute [go_sem] G5 G6 G7 G8 G9 Bool.false_eq_true Hd Hh
attribute [go_sem] Hi Hl Hn Ho Ht HE
attribute [go_sem] HH HI builtin_len builtin_append builtin_copy builtin_min builtin_max HJ
attribute [go_sem] HK HL HM HN HO HP HQ HR
attribute [go_sem] HS HT HV aY rM AB AC xk
attribute [go_sem] Ia xj Ib HZ List.map_cons List.map_nil if_true if_false
attribute [go_sem] ne_eq not_false_eq_true not_true_eq_false true_and and_true false_and and_false List.length_cons
attribute [go_sem] List.length_nil Nat.zero_add Nat.add_zero Option.isSome_some List.append_assoc List.cons_append List.nil_append Option.map_some
attribute [go_sem] Option.map_none fm xi List.getElem?_cons_zero List.getElem?_cons_succ List.getElem?_nil Option.getD_some Option.getD_none
attribute [go_sem] GB GC GE GF GG GH GI GJ
attribute [go_sem] Ks Kt Ku Int.natCast_zero Int.cast_ofNat_Int KA KB
attribute [go_sem] HW HX Ky Kz KC Kv Kw aU Nat.le_refl
end Go.Hx
namespace Go.Hx
variable {P:Program} {G:Nat->Option (List AVal)} {H H':AHeap}
def AHeap.cut (H:AHeap)(n:Nat):AHeap:=⟨fun j=>if j<n then H.get j else none,H.next⟩
theorem ui {n id:Nat}(h:id<n):(H.cut n).get id=H.get id:=by simp [AHeap.cut,h]
theorem KI {n id:Nat}(h:n<=id):(H.cut n).get id=none:=by simp [AHeap.cut,Nat.not_lt.2 h]
theorem Over.cut {B:AHeap}(h:Over B H):Over B (H.cut B.next):=⟨h.next,fun id hi=>(ui hi).trans (h.old id hi)⟩
open Classical in
theorem Fz.dead {S:Nat->Prop}{H:AHeap}{nx:Nat}{v:AVal}(h:Below nx v):Fz S H nx v v:=by
 induction h with
 | lit v=>exact .lit v
 | vec _ ih=>exact .vec rfl fun i h _=>ih i h
 | vptr _ ih=>exact .vptr rfl fun i h _=>ih i h
 | agg _ ih=>exact .agg rfl fun i h _=>ih i h
 | tup _ ih=>exact .tup rfl fun i h _=>ih i h
 | clo _ _ ih1 ih2=>exact .clo rfl rfl (fun i h _=>ih1 i h) fun i h _=>ih2 i h
 | @own id _ _ _ _ h=>by_cases hs:S id;exact .deadOwn h hs;exact .own h hs
 | @ptr id _ _ h=>by_cases hs:S id;exact .deadPtr h hs;exact .ptr h hs
 | @yld id h=>by_cases hs:S id;exact .deadYld h hs;exact .yld h hs
theorem AS (hc:Clo H)(n:Nat):FzH (fun id=>n<=id) H (H.cut n) where
 gone id hs:=KI hs
 kept id b hs hb:=by
  have hlt:id<n:=Nat.lt_of_not_le hs;have hbb:=hc.below id b hb;refine⟨hc.lt id b hb,b,by rw[ui hlt];exact hb,?_⟩;cases b with
  | rsv=>trivial
  | mp=>rfl
  | arr g e cells=>exact⟨rfl,rfl,rfl,fun i h _=>.dead (hbb i h)⟩
  | loop st pend n env ps asg body=>exact⟨rfl,rfl,rfl,rfl,rfl,rfl,rfl,fun t ht=>.dead (hbb t ht)⟩
 none id hs hb:=by rw[ui (Nat.lt_of_not_le hs)];exact hb
theorem ae.lu {f:FuncId}{args args':List AVal}{K:ARes->AHeap->Prop}(n:Nat)(hG:fu G)(hl:args'.length=args.length)(hv:∀ i (h:i<args.length) (h':i<args'.length),Fz (fun id=>n<=id) H H.next args[i] args'[i])
  (h:ae P G f args' (H.cut n) K):ae P G f args H K:=by
 refine⟨h.1,fun Γ w cargs R hr=>?_⟩;have F:=AS R.clo n;have R0:=F.rel hG R;have E0:Evo Γ H w (fR (fun id=>n<=id) Γ) (H.cut n) w:=F.bn;refine(h.2 _ w cargs R0 ⟨by have:=hr.1;omega,fun i h1 h2=>(hv i (by omega) h1).sound R F (hr.2 i (by omega) h2)⟩).mono ?_;rintro e w' ⟨r,H',Γ',h1,h2,h3,h4,h5⟩;exact⟨r,H',Γ',h1,h2,h3,E0.trans (Nat.le_refl _) h4,h5⟩
theorem ay.lu {f:FuncId}{args args':List AVal}{K:ARes->AHeap->Prop}(n:Nat)(hG:fu G)(hl:args'.length=args.length)(hv:∀ i (h:i<args.length) (h':i<args'.length),Fz (fun id=>n<=id) H H.next args[i] args'[i])
  (h:ae P G f args' (H.cut n) K):ay P G (.clo f [] []) args H K:=by
 refine ay.clo (by simpa using ae.lu n hG hl hv h)
def aD (lo:Nat)(H:AHeap)(e:TypeId)(v:AVal)(cs:List AVal):Prop :=
 (v=.lit (.slice none 0 0)/\cs=[])\/∃ id g,lo<=id/\id<H.next/\v=.own id g 0 cs.length 1/\H.get id=some (.arr g e cs)
theorem aD.nil {lo:Nat}{e:TypeId}:aD lo H e (.lit (.slice none 0 0)) []:=.inl ⟨rfl,rfl⟩
theorem aD.keep {lo lo':Nat}{e:TypeId}{v:AVal}{cs:List AVal}(h:aD lo H e v cs)(hl:lo'<=lo)(hn:H.next<=H'.next)(hk:∀ id g,lo<=id->id<H.next->H.get id=some (.arr g e cs)->v=.own id g 0 cs.length 1->H'.get id=H.get id):aD lo' H' e v cs:=by
 rcases h with h|⟨id,g,h1,h2,h3,h4⟩
 ·exact .inl h
 ·exact .inr ⟨id,g,by omega,by omega,h3,by rw[hk id g h1 h2 h4 h3];exact h4⟩
theorem aD.over {lo:Nat}{e:TypeId}{v:AVal}{cs:List AVal}(h:aD lo H e v cs)(ho:Over H H'):aD lo H' e v cs:=h.keep (Nat.le_refl _) ho.next fun id _ _ h2 _ _=>ho.old id h2
theorem aD.one {lo:Nat}{e:TypeId}{v:AVal}{cs:List AVal}(h:aD lo H e v cs):v.one=true:=by
 rcases h with ⟨rfl,_⟩|⟨_,_,_,_,rfl,_⟩<;>rfl
theorem aD.cells {lo:Nat}{e:TypeId}{v:AVal}{cs:List AVal}(h:aD lo H e v cs):v.cells=[v]:=by
 rcases h with ⟨rfl,_⟩|⟨_,_,_,_,rfl,_⟩<;>rfl
theorem aD.fz {S:Nat->Prop}{lo nx:Nat}{e:TypeId}{v:AVal}{cs cs':List AVal}(h:aD lo H e v cs)(hS:∀ i,lo<=i->S i)(hl:cs'.length=cs.length)
  (hc:∀ i (h:i<cs.length) (h':i<cs'.length),Fz S H nx cs[i] cs'[i]):Fz S H nx v (.vec cs'.length cs'):=by
 rcases h with ⟨rfl,rfl⟩|⟨id,g,h1,_,rfl,h4⟩
 ·obtain rfl:=List.eq_nil_of_length_eq_zero hl;exact .nil
 ·rw[hl];refine .frz (hS id h1) h4 (by omega) fun j hj h2 h'=>?_;simp only[Nat.zero_add]at h2 ⊢;exact hc j h2 h'
theorem aD.gE {S:Nat->Prop}{lo nx:Nat}{e:TypeId}{v:AVal}{l:List Int}(h:aD lo H e v (ints l))(hS:∀ i,lo<=i->S i):Fz S H nx v (ah l):=by
 have:=h.fz (S:=S) (nx:=nx) (cs':=ints l) hS rfl fun i hi _=>by simp only[ints,List.getElem_map];exact .lit _
 rw[aR]at this;exact this
theorem aD.new {e:TypeId}{cs:List AVal}:aD H.next (ext H [.arr 0 e cs]) e (.own H.next 0 0 cs.length 1) cs :=
 .inr ⟨H.next,0,Nat.le_refl _,by simp [aY],rfl,by simpa using aZ H [.arr 0 e cs] 0 (by simp)⟩
theorem bE {b:Blk}{id:Nat}(h:id<H.next):(ext H [b]).get id=H.get id:=dD H [b] id h
theorem bL {b:Blk}:(ext H [b]).get H.next=some b:=by simpa using aZ H [b] 0 (by simp)
theorem uj {n:Nat}{b:Blk}(h:n=H.next):H.lay n b=some (ext H [b]):=by subst h;exact rM H b
theorem rY {t e:TypeId}{lo n:Nat}{v:AVal}{cs src:List AVal}{z:List AVal}(ht:P.underlying t=some (.slice e))(hz:P.cellsOf e=1)(hzero:bZ P e=some z)(hx:src.all AVal.one=true)
  (hb:(cs.length+src.length)*P.bytesOf e<=2 ^ 46/\cs.length+src.length<=2 ^ 46) (ho:aD lo H e v cs) (hlo:lo<=H.next) (hn:n=H.next):
  ∃ v' H',bO P H n t t v (.vec src.length src)=some (v',H')/\aD lo H' e v' (cs++src)/\H.next<=H'.next/\(∀ k,k<H.next->(∀ g n,v≠.own k g 0 n 1)->H'.get k=H.get k):=by
 have hsrc:cZ H 1 (.vec src.length src)=some (src.length,src):=by
  unfold cZ;simp
 by_cases h0:src.length=0
 ·have e0:src=[]:=List.eq_nil_of_length_eq_zero h0;subst e0;refine⟨v,H,?_,?_,Nat.le_refl _,fun _ _ _=>rfl⟩
  ·rcases ho with ⟨rfl,rfl⟩|⟨i,g,h1,h2,rfl,h4⟩
   ·unfold bO;rw[ht];simp only[hzero,hz,Option.bind_some];rw[hsrc];rfl
   ·unfold bO;rw[ht];have hl:=ag h4;simp only[hzero,hz,Option.bind_some,hsrc,hl];rw[if_pos ⟨trivial,trivial,by omega,hb.1,hb.2,rfl⟩];simp
  ·rw[List.append_nil];exact ho
 rcases ho with ⟨rfl,rfl⟩|⟨i,g,h1,h2,rfl,h4⟩
 ·refine⟨.own H.next 0 0 src.length 1,ext H [.arr 0 e src],?_,.inr ⟨H.next,0,hlo,by simp [aY],by simp,by simpa using bL⟩,by simp [aY],fun k hk _=>bE hk⟩;unfold bO;rw[ht];simp only[hzero,hz,Option.bind_some,hsrc];rw[if_neg h0,if_pos (by simpa using hb),uj hn,hn];rfl
 ·refine⟨.own i (g+1) 0 (cs.length+src.length) 1,H.upd i (.arr (g+1) e (cs++src)),?_,.inr ⟨i,g+1,h1,h2,by simp,by rw[aj,if_pos rfl]⟩,Nat.le_refl _,fun k hk hne=>?_⟩
  ·unfold bO;rw[ht];have hl:=ag h4;simp only[hzero,hz,Option.bind_some,hsrc,hl];rw[if_pos ⟨trivial,trivial,by omega,hb.1,hb.2,hx⟩,if_neg h0];simp
  ·rw[aj,if_neg];rintro rfl;exact hne _ _ rfl
theorem iK {t e:TypeId}{lo n:Nat}{v x:AVal}{cs:List AVal}{z:List AVal}(ht:P.underlying t=some (.slice e))(hz:P.cellsOf e=1)(hzero:bZ P e=some z)(hx:x.one=true)
  (hb:(cs.length+1)*P.bytesOf e<=2 ^ 46/\cs.length+1<=2 ^ 46) (ho:aD lo H e v cs) (hlo:lo<=H.next) (hn:n=H.next+1):
  ∃ v' H',bO P (ext H [.arr 0 e [x]]) n t t v (.own H.next 0 0 1 1)=some (v',H')/\aD lo H' e v' (cs++[x])/\H.next<=H'.next/\(∀ k,k<H.next->(∀ g n,v≠.own k g 0 n 1)->H'.get k=H.get k):=by
 have hsrc:cZ (ext H [.arr 0 e [x]]) 1 (.own H.next 0 0 1 1)=some (1,[x]):=by
  unfold cZ;have:=ag (H:=ext H [.arr 0 e [x]]) (g:=0) (bL (b:=.arr 0 e [x]));simp [this]
 have hne:(ext H [Blk.arr 0 e [x]]).next=H.next+1:=rfl;rcases ho with ⟨rfl,rfl⟩|⟨i,g,h1,h2,rfl,h4⟩
 ·refine⟨.own (H.next+1) 0 0 1 1,ext (ext H [.arr 0 e [x]]) [.arr 0 e [x]],?_,.inr ⟨H.next+1,0,by omega,by simp [aY],by simp,?_⟩,by simp [aY];omega,fun k hk _=>?_⟩
  ·unfold bO;rw[ht];simp only[hzero,hz,Option.bind_some,hsrc];rw[if_neg (by decide),if_pos (by simpa using hb),uj (by rw[hn,hne]),hn];rfl
  ·rw[<- hne];exact bL
  ·rw[bE (by rw[hne];omega),bE hk]
 ·have h4':(ext H [.arr 0 e [x]]).get i=some (.arr g e cs):=by rw[bE h2];exact h4
  refine⟨.own i (g+1) 0 (cs.length+1) 1,(ext H [.arr 0 e [x]]).upd i (.arr (g+1) e (cs++[x])),?_,.inr ⟨i,g+1,h1,by rw[aG,hne];omega,by simp,by rw[aj,if_pos rfl]⟩,by rw[aG,hne];omega,fun k hk hne=>?_⟩
  ·unfold bO;rw[ht];have hl:=ag h4';simp only[hzero,hz,Option.bind_some,hsrc,hl];rw[if_pos ⟨trivial,trivial,by omega,hb.1,hb.2,by simp [hx]⟩];simp
  ·rw[aj,if_neg,bE hk];rintro rfl;exact hne _ _ rfl
def gF (lo:Nat)(H:AHeap)(e1 e0:TypeId)(v:AVal)(rows:List (List AVal)):Prop :=
 ∃ cs:List AVal,aD lo H e1 v cs/\cs.length=rows.length/\∀ (j:Nat) (r:List AVal) (c:AVal),rows[j]?=some r->cs[j]?=some c->aD lo H e0 c r
theorem gF.nil {lo:Nat}{e1 e0:TypeId}:gF lo H e1 e0 (.lit (.slice none 0 0)) []:=⟨[],.nil,rfl,fun j r c h=>by simp at h⟩
theorem gF.over {lo:Nat}{e1 e0:TypeId}{v:AVal}{rows:List (List AVal)}(h:gF lo H e1 e0 v rows)(ho:Over H H'):gF lo H' e1 e0 v rows:=by
 obtain⟨cs,c1,c2,c3⟩:=h;exact⟨cs,c1.over ho,c2,fun j r c hr hc=>(c3 j r c hr hc).over ho⟩
theorem gF.fz {S:Nat->Prop}{lo nx:Nat}{e1 e0:TypeId}{v:AVal}{rows rows':List (List AVal)}(h:gF lo H e1 e0 v rows)(hS:∀ i,lo<=i->S i)(hl:rows'.length=rows.length)
  (hr:∀ (j:Nat) (r r':List AVal),rows[j]?=some r->rows'[j]?=some r'->r'.length=r.length/\∀ i (h:i<r.length) (h':i<r'.length),Fz S H nx r[i] r'[i]):
  Fz S H nx v (.vec rows'.length (rows'.map fun r=>.vec r.length r)):=by
 obtain⟨cs,h1,h2,h3⟩:=h;have:=h1.fz (S:=S) (nx:=nx) (cs':=rows'.map fun r=>.vec r.length r) hS (by simp [h2,hl]) fun i hi hi'=>by
  simp only[List.getElem_map];have hi2:i<rows.length:=by omega
  have hi3:i<rows'.length:=by omega
  obtain⟨a1,a2⟩:=hr i rows[i] rows'[i] (List.getElem?_eq_getElem hi2) (List.getElem?_eq_getElem hi3);exact(h3 i rows[i] cs[i] (List.getElem?_eq_getElem hi2) (List.getElem?_eq_getElem hi)).fz (S:=S) (nx:=nx) (cs':=rows'[i]) hS a1 a2
 rw[List.length_map]at this;exact this
theorem aD.rW {lo lo':Nat}{e e':TypeId}{v u:AVal}{cs cs':List AVal}(hv:aD lo H e v cs)(hu:aD lo' H e' u cs')(hne:e≠e')(hn:H.next<=H'.next)
  (hp:∀ k,k<H.next->(∀ g n,v≠.own k g 0 n 1)->H'.get k=H.get k):aD lo' H' e' u cs':=by
 refine hu.keep (Nat.le_refl _) hn fun i g h1 h2 h3 _=>hp i h2 fun g' n he=>?_;rcases hv with ⟨rfl,_⟩|⟨j,g2,_,_,rfl,h4⟩
 ·cases he
 ·have:=AVal.own.inj he;obtain rfl:j=i:=this.1;rw[h3]at h4;cases h4;exact hne rfl
theorem gF.app {lo n:Nat}{e1 e0:TypeId}{v x:AVal}{rows:List (List AVal)}{r:List AVal}{t:TypeId}{z:List AVal}(ht:P.underlying t=some (.slice e1))(hz:P.cellsOf e1=1)(hzero:bZ P e1=some z)(hby:P.bytesOf e1=24)(hne:e1≠e0)
  (hb:rows.length<2 ^ 40) (h:gF lo H e1 e0 v rows) (hlo:lo<=H.next) (hx:aD lo H e0 x r) (hn:n=H.next+1):
  ∃ v' H',bO P (ext H [.arr 0 e1 [x]]) n t t v (.own H.next 0 0 1 1)=some (v',H')/\gF lo H' e1 e0 v' (rows++[r])/\H.next<=H'.next/\(∀ k,k<H.next->k<lo->H'.get k=H.get k):=by
 obtain⟨cs,h1,h2,h3⟩:=h;obtain⟨v',H',hA,hO,hL,hp⟩:=iK (t:=t) ht hz hzero hx.one (by rw[hby,h2];omega) h1 hlo hn;refine⟨v',H',hA,⟨cs++[x],hO,by simp [h2],fun j r' c hr hc=>?_⟩,hL,fun k hk hkl=>hp k hk fun g n he=>?_⟩
 ·have key:∀ u l,aD lo H e0 u l->aD lo H' e0 u l:=fun u l hu=>h1.rW hu hne hL hp;rcases Nat.lt_or_ge j rows.length with hj|hj
  ·rw[List.getElem?_append_left hj]at hr;rw[List.getElem?_append_left (by omega)]at hc;exact key _ _ (h3 j r' c hr hc)
  ·rw[List.getElem?_append_right hj]at hr;rw[List.getElem?_append_right (by omega)]at hc;have hj0:j - rows.length=0:=by
    rcases Nat.eq_zero_or_pos (j - rows.length) with h|h
    ·exact h
    ·rw[List.getElem?_eq_none (by simp;omega)]at hr;cases hr
   have hj1:j - cs.length=0:=(by omega);rw[hj0]at hr;rw[hj1]at hc;cases hr;cases hc;exact key _ _ hx
 ·rcases h1 with ⟨rfl,_⟩|⟨i,g2,a1,_,rfl,_⟩
  ·cases he
  ·have:=AVal.own.inj he;omega
attribute [go_sem] Int.reduceToNat Int.reduceLE Int.reduceLT Int.reduceAdd Int.reduceSub Int.reduceMul Int.reduceEq Int.reduceNe Nat.reduceEqDiff Nat.reducePow Nat.reduceDiv Nat.reduceMod Nat.reduceAdd Nat.reduceMul Nat.reduceSub Nat.reduceLT Nat.reduceLeDiff reduceIte reduceCtorEq
end Go.Hx
