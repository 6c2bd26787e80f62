/-
  What an argument, or a listed variable, is as an abstract value: it is read off what can be read of it. Own work: no program stands in this text.
-/
import Derived.Test.YtjhbjbninamhnaaGreatLibB
import Derived.MakeChecks
import Derived.OpenShut
set_option linter.all false
namespace Go.Hx
open Go.ChangeShapes Go.WideShapes Go.RowKit
variable {P:Program} {W:World} {H:Type} {enc:TypeId × Value->H} {spare:Nat->Bool} {held:Bool}
variable {z:Nat}{α:Type}{t:TypeId}
def jd (P:Program)(W:World)(as:List W9)(cs:List Value):Prop:=cs.length=as.length/\∀i (h:i<as.length) (h':i<cs.length),Xc P jR dp W as[i] cs[i]
def fJ (enc:TypeId × Value->H)(P:Program)(W:World)(spare:Nat->Bool)(held:Bool)(t:TypeId)(φ:DataW H->List W9->Prop):Prop :=
 ∀fuel cs x,DataW.trod enc P W 0 spare held fuel t cs=some x->∃as,jd P W as cs/\φ x.1 as
def jd.nil:jd P W [] []:=⟨rfl,fun i h _=>absurd h (Tb _)⟩
def jd.one {a:W9}{c:Value}(h:Xc P jR dp W a c):jd P W [a] [c]:=⟨rfl,fun i hi _=>by
 match i,hi with
 |0,_=>exact h⟩
def jd.append {as bs:List W9}{cs ds:List Value}(h1:jd P W as cs)(h2:jd P W bs ds):jd P W (as++bs) (cs++ds):=by
 refine⟨by simp[h1.1,h2.1],fun i h h'=>?_⟩;by_cases hi:i<as.length
 ·rw[TX hi,TX (by rw[h1.1];exact hi)];exact h1.2 i hi _
 ·have e:=h1.1;rw[T5 O,T5 O];have:=h2.2 (i-as.length) (by simp at h;omega) (by rw[h2.1];simp at h;omega);simpa[e] using this
def F7 (ht:P.underlying t=some .bool):fJ enc P W spare held t fun d as=>∃b,d=.lit (.bool b)/\as=[.lit (.bool b)]:=by
 intro fuel cs x h;cases fuel with
 |zero=>simp[DataW.trod]at h
 |succ n =>
  unfold DataW.trod at h;rw[ht]at h;split at h
  ·cases h;exact⟨_,.one (.lit _),_,rfl,rfl⟩
  all_goals simp_all
def nJ {k:IntKind}(ht:P.underlying t=some (.int k)):fJ enc P W spare held t fun d as=>∃n,d=.lit (.int k n)/\as=[.lit (.int k n)]/\(Lit.int k n).wf=true:=by
 intro fuel cs x h;cases fuel with
 |zero=>simp[DataW.trod]at h
 |succ n =>
  unfold DataW.trod at h;rw[ht]at h;split at h<;>simp_all
  rename_i k' n' _ _;obtain⟨⟨rfl,hw⟩,rfl⟩:=h;exact⟨_,.one (.lit _),_,rfl,rfl,hw⟩
def AO:∀ {nn:List (List W9)} {css:List (List Value)},css.length=nn.length->(∀i (h:i<nn.length) (h':i<css.length),jd P W nn[i] css[i])->jd P W nn.flatten css.flatten:=by
 intro nn
 induction nn with
 |nil=>intro css h _;obtain rfl:=S3 h;exact .nil
 |cons r nn ih =>
  intro css h h'
  match css,h with
  |c :: css,h =>
   simp only[List.flatten_cons];exact(h' 0 W5 W5).append (ih (by simpa using h) fun i hi hi'=>h' (i+1) (by simpa using hi) (by simpa using hi'))
def AP {Q:Nat->α->Prop}:∀n,(∀i,i<n->∃a,Q i a)->∃l:List α,l.length=n/\∀i (h:i<l.length),Q i l[i]:=by
 intro n
 induction n with
 |zero=>intro _;exact⟨[],rfl,fun i h=>absurd h (Tb _)⟩
 |succ n ih =>
  intro h;obtain⟨l,hl,hq⟩:=ih fun i hi=>h i O;obtain⟨a,ha⟩:=h n O;refine⟨l++[a],by simp[hl],fun i hi=>?_⟩;by_cases hi':i<l.length
  ·rw[TX hi'];exact hq i hi'
  ·have:i=l.length:=(by simp at hi;omega);subst this;simp only[List.getElem_concat_length];rw[hl];exact ha
def F8 :∀ {nn:List (List α)},(∀i (h:i<nn.length),nn[i].length=z)->nn.flatten.length=nn.length*z:=by
 intro nn
 induction nn with
 |nil=>intro _;simp
 |cons r nn ih =>
  intro h;have h0:=h 0 W5;have:=ih fun i hi=>h (i+1) (by simpa using hi);simp only[TE]at h0;simp only[List.flatten_cons,List.length_append,List.length_cons,this,h0,Wb];omega
def F9 :∀ {nn:List (List α)},(∀i (h:i<nn.length),nn[i].length=z)->∀i j (hi:i<nn.length) (hj:j<z),nn.flatten[i*z+j]?=(nn[i])[j]?:=by
 intro nn
 induction nn with
 |nil=>intro _ i j hi;exact absurd hi (Tb _)
 |cons r nn ih =>
  intro h i j hi hj;have h0:=h 0 W5;simp only[TE]at h0;cases i with
  |zero=>simp only[List.flatten_cons,TE,UR,Nat.zero_add];rw[Ta O]
  |succ i =>
   simp only[List.flatten_cons,UF];rw[Tu (by rw[h0,Wb];omega),<- ih (fun i hi=>h (i+1) (by simpa using hi)) i j (by simpa using hi) hj];congr 1;rw[h0,Wb];omega
def xA (φ:DataW H->List W9->Prop)(ds:List (DataW H))(nn:List (List W9)):Prop:=ds.length=nn.length/\∀i (h:i<nn.length) (h':i<ds.length),φ ds[i] nn[i]
def tU {e:TypeId}{φ:DataW H->List W9->Prop}(ht:P.underlying t=some (.slice e))(hz:0<P.cellsOf e)(he:fJ enc P W spare held e φ):
  fJ enc P W spare held t fun d as=>(d=.nil/\as=[.M 0 []])\/∃ds rest nn,d=.slice ds rest/\as=[.M nn.length nn.flatten]/\xA φ ds nn/\(∀i (h:i<nn.length),nn[i].length=P.cellsOf e)/\nn.length<=maxLen:=by
 intro fuel cs x h;rcases DataW.trod_slice ht h with ⟨rfl,rfl⟩|⟨a,len,cap,elems,rest,n,rfl,rfl,rfl,_,hl,hm,hlen,hel,_,_⟩
 ·exact⟨_,.one (.nq _ _),.inl ⟨rfl,rfl⟩⟩
 have hrow:∀i,i<len->∃p:List Value × List W9,W.cells? 0 (a.add (i*P.cellsOf e)) (P.cellsOf e)=some p.1/\jd P W p.2 p.1/\∃x,elems[i]?=some x/\φ x.1 p.2:=by
  intro i hi;have:=hel i hi;rw[SP O,SW]at this;obtain⟨cs,hc,hx⟩:=this;obtain⟨as,ha,hφ⟩:=he _ _ _ hx;exact⟨(cs,as),hc,ha,_,SP O,hφ⟩
 obtain⟨l,hll,hQ⟩:=AP len hrow;have hzr:∀i (h:i<(l.map Prod.snd).length),(l.map Prod.snd)[i].length=P.cellsOf e:=by
  intro i h;simp only[S8]at h;simp only[S9];obtain⟨hc,hr,_⟩:=hQ i h;rw[<- hr.1];exact(World.cells?_some hc).2.1
 have hzc:∀i (h:i<(l.map Prod.fst).length),(l.map Prod.fst)[i].length=P.cellsOf e:=by
  intro i h;simp only[S8]at h;simp only[S9];exact(World.cells?_some (hQ i h).1).2.1
 refine⟨[.M (l.map Prod.snd).length (l.map Prod.snd).flatten],.one ?_,.inr ⟨_,_,l.map Prod.snd,rfl,rfl,⟨by simp[hll,hlen],fun i h h'=>?_⟩,hzr,by simp only[S8];omega⟩⟩
 ·rcases T7 len with h0|h0
  ·subst h0;obtain rfl:=S3 hll;exact .nq _ _
  have hrc:jd P W (l.map Prod.snd).flatten (l.map Prod.fst).flatten:=AO W5 fun i h h'=>by
   simp only[S8]at h;simp only[S9];exact(hQ i h).2.1
  have hla:(l.map Prod.snd).length=len:=by simp[hll]
  have hsp:∀i,i<len->∀j,j<P.cellsOf e->∃v,W.cell? ((a.add (i*P.cellsOf e)).add j)=some v/\(l.map Prod.fst).flatten[i*P.cellsOf e+j]?=some v:=by
   intro i hi j hj;obtain⟨hc,_⟩:=hQ i O;obtain⟨_,hcl,hcell⟩:=World.cells?_some hc;refine⟨(l[i]' O).1[j]' O,?_,?_⟩
   ·rw[hcell j hj,SP]
   ·rw[F9 hzc i j (by simp;omega) hj];simp only[S9];rw[SP]
  have hspot:a.spot=none:=by
   obtain⟨v,hv,_⟩:=hsp 0 h0 0 hz;unfold World.cell? at hv;split at hv
   ·split at hv
    ·cases hv
    ·rename_i hs;simpa[Addr.add] using hs
   ·cases hv
  obtain⟨b,off,spot⟩:=a;simp only at hspot;subst hspot;have hadd:∀(b off n:Nat),(⟨b,off,none⟩:Addr).add n=⟨b,off+n,none⟩:=by
   intro b off n;unfold Addr.add;by_cases hn:n=0
   ·subst hn;simp
   ·simp[hn]
  have hlt:b<W.heap.size:=by
   obtain⟨v,hv,_⟩:=hsp 0 h0 0 hz;rw[hadd,hadd]at hv;unfold World.cell? at hv;rcases Tg b W.heap.size with h|h
   ·exact h
   ·rw[Ul h]at hv;cases hv
  rw[hla];refine .M (z9 b) hlt hl hrc.1 (fun i hi=>?_) fun i h h'=>hrc.2 i h h';have hlc:=F8 hzc;simp only[S8,hll]at hlc;have hi':i<len*P.cellsOf e:=O
  obtain⟨v,hv,hg⟩:=hsp (i / P.cellsOf e) (Uz (by rw[UB];exact hi')) (i % P.cellsOf e) (Va _ hz);have hdm:i / P.cellsOf e*P.cellsOf e+i % P.cellsOf e=i:=by rw[UB];exact Wl _ _
  rw[hdm]at hg;rw[SP hi]at hg;rw[Option.some.inj hg,<- hv,hadd,hadd];congr 2;omega
 ·simp only[S8]at h h';obtain⟨_,_,y,hy,hφ⟩:=hQ i h;simp only[S9];rw[SP h']at hy;rw[Option.some.inj hy];exact hφ
def tV {fs:Array Field}{φ:Nat->DataW H->List W9->Prop}(ht:P.underlying t=some (.struct fs))
  (hlay:∀cs:List Value,cs.length=P.cellsOf t->(fs.toList.map fun f=>(cs.drop f.offset).take (P.cellsOf f.type)).flatten=cs)
  (he:∀i (h:i<fs.size),fJ enc P W spare held fs[i].type (φ i)):
  fJ enc P W spare held t fun d as=>∃(ds:List (DataW H)) (nn:List (List W9)),d=.agg ds/\as=nn.flatten/\ds.length=fs.size/\nn.length=fs.size/\∀i (h:i<nn.length) (h':i<ds.length),φ i ds[i] nn[i]:=by
 intro fuel cs x h;obtain⟨xs,m,rfl,rfl,hcl,hxl,hel⟩:=DataW.trod_struct ht h;have hrow:∀i,i<fs.size->∃as:List W9,(∀h:i<fs.size,jd P W as ((cs.drop fs[i].offset).take (P.cellsOf fs[i].type)))/\∃x,xs[i]?=some x/\φ i x.1 as:=by
  intro i hi;have:=hel i fs[i] (S6 hi);rw[SP O]at this;obtain⟨as,ha,hφ⟩:=he i hi _ _ _ this;exact⟨as,fun _=>ha,_,SP O,hφ⟩
 obtain⟨l,hll,hQ⟩:=AP fs.size hrow;refine⟨l.flatten,?_,_,l,rfl,rfl,by simp[hxl],hll,fun i h h'=>?_⟩
 ·rw[<- hlay cs hcl];refine AO (by simp[hll]) fun i h h'=>?_;simp only[S9,TW];exact(hQ i h).1 (O)
 ·obtain⟨_,y,hy,hφ⟩:=hQ i h;simp only[S8]at h';simp only[S9];rw[SP h']at hy;rw[Option.some.inj hy];exact hφ
end Go.Hx
namespace Go.Hx
variable {P:Program} {G:Nat->Option (List W9)} {H:Xn}
variable {cs:List W9}{L:List Xe}{hi lo:Nat}{e:TypeId}{v:W9}
def KL:(1=0)=False:=W5
def KM (l:List W9)(i:Nat):nE (.na l) i=l[i]?:=rfl
def KN (cells:List W9)(off:Nat):lH H (.nf cells off)=some (.nf cells off):=rfl
def KO (id gen off:Nat):lH H (.R id gen off)=(H.X id gen).map fun _=>.R id gen off:=by
 simp only[lH]
def KP (t:TypeId)(f:Nat)(id gen off:Nat):ui P H t f (.R id gen off)=(bK P t f).bind fun of=>(H.X id gen).map fun _=>.R id gen (off+of.1):=rfl
def KQ (t:TypeId)(f:Nat)(cells:List W9)(off:Nat):ui P H t f (.nf cells off)=(bK P t f).bind fun of=>some (.nf cells (off+of.1)):=rfl
def di (H:Xn)(L:List Xe)(e:TypeId)(lo hi:Nat)(v:W9)(cs:List W9):Prop :=
 (v=.lit (.slice none 0 0)/\cs=[])\/∃i g,lo<=i/\i<hi/\v=.Q (H.A+i) g 0 cs.length 1/\L[i]?=some (.J g e cs)
def di.nil :di H L e lo hi (.lit (.slice none 0 0)) []:=.inl ⟨rfl,rfl⟩
def di.nb {L':List Xe}{lo' hi':Nat}(h:di H L e lo hi v cs)(hl:lo'<=lo)(hh:hi<=hi')(hk:∀i g,lo<=i->i<hi->L[i]?=some (.J g e cs)->L'[i]?=L[i]?):
  di H L' e lo' hi' v cs:=by
 rcases h with h|⟨i,g,h1,h2,h3,h4⟩
 ·exact .inl h
 ·exact .inr ⟨i,g,O,O,h3,by rw[hk i g h1 h2 h4];exact h4⟩
def Bg {i g:Nat}(h:L[i]?=some (.J g e cs)):(ext H L).X (H.A+i) g=some (e,cs):=by
 have hi:i<L.length:=by
  rcases Tg i L.length with h'|h'
  ·exact h'
  ·rw[SX h']at h;cases h
 rw[xI H L i g hi,h];simp[rU]
def KR {t:TypeId}{x:W9}{z:List W9}(ht:P.underlying t=some (.slice e))(hz:P.cellsOf e=1)(hzero:bU P e=some z)(hx:x.one=true)
  (hb:(cs.length+1)*P.bytesOf e<=2 ^ 47/\cs.length+1<=2 ^ 47) (ho:di H L e lo hi v cs) (hlo:lo<=L.length) (hhi:hi<=L.length):
  ∃v' L',bT P (ext H (L++[.J 0 e [x]])) (H.A+(L.length+1)) t t v (.Q (H.A+L.length) 0 0 1 1)=some (v',ext H L')/\di H L' e lo L'.length v' (cs++[x])/\L.length<=L'.length /\
   (∀k,k<L.length->(∀g n,v≠.Q (H.A+k) g 0 n 1)->L'[k]?=L[k]?):=by
 have hsrc:cX (ext H (L++[.J 0 e [x]])) 1 (.Q (H.A+L.length) 0 0 1 1)=some (1,[x]):=by
  unfold cX;have:=Bg (H:=H) (L:=L++[Xe.J 0 e [x]]) (i:=L.length) (g:=0) (e:=e) (cs:=[x]) W5;simp[this]
 rcases ho with ⟨rfl,rfl⟩|⟨i,g,h1,h2,rfl,h4⟩
 ·refine⟨.Q (H.A+(L.length+1)) 0 0 1 1,L++[.J 0 e [x]]++[.J 0 e [x]],?_,.inr ⟨L.length+1,0,O,W5,W5,W5⟩,W5,fun k hk _=>?_⟩
  ·unfold bT;rw[ht];simp only[hzero,hz,Option.bind_some,hsrc,KL,if_false];have h1:1*P.bytesOf e<=2 ^ 47/\1<=2 ^ 47:=(by simpa using hb);rw[SU h1,A2 H _ (L.length+1) _ W5];rfl
  ·rw[List.append_assoc,Ta hk]
 ·have hi':i<L.length:=O
  refine⟨.Q (H.A+i) (g+1) 0 (cs.length+1) 1,(L++[Xe.J 0 e [x]]).set i (Xe.J (g+1) e (cs++[x])),?_,.inr ⟨i,g+1,h1,by simp;omega,W5,?_⟩,W5,fun k hk hne=>?_⟩
  ·unfold bT;rw[ht];simp only[hzero,hz,Option.bind_some,hsrc];have hl:=Bg (H:=H) (L:=L++[Xe.J 0 e [x]]) (i:=i) (g:=g) (e:=e) (cs:=cs) (by rw[Ta hi'];exact h4);simp only[hl,Option.bind_some];rw[SU ⟨trivial,trivial,O,hb.1,hb.2,by simp[hx]⟩];rw[xH H _ i _ (by simp;omega)];simp
  ·rw[Te (by simp;omega)]
  ·have:i≠k:=(by rintro rfl;exact hne _ _ rfl);rw[To this,Ta hk]
def di.fz {S:Nat->Prop}{cs':List W9}{nx:Nat}(h:di H L e lo hi v cs)(hS:∀i,S (H.A+i))(hl:cs'.length=cs.length)
  (hc:∀i (h:i<cs.length) (h':i<cs'.length),Fz S (ext H L) nx cs[i] cs'[i]):Fz S (ext H L) nx v (.M cs'.length cs'):=by
 rcases h with ⟨rfl,rfl⟩|⟨i,g,_,_,rfl,h4⟩
 ·obtain rfl:=S3 hl;exact .nil
 ·rw[hl];have hi:i<L.length:=by
   rcases Tg i L.length with h'|h'
   ·exact h'
   ·rw[SX h']at h4;cases h4
  refine .ny (hS i) (by rw[bL H L i hi];exact h4) O fun j hj h2 h'=>?_;simp only[Nat.zero_add]at h2 ⊢;exact hc j h2 h'
end Go.Hx
namespace Go.Hx
variable {P:Program} {G:Nat->Option (List W9)} {H:Xn}
variable {ρ ρ':Env}{nn:List (List W9)}{args cs cs':List W9}{L L':List Xe}{d g hi id lo n nx:Nat}{S:Nat->Prop}{e e' e0 e1:TypeId}{u v v':W9}{H2:Xn}
def xV (P:Program)(s d:TypeId)(x:Bool)(y:Option TypeDesc)(v:W9):Option W9 :=
 if x=true then (match y,v with
  |some (.int k'),.lit (.int _ a)=>some (.lit (.int k' (k'.wrap a)))
  |_,_=>lF P s d v) else lF P s d v
def KS (s d:TypeId)(v:W9):lF P s d v=xV P s d (P.underlying s).isSome (P.underlying d) v:=by
 unfold xV;split
 ·rename_i hs;split
  ·rename_i k' k a hd;exact Iu hs hd
  ·rfl
 ·rfl
def KT (s d:TypeId)(k k':IntKind)(a:Int):xV P s d true (some (.int k')) (.lit (.int k a))=some (.lit (.int k' (k'.wrap a))):=rfl
def Bh (P:Program)(d:Option TypeDesc)(cells:List W9)(i:Int):Option W9:=match d with
 |some (.array n e)=>if 0<=i/\i<(n:Int) then iQ P e cells (i.toNat*P.cellsOf e) else none
 |_=>none
def KU (t:TypeId)(cells:List W9)(k:IntKind)(i:Int):oM P t (.agg cells) (.lit (.int k i))=Bh P (P.underlying t) cells i:=rfl
def KV (n:Nat)(e:TypeId)(cells:List W9)(i:Int):Bh P (some (.array n e)) cells i=if 0<=i/\i<(n:Int) then iQ P e cells (i.toNat*P.cellsOf e) else none:=rfl
def KW {k:IntKind}{a:Int}:pY P .neg (.lit (.int k a))=some (.lit (.int k (k.wrap (0-a)))):=Iq rfl
def af {c:List W9}(h:H.get id=some (.J g e c)):H.X id g=some (e,c):=by
 unfold Xn.X;rw[h];simp
def aF (a:Nat)(x:Xe):(H.upd a x).A=H.A:=rfl
def c9 (h:id<H.A):(ext H L).X id g=H.X id g:=by
 unfold Xn.X;rw[cP H L id h]
def lL (H:Xn)(L:List Xe)(e1 e0:TypeId)(v:W9)(nn:List (List W9)):Prop :=
 ∃cs:List W9,di H L e1 0 L.length v cs/\cs.length=nn.length/\∀(j:Nat) (r:List W9) (c:W9),nn[j]?=some r->cs[j]?=some c->di H L e0 0 L.length c r
theorem lL.nil :lL H L e1 e0 (.lit (.slice none 0 0)) []:=⟨[],.nil,rfl,fun j r c h=>by simp at h⟩
def di.lt {i z:Nat}(h:di H L e lo hi (.Q (H.A+i) g 0 n z) cs):i<L.length/\L[i]?=some (.J g e cs)/\n=cs.length/\z=1:=by
 rcases h with ⟨h,_⟩|⟨j,g2,_,_,h3,h4⟩
 ·cases h
 ·have:=W9.Q.inj h3;obtain rfl:i=j:=O
  obtain⟨_,rfl,_,rfl,rfl⟩:=this;refine⟨?_,h4,rfl,rfl⟩;rcases Tg i L.length with h|h
  ·exact h
  ·rw[SX h]at h4;cases h4
def di.uC {lo' hi':Nat}(hv:di H L e lo hi v cs)(hu:di H L e' lo' hi' u cs')(hne:e≠e')(hh:hi'<=L.length)
  (hp:∀k,k<L.length->(∀g n,v≠.Q (H.A+k) g 0 n 1)->L'[k]?=L[k]?):di H L' e' lo' hi' u cs':=by
 refine hu.nb W8 W8 fun i g h1 h2 h3=>hp i O fun g' n he=>?_;rcases hv with ⟨rfl,_⟩|⟨j,g2,_,_,rfl,h4⟩
 ·cases he
 ·have hj:j=i:=by
   have:=W9.Q.inj he;omega
  subst hj;rw[h3]at h4;cases h4;exact hne rfl
def di.nG (hv:di H L e lo hi v cs):v.one=true:=by
 rcases hv with ⟨rfl,_⟩|⟨_,_,_,_,rfl,_⟩<;>rfl
def di.fX (hv:di H L e lo hi v cs):v.cells=[v]:=by
 rcases hv with ⟨rfl,_⟩|⟨_,_,_,_,rfl,_⟩<;>rfl
def di.other {lo' hi':Nat}(hv:di H L e lo hi v cs)(hu:di H L e' lo' hi' u cs')(hne:e≠e')(hh:hi'<=L.length)
  (hp:∀k,k<L.length->(∀g n,v≠.Q (H.A+k) g 0 n 1)->L'[k]?=L[k]?):di H L' e' lo' hi' u cs':=hv.uC hu hne hh hp
theorem di.one (hv:di H L e lo hi v cs):v.one=true:=hv.nG
theorem di.cells (hv:di H L e lo hi v cs):v.cells=[v]:=hv.fX
theorem lL.nb (h:lL H L e1 e0 v nn)(hl:L.length<=L'.length)(hk:∀i,i<L.length->L'[i]?=L[i]?):lL H L' e1 e0 v nn:=by
 obtain⟨cs,c1,c2,c3⟩:=h;exact⟨cs,c1.nb W8 hl fun i _ _ hi _=>hk i hi,c2,fun j r c hr hc=>(c3 j r c hr hc).nb W8 hl fun i _ _ hi _=>hk i hi⟩
theorem lL.fz {rows':List (List W9)}(h:lL H L e1 e0 v nn)(hS:∀i,S (H.A+i))(hl:rows'.length=nn.length)
  (hr:∀(j:Nat) (r r':List W9),nn[j]?=some r->rows'[j]?=some r'->r'.length=r.length/\∀i (h:i<r.length) (h':i<r'.length),Fz S (ext H L) nx r[i] r'[i]):
  Fz S (ext H L) nx v (.M rows'.length (rows'.map fun r=>.M r.length r)):=by
 obtain⟨cs,h1,h2,h3⟩:=h;have:=h1.fz (S:=S) (nx:=nx) (cs':=rows'.map fun r=>.M r.length r) hS (by simp[h2,hl]) fun i hi hi'=>by
  simp only[S9];have hi2:i<nn.length:=O
  have hi3:i<rows'.length:=O
  obtain⟨a1,a2⟩:=hr i nn[i] rows'[i] (SP hi2) (SP hi3);exact(h3 i nn[i] cs[i] (SP hi2) (SP hi)).fz (S:=S) (nx:=nx) (cs':=rows'[i]) hS a1 a2
 rw[S8]at this;exact this
def lL.app {x:W9}{r:List W9}{t:TypeId}{z:List W9}(ht:P.underlying t=some (.slice e1))(hz:P.cellsOf e1=1)(hzero:bU P e1=some z)(hby:P.bytesOf e1=24)(hne:e1≠e0)
  (hb:nn.length<2 ^ 40) (h:lL H L e1 e0 v nn) (hx:di H L e0 0 L.length x r):
  ∃v' L',bT P (ext H (L++[.J 0 e1 [x]])) (H.A+(L.length+1)) t t v (.Q (H.A+L.length) 0 0 1 1)=some (v',ext H L')/\lL H L' e1 e0 v' (nn++[r])/\L.length<=L'.length:=by
 obtain⟨cs,h1,h2,h3⟩:=h;obtain⟨v',L',hA,hO,hL,hp⟩:=KR (t:=t) ht hz hzero hx.nG (by rw[hby,h2];omega) h1 (Uh _) W8;refine⟨v',L',hA,⟨cs++[x],hO,by simp[h2],fun j r' c hr hc=>?_⟩,hL⟩;have key:∀u l,di H L e0 0 L.length u l->di H L' e0 0 L'.length u l:=fun u l hu=>(h1.uC hu hne W8 hp).nb W8 hL fun _ _ _ _ _=>rfl;rcases Tg j nn.length with hj|hj
 ·rw[Ta hj]at hr;rw[Ta O]at hc;exact key _ _ (h3 j r' c hr hc)
 ·rw[Tu hj]at hr;rw[Tu O]at hc;have hj0:j-nn.length=0:=by
   rcases T7 (j-nn.length) with h|h
   ·exact h
   ·rw[SX (by simp;omega)]at hr;cases hr
  have hj1:j-cs.length=0:=O
  rw[hj0]at hr;rw[hj1]at hc;cases hr;cases hc;exact key _ _ hx
def dD (H:Xn)(L L':List Xe):ext (ext H L) L'=ext H (L++L'):=by
 unfold ext;simp only[List.length_append];congr 1
 ·funext j
  by_cases h1:H.A+L.length<=j/\j<H.A+L.length+L'.length
  ·rw[SU h1,SU O,Tu O];congr 1;omega
  ·rw[SQ h1];by_cases h2:H.A<=j/\j<H.A+L.length
   ·rw[SU h2,SU O,Ta O]
   ·rw[SQ h2,SQ O]
 ·omega
structure Xb (H H2:Xn):Prop where
 A:H.A<=H2.A
 nl:∀id,id<H.A->H2.get id=H.get id
def Xb.refl (H:Xn):Xb H H:=⟨W8,fun _ _=>rfl⟩
theorem Xb.trans {H H3:Xn}(a:Xb H H2)(b:Xb H2 H3):Xb H H3 :=
 ⟨Tw a.A b.A,fun id h=>(b.nl id (SZ h a.A)).trans (a.nl id h)⟩
theorem Xb.ext (H:Xn)(L:List Xe):Xb H (ext H L):=⟨by simp[aX],fun id h=>cP H L id h⟩
def jf (H:Xn)(n:Nat):Xn:=⟨fun j=>if j<H.A then H.get j else none,H.A+n⟩
def sf (H:Xn)(n:Nat):(jf H n).A=H.A+n:=rfl
def xW {H:Xn}(h:id<H.A):(jf H n).get id=H.get id:=by simp[jf,h]
theorem Xb.jf (H:Xn)(n:Nat):Xb H (jf H n):=⟨by simp[sf],fun id h=>xW h⟩
def KX {H:Xn}(hc:XN H)(ho:Xb H H2):XM (fun id=>H.A<=id) H2 H where
 gone id hs:=by
  cases h:H.get id with
  |none=>rfl
  |some b=>have:=hc.lt id b h;omega
 kept id b hs hb:=by
  have hlt:id<H.A:=UG hs;rw[ho.nl id hlt]at hb;have hbb:=hc.below id b hb;refine⟨hlt,b,hb,?_⟩;have hno:∀i,i<H.A->¬H.A<=i:=fun i h=>Nat.not_le_of_lt h;cases b with
  |nm=>trivial
  |mp=>rfl
  |J g e cells=>exact⟨rfl,rfl,rfl,fun i h _=>.refl (hbb i h) hno⟩
  |loop st pend n env ps asg body=>exact⟨rfl,rfl,rfl,rfl,rfl,rfl,rfl,fun t ht=>.refl (hbb t ht) hno⟩
 none id hs hb:=by
  rw[ho.nl id (UG hs)]at hb;exact hb
def ar.bE (hG:fK G)(hc:XN H)(ho:Xb H H2){K:Xd->Xn->Prop}(hv:Fz (fun id=>H.A<=id) H2 H.A v v')(hk:K (.ret v') H):ar P G H K v H2 :=
 ⟨v',H,.freeze hG (KX hc ho) hv,W8,hk⟩
def Fz.nl {H:Xn}(h:Below H.A v)(hn:H.A<=nx):Fz (fun id=>H.A<=id) H2 nx v v:=by
 induction h with
 |lit v=>exact .lit v
 |M _ ih=>exact .M rfl fun i h _=>ih i h
 |nf _ ih=>exact .nf rfl fun i h _=>ih i h
 |agg _ ih=>exact .agg rfl fun i h _=>ih i h
 |na _ ih=>exact .na rfl fun i h _=>ih i h
 |Z _ _ ih1 ih2=>exact .Z rfl rfl (fun i h _=>ih1 i h) fun i h _=>ih2 i h
 |Q h=>exact .Q O (O)
 |R h=>exact .R O (O)
 |ni h=>exact .ni O (O)
def KY {H:Xn}(hc:XN H)(ho:Xb H H2):XM (fun id=>H.A<=id) H2 (jf H (H2.A-H.A)) where
 gone id hs:=by simp[jf,Nat.not_lt.2 hs]
 kept id b hs hb:=by
  have hlt:id<H.A:=UG hs;rw[ho.nl id hlt]at hb;have hbb:=hc.below id b hb;refine⟨by rw[sf];omega,b,by rw[xW hlt];exact hb,?_⟩;cases b with
  |nm=>trivial
  |mp=>rfl
  |J g e cells=>exact⟨rfl,rfl,rfl,fun i h _=>.nl (hbb i h) (by rw[sf];omega)⟩
  |loop st pend n env ps asg body=>exact⟨rfl,rfl,rfl,rfl,rfl,rfl,rfl,fun t ht=>.nl (hbb t ht) (by rw[sf];omega)⟩
 none id hs hb:=by
  have hlt:=UG hs;rw[ho.nl id hlt]at hb;rw[xW hlt];exact hb
def W.KZ {rd:Option Nat}{Q:AX->St->Prop}{c:Code}{H:Xn}(hG:fK G)(hc:XN H)(ho:Xb H H2)(hv:∀t,Fz (fun id=>H.A<=id) H2 H2.A (ρ t) (ρ' t))
  (hri:fD (jf H (H2.A-H.A)) rd) (h:W P G n rd c Q ⟨ρ',jf H (H2.A-H.A)⟩):W P G n rd c Q ⟨ρ,H2⟩:=by
 have hnx:(jf H (H2.A-H.A)).A=H2.A:=by rw[sf];have:=ho.A;omega
 refine W.AH (s:=⟨ρ,H2⟩) (s':=⟨ρ',jf H (H2.A-H.A)⟩) (eA.freeze hG (KY hc ho) fun t=>?_) (Nat.le_of_eq hnx.symm) hri h;show Fz _ H2 (jf H (H2.A-H.A)).A _ _;rw[hnx];exact hv t
def Fz.put {H:Xn}(h:∀t,Fz S H nx (ρ t) (ρ' t))(hv:Fz S H nx v v'):∀t,Fz S H nx (aQ ρ (some d) v t) (aQ ρ' (some d) v' t):=by
 intro t;simp only[aQ];split
 ·exact hv
 ·exact h t
def Fz.K0 {H:Xn}(hv:Fz S H nx v v')(h:∀t,Fz S H nx (ρ t) (ρ' t)):∀t,Fz S H nx (aQ ρ (some d) v t) (aQ ρ' (some d) v' t):=.put h hv
def Fz.aO {H:Xn}(nn:List (List Int)):Fz S H nx (.M nn.length (nn.map ah)) (.M nn.length (nn.map ah)) :=
 .M rfl fun i h _=>by simp only[S9];exact .dC _
def Fz.env {H:Xn}{args':List W9}(hl:args'.length=args.length)(h:∀i (h:i<args.length) (h':i<args'.length),Fz S H nx args[i] args'[i]):∀t,Fz S H nx (iz args t) (iz args' t):=by
 intro t;rw[xF,xF];by_cases ht:t<args.length
 ·rw[SP ht,SP O];exact h t ht (O)
 ·rw[SX O,SX O];exact .lit _
def Fz.K2 {H:Xn}(h:∀v,v∈args->Below H.A v)(hn:H.A<=nx):∀t,Fz (fun id=>H.A<=id) H2 nx (iz args t) (iz args t) :=
 .env rfl fun i hi _=>.nl (h _ (TC _)) hn
end Go.Hx
namespace Go.Hx
open Go.ChangeShapes Go.WideShapes Go.RowKit
variable {P:Program} {W:World} {H:Type} {enc:TypeId × Value->H} {spare:Nat->Bool} {held:Bool}
variable {d:DataW H}{φ:DataW H->List W9->Prop}{k:IntKind}{ps:List MemPlace}{b:Nat}{r:Reach}{α:Type}{t:TypeId}{v:Value}
def fJ.mono {ψ:DataW H->List W9->Prop}(h:fJ enc P W spare held t φ)(hm:∀d as,φ d as->ψ d as):fJ enc P W spare held t ψ:=fun fuel cs x hx =>
 let ⟨as,h1,h2⟩:=h fuel cs x hx;⟨as,h1,hm _ _ h2⟩
def rS (k:IntKind)(l:List Int):List W9:=l.map fun n=>.lit (.int k n)
def tW {f:α->List W9}{q:α->Prop}(hφ:∀d as,φ d as->∃a,as=f a/\q a):∀ {nn:List (List W9)} {ds:List (DataW H)},xA φ ds nn ->
  ∃l:List α,nn=l.map f/\∀a,a∈l->q a:=by
 intro nn
 induction nn with
 |nil=>intro ds _;exact⟨[],rfl,fun a h=>by cases h⟩
 |cons r nn ih =>
  intro ds h;obtain⟨h1,h2⟩:=h;cases ds with
  |nil=>simp at h1
  |cons d ds =>
   obtain⟨a,ha,hq⟩:=hφ _ _ (h2 0 W5 W5);obtain⟨l,hl,hq2⟩:=ih (ds:=ds) ⟨by simpa using h1,fun i hi hi'=>h2 (i+1) (by simpa using hi) (by simpa using hi')⟩;refine⟨a :: l,by simp only[List.map_cons,<- hl];simp only[TE]at ha;rw[ha],fun b hb=>?_⟩;rcases List.mem_cons.1 hb with rfl|hb
   ·exact hq
   ·exact hq2 b hb
def AQ {β:Type}(f:α->β)(l:List α):(l.map fun a=>[f a]).flatten=l.map f:=by
 induction l with
 |nil=>rfl
 |cons a l ih=>simp only[List.map_cons,List.flatten_cons,ih];rfl
def AR {e:TypeId}(ht:P.underlying t=some (.slice e))(he:P.underlying e=some (.int k))(hc:P.cellsOf e=1):
  fJ enc P W spare held t fun _ as=>∃l:List Int,as=[.M l.length (rS k l)]/\l.length<=maxLen/\∀c,c∈l->(Lit.int k c).wf=true :=
 (tU ht O (nJ he)).mono fun d as h=>by
  rcases h with ⟨_,rfl⟩|⟨ds,rest,nn,_,rfl,hr,_,hl⟩
  ·exact⟨[],rfl,W6,fun c h=>by cases h⟩
  ·obtain⟨l,rfl,hq⟩:=tW (f:=fun n=>[W9.lit (.int k n)]) (q:=fun n=>(Lit.int k n).wf=true) (fun d as ⟨n,_,h2,h3⟩=>⟨n,h2,h3⟩) hr;refine⟨l,?_,by simpa using hl,hq⟩;rw[S8];congr 2;exact AQ _ l
def Ga (hop:fJ enc P W spare held t φ)
  (ht:(∃fs,P.underlying t=some (.struct fs))\/∃n e,P.underlying t=some (.array n e)) (hval:Value.okWide P W r b t v) (hd:DataW.Trod enc P W 0 spare held t v d ps):
  ∃as,Xc P jR dp W (.agg as) v/\φ d as:=by
 obtain⟨cs,rfl⟩:∃cs,v=.agg cs:=by
  unfold Value.okWide at hval;rcases ht with ⟨fs,ht⟩|⟨n,e,ht⟩
  ·rw[ht]at hval;obtain⟨cs,h,_⟩:=hval;exact⟨cs,h⟩
  ·rw[ht]at hval;obtain⟨cs,h,_⟩:=hval;exact⟨cs,h⟩
 obtain⟨fuel,hf⟩:=hd;obtain⟨as,hr,hφ⟩:=hop _ _ _ hf;refine⟨as,?_,hφ⟩;have:=Xc.agg (P:=P) (Γ:=jR) (H:=dp) (w:=W) (cells:=as) (cs:=cs.toList) hr.1 hr.2;simpa using this
def Gb {ψ:W9->Prop}(hop:fJ enc P W spare held t φ)(h1:∀d as,φ d as->∃a,as=[a]/\ψ a)
  (hno:∀cs,¬Value.okWide P W r b t (.agg cs)) (hval:Value.okWide P W r b t v) (hd:DataW.Trod enc P W 0 spare held t v d ps):∃a,Xc P jR dp W a v/\ψ a:=by
 have hc:v.cells.toList=[v]:=by
  cases v with
  |agg cs=>exact absurd hval (hno cs)
  |_=>rfl
 obtain⟨fuel,hf⟩:=hd;rw[hc]at hf;obtain⟨as,hr,hφ⟩:=hop _ _ _ hf;obtain⟨a,rfl,hψ⟩:=h1 _ _ hφ;exact⟨a,hr.2 0 W5 W5,hψ⟩
def Gc (ht:P.underlying t=some (.int k))(cs:Array Value):¬Value.okWide P W r b t (.agg cs):=fun h=>by
 obtain⟨n,hn⟩:=okWide_int ht h;cases hn
def AS (ht:P.underlying t=some (.int k))(hval:Value.okWide P W r b t v)(hd:DataW.Trod enc P W 0 spare held t v d ps):
  ∃n,Xc P jR dp W (.lit (.int k n)) v/\(Lit.int k n).wf=true:=by
 obtain⟨a,h1,n,rfl,h2⟩:=Gb (ψ:=fun a=>∃n,a=.lit (.int k n)/\(Lit.int k n).wf=true) (nJ ht) (fun d as ⟨n,_,h2,h3⟩=>⟨_,h2,n,rfl,h3⟩) (Gc ht) hval hd;exact⟨n,h1,h2⟩
def wf_u8 {n:Int}(h:(Lit.int .u8 n).wf=true):0<=n/\n<=255:=by
 simpa[Lit.wf,IntKind.min,IntKind.max,IntKind.signed,IntKind.bits] using h
end Go.Hx
namespace Go.Hx
attribute [go_sem] List.replicate_one List.flatten_cons List.flatten_nil List.length_append List.append_nil Nat.sub_zero Bool.not_true Bool.not_false
attribute [go_sem] Bool.true_eq_false List.map_eq_nil_iff xK Int.le_refl decide_true decide_false eq_self List.getElem?_map
attribute [go_sem] GE GF GG GH GI GJ GK GL
attribute [go_sem] GM GN GO GP GR GQ GS GT
attribute [go_sem] GU GV GW GX Gt Gu Gv Gw
attribute [go_sem] Gx Gy Gz GA GB GC noGoto_normal noGoto_exit
attribute [go_sem] noGoto_ret noGoto_panic nL ue xE iB AZ Gp
attribute [go_sem] Gq G7 G8 IC Iy Iz IA IB
attribute [go_sem] List.getElem?_toArray Option.bind_some ID IE IF IG IH II
attribute [go_sem] IJ IK IL IM IN IP IQ IR
attribute [go_sem] IS IT IU IV IW IX IY IZ
attribute [go_sem] I0 I1 I3 I4 I5 JE qv JF
attribute [go_sem] JG JH Bd JI JJ JK JL JM
attribute [go_sem] JN JO JP JQ JR JS JT List.set_cons_zero
attribute [go_sem] List.set_cons_succ JU JV JW JX JY JZ J0
attribute [go_sem] J1 J2 J3 J4 J5 J6 J7 J8
attribute [go_sem] J9 Ka Kc Kd Ke Kf Kg
attribute [go_sem] se xS Kh Ki Kj Kk Kl
attribute [go_sem] Km Kn Ko Kp Kq Kr Ks Kt
attribute [go_sem] Ku Kv Kw Kx Ky Kz KA KB
attribute [go_sem] KC KD KE KF KG KH KI KJ
attribute [go_sem] KK eG aS aa Int.toNat_natCast Int.natCast_nonneg ah List.all_cons
attribute [go_sem] List.all_nil Bool.and_true Nat.mul_one I6 I7 I9 Ja Jb
attribute [go_sem] Jc Jd Je Jf Jg Jh Ji
attribute [go_sem] Jk Jl Jn Jm
attribute [go_sem] Jo Jp Jq Jr List.take_succ_cons List.take_zero
attribute [go_sem] List.take_nil List.drop_succ_cons List.drop_zero List.drop_nil List.forall_mem_cons List.not_mem_nil List.mem_cons List.mem_singleton
attribute [go_sem] or_false false_or or_true true_or not_or false_implies implies_true forall_const
attribute [go_sem] Hh Hi Hl Hn Ho Hp Ht Hv
attribute [go_sem] HE HH HI HJ HK HL HM HN
attribute [go_sem] HO HP HQ HR HS Bool.false_eq_true HT HU
attribute [go_sem] HV HW HX HY HZ Ia
attribute [go_sem] Ib Ic builtin_len builtin_append builtin_copy builtin_min builtin_max Ie
attribute [go_sem] If Ig Ih Ii Ij Ik Il Im
attribute [go_sem] Io Ip Ir aX uk xG A2 xI
attribute [go_sem] Iw xH Ix Iv List.map_cons List.map_nil if_true if_false
attribute [go_sem] ne_eq not_false_eq_true not_true_eq_false true_and and_true false_and and_false List.length_cons
attribute [go_sem] List.length_nil Nat.zero_add Nat.add_zero Option.isSome_some List.append_assoc List.cons_append List.nil_append Option.map_some
attribute [go_sem] Option.map_none fD xF List.getElem?_cons_zero List.getElem?_cons_succ List.getElem?_nil Option.getD_some Option.getD_none
attribute [go_sem] GY GZ G1 G2 G3 G4 G5 G6
attribute [go_sem] KM KN KO Int.natCast_zero Int.cast_ofNat_Int KU KV
attribute [go_sem] Is It KS KT KW KP KQ bj Nat.le_refl
end Go.Hx
namespace Go.Hx
variable {P:Program} {G:Nat->Option (List W9)} {H H':Xn}
variable {f:FuncId}{nn:List (List W9)}{args args' cs cs' z:List W9}{id lo lo' n nx:Nat}{S:Nat->Prop}{e e0 e1 t:TypeId}{v x:W9}{b:Xe}
def Xn.cut (H:Xn)(n:Nat):Xn:=⟨fun j=>if j<n then H.get j else none,H.A⟩
def uD (h:id<n):(H.cut n).get id=H.get id:=by simp[Xn.cut,h]
def K3 (h:n<=id):(H.cut n).get id=none:=by simp[Xn.cut,Nat.not_lt.2 h]
theorem Xb.cut {B:Xn}(h:Xb B H):Xb B (H.cut B.A):=⟨h.A,fun id hi=>(uD hi).trans (h.nl id hi)⟩
open Classical in
def Fz.dead {H:Xn}(h:Below nx v):Fz S H nx v v:=by
 induction h with
 |lit v=>exact .lit v
 |M _ ih=>exact .M rfl fun i h _=>ih i h
 |nf _ ih=>exact .nf rfl fun i h _=>ih i h
 |agg _ ih=>exact .agg rfl fun i h _=>ih i h
 |na _ ih=>exact .na rfl fun i h _=>ih i h
 |Z _ _ ih1 ih2=>exact .Z rfl rfl (fun i h _=>ih1 i h) fun i h _=>ih2 i h
 | @Q id _ _ _ _ h=>by_cases hs:S id;exact .deadOwn h hs;exact .Q h hs
 | @R id _ _ h=>by_cases hs:S id;exact .deadPtr h hs;exact .R h hs
 | @ni id h=>by_cases hs:S id;exact .deadYld h hs;exact .ni h hs
def K4 (hc:XN H)(n:Nat):XM (fun id=>n<=id) H (H.cut n) where
 gone id hs:=K3 hs
 kept id b hs hb:=by
  have hlt:id<n:=UG hs;have hbb:=hc.below id b hb;refine⟨hc.lt id b hb,b,by rw[uD hlt];exact hb,?_⟩;cases b with
  |nm=>trivial
  |mp=>rfl
  |J g e cells=>exact⟨rfl,rfl,rfl,fun i h _=>.dead (hbb i h)⟩
  |loop st pend n env ps asg body=>exact⟨rfl,rfl,rfl,rfl,rfl,rfl,rfl,fun t ht=>.dead (hbb t ht)⟩
 none id hs hb:=by rw[uD (UG hs)];exact hb
variable {K:Xd->Xn->Prop}
def ae.lM (n:Nat)(hG:fK G)(hl:args'.length=args.length)(hv:∀i (h:i<args.length) (h':i<args'.length),Fz (fun id=>n<=id) H H.A args[i] args'[i])
  (h:ae P G f args' (H.cut n) K):ae P G f args H K:=by
 refine⟨h.1,fun Γ w cargs R hr=>?_⟩;have F:=K4 R.Z n;have R0:=F.rel hG R;have E0:Xk Γ H w (fW (fun id=>n<=id) Γ) (H.cut n) w:=F.bb;refine(h.2 _ w cargs R0 ⟨by have:=hr.1;omega,fun i h1 h2=>(hv i O h1).sound R F (hr.2 i O h2)⟩).mono ?_;rintro e w' ⟨r,H',Γ',h1,h2,h3,h4,h5⟩;exact⟨r,H',Γ',h1,h2,h3,E0.trans W8 h4,h5⟩
theorem az.lM (n:Nat)(hG:fK G)(hl:args'.length=args.length)(hv:∀i (h:i<args.length) (h':i<args'.length),Fz (fun id=>n<=id) H H.A args[i] args'[i])
  (h:ae P G f args' (H.cut n) K):az P G (.Z f [] []) args H K:=by
 refine az.Z (by simpa using ae.lM n hG hl hv h)
def aD (lo:Nat)(H:Xn)(e:TypeId)(v:W9)(cs:List W9):Prop :=
 (v=.lit (.slice none 0 0)/\cs=[])\/∃id g,lo<=id/\id<H.A/\v=.Q id g 0 cs.length 1/\H.get id=some (.J g e cs)
def aD.nil :aD lo H e (.lit (.slice none 0 0)) []:=.inl ⟨rfl,rfl⟩
def aD.nb (h:aD lo H e v cs)(hl:lo'<=lo)(hn:H.A<=H'.A)(hk:∀id g,lo<=id->id<H.A->H.get id=some (.J g e cs)->v=.Q id g 0 cs.length 1->H'.get id=H.get id):aD lo' H' e v cs:=by
 rcases h with h|⟨id,g,h1,h2,h3,h4⟩
 ·exact .inl h
 ·exact .inr ⟨id,g,O,O,h3,by rw[hk id g h1 h2 h4 h3];exact h4⟩
def aD.over (h:aD lo H e v cs)(ho:Xb H H'):aD lo H' e v cs:=h.nb W8 ho.A fun id _ _ h2 _ _=>ho.nl id h2
theorem aD.one (h:aD lo H e v cs):v.one=true:=by
 rcases h with ⟨rfl,_⟩|⟨_,_,_,_,rfl,_⟩<;>rfl
theorem aD.cells (h:aD lo H e v cs):v.cells=[v]:=by
 rcases h with ⟨rfl,_⟩|⟨_,_,_,_,rfl,_⟩<;>rfl
def aD.fz (h:aD lo H e v cs)(hS:∀i,lo<=i->S i)(hl:cs'.length=cs.length)
  (hc:∀i (h:i<cs.length) (h':i<cs'.length),Fz S H nx cs[i] cs'[i]):Fz S H nx v (.M cs'.length cs'):=by
 rcases h with ⟨rfl,rfl⟩|⟨id,g,h1,_,rfl,h4⟩
 ·obtain rfl:=S3 hl;exact .nil
 ·rw[hl];refine .ny (hS id h1) h4 O fun j hj h2 h'=>?_;simp only[Nat.zero_add]at h2 ⊢;exact hc j h2 h'
def aD.ie {l:List Int}(h:aD lo H e v (ints l))(hS:∀i,lo<=i->S i):Fz S H nx v (ah l):=by
 have:=h.fz (S:=S) (nx:=nx) (cs':=ints l) hS rfl fun i hi _=>by simp only[ints,S9];exact .lit _
 rw[aS]at this;exact this
def aD.new :aD H.A (ext H [.J 0 e cs]) e (.Q H.A 0 0 cs.length 1) cs :=
 .inr ⟨H.A,0,W8,by simp[aX],rfl,by simpa using bL H [.J 0 e cs] 0 W5⟩
def bQ (h:id<H.A):(ext H [b]).get id=H.get id:=cP H [b] id h
def da :(ext H [b]).get H.A=some b:=by simpa using bL H [b] 0 (W5)
def sg (h:n=H.A):H.lay n b=some (ext H [b]):=by subst h;exact uk H b
def uE {src:List W9}(ht:P.underlying t=some (.slice e))(hz:P.cellsOf e=1)(hzero:bU P e=some z)(hx:src.all W9.one=true)
  (hb:(cs.length+src.length)*P.bytesOf e<=2 ^ 47/\cs.length+src.length<=2 ^ 47) (ho:aD lo H e v cs) (hlo:lo<=H.A) (hn:n=H.A):
  ∃v' H',bT P H n t t v (.M src.length src)=some (v',H')/\aD lo H' e v' (cs++src)/\H.A<=H'.A/\(∀k,k<H.A->(∀g n,v≠.Q k g 0 n 1)->H'.get k=H.get k):=by
 have hsrc:cX H 1 (.M src.length src)=some (src.length,src):=by
  unfold cX;simp
 by_cases h0:src.length=0
 ·have e0:src=[]:=S3 h0;subst e0;refine⟨v,H,?_,?_,W8,fun _ _ _=>rfl⟩
  ·rcases ho with ⟨rfl,rfl⟩|⟨i,g,h1,h2,rfl,h4⟩
   ·unfold bT;rw[ht];simp only[hzero,hz,Option.bind_some];rw[hsrc];rfl
   ·unfold bT;rw[ht];have hl:=af h4;simp only[hzero,hz,Option.bind_some,hsrc,hl];rw[SU ⟨trivial,trivial,O,hb.1,hb.2,rfl⟩];simp
  ·rw[List.append_nil];exact ho
 rcases ho with ⟨rfl,rfl⟩|⟨i,g,h1,h2,rfl,h4⟩
 ·refine⟨.Q H.A 0 0 src.length 1,ext H [.J 0 e src],?_,.inr ⟨H.A,0,hlo,by simp[aX],W5,by simpa using da⟩,by simp[aX],fun k hk _=>bQ hk⟩;unfold bT;rw[ht];simp only[hzero,hz,Option.bind_some,hsrc];rw[SQ h0,SU (by simpa using hb),sg hn,hn];rfl
 ·refine⟨.Q i (g+1) 0 (cs.length+src.length) 1,H.upd i (.J (g+1) e (cs++src)),?_,.inr ⟨i,g+1,h1,h2,W5,by rw[ag,SU rfl]⟩,W8,fun k hk hne=>?_⟩
  ·unfold bT;rw[ht];have hl:=af h4;simp only[hzero,hz,Option.bind_some,hsrc,hl];rw[SU ⟨trivial,trivial,O,hb.1,hb.2,hx⟩,SQ h0];simp
  ·rw[ag,SQ];rintro rfl;exact hne _ _ rfl
def iT (ht:P.underlying t=some (.slice e))(hz:P.cellsOf e=1)(hzero:bU P e=some z)(hx:x.one=true)
  (hb:(cs.length+1)*P.bytesOf e<=2 ^ 47/\cs.length+1<=2 ^ 47) (ho:aD lo H e v cs) (hlo:lo<=H.A) (hn:n=H.A+1):
  ∃v' H',bT P (ext H [.J 0 e [x]]) n t t v (.Q H.A 0 0 1 1)=some (v',H')/\aD lo H' e v' (cs++[x])/\H.A<=H'.A/\(∀k,k<H.A->(∀g n,v≠.Q k g 0 n 1)->H'.get k=H.get k):=by
 have hsrc:cX (ext H [.J 0 e [x]]) 1 (.Q H.A 0 0 1 1)=some (1,[x]):=by
  unfold cX;have:=af (H:=ext H [.J 0 e [x]]) (g:=0) (da (b:=.J 0 e [x]));simp[this]
 have hne:(ext H [Xe.J 0 e [x]]).A=H.A+1:=rfl;rcases ho with ⟨rfl,rfl⟩|⟨i,g,h1,h2,rfl,h4⟩
 ·refine⟨.Q (H.A+1) 0 0 1 1,ext (ext H [.J 0 e [x]]) [.J 0 e [x]],?_,.inr ⟨H.A+1,0,O,by simp[aX],W5,?_⟩,by simp[aX];omega,fun k hk _=>?_⟩
  ·unfold bT;rw[ht];simp only[hzero,hz,Option.bind_some,hsrc];rw[SQ W6,SU (by simpa using hb),sg (by rw[hn,hne]),hn];rfl
  ·rw[<- hne];exact da
  ·rw[bQ (by rw[hne];omega),bQ hk]
 ·have h4':(ext H [.J 0 e [x]]).get i=some (.J g e cs):=by rw[bQ h2];exact h4
  refine⟨.Q i (g+1) 0 (cs.length+1) 1,(ext H [.J 0 e [x]]).upd i (.J (g+1) e (cs++[x])),?_,.inr ⟨i,g+1,h1,by rw[aF,hne];omega,W5,by rw[ag,SU rfl]⟩,by rw[aF,hne];omega,fun k hk hne=>?_⟩
  ·unfold bT;rw[ht];have hl:=af h4';simp only[hzero,hz,Option.bind_some,hsrc,hl];rw[SU ⟨trivial,trivial,O,hb.1,hb.2,by simp[hx]⟩];simp
  ·rw[ag,SQ,bQ hk];rintro rfl;exact hne _ _ rfl
def jt (lo:Nat)(H:Xn)(e1 e0:TypeId)(v:W9)(nn:List (List W9)):Prop :=
 ∃cs:List W9,aD lo H e1 v cs/\cs.length=nn.length/\∀(j:Nat) (r:List W9) (c:W9),nn[j]?=some r->cs[j]?=some c->aD lo H e0 c r
theorem jt.nil :jt lo H e1 e0 (.lit (.slice none 0 0)) []:=⟨[],.nil,rfl,fun j r c h=>by simp at h⟩
theorem jt.over (h:jt lo H e1 e0 v nn)(ho:Xb H H'):jt lo H' e1 e0 v nn:=by
 obtain⟨cs,c1,c2,c3⟩:=h;exact⟨cs,c1.over ho,c2,fun j r c hr hc=>(c3 j r c hr hc).over ho⟩
theorem jt.fz {rows':List (List W9)}(h:jt lo H e1 e0 v nn)(hS:∀i,lo<=i->S i)(hl:rows'.length=nn.length)
  (hr:∀(j:Nat) (r r':List W9),nn[j]?=some r->rows'[j]?=some r'->r'.length=r.length/\∀i (h:i<r.length) (h':i<r'.length),Fz S H nx r[i] r'[i]):
  Fz S H nx v (.M rows'.length (rows'.map fun r=>.M r.length r)):=by
 obtain⟨cs,h1,h2,h3⟩:=h;have:=h1.fz (S:=S) (nx:=nx) (cs':=rows'.map fun r=>.M r.length r) hS (by simp[h2,hl]) fun i hi hi'=>by
  simp only[S9];have hi2:i<nn.length:=O
  have hi3:i<rows'.length:=O
  obtain⟨a1,a2⟩:=hr i nn[i] rows'[i] (SP hi2) (SP hi3);exact(h3 i nn[i] cs[i] (SP hi2) (SP hi)).fz (S:=S) (nx:=nx) (cs':=rows'[i]) hS a1 a2
 rw[S8]at this;exact this
def aD.uC {e':TypeId}{u:W9}(hv:aD lo H e v cs)(hu:aD lo' H e' u cs')(hne:e≠e')(hn:H.A<=H'.A)
  (hp:∀k,k<H.A->(∀g n,v≠.Q k g 0 n 1)->H'.get k=H.get k):aD lo' H' e' u cs':=by
 refine hu.nb W8 hn fun i g h1 h2 h3 _=>hp i h2 fun g' n he=>?_;rcases hv with ⟨rfl,_⟩|⟨j,g2,_,_,rfl,h4⟩
 ·cases he
 ·have:=W9.Q.inj he;obtain rfl:j=i:=this.1;rw[h3]at h4;cases h4;exact hne rfl
def jt.app {r:List W9}(ht:P.underlying t=some (.slice e1))(hz:P.cellsOf e1=1)(hzero:bU P e1=some z)(hby:P.bytesOf e1=24)(hne:e1≠e0)
  (hb:nn.length<2 ^ 40) (h:jt lo H e1 e0 v nn) (hlo:lo<=H.A) (hx:aD lo H e0 x r) (hn:n=H.A+1):
  ∃v' H',bT P (ext H [.J 0 e1 [x]]) n t t v (.Q H.A 0 0 1 1)=some (v',H')/\jt lo H' e1 e0 v' (nn++[r])/\H.A<=H'.A/\(∀k,k<H.A->k<lo->H'.get k=H.get k):=by
 obtain⟨cs,h1,h2,h3⟩:=h;obtain⟨v',H',hA,hO,hL,hp⟩:=iT (t:=t) ht hz hzero hx.one (by rw[hby,h2];omega) h1 hlo hn;refine⟨v',H',hA,⟨cs++[x],hO,by simp[h2],fun j r' c hr hc=>?_⟩,hL,fun k hk hkl=>hp k hk fun g n he=>?_⟩
 ·have key:∀u l,aD lo H e0 u l->aD lo H' e0 u l:=fun u l hu=>h1.uC hu hne hL hp;rcases Tg j nn.length with hj|hj
  ·rw[Ta hj]at hr;rw[Ta O]at hc;exact key _ _ (h3 j r' c hr hc)
  ·rw[Tu hj]at hr;rw[Tu O]at hc;have hj0:j-nn.length=0:=by
    rcases T7 (j-nn.length) with h|h
    ·exact h
    ·rw[SX (by simp;omega)]at hr;cases hr
   have hj1:j-cs.length=0:=O;rw[hj0]at hr;rw[hj1]at hc;cases hr;cases hc;exact key _ _ hx
 ·rcases h1 with ⟨rfl,_⟩|⟨i,g2,a1,_,rfl,_⟩
  ·cases he
  ·have:=W9.Q.inj he;omega
attribute [go_sem] Int.reduceToNat Int.reduceLE Int.reduceLT Int.reduceAdd Int.reduceSub Int.reduceMul Int.reduceEq Int.reduceNe Nat.reduceEqDiff Nat.reducePow Nat.reduceDiv Nat.reduceMod Nat.reduceAdd Nat.reduceMul Nat.reduceSub Nat.reduceLT Nat.reduceLeDiff reduceIte reduceCtorEq
end Go.Hx
