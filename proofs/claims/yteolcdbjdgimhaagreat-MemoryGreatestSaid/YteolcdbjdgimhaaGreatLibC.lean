/-
  What an argument, or a listed variable, is as an abstract value: it is read off what can be read of it. Own work: no program stands in this text.
-/
import Derived.Test.YteolcdbjdgimhaaGreatLibB
import Derived.MakeChecks
import Derived.OpenShut
set_option linter.all false
namespace Go.Hx
open Go.ChangeShapes Go.WideShapes Go.RowKit
variable {P:Program} {W:World} {H:Type} {enc:TypeId × Value->H} {spare:Nat->Bool} {held:Bool}
variable {z:Nat}{α:Type}{t:TypeId}
def jT (P:Program)(W:World)(as:List ZK)(cs:List Value):Prop:=cs.length=as.length/\∀i (h:i<as.length) (h':i<cs.length),ZO P jQ cZ W as[i] cs[i]
def iw (enc:TypeId × Value->H)(P:Program)(W:World)(spare:Nat->Bool)(held:Bool)(t:TypeId)(φ:DataW H->List ZK->Prop):Prop :=
 ∀fuel cs x,DataW.trod enc P W 0 spare held fuel t cs=some x->∃as,jT P W as cs/\φ x.1 as
def jT.nil:jT P W [] []:=⟨rfl,fun i h _=>absurd h (VN _)⟩
def jT.one {a:ZK}{c:Value}(h:ZO P jQ cZ W a c):jT P W [a] [c]:=⟨rfl,fun i hi _=>by
 match i,hi with
 |0,_=>exact h⟩
def jT.append {as bs:List ZK}{cs ds:List Value}(h1:jT P W as cs)(h2:jT P W bs ds):jT P W (as++bs) (cs++ds):=by
 refine⟨by simp[h1.1,h2.1],fun i h h'=>?_⟩;by_cases hi:i<as.length
 ·rw[WH hi,WH (by rw[h1.1];exact hi)];exact h1.2 i hi _
 ·have e:=h1.1;rw[WL O,WL O];have:=h2.2 (i-as.length) (by simp at h;omega) (by rw[h2.1];simp at h;omega);simpa[e] using this
def Ib (ht:P.underlying t=some .bool):iw enc P W spare held t fun d as=>∃b,d=.lit (.bool b)/\as=[.lit (.bool b)]:=by
 intro fuel cs x h;cases fuel with
 |zero=>simp[DataW.trod]at h
 |succ n =>
  unfold DataW.trod at h;rw[ht]at h;split at h
  ·cases h;exact⟨_,.one (.lit _),_,rfl,rfl⟩
  all_goals simp_all
def qy {k:IntKind}(ht:P.underlying t=some (.int k)):iw enc P W spare held t fun d as=>∃n,d=.lit (.int k n)/\as=[.lit (.int k n)]/\(Lit.int k n).wf=true:=by
 intro fuel cs x h;cases fuel with
 |zero=>simp[DataW.trod]at h
 |succ n =>
  unfold DataW.trod at h;rw[ht]at h;split at h<;>simp_all
  rename_i k' n' _ _;obtain⟨⟨rfl,hw⟩,rfl⟩:=h;exact⟨_,.one (.lit _),_,rfl,rfl,hw⟩
def BY:∀ {na:List (List ZK)} {css:List (List Value)},css.length=na.length->(∀i (h:i<na.length) (h':i<css.length),jT P W na[i] css[i])->jT P W na.flatten css.flatten:=by
 intro na
 induction na with
 |nil=>intro css h _;obtain rfl:=VF h;exact .nil
 |cons r na ih =>
  intro css h h'
  match css,h with
  |c :: css,h =>
   simp only[List.flatten_cons];exact(h' 0 ZF ZF).append (ih (by simpa using h) fun i hi hi'=>h' (i+1) (by simpa using hi) (by simpa using hi'))
def BZ {Q:Nat->α->Prop}:∀n,(∀i,i<n->∃a,Q i a)->∃l:List α,l.length=n/\∀i (h:i<l.length),Q i l[i]:=by
 intro n
 induction n with
 |zero=>intro _;exact⟨[],rfl,fun i h=>absurd h (VN _)⟩
 |succ n ih =>
  intro h;obtain⟨l,hl,hq⟩:=ih fun i hi=>h i O;obtain⟨a,ha⟩:=h n O;refine⟨l++[a],by simp[hl],fun i hi=>?_⟩;by_cases hi':i<l.length
  ·rw[WH hi'];exact hq i hi'
  ·have:i=l.length:=(by simp at hi;omega);subst this;simp only[List.getElem_concat_length];rw[hl];exact ha
def Ic :∀ {na:List (List α)},(∀i (h:i<na.length),na[i].length=z)->na.flatten.length=na.length*z:=by
 intro na
 induction na with
 |nil=>intro _;simp
 |cons r na ih =>
  intro h;have h0:=h 0 ZF;have:=ih fun i hi=>h (i+1) (by simpa using hi);simp only[Wq]at h0;simp only[List.flatten_cons,List.length_append,List.length_cons,this,h0,YQ];omega
def Ie :∀ {na:List (List α)},(∀i (h:i<na.length),na[i].length=z)->∀i j (hi:i<na.length) (hj:j<z),na.flatten[i*z+j]?=(na[i])[j]?:=by
 intro na
 induction na with
 |nil=>intro _ i j hi;exact absurd hi (VN _)
 |cons r na ih =>
  intro h i j hi hj;have h0:=h 0 ZF;simp only[Wq]at h0;cases i with
  |zero=>simp only[List.flatten_cons,Wq,XB,Nat.zero_add];rw[VH O]
  |succ i =>
   simp only[List.flatten_cons,Xn];rw[VS (by rw[h0,YQ];omega),<- ih (fun i hi=>h (i+1) (by simpa using hi)) i j (by simpa using hi) hj];congr 1;rw[h0,YQ];omega
def B0 (φ:DataW H->List ZK->Prop)(ds:List (DataW H))(na:List (List ZK)):Prop:=ds.length=na.length/\∀i (h:i<na.length) (h':i<ds.length),φ ds[i] na[i]
def B1 {e:TypeId}{φ:DataW H->List ZK->Prop}(ht:P.underlying t=some (.slice e))(hz:0<P.cellsOf e)(he:iw enc P W spare held e φ):
  iw enc P W spare held t fun d as=>(d=.nil/\as=[.Q 0 []])\/∃ds rest na,d=.slice ds rest/\as=[.Q na.length na.flatten]/\B0 φ ds na/\(∀i (h:i<na.length),na[i].length=P.cellsOf e)/\na.length<=maxLen:=by
 intro fuel cs x h;rcases DataW.trod_slice ht h with ⟨rfl,rfl⟩|⟨a,len,cap,elems,rest,n,rfl,rfl,rfl,_,hl,hm,hlen,hel,_,_⟩
 ·exact⟨_,.one (.nu _ _),.inl ⟨rfl,rfl⟩⟩
 have hrow:∀i,i<len->∃p:List Value × List ZK,W.cells? 0 (a.add (i*P.cellsOf e)) (P.cellsOf e)=some p.1/\jT P W p.2 p.1/\∃x,elems[i]?=some x/\φ x.1 p.2:=by
  intro i hi;have:=hel i hi;rw[Vz O,VC]at this;obtain⟨cs,hc,hx⟩:=this;obtain⟨as,ha,hφ⟩:=he _ _ _ hx;exact⟨(cs,as),hc,ha,_,Vz O,hφ⟩
 obtain⟨l,hll,hQ⟩:=BZ len hrow;have hzr:∀i (h:i<(l.map Prod.snd).length),(l.map Prod.snd)[i].length=P.cellsOf e:=by
  intro i h;simp only[VJ]at h;simp only[VO];obtain⟨hc,hr,_⟩:=hQ i h;rw[<- hr.1];exact(World.cells?_some hc).2.1
 have hzc:∀i (h:i<(l.map Prod.fst).length),(l.map Prod.fst)[i].length=P.cellsOf e:=by
  intro i h;simp only[VJ]at h;simp only[VO];exact(World.cells?_some (hQ i h).1).2.1
 refine⟨[.Q (l.map Prod.snd).length (l.map Prod.snd).flatten],.one ?_,.inr ⟨_,_,l.map Prod.snd,rfl,rfl,⟨by simp[hll,hlen],fun i h h'=>?_⟩,hzr,by simp only[VJ];omega⟩⟩
 ·rcases WM len with h0|h0
  ·subst h0;obtain rfl:=VF hll;exact .nu _ _
  have hrc:jT P W (l.map Prod.snd).flatten (l.map Prod.fst).flatten:=BY ZF fun i h h'=>by
   simp only[VJ]at h;simp only[VO];exact(hQ i h).2.1
  have hla:(l.map Prod.snd).length=len:=by simp[hll]
  have hsp:∀i,i<len->∀j,j<P.cellsOf e->∃v,W.cell? ((a.add (i*P.cellsOf e)).add j)=some v/\(l.map Prod.fst).flatten[i*P.cellsOf e+j]?=some v:=by
   intro i hi j hj;obtain⟨hc,_⟩:=hQ i O;obtain⟨_,hcl,hcell⟩:=World.cells?_some hc;refine⟨(l[i]' O).1[j]' O,?_,?_⟩
   ·rw[hcell j hj,Vz]
   ·rw[Ie hzc i j (by simp;omega) hj];simp only[VO];rw[Vz]
  have hspot:a.spot=none:=by
   obtain⟨v,hv,_⟩:=hsp 0 h0 0 hz;unfold World.cell? at hv;split at hv
   ·split at hv
    ·cases hv
    ·rename_i hs;simpa[Addr.add] using hs
   ·cases hv
  obtain⟨b,off,spot⟩:=a;simp only at hspot;subst hspot;have hadd:∀(b off n:Nat),(⟨b,off,none⟩:Addr).add n=⟨b,off+n,none⟩:=by
   intro b off n;unfold Addr.add;by_cases hn:n=0
   ·subst hn;simp
   ·simp[hn]
  have hlt:b<W.heap.size:=by
   obtain⟨v,hv,_⟩:=hsp 0 h0 0 hz;rw[hadd,hadd]at hv;unfold World.cell? at hv;rcases VV b W.heap.size with h|h
   ·exact h
   ·rw[W1 h]at hv;cases hv
  rw[hla];refine .Q (Bh b) hlt hl hrc.1 (fun i hi=>?_) fun i h h'=>hrc.2 i h h';have hlc:=Ic hzc;simp only[VJ,hll]at hlc;have hi':i<len*P.cellsOf e:=O
  obtain⟨v,hv,hg⟩:=hsp (i / P.cellsOf e) (Xe (by rw[Xf];exact hi')) (i % P.cellsOf e) (Yb _ hz);have hdm:i / P.cellsOf e*P.cellsOf e+i % P.cellsOf e=i:=by rw[Xf];exact YY _ _
  rw[hdm]at hg;rw[Vz hi]at hg;rw[Option.some.inj hg,<- hv,hadd,hadd];congr 2;omega
 ·simp only[VJ]at h h';obtain⟨_,_,y,hy,hφ⟩:=hQ i h;simp only[VO];rw[Vz h']at hy;rw[Option.some.inj hy];exact hφ
def vM {fs:Array Field}{φ:Nat->DataW H->List ZK->Prop}(ht:P.underlying t=some (.struct fs))
  (hlay:∀cs:List Value,cs.length=P.cellsOf t->(fs.toList.map fun f=>(cs.drop f.offset).take (P.cellsOf f.type)).flatten=cs)
  (he:∀i (h:i<fs.size),iw enc P W spare held fs[i].type (φ i)):
  iw enc P W spare held t fun d as=>∃(ds:List (DataW H)) (na:List (List ZK)),d=.agg ds/\as=na.flatten/\ds.length=fs.size/\na.length=fs.size/\∀i (h:i<na.length) (h':i<ds.length),φ i ds[i] na[i]:=by
 intro fuel cs x h;obtain⟨xs,m,rfl,rfl,hcl,hxl,hel⟩:=DataW.trod_struct ht h;have hrow:∀i,i<fs.size->∃as:List ZK,(∀h:i<fs.size,jT P W as ((cs.drop fs[i].offset).take (P.cellsOf fs[i].type)))/\∃x,xs[i]?=some x/\φ i x.1 as:=by
  intro i hi;have:=hel i fs[i] (VL hi);rw[Vz O]at this;obtain⟨as,ha,hφ⟩:=he i hi _ _ _ this;exact⟨as,fun _=>ha,_,Vz O,hφ⟩
 obtain⟨l,hll,hQ⟩:=BZ fs.size hrow;refine⟨l.flatten,?_,_,l,rfl,rfl,by simp[hxl],hll,fun i h h'=>?_⟩
 ·rw[<- hlay cs hcl];refine BY (by simp[hll]) fun i h h'=>?_;simp only[VO,WE];exact(hQ i h).1 (O)
 ·obtain⟨_,y,hy,hφ⟩:=hQ i h;simp only[VJ]at h';simp only[VO];rw[Vz h']at hy;rw[Option.some.inj hy];exact hφ
end Go.Hx
namespace Go.Hx
variable {P:Program} {G:Nat->Option (List ZK)} {H:ZJ}
variable {cs:List ZK}{L:List ZQ}{hi lo:Nat}{e:TypeId}{v:ZK}
def Mt:(1=0)=False:=ZF
def Mu (l:List ZK)(i:Nat):ph (.nf l) i=l[i]?:=rfl
def Mv (cells:List ZK)(off:Nat):mG H (.ni cells off)=some (.ni cells off):=rfl
def Mw (id gen off:Nat):mG H (.M id gen off)=(H.V id gen).map fun _=>.M id gen off:=by
 simp only[mG]
def Mx (t:TypeId)(f:Nat)(id gen off:Nat):vX P H t f (.M id gen off)=(bU P t f).bind fun of=>(H.V id gen).map fun _=>.M id gen (off+of.1):=rfl
def My (t:TypeId)(f:Nat)(cells:List ZK)(off:Nat):vX P H t f (.ni cells off)=(bU P t f).bind fun of=>some (.ni cells (off+of.1)):=rfl
def dQ (H:ZJ)(L:List ZQ)(e:TypeId)(lo hi:Nat)(v:ZK)(cs:List ZK):Prop :=
 (v=.lit (.slice none 0 0)/\cs=[])\/∃i g,lo<=i/\i<hi/\v=.U (H.A+i) g 0 cs.length 1/\L[i]?=some (.J g e cs)
def dQ.nil :dQ H L e lo hi (.lit (.slice none 0 0)) []:=.inl ⟨rfl,rfl⟩
def dQ.nc {L':List ZQ}{lo' hi':Nat}(h:dQ H L e lo hi v cs)(hl:lo'<=lo)(hh:hi<=hi')(hk:∀i g,lo<=i->i<hi->L[i]?=some (.J g e cs)->L'[i]?=L[i]?):
  dQ H L' e lo' hi' v cs:=by
 rcases h with h|⟨i,g,h1,h2,h3,h4⟩
 ·exact .inl h
 ·exact .inr ⟨i,g,O,O,h3,by rw[hk i g h1 h2 h4];exact h4⟩
def Ct {i g:Nat}(h:L[i]?=some (.J g e cs)):(ext H L).V (H.A+i) g=some (e,cs):=by
 have hi:i<L.length:=by
  rcases VV i L.length with h'|h'
  ·exact h'
  ·rw[VD h']at h;cases h
 rw[yQ H L i g hi,h];simp[tS]
def Mz {t:TypeId}{x:ZK}{z:List ZK}(ht:P.underlying t=some (.slice e))(hz:P.cellsOf e=1)(hzero:cw P e=some z)(hx:x.one=true)
  (hb:(cs.length+1)*P.bytesOf e<=2 ^ 46/\cs.length+1<=2 ^ 46) (ho:dQ H L e lo hi v cs) (hlo:lo<=L.length) (hhi:hi<=L.length):
  ∃v' L',cr P (ext H (L++[.J 0 e [x]])) (H.A+(L.length+1)) t t v (.U (H.A+L.length) 0 0 1 1)=some (v',ext H L')/\dQ H L' e lo L'.length v' (cs++[x])/\L.length<=L'.length /\
   (∀k,k<L.length->(∀g n,v≠.U (H.A+k) g 0 n 1)->L'[k]?=L[k]?):=by
 have hsrc:dH (ext H (L++[.J 0 e [x]])) 1 (.U (H.A+L.length) 0 0 1 1)=some (1,[x]):=by
  unfold dH;have:=Ct (H:=H) (L:=L++[ZQ.J 0 e [x]]) (i:=L.length) (g:=0) (e:=e) (cs:=[x]) ZF;simp[this]
 rcases ho with ⟨rfl,rfl⟩|⟨i,g,h1,h2,rfl,h4⟩
 ·refine⟨.U (H.A+(L.length+1)) 0 0 1 1,L++[.J 0 e [x]]++[.J 0 e [x]],?_,.inr ⟨L.length+1,0,O,ZF,ZF,ZF⟩,ZF,fun k hk _=>?_⟩
  ·unfold cr;rw[ht];simp only[hzero,hz,Option.bind_some,hsrc,Mt,if_false];have h1:1*P.bytesOf e<=2 ^ 46/\1<=2 ^ 46:=(by simpa using hb);rw[VA h1,Ce H _ (L.length+1) _ ZF];rfl
  ·rw[List.append_assoc,VH hk]
 ·have hi':i<L.length:=O
  refine⟨.U (H.A+i) (g+1) 0 (cs.length+1) 1,(L++[ZQ.J 0 e [x]]).set i (ZQ.J (g+1) e (cs++[x])),?_,.inr ⟨i,g+1,h1,by simp;omega,ZF,?_⟩,ZF,fun k hk hne=>?_⟩
  ·unfold cr;rw[ht];simp only[hzero,hz,Option.bind_some,hsrc];have hl:=Ct (H:=H) (L:=L++[ZQ.J 0 e [x]]) (i:=i) (g:=g) (e:=e) (cs:=cs) (by rw[VH hi'];exact h4);simp only[hl,Option.bind_some];rw[VA ⟨trivial,trivial,O,hb.1,hb.2,by simp[hx]⟩];rw[yO H _ i _ (by simp;omega)];simp
  ·rw[VQ (by simp;omega)]
  ·have:i≠k:=(by rintro rfl;exact hne _ _ rfl);rw[Wa this,VH hk]
def dQ.fz {S:Nat->Prop}{cs':List ZK}{nx:Nat}(h:dQ H L e lo hi v cs)(hS:∀i,S (H.A+i))(hl:cs'.length=cs.length)
  (hc:∀i (h:i<cs.length) (h':i<cs'.length),Fz S (ext H L) nx cs[i] cs'[i]):Fz S (ext H L) nx v (.Q cs'.length cs'):=by
 rcases h with ⟨rfl,rfl⟩|⟨i,g,_,_,rfl,h4⟩
 ·obtain rfl:=VF hl;exact .nil
 ·rw[hl];have hi:i<L.length:=by
   rcases VV i L.length with h'|h'
   ·exact h'
   ·rw[VD h']at h4;cases h4
  refine .nz (hS i) (by rw[bH H L i hi];exact h4) O fun j hj h2 h'=>?_;simp only[Nat.zero_add]at h2 ⊢;exact hc j h2 h'
end Go.Hx
namespace Go.Hx
variable {P:Program} {G:Nat->Option (List ZK)} {H:ZJ}
variable {ρ ρ':Env}{args cs cs':List ZK}{L L':List ZQ}{d g hi id lo n nx:Nat}{S:Nat->Prop}{e e' e0 e1:TypeId}{H2:ZJ}{u v v':ZK}
def zc (P:Program)(s d:TypeId)(x:Bool)(y:Option TypeDesc)(v:ZK):Option ZK :=
 if x=true then (match y,v with
  |some (.int k'),.lit (.int _ a)=>some (.lit (.int k' (k'.wrap a)))
  |_,_=>mE P s d v) else mE P s d v
def MA (s d:TypeId)(v:ZK):mE P s d v=zc P s d (P.underlying s).isSome (P.underlying d) v:=by
 unfold zc;split
 ·rename_i hs;split
  ·rename_i k' k a hd;exact J4 hs hd
  ·rfl
 ·rfl
def MB (s d:TypeId)(k k':IntKind)(a:Int):zc P s d true (some (.int k')) (.lit (.int k a))=some (.lit (.int k' (k'.wrap a))):=rfl
def Cu (P:Program)(d:Option TypeDesc)(cells:List ZK)(i:Int):Option ZK:=match d with
 |some (.array n e)=>if 0<=i/\i<(n:Int) then jv P e cells (i.toNat*P.cellsOf e) else none
 |_=>none
def MC (t:TypeId)(cells:List ZK)(k:IntKind)(i:Int):qm P t (.agg cells) (.lit (.int k i))=Cu P (P.underlying t) cells i:=rfl
def MD (n:Nat)(e:TypeId)(cells:List ZK)(i:Int):Cu P (some (.array n e)) cells i=if 0<=i/\i<(n:Int) then jv P e cells (i.toNat*P.cellsOf e) else none:=rfl
def ME {k:IntKind}{a:Int}:rF P .neg (.lit (.int k a))=some (.lit (.int k (k.wrap (0-a)))):=J0 rfl
def ae {c:List ZK}(h:H.get id=some (.J g e c)):H.V id g=some (e,c):=by
 unfold ZJ.V;rw[h];simp
def aA (a:Nat)(x:ZQ):(H.upd a x).A=H.A:=rfl
def ea (h:id<H.A):(ext H L).V id g=H.V id g:=by
 unfold ZJ.V;rw[dM H L id h]
def mK (H:ZJ)(L:List ZQ)(e1 e0:TypeId)(v:ZK)(na:List (List ZK)):Prop :=
 ∃cs:List ZK,dQ H L e1 0 L.length v cs/\cs.length=na.length/\∀(j:Nat) (r:List ZK) (c:ZK),na[j]?=some r->cs[j]?=some c->dQ H L e0 0 L.length c r
theorem mK.nil :mK H L e1 e0 (.lit (.slice none 0 0)) []:=⟨[],.nil,rfl,fun j r c h=>by simp at h⟩
def dQ.lt {i z:Nat}(h:dQ H L e lo hi (.U (H.A+i) g 0 n z) cs):i<L.length/\L[i]?=some (.J g e cs)/\n=cs.length/\z=1:=by
 rcases h with ⟨h,_⟩|⟨j,g2,_,_,h3,h4⟩
 ·cases h
 ·have:=ZK.U.inj h3;obtain rfl:i=j:=O
  obtain⟨_,rfl,_,rfl,rfl⟩:=this;refine⟨?_,h4,rfl,rfl⟩;rcases VV i L.length with h|h
  ·exact h
  ·rw[VD h]at h4;cases h4
def dQ.wz {lo' hi':Nat}(hv:dQ H L e lo hi v cs)(hu:dQ H L e' lo' hi' u cs')(hne:e≠e')(hh:hi'<=L.length)
  (hp:∀k,k<L.length->(∀g n,v≠.U (H.A+k) g 0 n 1)->L'[k]?=L[k]?):dQ H L' e' lo' hi' u cs':=by
 refine hu.nc ZI ZI fun i g h1 h2 h3=>hp i O fun g' n he=>?_;rcases hv with ⟨rfl,_⟩|⟨j,g2,_,_,rfl,h4⟩
 ·cases he
 ·have hj:j=i:=by
   have:=ZK.U.inj he;omega
  subst hj;rw[h3]at h4;cases h4;exact hne rfl
def dQ.pj (hv:dQ H L e lo hi v cs):v.one=true:=by
 rcases hv with ⟨rfl,_⟩|⟨_,_,_,_,rfl,_⟩<;>rfl
def dQ.gZ (hv:dQ H L e lo hi v cs):v.cells=[v]:=by
 rcases hv with ⟨rfl,_⟩|⟨_,_,_,_,rfl,_⟩<;>rfl
def dQ.other {lo' hi':Nat}(hv:dQ H L e lo hi v cs)(hu:dQ H L e' lo' hi' u cs')(hne:e≠e')(hh:hi'<=L.length)
  (hp:∀k,k<L.length->(∀g n,v≠.U (H.A+k) g 0 n 1)->L'[k]?=L[k]?):dQ H L' e' lo' hi' u cs':=hv.wz hu hne hh hp
theorem dQ.one (hv:dQ H L e lo hi v cs):v.one=true:=hv.pj
theorem dQ.cells (hv:dQ H L e lo hi v cs):v.cells=[v]:=hv.gZ
theorem mK.nc {na:List (List ZK)}(h:mK H L e1 e0 v na)(hl:L.length<=L'.length)(hk:∀i,i<L.length->L'[i]?=L[i]?):mK H L' e1 e0 v na:=by
 obtain⟨cs,c1,c2,c3⟩:=h;exact⟨cs,c1.nc ZI hl fun i _ _ hi _=>hk i hi,c2,fun j r c hr hc=>(c3 j r c hr hc).nc ZI hl fun i _ _ hi _=>hk i hi⟩
theorem mK.fz {na rows':List (List ZK)}(h:mK H L e1 e0 v na)(hS:∀i,S (H.A+i))(hl:rows'.length=na.length)
  (hr:∀(j:Nat) (r r':List ZK),na[j]?=some r->rows'[j]?=some r'->r'.length=r.length/\∀i (h:i<r.length) (h':i<r'.length),Fz S (ext H L) nx r[i] r'[i]):
  Fz S (ext H L) nx v (.Q rows'.length (rows'.map fun r=>.Q r.length r)):=by
 obtain⟨cs,h1,h2,h3⟩:=h;have:=h1.fz (S:=S) (nx:=nx) (cs':=rows'.map fun r=>.Q r.length r) hS (by simp[h2,hl]) fun i hi hi'=>by
  simp only[VO];have hi2:i<na.length:=O
  have hi3:i<rows'.length:=O
  obtain⟨a1,a2⟩:=hr i na[i] rows'[i] (Vz hi2) (Vz hi3);exact(h3 i na[i] cs[i] (Vz hi2) (Vz hi)).fz (S:=S) (nx:=nx) (cs':=rows'[i]) hS a1 a2
 rw[VJ]at this;exact this
def mK.app {x:ZK}{na:List (List ZK)}{r:List ZK}{t:TypeId}{z:List ZK}(ht:P.underlying t=some (.slice e1))(hz:P.cellsOf e1=1)(hzero:cw P e1=some z)(hby:P.bytesOf e1=24)(hne:e1≠e0)
  (hb:na.length<2 ^ 40) (h:mK H L e1 e0 v na) (hx:dQ H L e0 0 L.length x r):
  ∃v' L',cr P (ext H (L++[.J 0 e1 [x]])) (H.A+(L.length+1)) t t v (.U (H.A+L.length) 0 0 1 1)=some (v',ext H L')/\mK H L' e1 e0 v' (na++[r])/\L.length<=L'.length:=by
 obtain⟨cs,h1,h2,h3⟩:=h;obtain⟨v',L',hA,hO,hL,hp⟩:=Mz (t:=t) ht hz hzero hx.pj (by rw[hby,h2];omega) h1 (WO _) ZI;refine⟨v',L',hA,⟨cs++[x],hO,by simp[h2],fun j r' c hr hc=>?_⟩,hL⟩;have key:∀u l,dQ H L e0 0 L.length u l->dQ H L' e0 0 L'.length u l:=fun u l hu=>(h1.wz hu hne ZI hp).nc ZI hL fun _ _ _ _ _=>rfl;rcases VV j na.length with hj|hj
 ·rw[VH hj]at hr;rw[VH O]at hc;exact key _ _ (h3 j r' c hr hc)
 ·rw[VS hj]at hr;rw[VS O]at hc;have hj0:j-na.length=0:=by
   rcases WM (j-na.length) with h|h
   ·exact h
   ·rw[VD (by simp;omega)]at hr;cases hr
  have hj1:j-cs.length=0:=O
  rw[hj0]at hr;rw[hj1]at hc;cases hr;cases hc;exact key _ _ hx
def cW (H:ZJ)(L L':List ZQ):ext (ext H L) L'=ext H (L++L'):=by
 unfold ext;simp only[List.length_append];congr 1
 ·funext j
  by_cases h1:H.A+L.length<=j/\j<H.A+L.length+L'.length
  ·rw[VA h1,VA O,VS O];congr 1;omega
  ·rw[Vx h1];by_cases h2:H.A<=j/\j<H.A+L.length
   ·rw[VA h2,VA O,VH O]
   ·rw[Vx h2,Vx O]
 ·omega
structure ZN (H H2:ZJ):Prop where
 A:H.A<=H2.A
 nb:∀id,id<H.A->H2.get id=H.get id
def ZN.refl (H:ZJ):ZN H H:=⟨ZI,fun _ _=>rfl⟩
theorem ZN.trans {H H3:ZJ}(a:ZN H H2)(b:ZN H2 H3):ZN H H3 :=
 ⟨Wm a.A b.A,fun id h=>(b.nb id (VM h a.A)).trans (a.nb id h)⟩
theorem ZN.ext (H:ZJ)(L:List ZQ):ZN H (ext H L):=⟨by simp[aM],fun id h=>dM H L id h⟩
def jV (H:ZJ)(n:Nat):ZJ:=⟨fun j=>if j<H.A then H.get j else none,H.A+n⟩
def ud (H:ZJ)(n:Nat):(jV H n).A=H.A+n:=rfl
def zd {H:ZJ}(h:id<H.A):(jV H n).get id=H.get id:=by simp[jV,h]
theorem ZN.jV (H:ZJ)(n:Nat):ZN H (jV H n):=⟨by simp[ud],fun id h=>zd h⟩
def MF {H:ZJ}(hc:Clo H)(ho:ZN H H2):FzH (fun id=>H.A<=id) H2 H where
 gone id hs:=by
  cases h:H.get id with
  |none=>rfl
  |some b=>have:=hc.lt id b h;omega
 kept id b hs hb:=by
  have hlt:id<H.A:=Xo hs;rw[ho.nb id hlt]at hb;have hbb:=hc.below id b hb;refine⟨hlt,b,hb,?_⟩;have hno:∀i,i<H.A->¬H.A<=i:=fun i h=>Nat.not_le_of_lt h;cases b with
  |nt=>trivial
  |mp=>rfl
  |J g e cells=>exact⟨rfl,rfl,rfl,fun i h _=>.refl (hbb i h) hno⟩
  |loop st pend n env ps asg body=>exact⟨rfl,rfl,rfl,rfl,rfl,rfl,rfl,fun t ht=>.refl (hbb t ht) hno⟩
 none id hs hb:=by
  rw[ho.nb id (Xo hs)]at hb;exact hb
def aq.bC (hG:gD G)(hc:Clo H)(ho:ZN H H2){K:ZP->ZJ->Prop}(hv:Fz (fun id=>H.A<=id) H2 H.A v v')(hk:K (.ret v') H):aq P G H K v H2 :=
 ⟨v',H,.freeze hG (MF hc ho) hv,ZI,hk⟩
def Fz.nb {H:ZJ}(h:Below H.A v)(hn:H.A<=nx):Fz (fun id=>H.A<=id) H2 nx v v:=by
 induction h with
 |lit v=>exact .lit v
 |Q _ ih=>exact .Q rfl fun i h _=>ih i h
 |ni _ ih=>exact .ni rfl fun i h _=>ih i h
 |agg _ ih=>exact .agg rfl fun i h _=>ih i h
 |nf _ ih=>exact .nf rfl fun i h _=>ih i h
 |Z _ _ ih1 ih2=>exact .Z rfl rfl (fun i h _=>ih1 i h) fun i h _=>ih2 i h
 |U h=>exact .U O (O)
 |M h=>exact .M O (O)
 |np h=>exact .np O (O)
def MG {H:ZJ}(hc:Clo H)(ho:ZN H H2):FzH (fun id=>H.A<=id) H2 (jV H (H2.A-H.A)) where
 gone id hs:=by simp[jV,Nat.not_lt.2 hs]
 kept id b hs hb:=by
  have hlt:id<H.A:=Xo hs;rw[ho.nb id hlt]at hb;have hbb:=hc.below id b hb;refine⟨by rw[ud];omega,b,by rw[zd hlt];exact hb,?_⟩;cases b with
  |nt=>trivial
  |mp=>rfl
  |J g e cells=>exact⟨rfl,rfl,rfl,fun i h _=>.nb (hbb i h) (by rw[ud];omega)⟩
  |loop st pend n env ps asg body=>exact⟨rfl,rfl,rfl,rfl,rfl,rfl,rfl,fun t ht=>.nb (hbb t ht) (by rw[ud];omega)⟩
 none id hs hb:=by
  have hlt:=Xo hs;rw[ho.nb id hlt]at hb;rw[zd hlt];exact hb
def W.MH {rd:Option Nat}{Q:AX->St->Prop}{c:Code}{H:ZJ}(hG:gD G)(hc:Clo H)(ho:ZN H H2)(hv:∀t,Fz (fun id=>H.A<=id) H2 H2.A (ρ t) (ρ' t))
  (hri:fZ (jV H (H2.A-H.A)) rd) (h:W P G n rd c Q ⟨ρ',jV H (H2.A-H.A)⟩):W P G n rd c Q ⟨ρ,H2⟩:=by
 have hnx:(jV H (H2.A-H.A)).A=H2.A:=by rw[ud];have:=ho.A;omega
 refine W.BQ (s:=⟨ρ,H2⟩) (s':=⟨ρ',jV H (H2.A-H.A)⟩) (eF.freeze hG (MG hc ho) fun t=>?_) (Nat.le_of_eq hnx.symm) hri h;show Fz _ H2 (jV H (H2.A-H.A)).A _ _;rw[hnx];exact hv t
def Fz.put {H:ZJ}(h:∀t,Fz S H nx (ρ t) (ρ' t))(hv:Fz S H nx v v'):∀t,Fz S H nx (aW ρ (some d) v t) (aW ρ' (some d) v' t):=by
 intro t;simp only[aW];split
 ·exact hv
 ·exact h t
def Fz.MI {H:ZJ}(hv:Fz S H nx v v')(h:∀t,Fz S H nx (ρ t) (ρ' t)):∀t,Fz S H nx (aW ρ (some d) v t) (aW ρ' (some d) v' t):=.put h hv
def Fz.aE {H:ZJ}(na:List (List Int)):Fz S H nx (.Q na.length (na.map ah)) (.Q na.length (na.map ah)) :=
 .Q rfl fun i h _=>by simp only[VO];exact .dK _
def Fz.env {H:ZJ}{args':List ZK}(hl:args'.length=args.length)(h:∀i (h:i<args.length) (h':i<args'.length),Fz S H nx args[i] args'[i]):∀t,Fz S H nx (ja args t) (ja args' t):=by
 intro t;rw[yM,yM];by_cases ht:t<args.length
 ·rw[Vz ht,Vz O];exact h t ht (O)
 ·rw[VD O,VD O];exact .lit _
def Fz.MJ {H:ZJ}(h:∀v,v∈args->Below H.A v)(hn:H.A<=nx):∀t,Fz (fun id=>H.A<=id) H2 nx (ja args t) (ja args t) :=
 .env rfl fun i hi _=>.nb (h _ (Wo _)) hn
end Go.Hx
namespace Go.Hx
open Go.ChangeShapes Go.WideShapes Go.RowKit
variable {P:Program} {W:World} {H:Type} {enc:TypeId × Value->H} {spare:Nat->Bool} {held:Bool}
variable {d:DataW H}{φ:DataW H->List ZK->Prop}{k:IntKind}{ps:List MemPlace}{b:Nat}{r:Reach}{α:Type}{e t:TypeId}{v:Value}
def iw.mono {ψ:DataW H->List ZK->Prop}(h:iw enc P W spare held t φ)(hm:∀d as,φ d as->ψ d as):iw enc P W spare held t ψ:=fun fuel cs x hx =>
 let ⟨as,h1,h2⟩:=h fuel cs x hx;⟨as,h1,hm _ _ h2⟩
def rS (k:IntKind)(l:List Int):List ZK:=l.map fun n=>.lit (.int k n)
def B3 {f:α->List ZK}{q:α->Prop}(hφ:∀d as,φ d as->∃a,as=f a/\q a):∀ {na:List (List ZK)} {ds:List (DataW H)},B0 φ ds na ->
  ∃l:List α,na=l.map f/\∀a,a∈l->q a:=by
 intro na
 induction na with
 |nil=>intro ds _;exact⟨[],rfl,fun a h=>by cases h⟩
 |cons r na ih =>
  intro ds h;obtain⟨h1,h2⟩:=h;cases ds with
  |nil=>simp at h1
  |cons d ds =>
   obtain⟨a,ha,hq⟩:=hφ _ _ (h2 0 ZF ZF);obtain⟨l,hl,hq2⟩:=ih (ds:=ds) ⟨by simpa using h1,fun i hi hi'=>h2 (i+1) (by simpa using hi) (by simpa using hi')⟩;refine⟨a :: l,by simp only[List.map_cons,<- hl];simp only[Wq]at ha;rw[ha],fun b hb=>?_⟩;rcases List.mem_cons.1 hb with rfl|hb
   ·exact hq
   ·exact hq2 b hb
def If {β:Type}(f:α->β)(l:List α):(l.map fun a=>[f a]).flatten=l.map f:=by
 induction l with
 |nil=>rfl
 |cons a l ih=>simp only[List.map_cons,List.flatten_cons,ih];rfl
def vO (ht:P.underlying t=some (.slice e))(he:P.underlying e=some (.int k))(hc:P.cellsOf e=1):
  iw enc P W spare held t fun _ as=>∃l:List Int,as=[.Q l.length (rS k l)]/\l.length<=maxLen/\∀c,c∈l->(Lit.int k c).wf=true :=
 (B1 ht O (qy he)).mono fun d as h=>by
  rcases h with ⟨_,rfl⟩|⟨ds,rest,na,_,rfl,hr,_,hl⟩
  ·exact⟨[],rfl,ZG,fun c h=>by cases h⟩
  ·obtain⟨l,rfl,hq⟩:=B3 (f:=fun n=>[ZK.lit (.int k n)]) (q:=fun n=>(Lit.int k n).wf=true) (fun d as ⟨n,_,h2,h3⟩=>⟨n,h2,h3⟩) hr;refine⟨l,?_,by simpa using hl,hq⟩;rw[VJ];congr 2;exact If _ l
def Ig (hop:iw enc P W spare held t φ)
  (ht:(∃fs,P.underlying t=some (.struct fs))\/∃n e,P.underlying t=some (.array n e)) (hval:Value.okWide P W r b t v) (hd:DataW.Trod enc P W 0 spare held t v d ps):
  ∃as,ZO P jQ cZ W (.agg as) v/\φ d as:=by
 obtain⟨cs,rfl⟩:∃cs,v=.agg cs:=by
  unfold Value.okWide at hval;rcases ht with ⟨fs,ht⟩|⟨n,e,ht⟩
  ·rw[ht]at hval;obtain⟨cs,h,_⟩:=hval;exact⟨cs,h⟩
  ·rw[ht]at hval;obtain⟨cs,h,_⟩:=hval;exact⟨cs,h⟩
 obtain⟨fuel,hf⟩:=hd;obtain⟨as,hr,hφ⟩:=hop _ _ _ hf;refine⟨as,?_,hφ⟩;have:=ZO.agg (P:=P) (Γ:=jQ) (H:=cZ) (w:=W) (cells:=as) (cs:=cs.toList) hr.1 hr.2;simpa using this
def B4 {ψ:ZK->Prop}(hop:iw enc P W spare held t φ)(h1:∀d as,φ d as->∃a,as=[a]/\ψ a)
  (hno:∀cs,¬Value.okWide P W r b t (.agg cs)) (hval:Value.okWide P W r b t v) (hd:DataW.Trod enc P W 0 spare held t v d ps):∃a,ZO P jQ cZ W a v/\ψ a:=by
 have hc:v.cells.toList=[v]:=by
  cases v with
  |agg cs=>exact absurd hval (hno cs)
  |_=>rfl
 obtain⟨fuel,hf⟩:=hd;rw[hc]at hf;obtain⟨as,hr,hφ⟩:=hop _ _ _ hf;obtain⟨a,rfl,hψ⟩:=h1 _ _ hφ;exact⟨a,hr.2 0 ZF ZF,hψ⟩
def Ih (ht:P.underlying t=some (.int k))(cs:Array Value):¬Value.okWide P W r b t (.agg cs):=fun h=>by
 obtain⟨n,hn⟩:=okWide_int ht h;cases hn
def Ii (ht:P.underlying t=some (.slice e))(cs:Array Value):¬Value.okWide P W r b t (.agg cs):=fun h=>by
 simp[Value.okWide,ht,Cell.okWide,Cell.ok]at h
def Ij (ht:P.underlying t=some (.int k))(hval:Value.okWide P W r b t v)(hd:DataW.Trod enc P W 0 spare held t v d ps):
  ∃n,ZO P jQ cZ W (.lit (.int k n)) v/\(Lit.int k n).wf=true:=by
 obtain⟨a,h1,n,rfl,h2⟩:=B4 (ψ:=fun a=>∃n,a=.lit (.int k n)/\(Lit.int k n).wf=true) (qy ht) (fun d as ⟨n,_,h2,h3⟩=>⟨_,h2,n,rfl,h3⟩) (Ih ht) hval hd;exact⟨n,h1,h2⟩
def Ik (ht:P.underlying t=some (.slice e))(he:P.underlying e=some (.int k))(hc:P.cellsOf e=1)
  (hval:Value.okWide P W r b t v) (hd:DataW.Trod enc P W 0 spare held t v d ps):∃l:List Int,ZO P jQ cZ W (.Q l.length (rS k l)) v/\l.length<=maxLen/\∀c,c∈l->(Lit.int k c).wf=true:=by
 obtain⟨a,h1,n,rfl,h2⟩:=B4 (ψ:=fun a=>∃l:List Int,a=.Q l.length (rS k l)/\l.length<=maxLen/\∀c,c∈l->(Lit.int k c).wf=true) (vO ht he hc) (fun d as ⟨n,h2,h3⟩=>⟨_,h2,n,rfl,h3⟩) (Ii ht) hval hd;exact⟨n,h1,h2⟩
def wf_u8 {n:Int}(h:(Lit.int .u8 n).wf=true):0<=n/\n<=255:=by
 simpa[Lit.wf,IntKind.min,IntKind.max,IntKind.signed,IntKind.bits] using h
end Go.Hx
namespace Go.Hx
attribute [go_sem] List.replicate_one List.flatten_cons List.flatten_nil List.length_append List.append_nil Nat.sub_zero Bool.not_true Bool.not_false
attribute [go_sem] Bool.true_eq_false List.map_eq_nil_iff yS Int.le_refl decide_true decide_false eq_self List.getElem?_map
attribute [go_sem] IL IM IN IP IQ IR IS IT
attribute [go_sem] IU IV IW IX IZ IY I0 I1
attribute [go_sem] I3 I4 I5 I6 IB IC ID IE
attribute [go_sem] IF IG IH II IJ IK noGoto_normal noGoto_exit
attribute [go_sem] noGoto_ret noGoto_panic px vV yL iB Ca Ix
attribute [go_sem] Iy Jg Jh Kd J8 J9 Ka Kc
attribute [go_sem] List.getElem?_toArray Option.bind_some Ke Kf Kg Kh Ki Kj
attribute [go_sem] Kk Kl Km Kn Ko Kp Kq Kr
attribute [go_sem] Ks Kt Ku Kv Kw Kx Ky Kz
attribute [go_sem] KA KB KC KD KE Le r9 Lf
attribute [go_sem] Lg Lh Cq Li Lj Lk Ll Lm
attribute [go_sem] Ln Lo Lp Lq Lr Ls Lt List.set_cons_zero
attribute [go_sem] List.set_cons_succ Lu Lv Lw Lx Ly Lz LA
attribute [go_sem] LB LC LD LF LG LH LI LJ
attribute [go_sem] LK LL LM LN LO LP LR LS
attribute [go_sem] uc yZ LU LV LW LX LY
attribute [go_sem] LZ L5 L6 L7 L8 L9 Ma Mb
attribute [go_sem] Mc Md Me Mf Mg Mh Mi Mj
attribute [go_sem] Mk Ml Mm Mn Mo Mp Mq Mr
attribute [go_sem] Ms fa aR aa Int.toNat_natCast Int.natCast_nonneg ah List.all_cons
attribute [go_sem] List.all_nil Bool.and_true Nat.mul_one KF KG KH KI KJ
attribute [go_sem] KK KL KM KN KO KP KQ
attribute [go_sem] KR KT KU KW KV
attribute [go_sem] KX KY KZ K0 List.take_succ_cons List.take_zero
attribute [go_sem] List.take_nil List.drop_succ_cons List.drop_zero List.drop_nil List.forall_mem_cons List.not_mem_nil List.mem_cons List.mem_singleton
attribute [go_sem] or_false false_or or_true true_or not_or false_implies implies_true forall_const
attribute [go_sem] Jk Jl Jm Jn Jo Jp Jq Jr
attribute [go_sem] Js Jt Ju Jv Jw Jx Jy Jz
attribute [go_sem] JA JB JC JD JE Bool.false_eq_true JF JG
attribute [go_sem] JH JI JJ JK JL JM
attribute [go_sem] JN JO builtin_len builtin_append builtin_copy builtin_min builtin_max JP
attribute [go_sem] JQ JR JS JT JU JV JW JX
attribute [go_sem] JY JZ J1 aM tR Cd Ce yQ
attribute [go_sem] J6 yO J7 J5 List.map_cons List.map_nil if_true if_false
attribute [go_sem] ne_eq not_false_eq_true not_true_eq_false true_and and_true false_and and_false List.length_cons
attribute [go_sem] List.length_nil Nat.zero_add Nat.add_zero Option.isSome_some List.append_assoc List.cons_append List.nil_append Option.map_some
attribute [go_sem] Option.map_none fZ yM List.getElem?_cons_zero List.getElem?_cons_succ List.getElem?_nil Option.getD_some Option.getD_none
attribute [go_sem] I7 I9 Ja Jb Jc Jd Je Jf
attribute [go_sem] Mu Mv Mw Int.natCast_zero Int.cast_ofNat_Int MC MD
attribute [go_sem] J2 J3 MA MB ME Mx My aZ Nat.le_refl
end Go.Hx
namespace Go.Hx
variable {P:Program} {G:Nat->Option (List ZK)} {H H':ZJ}
variable {f:FuncId}{args args' cs cs' z:List ZK}{id lo lo' n nx:Nat}{S:Nat->Prop}{e e0 e1 t:TypeId}{v x:ZK}{b:ZQ}
def ZJ.cut (H:ZJ)(n:Nat):ZJ:=⟨fun j=>if j<n then H.get j else none,H.A⟩
def wA (h:id<n):(H.cut n).get id=H.get id:=by simp[ZJ.cut,h]
def MK (h:n<=id):(H.cut n).get id=none:=by simp[ZJ.cut,Nat.not_lt.2 h]
theorem ZN.cut {B:ZJ}(h:ZN B H):ZN B (H.cut B.A):=⟨h.A,fun id hi=>(wA hi).trans (h.nb id hi)⟩
open Classical in
def Fz.dead {H:ZJ}(h:Below nx v):Fz S H nx v v:=by
 induction h with
 |lit v=>exact .lit v
 |Q _ ih=>exact .Q rfl fun i h _=>ih i h
 |ni _ ih=>exact .ni rfl fun i h _=>ih i h
 |agg _ ih=>exact .agg rfl fun i h _=>ih i h
 |nf _ ih=>exact .nf rfl fun i h _=>ih i h
 |Z _ _ ih1 ih2=>exact .Z rfl rfl (fun i h _=>ih1 i h) fun i h _=>ih2 i h
 | @U id _ _ _ _ h=>by_cases hs:S id;exact .deadOwn h hs;exact .U h hs
 | @M id _ _ h=>by_cases hs:S id;exact .deadPtr h hs;exact .M h hs
 | @np id h=>by_cases hs:S id;exact .deadYld h hs;exact .np h hs
def ML (hc:Clo H)(n:Nat):FzH (fun id=>n<=id) H (H.cut n) where
 gone id hs:=MK hs
 kept id b hs hb:=by
  have hlt:id<n:=Xo hs;have hbb:=hc.below id b hb;refine⟨hc.lt id b hb,b,by rw[wA hlt];exact hb,?_⟩;cases b with
  |nt=>trivial
  |mp=>rfl
  |J g e cells=>exact⟨rfl,rfl,rfl,fun i h _=>.dead (hbb i h)⟩
  |loop st pend n env ps asg body=>exact⟨rfl,rfl,rfl,rfl,rfl,rfl,rfl,fun t ht=>.dead (hbb t ht)⟩
 none id hs hb:=by rw[wA (Xo hs)];exact hb
variable {K:ZP->ZJ->Prop}
def ag.mL (n:Nat)(hG:gD G)(hl:args'.length=args.length)(hv:∀i (h:i<args.length) (h':i<args'.length),Fz (fun id=>n<=id) H H.A args[i] args'[i])
  (h:ag P G f args' (H.cut n) K):ag P G f args H K:=by
 refine⟨h.1,fun Γ w cargs R hr=>?_⟩;have F:=ML R.Z n;have R0:=F.rel hG R;have E0:ZX Γ H w (gY (fun id=>n<=id) Γ) (H.cut n) w:=F.bK;refine(h.2 _ w cargs R0 ⟨by have:=hr.1;omega,fun i h1 h2=>(hv i O h1).sound R F (hr.2 i O h2)⟩).mono ?_;rintro e w' ⟨r,H',Γ',h1,h2,h3,h4,h5⟩;exact⟨r,H',Γ',h1,h2,h3,E0.trans ZI h4,h5⟩
theorem au.mL (n:Nat)(hG:gD G)(hl:args'.length=args.length)(hv:∀i (h:i<args.length) (h':i<args'.length),Fz (fun id=>n<=id) H H.A args[i] args'[i])
  (h:ag P G f args' (H.cut n) K):au P G (.Z f [] []) args H K:=by
 refine au.Z (by simpa using ag.mL n hG hl hv h)
def aD (lo:Nat)(H:ZJ)(e:TypeId)(v:ZK)(cs:List ZK):Prop :=
 (v=.lit (.slice none 0 0)/\cs=[])\/∃id g,lo<=id/\id<H.A/\v=.U id g 0 cs.length 1/\H.get id=some (.J g e cs)
def aD.nil :aD lo H e (.lit (.slice none 0 0)) []:=.inl ⟨rfl,rfl⟩
def aD.nc (h:aD lo H e v cs)(hl:lo'<=lo)(hn:H.A<=H'.A)(hk:∀id g,lo<=id->id<H.A->H.get id=some (.J g e cs)->v=.U id g 0 cs.length 1->H'.get id=H.get id):aD lo' H' e v cs:=by
 rcases h with h|⟨id,g,h1,h2,h3,h4⟩
 ·exact .inl h
 ·exact .inr ⟨id,g,O,O,h3,by rw[hk id g h1 h2 h4 h3];exact h4⟩
def aD.over (h:aD lo H e v cs)(ho:ZN H H'):aD lo H' e v cs:=h.nc ZI ho.A fun id _ _ h2 _ _=>ho.nb id h2
theorem aD.one (h:aD lo H e v cs):v.one=true:=by
 rcases h with ⟨rfl,_⟩|⟨_,_,_,_,rfl,_⟩<;>rfl
theorem aD.cells (h:aD lo H e v cs):v.cells=[v]:=by
 rcases h with ⟨rfl,_⟩|⟨_,_,_,_,rfl,_⟩<;>rfl
def aD.fz (h:aD lo H e v cs)(hS:∀i,lo<=i->S i)(hl:cs'.length=cs.length)
  (hc:∀i (h:i<cs.length) (h':i<cs'.length),Fz S H nx cs[i] cs'[i]):Fz S H nx v (.Q cs'.length cs'):=by
 rcases h with ⟨rfl,rfl⟩|⟨id,g,h1,_,rfl,h4⟩
 ·obtain rfl:=VF hl;exact .nil
 ·rw[hl];refine .nz (hS id h1) h4 O fun j hj h2 h'=>?_;simp only[Nat.zero_add]at h2 ⊢;exact hc j h2 h'
def aD.hJ {l:List Int}(h:aD lo H e v (ints l))(hS:∀i,lo<=i->S i):Fz S H nx v (ah l):=by
 have:=h.fz (S:=S) (nx:=nx) (cs':=ints l) hS rfl fun i hi _=>by simp only[ints,VO];exact .lit _
 rw[aR]at this;exact this
def aD.new :aD H.A (ext H [.J 0 e cs]) e (.U H.A 0 0 cs.length 1) cs :=
 .inr ⟨H.A,0,ZI,by simp[aM],rfl,by simpa using bH H [.J 0 e cs] 0 ZF⟩
def aX (h:id<H.A):(ext H [b]).get id=H.get id:=dM H [b] id h
def cI :(ext H [b]).get H.A=some b:=by simpa using bH H [b] 0 (ZF)
def wB (h:n=H.A):H.lay n b=some (ext H [b]):=by subst h;exact tR H b
def sd {src:List ZK}(ht:P.underlying t=some (.slice e))(hz:P.cellsOf e=1)(hzero:cw P e=some z)(hx:src.all ZK.one=true)
  (hb:(cs.length+src.length)*P.bytesOf e<=2 ^ 46/\cs.length+src.length<=2 ^ 46) (ho:aD lo H e v cs) (hlo:lo<=H.A) (hn:n=H.A):
  ∃v' H',cr P H n t t v (.Q src.length src)=some (v',H')/\aD lo H' e v' (cs++src)/\H.A<=H'.A/\(∀k,k<H.A->(∀g n,v≠.U k g 0 n 1)->H'.get k=H.get k):=by
 have hsrc:dH H 1 (.Q src.length src)=some (src.length,src):=by
  unfold dH;simp
 by_cases h0:src.length=0
 ·have e0:src=[]:=VF h0;subst e0;refine⟨v,H,?_,?_,ZI,fun _ _ _=>rfl⟩
  ·rcases ho with ⟨rfl,rfl⟩|⟨i,g,h1,h2,rfl,h4⟩
   ·unfold cr;rw[ht];simp only[hzero,hz,Option.bind_some];rw[hsrc];rfl
   ·unfold cr;rw[ht];have hl:=ae h4;simp only[hzero,hz,Option.bind_some,hsrc,hl];rw[VA ⟨trivial,trivial,O,hb.1,hb.2,rfl⟩];simp
  ·rw[List.append_nil];exact ho
 rcases ho with ⟨rfl,rfl⟩|⟨i,g,h1,h2,rfl,h4⟩
 ·refine⟨.U H.A 0 0 src.length 1,ext H [.J 0 e src],?_,.inr ⟨H.A,0,hlo,by simp[aM],ZF,by simpa using cI⟩,by simp[aM],fun k hk _=>aX hk⟩;unfold cr;rw[ht];simp only[hzero,hz,Option.bind_some,hsrc];rw[Vx h0,VA (by simpa using hb),wB hn,hn];rfl
 ·refine⟨.U i (g+1) 0 (cs.length+src.length) 1,H.upd i (.J (g+1) e (cs++src)),?_,.inr ⟨i,g+1,h1,h2,ZF,by rw[af,VA rfl]⟩,ZI,fun k hk hne=>?_⟩
  ·unfold cr;rw[ht];have hl:=ae h4;simp only[hzero,hz,Option.bind_some,hsrc,hl];rw[VA ⟨trivial,trivial,O,hb.1,hb.2,hx⟩,Vx h0];simp
  ·rw[af,Vx];rintro rfl;exact hne _ _ rfl
def iR (ht:P.underlying t=some (.slice e))(hz:P.cellsOf e=1)(hzero:cw P e=some z)(hx:x.one=true)
  (hb:(cs.length+1)*P.bytesOf e<=2 ^ 46/\cs.length+1<=2 ^ 46) (ho:aD lo H e v cs) (hlo:lo<=H.A) (hn:n=H.A+1):
  ∃v' H',cr P (ext H [.J 0 e [x]]) n t t v (.U H.A 0 0 1 1)=some (v',H')/\aD lo H' e v' (cs++[x])/\H.A<=H'.A/\(∀k,k<H.A->(∀g n,v≠.U k g 0 n 1)->H'.get k=H.get k):=by
 have hsrc:dH (ext H [.J 0 e [x]]) 1 (.U H.A 0 0 1 1)=some (1,[x]):=by
  unfold dH;have:=ae (H:=ext H [.J 0 e [x]]) (g:=0) (cI (b:=.J 0 e [x]));simp[this]
 have hne:(ext H [ZQ.J 0 e [x]]).A=H.A+1:=rfl;rcases ho with ⟨rfl,rfl⟩|⟨i,g,h1,h2,rfl,h4⟩
 ·refine⟨.U (H.A+1) 0 0 1 1,ext (ext H [.J 0 e [x]]) [.J 0 e [x]],?_,.inr ⟨H.A+1,0,O,by simp[aM],ZF,?_⟩,by simp[aM];omega,fun k hk _=>?_⟩
  ·unfold cr;rw[ht];simp only[hzero,hz,Option.bind_some,hsrc];rw[Vx ZG,VA (by simpa using hb),wB (by rw[hn,hne]),hn];rfl
  ·rw[<- hne];exact cI
  ·rw[aX (by rw[hne];omega),aX hk]
 ·have h4':(ext H [.J 0 e [x]]).get i=some (.J g e cs):=by rw[aX h2];exact h4
  refine⟨.U i (g+1) 0 (cs.length+1) 1,(ext H [.J 0 e [x]]).upd i (.J (g+1) e (cs++[x])),?_,.inr ⟨i,g+1,h1,by rw[aA,hne];omega,ZF,by rw[af,VA rfl]⟩,by rw[aA,hne];omega,fun k hk hne=>?_⟩
  ·unfold cr;rw[ht];have hl:=ae h4';simp only[hzero,hz,Option.bind_some,hsrc,hl];rw[VA ⟨trivial,trivial,O,hb.1,hb.2,by simp[hx]⟩];simp
  ·rw[af,Vx,aX hk];rintro rfl;exact hne _ _ rfl
def iC (lo:Nat)(H:ZJ)(e1 e0:TypeId)(v:ZK)(na:List (List ZK)):Prop :=
 ∃cs:List ZK,aD lo H e1 v cs/\cs.length=na.length/\∀(j:Nat) (r:List ZK) (c:ZK),na[j]?=some r->cs[j]?=some c->aD lo H e0 c r
theorem iC.nil :iC lo H e1 e0 (.lit (.slice none 0 0)) []:=⟨[],.nil,rfl,fun j r c h=>by simp at h⟩
theorem iC.over {na:List (List ZK)}(h:iC lo H e1 e0 v na)(ho:ZN H H'):iC lo H' e1 e0 v na:=by
 obtain⟨cs,c1,c2,c3⟩:=h;exact⟨cs,c1.over ho,c2,fun j r c hr hc=>(c3 j r c hr hc).over ho⟩
theorem iC.fz {na rows':List (List ZK)}(h:iC lo H e1 e0 v na)(hS:∀i,lo<=i->S i)(hl:rows'.length=na.length)
  (hr:∀(j:Nat) (r r':List ZK),na[j]?=some r->rows'[j]?=some r'->r'.length=r.length/\∀i (h:i<r.length) (h':i<r'.length),Fz S H nx r[i] r'[i]):
  Fz S H nx v (.Q rows'.length (rows'.map fun r=>.Q r.length r)):=by
 obtain⟨cs,h1,h2,h3⟩:=h;have:=h1.fz (S:=S) (nx:=nx) (cs':=rows'.map fun r=>.Q r.length r) hS (by simp[h2,hl]) fun i hi hi'=>by
  simp only[VO];have hi2:i<na.length:=O
  have hi3:i<rows'.length:=O
  obtain⟨a1,a2⟩:=hr i na[i] rows'[i] (Vz hi2) (Vz hi3);exact(h3 i na[i] cs[i] (Vz hi2) (Vz hi)).fz (S:=S) (nx:=nx) (cs':=rows'[i]) hS a1 a2
 rw[VJ]at this;exact this
def aD.wz {e':TypeId}{u:ZK}(hv:aD lo H e v cs)(hu:aD lo' H e' u cs')(hne:e≠e')(hn:H.A<=H'.A)
  (hp:∀k,k<H.A->(∀g n,v≠.U k g 0 n 1)->H'.get k=H.get k):aD lo' H' e' u cs':=by
 refine hu.nc ZI hn fun i g h1 h2 h3 _=>hp i h2 fun g' n he=>?_;rcases hv with ⟨rfl,_⟩|⟨j,g2,_,_,rfl,h4⟩
 ·cases he
 ·have:=ZK.U.inj he;obtain rfl:j=i:=this.1;rw[h3]at h4;cases h4;exact hne rfl
def iC.app {na:List (List ZK)}{r:List ZK}(ht:P.underlying t=some (.slice e1))(hz:P.cellsOf e1=1)(hzero:cw P e1=some z)(hby:P.bytesOf e1=24)(hne:e1≠e0)
  (hb:na.length<2 ^ 40) (h:iC lo H e1 e0 v na) (hlo:lo<=H.A) (hx:aD lo H e0 x r) (hn:n=H.A+1):
  ∃v' H',cr P (ext H [.J 0 e1 [x]]) n t t v (.U H.A 0 0 1 1)=some (v',H')/\iC lo H' e1 e0 v' (na++[r])/\H.A<=H'.A/\(∀k,k<H.A->k<lo->H'.get k=H.get k):=by
 obtain⟨cs,h1,h2,h3⟩:=h;obtain⟨v',H',hA,hO,hL,hp⟩:=iR (t:=t) ht hz hzero hx.one (by rw[hby,h2];omega) h1 hlo hn;refine⟨v',H',hA,⟨cs++[x],hO,by simp[h2],fun j r' c hr hc=>?_⟩,hL,fun k hk hkl=>hp k hk fun g n he=>?_⟩
 ·have key:∀u l,aD lo H e0 u l->aD lo H' e0 u l:=fun u l hu=>h1.wz hu hne hL hp;rcases VV j na.length with hj|hj
  ·rw[VH hj]at hr;rw[VH O]at hc;exact key _ _ (h3 j r' c hr hc)
  ·rw[VS hj]at hr;rw[VS O]at hc;have hj0:j-na.length=0:=by
    rcases WM (j-na.length) with h|h
    ·exact h
    ·rw[VD (by simp;omega)]at hr;cases hr
   have hj1:j-cs.length=0:=O;rw[hj0]at hr;rw[hj1]at hc;cases hr;cases hc;exact key _ _ hx
 ·rcases h1 with ⟨rfl,_⟩|⟨i,g2,a1,_,rfl,_⟩
  ·cases he
  ·have:=ZK.U.inj he;omega
attribute [go_sem] Int.reduceToNat Int.reduceLE Int.reduceLT Int.reduceAdd Int.reduceSub Int.reduceMul Int.reduceEq Int.reduceNe Nat.reduceEqDiff Nat.reducePow Nat.reduceDiv Nat.reduceMod Nat.reduceAdd Nat.reduceMul Nat.reduceSub Nat.reduceLT Nat.reduceLeDiff reduceIte reduceCtorEq
end Go.Hx
