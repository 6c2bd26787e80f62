/- Own work: contracts. -/
import Derived.Test.YtjhbjbninamhnaaGreatConC
set_option linter.all false
set_option maxHeartbeats 8000000
set_option maxRecDepth 100000
namespace Go.Hx
variable {P:Program} {H H':Xn}
def qC {t e:TypeId}{lo n m:Nat}{v x:W9}{cs src:List W9}{z:List W9}(ht:P.underlying t=some (.slice e))(hz:P.cellsOf e=1)(hzero:bU P e=some z)(hsrc:cX H 1 x=some (m,src))(hm:src.length=m)(hx:src.all W9.one=true)
  (hb:(cs.length+m)*P.bytesOf e<=2 ^ 47/\cs.length+m<=2 ^ 47) (ho:aD lo H e v cs) (hlo:lo<=H.A) (hn:n=H.A):
  ∃v' H',bT P H n t t v x=some (v',H')/\aD lo H' e v' (cs++src)/\H.A<=H'.A/\(∀k,k<H.A->(∀g n,v≠.Q k g 0 n 1)->H'.get k=H.get k):=by
 subst hm;obtain⟨v',H',hA,h2⟩:=uE (H:=H) (n:=n) ht hz hzero hx hb ho hlo hn;refine⟨v',H',?_,h2⟩;rw[<- hA];have e2:cX H 1 (.M src.length src)=some (src.length,src):=by unfold cX;simp
 unfold bT;rw[ht];simp only[hz,hsrc,e2]
end Go.Hx
namespace Go.Proofs
open Go.Hx Tryz
variable {a b g:Int}{P l:List Int}{cs:List W9}{i k lo n nx u:Nat}{S:Nat->Prop}{e:TypeId}{v:W9}{H:Xn}
def U8 (n:Int):Prop:=0<=n/\n<256
def NU (n:Nat)(hn:n<=5)(ord:List Int)(H:Xn)(K:Xd->Xn->Prop)(hK:K (.ret (ah (List.replicate n 1))) H):
  ae prog G0 133 [.agg [.M n (bP (List.replicate n 0)),(.lit (.int .u16 0)),.M ord.length (bP ord)]] H K:=by
 refine ae.Z ⟨_,func133,rfl,rfl⟩ fun hcl=>?_;refine ae.st (n:=28) (rs:=[.tmp 2]) func133 ?_;simp only[go_sem];obtain⟨H1,hH1⟩:∃H1,H1=ext H [.J 0 162 [.M n (bP (List.replicate n 0)),.lit (.int .u16 0),.M ord.length (bP ord)]]:=⟨_,rfl⟩
 have l1:=af (show H1.get H.A=some (.J 0 162 [.M n (bP (List.replicate n 0)),.lit (.int .u16 0),.M ord.length (bP ord)]) by rw[hH1];exact cV ..);have n1:H1.A=H.A+1:=hH1▸rfl
 have o1:Xb H H1:=hH1▸.ext _ _
 rw[<- hH1];refine W.aP 134217720 (by rfl) (fun ρ H'=>∃k:Nat,ρ 4=aa k/\k<=n/\Xb H1 H'/\aD H1.A H' 3 (ρ 3) (ints (List.replicate k 1))) (fun ρ H=>n-(iv (ρ 4)).toNat) ?_ ?_
 ·simp only[go_sem];exact⟨0,rfl,O,.refl _,.nil⟩
 rintro ρ H' ⟨k,h4,hk,ov,h3⟩;refine W.en (fun E=>E 1=.R H.A 0 0 /\ E 3=ρ 3 /\ E 4=aa k) (by simp only[go_sem,h4]) fun E ⟨e1,e3,e4⟩=>?_
 refine W.vs ?_;have l2:=(ov.X (g:=0) (by omega:H.A<H1.A)).trans l1;by_cases hb:(k:Int)<n
 ·have h5:(k:Int)<5:=O
  have hg:(bP (List.replicate n 0))[k]?=some (.lit (.int .u8 0)):=uF (by rw[TH,SU O]);have hne:=aM hg;obtain⟨v',H2,hA,ov2,hO,hn2,_⟩:=mj 1 ov h3 (by simp;omega);have w1:=SN ((k:Int)+1) O;have hk0:(k:Int) >= 0:=O
  have w5:IntKind.i64.wrap (1+IntKind.i64.wrap (Int.tmod 0 4))=1:=W6
  simp only[go_sem,e1,e3,e4,l2,hb,h5,hk0,hg,hne,w1,w5,hA];refine⟨by have:=ov2.A;omega,⟨k+1,rfl,O,ov2,?_⟩,by rw[h4];simp only[aa,bj];omega⟩;rw[List.replicate_succ'];exact hO
 ·simp only[go_sem,e1,e3,e4,l2,hb];obtain rfl:k=n:=O
  exact ar.bE aH hcl (o1.trans ov) (h3.ie fun i hi=>O) hK
structure XK (n:Nat)(p:List Int):Prop where
 len:p.length=n
 nd:p.Nodup
 ng:∀x∈p,0<=x/\x<n
def NV {p:List Int}(h:XK n p)(at':Nat)(ha:at'<=n):XK (n+1) (p.take at'++(n:Int) :: p.drop at'):=by
 have hperm:(p.take at'++(n:Int) :: p.drop at').Perm ((n:Int) :: p):=by
  have:=List.perm_middle (a:=(n:Int)) (l₁:=p.take at') (l₂:=p.drop at')
  rwa [TA]at this
 refine⟨by rw[hperm.length_eq];simp[h.len],(hperm.nodup_iff).2 (U3.2 ⟨fun hm=>?_,h.nd⟩),fun x hx=>?_⟩
 ·have:=h.ng _ hm;omega
 ·rcases List.mem_cons.1 (hperm.mem_iff.1 hx) with rfl|h2
  ·omega
  ·have:=h.ng x h2;omega
def mH (ord:List Int)(k:Nat):Nat:=if k<ord.length then (ord.getD k 0 % ((k:Int)+1)).toNat else 0
def gH (ord:List Int):Nat->List Int
 |0=>[]
 |k+1=>(gH ord k).take (mH ord k)++(k:Int) :: (gH ord k).drop (mH ord k)
def NW (ord:List Int)(k:Nat):mH ord k<=k:=by
 unfold mH;split
 ·have:=UZ (ord.getD k 0) (show 0<(k:Int)+1 by omega);omega
 ·omega
theorem yw (ord:List Int):∀n:Nat,XK n (gH ord n)
 |0=>⟨rfl,by simp[gH],by simp[gH]⟩
 |n+1=>NV (yw ord n) _ (NW ord n)
def NX (n:Nat)(hn:n<=5)(ord:List Int)(hol:(ord.length:Int)<2 ^ 63)(ho8:∀x∈ord,U8 x)(H:Xn)(K:Xd->Xn->Prop)(hK:∀v H',Xb H H'->aD H.A H' 3 v (ints (gH ord n))->K (.ret v) H'):
  ae prog G0 99 [.agg [.M n (bP (List.replicate n 0)),.lit (.int .u16 0),.M ord.length (bP ord)]] H K:=by
 refine ae.Z ⟨_,func99,rfl,rfl⟩ fun hcl=>?_;refine ae.st (n:=42) (rs:=[.tmp 2]) func99 ?_;simp only[go_sem];obtain⟨H1,hH1⟩:∃H1,H1=ext H [.J 0 162 [.M n (bP (List.replicate n 0)),.lit (.int .u16 0),.M ord.length (bP ord)]]:=⟨_,rfl⟩
 have l1:=af (show H1.get H.A=some (.J 0 162 [.M n (bP (List.replicate n 0)),.lit (.int .u16 0),.M ord.length (bP ord)]) by rw[hH1];exact cV ..);have n1:H1.A=H.A+1:=hH1▸rfl
 have o1:Xb H H1:=hH1▸.ext _ _
 rw[<- hH1];refine W.aP 2199023255544 (by rfl) (fun ρ H'=>∃(k:Nat) (p:List Int),ρ 4=aa k/\k<=n/\p=gH ord k/\Xb H1 H'/\aD H1.A H' 3 (ρ 3) (ints p)) (fun ρ H=>n-(iv (ρ 4)).toNat) ?_ ?_
 ·simp only[go_sem];exact⟨0,[],rfl,O,rfl,.refl _,.nil⟩
 rintro ρ H' ⟨k,p,h4,hk,hpe,ov,h3⟩;have hp:XK k p:=by rw[hpe];exact yw ord k
 refine W.en (fun E=>E 1=.R H.A 0 0 /\ E 3=ρ 3 /\ E 4=aa k) (by simp only[go_sem,h4]) fun E ⟨e1,e3,e4⟩=>?_
 refine W.vs ?_;have l2:=(ov.X (g:=0) (by omega:H.A<H1.A)).trans l1;simp only[go_sem,e1,l2];refine az.Z (NU n hn ord _ _ ⟨trivial,?_⟩);by_cases hb:(k:Int)<n;rotate_left
 ·simp only[go_sem,Uq,e3,e4,hb];obtain rfl:k=n:=O
  exact ar.mk (o1.trans ov).A (hK _ _ (o1.trans ov) (by rw[<- hpe];exact h3.nb O W8 fun _ _ _ _ _ _=>rfl))
  -- the place
 rcases h3 with ⟨h3n,hpn⟩|⟨oi,og,hoi1,hoi2,h3o,hog⟩
 ·have p0:p=[]:=by cases p with
   |nil=>rfl
   |cons a l=>simp[ints]at hpn
  have pl:=hp.len;rw[p0]at pl;obtain rfl:k=0:=by simpa using pl.symm
  rw[h3n]at e3;have e4':E 4=aa 0:=e4;have hb':(0:Int)<n:=hb;by_cases ho:(0:Int)<ord.length
  ·obtain⟨b,hbg⟩:=aq (l:=ord) (i:=0) O;have b8:=ho8 b (an hbg);have hbg':=uF hbg;have hbne:=aM hbg';have w2:IntKind.i64.wrap b=b:=SN b (by have:=b8.1;have:=b8.2;omega);have w1:IntKind.i64.wrap 1=1:=W6;have m1:b.tmod 1=0:=W5;obtain⟨v2,Hb,hA2,ovB,hO2,hn2,hp2⟩:=mj (H:=H') (H':=H') (l:=[]) (v:=.lit (.slice none 0 0)) (0:Int) (.refl _) aD.nil W5;obtain⟨v3,Hc,hA3,hO3,hn3,hp3⟩:=qC (P:=prog) (H:=Hb) (t:=46) (n:=Hb.A) (m:=0) (v:=v2) (x:=.lit (.slice none 0 0)) (src:=[]) Tryz.underlying46 Tryz.fm Tryz.fq rfl rfl rfl (by rw[Tryz.fM];exact⟨W6,W6⟩) hO2 ovB.A rfl;have ovC:Xb H' Hc:=lX ovB hO2 hn3 hp3;have hA1:bT prog H' H'.A 46 46 (.lit (.slice none 0 0)) (.lit (.slice none 0 0))=some (.lit (.slice none 0 0),H'):=by
    unfold bT;rw[Tryz.underlying46];simp only[Tryz.fq,Tryz.fm,Option.bind_some,xS,if_true]
   have hO3':aD H1.A Hc 3 v3 (ints [0]):=by
    rw[List.append_nil]at hO3;exact hO3.nb ov.A W8 fun _ _ _ _ _ _=>rfl
   simp only[go_sem,Uq,e1,e3,e4',l2,hb',ho,hbg',hbne,w1,w2,m1,hA1,hA2,hA3];refine⟨by have:=ovC.A;have:=ov.A;omega,⟨1,[0],rfl,O,by simp[gH],ov.trans ovC,hO3'⟩,by rw[h4];simp only[aa,bj];omega⟩
  ·have w1:IntKind.i64.wrap 1=1:=W6;obtain⟨v2,Hb,hA2,ovB,hO2,hn2,hp2⟩:=mj (H:=H') (H':=H') (l:=[]) (v:=.lit (.slice none 0 0)) (0:Int) (.refl _) aD.nil W5;obtain⟨v3,Hc,hA3,hO3,hn3,hp3⟩:=qC (P:=prog) (H:=Hb) (t:=46) (n:=Hb.A) (m:=0) (v:=v2) (x:=.lit (.slice none 0 0)) (src:=[]) Tryz.underlying46 Tryz.fm Tryz.fq rfl rfl rfl (by rw[Tryz.fM];exact⟨W6,W6⟩) hO2 ovB.A rfl;have ovC:Xb H' Hc:=lX ovB hO2 hn3 hp3;have hA1:bT prog H' H'.A 46 46 (.lit (.slice none 0 0)) (.lit (.slice none 0 0))=some (.lit (.slice none 0 0),H'):=by
    unfold bT;rw[Tryz.underlying46];simp only[Tryz.fq,Tryz.fm,Option.bind_some,xS,if_true]
   have hO3':aD H1.A Hc 3 v3 (ints [0]):=by
    rw[List.append_nil]at hO3;exact hO3.nb ov.A W8 fun _ _ _ _ _ _=>rfl
   simp only[go_sem,Uq,e1,e3,e4',l2,hb',ho,w1,hA1,hA2,hA3];refine⟨by have:=ovC.A;have:=ov.A;omega,⟨1,[0],rfl,O,by simp[gH],ov.trans ovC,hO3'⟩,by rw[h4];simp only[aa,bj];omega⟩
 rw[h3o]at e3;have lo:=af hog;by_cases ho:(k:Int)<ord.length
 ·obtain⟨b,hbg⟩:=aq (l:=ord) (i:=k) O;have b8:=ho8 b (an hbg);have hbg':=uF hbg;have hbne:=aM hbg';have w0:=SN ((k:Int)+1) O;have w1:=w0;have w2:IntKind.i64.wrap b=b:=SN b (by have:=b8.1;have:=b8.2;omega);have m1:b.tmod ((k:Int)+1)=b % ((k:Int)+1):=TD b8.1;have m2:=VH b (show (k:Int)+1≠0 by omega);have m3:=UZ b (show 0<(k:Int)+1 by omega);have hz:¬(k:Int)+1=0:=O
  obtain⟨a,hat⟩:=S5 m2;have ha:a<=k:=O
  have hac:(0:Int)<=(a:Int):=O
  have hap:(a:Int)<=(p.length:Int):=by rw[hp.len];omega
  have hak:(0:Int)<=(a:Int)/\(a:Int)<=(p.length:Int):=⟨hac,hap⟩
  have pl:p.length=k:=hp.len;obtain⟨v1,Ha,hA1,hO1,hn1,hp1⟩:=qC (P:=prog) (H:=H') (t:=46) (n:=H'.A) (m:=a) (v:=.lit (.slice none 0 0)) (x:=.Q oi og 0 a 1) (src:=(ints p).take a) Tryz.underlying46 Tryz.fm Tryz.fq
   (by rw[se,SU rfl,lo];simp) (by simp[aS]<;>omega) (Tn.2 fun c hc=>by
    obtain⟨z,_,rfl⟩:=S4.1 (Tj hc);rfl) (by rw[Tryz.fM];simp<;>omega) aD.nil W8 rfl
  have ovA:Xb H' Ha:=⟨hn1,fun id hi=>hp1 id hi fun g n h=>by cases h⟩
  rw[List.nil_append,zE]at hO1;obtain⟨v2,Hb,hA2,ovB,hO2,hn2,hp2⟩:=mj (k:Int) ovA hO1 (by simp<;>omega);have hcl2:(ints (p.take a++[(k:Int)])).length<=k+1:=by rw[aS,List.length_append,Td];simp<;>omega
  have hlb:Hb.X oi og=some (3,ints p):=(ovB.X hoi2).trans lo;obtain⟨v3,Hc,hA3,hO3,hn3,hp3⟩:=qC (P:=prog) (H:=Hb) (t:=46) (n:=Hb.A) (m:=p.length-a) (v:=v2) (x:=.Q oi og a (p.length-a) 1) (src:=(ints p).drop a) Tryz.underlying46 Tryz.fm Tryz.fq
   (by rw[se,SU rfl,hlb];simp[SR,aS]) (by simp[aS]) (Tn.2 fun c hc=>by
    obtain⟨z,_,rfl⟩:=S4.1 (UM hc);rfl) (by rw[Tryz.fM];omega) hO2 ovB.A rfl
  have ovC:Xb H' Hc:=lX ovB hO2 hn3 hp3;have hla:Ha.X oi og=some (3,ints p):=(ovA.X hoi2).trans lo;rw[zF]at hO3;have hO3':aD H1.A Hc 3 v3 (ints (p.take a++(k:Int) :: p.drop a)):=by
   have:ints (p.take a++[(k:Int)])++ints (p.drop a)=ints (p.take a++(k:Int) :: p.drop a):=(by simp[ints]);rw[this]at hO3;exact hO3.nb ov.A W8 fun _ _ _ _ _ _=>rfl
  simp only[go_sem,Uq,e1,e3,e4,l2,hb,ho,hbg',hbne,w0,w2,m1,hz,hat,hac,hap,Int.toNat_natCast,lo,hlb,hA1,hA2,hA3];refine⟨by have:=ovC.A;omega,⟨k+1,_,rfl,O,by rw[gH,<- hpe,show mH ord k=a by unfold mH;rw[SU O,bq hbg,hat];rfl],ov.trans ovC,hO3'⟩,by rw[h4];simp only[aa,bj];omega⟩
 ·have w0:=SN ((k:Int)+1) O;have pl:p.length=k:=hp.len;obtain⟨v1,Ha,hA1,hO1,hn1,hp1⟩:=qC (P:=prog) (H:=H') (t:=46) (n:=H'.A) (m:=0) (v:=.lit (.slice none 0 0)) (x:=.Q oi og 0 0 1) (src:=(ints p).take 0) Tryz.underlying46 Tryz.fm Tryz.fq
   (by rw[se,SU rfl,lo];simp) (by simp[aS]<;>omega) (Tn.2 fun c hc=>by
    obtain⟨z,_,rfl⟩:=S4.1 (Tj hc);rfl) (by rw[Tryz.fM];simp<;>omega) aD.nil W8 rfl
  have ovA:Xb H' Ha:=⟨hn1,fun id hi=>hp1 id hi fun g n h=>by cases h⟩
  rw[List.nil_append,zE]at hO1;obtain⟨v2,Hb,hA2,ovB,hO2,hn2,hp2⟩:=mj (k:Int) ovA hO1 (by simp<;>omega);have hcl2:(ints (p.take 0++[(k:Int)])).length<=k+1:=by rw[aS,List.length_append,Td];simp<;>omega
  have hlb:Hb.X oi og=some (3,ints p):=(ovB.X hoi2).trans lo;obtain⟨v3,Hc,hA3,hO3,hn3,hp3⟩:=qC (P:=prog) (H:=Hb) (t:=46) (n:=Hb.A) (m:=p.length) (v:=v2) (x:=.Q oi og 0 (p.length) 1) (src:=(ints p).drop 0) Tryz.underlying46 Tryz.fm Tryz.fq
   (by rw[se,SU rfl,hlb];simp[SR,aS]) (by simp[aS]) (Tn.2 fun c hc=>by
    obtain⟨z,_,rfl⟩:=S4.1 (UM hc);rfl) (by rw[Tryz.fM];omega) hO2 ovB.A rfl
  have ovC:Xb H' Hc:=lX ovB hO2 hn3 hp3;have hla:Ha.X oi og=some (3,ints p):=(ovA.X hoi2).trans lo;rw[zF]at hO3;have hO3':aD H1.A Hc 3 v3 (ints (p.take 0++(k:Int) :: p.drop 0)):=by
   have:ints (p.take 0++[(k:Int)])++ints (p.drop 0)=ints (p.take 0++(k:Int) :: p.drop 0):=(by simp[ints]);rw[this]at hO3;exact hO3.nb ov.A W8 fun _ _ _ _ _ _=>rfl
  simp only[go_sem,Uq,e1,e3,e4,l2,hb,ho,w0,lo,hlb,hA1,hA2,hA3];refine⟨by have:=ovC.A;omega,⟨k+1,_,rfl,O,by rw[gH,<- hpe,show mH ord k=0 by unfold mH;rw[SQ O]],ov.trans ovC,hO3'⟩,by rw[h4];simp only[aa,bj];omega⟩
def pg (h:∀x∈l,0<=x):0<=l.sum:=by
 induction l with
 |nil=>simp
 |cons a l ih =>
  rw[T8];have:=h a W5;have:=ih fun x hx=>h x (by simp[hx]);omega
def B8 (h:l[i]?=some a):(l.set i b).sum=l.sum-a+b:=by
 induction l generalizing i with
 |nil=>simp at h
 |cons x l ih =>
  cases i with
  |zero=>simp at h;subst h;simp only[List.set_cons_zero,T8];omega
  |succ i =>
   simp only[List.set_cons_succ,T8];rw[ih (by simpa using h)];omega
def NY (h:∀x∈l,0<=x/\x<=b):l.sum<=b*l.length:=by
 induction l with
 |nil=>simp
 |cons a l ih =>
  rw[T8,List.length_cons];have:=(h a W5).2;have:=ih fun x hx=>h x (by simp[hx]);rw[show b*((l.length+1:Nat):Int)=b*l.length+b by rw[Int.natCast_add,U7];simp];omega
def wF (n:Nat)(bs:List Int)(from':Int):List Int:=(List.range n).map fun (k:Nat)=>if bs.length=0 then 0 else bs.getD ((from'+(k:Int)) % (bs.length:Int)).toNat 0 % 8
def B9 (n:Nat)(bs:List Int)(from':Int):(wF n bs from').length=n:=by simp[wF]
def Ca (bs:List Int)(from':Int)(h:k<n):(wF n bs from')[k]?=some (if bs.length=0 then 0 else bs.getD ((from'+(k:Int)) % (bs.length:Int)).toNat 0 % 8):=by
 unfold wF;rw[List.getElem?_map,Th h];rfl
def NZ (n:Nat)(bs:List Int)(from':Int):∀x∈wF n bs from',0<=x/\x<=7:=fun x hx=>by
 unfold wF at hx;obtain⟨k,_,rfl⟩:=S4.1 hx;split<;>omega
def uV (g s:Int)(st:List Int × Nat)(m:Nat):List Int × Nat:=if 0<st.1.getD m 0 then (st.1.set m (g*st.1.getD m 0 / s),m) else st
def jA (g:Int)(c:List Int)(m:Nat):List Int × Nat:=(List.range m).foldl (uV g c.sum) (c,0)
def Cb (g:Int)(c:List Int)(m:Nat):jA g c (m+1)=uV g c.sum (jA g c m) m:=by unfold jA;rw[TP,TZ];rfl
def oe (g:Int)(n:Nat)(bs:List Int)(from':Int):List Int:=(jA g (wF n bs from') n).1.set (jA g (wF n bs from') n).2 ((jA g (wF n bs from') n).1.getD (jA g (wF n bs from') n).2 0+(g-(jA g (wF n bs from') n).1.sum))
structure RInv (g:Int)(c:List Int)(m:Nat)(d:List Int)(last:Nat):Prop where
 dl:d.length=c.length
 d0:∀x∈d,0<=x
 dd:d.drop m=c.drop m
 dg:(d.take m).sum<=g
 ds:c.sum*(d.take m).sum<=g*(c.take m).sum
 la:last<c.length
def Cc {c:List Int}(hg:1<=g)(hc:∀x∈c,0<=x)(hl:0<c.length):∀m,m<=c.length->RInv g c m (jA g c m).1 (jA g c m).2:=by
 intro m
 induction m with
 |zero=>intro _;exact⟨rfl,hc,rfl,by simp;omega,W5,hl⟩
 |succ m ih =>
  intro hm;obtain⟨hdl,hd0,hdd,hdg,hds,hla⟩:=ih O;rw[Cb];generalize jA g c m=st at *
  obtain⟨d,last⟩:=st;simp only at hdl hd0 hdd hdg hds hla;obtain⟨x,hcx⟩:=aq (l:=c) (i:=m) O;have hx0:=hc x (an hcx);have hdx:d[m]?=some x:=by
   have h1:(d.drop m)[0]?=d[m]?:=(by rw[T9];rfl);have h2:(c.drop m)[0]?=c[m]?:=(by rw[T9];rfl);rw[<- h1,hdd,h2,hcx]
  have hdd':d.drop (m+1)=c.drop (m+1):=by
   have:=congrArg (List.drop 1) hdd
   rwa [UX,UX]at this
  have hct:(c.take (m+1)).sum=(c.take m).sum+x:=by rw[aU hcx];simp
  have hcs:(c.take (m+1)).sum+(c.drop (m+1)).sum=c.sum:=by rw[<- VV,TA]
  have hcd0:=pg (l:=c.drop (m+1)) fun y hy=>hc y (UM hy);have hc00:=pg (l:=c.take m) fun y hy=>hc y (Tj hy);have hd00:=pg (l:=d.take m) fun y hy=>hd0 y (Tj hy);unfold uV;rw[bq hdx];by_cases hx:0<x
  ·rw[SU hx];have gx:0<=g*x:=Um O hx0;have y0:0<=g*x / c.sum:=Int.ediv_nonneg gx O;have y2:c.sum*(g*x / c.sum)<=g*x:=WQ O;have dt:((d.set m (g*x / c.sum)).take (m+1)).sum=(d.take m).sum+g*x / c.sum:=by
    rw[aU (Te O),VE W8];simp
   have hs2:c.sum*((d.take m).sum+g*x / c.sum)<=g*(c.take (m+1)).sum:=by
    rw[U7,hct,U7];omega
   have hle:(d.take m).sum+g*x / c.sum<=g:=by
    have h1:g*(c.take (m+1)).sum<=g*c.sum:=Tm O O;have h2:c.sum*((d.take m).sum+g*x / c.sum)<=c.sum*g:=(by rw[TN c.sum g];omega);exact Wv h2 (O)
   refine⟨by simp[hdl],fun y hy=>?_,?_,by dsimp only;rw[dt];exact hle,by dsimp only;rw[dt];exact hs2,by dsimp only;omega⟩
   ·rcases TG hy with h|h
    ·exact hd0 y h
    ·omega
   ·rw[<- hdd',W2 O]
  ·rw[SQ hx];have x0:x=0:=O;have dt:(d.take (m+1)).sum=(d.take m).sum:=(by rw[aU hdx,x0];simp);rw[x0,UU]at hct;exact⟨hdl,hd0,hdd',by dsimp only;rw[dt];exact hdg,by dsimp only;rw[dt,hct];exact hds,hla⟩
def N0 (hg:1<=g)(hn:1<=n)(bs:List Int)(from':Int):km g n (oe g n bs from'):=by
 have hw:=B9 n bs from';have I:=Cc (g:=g) (c:=wF n bs from') hg (fun x hx=>(NZ n bs from' x hx).1) O n O;unfold oe;generalize jA g (wF n bs from') n=st at *
 obtain⟨d,last⟩:=st;obtain⟨hdl,hd0,hdd,hdg,hds,hla⟩:=I;dsimp only at hdl hd0 hdd hdg hds hla ⊢;obtain⟨y,hy⟩:=aq (l:=d) (i:=last) O;have y0:=hd0 y (an hy);rw[bq hy];rw[SR O]at hdg;have hs:(d.set last (y+(g-d.sum))).sum=g:=by rw[B8 hy];omega
 have h0:∀w∈d.set last (y+(g-d.sum)),0<=w:=fun w hw=>by
  rcases TG hw with h|h
  ·exact hd0 w h
  ·omega
 exact⟨by simp[hdl,hw],fun w hw=>⟨h0 w hw,by have:=zh h0 w hw;omega⟩,hs⟩
def N1 (g:Int)(n:Nat)(hg:1<=g/\g<=60)(hn:1<=n/\n<=4)(bs:List Int)(hbl:(bs.length:Int)<2 ^ 63)(hb8:∀x∈bs,U8 x)(from':Int)(hf:0<=from'/\from'<=1000000)(H:Xn)(K:Xd->Xn->Prop)(hK:∀v H',Xb H H'->aD H.A H' 3 v (ints (oe g n bs from'))->K (.ret v) H'):
  ae prog G0 101 [aa g,aa n,.M bs.length (bP bs),aa from'] H K:=by
 refine ae.Z ⟨_,func101,rfl,rfl⟩ fun hcl=>?_;refine ae.st (n:=84) (rs:=[.tmp 8]) func101 ?_;simp only[go_sem];refine⟨O,?_⟩;refine W.aP 35184371960832 (by rfl) (fun ρ H'=>∃(k:Nat) (c:List Int),ρ 11=aa k/\k<=n/\c.length=n/\(∀x∈c,0<=x/\x<=7)/\(∀j x,k<=j->c[j]?=some x->x=0)/\(∀j,j<k->c[j]?=(wF n bs from')[j]?)/\ρ 10=aa c.sum/\XB H H' H.A c) (fun ρ H=>n-(iv (ρ 11)).toNat) ?_ ?_
 ·simp only[go_sem];refine⟨0,List.replicate n 0,rfl,O,W5,fun x hx=>?_,fun j x _ hx=>?_,fun j hj=>O,W5,?_⟩
  ·have:=Ub hx;omega
  ·exact Ub (an hx)
  ·exact .new [] _
 rintro ρ H' ⟨k,c,h11,hk,hcl',hc7,hc0,hcw,h10,ho⟩;refine W.en (fun E=>E 0=aa g /\ E 1=aa n /\ E 2=.M bs.length (bP bs) /\ E 3=aa from' /\ E 9=.Q H.A 0 0 n 1 /\ E 10=aa c.sum /\ E 11=aa k) (by simp only[go_sem,h10,h11]) fun E ⟨e0,e1,e2,e3,e9,e10,e11⟩=>?_
 refine W.vs ?_;have lN:=ho.X;have hs0:=pg fun x hx=>(hc7 x hx).1;have hs1:=NY hc7;by_cases hb:(k:Int)<n
 ·have hck:c[k]?=some 0:=by
   obtain⟨a,ha⟩:=aq (l:=c) (i:=k) O;rw[ha,hc0 k a W8 ha]
  have hcne:=aM hck;have hk0:(k:Int) >= 0:=O
  have w1:=SN ((k:Int)+1) O;by_cases hz:(0:Int)<bs.length
  ·have hzn:¬(bs.length:Int)=0:=O;have w2:=SN (from'+k) O;have m1:(from'+(k:Int)).tmod bs.length=(from'+k) % bs.length:=TD O;have m2:=VH (from'+k) hzn;have m3:=UZ (from'+k) hz;obtain⟨q,hq⟩:=S5 m2;have hq0:(q:Int) >= 0:=O;have hql:(q:Int)<bs.length:=O;obtain⟨b,hbg⟩:=aq (l:=bs) (i:=q) O;have b8:=hb8 b (an hbg);have hbg':=uF hbg;have hbne:=aM hbg';have t1:b.tmod 8=b % 8:=TD b8.1;have w3:IntKind.u8.wrap (b % 8)=b % 8:=V8 _ O;have w4:IntKind.i64.wrap (b % 8)=b % 8:=SN _ O;have w5:=SN (c.sum+b % 8) O;have hsg:(setAt (ints c) k [.lit (.int .i64 (b % 8))])[k]?=some (.lit (.int .i64 (b % 8))):=by
    rw[gU O,eG,Te O];rfl
   simp only[go_sem,hsg,e1,e2,e3,e9,e10,e11,hb,hz,hzn,w1,w2,m1,hq,hq0,hql,hbg',hbne,t1,w4,w5,hk0,lN];refine⟨O,by have:=ho.hi;rw[aF];omega,⟨k+1,c.set k (b % 8),rfl,O,by simp[hcl'],fun x hx=>?_,fun j x hj hx=>?_,fun j hj=>?_,by rw[B8 hck,WJ],ho.store O _⟩,by rw[h11];simp only[aa,bj];omega⟩
   ·rcases TG hx with h|h
    ·exact hc7 x h
    ·omega
   ·rw[To O]at hx;exact hc0 j x O hx
   ·by_cases hjk:j=k
    ·subst hjk;rw[Te O,Ca bs from' O,SQ O,hq,Int.toNat_natCast,bq hbg]
    ·rw[To O];exact hcw j (O)
  ·have w5:=SN (c.sum+0) O;rw[UU]at w5;simp only[go_sem,e1,e2,e9,e10,e11,hb,hz,w1,w5,UU,hk0,hck,lN];refine⟨by have:=ho.hi;omega,⟨k+1,c,rfl,O,hcl',hc7,fun j x hj hx=>hc0 j x O hx,fun j hj=>by
    by_cases hjk:j=k
    ·subst hjk;rw[hck,Ca bs from' O,SU O]
    ·exact hcw j O,rfl,ho⟩,by rw[h11];simp only[aa,bj];omega⟩
 ·obtain rfl:k=n:=O
  simp only[go_sem,e1,e11,hb];have hcwF:c=wF k bs from':=by
   apply Ts;intro j;rcases Tg j k with h|h
   ·exact hcw j h
   ·rw[SX O,SX (by rw[B9];exact h)]
  have hRI:=fun m (hm:m<=k)=>Cc (g:=g) (c:=c) hg.1 (fun x hx=>(hc7 x hx).1) O m O;refine W.aP 18889465861109836705792 (by rfl) (fun ρ H2=>∃(m last:Nat) (d:List Int),ρ 14=aa m/\m<=k/\jA g c m=(d,last)/\ρ 12=aa (g-(d.take m).sum)/\ρ 13=aa last/\H'.A<=H2.A/\XB H H2 H.A d) (fun ρ H=>k-(iv (ρ 14)).toNat) ?_ ?_
  ·simp only[go_sem,e0];exact⟨0,0,c,rfl,O,rfl,W5,rfl,ho⟩
  rintro ρ2 H2 ⟨m,last,d,h14,hm,hrf,h12,h13,hnn,hod⟩;obtain⟨hdl,hd0,hdd,hdg,hds,hlast⟩:RInv g c m d last:=by have:=hRI m hm;rw[hrf]at this;exact this
  rw[hcl']at hdl hlast;have hrs:=Cb g c m;rw[hrf]at hrs;unfold uV at hrs;dsimp only at hrs;refine W.en (fun E2=>E2 0=aa g /\ E2 1=aa k /\ E2 9=.Q H.A 0 0 k 1 /\ E2 10=aa c.sum /\ E2 12=aa (g-(d.take m).sum) /\ E2 13=aa last /\ E2 14=aa m) (by simp only[go_sem,e0,e1,e9,e10,h12,h13,h14]) fun E2 ⟨f0,f1,f9,f10,f12,f13,f14⟩=>?_
  refine W.vs ?_;have lN2:=hod.X;by_cases hb2:(m:Int)<k
  ·obtain⟨x,hcx⟩:=aq (l:=c) (i:=m) O;have hx7:=hc7 x (an hcx);have hdx:d[m]?=some x:=by
    have h1:(d.drop m)[0]?=d[m]?:=(by rw[T9];rfl);have h2:(c.drop m)[0]?=c[m]?:=(by rw[T9];rfl);rw[<- h1,hdd,h2,hcx]
   have hdne:=aM hdx;have hm0:(m:Int) >= 0:=O;have w1:=SN ((m:Int)+1) O;have hdd':d.drop (m+1)=c.drop (m+1):=by
    have:=congrArg (List.drop 1) hdd
    rwa [UX,UX]at this
   have hct:(c.take (m+1)).sum=(c.take m).sum+x:=(by rw[aU hcx];simp);have hcs:(c.take (m+1)).sum+(c.drop (m+1)).sum=c.sum:=(by rw[<- VV,TA]);have hcd0:=pg (l:=c.drop (m+1)) fun y hy=>(hc7 y (UM hy)).1;have hc00:=pg (l:=c.take m) fun y hy=>(hc7 y (Tj hy)).1;have hd00:=pg (l:=d.take m) fun y hy=>hd0 y (Tj hy);by_cases hx:0<x
   ·have hsz:¬c.sum=0:=O;have gx:0<=g*x:=Um O hx7.1;have gx2:g*x<=60*7:=Uu hg.2 hx7.2 hx7.1 O;have w2:=SN (g*x) O;have t1:(g*x).tdiv c.sum=g*x / c.sum:=TM gx;have y0:0<=g*x / c.sum:=Int.ediv_nonneg gx hs0;have y1:g*x / c.sum<=g*x:=Int.ediv_le_self _ gx;have y2:c.sum*(g*x / c.sum)<=g*x:=WQ O;have w3:=SN (g*x / c.sum) O;have w4:=SN (g-(d.take m).sum-g*x / c.sum) O;have hsg:(setAt (ints d) m [.lit (.int .i64 (g*x / c.sum))])[m]?=some (.lit (.int .i64 (g*x / c.sum))):=by
     rw[gU O,eG,Te O];rfl
    have dt:((d.set m (g*x / c.sum)).take (m+1)).sum=(d.take m).sum+g*x / c.sum:=by
     rw[aU (Te O),VE W8];simp
    have hs2:c.sum*((d.take m).sum+g*x / c.sum)<=g*(c.take (m+1)).sum:=by
     rw[U7,hct,U7];omega
    have hle:(d.take m).sum+g*x / c.sum<=g:=by
     have h1:g*(c.take (m+1)).sum<=g*c.sum:=Tm O O;have h2:c.sum*((d.take m).sum+g*x / c.sum)<=c.sum*g:=(by rw[TN c.sum g];omega);exact Wv h2 (O)
    simp only[go_sem,hsg,f0,f1,f9,f10,f12,f13,f14,hb2,hx,hsz,w1,w2,t1,w3,w4,hm0,hdx,lN2];rw[bq hdx,SU hx]at hrs;exact⟨O,by rw[aF];exact hnn,⟨m+1,m,d.set m (g*x / c.sum),rfl,O,hrs,by rw[dt];congr 2;omega,rfl,by rw[aF];exact hnn,hod.store O _⟩,by rw[h14];simp only[aa,bj];omega⟩
   ·have x0:x=0:=O;have w4:=SN (g-(d.take m).sum) O;simp only[go_sem,f1,f9,f12,f13,f14,hb2,x0,w1,w4,hm0,hdx,WJ,lN2];have dt:(d.take (m+1)).sum=(d.take m).sum:=(by rw[aU hdx,x0];simp);rw[x0,UU]at hct;rw[bq hdx,SQ hx]at hrs;exact⟨hnn,⟨m+1,last,d,rfl,O,hrs,by rw[dt],rfl,hnn,hod⟩,by rw[h14];simp only[aa,bj];omega⟩
  ·obtain rfl:m=k:=O;obtain⟨y,hy⟩:=aq (l:=d) (i:=last) O;have hyne:=aM hy;have hl0:(last:Int) >= 0:=O;have hlk:(last:Int)<m:=O;have y0:=hd0 y (an hy);rw[SR O]at hdg hds h12 f12;have hyle:=zh hd0 y (an hy);have w1:=SN (y+(g-d.sum)) O;have hle:last+1<=d.length:=O;simp only[go_sem,f1,f9,f12,f13,f14,hb2,hl0,hlk,hy,lN2,w1];refine⟨hle,?_⟩;have hrow:oe g m bs from'=d.set last (y+(g-d.sum)):=by
    unfold oe;rw[<- hcwF,hrf];dsimp only;rw[bq hy]
   rw[hrow]at hK;have ho2:=hod.store (k:=last) O (y+(g-d.sum));refine ar.mk ho2.ov.A (hK _ _ ho2.ov (.inr ⟨_,0,ho2.lo,ho2.hi,?_,ho2.get⟩));rw[aS,Tl,hdl]
structure XD where
 L:Int
 par:Int
 w:List Int
def XD.cells (x:XD):List W9:=[.lit (.int .u8 x.L),.lit (.int .u8 x.par),.M x.w.length (bP x.w)]
def dB (l:List XD):List W9:=(l.map XD.cells).flatten
def XD.Ok (x:XD):Prop:=U8 x.L/\U8 x.par/\(x.w.length:Int)<2 ^ 63/\∀b∈x.w,U8 b
def uX (g:Int)(ps:List XD)(ord:List Int):W9:=.agg [.lit (.int .u8 g),.M ps.length (dB ps),.M ord.length (bP ord)]
def Ck {l:List XD}{x:XD}(h:l[i]?=some x):((dB l).drop (i*3)).take 3=[.lit (.int .u8 x.L),.lit (.int .u8 x.par),.M x.w.length (bP x.w)]:=nS (f:=XD.cells) (z:=3) (fun _=>rfl) l i x h
def Cl (l:List XD):(dB l).length=l.length*3:=kK (f:=XD.cells) (fun _=>rfl) l
def Xl.cR (x:Xl):List W9:=if x.nn=[] then [aa x.L,.lit (.slice none 0 0),.lit (.slice none 0 0)] else [aa x.L,ah x.F,aO x.nn]
def bS (l:List Xl):List W9:=(l.map Xl.cR).flatten
def kU (x:Xl):x.cR.length=3:=by unfold Xl.cR;split<;>rfl
def Cm (l:List Xl):(bS l).length=l.length*3:=kK (f:=Xl.cR) kU l
variable {x:Xl}
def Cn {l:List Xl}(h:l[i]?=some x):(bS l)[i*3]?=some (aa x.L):=by
 have:=jU (f:=Xl.cR) (z:=3) kU l i 0 x h O;rw[Nat.add_zero]at this;rw[show (bS l)[i*3]?=_ from this];unfold Xl.cR;split<;>rfl
def Oh {l:List Xl}(h:∀x∈l,x.nn≠[]):bS l=aE l:=by
 unfold bS aE;congr 1;exact Tf fun x hx=>SQ (h x hx)
def uY {α:Type}{f:α->List W9}{z:Nat}(hz:∀a,(f a).length=z):∀(l:List α) (i:Nat) (a:α),i<l.length->((l.set i a).map f).flatten=((l.map f).flatten).take (i*z)++f a++((l.map f).flatten).drop (i*z+z):=by
 intro l
 induction l with
 |nil=>intro i a h;simp at h
 |cons b l ih =>
  intro i a h;cases i with
  |zero=>simp[hz]
  |succ i =>
   have hb:=hz b;simp only[List.set_cons_succ,List.map_cons,List.flatten_cons];rw[ih i a (by simpa using h),show (i+1)*z=z+i*z by rw[TJ];omega,List.take_append,List.drop_append,hb];rw[SR (l:=f b) (i:=z+i*z) O,WC (l:=f b) (i:=z+i*z+z) O,show z+i*z-z=i*z by omega,show z+i*z+z-z=i*z+z by omega];simp
def Co {A B:List W9}{a b:W9}(h:∀j (h:j<A.length) (h':j<B.length),Fz S H nx A[j] B[j])(hab:Fz S H nx a b):∀j (h:j<(A.set i a).length) (h':j<(B.set i b).length),Fz S H nx (A.set i a)[j] (B.set i b)[j]:=by
 intro j h1 h2;rw[VS,VS];split
 ·exact hab
 ·exact h j (by simpa using h1) (by simpa using h2)
def pj (l:List (List Int)):Fz S H nx (aO l) (aO l):=.M rfl fun i hi _=>by simp only[S9];exact .dC _
def Oi (x:Xl):∀c∈x.cR,Fz S H nx c c:=by
 intro c hc;unfold Xl.cR at hc;split at hc
 ·simp only[List.mem_cons,List.not_mem_nil,or_false]at hc;rcases hc with rfl|rfl|rfl<;>exact .lit _
 ·simp only[List.mem_cons,List.not_mem_nil,or_false]at hc;rcases hc with rfl|rfl|rfl
  ·exact .lit _
  ·exact .dC _
  ·exact pj _
def Cp (l:List Xl):∀c∈bS l,Fz S H nx c c:=by
 intro c hc;unfold bS at hc;obtain⟨r,hr,hc⟩:=UW.1 hc;obtain⟨x,_,rfl⟩:=S4.1 hr;exact Oi x c hc
def Oj :∀(l:List Xl),(∀x∈l,x.nn=[]->x.F=[])->∀(i:Nat) (h:i<(bS l).length) (h':i<(aE l).length),Fz S H nx (bS l)[i] (aE l)[i]:=by
 intro l
 induction l with
 |nil=>intro _ i h;simp[bS]at h
 |cons x l ih =>
  intro hx i h h';have e1:bS (x :: l)=x.cR++bS l:=by simp[bS]
  have e2:aE (x :: l)=x.cells++aE l:=by simp[aE]
  have l1:=kU x;have l2:x.cells.length=3:=rfl;have hc:∀(i:Nat) (h:i<x.cR.length) (h':i<x.cells.length),Fz S H nx x.cR[i] x.cells[i]:=by
   intro i h h';by_cases hr:x.nn=[]
   ·have hp:=hx x W5 hr;have ez:x.cR=[aa x.L,.lit (.slice none 0 0),.lit (.slice none 0 0)]:=SU hr;have ec:x.cells=[aa x.L,ah [],aO []]:=(by unfold Xl.cells;rw[hr,hp]);simp only[ez,ec]
    match i,h' with
    |0,_=>exact .lit _
    |1,_=>exact .nil
    |2,_=>exact .nil
   ·have ez:x.cR=x.cells:=SQ hr;simp only[ez]
    match i,h' with
    |0,_=>exact .lit _
    |1,_=>exact .dC _
    |2,_=>exact pj _
  simp only[e1,e2];by_cases hi:i<3
  ·rw[TX O,TX O];exact hc i O (O)
  ·rw[T5 O,T5 O];simp only[l1,l2];exact ih (fun y hy=>hx y (by simp[hy])) (i-3) _ _
variable {y:Xl}
def Ol {l:List Xl}(h:l[i]?=some x)(hy:y.L=x.L):aE (l.set i y)=((aE l).set (i*3+1) (ah y.F)).set (i*3+2) (aO y.nn):=by
 have hl:=aI h;have h1:=uY (f:=Xl.cells) (z:=3) (fun _=>rfl) l i y hl;have h2:=nS (f:=Xl.cells) (z:=3) (fun _=>rfl) l i x h;unfold aE;rw[h1];have h3:(l.map Xl.cells).flatten=((l.map Xl.cells).flatten).take (i*3)++(x.cells++((l.map Xl.cells).flatten).drop (i*3+3)):=by
  rw[<- h2,<- UX,TA,TA]
 have hlen:(((l.map Xl.cells).flatten).take (i*3)).length=i*3:=by
  rw[Td,kK (f:=Xl.cells) (z:=3) (fun _=>rfl)];omega
 conv=>rhs;rw[h3]
 rw[Ue _ _ O,Ue _ _ O,hlen,show i*3+1-i*3=1 by omega,show i*3+2-i*3=2 by omega];unfold Xl.cells;simp[hy]
def uZ (h:aD lo H e v cs){d:Option TypeDesc}{t:TypeId}(hd:d=some (.slice t)):r8 d H v=some (.lit (.int .i64 cs.length)):=by
 subst hd;rcases h with ⟨rfl,rfl⟩|⟨id,g,_,_,rfl,h4⟩
 ·rfl
 ·rw[qv,Bd,af h4];rfl
def Om (l p:List Int)(hl:(l.length:Int)<2 ^ 40)(hp:(p.length:Int)<2 ^ 39)(hin:∀q∈p,0<=q/\q<l.length)(H:Xn)(K:Xd->Xn->Prop)(hK:∀v H',Xb H H'->aD H.A H' 3 v (ints (aB l p))->K (.ret v) H'):ae prog G0 77 [ah l,ah p] H K:=by
 refine ae.Z ⟨_,func77,rfl,rfl⟩ fun hcl=>?_;refine ae.st (n:=24) (rs:=[.tmp 4]) func77 ?_;simp only[go_sem];refine W.aP 8388576 (by rfl) (fun ρ H'=>∃k:Nat,ρ 6=aa k/\k<=p.length/\Xb H H'/\aD H.A H' 3 (ρ 5) (ints (aB l (p.take k)))) (fun ρ H=>p.length-(iv (ρ 6)).toNat) ?_ ?_
 ·simp only[go_sem];exact⟨0,rfl,O,.refl _,.nil⟩
 rintro ρ H' ⟨k,h6,hk,ov,h5⟩;refine W.vs ?_;by_cases hb:(k:Int)<p.length
 ·obtain⟨q,hq⟩:=aq (l:=p) (i:=k) O;obtain⟨j,rfl,a,ha⟩:=lP (hin q (an hq)).1 (hin q (an hq)).2;have hne:=aM hq;have hne2:=aM ha;have hj:=aI ha;have hj':(j:Int)<l.length:=O
  obtain⟨v',H2,hA,ov2,hO,hn2,_⟩:=mj a ov h5 (by simp[aB];omega);have w1:=SN ((k:Int)+1) O;simp only[go_sem,h6,hb,hq,hne,ha,hne2,hj',w1,hA];refine⟨by have:=ov2.A;omega,⟨k+1,W5,O,ov2,?_⟩,O⟩;rw[PQ hq,Int.toNat_natCast,bq ha];exact hO
 ·simp only[go_sem,h6,hb];rw[SR O]at h5;exact ar.mk ov.A (hK _ _ ov h5)
def On (g:Int)(ns:List Xl)(v:Nat)(x:Xl)(hx:ns[v]?=some x)(hl:(ns.length:Int)<2 ^ 39)(hp:(x.F.length:Int)<2 ^ 39)(hin:fR x.F ns.length)(H:Xn)(K:Xd->Xn->Prop)
  (hK:∀v H',Xb H H'->aD H.A H' 3 v (ints (aV ns x))->K (.ret v) H'):ae prog G0 76 [dk g ns,aa v] H K:=by
 refine ae.Z ⟨_,func76,rfl,rfl⟩ fun hcl=>?_;have hne:=eV hx;have e1:=mB hx;have hv:(v:Int)<ns.length:=by have:=aI hx;omega
 refine ae.st (n:=14) (rs:=[.tmp 4]) func76 ?_;simp only[go_sem,dk,dL];refine W.dr 8 [0,1,0,4,0,28,60,124] mixed ?_;simp only[go_sem];refine⟨ah (aj ns),[],bp.pure fun H2=>PR g ns hl H2 _ ⟨rfl,rfl⟩,?_⟩;simp only[go_sem,hv,hne,e1];refine az.Z (Om (aj ns) x.F (by rw[cZ];omega) hp (by rw[cZ];exact hin) _ _ fun w H3 ov ho=>⟨trivial,?_⟩);simp only[go_sem];have o1:Xb H H3:=(Xb.ext _ _).trans ov;exact ar.mk o1.A (hK _ _ o1 (ho.nb (by simp[aX]) W8 fun _ _ _ _ _ _=>rfl))
def Cq {ns:List Xl}(hP:XK ns.length P)(hall:∀v:Nat,v<ns.length->(v:Int)∈P)(hr:∀(j v:Nat) (x:Xl),P[j]?=some (v:Int)->ns[v]?=some x->∀q∈x.F,0<=q/\∃k,k<j/\P[k]?=some q):kR (aR ns):=by
 intro v hv;have hl:(aR ns).length=ns.length:=by simp[aR]
 rw[hl]at hv;obtain⟨j,hj⟩:=SY.1 (hall v hv);have h0:∀p∈P.take j,0<=p:=fun p hp=>(hP.ng p (Tj hp)).1;have sub:∀(k u:Nat) (x:Xl),k<=j->P[k]?=some (u:Int)->ns[u]?=some x->Sub ((aR ns).getD u 0) (bV (P.take j)):=fun k u x hk hu hx i hi=>by
  rw[bq (lu hx)]at hi;have hp0:∀p∈x.F,0<=p:=fun p hp=>(hr k u x hu hx p hp).1;rw[kP hp0]at hi;obtain⟨_,k',hk',hq⟩:=hr k u x hu hx _ (of_decide_eq_true hi);rw[kP h0];refine Ty ?_;exact SY.2 ⟨k',by rw[TL O];exact hq⟩
 have hcl:nW (aR ns) (bV (P.take j)):=fun u hu ht=>by
  rw[hl]at hu;rw[kP h0]at ht;obtain⟨k,hk⟩:=SY.1 (of_decide_eq_true ht);have hkl:=aI hk;rw[Td]at hkl;rw[TL O]at hk;obtain⟨x,hx⟩:=aq hu;exact sub k u x O hk hx
 obtain⟨x,hx⟩:=aq hv;have h1:=uO hcl (aR ns).length (sub j v x W8 hj hx);cases hb:(kQ (aR ns) ((aR ns).getD v 0)).testBit v with
 |false=>rfl
 |true =>
  exfalso;have h2:=h1 v hb;rw[kP h0]at h2;obtain⟨k,hk⟩:=SY.1 (of_decide_eq_true h2);have hkl:=aI hk;rw[Td]at hkl;rw[TL O]at hk;have e:P[k]?=P[j]?:=by rw[hk,hj]
  have:=(TY (aI hk) hP.nd).1 e;omega
def mJ (H1 H':Xn)(N:Nat)(cs:List W9):Prop:=H1.A<=H'.A/\(∀id,id<H1.A->id≠N->H'.get id=H1.get id)/\H'.get N=some (.J 0 73 cs)
def Oo {l:List Xl}(h:l[i]?=some x)(hr:x.nn=[])(hy:y.nn=[]):bS (l.set i y)=(bS l).set (i*3) (aa y.L):=by
 have hl:=aI h;have h1:=uY (f:=Xl.cR) (z:=3) kU l i y hl;have h2:=nS (f:=Xl.cR) (z:=3) kU l i x h;have e1:x.cR=[aa x.L,.lit (.slice none 0 0),.lit (.slice none 0 0)]:=SU hr;have e2:y.cR=[aa y.L,.lit (.slice none 0 0),.lit (.slice none 0 0)]:=SU hy;unfold bS;rw[h1,e2];rw[e1]at h2;have h3:(l.map Xl.cR).flatten=((l.map Xl.cR).flatten).take (i*3)++([aa x.L,.lit (.slice none 0 0),.lit (.slice none 0 0)]++((l.map Xl.cR).flatten).drop (i*3+3)):=by
  rw[<- h2,<- UX,TA,TA]
 have hlen:(((l.map Xl.cR).flatten).take (i*3)).length=i*3:=by
  rw[Td,kK (f:=Xl.cR) (z:=3) kU];omega
 conv=>rhs;rw[h3]
 rw[Ue _ _ O,hlen];simp
theorem u7 (ord:List Int):∀(n v:Nat),v<n->(v:Int)∈gH ord n
 |0,v,h=>O
 |n+1,v,h=>by
  unfold gH;by_cases hv:v=n
  ·subst hv;simp
  ·have:=u7 ord n v O;rw[<- TA (mH ord n) (gH ord n)]at this;rcases Tk.1 this with h|h
   ·exact Ve _ h
   ·exact VX _ (UN _ h)
def mK (ps:List XD)(i:Nat):Int × List Int:=match ps[i]? with
 |some y=>(y.par,y.w)
 |none=>(0,[])
def Cr (p:Int)(k:Nat):Int:=IntKind.u8.wrap (((BitVec.ofInt IntKind.u8.bits (p.fdiv (2 ^ (min ((k:Int)).toNat IntKind.u8.bits))) &&& BitVec.ofInt IntKind.u8.bits 1).toNat:Nat):Int)
def po (par:Int)(P:List Int)(u:Nat)(l:List Int)(k:Nat):List Int:=if P[k]?=some (u:Int)/\Cr par k=1/\l.length<3 then l++[(u:Int)] else l
def kV (par:Int)(P:List Int)(i u k:Nat):List Int:=(List.range k).foldl (po par P u) ((List.range u).foldl (fun l u=>(List.range i).foldl (po par P u) l) [])
def vd (par:Int)(P:List Int)(i u k:Nat):kV par P i u (k+1)=po par P u (kV par P i u k) k:=by unfold kV;rw[TP,TZ];rfl
def Oq (par:Int)(P:List Int)(i u:Nat):kV par P i (u+1) 0=kV par P i u i:=by unfold kV;rw[TP,TZ];rfl
def qE (ps:List XD)(i:Nat):Int:=match ps[i]? with
 |some y=>2+y.L % 2
 |none=>2
def jD (ps:List XD)(n i:Nat)(W:Int):Int:=if IntKind.i64.wrap (W*qE ps i*2 ^ (min ((n:Int)-1-i).toNat IntKind.i64.bits)) > 100 then 2 else qE ps i
def jY (ps:List XD)(n:Nat):Nat->Int
 |0=>1
 |i+1=>jY ps n i*jD ps n i (jY ps n i)
def qF (g c:Int)(bs:List Int)(R:Nat):List (List Int):=(List.range R).map fun (q:Nat)=>oe g c.toNat bs ((q:Int)*(c+1))
def Ot (g c:Int)(bs:List Int)(R:Nat):qF g c bs (R+1)=qF g c bs R++[oe g c.toNat bs ((R:Int)*(c+1))]:=by unfold qF;rw[TP,TT];rfl
def yF (g:Int)(ps:List XD)(cs P:List Int)(n j:Nat):Xl:=⟨jD ps n j (jY ps n j),kV (mK ps j).1 P j n 0,qF g (jD ps n j (jY ps n j)) (mK ps j).2 (aA (aB cs (kV (mK ps j).1 P j n 0))).toNat⟩
structure DoneN (g:Int)(cs P:List Int)(n j:Nat)(x:Xl):Prop where
 pl:cw x.F n
 p3:x.F.length<=3
 rk:∀q∈x.F,∃k,k<j/\P[k]?=some q
 rl:(x.nn.length:Int)=aA (aB cs x.F)
 ro:∀r∈x.nn,km g x.L r
 ne:x.nn≠[]
structure LoopN (g:Int)(ps:List XD)(cs P:List Int)(n i:Nat)(ns:List Xl):Prop where
 len:ns.length=n
 nA:aj ns=cs
 todo:∀(j v:Nat) (x:Xl),i<=j->P[j]?=some (v:Int)->ns[v]?=some x->x.nn=[]/\x.F=[]
 done:∀(j v:Nat) (x:Xl),j<i->P[j]?=some (v:Int)->ns[v]?=some x->DoneN g cs P n j x
 eq:∀(j v:Nat) (x:Xl),j<i->P[j]?=some (v:Int)->ns[v]?=some x->x=yF g ps cs P n j
 cd:∀(j v:Nat) (x:Xl),P[j]?=some (v:Int)->ns[v]?=some x->x.L=jD ps n j (jY ps n j)
def Ou {l:List Xl}(h:l[i]?=some x)(hy:y.L=x.L)(hr:y.nn≠[]):bS (l.set i y)=((bS l).set (i*3+1) (ah y.F)).set (i*3+2) (aO y.nn):=by
 have hl:=aI h;have h1:=uY (f:=Xl.cR) (z:=3) kU l i y hl;have h2:=nS (f:=Xl.cR) (z:=3) kU l i x h;unfold bS;rw[h1];have h3:(l.map Xl.cR).flatten=((l.map Xl.cR).flatten).take (i*3)++(x.cR++((l.map Xl.cR).flatten).drop (i*3+3)):=by
  rw[<- h2,<- UX,TA,TA]
 have hlen:(((l.map Xl.cR).flatten).take (i*3)).length=i*3:=by
  rw[Td,kK (f:=Xl.cR) (z:=3) kU];omega
 have ex:∃b c,x.cR=[aa x.L,b,c]:=by unfold Xl.cR;split<;>exact⟨_,_,rfl⟩
 obtain⟨b,c,ex⟩:=ex;have ey:y.cR=[aa y.L,ah y.F,aO y.nn]:=SQ hr
 conv=>rhs;rw[h3]
 rw[Ue _ _ O,Ue _ _ O,hlen,show i*3+1-i*3=1 by omega,show i*3+2-i*3=2 by omega,ex,ey];simp[hy]
structure XL (P:List Int)(i u k:Nat)(l:List Int):Prop where
 pw:l.Pairwise (·<·)
 ng:∀q∈l,0<=q/\(q<u\/(q=u/\∃k',k'<k/\P[k']?=some q))
 p3:l.length<=3
 rk:∀q∈l,∃k',k'<i/\P[k']?=some q
def XL.skip (h:XL P i u k l):XL P i u (k+1) l:=⟨h.pw,fun q hq=>⟨(h.ng q hq).1,(h.ng q hq).2.imp id fun ⟨a,k',b,c⟩=>⟨a,k',O,c⟩⟩,h.p3,h.rk⟩
def XL.A (h:XL P i u k l):XL P i (u+1) 0 l:=⟨h.pw,fun q hq=>⟨(h.ng q hq).1,.inl (by rcases(h.ng q hq).2 with h1|h1<;>omega)⟩,h.p3,h.rk⟩
def XL.add (hP:XK n P)(h:XL P i u k l)(hk:k<i)(hu:P[k]?=some (u:Int))(h3:l.length<3):XL P i u (k+1) (l++[(u:Int)]):=by
 have lt:∀q∈l,q<u:=fun q hq=>by
  rcases(h.ng q hq).2 with h1|⟨h1,k',h2,h4⟩
  ·exact h1
  ·exfalso;have e:P[k']?=P[k]?:=(by rw[h4,hu,h1]);have:=(TY (aI h4) hP.nd).1 e;omega
 refine⟨UL.2 ⟨h.pw,W5,fun a ha b hb=>by obtain rfl:=List.mem_singleton.1 hb;exact lt a ha⟩,fun q hq=>?_,by simp;omega,fun q hq=>?_⟩
 ·rcases Tk.1 hq with h1|h1
  ·exact⟨(h.ng q h1).1,.inl (lt q h1)⟩
  ·obtain rfl:=List.mem_singleton.1 h1;exact⟨O,.inr ⟨rfl,k,O,hu⟩⟩
 ·rcases Tk.1 hq with h1|h1
  ·exact h.rk q h1
  ·obtain rfl:=List.mem_singleton.1 h1;exact⟨k,hk,hu⟩
def yG (Hz Hx:Xn)(N at':Nat)(C:List W9)(pv:W9)(l:List Int):Prop:=mJ Hz Hx N (C.set at' pv)/\aD Hz.A Hx 3 pv (ints l)
def Ov (g:Int)(ps:List XD)(ord:List Int)(ns:List Xl):Prop:=ns.length=min (max ps.length 1) 5/\(∀(j v:Nat) (x:Xl),(gH ord ns.length)[j]?=some (v:Int)->ns[v]?=some x->x=yF g ps (aj ns) (gH ord ns.length) ns.length j)/\∀(j v:Nat) (x:Xl),(gH ord ns.length)[j]?=some (v:Int)->ns[v]?=some x->x.L=jD ps ns.length j (jY ps ns.length j)
def Ow (g0:Int)(ps:List XD)(ord:List Int)(hg0:U8 g0)(hps:∀x∈ps,x.Ok)(hpl:(ps.length:Int)<2 ^ 63)(hol:(ord.length:Int)<2 ^ 63)(ho8:∀x∈ord,U8 x)(H:Xn)(K:Xd->Xn->Prop)
  (hK:∀g ns N H',Xb H H'->H.A<=N->N<H'.A->H'.get N=some (.J 0 73 (aE ns))->Xq g ns->ns.length<=5->(∀x∈ns,x.F.length<=3)->(∀x∈ns,2<=x.L)->(g=1+g0 % 60/\Ov g ps ord ns)->K (.ret (.agg [aa g,.Q N 0 0 ns.length 3])) H'):
  ae prog G0 41 [uX g0 ps ord] H K:=by
 refine ae.st (n:=187) (rs:=[.cell 2 103]) func41 ?_;obtain⟨n,hn⟩:∃n:Nat,min (max ps.length 1) 5=n:=⟨_,rfl⟩
 have h51:1<=n/\n<=5:=O
 have hmn:(if 5<(if (1:Int) > ps.length then 1 else (ps.length:Int)) then 5 else (if (1:Int) > ps.length then 1 else (ps.length:Int)))=(n:Int):=by split<;>split<;>omega
 have t0:g0.tmod 60=g0 % 60:=TD hg0.1;have w0:IntKind.u8.wrap (g0 % 60)=g0 % 60:=V8 _ O;have w1:IntKind.i64.wrap (g0 % 60)=g0 % 60:=SN _ O;have w2:=SN (1+g0 % 60) O;obtain⟨g,hg⟩:∃g,1+g0 % 60=g:=⟨_,rfl⟩
 have hg1:1<=g/\g<=60:=O
 rw[hg]at w2;simp only[go_sem,uX];refine W.dr 9 [0,1,3,7,15,0,32,127,0] mixed ?_;simp only[go_sem,hmn,t0,w1,hg,w2];refine⟨O,⟨⟨O,O⟩,⟨O,O⟩,?_⟩⟩;obtain⟨H1,hH1⟩:∃H1,H1=ext (ext H [.J 0 25 [.lit (.int .u8 g0),.M ps.length (dB ps),.M ord.length (bP ord)],.J 0 103 [.lit (.int .i64 0),.lit (.slice none 0 0)],.J 0 73 (List.replicate n [W9.lit (.int .i64 0),.lit (.slice none 0 0),.lit (.slice none 0 0)]).flatten]) [.J 0 103 [.lit (.int .i64 g),.Q (H.A+2) 0 0 n 3]]:=⟨_,rfl⟩
 refine W.en (fun E=>E 1=.R H.A 0 0 /\ E 2=.R (H.A+1) 0 0 /\ E 3=aa n /\ E 4=.R (H.A+3) 0 0) (by simp only[go_sem]) fun E ⟨e1,e2,e3,e4⟩=>?_
 show W _ _ _ _ _ _ ⟨E,ext (ext H [.J 0 25 [.lit (.int .u8 g0),.M ps.length (dB ps),.M ord.length (bP ord)],.J 0 103 [.lit (.int .i64 0),.lit (.slice none 0 0)],.J 0 73 (List.replicate n [W9.lit (.int .i64 0),.lit (.slice none 0 0),.lit (.slice none 0 0)]).flatten]) [.J 0 103 [.lit (.int .i64 g),.Q (H.A+2) 0 0 n 3]]⟩;rw[<- hH1];have n1:H1.A=H.A+4:=by rw[hH1];rfl
 have o1:Xb H H1:=by rw[hH1];exact(Xb.ext _ _).trans (.ext _ _)
 have g0':H1.get H.A=some (.J 0 25 [.lit (.int .u8 g0),.M ps.length (dB ps),.M ord.length (bP ord)]):=by rw[hH1,dD];exact cV ..
 have g1':H1.get (H.A+1)=some (.J 0 103 [.lit (.int .i64 0),.lit (.slice none 0 0)]):=by rw[hH1,dD];exact bL H _ 1 (W5)
 have g2':H1.get (H.A+2)=some (.J 0 73 (bS (List.replicate n ⟨0,[],[]⟩))):=by
  rw[hH1,dD,show bS (List.replicate n ⟨0,[],[]⟩)=(List.replicate n [W9.lit (.int .i64 0),.lit (.slice none 0 0),.lit (.slice none 0 0)]).flatten by unfold bS;rw[V7];rfl];exact bL H _ 2 (W5)
 have g3':H1.get (H.A+3)=some (.J 0 103 [.lit (.int .i64 g),.Q (H.A+2) 0 0 n 3]):=by rw[hH1,dD];exact bL H _ 3 (W5)
 clear hH1;have l0:=af g0';have l1:=af (show (ext H1 [.J 0 5 (List.replicate n (.lit (.int .u8 0)))]).get H.A=some (.J 0 25 [.lit (.int .u8 g0),.M ps.length (dB ps),.M ord.length (bP ord)]) by rw[cP _ _ _ O];exact g0');refine W.dr 4 [0,1,0,4] mixed ?_;simp only[go_sem,e1,e3,l1];refine⟨⟨O,O⟩,O,O,?_⟩;obtain⟨H2,hH2⟩:∃H2,H2=ext H1 [.J 0 5 (List.replicate n (.lit (.int .u8 0)))]:=⟨_,rfl⟩
 have gb:=dv hH2
 rw[<- hH2];refine az.Z ((ae.frame (H:=H2) (args:=[.agg [.Q H1.A 0 0 n 1,.lit (.int .u16 0),.M ord.length (bP ord)]]) (args':=[.agg [.M n (bP (List.replicate n 0)),.lit (.int .u16 0),.M ord.length (bP ord)]]) (v':=ah (gH ord n)) aH rfl (fun i hi _=>?_) (NX n h51.2 ord hol ho8 dp _ fun v H' _ ho=>⟨_,rfl,ho.pG⟩)).mono fun r H' hr=>?_)
 ·match i,hi with
  |0,_ =>
   refine .agg rfl fun i hi _=>?_
   match i,hi with
   |0,_ =>
    have:bP (List.replicate n 0)=List.replicate n (.lit (.int .u8 0)):=(by unfold bP;rw[V7]);rw[this];exact Fz.qZ gb W5 fun c hc=>⟨_,Ub hc⟩
   |1,_=>exact .lit _
   |2,_=>exact .M rfl fun i hi _=>by simp only[bP,S9];exact .lit _
 obtain⟨rfl,rfl⟩:=hr;refine⟨trivial,?_⟩;have hperm:=yw ord n;obtain⟨P,hP⟩:∃P,P=gH ord n:=⟨_,rfl⟩
 rw[<- hP]at hperm ⊢;have n2:H'.A=H1.A+1:=hH2▸rfl
 have F0:mJ H1 H' (H.A+2) (bS (List.replicate n ⟨0,[],[]⟩)):=by
  rw[hH2];exact⟨by simp[aX],fun id h _=>cP _ _ _ h,by rw[cP _ _ _ O];exact g2'⟩
 clear hH2 gb;simp only[go_sem,e3];have bs:∀k:Nat,k<=5->(3:Int) ^ k<=243:=fun k hk=>by
  have:(3:Nat) ^ k<=3 ^ 5:=Ti W6 hk;have h2:((3 ^ k:Nat):Int)<=((3 ^ 5:Nat):Int):=by exact_mod_cast this
  push_cast at h2
  exact h2
 refine W.aP 151115727451794287100864 (by rfl) (fun ρ Hx=>∃(i:Nat) (ns:List Xl) (Wd:Int),ρ 7=aa i/\i<=n/\ns.length=n/\(∀x∈ns,x.nn=[]/\x.F=[])/\(∀j v:Nat,j<i->P[j]?=some (v:Int)->∃x,ns[v]?=some x/\2<=x.L/\x.L<=3/\x.L=jD ps n j (jY ps n j))/\ρ 6=aa Wd/\Wd=jY ps n i/\1<=Wd/\Wd<=3 ^ i/\H'.A<=Hx.A/\mJ H1 Hx (H.A+2) (bS ns)) (fun ρ H=>n-(iv (ρ 7)).toNat) ?_ ?_
 ·simp only[go_sem];exact⟨0,_,1,rfl,O,W5,fun x hx=>by obtain rfl:=Ub hx;exact⟨rfl,rfl⟩,fun j v hj=>O,rfl,rfl,O,W5,F0⟩
 rintro ρ Hx ⟨i,ns,Wd,h7,hi,hnl,hnz,hnc,h6,hWe,hW1,hW3,hnx,hF⟩;refine W.en (fun E2=>E2 1=.R H.A 0 0 /\ E2 2=.R (H.A+1) 0 0 /\ E2 3=aa n /\ E2 4=.R (H.A+3) 0 0 /\ E2 5=ah P /\ E2 6=aa Wd /\ E2 7=aa i) (by simp only[go_sem,e1,e2,e3,e4,h6,h7]) fun E2 ⟨f1,f2,f3,f4,f5,f6,f7⟩=>?_
 refine W.vs ?_;have hPl:=hperm.len;have hFn:=hF.1;have m0:=af ((hF.2.1 H.A O O).trans g0');have m3:=af ((hF.2.1 (H.A+3) O O).trans g3');have mN:=af hF.2.2;have m0':∀L,(ext Hx L).X H.A 0=some (25,[.lit (.int .u8 g0),.M ps.length (dB ps),.M ord.length (bP ord)]):=fun L=>(c9 O).trans m0;have m3':∀L,(ext Hx L).X (H.A+3) 0=some (103,[.lit (.int .i64 g),.Q (H.A+2) 0 0 n 3]):=fun L=>(c9 O).trans m3;have mN':∀L,(ext Hx L).X (H.A+2) 0=some (73,bS ns):=fun L=>(c9 O).trans mN;by_cases hb:(i:Int)<n
 ·obtain⟨pv,hpv⟩:=aq (l:=P) (i:=i) O;have hpr:=hperm.ng pv (an hpv);obtain⟨v,rfl⟩:=S5 hpr.1;obtain⟨x,hx⟩:=aq (l:=ns) (i:=v) O;have hpne:=aM hpv;have hz0:=Cn hx;have hzne:=aM hz0;have hzl:=Cm ns;have hv:(v:Int)<n:=hpr.2;have hv0:(v:Int) >= 0:=hpr.1;have hiP:(i:Int)<P.length:=O
  have w3:=bs i O;have i1:=SN ((i:Int)+1) O;have i2:=SN ((n:Int)-1) O;have i3:=SN ((n:Int)-1-i) O;have i4:=Ut ((n:Int)-1-i) O;have fin:∀(c:Int) (B:Xe),2<=c/\c<=3->c=jD ps n i Wd->v*3+1<=(bS ns).length/\H'.A<=((ext Hx [B]).upd (H.A+2) (.J 0 73 (setAt (bS ns) (v*3) [.lit (.int .i64 c)]))).A /\
    (∃(i_1:Nat) (ns_1:List Xl) (Wd_1:Int),W9.lit (.int .i64 ((i:Int)+1))=.lit (.int .i64 i_1)/\i_1<=n/\ns_1.length=n/\(∀x∈ns_1,x.nn=[]/\x.F=[])/\(∀j v:Nat,j<i_1->P[j]?=some (v:Int)->∃x,ns_1[v]?=some x/\2<=x.L/\x.L<=3/\x.L=jD ps n j (jY ps n j)) /\
     W9.lit (.int .i64 (Wd*c))=.lit (.int .i64 Wd_1)/\Wd_1=jY ps n i_1/\1<=Wd_1/\Wd_1<=3 ^ i_1/\H'.A<=((ext Hx [B]).upd (H.A+2) (.J 0 73 (setAt (bS ns) (v*3) [.lit (.int .i64 c)]))).A/\mJ H1 ((ext Hx [B]).upd (H.A+2) (.J 0 73 (setAt (bS ns) (v*3) [.lit (.int .i64 c)]))) (H.A+2) (bS ns_1)) /\
    n-((i:Int)+1).toNat<n-(iv (ρ 7)).toNat:=by
   intro c B c23 hce;have p1:2<=Wd*c/\Wd*c<=3 ^ i*3:=by
    constructor
    ·have:=Uu hW1 c23.1 O O;omega
    ·exact Uu hW3 c23.2 O (O)
   have nn:((ext Hx [B]).upd (H.A+2) (.J 0 73 (setAt (bS ns) (v*3) [.lit (.int .i64 c)]))).A=Hx.A+1:=rfl;refine⟨by rw[hzl];have:=aI hx;omega,by rw[nn];omega,⟨i+1,ns.set v ⟨c,[],[]⟩,Wd*c,rfl,O,by simp[hnl],fun z hz=>?_,fun j u hj hu=>?_,rfl,by show Wd*c=jY ps n i*jD ps n i (jY ps n i);rw[<- hWe,<- hce],O,by rw[US];omega,by rw[nn];omega,?_⟩,by rw[h7];simp only[aa,bj];omega⟩
   ·rcases TG hz with h|h
    ·exact hnz z h
    ·rw[h];exact⟨rfl,rfl⟩
   ·by_cases huv:u=v
    ·subst huv;have hji:j=i:=(TY (aI hu) hperm.nd).1 (by rw[hu,hpv]);exact⟨_,Te (aI hx),by dsimp only;omega,by dsimp only;omega,by dsimp only;rw[hji,<- hWe];exact hce⟩
    ·rw[To O];refine hnc j u ?_ hu;rcases Tg j i with h|h
     ·exact h
     ·obtain rfl:j=i:=O;rw[hpv]at hu;exact absurd (by have:=Option.some.inj hu;omega) huv
   ·refine⟨by rw[nn];omega,fun id h1 h2=>by rw[ag,SQ h2,cP _ _ _ O];exact hF.2.1 id h1 h2,?_⟩;rw[ag,SU rfl,Oo hx (hnz x (an hx)).1 rfl];congr 2;exact iw (by rw[hzl];have:=aI hx;omega)
  by_cases hp:(i:Int)<ps.length
  ·obtain⟨y,hy⟩:=aq (l:=ps) (i:=i) O;have hyo:=hps y (an hy);have hc0:=Ck hy;have hc1:i*3+3<=(dB ps).length:=(by rw[Cl];omega);have hcne:¬dB ps=[]:=fun h=>by rw[h]at hc1;simp at hc1
   have c8:=hyo.1;have t1:y.L.tmod 2=y.L % 2:=TD c8.1;have i5:=V8 (y.L % 2) O;have i6:=SN (y.L % 2) O;have i7:=SN (2+y.L % 2) O;have c23:2<=(2+y.L % 2)/\(2+y.L % 2)<=3:=O;have p1:2<=Wd*(2+y.L % 2)/\Wd*(2+y.L % 2)<=3 ^ i*3:=by
    constructor
    ·have:=Uu hW1 c23.1 O O;omega
    ·exact Uu hW3 c23.2 O (O)
   have p2:2<=Wd*2/\Wd*2<=3 ^ i*3:=O;have j1:=SN (Wd*(2+y.L % 2)) O;have j2:=SN (Wd*2) O;obtain⟨q,hq⟩:∃q,IntKind.i64.wrap (Wd*(2+y.L % 2)*2 ^ (min ((n:Int)-1-i).toNat IntKind.i64.bits))=q:=⟨_,rfl⟩
   have cA:jD ps n i Wd=if q > 100 then 2 else 2+y.L % 2:=by
    have h0:qE ps i=2+y.L % 2:=(by unfold qE;rw[hy]);unfold jD;rw[h0,hq]
   have hsh:∀t o1 o2,bn prog .shl t o1 o2 (.lit (.int .i64 (Wd*(2+y.L % 2)))) (.lit (.int .u64 ((n:Int)-1-i)))=some (.lit (.int .i64 q)):=fun t o1 o2=>by rw[zB O,hq]
   by_cases hq1:q > 100
   ·simp only[go_sem,f1,f3,f6,f7,m0',hb,hp,i2,i3,i4,j1,j2,hsh,hc0,hc1,hcne,t1,i6,i7,hq1];refine W.dr 7 [0,1,0,0,12,28,0] mixed ?_;simp only[go_sem,f4,f5,f6,f7,m3',mN',i1,hpv,hpne,hv,hv0,hiP];exact fin 2 _ O (by rw[cA,SU hq1])
   ·simp only[go_sem,f1,f3,f6,f7,m0',hb,hp,i2,i3,i4,j1,hsh,hc0,hc1,hcne,t1,i6,i7,hq1];refine W.dr 7 [0,1,0,0,12,28,0] mixed ?_;simp only[go_sem,f4,f5,f6,f7,m3',mN',i1,hpv,hpne,hv,hv0,hiP];exact fin (2+y.L % 2) _ c23 (by rw[cA,SQ hq1])
  ·have p2:2<=Wd*2/\Wd*2<=3 ^ i*3:=O;have i5:IntKind.i64.wrap (2+IntKind.i64.wrap (Int.tmod 0 2))=2:=W6;have j2:=SN (Wd*2) O;obtain⟨q,hq⟩:∃q,IntKind.i64.wrap (Wd*2*2 ^ (min ((n:Int)-1-i).toNat IntKind.i64.bits))=q:=⟨_,rfl⟩
   have cA:jD ps n i Wd=2:=by
    have h0:qE ps i=2:=(by unfold qE;rw[SX O]);unfold jD;rw[h0];split<;>rfl
   have hsh:∀t o1 o2,bn prog .shl t o1 o2 (.lit (.int .i64 (Wd*2))) (.lit (.int .u64 ((n:Int)-1-i)))=some (.lit (.int .i64 q)):=fun t o1 o2=>by rw[zB O,hq]
   by_cases hq1:q > 100
   ·simp only[go_sem,f1,f3,f6,f7,m0',hb,hp,i2,i3,i4,j2,hsh,i5,hq1];refine W.dr 7 [0,1,0,0,12,28,0] mixed ?_;simp only[go_sem,f4,f5,f6,f7,m3',mN',i1,hpv,hpne,hv,hv0,hiP];exact fin 2 _ O cA.symm
   ·simp only[go_sem,f1,f3,f6,f7,m0',hb,hp,i2,i3,i4,j2,hsh,i5,hq1];refine W.dr 7 [0,1,0,0,12,28,0] mixed ?_;simp only[go_sem,f4,f5,f6,f7,m3',mN',i1,hpv,hpne,hv,hv0,hiP];exact fin 2 _ O cA.symm
 ·obtain rfl:n=i:=O
  clear bs hW1 hW3 h6 f6;simp only[go_sem,f3,f7,hb];obtain⟨cs,hcs⟩:∃cs,cs=aj ns:=⟨_,rfl⟩
  have csl:cs.length=n:=by rw[hcs,cZ,hnl]
  have hc23:∀c∈cs,2<=c/\c<=3:=fun c hc=>by
   obtain⟨v,hv⟩:=SY.1 hc;have hvn:=aI hv;have hm:=u7 ord n v O;rw[<- hP]at hm;obtain⟨j,hj⟩:=SY.1 hm;obtain⟨x,hx,h2,h3,_⟩:=hnc j v (by have:=aI hj;omega) hj;rw[hcs,cC hx]at hv;cases hv;exact⟨h2,h3⟩
  have L0:LoopN g ps cs P n 0 ns:=⟨hnl,hcs.symm,fun j v x _ _ hx=>hnz x (an hx),fun j v x h=>O,fun j v x h=>O,fun j v x hj hx=>by
   obtain⟨x',hx',_,_,h4⟩:=hnc j v (by have:=aI hj;omega) hj;rw[hx']at hx;rw[<- Option.some.inj hx];exact h4⟩
  clear hnc hnz h7;refine W.aP 98079714615416886934934209737619636635871851991103765504 (by rfl) (fun ρ Hy=>∃(i:Nat) (ns:List Xl),ρ 10=aa i/\i<=n/\LoopN g ps cs P n i ns/\Hx.A<=Hy.A/\mJ H1 Hy (H.A+2) (bS ns)) (fun ρ H=>n-(iv (ρ 10)).toNat) ?_ ?_
  ·simp only[go_sem];exact⟨0,ns,rfl,O,L0,hF⟩
  clear L0 hF m0 m3 mN m0' m3' mN' hFn hnl hcs f7;rintro ρ Hy ⟨i,ns,h10,hi,L,hny,hF⟩;refine W.en (fun E=>E 1=.R H.A 0 0 /\ E 2=.R (H.A+1) 0 0 /\ E 3=aa n /\ E 4=.R (H.A+3) 0 0 /\ E 5=ah P /\ E 10=aa i) (by simp only[go_sem,f1,f2,f3,f4,f5,h10]) fun E ⟨e1,e2,e3,e4,e5,e10⟩=>?_
  refine W.vs ?_;have hFn:=hF.1;have m0:=af ((hF.2.1 H.A O O).trans g0');have m1:=af ((hF.2.1 (H.A+1) O O).trans g1');have m3:=af ((hF.2.1 (H.A+3) O O).trans g3');have m0':∀L,(ext Hy L).X H.A 0=some (25,[.lit (.int .u8 g0),.M ps.length (dB ps),.M ord.length (bP ord)]):=fun L=>(c9 O).trans m0;by_cases hb:(i:Int)<n
  ·obtain⟨pv,hpv⟩:=aq (l:=P) (i:=i) O;have hpr:=hperm.ng pv (an hpv);obtain⟨v,rfl⟩:=S5 hpr.1;have hnl:=L.len;obtain⟨x,hx⟩:=aq (l:=ns) (i:=v) O;have hpne:=aM hpv;have hiP:(i:Int)<P.length:=O;have hP1:∀k:Nat,k<n->∃u:Nat,P[k]?=some (u:Int)/\u<n:=fun k hk=>by
    obtain⟨q,hq⟩:=aq (l:=P) (i:=k) O;have:=hperm.ng q (an hq);obtain⟨u,rfl⟩:=S5 this.1;exact⟨u,hq,O⟩
   have hpc:∀(B:List W9),B=(if (i:Int)<ps.length then (dB ps).drop (i*3) |>.take 3 else [.lit (.int .u8 0),.lit (.int .u8 0),.lit (.slice none 0 0)])->∃(pc par:Int) (bs:List Int) (wv:W9),B=[.lit (.int .u8 pc),.lit (.int .u8 par),wv]/\(par=(mK ps i).1/\bs=(mK ps i).2)/\U8 par/\(∀b∈bs,U8 b)/\(bs.length:Int)<2 ^ 63/\wv.one=true/\wv.cells=[wv]/\∀H0,Fz (fun _=>True) H0 0 wv (.M bs.length (bP bs)):=by
    rintro B rfl;by_cases hp:(i:Int)<ps.length
    ·obtain⟨y,hy⟩:=aq (l:=ps) (i:=i) O;have hyo:=hps y (an hy);rw[SU hp,Ck hy];exact⟨y.L,y.par,y.w,_,rfl,⟨by unfold mK;rw[hy],by unfold mK;rw[hy]⟩,hyo.2.1,hyo.2.2.2,hyo.2.2.1,rfl,rfl,fun H0=>.M rfl fun i hi _=>by simp only[bP,S9];exact .lit _⟩
    ·rw[SQ hp];exact⟨0,0,[],_,rfl,⟨by unfold mK;rw[SX O],by unfold mK;rw[SX O]⟩,by unfold U8;omega,W5,W5,rfl,rfl,fun H0=>.nil⟩
   by_cases hp:(i:Int)<ps.length
   case' pos =>
    have hc1:i*3+3<=(dB ps).length:=(by rw[Cl];omega);have hcne:¬dB ps=[]:=fun h=>by rw[h]at hc1;simp at hc1
    rw[SU hp]at hpc;obtain⟨pc,par,bs,wv,hc0,hpw,hpar,hbs,hbl,hwo,hwc,hwf⟩:=hpc _ rfl;simp only[go_sem,e1,e3,e5,e10,m0',hb,hp,hc0,hc1,hcne,hpv,hpne,hiP,hwo,Bool.and_true];obtain⟨Hz,hHz⟩:∃Hz,Hz=ext Hy [.J 0 165 [.lit (.int .u8 pc),.lit (.int .u8 par),wv]]:=⟨_,rfl⟩
    clear hpc hc0 hc1 hcne hp
   case' neg =>
    rw[SQ hp]at hpc;obtain⟨pc,par,bs,wv,hc0,hpw,hpar,hbs,hbl,hwo,hwc,hwf⟩:=hpc _ rfl;simp only[go_sem,e1,e3,e5,e10,m0',hb,hp,hpv,hpne,hiP];rw[hc0];obtain⟨Hz,hHz⟩:∃Hz,Hz=ext Hy [.J 0 165 [.lit (.int .u8 pc),.lit (.int .u8 par),wv]]:=⟨_,rfl⟩
    clear hpc hc0 hp
   all_goals
    rw[<- hHz];refine W.env fun E3 hE3=>?_;have k1:E3 1=.R H.A 0 0:=(by rw[hE3];simp only[go_sem,e1]);have k2:E3 2=.R (H.A+1) 0 0:=(by rw[hE3];simp only[go_sem,e2]);have k3:E3 3=aa n:=(by rw[hE3];simp only[go_sem,e3]);have k4:E3 4=.R (H.A+3) 0 0:=(by rw[hE3];simp only[go_sem,e4]);have k5:E3 5=ah P:=(by rw[hE3];simp only[go_sem,e5]);have k10:E3 10=aa i:=(by rw[hE3];simp only[go_sem,e10]);have k11:E3 11=.R Hy.A 0 0:=(by rw[hE3];simp only[go_sem]);have k12:E3 12=aa v:=(by rw[hE3];simp only[go_sem]);have k13:E3 13=aa 0:=(by rw[hE3];simp only[go_sem]);clear hE3;have nz:Hz.A=Hy.A+1:=(by rw[hHz];rfl);have z3:Hz.get (H.A+3)=some (.J 0 103 [.lit (.int .i64 g),.Q (H.A+2) 0 0 n 3]):=(by rw[hHz,cP _ _ _ O];exact(hF.2.1 (H.A+3) O O).trans g3');have zP:Hz.get Hy.A=some (.J 0 165 [.lit (.int .u8 pc),.lit (.int .u8 par),wv]):=(by rw[hHz];exact da);have zN:Hz.get (H.A+2)=some (.J 0 73 (bS ns)):=(by rw[hHz,cP _ _ _ O];exact hF.2.2);have zO:∀id,id<H1.A->id≠H.A+2->Hz.get id=H1.get id:=fun id h1 h2=>by rw[hHz,cP _ _ _ O];exact hF.2.1 id h1 h2
    obtain⟨xr,xp⟩:=L.todo i v x W8 hpv hx;have hzl:=Cm ns;have hvn:=aI hx;have hcx:(bS ns)[v*3+1]?=some (.lit (.slice none 0 0)):=by
     have:=jU (f:=Xl.cR) (z:=3) kU ns v 1 x hx O;rw[show (bS ns)[v*3+1]?=_ from this];unfold Xl.cR;rw[SU xr];rfl
    clear hHz e1 e2 e3 e4 e5 e10 f1 f2 f3 f4 f5 m0' m0 m1 m3;have vlt:(v:Int)<n:=hpr.2;have v0:(v:Int) >= 0:=hpr.1;have hset:∀pv pv',setAt ((bS ns).set (v*3+1) pv) (v*3+1) [pv']=(bS ns).set (v*3+1) pv':=fun pv pv'=>by rw[iw (by rw[Tl];omega),VW]
    have hgetc:∀pv,((bS ns).set (v*3+1) pv)[v*3+1]?=some pv:=fun pv=>Te O;refine W.tx (Q':=fun e s2=>e=.exit 4/\∃pv l,s2.ρ 1=.R H.A 0 0/\s2.ρ 2=.R (H.A+1) 0 0/\s2.ρ 3=aa n/\s2.ρ 4=.R (H.A+3) 0 0/\s2.ρ 5=ah P/\s2.ρ 10=aa i/\s2.ρ 11=.R Hy.A 0 0/\s2.ρ 12=aa v/\yG Hz s2.H (H.A+2) (v*3+1) (bS ns) pv l/\XL P i n 0 l/\l=kV par P i n 0) ?_ ?_
    ·refine W.aP 44601490397061167054908922280959129468035072 (by rfl) (fun ρ Hu=>∃(u:Nat) (pv:W9) (l:List Int),ρ 13=aa u/\u<=n/\yG Hz Hu (H.A+2) (v*3+1) (bS ns) pv l/\XL P i u 0 l/\l=kV par P i u 0) (fun ρ H=>n-(iv (ρ 13)).toNat) ?_ ?_
     ·simp only[go_sem,k13];refine⟨0,.lit (.slice none 0 0),[],rfl,O,⟨⟨W8,fun _ _ _=>rfl,?_⟩,.nil⟩,⟨W5,W5,W5,W5⟩,rfl⟩;rw[zN,sL hcx]
     rintro ρu Hu ⟨u,pv,l,h13,hu,hS,hL,hPk⟩;refine W.env fun E4 hE4=>?_;have q3:E4 3=aa n:=(by rw[hE4];simp only[go_sem,k3]);have q4:E4 4=.R (H.A+3) 0 0:=(by rw[hE4];simp only[go_sem,k4]);have q5:E4 5=ah P:=(by rw[hE4];simp only[go_sem,k5]);have q10:E4 10=aa i:=(by rw[hE4];simp only[go_sem,k10]);have q11:E4 11=.R Hy.A 0 0:=(by rw[hE4];simp only[go_sem,k11]);have q12:E4 12=aa v:=(by rw[hE4];simp only[go_sem,k12]);have q13:E4 13=aa u:=(by rw[hE4];simp only[go_sem,h13]);have q1:E4 1=.R H.A 0 0:=(by rw[hE4];simp only[go_sem,k1]);have q2:E4 2=.R (H.A+1) 0 0:=(by rw[hE4];simp only[go_sem,k2]);clear hE4;refine W.vs ?_;by_cases hub:(u:Int)<n
     ·have u1:=SN ((u:Int)+1) O;simp only[go_sem,q3,q13,hub];refine W.aP 44601490397058710981870980086493729605566464 (by rfl) (fun ρ Hk=>∃(k:Nat) (pv:W9) (l:List Int),ρ 14=aa k/\k<=i/\Hu.A<=Hk.A/\yG Hz Hk (H.A+2) (v*3+1) (bS ns) pv l/\XL P i u k l/\l=kV par P i u k) (fun ρ H=>i-(iv (ρ 14)).toNat) ?_ ?_
      ·simp only[go_sem];exact⟨0,pv,l,rfl,O,hS,hL,hPk⟩
      clear hS hL hPk;rintro ρk Hk ⟨k,pv,l,h14,hk,hnk,hS,hL,hPk⟩;refine W.env fun E5 hE5=>?_;have r4:E5 4=.R (H.A+3) 0 0:=(by rw[hE5];simp only[go_sem,q4]);have r5:E5 5=ah P:=(by rw[hE5];simp only[go_sem,q5]);have r10:E5 10=aa i:=(by rw[hE5];simp only[go_sem,q10]);have r11:E5 11=.R Hy.A 0 0:=(by rw[hE5];simp only[go_sem,q11]);have r12:E5 12=aa v:=(by rw[hE5];simp only[go_sem,q12]);have r13:E5 13=aa u:=(by rw[hE5];simp only[go_sem,q13]);have r14:E5 14=aa k:=(by rw[hE5];simp only[go_sem,h14]);clear hE5;refine W.vs ?_;by_cases hki:(k:Int)<i
      ·obtain⟨hFz,hOz⟩:=hS;have hFz1:=hFz.1;obtain⟨a,ha,han⟩:=hP1 k O;have hane:=aM ha;have hkP:(k:Int)<P.length:=O;have s1:=SN ((k:Int)+1) O;have s2:=Ut (k:Int) O;have y3:=af ((hFz.2.1 (H.A+3) O O).trans z3);have yP:=af ((hFz.2.1 Hy.A O O).trans zP);have yN:=af hFz.2.2;have hgc:=hgetc pv;have hcne2:=aM hgc;obtain⟨r2,hr2e⟩:∃r2,r2=Cr par k:=⟨_,rfl⟩
       obtain⟨r1,hr1e⟩:∃r1,r1=par.fdiv (2 ^ (min ((k:Int)).toNat IntKind.u8.bits)):=⟨_,rfl⟩
       have hr1:∀t o1 o2,bn prog .shr t o1 o2 (.lit (.int .u8 par)) (.lit (.int .u64 (k:Int)))=some (.lit (.int .u8 r1)):=fun _ _ _=>by rw[hr1e];exact tv (O)
       have hr2:∀t o1 o2,bn prog .and t o1 o2 (.lit (.int .u8 r1)) (.lit (.int .u8 1))=some (.lit (.int .u8 r2)):=fun _ _ _=>by rw[hr2e,hr1e];exact tw
       have hlen:=uZ hOz (d:=some (.slice 3)) rfl;rw[qv,aS]at hlen;by_cases hau:(a:Int)=u
       ·have hau':a=u:=O;by_cases hr:r2=1
        ·by_cases hl3:(l.length:Int)<3
         ·simp only[go_sem,r4,r5,r10,r11,r12,r13,r14,hki,ha,hane,hkP,s2,y3,yP,yN,hgc,hr1,hr2,hlen,hau,hr,hl3,vlt,v0];obtain⟨pv',Hj,hA,hO',hn',hpr'⟩:=iT (P:=prog) (H:=Hk) (t:=46) (x:=aa u) (n:=Hk.A+1) Tryz.underlying46 Tryz.fm Tryz.fq rfl (by rw[Tryz.fM,aS];omega) hOz hFz1 rfl;simp only[aa]at hA;have nb:∀id,id<Hz.A->Hj.get id=Hk.get id:=fun id h=>hpr' id O (hOz.ne h);have y3j:=af ((nb _ O).trans ((hFz.2.1 (H.A+3) O O).trans z3));have yNj:=af ((nb _ O).trans hFz.2.2);refine W.dr 12 [0,1,0,0,8,0,56,120,248,0,512,2040] mixed ?_;simp only[go_sem,r4,r12,r13,r14,y3,yN,yNj,hgc,vlt,v0,hA,s1];have hdj:nN (if lJ pv=true then { nt:=aL pv,rs:=aL pv++[Hk.A] } else { nt:=[Hk.A+1],rs:=[Hk.A] }) { nt:=[],rs:=[H.A+3] }:=by
           rcases hOz with ⟨hO1,_⟩|⟨id,gg,hO1,hO2,hO3,_⟩
           ·rw[hO1];show nN { nt:=[Hk.A+1],rs:=[Hk.A] } _;exact⟨fun a ha=>by (obtain rfl:a=Hk.A+1:=by simpa using ha);simp;omega,fun a ha=>by simp at ha⟩
           ·rw[hO3];show nN { nt:=[id],rs:=[id]++[Hk.A] } _;exact⟨fun a ha=>by (obtain rfl:a=id:=by simpa using ha);simp;omega,fun a ha=>by simp at ha⟩
          have hpc1:=hO'.cells;rw[hpc1];refine⟨⟨O,O,O,O,O,O,O⟩,⟨hdj,hdj⟩,⟨rfl,by simp[hO'.one],by rw[Tl];simp;omega⟩,by rw[aF];omega,⟨k+1,pv',l++[(u:Int)],rfl,O,by rw[aF];omega,⟨⟨by rw[aF];omega,fun id h1 h2=>by rw[ag,SQ h2,nb _ h1];exact hFz.2.1 id h1 h2,?_⟩,?_⟩,hL.add hperm O (by rw[ha,hau]) O,by rw[vd,<- hPk];unfold po;rw[SU ⟨by rw[ha,hau],by rw[<- hr2e];exact hr,O⟩]⟩,by rw[h14];simp only[aa,bj];omega⟩
          ·rw[ag,SU rfl,hset]
          ·have:=hO'.nb (lo':=Hz.A) (H':=Hj.upd (H.A+2) (.J 0 73 (setAt ((bS ns).set (v*3+1) pv) (v*3+1) [pv']))) W8 W8 fun id _ h1 _ _ _=>by rw[ag,SQ O]
           simpa[ints,aa] using this
         ·simp only[go_sem,r4,r5,r10,r11,r12,r13,r14,hki,ha,hane,hkP,s1,s2,y3,yP,yN,hgc,hr1,hr2,hlen,hau,hr,hl3,vlt,v0];exact⟨hnk,⟨k+1,pv,l,rfl,O,hnk,⟨hFz,hOz⟩,hL.skip,by rw[vd,<- hPk];unfold po;rw[SQ fun h=>hl3 (by have:=h.2.2;omega)]⟩,by rw[h14];simp only[aa,bj];omega⟩
        ·simp only[go_sem,r5,r10,r11,r13,r14,hki,ha,hane,hkP,s1,s2,yP,hr1,hr2,hau,hr];exact⟨hnk,⟨k+1,pv,l,rfl,O,hnk,⟨hFz,hOz⟩,hL.skip,by rw[vd,<- hPk];unfold po;rw[SQ fun h=>hr (by rw[hr2e];exact h.2.1)]⟩,by rw[h14];simp only[aa,bj];omega⟩
       ·simp only[go_sem,r5,r10,r13,r14,hki,ha,hane,hkP,s1,hau];exact⟨hnk,⟨k+1,pv,l,rfl,O,hnk,⟨hFz,hOz⟩,hL.skip,by rw[vd,<- hPk];unfold po;rw[SQ fun h=>hau (by have h1:=h.1;rw[ha]at h1;exact Option.some.inj h1)]⟩,by rw[h14];simp only[aa,bj];omega⟩
      ·obtain rfl:k=i:=O;simp only[go_sem,r10,r13,r14,hki,u1];exact⟨by have:=hS.1.1;omega,⟨u+1,pv,l,rfl,O,hS,hL.A,by rw[Oq];exact hPk⟩,by rw[h13];simp only[aa,bj];omega⟩
     ·obtain rfl:u=n:=O;simp only[go_sem,q1,q2,q3,q4,q5,q10,q11,q12,q13,hub];exact⟨pv,l,hS,hL,hPk⟩
    ·rintro e s2 ⟨rfl,pv,l,a1,a2,a3,a4,a5,a10,a11,a12,⟨hFz,hOz⟩,hL,hPk⟩;have hFz1:=hFz.1;obtain⟨rk,hrk,hfz⟩:∃rk,Hz.A<=rk/\Fz (fun id=>id=rk) s2.H s2.H.A pv (ah l):=by
      rcases hOz with ⟨hO1,hO2⟩|⟨id,gg,hO1,hO2,hO3,hO4⟩
      ·have:l=[]:=by cases l with
        |nil=>rfl
        |cons b l=>simp[ints]at hO2
       rw[hO1,this];exact⟨s2.H.A,hFz1,.nil⟩
      ·refine⟨id,hO1,?_⟩;rw[hO3,aS];refine .ny rfl hO4 (by rw[Nat.mul_one,aS]) fun j hj h2 h'=>?_;simp only[Nat.zero_add,ints,S9];exact .lit _
     have hne2:H.A+2≠rk:=O;refine⟨⟨s2.ρ,s2.H.fC rk (H.A+2) (.J 0 73 ((bS ns).set (v*3+1) (ah l)))⟩,eA.fC aH hFz.2.2 hne2 W5 (zH (Cp ns) hfz),W8,trivial,?_⟩;obtain⟨Hm,hHm⟩:∃Hm,Hm=s2.H.fC rk (H.A+2) (.J 0 73 ((bS ns).set (v*3+1) (ah l))):=⟨_,rfl⟩
     rw[<- hHm];have hFm:mJ Hz Hm (H.A+2) ((bS ns).set (v*3+1) (ah l)):=by
      rw[hHm];exact⟨hFz1,fun id h1 h2=>(ml O h2).trans (hFz.2.1 id h1 h2),wB hne2⟩
     clear hFz hOz hfz hHm hne2 hrk;simp only[go_sem];refine W.env fun E6 hE6=>?_;have y1:E6 1=.R H.A 0 0:=(by rw[hE6];simp only[go_sem,a1]);have y2:E6 2=.R (H.A+1) 0 0:=(by rw[hE6];simp only[go_sem,a2]);have y3:E6 3=aa n:=(by rw[hE6];simp only[go_sem,a3]);have y4:E6 4=.R (H.A+3) 0 0:=(by rw[hE6];simp only[go_sem,a4]);have y5:E6 5=ah P:=(by rw[hE6];simp only[go_sem,a5]);have y10:E6 10=aa i:=(by rw[hE6];simp only[go_sem,a10]);have y11:E6 11=.R Hy.A 0 0:=(by rw[hE6];simp only[go_sem,a11]);have y12:E6 12=aa v:=(by rw[hE6];simp only[go_sem,a12]);have y15:E6 15=aa 0:=(by rw[hE6];simp only[go_sem]);clear hE6 a1 a2 a3 a4 a5 a10 a11 a12;have lsm:dR (aB cs l):=mU (by rw[iq];have:=hL.p3;omega) fun c hc=>by
      unfold aB at hc;obtain⟨q,hq,rfl⟩:=S4.1 hc;have hqr:=hL.ng q hq;obtain⟨c,hc⟩:=aq (l:=cs) (i:=q.toNat) (by rw[csl];rcases hqr.2 with h|⟨_,k',h,_⟩<;>omega);rw[bq hc];have:=hc23 c (an hc);omega
     have lpos:0<aA (aB cs l)/\aA (aB cs l)<=27:=by
      have c3:∀c∈aB cs l,1<=c/\c<=3:=fun c hc=>by
       unfold aB at hc;obtain⟨q,hq,rfl⟩:=S4.1 hc;have hqr:=hL.ng q hq;obtain⟨c,hc⟩:=aq (l:=cs) (i:=q.toNat) (by rw[csl];rcases hqr.2 with h|⟨_,k',h,_⟩<;>omega);rw[bq hc];have:=hc23 c (an hc);omega
      have h1:=fu fun c hc=>(c3 c hc).1;have h2:=(nU (b:=3) O fun c hc=>⟨by have:=(c3 c hc).1;omega,(c3 c hc).2⟩).2;have h3:(3:Int) ^ (aB cs l).length<=3 ^ 3:=by
       have:(3:Nat) ^ (aB cs l).length<=3 ^ 3:=Ti W6 (by rw[iq];exact hL.p3)
       exact_mod_cast this
      omega
     obtain⟨R,hR⟩:=S5 (show 0<=aA (aB cs l) by omega);have hxc:2<=x.L/\x.L<=3:=hc23 x.L (by rw[<- L.nA];exact an (cC hx));have hFm1:=hFm.1;have w3:Hm.get (H.A+3)=some (.J 0 103 [.lit (.int .i64 g),.Q (H.A+2) 0 0 n 3]):=(hFm.2.1 _ O O).trans z3;have wP:Hm.get Hy.A=some (.J 0 165 [.lit (.int .u8 pc),.lit (.int .u8 par),wv]):=(hFm.2.1 _ O O).trans zP;obtain⟨C1,hC1⟩:∃C1,C1=(bS ns).set (v*3+1) (ah l):=⟨_,rfl⟩
     have c1l:C1.length=ns.length*3:=(by rw[hC1,Tl,hzl]);have hcx2:C1[v*3+2]?=some (.lit (.slice none 0 0)):=by
      have:=jU (f:=Xl.cR) (z:=3) kU ns v 2 x hx O;rw[hC1,To O,show (bS ns)[v*3+2]?=_ from this];unfold Xl.cR;rw[SU xr];rfl
     have hcx0:C1[v*3]?=some (aa x.L):=(by rw[hC1,To O];exact Cn hx);rw[<- hC1]at hFm;have hset2:∀rv rv',setAt (C1.set (v*3+2) rv) (v*3+2) [rv']=C1.set (v*3+2) rv':=fun rv rv'=>by rw[iw (by rw[Tl];omega),VW]
     have hgc2:∀rv,(C1.set (v*3+2) rv)[v*3+2]?=some rv:=fun rv=>Te O;have hgc0:∀rv,(C1.set (v*3+2) rv)[v*3]?=some (aa x.L):=fun rv=>by rw[To O];exact hcx0
     refine W.tx (Q':=fun e s2=>e=.exit 8/\∃(rv:W9) (nn:List (List Int)),s2.ρ 1=.R H.A 0 0/\s2.ρ 2=.R (H.A+1) 0 0/\s2.ρ 3=aa n/\s2.ρ 4=.R (H.A+3) 0 0/\s2.ρ 5=ah P/\s2.ρ 10=aa i/\nn.length=R/\nn=qF g x.L bs R/\(∀r∈nn,km g x.L r)/\mJ Hm s2.H (H.A+2) (C1.set (v*3+2) rv)/\aD Hm.A s2.H 46 rv (nn.map ah)) ?_ ?_
     ·refine W.aP 98079714615372285444537148491336716315054007096738611200 (by rfl) (fun ρ Hr=>∃(r:Nat) (rv:W9) (nn:List (List Int)),ρ 15=aa r/\r<=R/\nn.length=r/\nn=qF g x.L bs r/\(∀r∈nn,km g x.L r)/\mJ Hm Hr (H.A+2) (C1.set (v*3+2) rv)/\aD Hm.A Hr 46 rv (nn.map ah)) (fun ρ H=>R-(iv (ρ 15)).toNat) ?_ ?_
      ·simp only[go_sem,y15];refine⟨0,.lit (.slice none 0 0),[],rfl,O,rfl,rfl,W5,⟨W8,fun _ _ _=>rfl,?_⟩,.nil⟩;rw[hFm.2.2,sL hcx2]
      rintro ρr Hr ⟨r,rv,nn,h15,hr,hrl,hrD,hrows,hFr,hOr⟩;refine W.env fun E7 hE7=>?_;have b1:E7 1=.R H.A 0 0:=(by rw[hE7];simp only[go_sem,y1]);have b2:E7 2=.R (H.A+1) 0 0:=(by rw[hE7];simp only[go_sem,y2]);have b3:E7 3=aa n:=(by rw[hE7];simp only[go_sem,y3]);have b4:E7 4=.R (H.A+3) 0 0:=(by rw[hE7];simp only[go_sem,y4]);have b5:E7 5=ah P:=(by rw[hE7];simp only[go_sem,y5]);have b10:E7 10=aa i:=(by rw[hE7];simp only[go_sem,y10]);have b11:E7 11=.R Hy.A 0 0:=(by rw[hE7];simp only[go_sem,y11]);have b12:E7 12=aa v:=(by rw[hE7];simp only[go_sem,y12]);have b15:E7 15=aa r:=(by rw[hE7];simp only[go_sem,h15]);clear hE7;refine W.vs ?_;have hFr1:=hFr.1;have v3:=af ((hFr.2.1 (H.A+3) O O).trans w3);have vP:=af ((hFr.2.1 Hy.A O O).trans wP);have vN:=af hFr.2.2;have hzp:∀z∈ns,z.nn=[]->z.F=[]:=fun z hz hz0=>by
       obtain⟨u,hu⟩:=SY.1 hz;have hm:=u7 ord n u (by have:=aI hu;omega);rw[<- hP]at hm;obtain⟨j,hj⟩:=SY.1 hm;rcases Tg j i with h|h
       ·exact absurd hz0 (L.done j u z h hj hu).ne
       ·exact(L.todo j u z h hj hu).2
      have hcard:aj (ns.set v ⟨x.L,l,nn⟩)=cs:=by
       have h1:aj (ns.set v ⟨x.L,l,nn⟩)=(aj ns).set v x.L:=(by unfold aj;rw[Vo]);rw[h1,sL (cC hx),L.nA]
      have hpar:aV (ns.set v ⟨x.L,l,nn⟩) ⟨x.L,l,nn⟩=aB cs l:=(by unfold aV;rw[hcard]);have fzN:Fz (fun _=>True) Hr 0 (.agg [aa g,.Q (H.A+2) 0 0 n 3]) (dk g (ns.set v ⟨x.L,l,nn⟩)):=by
       refine .agg rfl fun i hi _=>?_
       match i,hi with
       |0,_=>exact .lit _
       |1,_ =>
        show Fz _ _ _ _ (.M (ns.set v ⟨x.L,l,nn⟩).length (aE (ns.set v ⟨x.L,l,nn⟩)));rw[Tl,hnl,Ol (y:=⟨x.L,l,nn⟩) hx rfl];refine .ny trivial hFr.2.2 (by rw[Tl,Tl,kL];omega) fun j hj h2 h'=>?_;simp only[Nat.zero_add];refine Co (A:=C1) (B:=(aE ns).set (v*3+1) (ah l)) ?_ ?_ j _ _
        ·rw[hC1];exact Co (Oj ns hzp) (.dC _)
        ·have:=hOr.fz (S:=fun _=>True) (nx:=0) (cs':=nn.map ah) (fun _ _=>trivial) rfl fun i hi _=>by simp only[S9];exact .dC _
         rw[S8]at this;exact this
      simp only[go_sem,b4,b12,b15,v3];refine az.Z ((ae.frame (H:=Hr) (args:=[.agg [aa g,.Q (H.A+2) 0 0 n 3],aa v]) (args':=[dk g (ns.set v ⟨x.L,l,nn⟩),aa v]) (v':=ah (aB cs l)) aH rfl (fun i hi _=>?_) (On g (ns.set v ⟨x.L,l,nn⟩) v ⟨x.L,l,nn⟩ (Te hvn) (by rw[Tl];omega) (by show (l.length:Int)<_;have:=hL.p3;omega) (fun q hq=>by
        have hqr:=hL.ng q hq;rw[Tl];rcases hqr.2 with h|⟨_,k',h,_⟩<;>omega) dp _ fun w Hq _ ho=>⟨_,rfl,by rw[hpar]at ho;exact ho.pG⟩)).mono fun r1 H1' hr1=>?_)
      ·match i,hi with
       |0,_=>exact fzN
       |1,_=>exact .lit _
      obtain⟨rfl,rfl⟩:=hr1;refine⟨trivial,?_⟩;simp only[go_sem];refine az.Z (PP (aB cs l) lsm _ _ ⟨trivial,?_⟩);rw[hR];by_cases hrR:(r:Int)<R
      ·simp only[go_sem,hrR];obtain⟨xn,hxn⟩:=S5 (show 0<=x.L by omega);have rc:0<=(r:Int)*(x.L+1)/\(r:Int)*(x.L+1)<=27*4:=⟨Um O O,Uu O O O O⟩
       have c1:=SN (x.L+1) O;have c2:=SN ((r:Int)*(x.L+1)) O;have c3:=SN ((r:Int)+1) O;have hg2:=hgc2 rv;have hg0':=hgc0 rv;have hg2n:=aM hg2;obtain⟨row,hrow⟩:∃row,row=oe g xn bs ((r:Int)*(x.L+1)):=⟨_,rfl⟩
       have hrok:km g x.L row:=(by rw[hrow,hxn];exact N0 hg1.1 O _ _);have hpc84:∀Hq,bp prog G0 (.Z 101 [] []) [aa g,aa x.L,wv,aa ((r:Int)*(x.L+1))] Hq (ah row) []:=fun Hq=>by
        refine bp.mk (fun i hi=>by cases hi) fun H2 _ _=>?_;refine ae.frame (H:=H2) (args:=[aa g,aa x.L,wv,aa ((r:Int)*(x.L+1))]) (args':=[aa g,aa xn,.M bs.length (bP bs),aa ((r:Int)*(x.L+1))]) (v':=ah row) aH rfl (fun i hi _=>?_) (N1 g xn hg1 O bs hbl hbs _ O dp _ fun w Hw _ ho=>⟨_,rfl,by rw[hrow];exact ho.pG⟩)
        match i,hi with
        |0,_=>exact .lit _
        |1,_=>rw[hxn];exact .lit _
        |2,_=>exact hwf _
        |3,_=>exact .lit _
       obtain⟨rv',Hj,hA,hO',hn',hpr'⟩:=iT (P:=prog) (H:=H1') (t:=33) (x:=ah row) (n:=H1'.A+1) Tryz.underlying33 Tryz.uH Tryz.uJ rfl (by rw[Tryz.uI,S8];omega) hOr hFr1 rfl;have nb:∀id,id<Hm.A->Hj.get id=H1'.get id:=fun id h=>hpr' id O (hOr.ne h);have v3j:=af ((nb _ O).trans ((hFr.2.1 (H.A+3) O O).trans w3));have vNj:=af ((nb _ O).trans hFr.2.2);have hA':bT prog (ext H1' [.J 0 46 [.M row.length (ints row)]]) (H1'.A+1) 33 33 rv (.Q H1'.A 0 0 1 1)=some (rv',Hj):=hA;refine W.dr 31 [0,1,0,0,8,0,56,120,248,0,512,0,2048,0,14336,30720,63488,0,131072,0,0,1048576,0,7340032,15728640,32505856,66060288,133693440,268434944,536870400,1073741816] mixed ?_;simp only[go_sem,b4,b11,b12,b15,v3,vP,vN,hg2,hg0',vlt,v0,c1,c2];refine⟨ah row,[],hpc84 _,?_⟩;simp only[go_sem,b4,b11,b12,b15,vNj,vlt,v0,c3,hA'];have hdj:nN (if lJ rv=true then { nt:=aL rv,rs:=aL rv++[H1'.A] } else { nt:=[H1'.A+1],rs:=[H1'.A] }) { nt:=[],rs:=[H.A+3] }:=by
        rcases hOr with ⟨hO1,_⟩|⟨id,gg,hO1,hO2,hO3,_⟩
        ·rw[hO1];show nN { nt:=[H1'.A+1],rs:=[H1'.A] } _;exact⟨fun a ha=>by (obtain rfl:a=H1'.A+1:=by simpa using ha);simp;omega,fun a ha=>by simp at ha⟩
        ·rw[hO3];show nN { nt:=[id],rs:=[id]++[H1'.A] } _;exact⟨fun a ha=>by (obtain rfl:a=id:=by simpa using ha);simp;omega,fun a ha=>by simp at ha⟩
       rw[hO'.cells];refine⟨⟨O,O,O,O,O,O,O⟩,⟨hdj,hdj⟩,⟨rfl,by simp[hO'.one],by rw[Tl,c1l];simp;omega⟩,by rw[aF];omega,⟨r+1,rv',nn++[row],rfl,O,by simp[hrl],by rw[Ot,<- hrD,hrow,show x.L.toNat=xn by omega],fun q hq=>?_,⟨by rw[aF];omega,fun id h1 h2=>by rw[ag,SQ h2,nb _ h1];exact hFr.2.1 id h1 h2,?_⟩,?_⟩,by rw[h15];simp only[aa,bj];omega⟩
       ·rcases Tk.1 hq with h|h
        ·exact hrows q h
        ·obtain rfl:=List.mem_singleton.1 h;exact hrok
       ·rw[ag,SU rfl,hset2]
       ·have:=hO'.nb (lo':=Hm.A) (H':=Hj.upd (H.A+2) (.J 0 73 (setAt (C1.set (v*3+2) rv) (v*3+2) [rv']))) W8 W8 fun id _ h1 _ _ _=>by rw[ag,SQ O]
        simpa using this
      ·simp only[go_sem,b1,b2,b3,b4,b5,b10,hrR];exact⟨rv,nn,O,by rw[hrD];congr 1;omega,hrows,hFr,hOr⟩
     ·rintro e s3 ⟨rfl,rv,nn,a1,a2,a3,a4,a5,a10,hrl,hrD,hrows,hFr,hOr⟩;have hFr1:=hFr.1;obtain⟨rk,hrk,hfz⟩:∃rk,Hm.A<=rk/\Fz (fun id=>id=rk) s3.H s3.H.A rv (aO nn):=by
       rcases hOr with ⟨hO1,hO2⟩|⟨id,gg,hO1,hO2,hO3,hO4⟩
       ·have:nn=[]:=by cases nn with
         |nil=>rfl
         |cons b l=>simp at hO2
        rw[hO1,this];exact⟨s3.H.A,hFr1,.nil⟩
       ·refine⟨id,hO1,?_⟩;rw[hO3,S8];refine .ny rfl hO4 (by rw[Nat.mul_one,S8]) fun j hj h2 h'=>?_;simp only[Nat.zero_add,S9];exact .dC _
      have hne2:H.A+2≠rk:=O;have hC1z:∀c∈C1,Fz (fun id=>id=rk) s3.H s3.H.A c c:=fun c hc=>by
       rw[hC1]at hc;rcases TG hc with h|h
       ·exact Cp ns c h
       ·rw[h];exact .dC _
      refine⟨⟨s3.ρ,s3.H.fC rk (H.A+2) (.J 0 73 (C1.set (v*3+2) (aO nn)))⟩,eA.fC aH hFr.2.2 hne2 W5 (zH hC1z hfz),W8,trivial,?_⟩;obtain⟨He,hHe⟩:∃He,He=s3.H.fC rk (H.A+2) (.J 0 73 (C1.set (v*3+2) (aO nn))):=⟨_,rfl⟩
      rw[<- hHe];have hFe:mJ Hm He (H.A+2) (C1.set (v*3+2) (aO nn)):=by
       rw[hHe];exact⟨hFr1,fun id h1 h2=>(ml O h2).trans (hFr.2.1 id h1 h2),wB hne2⟩
      clear hFr hOr hfz hHe hne2 hrk;have hFe1:=hFe.1;have i1:=SN ((i:Int)+1) O;simp only[go_sem,a10,i1];have hiv:∀j u:Nat,P[j]?=some (u:Int)->u=v->j=i:=fun j u h1 h2=>by
       subst h2;exact(TY (aI h1) hperm.nd).1 (by rw[h1,hpv])
      have hrne:nn≠[]:=fun h=>by rw[h]at hrl;simp at hrl;omega
      have hdone:DoneN g cs P n i ⟨x.L,l,nn⟩:=⟨⟨hL.pw,fun q hq=>⟨(hL.ng q hq).1,by rcases(hL.ng q hq).2 with h|⟨_,k',h,_⟩<;>omega⟩⟩,hL.p3,hL.rk,by show (nn.length:Int)=_;rw[hrl,hR],hrows,hrne⟩
      refine⟨O,⟨i+1,ns.set v ⟨x.L,l,nn⟩,rfl,O,⟨by rw[Tl];exact hnl,?_,fun j u z hj hu hz=>?_,fun j u z hj hu hz=>?_,fun j u z hj hu hz=>?_,fun j u z hu hz=>?_⟩,O,O,fun id h1 h2=>?_,?_⟩,by rw[h10];simp only[aa,bj];omega⟩
      ·have h1:aj (ns.set v ⟨x.L,l,nn⟩)=(aj ns).set v x.L:=(by unfold aj;rw[Vo]);rw[h1,sL (cC hx),L.nA]
      ·have huv:¬u=v:=fun h=>by have:=hiv j u hu h;omega
       rw[To O]at hz;exact L.todo j u z O hu hz
      ·by_cases huv:u=v
       ·obtain rfl:=hiv j u hu huv;rw[huv,Te hvn]at hz;cases hz;exact hdone
       ·rw[To O]at hz;have:j≠i:=fun h=>by
         rw[h,hpv]at hu;exact huv (by have:=Option.some.inj hu;omega)
        exact L.done j u z O hu hz
      ·by_cases huv:u=v
       ·obtain rfl:=hiv j u hu huv;rw[huv,Te hvn]at hz;rw[<- Option.some.inj hz];unfold yF;rw[<- L.cd j v x hpv hx,<- hpw.1,<- hpw.2,<- hPk,hR,hrD];rfl
       ·rw[To O]at hz;have:j≠i:=fun h=>by
         rw[h,hpv]at hu;exact huv (by have:=Option.some.inj hu;omega)
        exact L.eq j u z O hu hz
      ·by_cases huv:u=v
       ·obtain rfl:=hiv j u hu huv;rw[huv,Te hvn]at hz;rw[<- Option.some.inj hz];exact L.cd j v x hpv hx
       ·rw[To O]at hz;exact L.cd j u z hu hz
      ·rw[hFe.2.1 id O h2,hFm.2.1 id O h2];exact zO id h1 h2
      ·rw[hFe.2.2,Ou (y:=⟨x.L,l,nn⟩) hx rfl hrne,hC1]
  ·obtain rfl:i=n:=O;simp only[go_sem,e2,e3,e4,e10,hb,m1,m3];have hnl:=L.len;have hall:∀v:Nat,v<ns.length->(v:Int)∈P:=fun v hv=>by rw[hP];exact u7 ord i v (O)
   have hdn:∀(v:Nat) (x:Xl),ns[v]?=some x->∃j,DoneN g cs P i j x:=fun v x hx=>by
    obtain⟨j,hj⟩:=SY.1 (hall v (aI hx));exact⟨j,L.done j v x (by have:=aI hj;have:=hperm.len;omega) hj hx⟩
   have hdm:∀x∈ns,∃j,DoneN g cs P i j x:=fun x hx=>by
    obtain⟨v,hv⟩:=SY.1 hx;exact hdn v x hv
   have ov:Xb H (Hy.upd (H.A+1) (.J 0 103 [.lit (.int .i64 g),.Q (H.A+2) 0 0 i 3])):=⟨by rw[aF];omega,fun id h=>by rw[ag,SQ O,hF.2.1 id O O];exact o1.nl id h⟩
   have hz:bS ns=aE ns:=Oh fun x hx=>(hdm x hx).elim fun j hj=>hj.ne;have hcl8:∀x∈ns,2<=x.L/\x.L<=3:=fun x hx=>hc23 x.L (by rw[<- L.nA];exact S4.2 ⟨x,hx,rfl⟩);have hnet:Xq g ns:=by
    refine⟨hg1,O,fun x hx=>?_,?_,Cq (P:=P) (by rw[hnl];exact hperm) hall fun j v x hj hx q hq=>?_,fun x hx=>?_⟩
    ·obtain⟨j,hj⟩:=hdm x hx;have:=hcl8 x hx;exact⟨O,by rw[hnl];exact hj.pl⟩
    ·have h2:=(nU (b:=3) O (l:=aj ns) fun c hc=>by have:=hc23 c (by rw[<- L.nA];exact hc);omega).2;have h3:(3:Int) ^ (aj ns).length<=3 ^ 5:=by
      have:(3:Nat) ^ (aj ns).length<=3 ^ 5:=Ti W6 (by rw[cZ];omega)
      exact_mod_cast this
     omega
    ·have hd:=L.done j v x (by have:=aI hj;have:=hperm.len;omega) hj hx;exact⟨(hd.pl.2 q hq).1,hd.rk q hq⟩
    ·obtain⟨j,hj⟩:=hdm x hx;unfold gI aV;rw[L.nA];exact⟨hj.rl,hj.ro⟩
   rw[<- hnl];rw[<- hnl]at ov;refine ar.mk ov.A (hK g ns (H.A+2) _ ov O (by rw[aF];omega) ?_ hnet O (fun x hx=>?_) (fun x hx=>?_) ⟨hg.symm,by rw[hnl];exact hn.symm,by rw[L.nA,hnl,<- hP];exact fun j v x hj hx=>L.eq j v x (by have:=aI hj;have:=hperm.len;omega) hj hx,by rw[hnl,<- hP];exact L.cd⟩)
   ·rw[ag,SQ O,hF.2.2,hz]
   ·obtain⟨j,hj⟩:=hdm x hx;exact hj.p3
   ·have:=hc23 x.L (by rw[<- L.nA];unfold aj;exact List.mem_map_of_mem hx);omega
def Ox (g0:Int)(ps:List XD)(ord:List Int)(hg0:U8 g0)(hps:∀x∈ps,x.Ok)(hpl:(ps.length:Int)<2 ^ 63)(hol:(ord.length:Int)<2 ^ 63)(ho8:∀x∈ord,U8 x)(H:Xn)(K:Xd->Xn->Prop)
  (hK:∀g ns N H',Xb H H'->H.A<=N->N<H'.A->H'.get N=some (.J 0 73 (aE ns))->Xq g ns->ns.length<=5->(∀x∈ns,x.F.length<=3)->(∀x∈ns,2<=x.L)->K (.ret (.agg [aa g,.Q N 0 0 ns.length 3])) H'):
  ae prog G0 41 [uX g0 ps ord] H K:=Ow g0 ps ord hg0 hps hpl hol ho8 H K fun g ns N H' a b c d e f h i _=>hK g ns N H' a b c d e f h i
def Oy (g0:Int)(ps:List XD)(ord:List Int)(hg0:U8 g0)(hps:∀x∈ps,x.Ok)(hpl:(ps.length:Int)<2 ^ 63)(hol:(ord.length:Int)<2 ^ 63)(ho8:∀x∈ord,U8 x)(H:Xn)(K:Xd->Xn->Prop)
  (hK:∀g ns N H',Xb H H'->H.A<=N->N<H'.A->H'.get N=some (.J 0 73 (aE ns))->Xq g ns->ns.length<=5->(∀x∈ns,x.F.length<=3)->K (.ret (.agg [aa g,.Q N 0 0 ns.length 3])) H'):
  ae prog G0 41 [uX g0 ps ord] H K:=Ox g0 ps ord hg0 hps hpl hol ho8 H K fun g ns N H' a b c d e f h _=>hK g ns N H' a b c d e f h
def Oz (s v:Nat)(hs:s<2 ^ 64)(H:Xn)(K:Xd->Xn->Prop)(hK:K (.ret (.lit (.bool (s.testBit v)))) H):ae prog G0 52 [bJ s,aa v] H K:=by
 refine ae.st (n:=10) (rs:=[.tmp 4]) func52 ?_;have s1:=fun t x y=>mi (P:=prog) (t:=t) (x:=x) (y:=y) (k':=.i64) (s:=v) hs;have s2:=fun t x y=>nj (P:=prog) (t:=t) (x:=x) (y:=y) (s:=v) hs;cases hb:s.testBit v
 ·rw[hb]at hK;simp only[go_sem,s1,s2,hb];exact ar.mk W8 hK
 ·rw[hb]at hK;simp only[go_sem,s1,s2,hb];exact ar.mk W8 hK
def eH (s n:Nat):List Int:=((List.range n).filter fun v=>s.testBit v).map fun (v:Nat)=>(v:Int)
def OA (s n:Nat):eH s (n+1)=if s.testBit n=true then eH s n++[(n:Int)] else eH s n:=by
 unfold eH;rw[TP,List.filter_append,TT];by_cases h:s.testBit n=true
 ·rw[SU h];simp[h]
 ·rw[SQ h];simp[h]
def qG {s:Nat}{q:Int}:q∈eH s n↔∃v:Nat,q=v/\v<n/\s.testBit v=true:=by
 unfold eH;simp only[S4,List.mem_filter,S7];exact⟨fun ⟨v,⟨h1,h2⟩,h3⟩=>⟨v,h3.symm,h1,h2⟩,fun ⟨v,h1,h2,h3⟩=>⟨v,⟨h2,h3⟩,h1.symm⟩⟩
def OB (s n:Nat):(eH s n).Pairwise (·<·):=by
 unfold eH;refine List.Pairwise.map _ (R:=(·<·)) (fun a b h=>O) ?_;exact List.Pairwise.filter _ WB
def Cs (s n:Nat):(eH s n).length<=n:=by
 unfold eH;rw[S8];exact Tw (WE _ _) (W5)
def Ct (s:Nat)(hs:s<2 ^ 64)(H:Xn)(K:Xd->Xn->Prop)(hK:K (.ret (ah (eH s 8))) H):ae prog G0 44 [bJ s] H K:=by
 refine ae.Z ⟨_,func44,rfl,rfl⟩ fun hcl=>?_;refine ae.st (n:=17) (rs:=[.tmp 2]) func44 ?_;simp only[go_sem];refine W.aP 65528 (by rfl) (fun ρ H'=>∃k:Nat,ρ 4=aa k/\k<=8/\Xb H H'/\aD H.A H' 3 (ρ 3) (ints (eH s k))) (fun ρ H=>8-(iv (ρ 4)).toNat) ?_ ?_
 ·simp only[go_sem];exact⟨0,rfl,O,.refl _,.nil⟩
 rintro ρ H' ⟨k,h4,hk,ov,h3⟩;refine W.en (fun E=>E 0=bJ s /\ E 3=ρ 3 /\ E 4=aa k) (by simp only[go_sem,h4]) fun E ⟨e0,e3,e4⟩=>?_
 refine W.vs ?_;by_cases hb:(k:Int)<8
 ·have w1:=SN ((k:Int)+1) O;have hbl:=Cs s k;have hsu:=OA s k;simp only[go_sem,e0,e4,hb];refine az.Z (Oz s k hs _ _ ⟨trivial,?_⟩);by_cases hbit:s.testBit k=true
  ·obtain⟨v',H2,hA,ov2,hO,hn2,_⟩:=mj (k:Int) ov h3 O;rw[SU hbit]at hsu;simp only[go_sem,e3,e4,hbit,w1,hA];exact⟨by have:=ov2.A;omega,⟨k+1,rfl,O,ov2,by rw[hsu];exact hO⟩,by rw[h4];simp only[aa,bj];omega⟩
  ·rw[SQ hbit]at hsu;have hbf:s.testBit k=false:=(by simpa using hbit);simp only[go_sem,e3,e4,hbf,w1];exact⟨ov.A,⟨k+1,rfl,O,ov,by rw[hsu];exact h3⟩,by rw[h4];simp only[aa,bj];omega⟩
 ·obtain rfl:k=8:=O
  simp only[go_sem,e3,e4];exact ar.bE aH hcl ov (h3.ie fun i hi=>hi) hK
def yH:W9->Nat
 |.Q _ _ _ n _=>n
 |_=>0
def ve (h:aD lo H e v cs):yH v=cs.length:=by
 rcases h with ⟨rfl,rfl⟩|⟨_,_,_,_,rfl,_⟩<;>rfl
def vf (d:Xa):List W9:=[.lit (.int .i64 d.Y),.M d.C.length (aW d.C),.lit (.int .u64 (d.U:Int)),.M d.V.length (aZ d.V)]
def qH (d:Xa):W9:=.agg (vf d)
def Cu (d:Xa):qH d=.agg (vf d):=rfl
def OD (g:Int)(ns:List Xl)(hl:(ns.length:Int)<2 ^ 39)(hp:∀x∈ns,(x.F.length:Int)<2 ^ 39/\∀q∈x.F,0<=q/\q<64)(H:Xn)(K:Xd->Xn->Prop)
  (hK:∀v H',Xb H H'->aD H.A H' 35 v ((aR ns).map bJ)->K (.ret v) H'):ae prog G0 43 [dk g ns] H K:=by
 refine ae.Z ⟨_,func43,rfl,rfl⟩ fun hcl=>?_;refine ae.st (n:=43) (rs:=[.tmp 2]) func43 ?_;simp only[go_sem,dk,dL];obtain⟨H1,hH1⟩:∃H1,H1=ext H [.J 0 103 [.lit (.int .i64 g),.M ns.length (aE ns)]]:=⟨_,rfl⟩
 have l1:H1.X H.A 0=some (103,[.lit (.int .i64 g),.M ns.length (aE ns)]):=by rw[hH1];exact af (cV ..)
 have n1:H1.A=H.A+1:=hH1▸rfl
 have o1:Xb H H1:=hH1▸.ext _ _
 rw[<- hH1];refine W.aP 4398046511096 (by rfl) (fun ρ H'=>∃k:Nat,ρ 4=aa k/\k<=ns.length/\ρ 1=.R H.A 0 0/\Xb H1 H'/\aD H1.A H' 35 (ρ 3) (((aR ns).take k).map bJ)) (fun ρ H=>ns.length-(iv (ρ 4)).toNat) ?_ ?_
 ·simp only[go_sem];exact⟨0,rfl,O,.refl _,.nil⟩
 rintro ρ H' ⟨k,h4,hk,h1,ov,h3⟩;refine W.vs ?_;have l2:=(ov.X (g:=0) (by omega:H.A<H1.A)).trans l1;by_cases hb:(k:Int)<ns.length
 ·obtain⟨x,hx⟩:=aq (l:=ns) (i:=k) O;have hne:=eV hx;have e1:=mB hx;obtain⟨xl,xr⟩:=hp x (an hx);simp only[go_sem,h4,h1,l2,hb];refine W.aP 274877890656 (by rfl) (fun ρ' H2=>H2=H'/\∃j:Nat,ρ' 6=aa j/\j<=x.F.length/\ρ' 5=bJ (bV (x.F.take j))) (fun ρ' H=>x.F.length-(iv (ρ' 6)).toNat) ?_ ?_
  ·simp only[go_sem];exact⟨0,rfl,O,rfl⟩
  rintro ρ' H2 ⟨rfl,j,h6,hj,h5⟩;refine W.vs ?_;by_cases hb2:(j:Int)<x.F.length
  ·obtain⟨q,hq⟩:=aq (l:=x.F) (i:=j) O;obtain⟨q0,q1⟩:=xr q (an hq);obtain⟨u,rfl⟩:=S5 q0;have hne2:=aM hq;have w1:=Ut (u:Int) O;have w2:=SN ((j:Int)+1) O;have b1:bV (x.F.take j)<2 ^ 64:=nV fun p hp=>by have:=xr p (Tj hp);omega
   have s1:=fun t x y=>ni (P:=prog) (t:=t) (x:=x) (y:=y) (k':=.u64) (s:=u) O;have s2:=fun t x y=>kv (P:=prog) (t:=t) (x:=x) (y:=y) (b:=2 ^ u) b1 (Ui W6 O);simp only[go_sem,h4,h1,l2,hb,hne,e1,h6,h5,hb2,hq,hne2,w1,w2,s1,s2];exact⟨⟨j+1,W5,O,by rw[aU hq,uN];rfl⟩,O⟩
  ·obtain⟨v',H3,hA,ov2,hO,hn2,_⟩:=Dr (bV x.F) ov h3 (by simp[aR];omega);have w1:=SN ((k:Int)+1) O;rw[SR O]at h5;simp only[go_sem,h4,h1,l2,hb,hne,e1,h6,h5,hb2,w1,hA];refine⟨by have:=ov2.A;omega,⟨k+1,W5,O,ov2,?_⟩,O⟩;rw[aU (lu hx)];exact hO
 ·simp only[go_sem,h4,h1,l2,hb];rw[SR (by simp[aR];omega)]at h3;exact ar.mk (o1.trans ov).A (hK _ _ (o1.trans ov) (h3.nb O W8 fun _ _ _ _ _ _=>rfl))
def OE (ps:List Nat)(hl:ps.length<=60)(hp:∀p∈ps,p<2 ^ 64)(r:List Nat)(htp:fw ps=some r)(H:Xn)(K:Xd->Xn->Prop)(hK:∀v H',Xb H H'->aD H.A H' 3 v (ints (bf r))->K (.ret v) H'):ae prog G0 102 [iW ps] H K:=by
 refine ae.Z ⟨_,func102,rfl,rfl⟩ fun hcl=>?_;refine ae.st (n:=40) (rs:=[.tmp 2]) func102 ?_;simp only[go_sem];refine W.aP 549755813880 (by rfl) (fun ρ H'=>∃(out:List Nat) (done:Nat),ρ 4=bJ done/\done<2 ^ 64/\out.length<=ps.length/\Xb H H'/\aD H.A H' 3 (ρ 3) (ints (bf out))/\gR ps (ps.length-out.length) out done=some r) (fun ρ H=>ps.length-yH (ρ 3)) ?_ ?_
 ·simp only[go_sem];exact⟨[],0,rfl,W6,W5,.refl _,.nil,htp⟩
 rintro ρ H' ⟨out,done,h4,hd,ho,ov,h3,ht⟩;refine W.en (fun E=>E 0=iW ps /\ E 3=ρ 3 /\ E 4=bJ done) (by simp only[go_sem,h4]) fun E ⟨e0,e3,e4⟩=>?_
 refine W.vs ?_;have hlen:=uZ h3 (d:=some (.slice 3)) rfl;have hol:=ve h3;have nl:(bf out).length=out.length:=by simp[bf]
 rw[qv,aS,nl]at hlen;rw[aS,nl]at hol;by_cases hb:(out.length:Int)<ps.length
 ·simp only[go_sem,e0,e3,hlen,hb];have hk1:ps.length-out.length=(ps.length-(out.length+1))+1:=O
  refine W.aP 549755811896 (by rfl) (fun ρ2 H2=>H2=H'/\∃j:Nat,ρ2 5=aa j/\j<=ps.length/\ρ2 3=ρ 3/\ρ2 4=bJ done/\∀v,v<j->jw ps done v=false) (fun ρ2 H=>ps.length-(iv (ρ2 5)).toNat) ?_ ?_
  ·simp only[go_sem,e3,e4];exact⟨0,rfl,O,fun v h=>absurd h (Tb _)⟩
  rintro ρ2 H2 ⟨rfl,j,h5,hj,h3',h4',hno⟩;refine W.en (fun E2=>E2 0=iW ps /\ E2 3=ρ 3 /\ E2 4=bJ done /\ E2 5=aa j) (by simp only[go_sem,e0,h3',h4',h5]) fun E2 ⟨f0,f3,f4,f5⟩=>?_
  refine W.vs ?_;by_cases hb2:(j:Int)<ps.length
  ·obtain⟨p,hpj⟩:=aq (l:=ps) (i:=j) O;have hpj':(ps.map bJ)[j]?=some (bJ p):=(by rw[List.getElem?_map,hpj];rfl);have hne:=aM hpj';have s3:=fun t x y=>zD (P:=prog) (t:=t) (x:=x) (y:=y) (a:=p) (b:=done);have w1:=SN ((j:Int)+1) O;have w2:=Ut (j:Int) O;have cont:jw ps done j=false->∀v,v<j+1->jw ps done v=false:=fun h v hv=>by
    rcases Tg v j with h'|h'
    ·exact hno v h'
    ·obtain rfl:v=j:=O;exact h
   have fe:jw ps done j=(!done.testBit j && decide (iP p done=0)):=(by unfold jw;rw[bq hpj]);simp only[go_sem,f0,f4,f5,hb2];refine az.Z (PV done j hd O _ _ ⟨trivial,?_⟩);cases hbit:done.testBit j;rotate_left
   ·simp only[go_sem,f3,f4,f5,w1];exact⟨⟨j+1,rfl,O,cont (by rw[fe,hbit];rfl)⟩,by rw[h5];simp only[aa,bj];omega⟩
   by_cases hz:iP p done=0;rotate_left
   ·have hz':¬((iP p done:Nat):Int)=0:=O;simp only[go_sem,f0,f3,f4,f5,hb2,hpj',hne,s3,hz',w1];exact⟨⟨j+1,rfl,O,cont (by rw[fe,hbit];simp[hz])⟩,by rw[h5];simp only[aa,bj];omega⟩
   have hz':((iP p done:Nat):Int)=0:=O;have hnx:jW ps done=some j:=Dy O hno (by rw[fe,hbit];simp[hz]);obtain⟨v',H3,hA,ov2,hO,hn2,_⟩:=mj (j:Int) ov h3 (by simp[bf];omega);have b2:(2:Nat) ^ j<2 ^ 64:=Ui W6 O;have s4:=fun t x y=>ni (P:=prog) (t:=t) (x:=x) (y:=y) (k':=.u64) (s:=j) O;have s5:=fun t x y=>kv (P:=prog) (t:=t) (x:=x) (y:=y) hd b2;simp only[go_sem,f0,f3,f4,f5,hb2,hpj',hne,s3,s4,s5,hz',w2,hA];have hO':aD H.A H3 3 v' (ints (bf (out++[j]))):=by
    have e:bf (out++[j])=bf out++[(j:Int)]:=(by simp[bf]);rw[e];exact hO
   have hol':=ve hO';have nl':(bf (out++[j])).length=out.length+1:=(by simp[bf]);rw[aS,nl']at hol';refine⟨ov2.A,⟨out++[j],done |||2 ^ j,rfl,UO hd b2,by simp;omega,ov2,hO',?_⟩,by rw[hol,hol'];omega⟩;rw[<- ht,hk1]
   conv=>rhs;unfold gR
   rw[hnx,List.length_append];rfl
  ·have hnn:jW ps done=none:=Dz fun v hv=>hno v O;rw[hk1]at ht;unfold gR at ht;rw[hnn]at ht;cases ht
 ·simp only[go_sem,e0,e3,hlen,hb];have e:ps.length-out.length=0:=O
  rw[e]at ht;unfold gR at ht;cases ht;exact ar.mk ov.A (hK _ _ ov h3)
def OF {l:List Nat}(h:aD lo H e v (l.map bJ)):Xx H v (iW l):=by
 rcases h with ⟨rfl,h⟩|⟨id,g,h1,h2,rfl,h4⟩
 ·have:l=[]:=by cases l with
   |nil=>rfl
   |cons a l=>simp at h
  subst this;exact .nil
 ·have e:iW l=.M (l.map bJ).length (l.map bJ):=by rw[S8];rfl
  rw[e];refine .Q h4 W5 fun j hj h2 h'=>?_;simp only[Nat.zero_add,S9];exact .lit _
def OG (g:Int)(ns:List Xl)(hl:ns.length<=8)(hp:∀x∈ns,(x.F.length:Int)<2 ^ 39/\∀q∈x.F,0<=q/\q<(ns.length:Int))(r:List Nat)(htp:fw (aR ns)=some r)(H:Xn)(K:Xd->Xn->Prop)
  (hK:∀v H',Xb H H'->aD H.A H' 3 v (ints (bf r))->K (.ret v) H'):ae prog G0 42 [dk g ns] H K:=by
 have hsl:(aR ns).length=ns.length:=by simp[aR]
 have hs64:∀p∈aR ns,p<2 ^ 64:=fun p h=>SZ (qY (n:=ns.length) (fun x hx q hq=>(hp x hx).2 q hq) p h) (Ti W6 O);refine ae.st (n:=6) (rs:=[.tmp 2]) func42 ?_;simp only[go_sem,dk,dL];refine az.Z (PW g ns O (fun x hx=>⟨(hp x hx).1,fun q hq=>by have:=(hp x hx).2 q hq;omega⟩) _ _ ⟨trivial,?_⟩);simp only[go_sem];refine az.Z (OE (aR ns) O hs64 r htp _ _ fun v H' ov ho=>⟨trivial,?_⟩);simp only[go_sem];have o1:Xb H H':=(Xb.ext _ _).trans ov;exact ar.mk o1.A (hK _ _ o1 (ho.nb (by simp[aX]) W8 fun _ _ _ _ _ _=>rfl))
structure XC where
 vars:Int
 w:List Int
def I8 (n:Int):Prop:=-128<=n/\n<128
def dV (l:List Int):List W9:=l.map fun n=>.lit (.int .i8 n)
def Cv (h:l[k]?=some a):(dV l)[k]?=some (.lit (.int .i8 a)):=by unfold dV;rw[List.getElem?_map,h];rfl
def XC.cells (x:XC):List W9:=[.lit (.int .u8 x.vars),.M x.w.length (dV x.w)]
def XC.Ok (x:XC):Prop:=U8 x.vars/\(x.w.length:Int)<2 ^ 63/\∀b∈x.w,I8 b
def vh (p:Int)(k:Nat):Bool:=decide (IntKind.u8.wrap (((BitVec.ofInt IntKind.u8.bits (p.fdiv (2 ^ (min ((k:Int)).toNat IntKind.u8.bits))) &&& BitVec.ofInt IntKind.u8.bits 1).toNat:Nat):Int)=1)
def dW (p:Int):Nat->List Int
 |0=>[]
 |v+1=>if vh p v=true/\(dW p v).length<3 then dW p v++[(v:Int)] else dW p v
theorem vj (p:Int):∀n:Nat,(dW p n).Pairwise (·<·)/\(∀q∈dW p n,0<=q/\q<n)/\(dW p n).length<=3
 |0=>⟨by simp[dW],by simp[dW],by simp[dW]⟩
 |n+1=>by
  obtain⟨h1,h2,h3⟩:=vj p n;unfold dW;split
  ·rename_i h;refine⟨UL.2 ⟨h1,W5,fun a ha b hb=>by obtain rfl:=List.mem_singleton.1 hb;exact(h2 a ha).2⟩,fun q hq=>?_,by simp;omega⟩;rcases Tk.1 hq with h4|h4
   ·have:=h2 q h4;omega
   ·obtain rfl:=List.mem_singleton.1 h4;omega
  ·exact⟨h1,fun q hq=>by have:=h2 q hq;omega,h3⟩
def eh (p:XC)(ns:List Xl):Xm:=⟨dW p.vars ns.length,(List.range (aA (aB (aj ns) (dW p.vars ns.length))).toNat).map fun (i:Nat)=>if p.w.length=0 then 0 else (p.w.getD (i % p.w.length) 0).tmod 101⟩
def OC (p:XC)(ns:List Xl)(hc:∀x∈ns,1<=x.L):Xy ns (eh p ns):=by
 obtain⟨h1,h2,h3⟩:=vj p.vars ns.length;refine⟨⟨h1,h2⟩,?_,fun x hx=>?_⟩
 ·have hp:1<=aA (aB (aj ns) (dW p.vars ns.length)):=fu fun c h=>by
   unfold aB at h;obtain⟨q,hq,rfl⟩:=S4.1 h;have:=h2 q hq;obtain⟨x,hx⟩:=aq (l:=ns) (i:=q.toNat) O;rw[bq (cC hx)];exact hc x (an hx)
  show ((List.map _ _).length:Int)=aA (aB (aj ns) (dW p.vars ns.length));rw[S8,TU];omega
 ·unfold eh at hx;obtain⟨i,_,rfl⟩:=S4.1 hx;split
  ·omega
  ·have h:=U6 (p.w.getD (i % p.w.length) 0) 101;have h2:=Va (p.w.getD (i % p.w.length) 0).natAbs (show (101:Int).natAbs > 0 by decide);have h3:(101:Int).natAbs=101:=rfl;rw[h3]at h h2;omega
def OH (p:XC)(hp:p.Ok)(g:Int)(ns:List Xl)(h5:1<=ns.length/\ns.length<=8)(hc:∀x∈ns,1<=x.L/\x.L<=4)(H:Xn)(K:Xd->Xn->Prop)
  (hK:∀v1 v2 H',Xb H H'->aD H.A H' 3 v1 (ints (eh p ns).vars)->aD H.A H' 3 v2 (ints (eh p ns).w)->K (.ret (.agg [v1,v2])) H'):ae prog G0 45 [.agg p.cells,dk g ns] H K:=by
 refine ae.st (n:=70) (rs:=[.cell 4 82]) func45 ?_;simp only[go_sem,dk,dL,XC.cells];obtain⟨H1,hH1⟩:∃H1,H1=ext H [.J 0 80 [.lit (.int .u8 p.vars),.M p.w.length (dV p.w)],.J 0 103 [.lit (.int .i64 g),.M ns.length (aE ns)],.J 0 82 [.lit (.slice none 0 0),.lit (.slice none 0 0)],.J 0 82 [.lit (.slice none 0 0),.lit (.slice none 0 0)]]:=⟨_,rfl⟩
 have g0:=dv hH1
 have g1:=gE hH1 1 rfl
 have g2:=gE hH1 2 rfl
 have g3:=gE hH1 3 rfl
 have n1:H1.A=H.A+4:=hH1▸rfl
 have o1:Xb H H1:=hH1▸.ext _ _
 rw[<- hH1];clear hH1;obtain⟨cs,hcs⟩:∃cs,cs=aj ns:=⟨_,rfl⟩
 have smk:∀k,k<=ns.length->dR (aB cs (dW p.vars k)):=fun k hk=>by
  obtain⟨h1,h2,h3⟩:=vj p.vars k;refine mU (by rw[iq];omega) fun c h=>?_;unfold aB at h;obtain⟨q,hq,rfl⟩:=S4.1 h;have:=h2 q hq;obtain⟨x,hx⟩:=aq (l:=ns) (i:=q.toNat) O;rw[hcs,bq (cC hx)];exact hc x (an hx)
 refine W.aP 8796093021376 (by rfl) (fun ρ Hx=>∃(k:Nat) (v1:W9),ρ 7=aa k/\k<=ns.length/\ρ 6=aa (aA (aB cs (dW p.vars k)))/\H1.A<=Hx.A/\(∀id,id<H1.A->id≠H.A+3->Hx.get id=H1.get id)/\Hx.get (H.A+3)=some (.J 0 82 [v1,.lit (.slice none 0 0)])/\aD H1.A Hx 3 v1 (ints (dW p.vars k))) (fun ρ H=>ns.length-(iv (ρ 7)).toNat) ?_ ?_
 ·simp only[go_sem];exact⟨0,_,rfl,O,rfl,g3,.nil⟩
 rintro ρ Hx ⟨k,v1,h7,hk,h6,hnx,hold,hu,hO⟩;refine W.en (fun E=>E 2=.R H.A 0 0 /\ E 3=.R (H.A+1) 0 0 /\ E 4=.R (H.A+2) 0 0 /\ E 5=.R (H.A+3) 0 0 /\ E 6=aa (aA (aB cs (dW p.vars k))) /\ E 7=aa k) (by simp only[go_sem,h6,h7]) fun E ⟨e2,e3,e4,e5,e6,e7⟩=>?_
 refine W.vs ?_;have l0:=af ((hold _ O O).trans g0);have l1:=af ((hold _ O O).trans g1);have l3:=af hu;by_cases hb:(k:Int)<ns.length
 ·obtain⟨x,hx⟩:=aq (l:=ns) (i:=k) O;have hne:=eV hx;have c0:=jV hx;have w1:=SN ((k:Int)+1) O;obtain⟨r1,hr1⟩:∃r1,p.vars.fdiv (2 ^ (min ((k:Int)).toNat IntKind.u8.bits))=r1:=⟨_,rfl⟩
  obtain⟨r2,hr2⟩:∃r2,IntKind.u8.wrap (((BitVec.ofInt IntKind.u8.bits r1 &&& BitVec.ofInt IntKind.u8.bits 1).toNat:Nat):Int)=r2:=⟨_,rfl⟩
  have s1:∀t o1 o2,bn prog .shr t o1 o2 (.lit (.int .u8 p.vars)) (.lit (.int .i64 (k:Int)))=some (.lit (.int .u8 r1)):=fun t o1 o2=>by rw[tv O,hr1]
  have s2:∀t o1 o2,bn prog .and t o1 o2 (.lit (.int .u8 r1)) (.lit (.int .u8 1))=some (.lit (.int .u8 r2)):=fun t o1 o2=>by rw[tw,hr2]
  have hb8:vh p.vars k=decide (r2=1):=by unfold vh;rw[hr1,hr2]
  have hlen:=uZ hO (d:=some (.slice 3)) rfl;rw[qv,aS]at hlen;obtain⟨u1,u2,u3⟩:=vj p.vars k;have hstep:dW p.vars (k+1)=if vh p.vars k=true/\(dW p.vars k).length<3 then dW p.vars k++[(k:Int)] else dW p.vars k:=rfl
  by_cases hr:r2=1
  ·by_cases h3:((dW p.vars k).length:Int)<3
   ·rw[SU ⟨by rw[hb8,Ty hr],O⟩]at hstep;obtain⟨v',H3,hA,hO3,hn3,hp3⟩:=iT (P:=prog) (H:=Hx) (t:=46) (x:=aa k) (n:=Hx.A+1) Tryz.underlying46 Tryz.fm Tryz.fq rfl (by rw[Tryz.fM,aS];omega) hO hnx rfl;simp only[aa]at hA;have nb:∀id,id<H1.A->H3.get id=Hx.get id:=fun id h=>hp3 id O (hO.ne h);have l1j:=af ((nb _ O).trans ((hold _ O O).trans g1));have l3j:=af ((nb _ O).trans hu);have hvc:=hO3.cells;have hvo:=hO3.one;have l1u:∀b,(H3.upd (H.A+3) b).X (H.A+1) 0=some (103,[.lit (.int .i64 g),.M ns.length (aE ns)]):=fun b=>(kx O).trans l1j;have hpr:aA (aB cs (dW p.vars (k+1)))=aA (aB cs (dW p.vars k))*x.L:=by
     rw[hstep];unfold aB;rw[TT,hcs];show aA (_++[(aj ns).getD ((k:Int)).toNat 0])=_;rw[fZ,Int.toNat_natCast,bq (cC hx)]
    have hps:=(smk (k+1) O).prod;rw[hpr]at hps;have w2:=SN (aA (aB cs (dW p.vars k))*x.L) O;simp only[go_sem,e2,e3,e5,e6,e7,l0,l1,l3,l3j,hb,s1,s2,hr,hlen,h3,w1,w2,hne,c0,hA,hvc,hvo,l1u];refine⟨by rw[aF];omega,⟨k+1,v',rfl,O,by rw[hpr],by rw[aF];omega,fun id h1 h2=>by rw[ag,SQ h2,nb _ h1];exact hold id h1 h2,by rw[ag,SU rfl],?_⟩,by rw[h7];simp only[aa,bj];omega⟩;rw[hstep];have:=hO3.nb (lo':=H1.A) (H':=H3.upd (H.A+3) (.J 0 82 [v',.lit (.slice none 0 0)])) W8 W8 fun id _ h1 _ _ _=>by rw[ag,SQ O]
    simpa[ints,aa] using this
   ·rw[SQ O]at hstep;simp only[go_sem,e2,e3,e5,e6,e7,l0,l1,l3,hb,s1,s2,hr,hlen,h3,w1];exact⟨hnx,⟨k+1,v1,rfl,O,by rw[hstep],hnx,hold,hu,by rw[hstep];exact hO⟩,by rw[h7];simp only[aa,bj];omega⟩
  ·rw[SQ (by rw[hb8,T4 hr];simp)]at hstep;simp only[go_sem,e2,e3,e6,e7,l0,l1,hb,s1,s2,hr,w1];exact⟨hnx,⟨k+1,v1,rfl,O,by rw[hstep],hnx,hold,hu,by rw[hstep];exact hO⟩,by rw[h7];simp only[aa,bj];omega⟩
 ·have hke:k=ns.length:=O
  simp only[go_sem,e3,e7,l1,hb];rw[hke]at hO e6;obtain⟨R,hR⟩:=S5 (smk ns.length O).prod.1;have hR2:=(smk ns.length O).prod.2;rw[hR]at e6 hR2;have hwl:(eh p ns).w=(List.range R).map fun (i:Nat)=>if p.w.length=0 then 0 else (p.w.getD (i % p.w.length) 0).tmod 101:=by
   unfold eh;rw[<- hcs,hR];rfl
  have wget:∀(i:Nat) (x:Int),i<R->(if p.w.length=0 then 0 else (p.w.getD (i % p.w.length) 0).tmod 101)=x->(eh p ns).w[i]?=some x:=fun i x hi hx=>by
   rw[hwl,List.getElem?_map,Th hi,Option.map_some,hx]
  have wlen:(eh p ns).w.length=R:=by rw[hwl];simp
  refine W.aP 590295801562612630272 (by rfl) (fun ρ H2=>∃(i:Nat) (v2:W9),ρ 8=aa i/\i<=R/\Hx.A<=H2.A/\(∀id,id<Hx.A->id≠H.A+3->H2.get id=Hx.get id)/\H2.get (H.A+3)=some (.J 0 82 [v1,v2])/\aD Hx.A H2 3 v2 (ints ((eh p ns).w.take i))) (fun ρ H=>R-(iv (ρ 8)).toNat) ?_ ?_
  ·simp only[go_sem];exact⟨0,_,rfl,O,hu,.nil⟩
  rintro ρ2 H2 ⟨i,v2,h8,hi,hn2,hold2,hu2,hO2⟩;refine W.en (fun E2=>E2 2=.R H.A 0 0 /\ E2 4=.R (H.A+2) 0 0 /\ E2 5=.R (H.A+3) 0 0 /\ E2 6=aa R /\ E2 8=aa i) (by simp only[go_sem,e2,e4,e5,e6,h8]) fun E2 ⟨f2,f4,f5,f6,f8⟩=>?_
  refine W.vs ?_;have o02:∀id,id<H1.A->id≠H.A+3->H2.get id=H1.get id:=fun id h1 h2=>(hold2 id O h2).trans (hold id h1 h2);have m0:=af ((o02 _ O O).trans g0);have m3:=af hu2;by_cases hb2:(i:Int)<R
  ·have w1:=SN ((i : Int)+1) O;have hlen:=uZ hO2 (d:=some (.slice 3)) rfl;rw [qv,aS] at hlen;have tl : ((eh p ns).w.take i).length=i:=(by rw [Td,wlen];omega);have app : ∀ x : Int,(eh p ns).w[i]?=some x→∃ v' H3,bT prog (ext H2 [.J 0 3 [.lit (.int .i64 x)]]) (H2.A+1) 46 46 v2 (.Q H2.A 0 0 1 1)=some (v',H3)∧v'.cells=[v']∧v'.one=true∧H3.X (H.A+3) 0=some (82,[v1,v2])∧H2.A≤H3.A ∧
     ∀b,b=.J 0 82 [v1,v']->(∀id,id<Hx.A->id≠H.A+3->(H3.upd (H.A+3) b).get id=Hx.get id)/\(H3.upd (H.A+3) b).get (H.A+3)=some (.J 0 82 [v1,v'])/\aD Hx.A (H3.upd (H.A+3) b) 3 v' (ints ((eh p ns).w.take (i+1))):=fun x hx=>by
    obtain⟨v',H3,hA,hO3,hn3,hp3⟩:=iT (P:=prog) (H:=H2) (t:=46) (x:=aa x) (n:=H2.A+1) Tryz.underlying46 Tryz.fm Tryz.fq rfl (by rw[Tryz.fM,aS];omega) hO2 hn2 rfl;simp only[aa]at hA;have nb:∀id,id<Hx.A->H3.get id=H2.get id:=fun id h=>hp3 id O (hO2.ne h);refine⟨v',H3,hA,hO3.cells,hO3.one,af ((nb _ O).trans hu2),hn3,fun b hb=>⟨fun id h1 h2=>by rw[ag,SQ h2,nb _ h1];exact hold2 id h1 h2,by rw[ag,SU rfl,hb],?_⟩⟩;rw[aU hx];have:=hO3.nb (lo':=Hx.A) (H':=H3.upd (H.A+3) b) W8 W8 fun id _ h1 _ _ _=>by rw[ag,SQ O]
    simpa[ints,aa] using this
   by_cases hz:(0:Int)<p.w.length
   ·have hzn:¬(p.w.length:Int)=0:=O;have m1:(i:Int).tmod p.w.length=((i % p.w.length:Nat):Int):=(by rw[TD O];rfl);have m2:=Va i (show p.w.length > 0 by omega);obtain⟨q,hq⟩:∃q,q=i % p.w.length:=⟨_,rfl⟩
    rw[<- hq]at m1 m2;have hq0:(q:Int) >= 0:=O;have hql:(q:Int)<p.w.length:=O;obtain⟨b,hbg⟩:=aq (l:=p.w) (i:=q) m2;have b8:=hp.2.2 b (an hbg);have hbg':=Cv hbg;have hbne:=aM hbg';unfold I8 at b8;have w4:IntKind.i64.wrap b=b:=SN _ O;have tb:-9223372036854775808<=b.tmod 101/\b.tmod 101<9223372036854775808:=by
     have h:=U6 b 101;have h2:=Va b.natAbs (show (101:Int).natAbs > 0 by decide);have h3:(101:Int).natAbs=101:=rfl;rw[h3]at h h2;omega
    have w5:IntKind.i64.wrap (b.tmod 101)=b.tmod 101:=SN _ O;obtain⟨v',H3,hA,hvc,hvo,l3,hn3,fin⟩:=app (b.tmod 101) (wget i _ O (by rw[SQ O,<- hq,bq hbg]));simp only[go_sem,f2,f6,f8,m0,hb2,hz];refine W.dr 7 [0,1,0,0,8,24,60] mixed ?_;simp only[go_sem,f2,f5,f8,m0,m3,hzn,m1,hq0,hql,hbg',hbne,w1,w4,hA,hvc,hvo,l3];refine⟨by rw[aF];omega,⟨i+1,v',rfl,O,by rw[aF];omega,(fin _ rfl).1,(fin _ rfl).2.1,(fin _ rfl).2.2⟩,by rw[h8];simp only[aa,bj];omega⟩
   ·have hzn:p.w.length=0:=O;obtain⟨v',H3,hA,hvc,hvo,l3,hn3,fin⟩:=app 0 (wget i _ O (by rw[SU hzn]));simp only[go_sem,f2,f5,f6,f8,m0,m3,hb2,hz,w1,hA,hvc,hvo,l3];refine⟨by rw[aF];omega,⟨i+1,v',rfl,O,by rw[aF];omega,(fin _ rfl).1,(fin _ rfl).2.1,(fin _ rfl).2.2⟩,by rw[h8];simp only[aa,bj];omega⟩
  ·have hie:i=R:=O;have m2:=af ((o02 _ O O).trans g2);have hO1:aD H1.A H2 3 v1 (ints (dW p.vars ns.length)):=hO.nb W8 hn2 fun id _ h1 h3 _ _=>hold2 id h3 O;have v1o:=hO1.one;have v2o:=hO2.one;have v1c:=hO1.cells;have v2c:=hO2.cells;rw[SR O]at hO2;simp only[go_sem,f4,f5,f6,f8,m2,m3,hb2,v1o,v2o];have k1:=hO1.nb (lo':=H.A) (H':=H2.upd (H.A+2) (.J 0 82 [v1,v2])) O (by rw[aF];omega) fun id _ h1 _ _ _=>by rw[ag,SQ O]
   have k2:=hO2.nb (lo':=H.A) (H':=H2.upd (H.A+2) (.J 0 82 [v1,v2])) O (by rw[aF];omega) fun id _ h1 _ _ _=>by rw[ag,SQ O]
   refine ar.mk (by rw[aF];omega) (hK v1 v2 _ ⟨by rw[aF];omega,fun id h=>?_⟩ k1 k2);rw[ag,SQ O,o02 id O O];exact o1.nl id h
end Go.Proofs
