/- Own work: contracts. -/
import Derived.Test.YteolcdbjdgimhaaGreatConC
set_option linter.all false
set_option maxHeartbeats 8000000
set_option maxRecDepth 100000
namespace Go.Hx
variable {P:Program} {H H':ZJ}
def su {t e:TypeId}{lo n m:Nat}{v x:ZK}{cs src:List ZK}{z:List ZK}(ht:P.underlying t=some (.slice e))(hz:P.cellsOf e=1)(hzero:cw P e=some z)(hsrc:dH H 1 x=some (m,src))(hm:src.length=m)(hx:src.all ZK.one=true)
  (hb:(cs.length+m)*P.bytesOf e<=2 ^ 46/\cs.length+m<=2 ^ 46) (ho:aD lo H e v cs) (hlo:lo<=H.A) (hn:n=H.A):
  ∃v' H',cr P H n t t v x=some (v',H')/\aD lo H' e v' (cs++src)/\H.A<=H'.A/\(∀k,k<H.A->(∀g n,v≠.U k g 0 n 1)->H'.get k=H.get k):=by
 subst hm;obtain⟨v',H',hA,h2⟩:=sd (H:=H) (n:=n) ht hz hzero hx hb ho hlo hn;refine⟨v',H',?_,h2⟩;rw[<- hA];have e2:dH H 1 (.Q src.length src)=some (src.length,src):=by unfold dH;simp
 unfold cr;rw[ht];simp only[hz,hsrc,e2]
end Go.Hx
namespace Go.Proofs
open Go.Hx Tryz
variable {a b g:Int}{P l:List Int}{cs:List ZK}{i k lo n nx u:Nat}{S:Nat->Prop}{e:TypeId}{H:ZJ}{v:ZK}
def U8 (n:Int):Prop:=0<=n/\n<256
def QG (n:Nat)(hn:n<=5)(ord:List Int)(H:ZJ)(K:ZP->ZJ->Prop)(hK:K (.ret (ah (List.replicate n 1))) H):
  ag prog G0 120 [.agg [.Q n (cu (List.replicate n 0)),(.lit (.int .u16 0)),.Q ord.length (cu ord)]] H K:=by
 refine ag.Z ⟨_,func120,rfl,rfl⟩ fun hcl=>?_;refine ag.st (n:=28) (rs:=[.tmp 2]) func120 ?_;simp only[go_sem];obtain⟨H1,hH1⟩:∃H1,H1=ext H [.J 0 140 [.Q n (cu (List.replicate n 0)),.lit (.int .u16 0),.Q ord.length (cu ord)]]:=⟨_,rfl⟩
 have l1:=ae (show H1.get H.A=some (.J 0 140 [.Q n (cu (List.replicate n 0)),.lit (.int .u16 0),.Q ord.length (cu ord)]) by rw[hH1];exact dA ..);have n1:H1.A=H.A+1:=hH1▸rfl
 have o1:ZN H H1:=hH1▸.ext _ _
 rw[<- hH1];refine W.aP 134217720 (by rfl) (fun ρ H'=>∃k:Nat,ρ 4=aa k/\k<=n/\ZN H1 H'/\aD H1.A H' 3 (ρ 3) (ints (List.replicate k 1))) (fun ρ H=>n-(iv (ρ 4)).toNat) ?_ ?_
 ·simp only[go_sem];exact⟨0,rfl,O,.refl _,.nil⟩
 rintro ρ H' ⟨k,h4,hk,ov,h3⟩;refine W.en (fun E=>E 1=.M H.A 0 0 /\ E 3=ρ 3 /\ E 4=aa k) (by simp only[go_sem,h4]) fun E ⟨e1,e3,e4⟩=>?_
 refine W.vs ?_;have l2:=(ov.V (g:=0) (by omega:H.A<H1.A)).trans l1;by_cases hb:(k:Int)<n
 ·have h5:(k:Int)<5:=O
  have hg:(cu (List.replicate n 0))[k]?=some (.lit (.int .u8 0)):=ue (by rw[Wc,VA O]);have hne:=aO hg;obtain⟨v',H2,hA,ov2,hO,hn2,_⟩:=kL 1 ov h3 (by simp;omega);have w1:=Vv ((k:Int)+1) O;have hk0:(k:Int) >= 0:=O
  have w5:IntKind.i64.wrap (1+IntKind.i64.wrap (Int.tmod 0 4))=1:=ZG
  simp only[go_sem,e1,e3,e4,l2,hb,h5,hk0,hg,hne,w1,w5,hA];refine⟨by have:=ov2.A;omega,⟨k+1,rfl,O,ov2,?_⟩,by rw[h4];simp only[aa,aZ];omega⟩;rw[Zp];exact hO
 ·simp only[go_sem,e1,e3,e4,l2,hb];obtain rfl:k=n:=O
  exact aq.bC aJ hcl (o1.trans ov) (h3.hJ fun i hi=>O) hK
structure nnh (n:Nat)(p:List Int):Prop where
 len:p.length=n
 nd:p.Nodup
 nk:∀x∈p,0<=x/\x<n
def QH {p:List Int}(h:nnh n p)(at':Nat)(ha:at'<=n):nnh (n+1) (p.take at'++(n:Int) :: p.drop at'):=by
 have hperm:(p.take at'++(n:Int) :: p.drop at').Perm ((n:Int) :: p):=by
  have:=List.perm_middle (a:=(n:Int)) (l₁:=p.take at') (l₂:=p.drop at')
  rwa [V5]at this
 refine⟨by rw[hperm.length_eq];simp[h.len],(hperm.nodup_iff).2 (XZ.2 ⟨fun hm=>?_,h.nd⟩),fun x hx=>?_⟩
 ·have:=h.nk _ hm;omega
 ·rcases List.mem_cons.1 (hperm.mem_iff.1 hx) with rfl|h2
  ·omega
  ·have:=h.nk x h2;omega
def oo (ord:List Int)(k:Nat):Nat:=if k<ord.length then (ord.getD k 0 % ((k:Int)+1)).toNat else 0
def ij (ord:List Int):Nat->List Int
 |0=>[]
 |k+1=>(ij ord k).take (oo ord k)++(k:Int) :: (ij ord k).drop (oo ord k)
def QI (ord:List Int)(k:Nat):oo ord k<=k:=by
 unfold oo;split
 ·have:=WB (ord.getD k 0) (show 0<(k:Int)+1 by omega);omega
 ·omega
theorem zU (ord:List Int):∀n:Nat,nnh n (ij ord n)
 |0=>⟨rfl,by simp[ij],by simp[ij]⟩
 |n+1=>QH (zU ord n) _ (QI ord n)
def QJ (n:Nat)(hn:n<=5)(ord:List Int)(hol:(ord.length:Int)<2 ^ 63)(ho8:∀x∈ord,U8 x)(H:ZJ)(K:ZP->ZJ->Prop)(hK:∀v H',ZN H H'->aD H.A H' 3 v (ints (ij ord n))->K (.ret v) H'):
  ag prog G0 74 [.agg [.Q n (cu (List.replicate n 0)),.lit (.int .u16 0),.Q ord.length (cu ord)]] H K:=by
 refine ag.Z ⟨_,func74,rfl,rfl⟩ fun hcl=>?_;refine ag.st (n:=42) (rs:=[.tmp 2]) func74 ?_;simp only[go_sem];obtain⟨H1,hH1⟩:∃H1,H1=ext H [.J 0 140 [.Q n (cu (List.replicate n 0)),.lit (.int .u16 0),.Q ord.length (cu ord)]]:=⟨_,rfl⟩
 have l1:=ae (show H1.get H.A=some (.J 0 140 [.Q n (cu (List.replicate n 0)),.lit (.int .u16 0),.Q ord.length (cu ord)]) by rw[hH1];exact dA ..);have n1:H1.A=H.A+1:=hH1▸rfl
 have o1:ZN H H1:=hH1▸.ext _ _
 rw[<- hH1];refine W.aP 2199023255544 (by rfl) (fun ρ H'=>∃(k:Nat) (p:List Int),ρ 4=aa k/\k<=n/\p=ij ord k/\ZN H1 H'/\aD H1.A H' 3 (ρ 3) (ints p)) (fun ρ H=>n-(iv (ρ 4)).toNat) ?_ ?_
 ·simp only[go_sem];exact⟨0,[],rfl,O,rfl,.refl _,.nil⟩
 rintro ρ H' ⟨k,p,h4,hk,hpe,ov,h3⟩;have hp:nnh k p:=by rw[hpe];exact zU ord k
 refine W.en (fun E=>E 1=.M H.A 0 0 /\ E 3=ρ 3 /\ E 4=aa k) (by simp only[go_sem,h4]) fun E ⟨e1,e3,e4⟩=>?_
 refine W.vs ?_;have l2:=(ov.V (g:=0) (by omega:H.A<H1.A)).trans l1;simp only[go_sem,e1,l2];refine au.Z (QG n hn ord _ _ ⟨trivial,?_⟩);by_cases hb:(k:Int)<n;rotate_left
 ·simp only[go_sem,VR,e3,e4,hb];obtain rfl:k=n:=O
  exact aq.mk (o1.trans ov).A (hK _ _ (o1.trans ov) (by rw[<- hpe];exact h3.nc O ZI fun _ _ _ _ _ _=>rfl))
  -- the place
 rcases h3 with ⟨h3n,hpn⟩|⟨oi,og,hoi1,hoi2,h3o,hog⟩
 ·have p0:p=[]:=by cases p with
   |nil=>rfl
   |cons a l=>simp[ints]at hpn
  have pl:=hp.len;rw[p0]at pl;obtain rfl:k=0:=by simpa using pl.symm
  rw[h3n]at e3;have e4':E 4=aa 0:=e4;have hb':(0:Int)<n:=hb;by_cases ho:(0:Int)<ord.length
  ·obtain⟨b,hbg⟩:=ao (l:=ord) (i:=0) O;have b8:=ho8 b (an hbg);have hbg':=ue hbg;have hbne:=aO hbg';have w2:IntKind.i64.wrap b=b:=Vv b (by have:=b8.1;have:=b8.2;omega);have w1:IntKind.i64.wrap 1=1:=ZG;have m1:b.tmod 1=0:=ZF;obtain⟨v2,Hb,hA2,ovB,hO2,hn2,hp2⟩:=kL (H:=H') (H':=H') (l:=[]) (v:=.lit (.slice none 0 0)) (0:Int) (.refl _) aD.nil ZF;obtain⟨v3,Hc,hA3,hO3,hn3,hp3⟩:=su (P:=prog) (H:=Hb) (t:=42) (n:=Hb.A) (m:=0) (v:=v2) (x:=.lit (.slice none 0 0)) (src:=[]) Tryz.underlying42 Tryz.fE Tryz.fF rfl rfl rfl (by rw[Tryz.gG];exact⟨ZG,ZG⟩) hO2 ovB.A rfl;have ovC:ZN H' Hc:=oC ovB hO2 hn3 hp3;have hA1:cr prog H' H'.A 42 42 (.lit (.slice none 0 0)) (.lit (.slice none 0 0))=some (.lit (.slice none 0 0),H'):=by
    unfold cr;rw[Tryz.underlying42];simp only[Tryz.fF,Tryz.fE,Option.bind_some,yZ,if_true]
   have hO3':aD H1.A Hc 3 v3 (ints [0]):=by
    rw[List.append_nil]at hO3;exact hO3.nc ov.A ZI fun _ _ _ _ _ _=>rfl
   simp only[go_sem,VR,e1,e3,e4',l2,hb',ho,hbg',hbne,w1,w2,m1,hA1,hA2,hA3];refine⟨by have:=ovC.A;have:=ov.A;omega,⟨1,[0],rfl,O,by simp[ij],ov.trans ovC,hO3'⟩,by rw[h4];simp only[aa,aZ];omega⟩
  ·have w1:IntKind.i64.wrap 1=1:=ZG;obtain⟨v2,Hb,hA2,ovB,hO2,hn2,hp2⟩:=kL (H:=H') (H':=H') (l:=[]) (v:=.lit (.slice none 0 0)) (0:Int) (.refl _) aD.nil ZF;obtain⟨v3,Hc,hA3,hO3,hn3,hp3⟩:=su (P:=prog) (H:=Hb) (t:=42) (n:=Hb.A) (m:=0) (v:=v2) (x:=.lit (.slice none 0 0)) (src:=[]) Tryz.underlying42 Tryz.fE Tryz.fF rfl rfl rfl (by rw[Tryz.gG];exact⟨ZG,ZG⟩) hO2 ovB.A rfl;have ovC:ZN H' Hc:=oC ovB hO2 hn3 hp3;have hA1:cr prog H' H'.A 42 42 (.lit (.slice none 0 0)) (.lit (.slice none 0 0))=some (.lit (.slice none 0 0),H'):=by
    unfold cr;rw[Tryz.underlying42];simp only[Tryz.fF,Tryz.fE,Option.bind_some,yZ,if_true]
   have hO3':aD H1.A Hc 3 v3 (ints [0]):=by
    rw[List.append_nil]at hO3;exact hO3.nc ov.A ZI fun _ _ _ _ _ _=>rfl
   simp only[go_sem,VR,e1,e3,e4',l2,hb',ho,w1,hA1,hA2,hA3];refine⟨by have:=ovC.A;have:=ov.A;omega,⟨1,[0],rfl,O,by simp[ij],ov.trans ovC,hO3'⟩,by rw[h4];simp only[aa,aZ];omega⟩
 rw[h3o]at e3;have lo:=ae hog;by_cases ho:(k:Int)<ord.length
 ·obtain⟨b,hbg⟩:=ao (l:=ord) (i:=k) O;have b8:=ho8 b (an hbg);have hbg':=ue hbg;have hbne:=aO hbg';have w0:=Vv ((k:Int)+1) O;have w1:=w0;have w2:IntKind.i64.wrap b=b:=Vv b (by have:=b8.1;have:=b8.2;omega);have m1:b.tmod ((k:Int)+1)=b % ((k:Int)+1):=Wg b8.1;have m2:=WS b (show (k:Int)+1≠0 by omega);have m3:=WB b (show 0<(k:Int)+1 by omega);have hz:¬(k:Int)+1=0:=O
  obtain⟨a,hat⟩:=VE m2;have ha:a<=k:=O
  have hac:(0:Int)<=(a:Int):=O
  have hap:(a:Int)<=(p.length:Int):=by rw[hp.len];omega
  have hak:(0:Int)<=(a:Int)/\(a:Int)<=(p.length:Int):=⟨hac,hap⟩
  have pl:p.length=k:=hp.len;obtain⟨v1,Ha,hA1,hO1,hn1,hp1⟩:=su (P:=prog) (H:=H') (t:=42) (n:=H'.A) (m:=a) (v:=.lit (.slice none 0 0)) (x:=.U oi og 0 a 1) (src:=(ints p).take a) Tryz.underlying42 Tryz.fE Tryz.fF
   (by rw[uc,VA rfl,lo];simp) (by simp[aR]<;>omega) (VZ.2 fun c hc=>by
    obtain⟨z,_,rfl⟩:=VI.1 (VU hc);rfl) (by rw[Tryz.gG];simp<;>omega) aD.nil ZI rfl
  have ovA:ZN H' Ha:=⟨hn1,fun id hi=>hp1 id hi fun g n h=>by cases h⟩
  rw[List.nil_append,AZ]at hO1;obtain⟨v2,Hb,hA2,ovB,hO2,hn2,hp2⟩:=kL (k:Int) ovA hO1 (by simp<;>omega);have hcl2:(ints (p.take a++[(k:Int)])).length<=k+1:=by rw[aR,List.length_append,VK];simp<;>omega
  have hlb:Hb.V oi og=some (3,ints p):=(ovB.V hoi2).trans lo;obtain⟨v3,Hc,hA3,hO3,hn3,hp3⟩:=su (P:=prog) (H:=Hb) (t:=42) (n:=Hb.A) (m:=p.length-a) (v:=v2) (x:=.U oi og a (p.length-a) 1) (src:=(ints p).drop a) Tryz.underlying42 Tryz.fE Tryz.fF
   (by rw[uc,VA rfl,hlb];simp[Vy,aR]) (by simp[aR]) (VZ.2 fun c hc=>by
    obtain⟨z,_,rfl⟩:=VI.1 (WZ hc);rfl) (by rw[Tryz.gG];omega) hO2 ovB.A rfl
  have ovC:ZN H' Hc:=oC ovB hO2 hn3 hp3;have hla:Ha.V oi og=some (3,ints p):=(ovA.V hoi2).trans lo;rw[A0]at hO3;have hO3':aD H1.A Hc 3 v3 (ints (p.take a++(k:Int) :: p.drop a)):=by
   have:ints (p.take a++[(k:Int)])++ints (p.drop a)=ints (p.take a++(k:Int) :: p.drop a):=(by simp[ints]);rw[this]at hO3;exact hO3.nc ov.A ZI fun _ _ _ _ _ _=>rfl
  simp only[go_sem,VR,e1,e3,e4,l2,hb,ho,hbg',hbne,w0,w2,m1,hz,hat,hac,hap,Int.toNat_natCast,lo,hlb,hA1,hA2,hA3];refine⟨by have:=ovC.A;omega,⟨k+1,_,rfl,O,by rw[ij,<- hpe,show oo ord k=a by unfold oo;rw[VA O,bM hbg,hat];rfl],ov.trans ovC,hO3'⟩,by rw[h4];simp only[aa,aZ];omega⟩
 ·have w0:=Vv ((k:Int)+1) O;have pl:p.length=k:=hp.len;obtain⟨v1,Ha,hA1,hO1,hn1,hp1⟩:=su (P:=prog) (H:=H') (t:=42) (n:=H'.A) (m:=0) (v:=.lit (.slice none 0 0)) (x:=.U oi og 0 0 1) (src:=(ints p).take 0) Tryz.underlying42 Tryz.fE Tryz.fF
   (by rw[uc,VA rfl,lo];simp) (by simp[aR]<;>omega) (VZ.2 fun c hc=>by
    obtain⟨z,_,rfl⟩:=VI.1 (VU hc);rfl) (by rw[Tryz.gG];simp<;>omega) aD.nil ZI rfl
  have ovA:ZN H' Ha:=⟨hn1,fun id hi=>hp1 id hi fun g n h=>by cases h⟩
  rw[List.nil_append,AZ]at hO1;obtain⟨v2,Hb,hA2,ovB,hO2,hn2,hp2⟩:=kL (k:Int) ovA hO1 (by simp<;>omega);have hcl2:(ints (p.take 0++[(k:Int)])).length<=k+1:=by rw[aR,List.length_append,VK];simp<;>omega
  have hlb:Hb.V oi og=some (3,ints p):=(ovB.V hoi2).trans lo;obtain⟨v3,Hc,hA3,hO3,hn3,hp3⟩:=su (P:=prog) (H:=Hb) (t:=42) (n:=Hb.A) (m:=p.length) (v:=v2) (x:=.U oi og 0 (p.length) 1) (src:=(ints p).drop 0) Tryz.underlying42 Tryz.fE Tryz.fF
   (by rw[uc,VA rfl,hlb];simp[Vy,aR]) (by simp[aR]) (VZ.2 fun c hc=>by
    obtain⟨z,_,rfl⟩:=VI.1 (WZ hc);rfl) (by rw[Tryz.gG];omega) hO2 ovB.A rfl
  have ovC:ZN H' Hc:=oC ovB hO2 hn3 hp3;have hla:Ha.V oi og=some (3,ints p):=(ovA.V hoi2).trans lo;rw[A0]at hO3;have hO3':aD H1.A Hc 3 v3 (ints (p.take 0++(k:Int) :: p.drop 0)):=by
   have:ints (p.take 0++[(k:Int)])++ints (p.drop 0)=ints (p.take 0++(k:Int) :: p.drop 0):=(by simp[ints]);rw[this]at hO3;exact hO3.nc ov.A ZI fun _ _ _ _ _ _=>rfl
  simp only[go_sem,VR,e1,e3,e4,l2,hb,ho,w0,lo,hlb,hA1,hA2,hA3];refine⟨by have:=ovC.A;omega,⟨k+1,_,rfl,O,by rw[ij,<- hpe,show oo ord k=0 by unfold oo;rw[Vx O]],ov.trans ovC,hO3'⟩,by rw[h4];simp only[aa,aZ];omega⟩
def qI (h:∀x∈l,0<=x):0<=l.sum:=by
 induction l with
 |nil=>simp
 |cons a l ih =>
  rw[XF];have:=h a ZF;have:=ih fun x hx=>h x (by simp[hx]);omega
def DO (h:l[i]?=some a):(l.set i b).sum=l.sum-a+b:=by
 induction l generalizing i with
 |nil=>simp at h
 |cons x l ih =>
  cases i with
  |zero=>simp at h;subst h;simp only[List.set_cons_zero,XF];omega
  |succ i =>
   simp only[List.set_cons_succ,XF];rw[ih (by simpa using h)];omega
def QK (h:∀x∈l,0<=x/\x<=b):l.sum<=b*l.length:=by
 induction l with
 |nil=>simp
 |cons a l ih =>
  rw[XF,List.length_cons];have:=(h a ZF).2;have:=ih fun x hx=>h x (by simp[hx]);rw[show b*((l.length+1:Nat):Int)=b*l.length+b by rw[Int.natCast_add,Yj];simp];omega
def wF (n:Nat)(bs:List Int)(from':Int):List Int:=(List.range n).map fun (k:Nat)=>if bs.length=0 then 0 else bs.getD ((from'+(k:Int)) % (bs.length:Int)).toNat 0 % 8
def DP (n:Nat)(bs:List Int)(from':Int):(wF n bs from').length=n:=by simp[wF]
def DQ (bs:List Int)(from':Int)(h:k<n):(wF n bs from')[k]?=some (if bs.length=0 then 0 else bs.getD ((from'+(k:Int)) % (bs.length:Int)).toNat 0 % 8):=by
 unfold wF;rw[List.getElem?_map,VT h];rfl
def QL (n:Nat)(bs:List Int)(from':Int):∀x∈wF n bs from',0<=x/\x<=7:=fun x hx=>by
 unfold wF at hx;obtain⟨k,_,rfl⟩:=VI.1 hx;split<;>omega
def wU (g s:Int)(st:List Int × Nat)(m:Nat):List Int × Nat:=if 0<st.1.getD m 0 then (st.1.set m (g*st.1.getD m 0 / s),m) else st
def kz (g:Int)(c:List Int)(m:Nat):List Int × Nat:=(List.range m).foldl (wU g c.sum) (c,0)
def DR (g:Int)(c:List Int)(m:Nat):kz g c (m+1)=wU g c.sum (kz g c m) m:=by unfold kz;rw[Wy,WD];rfl
def pN (g:Int)(n:Nat)(bs:List Int)(from':Int):List Int:=(kz g (wF n bs from') n).1.set (kz g (wF n bs from') n).2 ((kz g (wF n bs from') n).1.getD (kz g (wF n bs from') n).2 0+(g-(kz g (wF n bs from') n).1.sum))
structure RInv (g:Int)(c:List Int)(m:Nat)(d:List Int)(last:Nat):Prop where
 dl:d.length=c.length
 d0:∀x∈d,0<=x
 dd:d.drop m=c.drop m
 dg:(d.take m).sum<=g
 ds:c.sum*(d.take m).sum<=g*(c.take m).sum
 la:last<c.length
def DS {c:List Int}(hg:1<=g)(hc:∀x∈c,0<=x)(hl:0<c.length):∀m,m<=c.length->RInv g c m (kz g c m).1 (kz g c m).2:=by
 intro m
 induction m with
 |zero=>intro _;exact⟨rfl,hc,rfl,by simp;omega,ZF,hl⟩
 |succ m ih =>
  intro hm;obtain⟨hdl,hd0,hdd,hdg,hds,hla⟩:=ih O;rw[DR];generalize kz g c m=st at *
  obtain⟨d,last⟩:=st;simp only at hdl hd0 hdd hdg hds hla;obtain⟨x,hcx⟩:=ao (l:=c) (i:=m) O;have hx0:=hc x (an hcx);have hdx:d[m]?=some x:=by
   have h1:(d.drop m)[0]?=d[m]?:=(by rw[WJ];rfl);have h2:(c.drop m)[0]?=c[m]?:=(by rw[WJ];rfl);rw[<- h1,hdd,h2,hcx]
  have hdd':d.drop (m+1)=c.drop (m+1):=by
   have:=congrArg (List.drop 1) hdd
   rwa [Xt,Xt]at this
  have hct:(c.take (m+1)).sum=(c.take m).sum+x:=by rw[aU hcx];simp
  have hcs:(c.take (m+1)).sum+(c.drop (m+1)).sum=c.sum:=by rw[<- YZ,V5]
  have hcd0:=qI (l:=c.drop (m+1)) fun y hy=>hc y (WZ hy);have hc00:=qI (l:=c.take m) fun y hy=>hc y (VU hy);have hd00:=qI (l:=d.take m) fun y hy=>hd0 y (VU hy);unfold wU;rw[bM hdx];by_cases hx:0<x
  ·rw[VA hx];have gx:0<=g*x:=WT O hx0;have y0:0<=g*x / c.sum:=Y3 gx O;have y2:c.sum*(g*x / c.sum)<=g*x:=Zt O;have dt:((d.set m (g*x / c.sum)).take (m+1)).sum=(d.take m).sum+g*x / c.sum:=by
    rw[aU (VQ O),Ye ZI];simp
   have hs2:c.sum*((d.take m).sum+g*x / c.sum)<=g*(c.take (m+1)).sum:=by
    rw[Yj,hct,Yj];omega
   have hle:(d.take m).sum+g*x / c.sum<=g:=by
    have h1:g*(c.take (m+1)).sum<=g*c.sum:=VY O O;have h2:c.sum*((d.take m).sum+g*x / c.sum)<=c.sum*g:=(by rw[W5 c.sum g];omega);exact Za h2 (O)
   refine⟨by simp[hdl],fun y hy=>?_,?_,by dsimp only;rw[dt];exact hle,by dsimp only;rw[dt];exact hs2,by dsimp only;omega⟩
   ·rcases Wn hy with h|h
    ·exact hd0 y h
    ·omega
   ·rw[<- hdd',ZD O]
  ·rw[Vx hx];have x0:x=0:=O;have dt:(d.take (m+1)).sum=(d.take m).sum:=(by rw[aU hdx,x0];simp);rw[x0,XP]at hct;exact⟨hdl,hd0,hdd',by dsimp only;rw[dt];exact hdg,by dsimp only;rw[dt,hct];exact hds,hla⟩
def QM (hg:1<=g)(hn:1<=n)(bs:List Int)(from':Int):lI g n (pN g n bs from'):=by
 have hw:=DP n bs from';have I:=DS (g:=g) (c:=wF n bs from') hg (fun x hx=>(QL n bs from' x hx).1) O n O;unfold pN;generalize kz g (wF n bs from') n=st at *
 obtain⟨d,last⟩:=st;obtain⟨hdl,hd0,hdd,hdg,hds,hla⟩:=I;dsimp only at hdl hd0 hdd hdg hds hla ⊢;obtain⟨y,hy⟩:=ao (l:=d) (i:=last) O;have y0:=hd0 y (an hy);rw[bM hy];rw[Vy O]at hdg;have hs:(d.set last (y+(g-d.sum))).sum=g:=by rw[DO hy];omega
 have h0:∀w∈d.set last (y+(g-d.sum)),0<=w:=fun w hw=>by
  rcases Wn hw with h|h
  ·exact hd0 w h
  ·omega
 exact⟨by simp[hdl,hw],fun w hw=>⟨h0 w hw,by have:=AG h0 w hw;omega⟩,hs⟩
def QN (g:Int)(n:Nat)(hg:1<=g/\g<=60)(hn:1<=n/\n<=4)(bs:List Int)(hbl:(bs.length:Int)<2 ^ 63)(hb8:∀x∈bs,U8 x)(from':Int)(hf:0<=from'/\from'<=1000000)(H:ZJ)(K:ZP->ZJ->Prop)(hK:∀v H',ZN H H'->aD H.A H' 3 v (ints (pN g n bs from'))->K (.ret v) H'):
  ag prog G0 77 [aa g,aa n,.Q bs.length (cu bs),aa from'] H K:=by
 refine ag.Z ⟨_,func77,rfl,rfl⟩ fun hcl=>?_;refine ag.st (n:=84) (rs:=[.tmp 8]) func77 ?_;simp only[go_sem];refine⟨O,?_⟩;refine W.aP 35184371960832 (by rfl) (fun ρ H'=>∃(k:Nat) (c:List Int),ρ 11=aa k/\k<=n/\c.length=n/\(∀x∈c,0<=x/\x<=7)/\(∀j x,k<=j->c[j]?=some x->x=0)/\(∀j,j<k->c[j]?=(wF n bs from')[j]?)/\ρ 10=aa c.sum/\nnl H H' H.A c) (fun ρ H=>n-(iv (ρ 11)).toNat) ?_ ?_
 ·simp only[go_sem];refine⟨0,List.replicate n 0,rfl,O,ZF,fun x hx=>?_,fun j x _ hx=>?_,fun j hj=>O,ZF,?_⟩
  ·have:=Wv hx;omega
  ·exact Wv (an hx)
  ·exact .new [] _
 rintro ρ H' ⟨k,c,h11,hk,hcl',hc7,hc0,hcw,h10,ho⟩;refine W.en (fun E=>E 0=aa g /\ E 1=aa n /\ E 2=.Q bs.length (cu bs) /\ E 3=aa from' /\ E 9=.U H.A 0 0 n 1 /\ E 10=aa c.sum /\ E 11=aa k) (by simp only[go_sem,h10,h11]) fun E ⟨e0,e1,e2,e3,e9,e10,e11⟩=>?_
 refine W.vs ?_;have lN:=ho.V;have hs0:=qI fun x hx=>(hc7 x hx).1;have hs1:=QK hc7;by_cases hb:(k:Int)<n
 ·have hck:c[k]?=some 0:=by
   obtain⟨a,ha⟩:=ao (l:=c) (i:=k) O;rw[ha,hc0 k a ZI ha]
  have hcne:=aO hck;have hk0:(k:Int) >= 0:=O
  have w1:=Vv ((k:Int)+1) O;by_cases hz:(0:Int)<bs.length
  ·have hzn:¬(bs.length:Int)=0:=O;have w2:=Vv (from'+k) O;have m1:(from'+(k:Int)).tmod bs.length=(from'+k) % bs.length:=Wg O;have m2:=WS (from'+k) hzn;have m3:=WB (from'+k) hz;obtain⟨q,hq⟩:=VE m2;have hq0:(q:Int) >= 0:=O;have hql:(q:Int)<bs.length:=O;obtain⟨b,hbg⟩:=ao (l:=bs) (i:=q) O;have b8:=hb8 b (an hbg);have hbg':=ue hbg;have hbne:=aO hbg';have t1:b.tmod 8=b % 8:=Wg b8.1;have w3:IntKind.u8.wrap (b % 8)=b % 8:=Ze _ O;have w4:IntKind.i64.wrap (b % 8)=b % 8:=Vv _ O;have w5:=Vv (c.sum+b % 8) O;have hsg:(setAt (ints c) k [.lit (.int .i64 (b % 8))])[k]?=some (.lit (.int .i64 (b % 8))):=by
    rw[gJ O,fa,VQ O];rfl
   simp only[go_sem,hsg,e1,e2,e3,e9,e10,e11,hb,hz,hzn,w1,w2,m1,hq,hq0,hql,hbg',hbne,t1,w4,w5,hk0,lN];refine⟨O,by have:=ho.hi;rw[aA];omega,⟨k+1,c.set k (b % 8),rfl,O,by simp[hcl'],fun x hx=>?_,fun j x hj hx=>?_,fun j hj=>?_,by rw[DO hck,Zl],ho.store O _⟩,by rw[h11];simp only[aa,aZ];omega⟩
   ·rcases Wn hx with h|h
    ·exact hc7 x h
    ·omega
   ·rw[Wa O]at hx;exact hc0 j x O hx
   ·by_cases hjk:j=k
    ·subst hjk;rw[VQ O,DQ bs from' O,Vx O,hq,Int.toNat_natCast,bM hbg]
    ·rw[Wa O];exact hcw j (O)
  ·have w5:=Vv (c.sum+0) O;rw[XP]at w5;simp only[go_sem,e1,e2,e9,e10,e11,hb,hz,w1,w5,XP,hk0,hck,lN];refine⟨by have:=ho.hi;omega,⟨k+1,c,rfl,O,hcl',hc7,fun j x hj hx=>hc0 j x O hx,fun j hj=>by
    by_cases hjk:j=k
    ·subst hjk;rw[hck,DQ bs from' O,VA O]
    ·exact hcw j O,rfl,ho⟩,by rw[h11];simp only[aa,aZ];omega⟩
 ·obtain rfl:k=n:=O
  simp only[go_sem,e1,e11,hb];have hcwF:c=wF k bs from':=by
   apply V9;intro j;rcases VV j k with h|h
   ·exact hcw j h
   ·rw[VD O,VD (by rw[DP];exact h)]
  have hRI:=fun m (hm:m<=k)=>DS (g:=g) (c:=c) hg.1 (fun x hx=>(hc7 x hx).1) O m O;refine W.aP 18889465861109836705792 (by rfl) (fun ρ H2=>∃(m last:Nat) (d:List Int),ρ 14=aa m/\m<=k/\kz g c m=(d,last)/\ρ 12=aa (g-(d.take m).sum)/\ρ 13=aa last/\H'.A<=H2.A/\nnl H H2 H.A d) (fun ρ H=>k-(iv (ρ 14)).toNat) ?_ ?_
  ·simp only[go_sem,e0];exact⟨0,0,c,rfl,O,rfl,ZF,rfl,ho⟩
  rintro ρ2 H2 ⟨m,last,d,h14,hm,hrf,h12,h13,hnn,hod⟩;obtain⟨hdl,hd0,hdd,hdg,hds,hlast⟩:RInv g c m d last:=by have:=hRI m hm;rw[hrf]at this;exact this
  rw[hcl']at hdl hlast;have hrs:=DR g c m;rw[hrf]at hrs;unfold wU at hrs;dsimp only at hrs;refine W.en (fun E2=>E2 0=aa g /\ E2 1=aa k /\ E2 9=.U H.A 0 0 k 1 /\ E2 10=aa c.sum /\ E2 12=aa (g-(d.take m).sum) /\ E2 13=aa last /\ E2 14=aa m) (by simp only[go_sem,e0,e1,e9,e10,h12,h13,h14]) fun E2 ⟨f0,f1,f9,f10,f12,f13,f14⟩=>?_
  refine W.vs ?_;have lN2:=hod.V;by_cases hb2:(m:Int)<k
  ·obtain⟨x,hcx⟩:=ao (l:=c) (i:=m) O;have hx7:=hc7 x (an hcx);have hdx:d[m]?=some x:=by
    have h1:(d.drop m)[0]?=d[m]?:=(by rw[WJ];rfl);have h2:(c.drop m)[0]?=c[m]?:=(by rw[WJ];rfl);rw[<- h1,hdd,h2,hcx]
   have hdne:=aO hdx;have hm0:(m:Int) >= 0:=O;have w1:=Vv ((m:Int)+1) O;have hdd':d.drop (m+1)=c.drop (m+1):=by
    have:=congrArg (List.drop 1) hdd
    rwa [Xt,Xt]at this
   have hct:(c.take (m+1)).sum=(c.take m).sum+x:=(by rw[aU hcx];simp);have hcs:(c.take (m+1)).sum+(c.drop (m+1)).sum=c.sum:=(by rw[<- YZ,V5]);have hcd0:=qI (l:=c.drop (m+1)) fun y hy=>(hc7 y (WZ hy)).1;have hc00:=qI (l:=c.take m) fun y hy=>(hc7 y (VU hy)).1;have hd00:=qI (l:=d.take m) fun y hy=>hd0 y (VU hy);by_cases hx:0<x
   ·have hsz:¬c.sum=0:=O;have gx:0<=g*x:=WT O hx7.1;have gx2:g*x<=60*7:=Ww hg.2 hx7.2 hx7.1 O;have w2:=Vv (g*x) O;have t1:(g*x).tdiv c.sum=g*x / c.sum:=WW gx;have y0:0<=g*x / c.sum:=Y3 gx hs0;have y1:g*x / c.sum<=g*x:=Int.ediv_le_self _ gx;have y2:c.sum*(g*x / c.sum)<=g*x:=Zt O;have w3:=Vv (g*x / c.sum) O;have w4:=Vv (g-(d.take m).sum-g*x / c.sum) O;have hsg:(setAt (ints d) m [.lit (.int .i64 (g*x / c.sum))])[m]?=some (.lit (.int .i64 (g*x / c.sum))):=by
     rw[gJ O,fa,VQ O];rfl
    have dt:((d.set m (g*x / c.sum)).take (m+1)).sum=(d.take m).sum+g*x / c.sum:=by
     rw[aU (VQ O),Ye ZI];simp
    have hs2:c.sum*((d.take m).sum+g*x / c.sum)<=g*(c.take (m+1)).sum:=by
     rw[Yj,hct,Yj];omega
    have hle:(d.take m).sum+g*x / c.sum<=g:=by
     have h1:g*(c.take (m+1)).sum<=g*c.sum:=VY O O;have h2:c.sum*((d.take m).sum+g*x / c.sum)<=c.sum*g:=(by rw[W5 c.sum g];omega);exact Za h2 (O)
    simp only[go_sem,hsg,f0,f1,f9,f10,f12,f13,f14,hb2,hx,hsz,w1,w2,t1,w3,w4,hm0,hdx,lN2];rw[bM hdx,VA hx]at hrs;exact⟨O,by rw[aA];exact hnn,⟨m+1,m,d.set m (g*x / c.sum),rfl,O,hrs,by rw[dt];congr 2;omega,rfl,by rw[aA];exact hnn,hod.store O _⟩,by rw[h14];simp only[aa,aZ];omega⟩
   ·have x0:x=0:=O;have w4:=Vv (g-(d.take m).sum) O;simp only[go_sem,f1,f9,f12,f13,f14,hb2,x0,w1,w4,hm0,hdx,Zl,lN2];have dt:(d.take (m+1)).sum=(d.take m).sum:=(by rw[aU hdx,x0];simp);rw[x0,XP]at hct;rw[bM hdx,Vx hx]at hrs;exact⟨hnn,⟨m+1,last,d,rfl,O,hrs,by rw[dt],rfl,hnn,hod⟩,by rw[h14];simp only[aa,aZ];omega⟩
  ·obtain rfl:m=k:=O;obtain⟨y,hy⟩:=ao (l:=d) (i:=last) O;have hyne:=aO hy;have hl0:(last:Int) >= 0:=O;have hlk:(last:Int)<m:=O;have y0:=hd0 y (an hy);rw[Vy O]at hdg hds h12 f12;have hyle:=AG hd0 y (an hy);have w1:=Vv (y+(g-d.sum)) O;have hle:last+1<=d.length:=O;simp only[go_sem,f1,f9,f12,f13,f14,hb2,hl0,hlk,hy,lN2,w1];refine⟨hle,?_⟩;have hrow:pN g m bs from'=d.set last (y+(g-d.sum)):=by
    unfold pN;rw[<- hcwF,hrf];dsimp only;rw[bM hy]
   rw[hrow]at hK;have ho2:=hod.store (k:=last) O (y+(g-d.sum));refine aq.mk ho2.ov.A (hK _ _ ho2.ov (.inr ⟨_,0,ho2.lo,ho2.hi,?_,ho2.get⟩));rw[aR,VW,hdl]
structure DrP where
 L:Int
 par:Int
 w:List Int
def DrP.cells (x:DrP):List ZK:=[.lit (.int .u8 x.L),.lit (.int .u8 x.par),.Q x.w.length (cu x.w)]
def gS (l:List DrP):List ZK:=(l.map DrP.cells).flatten
def DrP.Ok (x:DrP):Prop:=U8 x.L/\U8 x.par/\(x.w.length:Int)<2 ^ 63/\∀b∈x.w,U8 b
def xa (g:Int)(ps:List DrP)(ord:List Int):ZK:=.agg [.lit (.int .u8 g),.Q ps.length (gS ps),.Q ord.length (cu ord)]
def D8 {l:List DrP}{x:DrP}(h:l[i]?=some x):((gS l).drop (i*3)).take 3=[.lit (.int .u8 x.L),.lit (.int .u8 x.par),.Q x.w.length (cu x.w)]:=pD (f:=DrP.cells) (z:=3) (fun _=>rfl) l i x h
def D9 (l:List DrP):(gS l).length=l.length*3:=mh (f:=DrP.cells) (fun _=>rfl) l
def ZL.dv (x:ZL):List ZK:=if x.na=[] then [aa x.L,.lit (.slice none 0 0),.lit (.slice none 0 0)] else [aa x.L,ah x.F,aE x.na]
def cG (l:List ZL):List ZK:=(l.map ZL.dv).flatten
def mr (x:ZL):x.dv.length=3:=by unfold ZL.dv;split<;>rfl
def Ea (l:List ZL):(cG l).length=l.length*3:=mh (f:=ZL.dv) mr l
variable {x:ZL}
def Eb {l:List ZL}(h:l[i]?=some x):(cG l)[i*3]?=some (aa x.L):=by
 have:=jW (f:=ZL.dv) (z:=3) mr l i 0 x h O;rw[Nat.add_zero]at this;rw[show (cG l)[i*3]?=_ from this];unfold ZL.dv;split<;>rfl
def Re {l:List ZL}(h:∀x∈l,x.na≠[]):cG l=aG l:=by
 unfold cG aG;congr 1;exact V1 fun x hx=>Vx (h x hx)
def xc {α:Type}{f:α->List ZK}{z:Nat}(hz:∀a,(f a).length=z):∀(l:List α) (i:Nat) (a:α),i<l.length->((l.set i a).map f).flatten=((l.map f).flatten).take (i*z)++f a++((l.map f).flatten).drop (i*z+z):=by
 intro l
 induction l with
 |nil=>intro i a h;simp at h
 |cons b l ih =>
  intro i a h;cases i with
  |zero=>simp[hz]
  |succ i =>
   have hb:=hz b;simp only[List.set_cons_succ,List.map_cons,List.flatten_cons];rw[ih i a (by simpa using h),show (i+1)*z=z+i*z by rw[Wx];omega,List.take_append,List.drop_append,hb];rw[Vy (l:=f b) (i:=z+i*z) O,Yx (l:=f b) (i:=z+i*z+z) O,show z+i*z-z=i*z by omega,show z+i*z+z-z=i*z+z by omega];simp
def Ec {A B:List ZK}{a b:ZK}(h:∀j (h:j<A.length) (h':j<B.length),Fz S H nx A[j] B[j])(hab:Fz S H nx a b):∀j (h:j<(A.set i a).length) (h':j<(B.set i b).length),Fz S H nx (A.set i a)[j] (B.set i b)[j]:=by
 intro j h1 h2;rw[Yv,Yv];split
 ·exact hab
 ·exact h j (by simpa using h1) (by simpa using h2)
def sy (l:List (List Int)):Fz S H nx (aE l) (aE l):=.Q rfl fun i hi _=>by simp only[VO];exact .dK _
def Rg (x:ZL):∀c∈x.dv,Fz S H nx c c:=by
 intro c hc;unfold ZL.dv at hc;split at hc
 ·simp only[List.mem_cons,List.not_mem_nil,or_false]at hc;rcases hc with rfl|rfl|rfl<;>exact .lit _
 ·simp only[List.mem_cons,List.not_mem_nil,or_false]at hc;rcases hc with rfl|rfl|rfl
  ·exact .lit _
  ·exact .dK _
  ·exact sy _
def Ed (l:List ZL):∀c∈cG l,Fz S H nx c c:=by
 intro c hc;unfold cG at hc;obtain⟨r,hr,hc⟩:=Xc.1 hc;obtain⟨x,_,rfl⟩:=VI.1 hr;exact Rg x c hc
def Rh :∀(l:List ZL),(∀x∈l,x.na=[]->x.F=[])->∀(i:Nat) (h:i<(cG l).length) (h':i<(aG l).length),Fz S H nx (cG l)[i] (aG l)[i]:=by
 intro l
 induction l with
 |nil=>intro _ i h;simp[cG]at h
 |cons x l ih =>
  intro hx i h h';have e1:cG (x :: l)=x.dv++cG l:=by simp[cG]
  have e2:aG (x :: l)=x.cells++aG l:=by simp[aG]
  have l1:=mr x;have l2:x.cells.length=3:=rfl;have hc:∀(i:Nat) (h:i<x.dv.length) (h':i<x.cells.length),Fz S H nx x.dv[i] x.cells[i]:=by
   intro i h h';by_cases hr:x.na=[]
   ·have hp:=hx x ZF hr;have ez:x.dv=[aa x.L,.lit (.slice none 0 0),.lit (.slice none 0 0)]:=VA hr;have ec:x.cells=[aa x.L,ah [],aE []]:=(by unfold ZL.cells;rw[hr,hp]);simp only[ez,ec]
    match i,h' with
    |0,_=>exact .lit _
    |1,_=>exact .nil
    |2,_=>exact .nil
   ·have ez:x.dv=x.cells:=Vx hr;simp only[ez]
    match i,h' with
    |0,_=>exact .lit _
    |1,_=>exact .dK _
    |2,_=>exact sy _
  simp only[e1,e2];by_cases hi:i<3
  ·rw[WH O,WH O];exact hc i O (O)
  ·rw[WL O,WL O];simp only[l1,l2];exact ih (fun y hy=>hx y (by simp[hy])) (i-3) _ _
variable {y:ZL}
def Ri {l:List ZL}(h:l[i]?=some x)(hy:y.L=x.L):aG (l.set i y)=((aG l).set (i*3+1) (ah y.F)).set (i*3+2) (aE y.na):=by
 have hl:=aI h;have h1:=xc (f:=ZL.cells) (z:=3) (fun _=>rfl) l i y hl;have h2:=pD (f:=ZL.cells) (z:=3) (fun _=>rfl) l i x h;unfold aG;rw[h1];have h3:(l.map ZL.cells).flatten=((l.map ZL.cells).flatten).take (i*3)++(x.cells++((l.map ZL.cells).flatten).drop (i*3+3)):=by
  rw[<- h2,<- Xt,V5,V5]
 have hlen:(((l.map ZL.cells).flatten).take (i*3)).length=i*3:=by
  rw[VK,mh (f:=ZL.cells) (z:=3) (fun _=>rfl)];omega
 conv=>rhs;rw[h3]
 rw[WA _ _ O,WA _ _ O,hlen,show i*3+1-i*3=1 by omega,show i*3+2-i*3=2 by omega];unfold ZL.cells;simp[hy]
def xd (h:aD lo H e v cs){d:Option TypeDesc}{t:TypeId}(hd:d=some (.slice t)):tW d H v=some (.lit (.int .i64 cs.length)):=by
 subst hd;rcases h with ⟨rfl,rfl⟩|⟨id,g,_,_,rfl,h4⟩
 ·rfl
 ·rw[r9,Cq,ae h4];rfl
def Rj (l p:List Int)(hl:(l.length:Int)<2 ^ 40)(hp:(p.length:Int)<2 ^ 39)(hin:∀q∈p,0<=q/\q<l.length)(H:ZJ)(K:ZP->ZJ->Prop)(hK:∀v H',ZN H H'->aD H.A H' 3 v (ints (aK l p))->K (.ret v) H'):ag prog G0 86 [ah l,ah p] H K:=by
 refine ag.Z ⟨_,func86,rfl,rfl⟩ fun hcl=>?_;refine ag.st (n:=24) (rs:=[.tmp 4]) func86 ?_;simp only[go_sem];refine W.aP 8388576 (by rfl) (fun ρ H'=>∃k:Nat,ρ 6=aa k/\k<=p.length/\ZN H H'/\aD H.A H' 3 (ρ 5) (ints (aK l (p.take k)))) (fun ρ H=>p.length-(iv (ρ 6)).toNat) ?_ ?_
 ·simp only[go_sem];exact⟨0,rfl,O,.refl _,.nil⟩
 rintro ρ H' ⟨k,h6,hk,ov,h5⟩;refine W.vs ?_;by_cases hb:(k:Int)<p.length
 ·obtain⟨q,hq⟩:=ao (l:=p) (i:=k) O;obtain⟨j,rfl,a,ha⟩:=n9 (hin q (an hq)).1 (hin q (an hq)).2;have hne:=aO hq;have hne2:=aO ha;have hj:=aI ha;have hj':(j:Int)<l.length:=O
  obtain⟨v',H2,hA,ov2,hO,hn2,_⟩:=kL a ov h5 (by simp[aK];omega);have w1:=Vv ((k:Int)+1) O;simp only[go_sem,h6,hb,hq,hne,ha,hne2,hj',w1,hA];refine⟨by have:=ov2.A;omega,⟨k+1,ZF,O,ov2,?_⟩,O⟩;rw[SR hq,Int.toNat_natCast,bM ha];exact hO
 ·simp only[go_sem,h6,hb];rw[Vy O]at h5;exact aq.mk ov.A (hK _ _ ov h5)
def Rk (g:Int)(ns:List ZL)(v:Nat)(x:ZL)(hx:ns[v]?=some x)(hl:(ns.length:Int)<2 ^ 39)(hp:(x.F.length:Int)<2 ^ 39)(hin:fm x.F ns.length)(H:ZJ)(K:ZP->ZJ->Prop)
  (hK:∀v H',ZN H H'->aD H.A H' 3 v (ints (aV ns x))->K (.ret v) H'):ag prog G0 76 [dJ g ns,aa v] H K:=by
 refine ag.Z ⟨_,func76,rfl,rfl⟩ fun hcl=>?_;have hne:=eT hx;have e1:=mR hx;have hv:(v:Int)<ns.length:=by have:=aI hx;omega
 refine ag.st (n:=14) (rs:=[.tmp 4]) func76 ?_;simp only[go_sem,dJ,dX];refine W.dr 8 [0,1,0,4,0,28,60,124] mixed ?_;simp only[go_sem];refine⟨ah (ak ns),[],bL.pure fun H2=>SU g ns hl H2 _ ⟨rfl,rfl⟩,?_⟩;simp only[go_sem,hv,hne,e1];refine au.Z (Rj (ak ns) x.F (by rw[dk];omega) hp (by rw[dk];exact hin) _ _ fun w H3 ov ho=>⟨trivial,?_⟩);simp only[go_sem];have o1:ZN H H3:=(ZN.ext _ _).trans ov;exact aq.mk o1.A (hK _ _ o1 (ho.nc (by simp[aM]) ZI fun _ _ _ _ _ _=>rfl))
def Ee {ns:List ZL}(hP:nnh ns.length P)(hall:∀v:Nat,v<ns.length->(v:Int)∈P)(hr:∀(j v:Nat) (x:ZL),P[j]?=some (v:Int)->ns[v]?=some x->∀q∈x.F,0<=q/\∃k,k<j/\P[k]?=some q):mV (bF ns):=by
 intro v hv;have hl:(bF ns).length=ns.length:=by simp[bF]
 rw[hl]at hv;obtain⟨j,hj⟩:=VG.1 (hall v hv);have h0:∀p∈P.take j,0<=p:=fun p hp=>(hP.nk p (VU hp)).1;have sub:∀(k u:Nat) (x:ZL),k<=j->P[k]?=some (u:Int)->ns[u]?=some x->Sub ((bF ns).getD u 0) (cJ (P.take j)):=fun k u x hk hu hx i hi=>by
  rw[bM (oJ hx)]at hi;have hp0:∀p∈x.F,0<=p:=fun p hp=>(hr k u x hu hx p hp).1;rw[mT hp0]at hi;obtain⟨_,k',hk',hq⟩:=hr k u x hu hx _ (of_decide_eq_true hi);rw[mT h0];refine V8 ?_;exact VG.2 ⟨k',by rw[V4 O];exact hq⟩
 have hcl:pI (bF ns) (cJ (P.take j)):=fun u hu ht=>by
  rw[hl]at hu;rw[mT h0]at ht;obtain⟨k,hk⟩:=VG.1 (of_decide_eq_true ht);have hkl:=aI hk;rw[VK]at hkl;rw[V4 O]at hk;obtain⟨x,hx⟩:=ao hu;exact sub k u x O hk hx
 obtain⟨x,hx⟩:=ao hv;have h1:=wM hcl (bF ns).length (sub j v x ZI hj hx);cases hb:(ml (bF ns) ((bF ns).getD v 0)).testBit v with
 |false=>rfl
 |true =>
  exfalso;have h2:=h1 v hb;rw[mT h0]at h2;obtain⟨k,hk⟩:=VG.1 (of_decide_eq_true h2);have hkl:=aI hk;rw[VK]at hkl;rw[V4 O]at hk;have e:P[k]?=P[j]?:=by rw[hk,hj]
  have:=(WV (aI hk) hP.nd).1 e;omega
def ox (H1 H':ZJ)(N:Nat)(cs:List ZK):Prop:=H1.A<=H'.A/\(∀id,id<H1.A->id≠N->H'.get id=H1.get id)/\H'.get N=some (.J 0 87 cs)
def Rl {l:List ZL}(h:l[i]?=some x)(hr:x.na=[])(hy:y.na=[]):cG (l.set i y)=(cG l).set (i*3) (aa y.L):=by
 have hl:=aI h;have h1:=xc (f:=ZL.dv) (z:=3) mr l i y hl;have h2:=pD (f:=ZL.dv) (z:=3) mr l i x h;have e1:x.dv=[aa x.L,.lit (.slice none 0 0),.lit (.slice none 0 0)]:=VA hr;have e2:y.dv=[aa y.L,.lit (.slice none 0 0),.lit (.slice none 0 0)]:=VA hy;unfold cG;rw[h1,e2];rw[e1]at h2;have h3:(l.map ZL.dv).flatten=((l.map ZL.dv).flatten).take (i*3)++([aa x.L,.lit (.slice none 0 0),.lit (.slice none 0 0)]++((l.map ZL.dv).flatten).drop (i*3+3)):=by
  rw[<- h2,<- Xt,V5,V5]
 have hlen:(((l.map ZL.dv).flatten).take (i*3)).length=i*3:=by
  rw[VK,mh (f:=ZL.dv) (z:=3) mr];omega
 conv=>rhs;rw[h3]
 rw[WA _ _ O,hlen];simp
theorem xe (ord:List Int):∀(n v:Nat),v<n->(v:Int)∈ij ord n
 |0,v,h=>O
 |n+1,v,h=>by
  unfold ij;by_cases hv:v=n
  ·subst hv;simp
  ·have:=xe ord n v O;rw[<- V5 (oo ord n) (ij ord n)]at this;rcases V3.1 this with h|h
   ·exact X9 _ h
   ·exact Yz _ (Xv _ h)
def oB (ps:List DrP)(i:Nat):Int × List Int:=match ps[i]? with
 |some y=>(y.par,y.w)
 |none=>(0,[])
def Ef (p:Int)(k:Nat):Int:=IntKind.u8.wrap (((BitVec.ofInt IntKind.u8.bits (p.fdiv (2 ^ (min ((k:Int)).toNat IntKind.u8.bits))) &&& BitVec.ofInt IntKind.u8.bits 1).toNat:Nat):Int)
def qL (par:Int)(P:List Int)(u:Nat)(l:List Int)(k:Nat):List Int:=if P[k]?=some (u:Int)/\Ef par k=1/\l.length<3 then l++[(u:Int)] else l
def mu (par:Int)(P:List Int)(i u k:Nat):List Int:=(List.range k).foldl (qL par P u) ((List.range u).foldl (fun l u=>(List.range i).foldl (qL par P u) l) [])
def xf (par:Int)(P:List Int)(i u k:Nat):mu par P i u (k+1)=qL par P u (mu par P i u k) k:=by unfold mu;rw[Wy,WD];rfl
def Rm (par:Int)(P:List Int)(i u:Nat):mu par P i (u+1) 0=mu par P i u i:=by unfold mu;rw[Wy,WD];rfl
def sA (ps:List DrP)(i:Nat):Int:=match ps[i]? with
 |some y=>2+y.L % 2
 |none=>2
def kA (ps:List DrP)(n i:Nat)(W:Int):Int:=if IntKind.i64.wrap (W*sA ps i*2 ^ (min ((n:Int)-1-i).toNat IntKind.i64.bits)) > 100 then 2 else sA ps i
def kZ (ps:List DrP)(n:Nat):Nat->Int
 |0=>1
 |i+1=>kZ ps n i*kA ps n i (kZ ps n i)
def sB (g c:Int)(bs:List Int)(R:Nat):List (List Int):=(List.range R).map fun (q:Nat)=>pN g c.toNat bs ((q:Int)*(c+1))
def Rn (g c:Int)(bs:List Int)(R:Nat):sB g c bs (R+1)=sB g c bs R++[pN g c.toNat bs ((R:Int)*(c+1))]:=by unfold sB;rw[Wy,Wk];rfl
def Ac (g:Int)(ps:List DrP)(cs P:List Int)(n j:Nat):ZL:=⟨kA ps n j (kZ ps n j),mu (oB ps j).1 P j n 0,sB g (kA ps n j (kZ ps n j)) (oB ps j).2 (aj (aK cs (mu (oB ps j).1 P j n 0))).toNat⟩
structure DoneN (g:Int)(cs P:List Int)(n j:Nat)(x:ZL):Prop where
 pl:cQ x.F n
 p3:x.F.length<=3
 rk:∀q∈x.F,∃k,k<j/\P[k]?=some q
 rl:(x.na.length:Int)=aj (aK cs x.F)
 ro:∀r∈x.na,lI g x.L r
 ne:x.na≠[]
structure LoopN (g:Int)(ps:List DrP)(cs P:List Int)(n i:Nat)(ns:List ZL):Prop where
 len:ns.length=n
 nF:ak ns=cs
 todo:∀(j v:Nat) (x:ZL),i<=j->P[j]?=some (v:Int)->ns[v]?=some x->x.na=[]/\x.F=[]
 done:∀(j v:Nat) (x:ZL),j<i->P[j]?=some (v:Int)->ns[v]?=some x->DoneN g cs P n j x
 eq:∀(j v:Nat) (x:ZL),j<i->P[j]?=some (v:Int)->ns[v]?=some x->x=Ac g ps cs P n j
 cd:∀(j v:Nat) (x:ZL),P[j]?=some (v:Int)->ns[v]?=some x->x.L=kA ps n j (kZ ps n j)
def Ro {l:List ZL}(h:l[i]?=some x)(hy:y.L=x.L)(hr:y.na≠[]):cG (l.set i y)=((cG l).set (i*3+1) (ah y.F)).set (i*3+2) (aE y.na):=by
 have hl:=aI h;have h1:=xc (f:=ZL.dv) (z:=3) mr l i y hl;have h2:=pD (f:=ZL.dv) (z:=3) mr l i x h;unfold cG;rw[h1];have h3:(l.map ZL.dv).flatten=((l.map ZL.dv).flatten).take (i*3)++(x.dv++((l.map ZL.dv).flatten).drop (i*3+3)):=by
  rw[<- h2,<- Xt,V5,V5]
 have hlen:(((l.map ZL.dv).flatten).take (i*3)).length=i*3:=by
  rw[VK,mh (f:=ZL.dv) (z:=3) mr];omega
 have ex:∃b c,x.dv=[aa x.L,b,c]:=by unfold ZL.dv;split<;>exact⟨_,_,rfl⟩
 obtain⟨b,c,ex⟩:=ex;have ey:y.dv=[aa y.L,ah y.F,aE y.na]:=Vx hr
 conv=>rhs;rw[h3]
 rw[WA _ _ O,WA _ _ O,hlen,show i*3+1-i*3=1 by omega,show i*3+2-i*3=2 by omega,ex,ey];simp[hy]
structure nni (P:List Int)(i u k:Nat)(l:List Int):Prop where
 pw:l.Pairwise (·<·)
 nk:∀q∈l,0<=q/\(q<u\/(q=u/\∃k',k'<k/\P[k']?=some q))
 p3:l.length<=3
 rk:∀q∈l,∃k',k'<i/\P[k']?=some q
def nni.skip (h:nni P i u k l):nni P i u (k+1) l:=⟨h.pw,fun q hq=>⟨(h.nk q hq).1,(h.nk q hq).2.imp id fun ⟨a,k',b,c⟩=>⟨a,k',O,c⟩⟩,h.p3,h.rk⟩
def nni.A (h:nni P i u k l):nni P i (u+1) 0 l:=⟨h.pw,fun q hq=>⟨(h.nk q hq).1,.inl (by rcases(h.nk q hq).2 with h1|h1<;>omega)⟩,h.p3,h.rk⟩
def nni.add (hP:nnh n P)(h:nni P i u k l)(hk:k<i)(hu:P[k]?=some (u:Int))(h3:l.length<3):nni P i u (k+1) (l++[(u:Int)]):=by
 have lt:∀q∈l,q<u:=fun q hq=>by
  rcases(h.nk q hq).2 with h1|⟨h1,k',h2,h4⟩
  ·exact h1
  ·exfalso;have e:P[k']?=P[k]?:=(by rw[h4,hu,h1]);have:=(WV (aI h4) hP.nd).1 e;omega
 refine⟨Xu.2 ⟨h.pw,ZF,fun a ha b hb=>by obtain rfl:=List.mem_singleton.1 hb;exact lt a ha⟩,fun q hq=>?_,by simp;omega,fun q hq=>?_⟩
 ·rcases V3.1 hq with h1|h1
  ·exact⟨(h.nk q h1).1,.inl (lt q h1)⟩
  ·obtain rfl:=List.mem_singleton.1 h1;exact⟨O,.inr ⟨rfl,k,O,hu⟩⟩
 ·rcases V3.1 hq with h1|h1
  ·exact h.rk q h1
  ·obtain rfl:=List.mem_singleton.1 h1;exact⟨k,hk,hu⟩
def Ad (Hz Hx:ZJ)(N at':Nat)(C:List ZK)(pv:ZK)(l:List Int):Prop:=ox Hz Hx N (C.set at' pv)/\aD Hz.A Hx 3 pv (ints l)
def Rp (g:Int)(ps:List DrP)(ord:List Int)(ns:List ZL):Prop:=ns.length=min (max ps.length 1) 5/\(∀(j v:Nat) (x:ZL),(ij ord ns.length)[j]?=some (v:Int)->ns[v]?=some x->x=Ac g ps (ak ns) (ij ord ns.length) ns.length j)/\∀(j v:Nat) (x:ZL),(ij ord ns.length)[j]?=some (v:Int)->ns[v]?=some x->x.L=kA ps ns.length j (kZ ps ns.length j)
def Rq (g0:Int)(ps:List DrP)(ord:List Int)(hg0:U8 g0)(hps:∀x∈ps,x.Ok)(hpl:(ps.length:Int)<2 ^ 63)(hol:(ord.length:Int)<2 ^ 63)(ho8:∀x∈ord,U8 x)(H:ZJ)(K:ZP->ZJ->Prop)
  (hK:∀g ns N H',ZN H H'->H.A<=N->N<H'.A->H'.get N=some (.J 0 87 (aG ns))->Z5 g ns->ns.length<=5->(∀x∈ns,x.F.length<=3)->(∀x∈ns,2<=x.L)->(g=1+g0 % 60/\Rp g ps ord ns)->K (.ret (.agg [aa g,.U N 0 0 ns.length 3])) H'):
  ag prog G0 30 [xa g0 ps ord] H K:=by
 refine ag.st (n:=187) (rs:=[.cell 2 81]) func30 ?_;obtain⟨n,hn⟩:∃n:Nat,min (max ps.length 1) 5=n:=⟨_,rfl⟩
 have h51:1<=n/\n<=5:=O
 have hmn:(if 5<(if (1:Int) > ps.length then 1 else (ps.length:Int)) then 5 else (if (1:Int) > ps.length then 1 else (ps.length:Int)))=(n:Int):=by split<;>split<;>omega
 have t0:g0.tmod 60=g0 % 60:=Wg hg0.1;have w0:IntKind.u8.wrap (g0 % 60)=g0 % 60:=Ze _ O;have w1:IntKind.i64.wrap (g0 % 60)=g0 % 60:=Vv _ O;have w2:=Vv (1+g0 % 60) O;obtain⟨g,hg⟩:∃g,1+g0 % 60=g:=⟨_,rfl⟩
 have hg1:1<=g/\g<=60:=O
 rw[hg]at w2;simp only[go_sem,xa];refine W.dr 9 [0,1,3,7,15,0,32,127,0] mixed ?_;simp only[go_sem,hmn,t0,w1,hg,w2];refine⟨O,⟨⟨O,O⟩,⟨O,O⟩,?_⟩⟩;obtain⟨H1,hH1⟩:∃H1,H1=ext (ext H [.J 0 25 [.lit (.int .u8 g0),.Q ps.length (gS ps),.Q ord.length (cu ord)],.J 0 81 [.lit (.int .i64 0),.lit (.slice none 0 0)],.J 0 87 (List.replicate n [ZK.lit (.int .i64 0),.lit (.slice none 0 0),.lit (.slice none 0 0)]).flatten]) [.J 0 81 [.lit (.int .i64 g),.U (H.A+2) 0 0 n 3]]:=⟨_,rfl⟩
 refine W.en (fun E=>E 1=.M H.A 0 0 /\ E 2=.M (H.A+1) 0 0 /\ E 3=aa n /\ E 4=.M (H.A+3) 0 0) (by simp only[go_sem]) fun E ⟨e1,e2,e3,e4⟩=>?_
 show W _ _ _ _ _ _ ⟨E,ext (ext H [.J 0 25 [.lit (.int .u8 g0),.Q ps.length (gS ps),.Q ord.length (cu ord)],.J 0 81 [.lit (.int .i64 0),.lit (.slice none 0 0)],.J 0 87 (List.replicate n [ZK.lit (.int .i64 0),.lit (.slice none 0 0),.lit (.slice none 0 0)]).flatten]) [.J 0 81 [.lit (.int .i64 g),.U (H.A+2) 0 0 n 3]]⟩;rw[<- hH1];have n1:H1.A=H.A+4:=by rw[hH1];rfl
 have o1:ZN H H1:=by rw[hH1];exact(ZN.ext _ _).trans (.ext _ _)
 have g0':H1.get H.A=some (.J 0 25 [.lit (.int .u8 g0),.Q ps.length (gS ps),.Q ord.length (cu ord)]):=by rw[hH1,cW];exact dA ..
 have g1':H1.get (H.A+1)=some (.J 0 81 [.lit (.int .i64 0),.lit (.slice none 0 0)]):=by rw[hH1,cW];exact bH H _ 1 (ZF)
 have g2':H1.get (H.A+2)=some (.J 0 87 (cG (List.replicate n ⟨0,[],[]⟩))):=by
  rw[hH1,cW,show cG (List.replicate n ⟨0,[],[]⟩)=(List.replicate n [ZK.lit (.int .i64 0),.lit (.slice none 0 0),.lit (.slice none 0 0)]).flatten by unfold cG;rw[X0];rfl];exact bH H _ 2 (ZF)
 have g3':H1.get (H.A+3)=some (.J 0 81 [.lit (.int .i64 g),.U (H.A+2) 0 0 n 3]):=by rw[hH1,cW];exact bH H _ 3 (ZF)
 clear hH1;have l0:=ae g0';have l1:=ae (show (ext H1 [.J 0 5 (List.replicate n (.lit (.int .u8 0)))]).get H.A=some (.J 0 25 [.lit (.int .u8 g0),.Q ps.length (gS ps),.Q ord.length (cu ord)]) by rw[dM _ _ _ O];exact g0');refine W.dr 4 [0,1,0,4] mixed ?_;simp only[go_sem,e1,e3,l1];refine⟨⟨O,O⟩,O,O,?_⟩;obtain⟨H2,hH2⟩:∃H2,H2=ext H1 [.J 0 5 (List.replicate n (.lit (.int .u8 0)))]:=⟨_,rfl⟩
 have gb:=de hH2
 rw[<- hH2];refine au.Z ((ag.frame (H:=H2) (args:=[.agg [.U H1.A 0 0 n 1,.lit (.int .u16 0),.Q ord.length (cu ord)]]) (args':=[.agg [.Q n (cu (List.replicate n 0)),.lit (.int .u16 0),.Q ord.length (cu ord)]]) (v':=ah (ij ord n)) aJ rfl (fun i hi _=>?_) (QJ n h51.2 ord hol ho8 cZ _ fun v H' _ ho=>⟨_,rfl,ho.mB⟩)).mono fun r H' hr=>?_)
 ·match i,hi with
  |0,_ =>
   refine .agg rfl fun i hi _=>?_
   match i,hi with
   |0,_ =>
    have:cu (List.replicate n 0)=List.replicate n (.lit (.int .u8 0)):=(by unfold cu;rw[X0]);rw[this];exact Fz.pZ gb ZF fun c hc=>⟨_,Wv hc⟩
   |1,_=>exact .lit _
   |2,_=>exact .Q rfl fun i hi _=>by simp only[cu,VO];exact .lit _
 obtain⟨rfl,rfl⟩:=hr;refine⟨trivial,?_⟩;have hperm:=zU ord n;obtain⟨P,hP⟩:∃P,P=ij ord n:=⟨_,rfl⟩
 rw[<- hP]at hperm ⊢;have n2:H'.A=H1.A+1:=hH2▸rfl
 have F0:ox H1 H' (H.A+2) (cG (List.replicate n ⟨0,[],[]⟩)):=by
  rw[hH2];exact⟨by simp[aM],fun id h _=>dM _ _ _ h,by rw[dM _ _ _ O];exact g2'⟩
 clear hH2 gb;simp only[go_sem,e3];have bs:∀k:Nat,k<=5->(3:Int) ^ k<=243:=fun k hk=>by
  have:(3:Nat) ^ k<=3 ^ 5:=V0 ZG hk;have h2:((3 ^ k:Nat):Int)<=((3 ^ 5:Nat):Int):=by exact_mod_cast this
  push_cast at h2
  exact h2
 refine W.aP 151115727451794287100864 (by rfl) (fun ρ Hx=>∃(i:Nat) (ns:List ZL) (Wd:Int),ρ 7=aa i/\i<=n/\ns.length=n/\(∀x∈ns,x.na=[]/\x.F=[])/\(∀j v:Nat,j<i->P[j]?=some (v:Int)->∃x,ns[v]?=some x/\2<=x.L/\x.L<=3/\x.L=kA ps n j (kZ ps n j))/\ρ 6=aa Wd/\Wd=kZ ps n i/\1<=Wd/\Wd<=3 ^ i/\H'.A<=Hx.A/\ox H1 Hx (H.A+2) (cG ns)) (fun ρ H=>n-(iv (ρ 7)).toNat) ?_ ?_
 ·simp only[go_sem];exact⟨0,_,1,rfl,O,ZF,fun x hx=>by obtain rfl:=Wv hx;exact⟨rfl,rfl⟩,fun j v hj=>O,rfl,rfl,O,ZF,F0⟩
 rintro ρ Hx ⟨i,ns,Wd,h7,hi,hnl,hnz,hnc,h6,hWe,hW1,hW3,hnx,hF⟩;refine W.en (fun E2=>E2 1=.M H.A 0 0 /\ E2 2=.M (H.A+1) 0 0 /\ E2 3=aa n /\ E2 4=.M (H.A+3) 0 0 /\ E2 5=ah P /\ E2 6=aa Wd /\ E2 7=aa i) (by simp only[go_sem,e1,e2,e3,e4,h6,h7]) fun E2 ⟨f1,f2,f3,f4,f5,f6,f7⟩=>?_
 refine W.vs ?_;have hPl:=hperm.len;have hFn:=hF.1;have m0:=ae ((hF.2.1 H.A O O).trans g0');have m3:=ae ((hF.2.1 (H.A+3) O O).trans g3');have mN:=ae hF.2.2;have m0':∀L,(ext Hx L).V H.A 0=some (25,[.lit (.int .u8 g0),.Q ps.length (gS ps),.Q ord.length (cu ord)]):=fun L=>(ea O).trans m0;have m3':∀L,(ext Hx L).V (H.A+3) 0=some (81,[.lit (.int .i64 g),.U (H.A+2) 0 0 n 3]):=fun L=>(ea O).trans m3;have mN':∀L,(ext Hx L).V (H.A+2) 0=some (87,cG ns):=fun L=>(ea O).trans mN;by_cases hb:(i:Int)<n
 ·obtain⟨pv,hpv⟩:=ao (l:=P) (i:=i) O;have hpr:=hperm.nk pv (an hpv);obtain⟨v,rfl⟩:=VE hpr.1;obtain⟨x,hx⟩:=ao (l:=ns) (i:=v) O;have hpne:=aO hpv;have hz0:=Eb hx;have hzne:=aO hz0;have hzl:=Ea ns;have hv:(v:Int)<n:=hpr.2;have hv0:(v:Int) >= 0:=hpr.1;have hiP:(i:Int)<P.length:=O
  have w3:=bs i O;have i1:=Vv ((i:Int)+1) O;have i2:=Vv ((n:Int)-1) O;have i3:=Vv ((n:Int)-1-i) O;have i4:=W8 ((n:Int)-1-i) O;have fin:∀(c:Int) (B:ZQ),2<=c/\c<=3->c=kA ps n i Wd->v*3+1<=(cG ns).length/\H'.A<=((ext Hx [B]).upd (H.A+2) (.J 0 87 (setAt (cG ns) (v*3) [.lit (.int .i64 c)]))).A /\
    (∃(i_1:Nat) (ns_1:List ZL) (Wd_1:Int),ZK.lit (.int .i64 ((i:Int)+1))=.lit (.int .i64 i_1)/\i_1<=n/\ns_1.length=n/\(∀x∈ns_1,x.na=[]/\x.F=[])/\(∀j v:Nat,j<i_1->P[j]?=some (v:Int)->∃x,ns_1[v]?=some x/\2<=x.L/\x.L<=3/\x.L=kA ps n j (kZ ps n j)) /\
     ZK.lit (.int .i64 (Wd*c))=.lit (.int .i64 Wd_1)/\Wd_1=kZ ps n i_1/\1<=Wd_1/\Wd_1<=3 ^ i_1/\H'.A<=((ext Hx [B]).upd (H.A+2) (.J 0 87 (setAt (cG ns) (v*3) [.lit (.int .i64 c)]))).A/\ox H1 ((ext Hx [B]).upd (H.A+2) (.J 0 87 (setAt (cG ns) (v*3) [.lit (.int .i64 c)]))) (H.A+2) (cG ns_1)) /\
    n-((i:Int)+1).toNat<n-(iv (ρ 7)).toNat:=by
   intro c B c23 hce;have p1:2<=Wd*c/\Wd*c<=3 ^ i*3:=by
    constructor
    ·have:=Ww hW1 c23.1 O O;omega
    ·exact Ww hW3 c23.2 O (O)
   have nn:((ext Hx [B]).upd (H.A+2) (.J 0 87 (setAt (cG ns) (v*3) [.lit (.int .i64 c)]))).A=Hx.A+1:=rfl;refine⟨by rw[hzl];have:=aI hx;omega,by rw[nn];omega,⟨i+1,ns.set v ⟨c,[],[]⟩,Wd*c,rfl,O,by simp[hnl],fun z hz=>?_,fun j u hj hu=>?_,rfl,by show Wd*c=kZ ps n i*kA ps n i (kZ ps n i);rw[<- hWe,<- hce],O,by rw[W4];omega,by rw[nn];omega,?_⟩,by rw[h7];simp only[aa,aZ];omega⟩
   ·rcases Wn hz with h|h
    ·exact hnz z h
    ·rw[h];exact⟨rfl,rfl⟩
   ·by_cases huv:u=v
    ·subst huv;have hji:j=i:=(WV (aI hu) hperm.nd).1 (by rw[hu,hpv]);exact⟨_,VQ (aI hx),by dsimp only;omega,by dsimp only;omega,by dsimp only;rw[hji,<- hWe];exact hce⟩
    ·rw[Wa O];refine hnc j u ?_ hu;rcases VV j i with h|h
     ·exact h
     ·obtain rfl:j=i:=O;rw[hpv]at hu;exact absurd (by have:=Option.some.inj hu;omega) huv
   ·refine⟨by rw[nn];omega,fun id h1 h2=>by rw[af,Vx h2,dM _ _ _ O];exact hF.2.1 id h1 h2,?_⟩;rw[af,VA rfl,Rl hx (hnz x (an hx)).1 rfl];congr 2;exact iK (by rw[hzl];have:=aI hx;omega)
  by_cases hp:(i:Int)<ps.length
  ·obtain⟨y,hy⟩:=ao (l:=ps) (i:=i) O;have hyo:=hps y (an hy);have hc0:=D8 hy;have hc1:i*3+3<=(gS ps).length:=(by rw[D9];omega);have hcne:¬gS ps=[]:=fun h=>by rw[h]at hc1;simp at hc1
   have c8:=hyo.1;have t1:y.L.tmod 2=y.L % 2:=Wg c8.1;have i5:=Ze (y.L % 2) O;have i6:=Vv (y.L % 2) O;have i7:=Vv (2+y.L % 2) O;have c23:2<=(2+y.L % 2)/\(2+y.L % 2)<=3:=O;have p1:2<=Wd*(2+y.L % 2)/\Wd*(2+y.L % 2)<=3 ^ i*3:=by
    constructor
    ·have:=Ww hW1 c23.1 O O;omega
    ·exact Ww hW3 c23.2 O (O)
   have p2:2<=Wd*2/\Wd*2<=3 ^ i*3:=O;have j1:=Vv (Wd*(2+y.L % 2)) O;have j2:=Vv (Wd*2) O;obtain⟨q,hq⟩:∃q,IntKind.i64.wrap (Wd*(2+y.L % 2)*2 ^ (min ((n:Int)-1-i).toNat IntKind.i64.bits))=q:=⟨_,rfl⟩
   have cA:kA ps n i Wd=if q > 100 then 2 else 2+y.L % 2:=by
    have h0:sA ps i=2+y.L % 2:=(by unfold sA;rw[hy]);unfold kA;rw[h0,hq]
   have hsh:∀t o1 o2,bI prog .shl t o1 o2 (.lit (.int .i64 (Wd*(2+y.L % 2)))) (.lit (.int .u64 ((n:Int)-1-i)))=some (.lit (.int .i64 q)):=fun t o1 o2=>by rw[AV O,hq]
   by_cases hq1:q > 100
   ·simp only[go_sem,f1,f3,f6,f7,m0',hb,hp,i2,i3,i4,j1,j2,hsh,hc0,hc1,hcne,t1,i6,i7,hq1];refine W.dr 7 [0,1,0,0,12,28,0] mixed ?_;simp only[go_sem,f4,f5,f6,f7,m3',mN',i1,hpv,hpne,hv,hv0,hiP];exact fin 2 _ O (by rw[cA,VA hq1])
   ·simp only[go_sem,f1,f3,f6,f7,m0',hb,hp,i2,i3,i4,j1,hsh,hc0,hc1,hcne,t1,i6,i7,hq1];refine W.dr 7 [0,1,0,0,12,28,0] mixed ?_;simp only[go_sem,f4,f5,f6,f7,m3',mN',i1,hpv,hpne,hv,hv0,hiP];exact fin (2+y.L % 2) _ c23 (by rw[cA,Vx hq1])
  ·have p2:2<=Wd*2/\Wd*2<=3 ^ i*3:=O;have i5:IntKind.i64.wrap (2+IntKind.i64.wrap (Int.tmod 0 2))=2:=ZG;have j2:=Vv (Wd*2) O;obtain⟨q,hq⟩:∃q,IntKind.i64.wrap (Wd*2*2 ^ (min ((n:Int)-1-i).toNat IntKind.i64.bits))=q:=⟨_,rfl⟩
   have cA:kA ps n i Wd=2:=by
    have h0:sA ps i=2:=(by unfold sA;rw[VD O]);unfold kA;rw[h0];split<;>rfl
   have hsh:∀t o1 o2,bI prog .shl t o1 o2 (.lit (.int .i64 (Wd*2))) (.lit (.int .u64 ((n:Int)-1-i)))=some (.lit (.int .i64 q)):=fun t o1 o2=>by rw[AV O,hq]
   by_cases hq1:q > 100
   ·simp only[go_sem,f1,f3,f6,f7,m0',hb,hp,i2,i3,i4,j2,hsh,i5,hq1];refine W.dr 7 [0,1,0,0,12,28,0] mixed ?_;simp only[go_sem,f4,f5,f6,f7,m3',mN',i1,hpv,hpne,hv,hv0,hiP];exact fin 2 _ O cA.symm
   ·simp only[go_sem,f1,f3,f6,f7,m0',hb,hp,i2,i3,i4,j2,hsh,i5,hq1];refine W.dr 7 [0,1,0,0,12,28,0] mixed ?_;simp only[go_sem,f4,f5,f6,f7,m3',mN',i1,hpv,hpne,hv,hv0,hiP];exact fin 2 _ O cA.symm
 ·obtain rfl:n=i:=O
  clear bs hW1 hW3 h6 f6;simp only[go_sem,f3,f7,hb];obtain⟨cs,hcs⟩:∃cs,cs=ak ns:=⟨_,rfl⟩
  have csl:cs.length=n:=by rw[hcs,dk,hnl]
  have hc23:∀c∈cs,2<=c/\c<=3:=fun c hc=>by
   obtain⟨v,hv⟩:=VG.1 hc;have hvn:=aI hv;have hm:=xe ord n v O;rw[<- hP]at hm;obtain⟨j,hj⟩:=VG.1 hm;obtain⟨x,hx,h2,h3,_⟩:=hnc j v (by have:=aI hj;omega) hj;rw[hcs,dw hx]at hv;cases hv;exact⟨h2,h3⟩
  have L0:LoopN g ps cs P n 0 ns:=⟨hnl,hcs.symm,fun j v x _ _ hx=>hnz x (an hx),fun j v x h=>O,fun j v x h=>O,fun j v x hj hx=>by
   obtain⟨x',hx',_,_,h4⟩:=hnc j v (by have:=aI hj;omega) hj;rw[hx']at hx;rw[<- Option.some.inj hx];exact h4⟩
  clear hnc hnz h7;refine W.aP 98079714615416886934934209737619636635871851991103765504 (by rfl) (fun ρ Hy=>∃(i:Nat) (ns:List ZL),ρ 10=aa i/\i<=n/\LoopN g ps cs P n i ns/\Hx.A<=Hy.A/\ox H1 Hy (H.A+2) (cG ns)) (fun ρ H=>n-(iv (ρ 10)).toNat) ?_ ?_
  ·simp only[go_sem];exact⟨0,ns,rfl,O,L0,hF⟩
  clear L0 hF m0 m3 mN m0' m3' mN' hFn hnl hcs f7;rintro ρ Hy ⟨i,ns,h10,hi,L,hny,hF⟩;refine W.en (fun E=>E 1=.M H.A 0 0 /\ E 2=.M (H.A+1) 0 0 /\ E 3=aa n /\ E 4=.M (H.A+3) 0 0 /\ E 5=ah P /\ E 10=aa i) (by simp only[go_sem,f1,f2,f3,f4,f5,h10]) fun E ⟨e1,e2,e3,e4,e5,e10⟩=>?_
  refine W.vs ?_;have hFn:=hF.1;have m0:=ae ((hF.2.1 H.A O O).trans g0');have m1:=ae ((hF.2.1 (H.A+1) O O).trans g1');have m3:=ae ((hF.2.1 (H.A+3) O O).trans g3');have m0':∀L,(ext Hy L).V H.A 0=some (25,[.lit (.int .u8 g0),.Q ps.length (gS ps),.Q ord.length (cu ord)]):=fun L=>(ea O).trans m0;by_cases hb:(i:Int)<n
  ·obtain⟨pv,hpv⟩:=ao (l:=P) (i:=i) O;have hpr:=hperm.nk pv (an hpv);obtain⟨v,rfl⟩:=VE hpr.1;have hnl:=L.len;obtain⟨x,hx⟩:=ao (l:=ns) (i:=v) O;have hpne:=aO hpv;have hiP:(i:Int)<P.length:=O;have hP1:∀k:Nat,k<n->∃u:Nat,P[k]?=some (u:Int)/\u<n:=fun k hk=>by
    obtain⟨q,hq⟩:=ao (l:=P) (i:=k) O;have:=hperm.nk q (an hq);obtain⟨u,rfl⟩:=VE this.1;exact⟨u,hq,O⟩
   have hpc:∀(B:List ZK),B=(if (i:Int)<ps.length then (gS ps).drop (i*3) |>.take 3 else [.lit (.int .u8 0),.lit (.int .u8 0),.lit (.slice none 0 0)])->∃(pc par:Int) (bs:List Int) (wv:ZK),B=[.lit (.int .u8 pc),.lit (.int .u8 par),wv]/\(par=(oB ps i).1/\bs=(oB ps i).2)/\U8 par/\(∀b∈bs,U8 b)/\(bs.length:Int)<2 ^ 63/\wv.one=true/\wv.cells=[wv]/\∀H0,Fz (fun _=>True) H0 0 wv (.Q bs.length (cu bs)):=by
    rintro B rfl;by_cases hp:(i:Int)<ps.length
    ·obtain⟨y,hy⟩:=ao (l:=ps) (i:=i) O;have hyo:=hps y (an hy);rw[VA hp,D8 hy];exact⟨y.L,y.par,y.w,_,rfl,⟨by unfold oB;rw[hy],by unfold oB;rw[hy]⟩,hyo.2.1,hyo.2.2.2,hyo.2.2.1,rfl,rfl,fun H0=>.Q rfl fun i hi _=>by simp only[cu,VO];exact .lit _⟩
    ·rw[Vx hp];exact⟨0,0,[],_,rfl,⟨by unfold oB;rw[VD O],by unfold oB;rw[VD O]⟩,by unfold U8;omega,ZF,ZF,rfl,rfl,fun H0=>.nil⟩
   by_cases hp:(i:Int)<ps.length
   case' pos =>
    have hc1:i*3+3<=(gS ps).length:=(by rw[D9];omega);have hcne:¬gS ps=[]:=fun h=>by rw[h]at hc1;simp at hc1
    rw[VA hp]at hpc;obtain⟨pc,par,bs,wv,hc0,hpw,hpar,hbs,hbl,hwo,hwc,hwf⟩:=hpc _ rfl;simp only[go_sem,e1,e3,e5,e10,m0',hb,hp,hc0,hc1,hcne,hpv,hpne,hiP,hwo,Bool.and_true];obtain⟨Hz,hHz⟩:∃Hz,Hz=ext Hy [.J 0 143 [.lit (.int .u8 pc),.lit (.int .u8 par),wv]]:=⟨_,rfl⟩
    clear hpc hc0 hc1 hcne hp
   case' neg =>
    rw[Vx hp]at hpc;obtain⟨pc,par,bs,wv,hc0,hpw,hpar,hbs,hbl,hwo,hwc,hwf⟩:=hpc _ rfl;simp only[go_sem,e1,e3,e5,e10,m0',hb,hp,hpv,hpne,hiP];rw[hc0];obtain⟨Hz,hHz⟩:∃Hz,Hz=ext Hy [.J 0 143 [.lit (.int .u8 pc),.lit (.int .u8 par),wv]]:=⟨_,rfl⟩
    clear hpc hc0 hp
   all_goals
    rw[<- hHz];refine W.env fun E3 hE3=>?_;have k1:E3 1=.M H.A 0 0:=(by rw[hE3];simp only[go_sem,e1]);have k2:E3 2=.M (H.A+1) 0 0:=(by rw[hE3];simp only[go_sem,e2]);have k3:E3 3=aa n:=(by rw[hE3];simp only[go_sem,e3]);have k4:E3 4=.M (H.A+3) 0 0:=(by rw[hE3];simp only[go_sem,e4]);have k5:E3 5=ah P:=(by rw[hE3];simp only[go_sem,e5]);have k10:E3 10=aa i:=(by rw[hE3];simp only[go_sem,e10]);have k11:E3 11=.M Hy.A 0 0:=(by rw[hE3];simp only[go_sem]);have k12:E3 12=aa v:=(by rw[hE3];simp only[go_sem]);have k13:E3 13=aa 0:=(by rw[hE3];simp only[go_sem]);clear hE3;have nz:Hz.A=Hy.A+1:=(by rw[hHz];rfl);have z3:Hz.get (H.A+3)=some (.J 0 81 [.lit (.int .i64 g),.U (H.A+2) 0 0 n 3]):=(by rw[hHz,dM _ _ _ O];exact(hF.2.1 (H.A+3) O O).trans g3');have zP:Hz.get Hy.A=some (.J 0 143 [.lit (.int .u8 pc),.lit (.int .u8 par),wv]):=(by rw[hHz];exact cI);have zN:Hz.get (H.A+2)=some (.J 0 87 (cG ns)):=(by rw[hHz,dM _ _ _ O];exact hF.2.2);have zO:∀id,id<H1.A->id≠H.A+2->Hz.get id=H1.get id:=fun id h1 h2=>by rw[hHz,dM _ _ _ O];exact hF.2.1 id h1 h2
    obtain⟨xr,xp⟩:=L.todo i v x ZI hpv hx;have hzl:=Ea ns;have hvn:=aI hx;have hcx:(cG ns)[v*3+1]?=some (.lit (.slice none 0 0)):=by
     have:=jW (f:=ZL.dv) (z:=3) mr ns v 1 x hx O;rw[show (cG ns)[v*3+1]?=_ from this];unfold ZL.dv;rw[VA xr];rfl
    clear hHz e1 e2 e3 e4 e5 e10 f1 f2 f3 f4 f5 m0' m0 m1 m3;have vlt:(v:Int)<n:=hpr.2;have v0:(v:Int) >= 0:=hpr.1;have hset:∀pv pv',setAt ((cG ns).set (v*3+1) pv) (v*3+1) [pv']=(cG ns).set (v*3+1) pv':=fun pv pv'=>by rw[iK (by rw[VW];omega),Ym]
    have hgetc:∀pv,((cG ns).set (v*3+1) pv)[v*3+1]?=some pv:=fun pv=>VQ O;refine W.vp (Q':=fun e s2=>e=.exit 4/\∃pv l,s2.ρ 1=.M H.A 0 0/\s2.ρ 2=.M (H.A+1) 0 0/\s2.ρ 3=aa n/\s2.ρ 4=.M (H.A+3) 0 0/\s2.ρ 5=ah P/\s2.ρ 10=aa i/\s2.ρ 11=.M Hy.A 0 0/\s2.ρ 12=aa v/\Ad Hz s2.H (H.A+2) (v*3+1) (cG ns) pv l/\nni P i n 0 l/\l=mu par P i n 0) ?_ ?_
    ·refine W.aP 44601490397061167054908922280959129468035072 (by rfl) (fun ρ Hu=>∃(u:Nat) (pv:ZK) (l:List Int),ρ 13=aa u/\u<=n/\Ad Hz Hu (H.A+2) (v*3+1) (cG ns) pv l/\nni P i u 0 l/\l=mu par P i u 0) (fun ρ H=>n-(iv (ρ 13)).toNat) ?_ ?_
     ·simp only[go_sem,k13];refine⟨0,.lit (.slice none 0 0),[],rfl,O,⟨⟨ZI,fun _ _ _=>rfl,?_⟩,.nil⟩,⟨ZF,ZF,ZF,ZF⟩,rfl⟩;rw[zN,uK hcx]
     rintro ρu Hu ⟨u,pv,l,h13,hu,hS,hL,hPk⟩;refine W.env fun E4 hE4=>?_;have q3:E4 3=aa n:=(by rw[hE4];simp only[go_sem,k3]);have q4:E4 4=.M (H.A+3) 0 0:=(by rw[hE4];simp only[go_sem,k4]);have q5:E4 5=ah P:=(by rw[hE4];simp only[go_sem,k5]);have q10:E4 10=aa i:=(by rw[hE4];simp only[go_sem,k10]);have q11:E4 11=.M Hy.A 0 0:=(by rw[hE4];simp only[go_sem,k11]);have q12:E4 12=aa v:=(by rw[hE4];simp only[go_sem,k12]);have q13:E4 13=aa u:=(by rw[hE4];simp only[go_sem,h13]);have q1:E4 1=.M H.A 0 0:=(by rw[hE4];simp only[go_sem,k1]);have q2:E4 2=.M (H.A+1) 0 0:=(by rw[hE4];simp only[go_sem,k2]);clear hE4;refine W.vs ?_;by_cases hub:(u:Int)<n
     ·have u1:=Vv ((u:Int)+1) O;simp only[go_sem,q3,q13,hub];refine W.aP 44601490397058710981870980086493729605566464 (by rfl) (fun ρ Hk=>∃(k:Nat) (pv:ZK) (l:List Int),ρ 14=aa k/\k<=i/\Hu.A<=Hk.A/\Ad Hz Hk (H.A+2) (v*3+1) (cG ns) pv l/\nni P i u k l/\l=mu par P i u k) (fun ρ H=>i-(iv (ρ 14)).toNat) ?_ ?_
      ·simp only[go_sem];exact⟨0,pv,l,rfl,O,hS,hL,hPk⟩
      clear hS hL hPk;rintro ρk Hk ⟨k,pv,l,h14,hk,hnk,hS,hL,hPk⟩;refine W.env fun E5 hE5=>?_;have r4:E5 4=.M (H.A+3) 0 0:=(by rw[hE5];simp only[go_sem,q4]);have r5:E5 5=ah P:=(by rw[hE5];simp only[go_sem,q5]);have r10:E5 10=aa i:=(by rw[hE5];simp only[go_sem,q10]);have r11:E5 11=.M Hy.A 0 0:=(by rw[hE5];simp only[go_sem,q11]);have r12:E5 12=aa v:=(by rw[hE5];simp only[go_sem,q12]);have r13:E5 13=aa u:=(by rw[hE5];simp only[go_sem,q13]);have r14:E5 14=aa k:=(by rw[hE5];simp only[go_sem,h14]);clear hE5;refine W.vs ?_;by_cases hki:(k:Int)<i
      ·obtain⟨hFz,hOz⟩:=hS;have hFz1:=hFz.1;obtain⟨a,ha,han⟩:=hP1 k O;have hane:=aO ha;have hkP:(k:Int)<P.length:=O;have s1:=Vv ((k:Int)+1) O;have s2:=W8 (k:Int) O;have y3:=ae ((hFz.2.1 (H.A+3) O O).trans z3);have yP:=ae ((hFz.2.1 Hy.A O O).trans zP);have yN:=ae hFz.2.2;have hgc:=hgetc pv;have hcne2:=aO hgc;obtain⟨r2,hr2e⟩:∃r2,r2=Ef par k:=⟨_,rfl⟩
       obtain⟨r1,hr1e⟩:∃r1,r1=par.fdiv (2 ^ (min ((k:Int)).toNat IntKind.u8.bits)):=⟨_,rfl⟩
       have hr1:∀t o1 o2,bI prog .shr t o1 o2 (.lit (.int .u8 par)) (.lit (.int .u64 (k:Int)))=some (.lit (.int .u8 r1)):=fun _ _ _=>by rw[hr1e];exact vk (O)
       have hr2:∀t o1 o2,bI prog .and t o1 o2 (.lit (.int .u8 r1)) (.lit (.int .u8 1))=some (.lit (.int .u8 r2)):=fun _ _ _=>by rw[hr2e,hr1e];exact vm
       have hlen:=xd hOz (d:=some (.slice 3)) rfl;rw[r9,aR]at hlen;by_cases hau:(a:Int)=u
       ·have hau':a=u:=O;by_cases hr:r2=1
        ·by_cases hl3:(l.length:Int)<3
         ·simp only[go_sem,r4,r5,r10,r11,r12,r13,r14,hki,ha,hane,hkP,s2,y3,yP,yN,hgc,hr1,hr2,hlen,hau,hr,hl3,vlt,v0];obtain⟨pv',Hj,hA,hO',hn',hpr'⟩:=iR (P:=prog) (H:=Hk) (t:=42) (x:=aa u) (n:=Hk.A+1) Tryz.underlying42 Tryz.fE Tryz.fF rfl (by rw[Tryz.gG,aR];omega) hOz hFz1 rfl;simp only[aa]at hA;have nc:∀id,id<Hz.A->Hj.get id=Hk.get id:=fun id h=>hpr' id O (hOz.ne h);have y3j:=ae ((nc _ O).trans ((hFz.2.1 (H.A+3) O O).trans z3));have yNj:=ae ((nc _ O).trans hFz.2.2);refine W.dr 12 [0,1,0,0,8,0,56,120,248,0,512,2040] mixed ?_;simp only[go_sem,r4,r12,r13,r14,y3,yN,yNj,hgc,vlt,v0,hA,s1];have hdj:nU (if lX pv=true then { nD:=aT pv,rs:=aT pv++[Hk.A] } else { nD:=[Hk.A+1],rs:=[Hk.A] }) { nD:=[],rs:=[H.A+3] }:=by
           rcases hOz with ⟨hO1,_⟩|⟨id,gg,hO1,hO2,hO3,_⟩
           ·rw[hO1];show nU { nD:=[Hk.A+1],rs:=[Hk.A] } _;exact⟨fun a ha=>by (obtain rfl:a=Hk.A+1:=by simpa using ha);simp;omega,fun a ha=>by simp at ha⟩
           ·rw[hO3];show nU { nD:=[id],rs:=[id]++[Hk.A] } _;exact⟨fun a ha=>by (obtain rfl:a=id:=by simpa using ha);simp;omega,fun a ha=>by simp at ha⟩
          have hpc1:=hO'.cells;rw[hpc1];refine⟨⟨O,O,O,O,O,O,O⟩,⟨hdj,hdj⟩,⟨rfl,by simp[hO'.one],by rw[VW];simp;omega⟩,by rw[aA];omega,⟨k+1,pv',l++[(u:Int)],rfl,O,by rw[aA];omega,⟨⟨by rw[aA];omega,fun id h1 h2=>by rw[af,Vx h2,nc _ h1];exact hFz.2.1 id h1 h2,?_⟩,?_⟩,hL.add hperm O (by rw[ha,hau]) O,by rw[xf,<- hPk];unfold qL;rw[VA ⟨by rw[ha,hau],by rw[<- hr2e];exact hr,O⟩]⟩,by rw[h14];simp only[aa,aZ];omega⟩
          ·rw[af,VA rfl,hset]
          ·have:=hO'.nc (lo':=Hz.A) (H':=Hj.upd (H.A+2) (.J 0 87 (setAt ((cG ns).set (v*3+1) pv) (v*3+1) [pv']))) ZI ZI fun id _ h1 _ _ _=>by rw[af,Vx O]
           simpa[ints,aa] using this
         ·simp only[go_sem,r4,r5,r10,r11,r12,r13,r14,hki,ha,hane,hkP,s1,s2,y3,yP,yN,hgc,hr1,hr2,hlen,hau,hr,hl3,vlt,v0];exact⟨hnk,⟨k+1,pv,l,rfl,O,hnk,⟨hFz,hOz⟩,hL.skip,by rw[xf,<- hPk];unfold qL;rw[Vx fun h=>hl3 (by have:=h.2.2;omega)]⟩,by rw[h14];simp only[aa,aZ];omega⟩
        ·simp only[go_sem,r5,r10,r11,r13,r14,hki,ha,hane,hkP,s1,s2,yP,hr1,hr2,hau,hr];exact⟨hnk,⟨k+1,pv,l,rfl,O,hnk,⟨hFz,hOz⟩,hL.skip,by rw[xf,<- hPk];unfold qL;rw[Vx fun h=>hr (by rw[hr2e];exact h.2.1)]⟩,by rw[h14];simp only[aa,aZ];omega⟩
       ·simp only[go_sem,r5,r10,r13,r14,hki,ha,hane,hkP,s1,hau];exact⟨hnk,⟨k+1,pv,l,rfl,O,hnk,⟨hFz,hOz⟩,hL.skip,by rw[xf,<- hPk];unfold qL;rw[Vx fun h=>hau (by have h1:=h.1;rw[ha]at h1;exact Option.some.inj h1)]⟩,by rw[h14];simp only[aa,aZ];omega⟩
      ·obtain rfl:k=i:=O;simp only[go_sem,r10,r13,r14,hki,u1];exact⟨by have:=hS.1.1;omega,⟨u+1,pv,l,rfl,O,hS,hL.A,by rw[Rm];exact hPk⟩,by rw[h13];simp only[aa,aZ];omega⟩
     ·obtain rfl:u=n:=O;simp only[go_sem,q1,q2,q3,q4,q5,q10,q11,q12,q13,hub];exact⟨pv,l,hS,hL,hPk⟩
    ·rintro e s2 ⟨rfl,pv,l,a1,a2,a3,a4,a5,a10,a11,a12,⟨hFz,hOz⟩,hL,hPk⟩;have hFz1:=hFz.1;obtain⟨rk,hrk,hfz⟩:∃rk,Hz.A<=rk/\Fz (fun id=>id=rk) s2.H s2.H.A pv (ah l):=by
      rcases hOz with ⟨hO1,hO2⟩|⟨id,gg,hO1,hO2,hO3,hO4⟩
      ·have:l=[]:=by cases l with
        |nil=>rfl
        |cons b l=>simp[ints]at hO2
       rw[hO1,this];exact⟨s2.H.A,hFz1,.nil⟩
      ·refine⟨id,hO1,?_⟩;rw[hO3,aR];refine .nz rfl hO4 (by rw[Nat.mul_one,aR]) fun j hj h2 h'=>?_;simp only[Nat.zero_add,ints,VO];exact .lit _
     have hne2:H.A+2≠rk:=O;refine⟨⟨s2.ρ,s2.H.fY rk (H.A+2) (.J 0 87 ((cG ns).set (v*3+1) (ah l)))⟩,eF.fY aJ hFz.2.2 hne2 ZF (A2 (Ed ns) hfz),ZI,trivial,?_⟩;obtain⟨Hm,hHm⟩:∃Hm,Hm=s2.H.fY rk (H.A+2) (.J 0 87 ((cG ns).set (v*3+1) (ah l))):=⟨_,rfl⟩
     rw[<- hHm];have hFm:ox Hz Hm (H.A+2) ((cG ns).set (v*3+1) (ah l)):=by
      rw[hHm];exact⟨hFz1,fun id h1 h2=>(nG O h2).trans (hFz.2.1 id h1 h2),x8 hne2⟩
     clear hFz hOz hfz hHm hne2 hrk;simp only[go_sem];refine W.env fun E6 hE6=>?_;have y1:E6 1=.M H.A 0 0:=(by rw[hE6];simp only[go_sem,a1]);have y2:E6 2=.M (H.A+1) 0 0:=(by rw[hE6];simp only[go_sem,a2]);have y3:E6 3=aa n:=(by rw[hE6];simp only[go_sem,a3]);have y4:E6 4=.M (H.A+3) 0 0:=(by rw[hE6];simp only[go_sem,a4]);have y5:E6 5=ah P:=(by rw[hE6];simp only[go_sem,a5]);have y10:E6 10=aa i:=(by rw[hE6];simp only[go_sem,a10]);have y11:E6 11=.M Hy.A 0 0:=(by rw[hE6];simp only[go_sem,a11]);have y12:E6 12=aa v:=(by rw[hE6];simp only[go_sem,a12]);have y15:E6 15=aa 0:=(by rw[hE6];simp only[go_sem]);clear hE6 a1 a2 a3 a4 a5 a10 a11 a12;have lsm:dV (aK cs l):=nu (by rw[iG];have:=hL.p3;omega) fun c hc=>by
      unfold aK at hc;obtain⟨q,hq,rfl⟩:=VI.1 hc;have hqr:=hL.nk q hq;obtain⟨c,hc⟩:=ao (l:=cs) (i:=q.toNat) (by rw[csl];rcases hqr.2 with h|⟨_,k',h,_⟩<;>omega);rw[bM hc];have:=hc23 c (an hc);omega
     have lpos:0<aj (aK cs l)/\aj (aK cs l)<=27:=by
      have c3:∀c∈aK cs l,1<=c/\c<=3:=fun c hc=>by
       unfold aK at hc;obtain⟨q,hq,rfl⟩:=VI.1 hc;have hqr:=hL.nk q hq;obtain⟨c,hc⟩:=ao (l:=cs) (i:=q.toNat) (by rw[csl];rcases hqr.2 with h|⟨_,k',h,_⟩<;>omega);rw[bM hc];have:=hc23 c (an hc);omega
      have h1:=dY fun c hc=>(c3 c hc).1;have h2:=(oa (b:=3) O fun c hc=>⟨by have:=(c3 c hc).1;omega,(c3 c hc).2⟩).2;have h3:(3:Int) ^ (aK cs l).length<=3 ^ 3:=by
       have:(3:Nat) ^ (aK cs l).length<=3 ^ 3:=V0 ZG (by rw[iG];exact hL.p3)
       exact_mod_cast this
      omega
     obtain⟨R,hR⟩:=VE (show 0<=aj (aK cs l) by omega);have hxc:2<=x.L/\x.L<=3:=hc23 x.L (by rw[<- L.nF];exact an (dw hx));have hFm1:=hFm.1;have w3:Hm.get (H.A+3)=some (.J 0 81 [.lit (.int .i64 g),.U (H.A+2) 0 0 n 3]):=(hFm.2.1 _ O O).trans z3;have wP:Hm.get Hy.A=some (.J 0 143 [.lit (.int .u8 pc),.lit (.int .u8 par),wv]):=(hFm.2.1 _ O O).trans zP;obtain⟨C1,hC1⟩:∃C1,C1=(cG ns).set (v*3+1) (ah l):=⟨_,rfl⟩
     have c1l:C1.length=ns.length*3:=(by rw[hC1,VW,hzl]);have hcx2:C1[v*3+2]?=some (.lit (.slice none 0 0)):=by
      have:=jW (f:=ZL.dv) (z:=3) mr ns v 2 x hx O;rw[hC1,Wa O,show (cG ns)[v*3+2]?=_ from this];unfold ZL.dv;rw[VA xr];rfl
     have hcx0:C1[v*3]?=some (aa x.L):=(by rw[hC1,Wa O];exact Eb hx);rw[<- hC1]at hFm;have hset2:∀rv rv',setAt (C1.set (v*3+2) rv) (v*3+2) [rv']=C1.set (v*3+2) rv':=fun rv rv'=>by rw[iK (by rw[VW];omega),Ym]
     have hgc2:∀rv,(C1.set (v*3+2) rv)[v*3+2]?=some rv:=fun rv=>VQ O;have hgc0:∀rv,(C1.set (v*3+2) rv)[v*3]?=some (aa x.L):=fun rv=>by rw[Wa O];exact hcx0
     refine W.vp (Q':=fun e s2=>e=.exit 8/\∃(rv:ZK) (na:List (List Int)),s2.ρ 1=.M H.A 0 0/\s2.ρ 2=.M (H.A+1) 0 0/\s2.ρ 3=aa n/\s2.ρ 4=.M (H.A+3) 0 0/\s2.ρ 5=ah P/\s2.ρ 10=aa i/\na.length=R/\na=sB g x.L bs R/\(∀r∈na,lI g x.L r)/\ox Hm s2.H (H.A+2) (C1.set (v*3+2) rv)/\aD Hm.A s2.H 42 rv (na.map ah)) ?_ ?_
     ·refine W.aP 98079714615372285444537148491336716315054007096738611200 (by rfl) (fun ρ Hr=>∃(r:Nat) (rv:ZK) (na:List (List Int)),ρ 15=aa r/\r<=R/\na.length=r/\na=sB g x.L bs r/\(∀r∈na,lI g x.L r)/\ox Hm Hr (H.A+2) (C1.set (v*3+2) rv)/\aD Hm.A Hr 42 rv (na.map ah)) (fun ρ H=>R-(iv (ρ 15)).toNat) ?_ ?_
      ·simp only[go_sem,y15];refine⟨0,.lit (.slice none 0 0),[],rfl,O,rfl,rfl,ZF,⟨ZI,fun _ _ _=>rfl,?_⟩,.nil⟩;rw[hFm.2.2,uK hcx2]
      rintro ρr Hr ⟨r,rv,na,h15,hr,hrl,hrD,hrows,hFr,hOr⟩;refine W.env fun E7 hE7=>?_;have b1:E7 1=.M H.A 0 0:=(by rw[hE7];simp only[go_sem,y1]);have b2:E7 2=.M (H.A+1) 0 0:=(by rw[hE7];simp only[go_sem,y2]);have b3:E7 3=aa n:=(by rw[hE7];simp only[go_sem,y3]);have b4:E7 4=.M (H.A+3) 0 0:=(by rw[hE7];simp only[go_sem,y4]);have b5:E7 5=ah P:=(by rw[hE7];simp only[go_sem,y5]);have b10:E7 10=aa i:=(by rw[hE7];simp only[go_sem,y10]);have b11:E7 11=.M Hy.A 0 0:=(by rw[hE7];simp only[go_sem,y11]);have b12:E7 12=aa v:=(by rw[hE7];simp only[go_sem,y12]);have b15:E7 15=aa r:=(by rw[hE7];simp only[go_sem,h15]);clear hE7;refine W.vs ?_;have hFr1:=hFr.1;have v3:=ae ((hFr.2.1 (H.A+3) O O).trans w3);have vP:=ae ((hFr.2.1 Hy.A O O).trans wP);have vN:=ae hFr.2.2;have hzp:∀z∈ns,z.na=[]->z.F=[]:=fun z hz hz0=>by
       obtain⟨u,hu⟩:=VG.1 hz;have hm:=xe ord n u (by have:=aI hu;omega);rw[<- hP]at hm;obtain⟨j,hj⟩:=VG.1 hm;rcases VV j i with h|h
       ·exact absurd hz0 (L.done j u z h hj hu).ne
       ·exact(L.todo j u z h hj hu).2
      have hcard:ak (ns.set v ⟨x.L,l,na⟩)=cs:=by
       have h1:ak (ns.set v ⟨x.L,l,na⟩)=(ak ns).set v x.L:=(by unfold ak;rw[XD]);rw[h1,uK (dw hx),L.nF]
      have hpar:aV (ns.set v ⟨x.L,l,na⟩) ⟨x.L,l,na⟩=aK cs l:=(by unfold aV;rw[hcard]);have fzN:Fz (fun _=>True) Hr 0 (.agg [aa g,.U (H.A+2) 0 0 n 3]) (dJ g (ns.set v ⟨x.L,l,na⟩)):=by
       refine .agg rfl fun i hi _=>?_
       match i,hi with
       |0,_=>exact .lit _
       |1,_ =>
        show Fz _ _ _ _ (.Q (ns.set v ⟨x.L,l,na⟩).length (aG (ns.set v ⟨x.L,l,na⟩)));rw[VW,hnl,Ri (y:=⟨x.L,l,na⟩) hx rfl];refine .nz trivial hFr.2.2 (by rw[VW,VW,kV];omega) fun j hj h2 h'=>?_;simp only[Nat.zero_add];refine Ec (A:=C1) (B:=(aG ns).set (v*3+1) (ah l)) ?_ ?_ j _ _
        ·rw[hC1];exact Ec (Rh ns hzp) (.dK _)
        ·have:=hOr.fz (S:=fun _=>True) (nx:=0) (cs':=na.map ah) (fun _ _=>trivial) rfl fun i hi _=>by simp only[VO];exact .dK _
         rw[VJ]at this;exact this
      simp only[go_sem,b4,b12,b15,v3];refine au.Z ((ag.frame (H:=Hr) (args:=[.agg [aa g,.U (H.A+2) 0 0 n 3],aa v]) (args':=[dJ g (ns.set v ⟨x.L,l,na⟩),aa v]) (v':=ah (aK cs l)) aJ rfl (fun i hi _=>?_) (Rk g (ns.set v ⟨x.L,l,na⟩) v ⟨x.L,l,na⟩ (VQ hvn) (by rw[VW];omega) (by show (l.length:Int)<_;have:=hL.p3;omega) (fun q hq=>by
        have hqr:=hL.nk q hq;rw[VW];rcases hqr.2 with h|⟨_,k',h,_⟩<;>omega) cZ _ fun w Hq _ ho=>⟨_,rfl,by rw[hpar]at ho;exact ho.mB⟩)).mono fun r1 H1' hr1=>?_)
      ·match i,hi with
       |0,_=>exact fzN
       |1,_=>exact .lit _
      obtain⟨rfl,rfl⟩:=hr1;refine⟨trivial,?_⟩;simp only[go_sem];refine au.Z (SQ (aK cs l) lsm _ _ ⟨trivial,?_⟩);rw[hR];by_cases hrR:(r:Int)<R
      ·simp only[go_sem,hrR];obtain⟨xn,hxn⟩:=VE (show 0<=x.L by omega);have rc:0<=(r:Int)*(x.L+1)/\(r:Int)*(x.L+1)<=27*4:=⟨WT O O,Ww O O O O⟩
       have c1:=Vv (x.L+1) O;have c2:=Vv ((r:Int)*(x.L+1)) O;have c3:=Vv ((r:Int)+1) O;have hg2:=hgc2 rv;have hg0':=hgc0 rv;have hg2n:=aO hg2;obtain⟨row,hrow⟩:∃row,row=pN g xn bs ((r:Int)*(x.L+1)):=⟨_,rfl⟩
       have hrok:lI g x.L row:=(by rw[hrow,hxn];exact QM hg1.1 O _ _);have hpc84:∀Hq,bL prog G0 (.Z 77 [] []) [aa g,aa x.L,wv,aa ((r:Int)*(x.L+1))] Hq (ah row) []:=fun Hq=>by
        refine bL.mk (fun i hi=>by cases hi) fun H2 _ _=>?_;refine ag.frame (H:=H2) (args:=[aa g,aa x.L,wv,aa ((r:Int)*(x.L+1))]) (args':=[aa g,aa xn,.Q bs.length (cu bs),aa ((r:Int)*(x.L+1))]) (v':=ah row) aJ rfl (fun i hi _=>?_) (QN g xn hg1 O bs hbl hbs _ O cZ _ fun w Hw _ ho=>⟨_,rfl,by rw[hrow];exact ho.mB⟩)
        match i,hi with
        |0,_=>exact .lit _
        |1,_=>rw[hxn];exact .lit _
        |2,_=>exact hwf _
        |3,_=>exact .lit _
       obtain⟨rv',Hj,hA,hO',hn',hpr'⟩:=iR (P:=prog) (H:=H1') (t:=33) (x:=ah row) (n:=H1'.A+1) Tryz.underlying33 Tryz.nW Tryz.nY rfl (by rw[Tryz.nX,VJ];omega) hOr hFr1 rfl;have nc:∀id,id<Hm.A->Hj.get id=H1'.get id:=fun id h=>hpr' id O (hOr.ne h);have v3j:=ae ((nc _ O).trans ((hFr.2.1 (H.A+3) O O).trans w3));have vNj:=ae ((nc _ O).trans hFr.2.2);have hA':cr prog (ext H1' [.J 0 42 [.Q row.length (ints row)]]) (H1'.A+1) 33 33 rv (.U H1'.A 0 0 1 1)=some (rv',Hj):=hA;refine W.dr 31 [0,1,0,0,8,0,56,120,248,0,512,0,2048,0,14336,30720,63488,0,131072,0,0,1048576,0,7340032,15728640,32505856,66060288,133693440,268434944,536870400,1073741816] mixed ?_;simp only[go_sem,b4,b11,b12,b15,v3,vP,vN,hg2,hg0',vlt,v0,c1,c2];refine⟨ah row,[],hpc84 _,?_⟩;simp only[go_sem,b4,b11,b12,b15,vNj,vlt,v0,c3,hA'];have hdj:nU (if lX rv=true then { nD:=aT rv,rs:=aT rv++[H1'.A] } else { nD:=[H1'.A+1],rs:=[H1'.A] }) { nD:=[],rs:=[H.A+3] }:=by
        rcases hOr with ⟨hO1,_⟩|⟨id,gg,hO1,hO2,hO3,_⟩
        ·rw[hO1];show nU { nD:=[H1'.A+1],rs:=[H1'.A] } _;exact⟨fun a ha=>by (obtain rfl:a=H1'.A+1:=by simpa using ha);simp;omega,fun a ha=>by simp at ha⟩
        ·rw[hO3];show nU { nD:=[id],rs:=[id]++[H1'.A] } _;exact⟨fun a ha=>by (obtain rfl:a=id:=by simpa using ha);simp;omega,fun a ha=>by simp at ha⟩
       rw[hO'.cells];refine⟨⟨O,O,O,O,O,O,O⟩,⟨hdj,hdj⟩,⟨rfl,by simp[hO'.one],by rw[VW,c1l];simp;omega⟩,by rw[aA];omega,⟨r+1,rv',na++[row],rfl,O,by simp[hrl],by rw[Rn,<- hrD,hrow,show x.L.toNat=xn by omega],fun q hq=>?_,⟨by rw[aA];omega,fun id h1 h2=>by rw[af,Vx h2,nc _ h1];exact hFr.2.1 id h1 h2,?_⟩,?_⟩,by rw[h15];simp only[aa,aZ];omega⟩
       ·rcases V3.1 hq with h|h
        ·exact hrows q h
        ·obtain rfl:=List.mem_singleton.1 h;exact hrok
       ·rw[af,VA rfl,hset2]
       ·have:=hO'.nc (lo':=Hm.A) (H':=Hj.upd (H.A+2) (.J 0 87 (setAt (C1.set (v*3+2) rv) (v*3+2) [rv']))) ZI ZI fun id _ h1 _ _ _=>by rw[af,Vx O]
        simpa using this
      ·simp only[go_sem,b1,b2,b3,b4,b5,b10,hrR];exact⟨rv,na,O,by rw[hrD];congr 1;omega,hrows,hFr,hOr⟩
     ·rintro e s3 ⟨rfl,rv,na,a1,a2,a3,a4,a5,a10,hrl,hrD,hrows,hFr,hOr⟩;have hFr1:=hFr.1;obtain⟨rk,hrk,hfz⟩:∃rk,Hm.A<=rk/\Fz (fun id=>id=rk) s3.H s3.H.A rv (aE na):=by
       rcases hOr with ⟨hO1,hO2⟩|⟨id,gg,hO1,hO2,hO3,hO4⟩
       ·have:na=[]:=by cases na with
         |nil=>rfl
         |cons b l=>simp at hO2
        rw[hO1,this];exact⟨s3.H.A,hFr1,.nil⟩
       ·refine⟨id,hO1,?_⟩;rw[hO3,VJ];refine .nz rfl hO4 (by rw[Nat.mul_one,VJ]) fun j hj h2 h'=>?_;simp only[Nat.zero_add,VO];exact .dK _
      have hne2:H.A+2≠rk:=O;have hC1z:∀c∈C1,Fz (fun id=>id=rk) s3.H s3.H.A c c:=fun c hc=>by
       rw[hC1]at hc;rcases Wn hc with h|h
       ·exact Ed ns c h
       ·rw[h];exact .dK _
      refine⟨⟨s3.ρ,s3.H.fY rk (H.A+2) (.J 0 87 (C1.set (v*3+2) (aE na)))⟩,eF.fY aJ hFr.2.2 hne2 ZF (A2 hC1z hfz),ZI,trivial,?_⟩;obtain⟨He,hHe⟩:∃He,He=s3.H.fY rk (H.A+2) (.J 0 87 (C1.set (v*3+2) (aE na))):=⟨_,rfl⟩
      rw[<- hHe];have hFe:ox Hm He (H.A+2) (C1.set (v*3+2) (aE na)):=by
       rw[hHe];exact⟨hFr1,fun id h1 h2=>(nG O h2).trans (hFr.2.1 id h1 h2),x8 hne2⟩
      clear hFr hOr hfz hHe hne2 hrk;have hFe1:=hFe.1;have i1:=Vv ((i:Int)+1) O;simp only[go_sem,a10,i1];have hiv:∀j u:Nat,P[j]?=some (u:Int)->u=v->j=i:=fun j u h1 h2=>by
       subst h2;exact(WV (aI h1) hperm.nd).1 (by rw[h1,hpv])
      have hrne:na≠[]:=fun h=>by rw[h]at hrl;simp at hrl;omega
      have hdone:DoneN g cs P n i ⟨x.L,l,na⟩:=⟨⟨hL.pw,fun q hq=>⟨(hL.nk q hq).1,by rcases(hL.nk q hq).2 with h|⟨_,k',h,_⟩<;>omega⟩⟩,hL.p3,hL.rk,by show (na.length:Int)=_;rw[hrl,hR],hrows,hrne⟩
      refine⟨O,⟨i+1,ns.set v ⟨x.L,l,na⟩,rfl,O,⟨by rw[VW];exact hnl,?_,fun j u z hj hu hz=>?_,fun j u z hj hu hz=>?_,fun j u z hj hu hz=>?_,fun j u z hu hz=>?_⟩,O,O,fun id h1 h2=>?_,?_⟩,by rw[h10];simp only[aa,aZ];omega⟩
      ·have h1:ak (ns.set v ⟨x.L,l,na⟩)=(ak ns).set v x.L:=(by unfold ak;rw[XD]);rw[h1,uK (dw hx),L.nF]
      ·have huv:¬u=v:=fun h=>by have:=hiv j u hu h;omega
       rw[Wa O]at hz;exact L.todo j u z O hu hz
      ·by_cases huv:u=v
       ·obtain rfl:=hiv j u hu huv;rw[huv,VQ hvn]at hz;cases hz;exact hdone
       ·rw[Wa O]at hz;have:j≠i:=fun h=>by
         rw[h,hpv]at hu;exact huv (by have:=Option.some.inj hu;omega)
        exact L.done j u z O hu hz
      ·by_cases huv:u=v
       ·obtain rfl:=hiv j u hu huv;rw[huv,VQ hvn]at hz;rw[<- Option.some.inj hz];unfold Ac;rw[<- L.cd j v x hpv hx,<- hpw.1,<- hpw.2,<- hPk,hR,hrD];rfl
       ·rw[Wa O]at hz;have:j≠i:=fun h=>by
         rw[h,hpv]at hu;exact huv (by have:=Option.some.inj hu;omega)
        exact L.eq j u z O hu hz
      ·by_cases huv:u=v
       ·obtain rfl:=hiv j u hu huv;rw[huv,VQ hvn]at hz;rw[<- Option.some.inj hz];exact L.cd j v x hpv hx
       ·rw[Wa O]at hz;exact L.cd j u z hu hz
      ·rw[hFe.2.1 id O h2,hFm.2.1 id O h2];exact zO id h1 h2
      ·rw[hFe.2.2,Ro (y:=⟨x.L,l,na⟩) hx rfl hrne,hC1]
  ·obtain rfl:i=n:=O;simp only[go_sem,e2,e3,e4,e10,hb,m1,m3];have hnl:=L.len;have hall:∀v:Nat,v<ns.length->(v:Int)∈P:=fun v hv=>by rw[hP];exact xe ord i v (O)
   have hdn:∀(v:Nat) (x:ZL),ns[v]?=some x->∃j,DoneN g cs P i j x:=fun v x hx=>by
    obtain⟨j,hj⟩:=VG.1 (hall v (aI hx));exact⟨j,L.done j v x (by have:=aI hj;have:=hperm.len;omega) hj hx⟩
   have hdm:∀x∈ns,∃j,DoneN g cs P i j x:=fun x hx=>by
    obtain⟨v,hv⟩:=VG.1 hx;exact hdn v x hv
   have ov:ZN H (Hy.upd (H.A+1) (.J 0 81 [.lit (.int .i64 g),.U (H.A+2) 0 0 i 3])):=⟨by rw[aA];omega,fun id h=>by rw[af,Vx O,hF.2.1 id O O];exact o1.nb id h⟩
   have hz:cG ns=aG ns:=Re fun x hx=>(hdm x hx).elim fun j hj=>hj.ne;have hcl8:∀x∈ns,2<=x.L/\x.L<=3:=fun x hx=>hc23 x.L (by rw[<- L.nF];exact VI.2 ⟨x,hx,rfl⟩);have hnet:Z5 g ns:=by
    refine⟨hg1,O,fun x hx=>?_,?_,Ee (P:=P) (by rw[hnl];exact hperm) hall fun j v x hj hx q hq=>?_,fun x hx=>?_⟩
    ·obtain⟨j,hj⟩:=hdm x hx;have:=hcl8 x hx;exact⟨O,by rw[hnl];exact hj.pl⟩
    ·have h2:=(oa (b:=3) O (l:=ak ns) fun c hc=>by have:=hc23 c (by rw[<- L.nF];exact hc);omega).2;have h3:(3:Int) ^ (ak ns).length<=3 ^ 5:=by
      have:(3:Nat) ^ (ak ns).length<=3 ^ 5:=V0 ZG (by rw[dk];omega)
      exact_mod_cast this
     omega
    ·have hd:=L.done j v x (by have:=aI hj;have:=hperm.len;omega) hj hx;exact⟨(hd.pl.2 q hq).1,hd.rk q hq⟩
    ·obtain⟨j,hj⟩:=hdm x hx;unfold im aV;rw[L.nF];exact⟨hj.rl,hj.ro⟩
   rw[<- hnl];rw[<- hnl]at ov;refine aq.mk ov.A (hK g ns (H.A+2) _ ov O (by rw[aA];omega) ?_ hnet O (fun x hx=>?_) (fun x hx=>?_) ⟨hg.symm,by rw[hnl];exact hn.symm,by rw[L.nF,hnl,<- hP];exact fun j v x hj hx=>L.eq j v x (by have:=aI hj;have:=hperm.len;omega) hj hx,by rw[hnl,<- hP];exact L.cd⟩)
   ·rw[af,Vx O,hF.2.2,hz]
   ·obtain⟨j,hj⟩:=hdm x hx;exact hj.p3
   ·have:=hc23 x.L (by rw[<- L.nF];unfold ak;exact List.mem_map_of_mem hx);omega
def Rs (g0:Int)(ps:List DrP)(ord:List Int)(hg0:U8 g0)(hps:∀x∈ps,x.Ok)(hpl:(ps.length:Int)<2 ^ 63)(hol:(ord.length:Int)<2 ^ 63)(ho8:∀x∈ord,U8 x)(H:ZJ)(K:ZP->ZJ->Prop)
  (hK:∀g ns N H',ZN H H'->H.A<=N->N<H'.A->H'.get N=some (.J 0 87 (aG ns))->Z5 g ns->ns.length<=5->(∀x∈ns,x.F.length<=3)->(∀x∈ns,2<=x.L)->K (.ret (.agg [aa g,.U N 0 0 ns.length 3])) H'):
  ag prog G0 30 [xa g0 ps ord] H K:=Rq g0 ps ord hg0 hps hpl hol ho8 H K fun g ns N H' a b c d e f h i _=>hK g ns N H' a b c d e f h i
def Rt (g0:Int)(ps:List DrP)(ord:List Int)(hg0:U8 g0)(hps:∀x∈ps,x.Ok)(hpl:(ps.length:Int)<2 ^ 63)(hol:(ord.length:Int)<2 ^ 63)(ho8:∀x∈ord,U8 x)(H:ZJ)(K:ZP->ZJ->Prop)
  (hK:∀g ns N H',ZN H H'->H.A<=N->N<H'.A->H'.get N=some (.J 0 87 (aG ns))->Z5 g ns->ns.length<=5->(∀x∈ns,x.F.length<=3)->K (.ret (.agg [aa g,.U N 0 0 ns.length 3])) H'):
  ag prog G0 30 [xa g0 ps ord] H K:=Rs g0 ps ord hg0 hps hpl hol ho8 H K fun g ns N H' a b c d e f h _=>hK g ns N H' a b c d e f h
def Ae (s v:Nat)(hs:s<2 ^ 64)(H:ZJ)(K:ZP->ZJ->Prop)(hK:K (.ret (.lit (.bool (s.testBit v)))) H):ag prog G0 41 [bY s,aa v] H K:=by
 refine ag.st (n:=10) (rs:=[.tmp 4]) func41 ?_;have s1:=fun t x y=>nE (P:=prog) (t:=t) (x:=x) (y:=y) (k':=.i64) (s:=v) hs;have s2:=fun t x y=>oV (P:=prog) (t:=t) (x:=x) (y:=y) (s:=v) hs;cases hb:s.testBit v
 ·rw[hb]at hK;simp only[go_sem,s1,s2,hb];exact aq.mk ZI hK
 ·rw[hb]at hK;simp only[go_sem,s1,s2,hb];exact aq.mk ZI hK
def fy (s n:Nat):List Int:=((List.range n).filter fun v=>s.testBit v).map fun (v:Nat)=>(v:Int)
def Ru (s n:Nat):fy s (n+1)=if s.testBit n=true then fy s n++[(n:Int)] else fy s n:=by
 unfold fy;rw[Wy,List.filter_append,Wk];by_cases h:s.testBit n=true
 ·rw[VA h];simp[h]
 ·rw[Vx h];simp[h]
def sC {s:Nat}{q:Int}:q∈fy s n↔∃v:Nat,q=v/\v<n/\s.testBit v=true:=by
 unfold fy;simp only[VI,List.mem_filter,VP];exact⟨fun ⟨v,⟨h1,h2⟩,h3⟩=>⟨v,h3.symm,h1,h2⟩,fun ⟨v,h1,h2,h3⟩=>⟨v,⟨h2,h3⟩,h1.symm⟩⟩
def Rv (s n:Nat):(fy s n).Pairwise (·<·):=by
 unfold fy;refine List.Pairwise.map _ (R:=(·<·)) (fun a b h=>O) ?_;exact List.Pairwise.filter _ Zg
def Eg (s n:Nat):(fy s n).length<=n:=by
 unfold fy;rw[VJ];exact Wm (Zj _ _) (ZF)
def Eh (s:Nat)(hs:s<2 ^ 64)(H:ZJ)(K:ZP->ZJ->Prop)(hK:K (.ret (ah (fy s 8))) H):ag prog G0 33 [bY s] H K:=by
 refine ag.Z ⟨_,func33,rfl,rfl⟩ fun hcl=>?_;refine ag.st (n:=17) (rs:=[.tmp 2]) func33 ?_;simp only[go_sem];refine W.aP 65528 (by rfl) (fun ρ H'=>∃k:Nat,ρ 4=aa k/\k<=8/\ZN H H'/\aD H.A H' 3 (ρ 3) (ints (fy s k))) (fun ρ H=>8-(iv (ρ 4)).toNat) ?_ ?_
 ·simp only[go_sem];exact⟨0,rfl,O,.refl _,.nil⟩
 rintro ρ H' ⟨k,h4,hk,ov,h3⟩;refine W.en (fun E=>E 0=bY s /\ E 3=ρ 3 /\ E 4=aa k) (by simp only[go_sem,h4]) fun E ⟨e0,e3,e4⟩=>?_
 refine W.vs ?_;by_cases hb:(k:Int)<8
 ·have w1:=Vv ((k:Int)+1) O;have hbl:=Eg s k;have hsu:=Ru s k;simp only[go_sem,e0,e4,hb];refine au.Z (Ae s k hs _ _ ⟨trivial,?_⟩);by_cases hbit:s.testBit k=true
  ·obtain⟨v',H2,hA,ov2,hO,hn2,_⟩:=kL (k:Int) ov h3 O;rw[VA hbit]at hsu;simp only[go_sem,e3,e4,hbit,w1,hA];exact⟨by have:=ov2.A;omega,⟨k+1,rfl,O,ov2,by rw[hsu];exact hO⟩,by rw[h4];simp only[aa,aZ];omega⟩
  ·rw[Vx hbit]at hsu;have hbf:s.testBit k=false:=(by simpa using hbit);simp only[go_sem,e3,e4,hbf,w1];exact⟨ov.A,⟨k+1,rfl,O,ov,by rw[hsu];exact h3⟩,by rw[h4];simp only[aa,aZ];omega⟩
 ·obtain rfl:k=8:=O
  simp only[go_sem,e3,e4];exact aq.bC aJ hcl ov (h3.hJ fun i hi=>hi) hK
def Af:ZK->Nat
 |.U _ _ _ n _=>n
 |_=>0
def xh (h:aD lo H e v cs):Af v=cs.length:=by
 rcases h with ⟨rfl,rfl⟩|⟨_,_,_,_,rfl,_⟩<;>rfl
def Ag (d:ZM):List ZK:=[.lit (.int .i64 d.X),.Q d.C.length (bD d.C),.lit (.int .u64 (d.Y:Int)),.Q d.nn.length (bj d.nn)]
def pP (d:ZM):ZK:=.agg (Ag d)
def sD (d:ZM)(cs:List ZK):List ZK:=[.lit (.int .i64 d.X),.Q d.C.length cs,.lit (.int .u64 (d.Y:Int)),.Q d.nn.length (bj d.nn)]
def sE (d:ZM)(cs:List ZK):ZK:=.agg (sD d cs)
def xi (d:ZM)(cs:List ZK):sE d cs=.agg (sD d cs):=rfl
def Rw (d:ZM):pP d=.agg (Ag d):=rfl
def Rx (d:ZM)(cs:List ZK)(hd:d.Y<2 ^ 64)(hl:(d.C.length:Int)<2 ^ 39)(H:ZJ)(K:ZP->ZJ->Prop)(hK:K (.ret (ah (bp (aB d)))) H):ag prog G0 79 [sE d cs] H K:=by
 refine ag.Z ⟨_,func79,rfl,rfl⟩ fun hcl=>?_;refine ag.st (n:=21) (rs:=[.tmp 2]) func79 ?_;simp only[go_sem,xi,sD];obtain⟨H1,hH1⟩:∃H1,H1=ext H [.J 0 38 [.lit (.int .i64 d.X),.Q d.C.length cs,.lit (.int .u64 (d.Y:Int)),.Q d.nn.length (bj d.nn)]]:=⟨_,rfl⟩
 have l1:=ae (show H1.get H.A=some (.J 0 38 [.lit (.int .i64 d.X),.Q d.C.length cs,.lit (.int .u64 (d.Y:Int)),.Q d.nn.length (bj d.nn)]) by rw[hH1];exact dA ..);have n1:H1.A=H.A+1:=hH1▸rfl
 have o1:ZN H H1:=hH1▸.ext _ _
 rw[<- hH1];refine W.aP 1048568 (by rfl) (fun ρ H'=>∃k:Nat,ρ 4=aa k/\k<=d.C.length/\ZN H1 H'/\aD H1.A H' 3 (ρ 3) (ints (bp (eH d.Y k)))) (fun ρ H=>d.C.length-(iv (ρ 4)).toNat) ?_ ?_
 ·simp only[go_sem];exact⟨0,rfl,O,.refl _,.nil⟩
 rintro ρ H' ⟨k,h4,hk,ov,h3⟩;refine W.en (fun E=>E 1=.M H.A 0 0 /\ E 3=ρ 3 /\ E 4=aa k) (by simp only[go_sem,h4]) fun E ⟨e1,e3,e4⟩=>?_
 refine W.vs ?_;have l2:=(ov.V (g:=0) (by omega:H.A<H1.A)).trans l1;by_cases hb:(k:Int)<d.C.length
 ·have w1:=Vv ((k:Int)+1) O;have hbl:(bp (eH d.Y k)).length<=k:=by simp only[bp,VJ];exact ia
  have hsu:=wN d.Y k;simp only[go_sem,e1,e4,l2,hb];refine au.Z (Ae d.Y k hd _ _ ⟨trivial,?_⟩);by_cases hbit:d.Y.testBit k=true
  ·obtain⟨v',H2,hA,ov2,hO,hn2,_⟩:=kL (k:Int) ov h3 O;rw[VA hbit]at hsu;simp only[go_sem,e3,e4,hbit,w1,hA];exact⟨ov2.A,⟨k+1,rfl,O,ov2,by rw[hsu,show bp (eH d.Y k++[k])=bp (eH d.Y k)++[(k:Int)] by simp[bp]];exact hO⟩,by rw[h4];simp only[aa,aZ];omega⟩
  ·rw[Vx hbit]at hsu;have hbf:d.Y.testBit k=false:=(by simpa using hbit);simp only[go_sem,e3,e4,hbf,w1];exact⟨ov.A,⟨k+1,rfl,O,ov,by rw[hsu];exact h3⟩,by rw[h4];simp only[aa,aZ];omega⟩
 ·have hke:k=d.C.length:=O
  rw[hke]at h3;simp only[go_sem,e1,e3,e4,l2,hb];exact aq.bC aJ hcl (o1.trans ov) (h3.hJ fun i hi=>O) hK
def RA (g:Int)(ns:List ZL)(hl:(ns.length:Int)<2 ^ 39)(hp:∀x∈ns,(x.F.length:Int)<2 ^ 39/\∀q∈x.F,0<=q/\q<64)(H:ZJ)(K:ZP->ZJ->Prop)
  (hK:∀v H',ZN H H'->aD H.A H' 35 v ((bF ns).map bY)->K (.ret v) H'):ag prog G0 32 [dJ g ns] H K:=by
 refine ag.Z ⟨_,func32,rfl,rfl⟩ fun hcl=>?_;refine ag.st (n:=43) (rs:=[.tmp 2]) func32 ?_;simp only[go_sem,dJ,dX];obtain⟨H1,hH1⟩:∃H1,H1=ext H [.J 0 81 [.lit (.int .i64 g),.Q ns.length (aG ns)]]:=⟨_,rfl⟩
 have l1:H1.V H.A 0=some (81,[.lit (.int .i64 g),.Q ns.length (aG ns)]):=by rw[hH1];exact ae (dA ..)
 have n1:H1.A=H.A+1:=hH1▸rfl
 have o1:ZN H H1:=hH1▸.ext _ _
 rw[<- hH1];refine W.aP 4398046511096 (by rfl) (fun ρ H'=>∃k:Nat,ρ 4=aa k/\k<=ns.length/\ρ 1=.M H.A 0 0/\ZN H1 H'/\aD H1.A H' 35 (ρ 3) (((bF ns).take k).map bY)) (fun ρ H=>ns.length-(iv (ρ 4)).toNat) ?_ ?_
 ·simp only[go_sem];exact⟨0,rfl,O,.refl _,.nil⟩
 rintro ρ H' ⟨k,h4,hk,h1,ov,h3⟩;refine W.vs ?_;have l2:=(ov.V (g:=0) (by omega:H.A<H1.A)).trans l1;by_cases hb:(k:Int)<ns.length
 ·obtain⟨x,hx⟩:=ao (l:=ns) (i:=k) O;have hne:=eT hx;have e1:=mR hx;obtain⟨xl,xr⟩:=hp x (an hx);simp only[go_sem,h4,h1,l2,hb];refine W.aP 274877890656 (by rfl) (fun ρ' H2=>H2=H'/\∃j:Nat,ρ' 6=aa j/\j<=x.F.length/\ρ' 5=bY (cJ (x.F.take j))) (fun ρ' H=>x.F.length-(iv (ρ' 6)).toNat) ?_ ?_
  ·simp only[go_sem];exact⟨0,rfl,O,rfl⟩
  rintro ρ' H2 ⟨rfl,j,h6,hj,h5⟩;refine W.vs ?_;by_cases hb2:(j:Int)<x.F.length
  ·obtain⟨q,hq⟩:=ao (l:=x.F) (i:=j) O;obtain⟨q0,q1⟩:=xr q (an hq);obtain⟨u,rfl⟩:=VE q0;have hne2:=aO hq;have w1:=W8 (u:Int) O;have w2:=Vv ((j:Int)+1) O;have b1:cJ (x.F.take j)<2 ^ 64:=pG fun p hp=>by have:=xr p (VU hp);omega
   have s1:=fun t x y=>oU (P:=prog) (t:=t) (x:=x) (y:=y) (k':=.u64) (s:=u) O;have s2:=fun t x y=>lO (P:=prog) (t:=t) (x:=x) (y:=y) (b:=2 ^ u) b1 (WY ZG O);simp only[go_sem,h4,h1,l2,hb,hne,e1,h6,h5,hb2,hq,hne2,w1,w2,s1,s2];exact⟨⟨j+1,ZF,O,by rw[aU hq,wL];rfl⟩,O⟩
  ·obtain⟨v',H3,hA,ov2,hO,hn2,_⟩:=Fp (cJ x.F) ov h3 (by simp[bF];omega);have w1:=Vv ((k:Int)+1) O;rw[Vy O]at h5;simp only[go_sem,h4,h1,l2,hb,hne,e1,h6,h5,hb2,w1,hA];refine⟨by have:=ov2.A;omega,⟨k+1,ZF,O,ov2,?_⟩,O⟩;rw[aU (oJ hx)];exact hO
 ·simp only[go_sem,h4,h1,l2,hb];rw[Vy (by simp[bF];omega)]at h3;exact aq.mk (o1.trans ov).A (hK _ _ (o1.trans ov) (h3.nc O ZI fun _ _ _ _ _ _=>rfl))
def RB (ps:List Nat)(hl:ps.length<=60)(hp:∀p∈ps,p<2 ^ 64)(r:List Nat)(htp:gI ps=some r)(H:ZJ)(K:ZP->ZJ->Prop)(hK:∀v H',ZN H H'->aD H.A H' 3 v (ints (bp r))->K (.ret v) H'):ag prog G0 78 [jJ ps] H K:=by
 refine ag.Z ⟨_,func78,rfl,rfl⟩ fun hcl=>?_;refine ag.st (n:=40) (rs:=[.tmp 2]) func78 ?_;simp only[go_sem];refine W.aP 549755813880 (by rfl) (fun ρ H'=>∃(out:List Nat) (done:Nat),ρ 4=bY done/\done<2 ^ 64/\out.length<=ps.length/\ZN H H'/\aD H.A H' 3 (ρ 3) (ints (bp out))/\jg ps (ps.length-out.length) out done=some r) (fun ρ H=>ps.length-Af (ρ 3)) ?_ ?_
 ·simp only[go_sem];exact⟨[],0,rfl,ZG,ZF,.refl _,.nil,htp⟩
 rintro ρ H' ⟨out,done,h4,hd,ho,ov,h3,ht⟩;refine W.en (fun E=>E 0=jJ ps /\ E 3=ρ 3 /\ E 4=bY done) (by simp only[go_sem,h4]) fun E ⟨e0,e3,e4⟩=>?_
 refine W.vs ?_;have hlen:=xd h3 (d:=some (.slice 3)) rfl;have hol:=xh h3;have nl:(bp out).length=out.length:=by simp[bp]
 rw[r9,aR,nl]at hlen;rw[aR,nl]at hol;by_cases hb:(out.length:Int)<ps.length
 ·simp only[go_sem,e0,e3,hlen,hb];have hk1:ps.length-out.length=(ps.length-(out.length+1))+1:=O
  refine W.aP 549755811896 (by rfl) (fun ρ2 H2=>H2=H'/\∃j:Nat,ρ2 5=aa j/\j<=ps.length/\ρ2 3=ρ 3/\ρ2 4=bY done/\∀v,v<j->ku ps done v=false) (fun ρ2 H=>ps.length-(iv (ρ2 5)).toNat) ?_ ?_
  ·simp only[go_sem,e3,e4];exact⟨0,rfl,O,fun v h=>absurd h (VN _)⟩
  rintro ρ2 H2 ⟨rfl,j,h5,hj,h3',h4',hno⟩;refine W.en (fun E2=>E2 0=jJ ps /\ E2 3=ρ 3 /\ E2 4=bY done /\ E2 5=aa j) (by simp only[go_sem,e0,h3',h4',h5]) fun E2 ⟨f0,f3,f4,f5⟩=>?_
  refine W.vs ?_;by_cases hb2:(j:Int)<ps.length
  ·obtain⟨p,hpj⟩:=ao (l:=ps) (i:=j) O;have hpj':(ps.map bY)[j]?=some (bY p):=(by rw[List.getElem?_map,hpj];rfl);have hne:=aO hpj';have s3:=fun t x y=>AY (P:=prog) (t:=t) (x:=x) (y:=y) (a:=p) (b:=done);have w1:=Vv ((j:Int)+1) O;have w2:=W8 (j:Int) O;have cont:ku ps done j=false->∀v,v<j+1->ku ps done v=false:=fun h v hv=>by
    rcases VV v j with h'|h'
    ·exact hno v h'
    ·obtain rfl:v=j:=O;exact h
   have fe:ku ps done j=(!done.testBit j && decide (ju p done=0)):=(by unfold ku;rw[bM hpj]);simp only[go_sem,f0,f4,f5,hb2];refine au.Z (SY done j hd O _ _ ⟨trivial,?_⟩);cases hbit:done.testBit j;rotate_left
   ·simp only[go_sem,f3,f4,f5,w1];exact⟨⟨j+1,rfl,O,cont (by rw[fe,hbit];rfl)⟩,by rw[h5];simp only[aa,aZ];omega⟩
   by_cases hz:ju p done=0;rotate_left
   ·have hz':¬((ju p done:Nat):Int)=0:=O;simp only[go_sem,f0,f3,f4,f5,hb2,hpj',hne,s3,hz',w1];exact⟨⟨j+1,rfl,O,cont (by rw[fe,hbit];simp[hz])⟩,by rw[h5];simp only[aa,aZ];omega⟩
   have hz':((ju p done:Nat):Int)=0:=O;have hnx:mn ps done=some j:=Fw O hno (by rw[fe,hbit];simp[hz]);obtain⟨v',H3,hA,ov2,hO,hn2,_⟩:=kL (j:Int) ov h3 (by simp[bp];omega);have b2:(2:Nat) ^ j<2 ^ 64:=WY ZG O;have s4:=fun t x y=>oU (P:=prog) (t:=t) (x:=x) (y:=y) (k':=.u64) (s:=j) O;have s5:=fun t x y=>lO (P:=prog) (t:=t) (x:=x) (y:=y) hd b2;simp only[go_sem,f0,f3,f4,f5,hb2,hpj',hne,s3,s4,s5,hz',w2,hA];have hO':aD H.A H3 3 v' (ints (bp (out++[j]))):=by
    have e:bp (out++[j])=bp out++[(j:Int)]:=(by simp[bp]);rw[e];exact hO
   have hol':=xh hO';have nl':(bp (out++[j])).length=out.length+1:=(by simp[bp]);rw[aR,nl']at hol';refine⟨ov2.A,⟨out++[j],done |||2 ^ j,rfl,Xx hd b2,by simp;omega,ov2,hO',?_⟩,by rw[hol,hol'];omega⟩;rw[<- ht,hk1]
   conv=>rhs;unfold jg
   rw[hnx,List.length_append];rfl
  ·have hnn:mn ps done=none:=Fx fun v hv=>hno v O;rw[hk1]at ht;unfold jg at ht;rw[hnn]at ht;cases ht
 ·simp only[go_sem,e0,e3,hlen,hb];have e:ps.length-out.length=0:=O
  rw[e]at ht;unfold jg at ht;cases ht;exact aq.mk ov.A (hK _ _ ov h3)
def RC {l:List Nat}(h:aD lo H e v (l.map bY)):Z7 H v (jJ l):=by
 rcases h with ⟨rfl,h⟩|⟨id,g,h1,h2,rfl,h4⟩
 ·have:l=[]:=by cases l with
   |nil=>rfl
   |cons a l=>simp at h
  subst this;exact .nil
 ·have e:jJ l=.Q (l.map bY).length (l.map bY):=by rw[VJ];rfl
  rw[e];refine .U h4 ZF fun j hj h2 h'=>?_;simp only[Nat.zero_add,VO];exact .lit _
def RD (g:Int)(ns:List ZL)(hl:ns.length<=8)(hp:∀x∈ns,(x.F.length:Int)<2 ^ 39/\∀q∈x.F,0<=q/\q<(ns.length:Int))(r:List Nat)(htp:gI (bF ns)=some r)(H:ZJ)(K:ZP->ZJ->Prop)
  (hK:∀v H',ZN H H'->aD H.A H' 3 v (ints (bp r))->K (.ret v) H'):ag prog G0 31 [dJ g ns] H K:=by
 have hsl:(bF ns).length=ns.length:=by simp[bF]
 have hs64:∀p∈bF ns,p<2 ^ 64:=fun p h=>VM (AD (n:=ns.length) (fun x hx q hq=>(hp x hx).2 q hq) p h) (V0 ZG O);refine ag.st (n:=6) (rs:=[.tmp 2]) func31 ?_;simp only[go_sem,dJ,dX];refine au.Z (SZ g ns O (fun x hx=>⟨(hp x hx).1,fun q hq=>by have:=(hp x hx).2 q hq;omega⟩) _ _ ⟨trivial,?_⟩);simp only[go_sem];refine au.Z (RB (bF ns) O hs64 r htp _ _ fun v H' ov ho=>⟨trivial,?_⟩);simp only[go_sem];have o1:ZN H H':=(ZN.ext _ _).trans ov;exact aq.mk o1.A (hK _ _ o1 (ho.nc (by simp[aM]) ZI fun _ _ _ _ _ _=>rfl))
structure UtD where
 vars:Int
 w:List Int
def I8 (n:Int):Prop:=-128<=n/\n<128
def qM (l:List Int):List ZK:=l.map fun n=>.lit (.int .i8 n)
def Ry (h:l[k]?=some a):(qM l)[k]?=some (.lit (.int .i8 a)):=by unfold qM;rw[List.getElem?_map,h];rfl
def UtD.cells (x:UtD):List ZK:=[.lit (.int .u8 x.vars),.Q x.w.length (qM x.w)]
def UtD.Ok (x:UtD):Prop:=U8 x.vars/\(x.w.length:Int)<2 ^ 63/\∀b∈x.w,I8 b
def xj (p:Int)(k:Nat):Bool:=decide (IntKind.u8.wrap (((BitVec.ofInt IntKind.u8.bits (p.fdiv (2 ^ (min ((k:Int)).toNat IntKind.u8.bits))) &&& BitVec.ofInt IntKind.u8.bits 1).toNat:Nat):Int)=1)
def eV (p:Int):Nat->List Int
 |0=>[]
 |v+1=>if xj p v=true/\(eV p v).length<3 then eV p v++[(v:Int)] else eV p v
theorem xk (p:Int):∀n:Nat,(eV p n).Pairwise (·<·)/\(∀q∈eV p n,0<=q/\q<n)/\(eV p n).length<=3
 |0=>⟨by simp[eV],by simp[eV],by simp[eV]⟩
 |n+1=>by
  obtain⟨h1,h2,h3⟩:=xk p n;unfold eV;split
  ·rename_i h;refine⟨Xu.2 ⟨h1,ZF,fun a ha b hb=>by obtain rfl:=List.mem_singleton.1 hb;exact(h2 a ha).2⟩,fun q hq=>?_,by simp;omega⟩;rcases V3.1 hq with h4|h4
   ·have:=h2 q h4;omega
   ·obtain rfl:=List.mem_singleton.1 h4;omega
  ·exact⟨h1,fun q hq=>by have:=h2 q hq;omega,h3⟩
def fV (p:UtD)(ns:List ZL):ZY:=⟨eV p.vars ns.length,(List.range (aj (aK (ak ns) (eV p.vars ns.length))).toNat).map fun (i:Nat)=>if p.w.length=0 then 0 else (p.w.getD (i % p.w.length) 0).tmod 101⟩
def Rz (p:UtD)(ns:List ZL)(hc:∀x∈ns,1<=x.L):Z8 ns (fV p ns):=by
 obtain⟨h1,h2,h3⟩:=xk p.vars ns.length;refine⟨⟨h1,h2⟩,?_,fun x hx=>?_⟩
 ·have hp:1<=aj (aK (ak ns) (eV p.vars ns.length)):=dY fun c h=>by
   unfold aK at h;obtain⟨q,hq,rfl⟩:=VI.1 h;have:=h2 q hq;obtain⟨x,hx⟩:=ao (l:=ns) (i:=q.toNat) O;rw[bM (dw hx)];exact hc x (an hx)
  show ((List.map _ _).length:Int)=aj (aK (ak ns) (eV p.vars ns.length));rw[VJ,WG];omega
 ·unfold fV at hx;obtain⟨i,_,rfl⟩:=VI.1 hx;split
  ·omega
  ·have h:=Y1 (p.w.getD (i % p.w.length) 0) 101;have h2:=Yb (p.w.getD (i % p.w.length) 0).natAbs (show (101:Int).natAbs > 0 by decide);have h3:(101:Int).natAbs=101:=rfl;rw[h3]at h h2;omega
def RE (p:UtD)(hp:p.Ok)(g:Int)(ns:List ZL)(h5:1<=ns.length/\ns.length<=8)(hc:∀x∈ns,1<=x.L/\x.L<=4)(H:ZJ)(K:ZP->ZJ->Prop)
  (hK:∀v1 v2 H',ZN H H'->aD H.A H' 3 v1 (ints (fV p ns).vars)->aD H.A H' 3 v2 (ints (fV p ns).w)->K (.ret (.agg [v1,v2])) H'):ag prog G0 34 [.agg p.cells,dJ g ns] H K:=by
 refine ag.st (n:=70) (rs:=[.cell 4 90]) func34 ?_;simp only[go_sem,dJ,dX,UtD.cells];obtain⟨H1,hH1⟩:∃H1,H1=ext H [.J 0 93 [.lit (.int .u8 p.vars),.Q p.w.length (qM p.w)],.J 0 81 [.lit (.int .i64 g),.Q ns.length (aG ns)],.J 0 90 [.lit (.slice none 0 0),.lit (.slice none 0 0)],.J 0 90 [.lit (.slice none 0 0),.lit (.slice none 0 0)]]:=⟨_,rfl⟩
 have g0:=de hH1
 have g1:=gE hH1 1 rfl
 have g2:=gE hH1 2 rfl
 have g3:=gE hH1 3 rfl
 have n1:H1.A=H.A+4:=hH1▸rfl
 have o1:ZN H H1:=hH1▸.ext _ _
 rw[<- hH1];clear hH1;obtain⟨cs,hcs⟩:∃cs,cs=ak ns:=⟨_,rfl⟩
 have smk:∀k,k<=ns.length->dV (aK cs (eV p.vars k)):=fun k hk=>by
  obtain⟨h1,h2,h3⟩:=xk p.vars k;refine nu (by rw[iG];omega) fun c h=>?_;unfold aK at h;obtain⟨q,hq,rfl⟩:=VI.1 h;have:=h2 q hq;obtain⟨x,hx⟩:=ao (l:=ns) (i:=q.toNat) O;rw[hcs,bM (dw hx)];exact hc x (an hx)
 refine W.aP 8796093021376 (by rfl) (fun ρ Hx=>∃(k:Nat) (v1:ZK),ρ 7=aa k/\k<=ns.length/\ρ 6=aa (aj (aK cs (eV p.vars k)))/\H1.A<=Hx.A/\(∀id,id<H1.A->id≠H.A+3->Hx.get id=H1.get id)/\Hx.get (H.A+3)=some (.J 0 90 [v1,.lit (.slice none 0 0)])/\aD H1.A Hx 3 v1 (ints (eV p.vars k))) (fun ρ H=>ns.length-(iv (ρ 7)).toNat) ?_ ?_
 ·simp only[go_sem];exact⟨0,_,rfl,O,rfl,g3,.nil⟩
 rintro ρ Hx ⟨k,v1,h7,hk,h6,hnx,hold,hu,hO⟩;refine W.en (fun E=>E 2=.M H.A 0 0 /\ E 3=.M (H.A+1) 0 0 /\ E 4=.M (H.A+2) 0 0 /\ E 5=.M (H.A+3) 0 0 /\ E 6=aa (aj (aK cs (eV p.vars k))) /\ E 7=aa k) (by simp only[go_sem,h6,h7]) fun E ⟨e2,e3,e4,e5,e6,e7⟩=>?_
 refine W.vs ?_;have l0:=ae ((hold _ O O).trans g0);have l1:=ae ((hold _ O O).trans g1);have l3:=ae hu;by_cases hb:(k:Int)<ns.length
 ·obtain⟨x,hx⟩:=ao (l:=ns) (i:=k) O;have hne:=eT hx;have c0:=iS hx;have w1:=Vv ((k:Int)+1) O;obtain⟨r1,hr1⟩:∃r1,p.vars.fdiv (2 ^ (min ((k:Int)).toNat IntKind.u8.bits))=r1:=⟨_,rfl⟩
  obtain⟨r2,hr2⟩:∃r2,IntKind.u8.wrap (((BitVec.ofInt IntKind.u8.bits r1 &&& BitVec.ofInt IntKind.u8.bits 1).toNat:Nat):Int)=r2:=⟨_,rfl⟩
  have s1:∀t o1 o2,bI prog .shr t o1 o2 (.lit (.int .u8 p.vars)) (.lit (.int .i64 (k:Int)))=some (.lit (.int .u8 r1)):=fun t o1 o2=>by rw[vk O,hr1]
  have s2:∀t o1 o2,bI prog .and t o1 o2 (.lit (.int .u8 r1)) (.lit (.int .u8 1))=some (.lit (.int .u8 r2)):=fun t o1 o2=>by rw[vm,hr2]
  have hb8:xj p.vars k=decide (r2=1):=by unfold xj;rw[hr1,hr2]
  have hlen:=xd hO (d:=some (.slice 3)) rfl;rw[r9,aR]at hlen;obtain⟨u1,u2,u3⟩:=xk p.vars k;have hstep:eV p.vars (k+1)=if xj p.vars k=true/\(eV p.vars k).length<3 then eV p.vars k++[(k:Int)] else eV p.vars k:=rfl
  by_cases hr:r2=1
  ·by_cases h3:((eV p.vars k).length:Int)<3
   ·rw[VA ⟨by rw[hb8,V8 hr],O⟩]at hstep;obtain⟨v',H3,hA,hO3,hn3,hp3⟩:=iR (P:=prog) (H:=Hx) (t:=42) (x:=aa k) (n:=Hx.A+1) Tryz.underlying42 Tryz.fE Tryz.fF rfl (by rw[Tryz.gG,aR];omega) hO hnx rfl;simp only[aa]at hA;have nc:∀id,id<H1.A->H3.get id=Hx.get id:=fun id h=>hp3 id O (hO.ne h);have l1j:=ae ((nc _ O).trans ((hold _ O O).trans g1));have l3j:=ae ((nc _ O).trans hu);have hvc:=hO3.cells;have hvo:=hO3.one;have l1u:∀b,(H3.upd (H.A+3) b).V (H.A+1) 0=some (81,[.lit (.int .i64 g),.Q ns.length (aG ns)]):=fun b=>(cH O).trans l1j;have hpr:aj (aK cs (eV p.vars (k+1)))=aj (aK cs (eV p.vars k))*x.L:=by
     rw[hstep];unfold aK;rw[Wk,hcs];show aj (_++[(ak ns).getD ((k:Int)).toNat 0])=_;rw[gQ,Int.toNat_natCast,bM (dw hx)]
    have hps:=(smk (k+1) O).prod;rw[hpr]at hps;have w2:=Vv (aj (aK cs (eV p.vars k))*x.L) O;simp only[go_sem,e2,e3,e5,e6,e7,l0,l1,l3,l3j,hb,s1,s2,hr,hlen,h3,w1,w2,hne,c0,hA,hvc,hvo,l1u];refine⟨by rw[aA];omega,⟨k+1,v',rfl,O,by rw[hpr],by rw[aA];omega,fun id h1 h2=>by rw[af,Vx h2,nc _ h1];exact hold id h1 h2,by rw[af,VA rfl],?_⟩,by rw[h7];simp only[aa,aZ];omega⟩;rw[hstep];have:=hO3.nc (lo':=H1.A) (H':=H3.upd (H.A+3) (.J 0 90 [v',.lit (.slice none 0 0)])) ZI ZI fun id _ h1 _ _ _=>by rw[af,Vx O]
    simpa[ints,aa] using this
   ·rw[Vx O]at hstep;simp only[go_sem,e2,e3,e5,e6,e7,l0,l1,l3,hb,s1,s2,hr,hlen,h3,w1];exact⟨hnx,⟨k+1,v1,rfl,O,by rw[hstep],hnx,hold,hu,by rw[hstep];exact hO⟩,by rw[h7];simp only[aa,aZ];omega⟩
  ·rw[Vx (by rw[hb8,W2 hr];simp)]at hstep;simp only[go_sem,e2,e3,e6,e7,l0,l1,hb,s1,s2,hr,w1];exact⟨hnx,⟨k+1,v1,rfl,O,by rw[hstep],hnx,hold,hu,by rw[hstep];exact hO⟩,by rw[h7];simp only[aa,aZ];omega⟩
 ·have hke:k=ns.length:=O
  simp only[go_sem,e3,e7,l1,hb];rw[hke]at hO e6;obtain⟨R,hR⟩:=VE (smk ns.length O).prod.1;have hR2:=(smk ns.length O).prod.2;rw[hR]at e6 hR2;have hwl:(fV p ns).w=(List.range R).map fun (i:Nat)=>if p.w.length=0 then 0 else (p.w.getD (i % p.w.length) 0).tmod 101:=by
   unfold fV;rw[<- hcs,hR];rfl
  have wget:∀(i:Nat) (x:Int),i<R->(if p.w.length=0 then 0 else (p.w.getD (i % p.w.length) 0).tmod 101)=x->(fV p ns).w[i]?=some x:=fun i x hi hx=>by
   rw[hwl,List.getElem?_map,VT hi,Option.map_some,hx]
  have wlen:(fV p ns).w.length=R:=by rw[hwl];simp
  refine W.aP 590295801562612630272 (by rfl) (fun ρ H2=>∃(i:Nat) (v2:ZK),ρ 8=aa i/\i<=R/\Hx.A<=H2.A/\(∀id,id<Hx.A->id≠H.A+3->H2.get id=Hx.get id)/\H2.get (H.A+3)=some (.J 0 90 [v1,v2])/\aD Hx.A H2 3 v2 (ints ((fV p ns).w.take i))) (fun ρ H=>R-(iv (ρ 8)).toNat) ?_ ?_
  ·simp only[go_sem];exact⟨0,_,rfl,O,hu,.nil⟩
  rintro ρ2 H2 ⟨i,v2,h8,hi,hn2,hold2,hu2,hO2⟩;refine W.en (fun E2=>E2 2=.M H.A 0 0 /\ E2 4=.M (H.A+2) 0 0 /\ E2 5=.M (H.A+3) 0 0 /\ E2 6=aa R /\ E2 8=aa i) (by simp only[go_sem,e2,e4,e5,e6,h8]) fun E2 ⟨f2,f4,f5,f6,f8⟩=>?_
  refine W.vs ?_;have o02:∀id,id<H1.A->id≠H.A+3->H2.get id=H1.get id:=fun id h1 h2=>(hold2 id O h2).trans (hold id h1 h2);have m0:=ae ((o02 _ O O).trans g0);have m3:=ae hu2;by_cases hb2:(i:Int)<R
  ·have w1:=Vv ((i : Int)+1) O;have hlen:=xd hO2 (d:=some (.slice 3)) rfl;rw [r9,aR] at hlen;have tl : ((fV p ns).w.take i).length=i:=(by rw [VK,wlen];omega);have app : ∀ x : Int,(fV p ns).w[i]?=some x→∃ v' H3,cr prog (ext H2 [.J 0 3 [.lit (.int .i64 x)]]) (H2.A+1) 42 42 v2 (.U H2.A 0 0 1 1)=some (v',H3)∧v'.cells=[v']∧v'.one=true∧H3.V (H.A+3) 0=some (90,[v1,v2])∧H2.A≤H3.A ∧
     ∀b,b=.J 0 90 [v1,v']->(∀id,id<Hx.A->id≠H.A+3->(H3.upd (H.A+3) b).get id=Hx.get id)/\(H3.upd (H.A+3) b).get (H.A+3)=some (.J 0 90 [v1,v'])/\aD Hx.A (H3.upd (H.A+3) b) 3 v' (ints ((fV p ns).w.take (i+1))):=fun x hx=>by
    obtain⟨v',H3,hA,hO3,hn3,hp3⟩:=iR (P:=prog) (H:=H2) (t:=42) (x:=aa x) (n:=H2.A+1) Tryz.underlying42 Tryz.fE Tryz.fF rfl (by rw[Tryz.gG,aR];omega) hO2 hn2 rfl;simp only[aa]at hA;have nc:∀id,id<Hx.A->H3.get id=H2.get id:=fun id h=>hp3 id O (hO2.ne h);refine⟨v',H3,hA,hO3.cells,hO3.one,ae ((nc _ O).trans hu2),hn3,fun b hb=>⟨fun id h1 h2=>by rw[af,Vx h2,nc _ h1];exact hold2 id h1 h2,by rw[af,VA rfl,hb],?_⟩⟩;rw[aU hx];have:=hO3.nc (lo':=Hx.A) (H':=H3.upd (H.A+3) b) ZI ZI fun id _ h1 _ _ _=>by rw[af,Vx O]
    simpa[ints,aa] using this
   by_cases hz:(0:Int)<p.w.length
   ·have hzn:¬(p.w.length:Int)=0:=O;have m1:(i:Int).tmod p.w.length=((i % p.w.length:Nat):Int):=(by rw[Wg O];rfl);have m2:=Yb i (show p.w.length > 0 by omega);obtain⟨q,hq⟩:∃q,q=i % p.w.length:=⟨_,rfl⟩
    rw[<- hq]at m1 m2;have hq0:(q:Int) >= 0:=O;have hql:(q:Int)<p.w.length:=O;obtain⟨b,hbg⟩:=ao (l:=p.w) (i:=q) m2;have b8:=hp.2.2 b (an hbg);have hbg':=Ry hbg;have hbne:=aO hbg';unfold I8 at b8;have w4:IntKind.i64.wrap b=b:=Vv _ O;have tb:-9223372036854775808<=b.tmod 101/\b.tmod 101<9223372036854775808:=by
     have h:=Y1 b 101;have h2:=Yb b.natAbs (show (101:Int).natAbs > 0 by decide);have h3:(101:Int).natAbs=101:=rfl;rw[h3]at h h2;omega
    have w5:IntKind.i64.wrap (b.tmod 101)=b.tmod 101:=Vv _ O;obtain⟨v',H3,hA,hvc,hvo,l3,hn3,fin⟩:=app (b.tmod 101) (wget i _ O (by rw[Vx O,<- hq,bM hbg]));simp only[go_sem,f2,f6,f8,m0,hb2,hz];refine W.dr 7 [0,1,0,0,8,24,60] mixed ?_;simp only[go_sem,f2,f5,f8,m0,m3,hzn,m1,hq0,hql,hbg',hbne,w1,w4,hA,hvc,hvo,l3];refine⟨by rw[aA];omega,⟨i+1,v',rfl,O,by rw[aA];omega,(fin _ rfl).1,(fin _ rfl).2.1,(fin _ rfl).2.2⟩,by rw[h8];simp only[aa,aZ];omega⟩
   ·have hzn:p.w.length=0:=O;obtain⟨v',H3,hA,hvc,hvo,l3,hn3,fin⟩:=app 0 (wget i _ O (by rw[VA hzn]));simp only[go_sem,f2,f5,f6,f8,m0,m3,hb2,hz,w1,hA,hvc,hvo,l3];refine⟨by rw[aA];omega,⟨i+1,v',rfl,O,by rw[aA];omega,(fin _ rfl).1,(fin _ rfl).2.1,(fin _ rfl).2.2⟩,by rw[h8];simp only[aa,aZ];omega⟩
  ·have hie:i=R:=O;have m2:=ae ((o02 _ O O).trans g2);have hO1:aD H1.A H2 3 v1 (ints (eV p.vars ns.length)):=hO.nc ZI hn2 fun id _ h1 h3 _ _=>hold2 id h3 O;have v1o:=hO1.one;have v2o:=hO2.one;have v1c:=hO1.cells;have v2c:=hO2.cells;rw[Vy O]at hO2;simp only[go_sem,f4,f5,f6,f8,m2,m3,hb2,v1o,v2o];have k1:=hO1.nc (lo':=H.A) (H':=H2.upd (H.A+2) (.J 0 90 [v1,v2])) O (by rw[aA];omega) fun id _ h1 _ _ _=>by rw[af,Vx O]
   have k2:=hO2.nc (lo':=H.A) (H':=H2.upd (H.A+2) (.J 0 90 [v1,v2])) O (by rw[aA];omega) fun id _ h1 _ _ _=>by rw[af,Vx O]
   refine aq.mk (by rw[aA];omega) (hK v1 v2 _ ⟨by rw[aA];omega,fun id h=>?_⟩ k1 k2);rw[af,Vx O,o02 id O O];exact o1.nb id h
end Go.Proofs
