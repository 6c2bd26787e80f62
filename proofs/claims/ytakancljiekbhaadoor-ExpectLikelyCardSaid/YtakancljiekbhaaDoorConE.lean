/- Own work: contracts. -/
import Derived.Test.YtakancljiekbhaaDoorConC
import Derived.Test.YtakancljiekbhaaDoorConA
import Derived.Test.YtakancljiekbhaaDoorConB
import Derived.Test.YtakancljiekbhaaDoorConD
set_option linter.all false
set_option maxRecDepth 100000
namespace Go.Proofs
open Go.Hx
def jL (i:Nat):Int:=gW.getD i 2
def lh (q:Int):Nat->Int->Nat
 | 0,_=>0
 | f+1,n=>if n % q=0 then lh q f (n / q)+1 else 0
def iL (q:Int):Nat->Int->Int
 | 0,n=>n
 | f+1,n=>if n % q=0 then iL q f (n / q) else n
def lj (n:Int):Nat->Int
 | 0=>n
 | i+1=>iL (jL i) 6 (lj n i)
def gK (n:Int)(i:Nat):Nat:=lh (jL i) 6 (lj n i)
def jj (e:List Int)(t n:Int)(i c:Nat):List Int:=(List.range 18).map fun k=>e.getD k 0+t*((if k<i then gK n k else if k=i then c else 0:Nat):Int)
def mi (e:List Int)(t n:Int):List Int:=(List.range 18).map fun k=>e.getD k 0+t*(gK n k:Int)
def bt:List Int:=List.replicate 18 0
theorem Es {i:Nat}(h:i<18):gW[i]?=some (jL i):=by
 obtain⟨x,hx⟩:=get_of_lt (l:=gW) (i:=i) h;unfold jL;rw[bf hx,hx]
theorem vZ (i:Nat):2<=jL i/\jL i<=61:=by
 unfold jL;rw[Vy];cases h:gW[i]? with
 | none=>exact⟨Int.le_refl _,by decide⟩
 | some x =>
  have:∀ x∈gW,2<=x/\x<=61:=by decide
  exact this x (Vs h)
theorem Et {q m:Int}(hq:2<=q)(hm:1<=m)(h:m % q=0):1<=m / q/\m / q<m/\2*(m / q)<=m:=by
 have e:=Y6 m q;rw[h,Yv]at e;have h1:0<m / q:=by
  rcases Int.lt_or_le 0 (m / q) with h'|h'
  ·exact h'
  ·have:=V8 h' (show (0:Int)<=q by omega);omega
 have h2:2*(m / q)<=q*(m / q):=Wv hq (by omega);omega
theorem QB {q:Int}(hq:2<=q):∀ (f:Nat) (n:Int),1<=n->1<=iL q f n/\iL q f n<=n:=by
 intro f
 induction f with
 | zero=>intro n h;exact⟨h,Int.le_refl _⟩
 | succ f ih =>
  intro n h;unfold iL;split
  ·rename_i h0;have:=Et hq h h0;have:=ih (n / q) (by omega);omega
  ·omega
theorem Eu (q:Int):∀ (f:Nat) (n:Int),lh q f n<=f:=by
 intro f
 induction f with
 | zero=>intro n;exact Nat.le_refl _
 | succ f ih =>
  intro n;unfold lh;split
  ·have:=ih (n / q);omega
  ·omega
theorem QC {n:Int}(h:1<=n/\n<=63):∀ i,1<=lj n i/\lj n i<=63:=by
 intro i
 induction i with
 | zero=>exact h
 | succ i ih =>
  have:=QB (vZ i).1 6 (lj n i) ih.1;show 1<=iL _ _ _/\iL _ _ _<=63;omega
theorem QD (n:Int)(i:Nat):gK n i<=6:=Eu _ _ _
theorem QE {q m:Int}(h:¬ m % q=0)(f:Nat):iL q f m=m/\lh q f m=0:=by
 cases f with
 | zero=>exact⟨rfl,rfl⟩
 | succ f=>unfold iL lh;rw[Vw h,Vw h];exact⟨rfl,rfl⟩
theorem QG {q m:Int}(h:m % q=0)(f:Nat):iL q (f+1) m=iL q f (m / q)/\lh q (f+1) m=lh q f (m / q)+1:=by
 show (if m % q=0 then _ else _)=_/\(if m % q=0 then _ else _)=_;rw[Vx h,Vx h];exact⟨rfl,rfl⟩
theorem nu (e:List Int)(t n:Int)(i c:Nat):(jj e t n i c).length=18:=by simp [jj]
theorem oL {e:List Int}{t n:Int}{i c k:Nat}(h:k<18):(jj e t n i c)[k]?=some (e.getD k 0+t*((if k<i then gK n k else if k=i then c else 0:Nat):Int)):=by
 unfold jj;rw[List.getElem?_map,Wu h];rfl
theorem Ar (e:List Int)(t n:Int):(mi e t n).length=18:=by simp [mi]
theorem As {e:List Int}{t n:Int}{k:Nat}(h:k<18):(mi e t n)[k]?=some (e.getD k 0+t*(gK n k:Int)):=by
 unfold mi;rw[List.getElem?_map,Wu h];rfl
theorem we {a b:List Int}(ha:a.length=18)(hb:b.length=18)(h:∀ k,k<18->a[k]?=b[k]?):a=b:=by
 apply V9;intro k;rcases VR k 18 with h'|h'
 ·exact h k h'
 ·rw[VB (by omega),VB (by omega)]
theorem QH {e:List Int}(he:e.length=18)(t n:Int):jj e t n 0 0=e:=we (nu ..) he fun k hk=>by
 obtain⟨x,hx⟩:=get_of_lt (l:=e) (i:=k) (by omega);rw[oL hk,hx,bf hx];simp
theorem QI {e:List Int}{t n:Int}{i c:Nat}(hi:i<18):(jj e t n i c).set i (e.getD i 0+t*(c:Int)+t)=jj e t n i (c+1):=we (by simp [nu]) (nu ..) fun k hk=>by
 rw[W3,oL hk,oL hk,nu];by_cases h:i=k
 ·subst h;rw[Vx rfl,Vx hi];simp [Xh,Int.add_assoc]
 ·rw[Vw h];have h':¬ k=i:=fun e=>h e.symm;simp [h']
theorem QJ (e:List Int)(t n:Int)(i:Nat):jj e t n i (gK n i)=jj e t n (i+1) 0:=we (nu ..) (nu ..) fun k hk=>by
 rw[oL hk,oL hk];congr 3;by_cases h:k<i
 ·rw[Vx h,Vx (by omega)]
 ·rw[Vw h];by_cases h':k=i
  ·rw[Vx h',Vx (by omega),h']
  ·rw[Vw h',Vw (by omega)];split<;>rfl
theorem QK (e:List Int)(t n:Int):jj e t n 18 0=mi e t n:=we (nu ..) (Ar ..) fun k hk=>by
 rw[oL hk,As hk,Vx hk]
def fQ (e:List Int)(b:Int):Prop:=∀ x∈e,-b<=x/\x<=b
theorem fQ.getD {e:List Int}{b:Int}(h:fQ e b)(hb:0<=b)(k:Nat):-b<=e.getD k 0/\e.getD k 0<=b:=by
 rw[Vy];cases hk:e[k]? with
 | none=>exact⟨by simp;omega,by simpa using hb⟩
 | some x=>exact h x (Vs hk)
theorem Ew {t:Int}(ht:t=1\/t=-1){c:Nat}(hc:c<=6):-6<=t*(c:Int)/\t*(c:Int)<=6:=by
 rcases ht with rfl|rfl<;>omega
theorem fQ.add {e:List Int}{b t:Int}(h:fQ e b)(hb:0<=b)(ht:t=1\/t=-1)(n:Int):fQ (mi e t n) (b+6):=fun x hx=>by
 obtain⟨k,_,rfl⟩:=VN.1 hx;have:=h.getD hb k;have:=Ew ht (QD n k);omega
theorem fQ.zero:fQ bt 0:=fun x hx=>by
 obtain rfl:=Wk hx;omega
set_option maxHeartbeats 1000000 in
theorem Ex (id:Nat)(e:List Int)(n t:Int)(hn:1<=n/\n<=63)(ht:t=1\/t=-1)(he:e.length=18)(hb:fQ e 1000000)(H:AHeap)(hg:H.get id=some (.arr 0 57 (ints e)))(K:ARes->AHeap->Prop)
  (hK:∀ H',H'.get id=some (.arr 0 57 (ints (mi e t n)))->(∀ j,j≠id->H'.get j=H.get j)->H'.next=H.next->K (.ret (.tup [])) H'):ae Tryd.prog G0 39 [.ptr id 0 0,aa n,aa t] H K:=by
 refine ae.bF (n:=30) (rs:=[]) Tryd.func39 rfl rfl rfl (by decide) (by kernel_rfl) (by simp) ?_;have t18:(ints gW).take 18=ints gW:=rfl;simp only[go_sem,Qr,t18];refine⟨by decide,?_⟩;refine W.aG 1073741506 (by rfl) (fun ρ H'=>∃ i:Nat,ρ 9=aa i/\i<=18/\ρ 1=aa (lj n i)/\H'.get id=some (.arr 0 57 (ints (jj e t n i 0)))/\(∀ j,j≠id->H'.get j=H.get j)/\H'.next=H.next) (fun ρ H=>18 - (iv (ρ 9)).toNat) ?_ ?_
 ·simp only[go_sem];exact⟨0,rfl,by omega,rfl,by rw[QH he];exact hg⟩
 rintro ρ H' ⟨i,h9,hi,h1,hgi,hold,hnx⟩;refine W.vs ?_;by_cases hb1:(i:Int)<18;rotate_left
 ·simp only[go_sem,h9,hb1];obtain rfl:i=18:=by omega
  rw[QK]at hgi;exact av.mk (by omega) (hK H' hgi hold hnx)
 have hpi:=Es (i:=i) (by omega);have hpn:¬ gW=[]:=by decide
 have q2:=vZ i;obtain⟨q,hq⟩:∃ q,q=jL i:=⟨_,rfl⟩
 rw[<- hq]at hpi q2;have lr:=QC hn i;have hpl:(i:Int)<gW.length:=by have:gW.length=18:=rfl;omega
 simp only[go_sem,h9,hb1,hpi];refine W.aG 536862722 (by rfl) (fun ρ2 H2=>∃ (f c:Nat) (m:Int),ρ2 1=aa m/\1<=m/\m<2 ^ f/\f<=6/\iL q 6 (lj n i)=iL q f m/\lh q 6 (lj n i)=c+lh q f m/\H2.get id=some (.arr 0 57 (ints (jj e t n i c)))/\(∀ j,j≠id->H2.get j=H.get j)/\H2.next=H.next) (fun ρ2 H=>(iv (ρ2 1)).toNat) ?_ ?_
 ·simp only[go_sem,h1];exact⟨6,0,_,rfl,lr.1,by omega,by omega,rfl,by omega,hgi,hold,hnx⟩
 rintro ρ2 H2 ⟨f,c,m,h1',m1,m2,f6,hr,hc,hg2,hold2,hnx2⟩;refine W.vs ?_;have qz:¬ q=0:=by omega
 have tm:m.tmod q=m % q:=V6 (by omega);have td:m.tdiv q=m / q:=Wa (by omega);by_cases hd:m % q=0
 ·cases f with
  | zero=>omega
  | succ f =>
   obtain⟨s1,s2⟩:=QG hd f;have dr:=Et q2.1 m1 hd;have cl:c+1<=6:=(by have:=Eu q 6 (lj n i);omega);have pg:=oL (e:=e) (t:=t) (n:=n) (i:=i) (c:=c) (k:=i) (by omega);rw[Vw (XD i),Vx rfl]at pg;have pn:=aJ pg;have pl:=nu e t n i c;have pl':(i:Int)<(jj e t n i c).length:=(by omega);have lg:=ak hg2;have b1:=hb.getD (by omega) i;have b2:=Ew ht (c:=c) (by omega);have w1:=Vt (m / q) (by have:=lr;have:m<2 ^ 6:=Int.lt_of_lt_of_le m2 (by have:(2:Nat) ^ (f+1)<=2 ^ 6:=VT (by decide) f6;exact_mod_cast this);omega);have w2:=Vt (e.getD i 0+t*(c:Int)+t) (by rcases ht with rfl|rfl<;>omega);simp only[go_sem,h1',tm,td,hd,qz,w1];refine W.draw 8 [0,0,1,7,15,0,63,1] Tryd.mixed (by kernel_rfl) (by kernel_rfl) ?_;simp only[go_sem,h1',lg,pg,w2];rw[fo (by omega),QI (by omega)];have m3:2*(m / q)<2 ^ f*2:=(by have:(2:Int) ^ (f+1)=2 ^ f*2:=YK ..;omega);refine⟨by omega,by omega,by omega,by rw[aE];omega,⟨f,c+1,m / q,rfl,dr.1,by omega,by omega,by rw[hr,s1],by rw[hc,s2];omega,by rw[ag,Vx rfl],fun j hj=>by rw[ag,Vw hj];exact hold2 j hj,hnx2⟩,by omega⟩
 ·obtain⟨s1,s2⟩:=QE hd f;have w1:=Vt ((i:Int)+1) (by omega);simp only[go_sem,h1',tm,hd,qz,h9,w1];have hcc:c=gK n i:=by unfold gK;rw[<- hq];omega
  have hll:lj n (i+1)=m:=by show iL _ _ _=m;rw[<- hq,hr,s1]
  refine⟨by omega,⟨i+1,rfl,by omega,by rw[hll],by rw[<- QJ,<- hcc];exact hg2,hold2,hnx2⟩,by omega⟩
theorem Ey (i:Nat)(hi:i<18)(H:AHeap)(K:ARes->AHeap->Prop)(hK:K (.ret (aa (jL i))) H):ae Tryd.prog G0 43 [aa i] H K:=by
 have hp:(ints gW)[i]?=some (aa (jL i)):=by rw[eZ,Es hi];rfl
 simp only[gW,ints,List.map_cons,List.map_nil,aa]at hp;have hi':(i:Int)<18:=by omega
 refine ae.bF (n:=6) (rs:=[.tmp 2]) Tryd.func43 rfl rfl rfl (by decide) (by kernel_rfl) (by simp) ?_;simp only[go_sem,hp,hi'];exact av.mk (Nat.le_refl _) hK
theorem QL {S:Nat->Prop}{H:AHeap}{nx:Nat}(l:List Int):Fz S H nx (.agg (ints l)) (.agg (ints l)):=.agg rfl fun i hi _=>by simp only[ints,VF];exact .lit _
theorem At {S:Nat->Prop}{H:AHeap}{nx:Nat}(l:List Int)(v:Value):Fz S H nx (.tup [.agg (ints l),.lit v]) (.tup [.agg (ints l),.lit v]):=by
 refine .tup rfl fun i hi _=>?_
 match i,hi with
 | 0,_=>exact QL l
 | 1,_=>exact .lit _
theorem wo {e:List Int}(h:e.length=18):(ints e).take 18=ints e:=Vz (by rw[aR];omega)
theorem qJ:(ints bt).drop 18=[]:=rfl
def te (g:Int)(e:List Int)(w:Int):List Int:=mi (mi e 1 w) (-1) g
def bV (g:Int)(e ws:List Int):List Int:=ws.foldl (te g) e
theorem QN (g:Int)(e ws:List Int)(w:Int):bV g e (ws++[w])=te g (bV g e ws) w:=by unfold bV;rw[WK];rfl
theorem QO (g:Int)(e a b:List Int):bV g e (a++b)=bV g (bV g e a) b:=by unfold bV;rw[WK]
theorem Aw (g:Int)(ws:List Int):∀ {e:List Int} {b:Int},0<=b->e.length=18->fQ e b->(bV g e ws).length=18/\fQ (bV g e ws) (b+12*ws.length):=by
 induction ws with
 | nil=>intro e b _ h1 h2;exact⟨h1,by simpa [bV] using h2⟩
 | cons w ws ih =>
  intro e b hb h1 h2;have:=ih (e:=te g e w) (b:=b+6+6) (by omega) (Ar ..) ((h2.add hb (.inl rfl) w).add (by omega) (.inr rfl) g);refine⟨this.1,?_⟩;intro x hx;have:=this.2 x hx;rw[List.length_cons];omega
noncomputable def cb (g:Int)(ns:List NodeP)(cs:List Int)(xs:List (List Int)):Int:=if eG g ns=true then (if gZ cs xs=true then (if af ns=cs then 0 else 261) else 250) else 50
def bg (ns:List NodeP)(xs:List (List Int)):List Int:=(xs.map (dc ns)).flatten
noncomputable def iM (g:Int)(ns:List NodeP)(cs:List Int)(xs:List (List Int)):AVal :=
 if cb g ns cs xs≠0 then .tup [.agg (ints bt),aa (cb g ns cs xs)]
 else if ∀ r∈xs,mh r=true then (if ∀ w∈bg ns xs,w≠0 then .tup [.agg (ints (bV g bt (bg ns xs))),aa 0] else .tup [.agg (ints bt),aa 7])
 else .tup [.agg (ints bt),aa 260]
theorem Ax {ns:List NodeP}{xs:List (List Int)}{i:Nat}{r:List Int}(h:xs[i]?=some r):bg ns (xs.take (i+1))=bg ns (xs.take i)++dc ns r:=by
 unfold bg;rw[aL h];simp
theorem tf (ns:List NodeP)(xs:List (List Int)):(bg ns xs).length=xs.length*ns.length:=by
 induction xs with
 | nil=>simp [bg]
 | cons r xs ih =>
  have e:bg ns (r :: xs)=dc ns r++bg ns xs:=rfl;rw[e,List.length_append,ih,oR,List.length_cons,Wc];omega
theorem QP {ns:List NodeP}{xs:List (List Int)}{i v:Nat}{r:List Int}(h:xs[i]?=some r)(hv:v<ns.length)(h0:fm ns r v=0):¬ ∀ w∈bg ns xs,w≠0:=fun hh=>by
 refine hh 0 ?_ rfl;unfold bg;rw[Xg];exact⟨dc ns r,VN.2 ⟨r,Vs h,rfl⟩,by rw[<- h0];exact Vs (qX hv)⟩
theorem QQ (ns:List NodeP)(x:NodeP)(vals:List Int)(hin:ik x.parents ns.length)(hs:eQ (aQ ns x))(hf:bP (af ns) vals)(H:AHeap)(K:ARes->AHeap->Prop)
  (hK:K (.ret (aa (eo (aQ ns x) (aP vals x.parents)))) H):ae Tryd.prog G0 38 [ab (af ns),ab x.parents,ab vals] H K:=by
 have l12:=hs.1;have pl:(aQ ns x).length=x.parents.length:=iU _ _;have vl:(aP vals x.parents).length=x.parents.length:=iU _ _;have hfl:vals.length=ns.length:=by rw[hf.1,bK]
 have at_get:∀ (k:Nat) (q:Int),x.parents[k]?=some q->∃ (j:Nat) (y:NodeP) (b:Int),q=j/\ns[j]?=some y/\vals[j]?=some b/\(aQ ns x)[k]?=some y.card/\(aP vals x.parents)[k]?=some b/\0<=b/\b<y.card:=fun k q hq=>by
  obtain⟨j,rfl,y,hy⟩:=nH (l:=ns) (hin q (Vs hq)).1 (hin q (Vs hq)).2;obtain⟨b,hb⟩:=get_of_lt (l:=vals) (i:=j) (by rw[hfl];exact get_lt hy);have r:=hf.2 j y.card b (cN hy) hb;exact⟨j,y,b,rfl,hy,hb,by rw[show (aQ ns x)[k]?=_ from o0 hq,Int.toNat_natCast,bf (cN hy)],by rw[o0 hq,Int.toNat_natCast,bf hb],r⟩
 have ft:∀ k,bP ((aQ ns x).take k) ((aP vals x.parents).take k):=fun k=>⟨by simp [pl,vl],fun i c b h1 h2=>by
  rw[Xe]at h1 h2;split at h1
  ·rename_i hik;rw[Vx hik]at h2;obtain⟨q,hq⟩:=get_of_lt (l:=x.parents) (i:=i) (by rw[<- pl];exact get_lt h1);obtain⟨j,y,b',_,_,_,a1,a2,a3⟩:=at_get i q hq;rw[h1]at a1;rw[h2]at a2;cases a1;cases a2;exact a3
  ·cases h1⟩
 have hr:∀ k,0<=eu ((aQ ns x).take k) ((aP vals x.parents).take k)/\eu ((aQ ns x).take k) ((aP vals x.parents).take k)<68719476737:=fun k=>by
  rw[qT (ft k).1];have a:=tn (ft k);have b:=(hs.take k).prod;omega
 refine ae.bF (n:=29) (rs:=[.tmp 6]) Tryd.func38 rfl rfl rfl (by decide) (by kernel_rfl) (by simp) ?_;simp only[go_sem];refine W.aG 268432000 (by rfl) (fun ρ H'=>H'=H/\∃ k:Nat,ρ 12=aa k/\k<=x.parents.length/\ρ 7=aa (eu ((aQ ns x).take k) ((aP vals x.parents).take k))) (fun ρ H=>x.parents.length - (iv (ρ 12)).toNat) ?_ ?_
 ·simp only[go_sem];exact⟨0,rfl,by omega,rfl⟩
 rintro ρ H' ⟨rfl,k,h16,hk,h7⟩;refine W.vs ?_;by_cases hb:(k:Int)<x.parents.length
 ·obtain⟨q,hq⟩:=get_of_lt (l:=x.parents) (i:=k) (by omega);obtain⟨j,y,b,rfl,hy,hbv,a1,a2,a3⟩:=at_get k q hq;have hne2:=aJ hq;have hne3:=aJ hbv;have hcy:=cN hy;have hne:=aJ hcy;have hj:(j:Int)<(af ns).length:=by have:=get_lt hcy;omega
  have hj2:(j:Int)<vals.length:=by have:=get_lt hbv;omega
  have w1:=Vt ((k:Int)+1) (by omega);have r1:=hr (k+1);rw[qU a1 a2]at r1;have r0:=hr k;have m0:0<=eu ((aQ ns x).take k) ((aP vals x.parents).take k)*y.card:=WE r0.1 (by omega);have w2:=Vt (eu ((aQ ns x).take k) ((aP vals x.parents).take k)*y.card) (by omega);have w3:=Vt (eu ((aQ ns x).take k) ((aP vals x.parents).take k)*y.card+b) (by omega);simp only[go_sem,h16,hb,hq,hne2];refine W.draw 10 [0,0,0,6,14,31,0,0,192,448] Tryd.mixed (by kernel_rfl) (by kernel_rfl) ?_;simp only[go_sem,h16,h7,hne,hne3,hj,hj2,hbv,hcy,w1,w2,w3];exact⟨⟨k+1,by simp,by omega,by rw[qU a1 a2]⟩,by omega⟩
 ·simp only[go_sem,h16,h7,hb];rw[Vz (by omega),Vz (by omega),qT (by rw[pl,vl])];exact av.mk (Nat.le_refl _) hK
theorem DT (g:Int)(ns:List NodeP)(cs:List Int)(xs:List (List Int)):ko [(g,ns)] cs xs=cb g ns cs xs:=by
 unfold ko cb;simp
theorem Ac (l:List (Int × List NodeP))(cs:List Int)(xs:List (List Int))(hn:∀ p∈l,gi p.2)(hf:ku cs xs)(hl4:l.length<=4)(H:AHeap){id:Nat}(hg:H.get id=some (.arr 0 36 (eg l))):
  ae Tryd.prog G0 27 [.agg [.vec cs.length (ints cs),.vec xs.length (xs.map ab)],.own id 0 0 l.length 2] H fun r H'=>r=.ret (aa (ko l cs xs))/\H'=H:=by
 refine ae.frame (H:=H) (args:=[.agg [.vec cs.length (ints cs),.vec xs.length (xs.map ab)],.own id 0 0 l.length 2]) (args':=[da cs xs,.vec l.length (eg l)]) (v':=aa (ko l cs xs)) aT rfl (fun i hi _=>match i,hi with
  | 0,_=>?_
  | 1,_=>?_) (O9 l cs xs hn hf hl4 cL _ ⟨_,rfl,.lit _⟩)
 ·exact .agg rfl fun i hi _=>match i,hi with
   | 0,_=>.ef _
   | 1,_=>.aB _
 ·refine .frz trivial hg (by rw[vJ]) fun i hi h2 h'=>?_;have hm:∀ c∈eg l,Fz (fun _=>True) H 0 c c:=fun c hc=>by
   unfold eg at hc;obtain⟨q,hq,hcq⟩:=Xg.1 hc;obtain⟨p,_,rfl⟩:=VN.1 hq;rcases List.mem_cons.1 hcq with rfl|hcq
   ·exact .lit _
   ·rw[List.mem_singleton.1 hcq];exact rq _
  have e:(eg l)[0+i]=(eg l)[i]:=by congr 1;omega
  rw[e];exact hm _ (Wh _)
noncomputable def vL (g:Int)(ns:List NodeP)(cs:List Int)(xs:List (List Int))(v:Int):AVal :=
 if cb g ns cs xs≠0 then .tup [ab [],aa (cb g ns cs xs)]
 else if v<0\/v >= ns.length then .tup [ab [],aa 2]
 else if jI ns xs=true then .tup [ab (cJ ns (ns.getD v.toNat ⟨0,[],[]⟩) v.toNat xs),aa 0]
 else .tup [ab [],aa 7]
theorem oC {g:Int}{ns:List NodeP}{cs:List Int}{xs:List (List Int)}(h:cb g ns cs xs=0):NetOk g ns/\DataOk cs xs/\af ns=cs:=by
 unfold cb at h;split at h
 ·rename_i h1;split at h
  ·rename_i h2;split at h
   ·rename_i h3;exact⟨xd.1 h1,Er.1 h2,h3⟩
   ·cases h
  ·cases h
 ·cases h
theorem qy {g:Int}{ns:List NodeP}{cs:List Int}{xs:List (List Int)}(h:cb g ns cs xs=0):ns.length<=6/\xs.length<=40/\∀ r∈xs,r.length=ns.length:=by
 obtain⟨h1,h2,h3⟩:=oC h;have e:ns.length=cs.length:=by rw[<- h3,bK]
 refine⟨by have:=h2.c1;omega,h2.x1,fun r hr=>by rw[(h2.row r hr).1,e]⟩
set_option maxHeartbeats 1000000 in
theorem Pk (g:Int)(ns:List NodeP)(cs:List Int)(xs:List (List Int))(hn:gi ns)(hf:ku cs xs)(v:Int)(H:AHeap)(K:ARes->AHeap->Prop)(hK:K (.ret (vL g ns cs xs v)) H):
  ae Tryd.prog G0 12 [aZ g ns,da cs xs,aa v] H K:=by
 refine ae.clo ⟨_,Tryd.func12,rfl,rfl⟩ fun hcl=>?_;have hn1:=hn.1;have nil:∀ e H',Over H H'->K (.ret (.tup [ab [],aa e])) H->av Tryd.prog G0 H K (.tup [.lit (.slice none 0 0),aa e]) H':=fun e H' ov hk=>av.bR (v':=.tup [ab [],aa e]) aT hcl ov (.tup rfl fun i hi _=>match i,hi with
  | 0,_=>.nil
  | 1,_=>.lit _) hk
 refine ae.bF (n:=35) (rs:=[.tmp 6,.tmp 7]) Tryd.func12 rfl rfl rfl (by decide) (by kernel_rfl) (by simp) ?_;simp only[go_sem,aZ,dk,da,aB];obtain⟨H1,hH1⟩:∃ H1,H1=ext H [.arr 0 36 [aa g,.vec ns.length (au ns)],.arr 0 42 [.vec cs.length (ints cs),.vec xs.length (xs.map ab)],.arr 0 36 [aa g,.vec ns.length (au ns)]]:=⟨_,rfl⟩
 have n1:H1.next=H.next+3:=by rw[hH1];rfl
 have o1:Over H H1:=by rw[hH1];exact .ext _ _
 have g0:H1.get H.next=some (.arr 0 36 [aa g,.vec ns.length (au ns)]):=by rw[hH1];exact dN ..
 have g1:H1.get (H.next+1)=some (.arr 0 42 [.vec cs.length (ints cs),.vec xs.length (xs.map ab)]):=by rw[hH1];exact bC H _ 1 (by simp)
 have g2:H1.get (H.next+2)=some (.arr 0 36 (eg [(g,ns)])):=by rw[hH1];exact bC H _ 2 (by simp)
 show aw _ _ _ _ (ext H [.arr 0 36 [aa g,.vec ns.length (au ns)],.arr 0 42 [.vec cs.length (ints cs),.vec xs.length (xs.map ab)],.arr 0 36 [aa g,.vec ns.length (au ns)]]) _;rw[<- hH1];have l0:=ak g0;have l1:=ak g1;refine aw.clo ((Ac [(g,ns)] cs xs (fun p hp=>by rw[List.mem_singleton.1 hp];exact hn) hf (by simp) H1 g2).mono ?_);rintro rres Hq ⟨hrq,hHq⟩;rw[hHq,hrq,DT];refine⟨trivial,?_⟩;unfold vL at hK;obtain⟨e,he⟩:∃ e,e=cb g ns cs xs:=⟨_,rfl⟩
 rw[<- he]at hK ⊢;by_cases h0:e=0;rotate_left
 ·rw[Vx h0]at hK;simp only[go_sem,h0];exact nil e H1 o1 hK
 rw[Vw (fun hh=>hh h0)]at hK;rw[h0]at he ⊢;obtain⟨hok,hdk,hca⟩:=oC he.symm;obtain⟨h6,h40,hrow⟩:=qy he.symm;by_cases v0:v<0
 ·rw[Vx (.inl v0)]at hK;simp only[go_sem,v0];exact nil 2 H1 o1 hK
 by_cases v1:v >= ns.length
 ·rw[Vx (.inr v1)]at hK;simp only[go_sem,l0,v0,v1];exact nil 2 H1 o1 hK
 rw[Vw (fun hh=>hh.elim v0 v1)]at hK;obtain⟨u,rfl⟩:∃ u:Nat,v=u:=⟨v.toNat,by omega⟩
 obtain⟨x,hx⟩:=get_of_lt (l:=ns) (i:=u) (by omega);rw[Int.toNat_natCast,bf hx]at hK;simp only[go_sem,l0,l1,v0,v1];refine aw.clo (zY g ns hok cs xs (by omega) hrow _ _ ⟨trivial,?_⟩);simp only[go_sem];refine aw.clo (DO (xs.map (dz ns)) (by rw[VD];omega) _ _ ⟨trivial,?_⟩);unfold jI at hK;by_cases hz:(0:Int)∈xs.map (dz ns)
 ·rw[VZ (fun hh=>hh hz),Vw (by decide)]at hK;simp only[go_sem,hz];exact nil 7 H1 o1 hK
 rw[VM hz,Vx rfl]at hK;simp only[go_sem,hz,l0,l1];refine aw.clo (DS g ns hok h6 cs xs (by omega) hrow u x hx _ _ ⟨trivial,?_⟩);simp only[go_sem];exact av.bR (v':=.tup [ab (cJ ns x u xs),aa 0]) aT hcl o1 (.tup rfl fun i hi _=>match i,hi with
  | 0,_=>.ef _
  | 1,_=>.lit _) hK
end Go.Proofs
namespace Go.Proofs.R01
open Go.Hx
section
variable {P:Program} {t:TypeId} {x y:Operand} {k k':IntKind} {a b:Int}
theorem pureRun_bind {α β:Type}{s:Sem α}{f:α->Sem β}{a:α}(h:cF P s=some a):cF P (s >>= f)=cF P (f a):=by
 induction s with
 | pure b=>simp only[cF,Option.some.injEq]at h;subst h;rfl
 | program k ih=>exact ih P h
 | mark m k ih=>exact ih h
 | _=>simp [cF]at h
end
section
variable {P:Program} {G:Nat->Option (List AVal)}
end
end Go.Proofs.R01
namespace Go.Proofs.R01
open Go.Hx
def val:List Int -> Nat
  | [] => 0
  | a :: l => a.toNat + 10000 * val l
end Go.Proofs.R01
namespace Go.Proofs.R01
open Go.Hx
theorem oV {H H' H2:AHeap}{v:AVal}{cs:List AVal}{e:TypeId}(ov:Over H H')(h:aC H.next H' e v cs)(hn:H'.next<=H2.next)(hp:∀ k,k<H'.next->(∀ g n,v≠.own k g 0 n 1)->H2.get k=H'.get k):Over H H2 :=
 ⟨by have:=ov.next;omega,fun id hid=>by
  rw[hp id (by have:=ov.next;omega) fun g n he=>?_,ov.old id hid];rcases h with ⟨h,_⟩|⟨i2,g2,a1,_,h,_⟩
  ·rw[h]at he;cases he
  ·rw[h]at he;have:=AVal.own.inj he;omega⟩
end Go.Proofs.R01
namespace Go.Proofs.R01
open Go.Hx
end Go.Proofs.R01
namespace Go.Proofs.R01
open Go.Hx
theorem fo {l:List Int}{k:Nat}(v:Int)(h:k<l.length):setAt (ints l) k [.lit (.int .i64 v)]=ints (l.set k v):=by
 unfold setAt ints;rw[Ys,YC,Vx (by simpa using h)];simp [aa]
end Go.Proofs.R01
namespace Go.Proofs.R01
open Go.Hx
end Go.Proofs.R01
namespace Go.Proofs.R01
open Go.Hx
end Go.Proofs.R01
namespace Go.Proofs.R01
open Go.Hx
end Go.Proofs.R01
namespace Go.Proofs.R01
open Go.Hx
end Go.Proofs.R01
namespace Go.Proofs
open Go.Hx
def bh (l:List Int):List AVal:=l.map fun n=>.lit (.int .u8 n)
theorem tb {l:List Int}{k:Nat}{a:Int}(h:l[k]?=some a):(bh l)[k]?=some (.lit (.int .u8 a)):=by unfold bh;rw[List.getElem?_map,h];rfl
theorem Qb (l:List Int):(bh l).length=l.length:=by simp [bh]
end Go.Proofs
namespace Go.Hx
variable {P:Program} {H H':AHeap}
theorem qY {t e:TypeId}{lo n m:Nat}{v x:AVal}{cs src:List AVal}{z:List AVal}(ht:P.underlying t=some (.slice e))(hz:P.cellsOf e=1)(hzero:bW P e=some z)(hsrc:cR H 1 x=some (m,src))(hm:src.length=m)(hx:src.all AVal.one=true)
  (hb:(cs.length+m)*P.bytesOf e<=2 ^ 46/\cs.length+m<=2 ^ 46) (ho:aC lo H e v cs) (hlo:lo<=H.next) (hn:n=H.next):
  ∃ v' H',bM P H n t t v x=some (v',H')/\aC lo H' e v' (cs++src)/\H.next<=H'.next/\(∀ k,k<H.next->(∀ g n,v≠.own k g 0 n 1)->H'.get k=H.get k):=by
 subst hm;obtain⟨v',H',hA,h2⟩:=yC (H:=H) (n:=n) ht hz hzero hx hb ho hlo hn;refine⟨v',H',?_,h2⟩;rw[<- hA];have e2:cR H 1 (.vec src.length src)=some (src.length,src):=by unfold cR;simp
 unfold bM;rw[ht];simp only[hz,hsrc,e2]
end Go.Hx
namespace Go.Proofs
open Go.Hx
def U8 (n:Int):Prop:=0<=n/\n<256
theorem Tn (n:Nat)(hn:n<=5)(ord:List Int)(H:AHeap)(K:ARes->AHeap->Prop)(hK:K (.ret (ab (List.replicate n 1))) H):
  ae Tryd.prog G0 48 [.agg [.vec n (bh (List.replicate n 0)),(.lit (.int .u16 0)),.vec ord.length (bh ord)]] H K:=by
 refine ae.clo ⟨_,Tryd.func48,rfl,rfl⟩ fun hcl=>?_;refine ae.bF (n:=28) (rs:=[.tmp 2]) Tryd.func48 rfl rfl rfl (by decide) (by kernel_rfl) (by simp) ?_;simp only[go_sem];obtain⟨H1,hH1⟩:∃ H1,H1=ext H [.arr 0 68 [.vec n (bh (List.replicate n 0)),.lit (.int .u16 0),.vec ord.length (bh ord)]]:=⟨_,rfl⟩
 have l1:=ak (show H1.get H.next=some (.arr 0 68 [.vec n (bh (List.replicate n 0)),.lit (.int .u16 0),.vec ord.length (bh ord)]) by rw[hH1];exact dN ..);have n1:H1.next=H.next+1:=by rw[hH1];rfl
 have o1:Over H H1:=by rw[hH1];exact .ext _ _
 rw[<- hH1];refine W.aG 134217720 (by rfl) (fun ρ H'=>∃ k:Nat,ρ 4=aa k/\k<=n/\Over H1 H'/\aC H1.next H' 3 (ρ 3) (ints (List.replicate k 1))) (fun ρ H=>n - (iv (ρ 4)).toNat) ?_ ?_
 ·simp only[go_sem];exact⟨0,rfl,by omega,.refl _,.nil⟩
 rintro ρ H' ⟨k,h4,hk,ov,h3⟩;refine W.en (fun E=>E 1=.ptr H.next 0 0 /\ E 3=ρ 3 /\ E 4=aa k) (by simp only[go_sem,h4]) fun E ⟨e1,e3,e4⟩=>?_
 refine W.vs ?_;have l2:=(ov.live (g:=0) (by omega:H.next<H1.next)).trans l1;by_cases hb:(k:Int)<n
 ·have h5:(k:Int)<5:=by omega
  have hg:(bh (List.replicate n 0))[k]?=some (.lit (.int .u8 0)):=tb (by rw[WY,Vx (by omega)]);have hne:=aJ hg;obtain⟨v',H2,hA,ov2,hO,hn2,_⟩:=mB 1 ov h3 (by simp;omega);have w1:=Vt ((k:Int)+1) (by omega);have hk0:(k:Int) >= 0:=by omega
  have w5:IntKind.i64.wrap (1+IntKind.i64.wrap (Int.tmod 0 4))=1:=by decide
  simp only[go_sem,e1,e3,e4,l2,hb,h5,hk0,hg,hne,w1,w5,hA];refine⟨by have:=ov2.next;omega,⟨k+1,rfl,by omega,ov2,?_⟩,by rw[h4];simp only[aa,aN];omega⟩;rw[Za];exact hO
 ·simp only[go_sem,e1,e3,e4,l2,hb];obtain rfl:k=n:=by omega
  exact av.bR aT hcl (o1.trans ov) (h3.jb fun i hi=>by omega) hK
structure IsPerm (n:Nat)(p:List Int):Prop where
 len:p.length=n
 nd:p.Nodup
 rng:∀ x∈p,0<=x/\x<n
theorem To {n:Nat}{p:List Int}(h:IsPerm n p)(at':Nat)(ha:at'<=n):IsPerm (n+1) (p.take at'++(n:Int) :: p.drop at'):=by
 have hperm:(p.take at'++(n:Int) :: p.drop at').Perm ((n:Int) :: p):=by
  have:=List.perm_middle (a:=(n:Int)) (l₁:=p.take at') (l₂:=p.drop at')
  rwa [V4]at this
 refine⟨by rw[hperm.length_eq];simp [h.len],(hperm.nodup_iff).2 (XS.2 ⟨fun hm=>?_,h.nd⟩),fun x hx=>?_⟩
 ·have:=h.rng _ hm;omega
 ·rcases List.mem_cons.1 (hperm.mem_iff.1 hx) with rfl|h2
  ·omega
  ·have:=h.rng x h2;omega
def mv (ord:List Int)(k:Nat):Nat:=if k<ord.length then (ord.getD k 0 % ((k:Int)+1)).toNat else 0
def fG (ord:List Int):Nat->List Int
 | 0=>[]
 | k+1=>(fG ord k).take (mv ord k)++(k:Int) :: (fG ord k).drop (mv ord k)
theorem Tp (ord:List Int)(k:Nat):mv ord k<=k:=by
 unfold mv;split
 ·have:=Xf (ord.getD k 0) (show 0<(k:Int)+1 by omega);omega
 ·omega
theorem AS (ord:List Int):∀ n:Nat,IsPerm n (fG ord n)
 | 0=>⟨rfl,by simp [fG],by simp [fG]⟩
 | n+1=>To (AS ord n) _ (Tp ord n)
set_option maxHeartbeats 1000000 in
theorem Tq (n:Nat)(hn:n<=5)(ord:List Int)(hol:(ord.length:Int)<2 ^ 63)(ho8:∀ x∈ord,U8 x)(H:AHeap)(K:ARes->AHeap->Prop)(hK:∀ v H',Over H H'->aC H.next H' 3 v (ints (fG ord n))->K (.ret v) H'):
  ae Tryd.prog G0 21 [.agg [.vec n (bh (List.replicate n 0)),.lit (.int .u16 0),.vec ord.length (bh ord)]] H K:=by
 refine ae.clo ⟨_,Tryd.func21,rfl,rfl⟩ fun hcl=>?_;refine ae.bF (n:=42) (rs:=[.tmp 2]) Tryd.func21 rfl rfl rfl (by decide) (by kernel_rfl) (by simp) ?_;simp only[go_sem];obtain⟨H1,hH1⟩:∃ H1,H1=ext H [.arr 0 68 [.vec n (bh (List.replicate n 0)),.lit (.int .u16 0),.vec ord.length (bh ord)]]:=⟨_,rfl⟩
 have l1:=ak (show H1.get H.next=some (.arr 0 68 [.vec n (bh (List.replicate n 0)),.lit (.int .u16 0),.vec ord.length (bh ord)]) by rw[hH1];exact dN ..);have n1:H1.next=H.next+1:=by rw[hH1];rfl
 have o1:Over H H1:=by rw[hH1];exact .ext _ _
 rw[<- hH1];refine W.aG 2199023255544 (by rfl) (fun ρ H'=>∃ (k:Nat) (p:List Int),ρ 4=aa k/\k<=n/\p=fG ord k/\Over H1 H'/\aC H1.next H' 3 (ρ 3) (ints p)) (fun ρ H=>n - (iv (ρ 4)).toNat) ?_ ?_
 ·simp only[go_sem];exact⟨0,[],rfl,by omega,rfl,.refl _,.nil⟩
 rintro ρ H' ⟨k,p,h4,hk,hpe,ov,h3⟩;have hp:IsPerm k p:=by rw[hpe];exact AS ord k
 refine W.en (fun E=>E 1=.ptr H.next 0 0 /\ E 3=ρ 3 /\ E 4=aa k) (by simp only[go_sem,h4]) fun E ⟨e1,e3,e4⟩=>?_
 refine W.vs ?_;have l2:=(ov.live (g:=0) (by omega:H.next<H1.next)).trans l1;simp only[go_sem,e1,l2];refine aw.clo (Tn n hn ord _ _ ⟨trivial,?_⟩);by_cases hb:(k:Int)<n;rotate_left
 ·simp only[go_sem,WH,e3,e4,hb];obtain rfl:k=n:=by omega
  exact av.mk (o1.trans ov).next (hK _ _ (o1.trans ov) (by rw[<- hpe];exact h3.keep (by omega) (Nat.le_refl _) fun _ _ _ _ _ _=>rfl))
  -- the place
 rcases h3 with ⟨h3n,hpn⟩|⟨oi,og,hoi1,hoi2,h3o,hog⟩
 ·have p0:p=[]:=by cases p with
   | nil=>rfl
   | cons a l=>simp [ints]at hpn
  have pl:=hp.len;rw[p0]at pl;obtain rfl:k=0:=by simpa using pl.symm
  rw[h3n]at e3;have e4':E 4=aa 0:=e4;have hb':(0:Int)<n:=hb;by_cases ho:(0:Int)<ord.length
  ·obtain⟨b,hbg⟩:=get_of_lt (l:=ord) (i:=0) (by omega);have b8:=ho8 b (Vs hbg);have hbg':=tb hbg;have hbne:=aJ hbg';have w2:IntKind.i64.wrap b=b:=Vt b (by have:=b8.1;have:=b8.2;omega);have w1:IntKind.i64.wrap 1=1:=(by decide);have m1:b.tmod 1=0:=(by simp);obtain⟨v2,Hb,hA2,ovB,hO2,hn2,hp2⟩:=mB (H:=H') (H':=H') (l:=[]) (v:=.lit (.slice none 0 0)) (0:Int) (.refl _) aC.nil (by simp);obtain⟨v3,Hc,hA3,hO3,hn3,hp3⟩:=qY (P:=Tryd.prog) (H:=Hb) (t:=39) (n:=Hb.next) (m:=0) (v:=v2) (x:=.lit (.slice none 0 0)) (src:=[]) Tryd.underlying39 Tryd.fh Tryd.fR rfl rfl rfl (by rw[Tryd.gL];exact⟨by decide,by decide⟩) hO2 ovB.next rfl;have ovC:Over H' Hc:=oV ovB hO2 hn3 hp3;have hA1:bM Tryd.prog H' H'.next 39 39 (.lit (.slice none 0 0)) (.lit (.slice none 0 0))=some (.lit (.slice none 0 0),H'):=by
    unfold bM;rw[Tryd.underlying39];simp only[Tryd.fR,Tryd.fh,Option.bind_some,yx,if_true]
   have hO3':aC H1.next Hc 3 v3 (ints [0]):=by
    rw[List.append_nil]at hO3;exact hO3.keep ov.next (Nat.le_refl _) fun _ _ _ _ _ _=>rfl
   simp only[go_sem,WH,e1,e3,e4',l2,hb',ho,hbg',hbne,w1,w2,m1,hA1,hA2,hA3];refine⟨by have:=ovC.next;have:=ov.next;omega,⟨1,[0],rfl,by omega,by simp [fG],ov.trans ovC,hO3'⟩,by rw[h4];simp only[aa,aN];omega⟩
  ·have w1:IntKind.i64.wrap 1=1:=(by decide);obtain⟨v2,Hb,hA2,ovB,hO2,hn2,hp2⟩:=mB (H:=H') (H':=H') (l:=[]) (v:=.lit (.slice none 0 0)) (0:Int) (.refl _) aC.nil (by simp);obtain⟨v3,Hc,hA3,hO3,hn3,hp3⟩:=qY (P:=Tryd.prog) (H:=Hb) (t:=39) (n:=Hb.next) (m:=0) (v:=v2) (x:=.lit (.slice none 0 0)) (src:=[]) Tryd.underlying39 Tryd.fh Tryd.fR rfl rfl rfl (by rw[Tryd.gL];exact⟨by decide,by decide⟩) hO2 ovB.next rfl;have ovC:Over H' Hc:=oV ovB hO2 hn3 hp3;have hA1:bM Tryd.prog H' H'.next 39 39 (.lit (.slice none 0 0)) (.lit (.slice none 0 0))=some (.lit (.slice none 0 0),H'):=by
    unfold bM;rw[Tryd.underlying39];simp only[Tryd.fR,Tryd.fh,Option.bind_some,yx,if_true]
   have hO3':aC H1.next Hc 3 v3 (ints [0]):=by
    rw[List.append_nil]at hO3;exact hO3.keep ov.next (Nat.le_refl _) fun _ _ _ _ _ _=>rfl
   simp only[go_sem,WH,e1,e3,e4',l2,hb',ho,w1,hA1,hA2,hA3];refine⟨by have:=ovC.next;have:=ov.next;omega,⟨1,[0],rfl,by omega,by simp [fG],ov.trans ovC,hO3'⟩,by rw[h4];simp only[aa,aN];omega⟩
 rw[h3o]at e3;have lo:=ak hog;by_cases ho:(k:Int)<ord.length
 ·obtain⟨b,hbg⟩:=get_of_lt (l:=ord) (i:=k) (by omega);have b8:=ho8 b (Vs hbg);have hbg':=tb hbg;have hbne:=aJ hbg';have w0:=Vt ((k:Int)+1) (by omega);have w1:=w0;have w2:IntKind.i64.wrap b=b:=Vt b (by have:=b8.1;have:=b8.2;omega);have m1:b.tmod ((k:Int)+1)=b % ((k:Int)+1):=V6 b8.1;have m2:=Xs b (show (k:Int)+1≠0 by omega);have m3:=Xf b (show 0<(k:Int)+1 by omega);have hz:¬ (k:Int)+1=0:=by omega
  obtain⟨a,hat⟩:=VU m2;have ha:a<=k:=by omega
  have hac:(0:Int)<=(a:Int):=by omega
  have hap:(a:Int)<=(p.length:Int):=by rw[hp.len];omega
  have hak:(0:Int)<=(a:Int)/\(a:Int)<=(p.length:Int):=⟨hac,hap⟩
  have pl:p.length=k:=hp.len;obtain⟨v1,Ha,hA1,hO1,hn1,hp1⟩:=qY (P:=Tryd.prog) (H:=H') (t:=39) (n:=H'.next) (m:=a) (v:=.lit (.slice none 0 0)) (x:=.own oi og 0 a 1) (src:=(ints p).take a) Tryd.underlying39 Tryd.fh Tryd.fR
   (by rw[sk,Vx rfl,lo];simp) (by simp [aR]<;>omega) (V1.2 fun c hc=>by
    obtain⟨z,_,rfl⟩:=VN.1 (VW hc);rfl) (by rw[Tryd.gL];simp<;>omega) aC.nil (Nat.le_refl _) rfl
  have ovA:Over H' Ha:=⟨hn1,fun id hi=>hp1 id hi fun g n h=>by cases h⟩
  rw[List.nil_append,GK]at hO1;obtain⟨v2,Hb,hA2,ovB,hO2,hn2,hp2⟩:=mB (k:Int) ovA hO1 (by simp<;>omega);have hcl2:(ints (p.take a++[(k:Int)])).length<=k+1:=by rw[aR,List.length_append,VC];simp<;>omega
  have hlb:Hb.live oi og=some (3,ints p):=(ovB.live hoi2).trans lo;obtain⟨v3,Hc,hA3,hO3,hn3,hp3⟩:=qY (P:=Tryd.prog) (H:=Hb) (t:=39) (n:=Hb.next) (m:=p.length - a) (v:=v2) (x:=.own oi og a (p.length - a) 1) (src:=(ints p).drop a) Tryd.underlying39 Tryd.fh Tryd.fR
   (by rw[sk,Vx rfl,hlb];simp [Vz,aR]) (by simp [aR]) (V1.2 fun c hc=>by
    obtain⟨z,_,rfl⟩:=VN.1 (WV hc);rfl) (by rw[Tryd.gL];omega) hO2 ovB.next rfl
  have ovC:Over H' Hc:=oV ovB hO2 hn3 hp3;have hla:Ha.live oi og=some (3,ints p):=(ovA.live hoi2).trans lo;rw[GL]at hO3;have hO3':aC H1.next Hc 3 v3 (ints (p.take a++(k:Int) :: p.drop a)):=by
   have:ints (p.take a++[(k:Int)])++ints (p.drop a)=ints (p.take a++(k:Int) :: p.drop a):=(by simp [ints]);rw[this]at hO3;exact hO3.keep ov.next (Nat.le_refl _) fun _ _ _ _ _ _=>rfl
  simp only[go_sem,WH,e1,e3,e4,l2,hb,ho,hbg',hbne,w0,w2,m1,hz,hat,hac,hap,Int.toNat_natCast,lo,hlb,hA1,hA2,hA3];refine⟨by have:=ovC.next;omega,⟨k+1,_,rfl,by omega,by rw[fG,<- hpe,show mv ord k=a by unfold mv;rw[Vx (by omega),bf hbg,hat];rfl],ov.trans ovC,hO3'⟩,by rw[h4];simp only[aa,aN];omega⟩
 ·have w0:=Vt ((k:Int)+1) (by omega);have pl:p.length=k:=hp.len;obtain⟨v1,Ha,hA1,hO1,hn1,hp1⟩:=qY (P:=Tryd.prog) (H:=H') (t:=39) (n:=H'.next) (m:=0) (v:=.lit (.slice none 0 0)) (x:=.own oi og 0 0 1) (src:=(ints p).take 0) Tryd.underlying39 Tryd.fh Tryd.fR
   (by rw[sk,Vx rfl,lo];simp) (by simp [aR]<;>omega) (V1.2 fun c hc=>by
    obtain⟨z,_,rfl⟩:=VN.1 (VW hc);rfl) (by rw[Tryd.gL];simp<;>omega) aC.nil (Nat.le_refl _) rfl
  have ovA:Over H' Ha:=⟨hn1,fun id hi=>hp1 id hi fun g n h=>by cases h⟩
  rw[List.nil_append,GK]at hO1;obtain⟨v2,Hb,hA2,ovB,hO2,hn2,hp2⟩:=mB (k:Int) ovA hO1 (by simp<;>omega);have hcl2:(ints (p.take 0++[(k:Int)])).length<=k+1:=by rw[aR,List.length_append,VC];simp<;>omega
  have hlb:Hb.live oi og=some (3,ints p):=(ovB.live hoi2).trans lo;obtain⟨v3,Hc,hA3,hO3,hn3,hp3⟩:=qY (P:=Tryd.prog) (H:=Hb) (t:=39) (n:=Hb.next) (m:=p.length) (v:=v2) (x:=.own oi og 0 (p.length) 1) (src:=(ints p).drop 0) Tryd.underlying39 Tryd.fh Tryd.fR
   (by rw[sk,Vx rfl,hlb];simp [Vz,aR]) (by simp [aR]) (V1.2 fun c hc=>by
    obtain⟨z,_,rfl⟩:=VN.1 (WV hc);rfl) (by rw[Tryd.gL];omega) hO2 ovB.next rfl
  have ovC:Over H' Hc:=oV ovB hO2 hn3 hp3;have hla:Ha.live oi og=some (3,ints p):=(ovA.live hoi2).trans lo;rw[GL]at hO3;have hO3':aC H1.next Hc 3 v3 (ints (p.take 0++(k:Int) :: p.drop 0)):=by
   have:ints (p.take 0++[(k:Int)])++ints (p.drop 0)=ints (p.take 0++(k:Int) :: p.drop 0):=(by simp [ints]);rw[this]at hO3;exact hO3.keep ov.next (Nat.le_refl _) fun _ _ _ _ _ _=>rfl
  simp only[go_sem,WH,e1,e3,e4,l2,hb,ho,w0,lo,hlb,hA1,hA2,hA3];refine⟨by have:=ovC.next;omega,⟨k+1,_,rfl,by omega,by rw[fG,<- hpe,show mv ord k=0 by unfold mv;rw[Vw (by omega)]],ov.trans ovC,hO3'⟩,by rw[h4];simp only[aa,aN];omega⟩
structure D25 where
 cards:List Int
 cases:List (List Int)
 follow:Int
 miss:List Int
def QM (l:List (List Int)):List AVal:=(l.map bh).flatten
def D25.cells (d:D25):List AVal:=[.vec d.cards.length (bh d.cards),.vec d.cases.length (QM d.cases),.lit (.int .u8 d.follow),.vec d.miss.length (bh d.miss)]
structure D25.Ok (d:D25):Prop where
 cl:(d.cards.length:Int)<2 ^ 63
 c8:∀ x∈d.cards,U8 x
 xl:(d.cases.length:Int)<2 ^ 63
 x8:∀ r∈d.cases,r.length=5/\∀ x∈r,U8 x
 f8:U8 d.follow
 ml:(d.miss.length:Int)<2 ^ 63
 m8:∀ x∈d.miss,U8 x
def Au (n:Nat)(xs:List (List Int)):Prop:=∀ r∈xs,r.length=n
theorem Au.set {n:Nat}{xs:List (List Int)}(h:Au n xs){i:Nat}{r:List Int}(hr:r.length=n):Au n (xs.set i r):=fun q hq=>by
 rcases Wy hq with h'|rfl
 ·exact h q h'
 ·exact hr
end Go.Proofs
namespace Go.Hx
variable {P:Program} {G:Nat->Option (List AVal)}
def AHeap.ig (H:AHeap)(n ob:Nat)(b:Blk):AHeap:=⟨fun id=>if n<=id then none else if id=ob then some b else H.get id,H.next⟩
theorem Tk {H:AHeap}{n ob:Nat}{b:Blk}(h:ob<n):(H.ig n ob b).get ob=some b:=by simp [AHeap.ig,Nat.not_le.2 h]
theorem Tl {H:AHeap}{n ob id:Nat}{b:Blk}(h:id<n)(h2:id≠ob):(H.ig n ob b).get id=H.get id:=by simp [AHeap.ig,Nat.not_le.2 h,h2]
theorem Tm {H:AHeap}(hc:Clo H){n ob g:Nat}{e:TypeId}{cells cells':List AVal}(hob:H.get ob=some (.arr g e cells))(hlt:ob<n)(hl:cells'.length=cells.length)
  (hcell:∀ i (h:i<cells.length) (h':i<cells'.length),Fz (fun id=>n<=id) H H.next cells[i] cells'[i]):FzH (fun id=>n<=id) H (H.ig n ob (.arr g e cells')) where
 gone id hs:=by simp [AHeap.ig,hs]
 kept id b hs hb:=by
  have hbb:=hc.below id b hb;refine⟨hc.lt id b hb,?_⟩;by_cases h:id=ob
  ·subst h;rw[hob]at hb;cases hb;exact⟨.arr g e cells',by simp [AHeap.ig,hs],rfl,rfl,hl,hcell⟩
  ·refine⟨b,by simp [AHeap.ig,hs,h,hb],?_⟩;cases b with
   | rsv=>trivial
   | mp=>rfl
   | arr g e cells=>exact⟨rfl,rfl,rfl,fun i h _=>.dead (hbb i h)⟩
   | loop st pend n env ps asg body=>exact⟨rfl,rfl,rfl,rfl,rfl,rfl,rfl,fun t ht=>.dead (hbb t ht)⟩
 none id hs hb:=by
  by_cases h:id=ob
  ·subst h;rw[hob]at hb;cases hb
  ·simp [AHeap.ig,hs,h,hb]
theorem dD.ig (hG:gE G){s:St}{n ob g:Nat}{e:TypeId}{cells cells':List AVal}(hob:s.H.get ob=some (.arr g e cells))(hlt:ob<n)(hl:cells'.length=cells.length)
  (hcell:∀ i (h:i<cells.length) (h':i<cells'.length),Fz (fun id=>n<=id) s.H s.H.next cells[i] cells'[i]):dD P G s ⟨s.ρ,s.H.ig n ob (.arr g e cells')⟩:=by
 intro n' wb Γ a w hs;exact dD.freeze (s:=s) (s':=⟨s.ρ,s.H.ig n ob (.arr g e cells')⟩) hG (Tm hs.heap.clo hob hlt hl hcell) (fun t=>.dead (hs.env t).p6) n' wb Γ a w hs
theorem jE.upd {lo:Nat}{H:AHeap}{e1 e0:TypeId}{v:AVal}{rows:List (List AVal)}(h:jE lo H e1 e0 v rows){k:Nat}{b:Blk}(hk:k<lo):jE lo (H.upd k b) e1 e0 v rows:=by
 obtain⟨cs,c1,c2,c3⟩:=h;refine⟨cs,c1.keep (Nat.le_refl _) (by rw[aE];exact Nat.le_refl _) fun id _ h1 _ _ _=>by rw[ag,Vw (by omega)],c2,fun j r c hr hc=>(c3 j r c hr hc).keep (Nat.le_refl _) (by rw[aE];exact Nat.le_refl _) fun id _ h1 _ _ _=>by rw[ag,Vw (by omega)]⟩
end Go.Hx
namespace Go.Proofs
open Go.Hx
theorem oS {l:List Int}(h:∀ x∈l,0<=x):0<=l.sum:=by
 induction l with
 | nil=>simp
 | cons a l ih =>
  rw[V5];have:=h a (by simp);have:=ih fun x hx=>h x (by simp [hx]);omega
theorem FM {l:List Int}{i:Nat}{a b:Int}(h:l[i]?=some a):(l.set i b).sum=l.sum - a+b:=by
 induction l generalizing i with
 | nil=>simp at h
 | cons x l ih =>
  cases i with
  | zero=>simp at h;subst h;simp only[List.set_cons_zero,V5];omega
  | succ i =>
   simp only[List.set_cons_succ,V5];rw[ih (by simpa using h)];omega
theorem Tr {l:List Int}{b:Int}(h:∀ x∈l,0<=x/\x<=b):l.sum<=b*l.length:=by
 induction l with
 | nil=>simp
 | cons a l ih =>
  rw[V5,List.length_cons];have:=(h a (by simp)).2;have:=ih fun x hx=>h x (by simp [hx]);rw[show b*((l.length+1:Nat):Int)=b*l.length+b by rw[Yu,Xh];simp];omega
def wF (n:Nat)(bs:List Int)(from':Int):List Int:=(List.range n).map fun (k:Nat)=>if bs.length=0 then 0 else bs.getD ((from'+(k:Int)) % (bs.length:Int)).toNat 0 % 8
theorem FN (n:Nat)(bs:List Int)(from':Int):(wF n bs from').length=n:=by simp [wF]
theorem FO {n:Nat}(bs:List Int)(from':Int){k:Nat}(h:k<n):(wF n bs from')[k]?=some (if bs.length=0 then 0 else bs.getD ((from'+(k:Int)) % (bs.length:Int)).toNat 0 % 8):=by
 unfold wF;rw[List.getElem?_map,Wu h];rfl
theorem Tt (n:Nat)(bs:List Int)(from':Int):∀ x∈wF n bs from',0<=x/\x<=7:=fun x hx=>by
 unfold wF at hx;obtain⟨k,_,rfl⟩:=VN.1 hx;split<;>omega
def wO (g s:Int)(st:List Int × Nat)(m:Nat):List Int × Nat:=if 0<st.1.getD m 0 then (st.1.set m (g*st.1.getD m 0 / s),m) else st
def jq (g:Int)(c:List Int)(m:Nat):List Int × Nat:=(List.range m).foldl (wO g c.sum) (c,0)
theorem FQ (g:Int)(c:List Int)(m:Nat):jq g c (m+1)=wO g c.sum (jq g c m) m:=by unfold jq;rw[WI,WK];rfl
def nL (g:Int)(n:Nat)(bs:List Int)(from':Int):List Int:=(jq g (wF n bs from') n).1.set (jq g (wF n bs from') n).2 ((jq g (wF n bs from') n).1.getD (jq g (wF n bs from') n).2 0+(g - (jq g (wF n bs from') n).1.sum))
structure RInv (g:Int)(c:List Int)(m:Nat)(d:List Int)(last:Nat):Prop where
 dl:d.length=c.length
 d0:∀ x∈d,0<=x
 dd:d.drop m=c.drop m
 dg:(d.take m).sum<=g
 ds:c.sum*(d.take m).sum<=g*(c.take m).sum
 la:last<c.length
theorem FR {g:Int}{c:List Int}(hg:1<=g)(hc:∀ x∈c,0<=x)(hl:0<c.length):∀ m,m<=c.length->RInv g c m (jq g c m).1 (jq g c m).2:=by
 intro m
 induction m with
 | zero=>intro _;exact⟨rfl,hc,rfl,by simp;omega,by simp,hl⟩
 | succ m ih =>
  intro hm;obtain⟨hdl,hd0,hdd,hdg,hds,hla⟩:=ih (by omega);rw[FQ];generalize jq g c m=st at *
  obtain⟨d,last⟩:=st;simp only at hdl hd0 hdd hdg hds hla;obtain⟨x,hcx⟩:=get_of_lt (l:=c) (i:=m) (by omega);have hx0:=hc x (Vs hcx);have hdx:d[m]?=some x:=by
   have h1:(d.drop m)[0]?=d[m]?:=(by rw[WN];rfl);have h2:(c.drop m)[0]?=c[m]?:=(by rw[WN];rfl);rw[<- h1,hdd,h2,hcx]
  have hdd':d.drop (m+1)=c.drop (m+1):=by
   have:=congrArg (List.drop 1) hdd
   rwa [XG,XG]at this
  have hct:(c.take (m+1)).sum=(c.take m).sum+x:=by rw[aL hcx];simp
  have hcs:(c.take (m+1)).sum+(c.drop (m+1)).sum=c.sum:=by rw[<- XR,V4]
  have hcd0:=oS (l:=c.drop (m+1)) fun y hy=>hc y (WV hy);have hc00:=oS (l:=c.take m) fun y hy=>hc y (VW hy);have hd00:=oS (l:=d.take m) fun y hy=>hd0 y (VW hy);unfold wO;rw[bf hdx];by_cases hx:0<x
  ·rw[Vx hx];have gx:0<=g*x:=WE (by omega) hx0;have y0:0<=g*x / c.sum:=Xt gx (by omega);have y2:c.sum*(g*x / c.sum)<=g*x:=Ze (by omega);have dt:((d.set m (g*x / c.sum)).take (m+1)).sum=(d.take m).sum+g*x / c.sum:=by
    rw[aL (VI (by omega)),XL (Nat.le_refl _)];simp
   have hs2:c.sum*((d.take m).sum+g*x / c.sum)<=g*(c.take (m+1)).sum:=by
    rw[Xh,hct,Xh];omega
   have hle:(d.take m).sum+g*x / c.sum<=g:=by
    have h1:g*(c.take (m+1)).sum<=g*c.sum:=V8 (by omega) (by omega);have h2:c.sum*((d.take m).sum+g*x / c.sum)<=c.sum*g:=(by rw[WZ c.sum g];omega);exact YV h2 (by omega)
   refine⟨by simp [hdl],fun y hy=>?_,?_,by dsimp only;rw[dt];exact hle,by dsimp only;rw[dt];exact hs2,by dsimp only;omega⟩
   ·rcases Wy hy with h|h
    ·exact hd0 y h
    ·omega
   ·rw[<- hdd',List.drop_set_of_lt (by omega)]
  ·rw[Vw hx];have x0:x=0:=(by omega);have dt:(d.take (m+1)).sum=(d.take m).sum:=(by rw[aL hdx,x0];simp);rw[x0,Yv]at hct;exact⟨hdl,hd0,hdd',by dsimp only;rw[dt];exact hdg,by dsimp only;rw[dt,hct];exact hds,hla⟩
theorem Tu {g:Int}{n:Nat}(hg:1<=g)(hn:1<=n)(bs:List Int)(from':Int):kG g n (nL g n bs from'):=by
 have hw:=FN n bs from';have I:=FR (g:=g) (c:=wF n bs from') hg (fun x hx=>(Tt n bs from' x hx).1) (by omega) n (by omega);unfold nL;generalize jq g (wF n bs from') n=st at *
 obtain⟨d,last⟩:=st;obtain⟨hdl,hd0,hdd,hdg,hds,hla⟩:=I;dsimp only at hdl hd0 hdd hdg hds hla ⊢;obtain⟨y,hy⟩:=get_of_lt (l:=d) (i:=last) (by omega);have y0:=hd0 y (Vs hy);rw[bf hy];rw[Vz (by omega)]at hdg;have hs:(d.set last (y+(g - d.sum))).sum=g:=by rw[FM hy];omega
 have h0:∀ w∈d.set last (y+(g - d.sum)),0<=w:=fun w hw=>by
  rcases Wy hw with h|h
  ·exact hd0 w h
  ·omega
 exact⟨by simp [hdl,hw],fun w hw=>⟨h0 w hw,by have:=rp h0 w hw;omega⟩,hs⟩
set_option maxHeartbeats 2000000 in
theorem Tv (g:Int)(n:Nat)(hg:1<=g/\g<=60)(hn:1<=n/\n<=4)(bs:List Int)(hbl:(bs.length:Int)<2 ^ 63)(hb8:∀ x∈bs,U8 x)(from':Int)(hf:0<=from'/\from'<=1000000)(H:AHeap)(K:ARes->AHeap->Prop)(hK:∀ v H',Over H H'->aC H.next H' 3 v (ints (nL g n bs from'))->K (.ret v) H'):
  ae Tryd.prog G0 24 [aa g,aa n,.vec bs.length (bh bs),aa from'] H K:=by
 refine ae.clo ⟨_,Tryd.func24,rfl,rfl⟩ fun hcl=>?_;refine ae.bF (n:=84) (rs:=[.tmp 8]) Tryd.func24 rfl rfl rfl (by decide) (by kernel_rfl) (by simp) ?_;simp only[go_sem];refine⟨by omega,?_⟩;refine W.aG 35184371960832 (by rfl) (fun ρ H'=>∃ (k:Nat) (c:List Int),ρ 11=aa k/\k<=n/\c.length=n/\(∀ x∈c,0<=x/\x<=7)/\(∀ j x,k<=j->c[j]?=some x->x=0)/\(∀ j,j<k->c[j]?=(wF n bs from')[j]?)/\ρ 10=aa c.sum/\OwnI H H' H.next c) (fun ρ H=>n - (iv (ρ 11)).toNat) ?_ ?_
 ·simp only[go_sem];refine⟨0,List.replicate n 0,rfl,by omega,by simp,fun x hx=>?_,fun j x _ hx=>?_,fun j hj=>by omega,by simp,?_⟩
  ·have:=Wk hx;omega
  ·exact Wk (Vs hx)
  ·exact .new [] _
 rintro ρ H' ⟨k,c,h11,hk,hcl',hc7,hc0,hcw,h10,ho⟩;refine W.en (fun E=>E 0=aa g /\ E 1=aa n /\ E 2=.vec bs.length (bh bs) /\ E 3=aa from' /\ E 9=.own H.next 0 0 n 1 /\ E 10=aa c.sum /\ E 11=aa k) (by simp only[go_sem,h10,h11]) fun E ⟨e0,e1,e2,e3,e9,e10,e11⟩=>?_
 refine W.vs ?_;have lN:=ho.live;have hs0:=oS fun x hx=>(hc7 x hx).1;have hs1:=Tr hc7;by_cases hb:(k:Int)<n
 ·have hck:c[k]?=some 0:=by
   obtain⟨a,ha⟩:=get_of_lt (l:=c) (i:=k) (by omega);rw[ha,hc0 k a (Nat.le_refl _) ha]
  have hcne:=aJ hck;have hk0:(k:Int) >= 0:=by omega
  have w1:=Vt ((k:Int)+1) (by omega);by_cases hz:(0:Int)<bs.length
  ·have hzn:¬ (bs.length:Int)=0:=(by omega);have w2:=Vt (from'+k) (by omega);have m1:(from'+(k:Int)).tmod bs.length=(from'+k) % bs.length:=V6 (by omega);have m2:=Xs (from'+k) hzn;have m3:=Xf (from'+k) hz;obtain⟨q,hq⟩:=VU m2;have hq0:(q:Int) >= 0:=(by omega);have hql:(q:Int)<bs.length:=(by omega);obtain⟨b,hbg⟩:=get_of_lt (l:=bs) (i:=q) (by omega);have b8:=hb8 b (Vs hbg);have hbg':=tb hbg;have hbne:=aJ hbg';have t1:b.tmod 8=b % 8:=V6 b8.1;have w3:IntKind.u8.wrap (b % 8)=b % 8:=Y0 _ (by omega);have w4:IntKind.i64.wrap (b % 8)=b % 8:=Vt _ (by omega);have w5:=Vt (c.sum+b % 8) (by omega);have hsg:(setAt (ints c) k [.lit (.int .i64 (b % 8))])[k]?=some (.lit (.int .i64 (b % 8))):=by
    rw[fo (by omega),eZ,VI (by omega)];rfl
   simp only[go_sem,hsg,e1,e2,e3,e9,e10,e11,hb,hz,hzn,w1,w2,m1,hq,hq0,hql,hbg',hbne,t1,w4,w5,hk0,lN];refine⟨by omega,by have:=ho.hi;rw[aE];omega,⟨k+1,c.set k (b % 8),rfl,by omega,by simp [hcl'],fun x hx=>?_,fun j x hj hx=>?_,fun j hj=>?_,by rw[FM hck,Int.sub_zero],ho.store (by omega) _⟩,by rw[h11];simp only[aa,aN];omega⟩
   ·rcases Wy hx with h|h
    ·exact hc7 x h
    ·omega
   ·rw[VS (by omega)]at hx;exact hc0 j x (by omega) hx
   ·by_cases hjk:j=k
    ·subst hjk;rw[VI (by omega),FO bs from' (by omega),Vw (by omega),hq,Int.toNat_natCast,bf hbg]
    ·rw[VS (by omega)];exact hcw j (by omega)
  ·have w5:=Vt (c.sum+0) (by omega);rw[Yv]at w5;simp only[go_sem,e1,e2,e9,e10,e11,hb,hz,w1,w5,Yv,hk0,hck,lN];refine⟨by have:=ho.hi;omega,⟨k+1,c,rfl,by omega,hcl',hc7,fun j x hj hx=>hc0 j x (by omega) hx,fun j hj=>by
    by_cases hjk:j=k
    ·subst hjk;rw[hck,FO bs from' (by omega),Vx (by omega)]
    ·exact hcw j (by omega),rfl,ho⟩,by rw[h11];simp only[aa,aN];omega⟩
 ·obtain rfl:k=n:=by omega
  simp only[go_sem,e1,e11,hb];have hcwF:c=wF k bs from':=by
   apply V9;intro j;rcases VR j k with h|h
   ·exact hcw j h
   ·rw[VB (by omega),VB (by rw[FN];exact h)]
  have hRI:=fun m (hm:m<=k)=>FR (g:=g) (c:=c) hg.1 (fun x hx=>(hc7 x hx).1) (by omega) m (by omega);refine W.aG 18889465861109836705792 (by rfl) (fun ρ H2=>∃ (m last:Nat) (d:List Int),ρ 14=aa m/\m<=k/\jq g c m=(d,last)/\ρ 12=aa (g - (d.take m).sum)/\ρ 13=aa last/\H'.next<=H2.next/\OwnI H H2 H.next d) (fun ρ H=>k - (iv (ρ 14)).toNat) ?_ ?_
  ·simp only[go_sem,e0];exact⟨0,0,c,rfl,by omega,rfl,by simp,rfl,ho⟩
  rintro ρ2 H2 ⟨m,last,d,h14,hm,hrf,h12,h13,hnn,hod⟩;obtain⟨hdl,hd0,hdd,hdg,hds,hlast⟩:RInv g c m d last:=by have:=hRI m hm;rw[hrf]at this;exact this
  rw[hcl']at hdl hlast;have hrs:=FQ g c m;rw[hrf]at hrs;unfold wO at hrs;dsimp only at hrs;refine W.en (fun E2=>E2 0=aa g /\ E2 1=aa k /\ E2 9=.own H.next 0 0 k 1 /\ E2 10=aa c.sum /\ E2 12=aa (g - (d.take m).sum) /\ E2 13=aa last /\ E2 14=aa m) (by simp only[go_sem,e0,e1,e9,e10,h12,h13,h14]) fun E2 ⟨f0,f1,f9,f10,f12,f13,f14⟩=>?_
  refine W.vs ?_;have lN2:=hod.live;by_cases hb2:(m:Int)<k
  ·obtain⟨x,hcx⟩:=get_of_lt (l:=c) (i:=m) (by omega);have hx7:=hc7 x (Vs hcx);have hdx:d[m]?=some x:=by
    have h1:(d.drop m)[0]?=d[m]?:=(by rw[WN];rfl);have h2:(c.drop m)[0]?=c[m]?:=(by rw[WN];rfl);rw[<- h1,hdd,h2,hcx]
   have hdne:=aJ hdx;have hm0:(m:Int) >= 0:=(by omega);have w1:=Vt ((m:Int)+1) (by omega);have hdd':d.drop (m+1)=c.drop (m+1):=by
    have:=congrArg (List.drop 1) hdd
    rwa [XG,XG]at this
   have hct:(c.take (m+1)).sum=(c.take m).sum+x:=(by rw[aL hcx];simp);have hcs:(c.take (m+1)).sum+(c.drop (m+1)).sum=c.sum:=(by rw[<- XR,V4]);have hcd0:=oS (l:=c.drop (m+1)) fun y hy=>(hc7 y (WV hy)).1;have hc00:=oS (l:=c.take m) fun y hy=>(hc7 y (VW hy)).1;have hd00:=oS (l:=d.take m) fun y hy=>hd0 y (VW hy);by_cases hx:0<x
   ·have hsz:¬ c.sum=0:=(by omega);have gx:0<=g*x:=WE (by omega) hx7.1;have gx2:g*x<=60*7:=W7 hg.2 hx7.2 hx7.1 (by omega);have w2:=Vt (g*x) (by omega);have t1:(g*x).tdiv c.sum=g*x / c.sum:=Wa gx;have y0:0<=g*x / c.sum:=Xt gx hs0;have y1:g*x / c.sum<=g*x:=XK _ gx;have y2:c.sum*(g*x / c.sum)<=g*x:=Ze (by omega);have w3:=Vt (g*x / c.sum) (by omega);have w4:=Vt (g - (d.take m).sum - g*x / c.sum) (by omega);have hsg:(setAt (ints d) m [.lit (.int .i64 (g*x / c.sum))])[m]?=some (.lit (.int .i64 (g*x / c.sum))):=by
     rw[fo (by omega),eZ,VI (by omega)];rfl
    have dt:((d.set m (g*x / c.sum)).take (m+1)).sum=(d.take m).sum+g*x / c.sum:=by
     rw[aL (VI (by omega)),XL (Nat.le_refl _)];simp
    have hs2:c.sum*((d.take m).sum+g*x / c.sum)<=g*(c.take (m+1)).sum:=by
     rw[Xh,hct,Xh];omega
    have hle:(d.take m).sum+g*x / c.sum<=g:=by
     have h1:g*(c.take (m+1)).sum<=g*c.sum:=V8 (by omega) (by omega);have h2:c.sum*((d.take m).sum+g*x / c.sum)<=c.sum*g:=(by rw[WZ c.sum g];omega);exact YV h2 (by omega)
    simp only[go_sem,hsg,f0,f1,f9,f10,f12,f13,f14,hb2,hx,hsz,w1,w2,t1,w3,w4,hm0,hdx,lN2];rw[bf hdx,Vx hx]at hrs;exact⟨by omega,by rw[aE];exact hnn,⟨m+1,m,d.set m (g*x / c.sum),rfl,by omega,hrs,by rw[dt];congr 2;omega,rfl,by rw[aE];exact hnn,hod.store (by omega) _⟩,by rw[h14];simp only[aa,aN];omega⟩
   ·have x0:x=0:=(by omega);have w4:=Vt (g - (d.take m).sum) (by omega);simp only[go_sem,f1,f9,f12,f13,f14,hb2,x0,w1,w4,hm0,hdx,Int.sub_zero,lN2];have dt:(d.take (m+1)).sum=(d.take m).sum:=(by rw[aL hdx,x0];simp);rw[x0,Yv]at hct;rw[bf hdx,Vw hx]at hrs;exact⟨hnn,⟨m+1,last,d,rfl,by omega,hrs,by rw[dt],rfl,hnn,hod⟩,by rw[h14];simp only[aa,aN];omega⟩
  ·obtain rfl:m=k:=(by omega);obtain⟨y,hy⟩:=get_of_lt (l:=d) (i:=last) (by omega);have hyne:=aJ hy;have hl0:(last:Int) >= 0:=(by omega);have hlk:(last:Int)<m:=(by omega);have y0:=hd0 y (Vs hy);rw[Vz (by omega)]at hdg hds h12 f12;have hyle:=rp hd0 y (Vs hy);have w1:=Vt (y+(g - d.sum)) (by omega);have hle:last+1<=d.length:=(by omega);simp only[go_sem,f1,f9,f12,f13,f14,hb2,hl0,hlk,hy,lN2,w1];refine⟨hle,?_⟩;have hrow:nL g m bs from'=d.set last (y+(g - d.sum)):=by
    unfold nL;rw[<- hcwF,hrf];dsimp only;rw[bf hy]
   rw[hrow]at hK;have ho2:=hod.store (k:=last) (by omega) (y+(g - d.sum));refine av.mk ho2.ov.next (hK _ _ ho2.ov (.inr ⟨_,0,ho2.lo,ho2.hi,?_,ho2.get⟩));rw[aR,VG,hdl]
structure DrP where
 card:Int
 par:Int
 w:List Int
def DrP.cells (x:DrP):List AVal:=[.lit (.int .u8 x.card),.lit (.int .u8 x.par),.vec x.w.length (bh x.w)]
def fH (l:List DrP):List AVal:=(l.map DrP.cells).flatten
def DrP.Ok (x:DrP):Prop:=U8 x.card/\U8 x.par/\(x.w.length:Int)<2 ^ 63/\∀ b∈x.w,U8 b
def AT (g:Int)(ps:List DrP)(ord:List Int):AVal:=.agg [.lit (.int .u8 g),.vec ps.length (fH ps),.vec ord.length (bh ord)]
theorem FS {l:List DrP}{i:Nat}{x:DrP}(h:l[i]?=some x):((fH l).drop (i*3)).take 3=[.lit (.int .u8 x.card),.lit (.int .u8 x.par),.vec x.w.length (bh x.w)]:=qO (f:=DrP.cells) (z:=3) (fun _=>rfl) l i x h
theorem FT (l:List DrP):(fH l).length=l.length*3:=nF (f:=DrP.cells) (fun _=>rfl) l
def NodeP.cD (x:NodeP):List AVal:=if x.rows=[] then [aa x.card,.lit (.slice none 0 0),.lit (.slice none 0 0)] else [aa x.card,ab x.parents,aB x.rows]
def bJ (l:List NodeP):List AVal:=(l.map NodeP.cD).flatten
theorem kE (x:NodeP):x.cD.length=3:=by unfold NodeP.cD;split<;>rfl
theorem FU (l:List NodeP):(bJ l).length=l.length*3:=nF (f:=NodeP.cD) kE l
theorem FV {l:List NodeP}{i:Nat}{x:NodeP}(h:l[i]?=some x):(bJ l)[i*3]?=some (aa x.card):=by
 have:=lp (f:=NodeP.cD) (z:=3) kE l i 0 x h (by omega);rw[Nat.add_zero]at this;rw[show (bJ l)[i*3]?=_ from this];unfold NodeP.cD;split<;>rfl
theorem Tw {l:List NodeP}(h:∀ x∈l,x.rows≠[]):bJ l=au l:=by
 unfold bJ au;congr 1;exact V7 fun x hx=>Vw (h x hx)
theorem AU {α:Type}{f:α->List AVal}{z:Nat}(hz:∀ a,(f a).length=z):∀ (l:List α) (i:Nat) (a:α),i<l.length->((l.set i a).map f).flatten=((l.map f).flatten).take (i*z)++f a++((l.map f).flatten).drop (i*z+z):=by
 intro l
 induction l with
 | nil=>intro i a h;simp at h
 | cons b l ih =>
  intro i a h;cases i with
  | zero=>simp [hz]
  | succ i =>
   have hb:=hz b;simp only[List.set_cons_succ,List.map_cons,List.flatten_cons];rw[ih i a (by simpa using h),show (i+1)*z=z+i*z by rw[Wc];omega,List.take_append,List.drop_append,hb];rw[Vz (l:=f b) (i:=z+i*z) (by omega),Xx (l:=f b) (i:=z+i*z+z) (by omega),show z+i*z - z=i*z by omega,show z+i*z+z - z=i*z+z by omega];simp
theorem FW {S:Nat->Prop}{H:AHeap}{nx:Nat}{A B:List AVal}{i:Nat}{a b:AVal}(h:∀ j (h:j<A.length) (h':j<B.length),Fz S H nx A[j] B[j])(hab:Fz S H nx a b):∀ j (h:j<(A.set i a).length) (h':j<(B.set i b).length),Fz S H nx (A.set i a)[j] (B.set i b)[j]:=by
 intro j h1 h2;rw[XJ,XJ];split
 ·exact hab
 ·exact h j (by simpa using h1) (by simpa using h2)
theorem qZ {S:Nat->Prop}{H:AHeap}{nx:Nat}(l:List (List Int)):Fz S H nx (aB l) (aB l):=.vec rfl fun i hi _=>by simp only[VF];exact .ef _
theorem Tx {S:Nat->Prop}{H:AHeap}{nx:Nat}(x:NodeP):∀ c∈x.cD,Fz S H nx c c:=by
 intro c hc;unfold NodeP.cD at hc;split at hc
 ·simp only[List.mem_cons,List.not_mem_nil,or_false]at hc;rcases hc with rfl|rfl|rfl<;>exact .lit _
 ·simp only[List.mem_cons,List.not_mem_nil,or_false]at hc;rcases hc with rfl|rfl|rfl
  ·exact .lit _
  ·exact .ef _
  ·exact qZ _
theorem FX {S:Nat->Prop}{H:AHeap}{nx:Nat}(l:List NodeP):∀ c∈bJ l,Fz S H nx c c:=by
 intro c hc;unfold bJ at hc;obtain⟨r,hr,hc⟩:=Xg.1 hc;obtain⟨x,_,rfl⟩:=VN.1 hr;exact Tx x c hc
theorem Ty {S:Nat->Prop}{H:AHeap}{nx:Nat}:∀ (l:List NodeP),(∀ x∈l,x.rows=[]->x.parents=[])->∀ (i:Nat) (h:i<(bJ l).length) (h':i<(au l).length),Fz S H nx (bJ l)[i] (au l)[i]:=by
 intro l
 induction l with
 | nil=>intro _ i h;simp [bJ]at h
 | cons x l ih =>
  intro hx i h h';have e1:bJ (x :: l)=x.cD++bJ l:=by simp [bJ]
  have e2:au (x :: l)=x.cells++au l:=by simp [au]
  have l1:=kE x;have l2:x.cells.length=3:=rfl;have hc:∀ (i:Nat) (h:i<x.cD.length) (h':i<x.cells.length),Fz S H nx x.cD[i] x.cells[i]:=by
   intro i h h';by_cases hr:x.rows=[]
   ·have hp:=hx x (by simp) hr;have ez:x.cD=[aa x.card,.lit (.slice none 0 0),.lit (.slice none 0 0)]:=Vx hr;have ec:x.cells=[aa x.card,ab [],aB []]:=(by unfold NodeP.cells;rw[hr,hp]);simp only[ez,ec]
    match i,h' with
    | 0,_=>exact .lit _
    | 1,_=>exact .nil
    | 2,_=>exact .nil
   ·have ez:x.cD=x.cells:=Vw hr;simp only[ez]
    match i,h' with
    | 0,_=>exact .lit _
    | 1,_=>exact .ef _
    | 2,_=>exact qZ _
  simp only[e1,e2];by_cases hi:i<3
  ·rw[WC (by omega),WC (by omega)];exact hc i (by omega) (by omega)
  ·rw[WJ (by omega),WJ (by omega)];simp only[l1,l2];exact ih (fun y hy=>hx y (by simp [hy])) (i - 3) _ _
theorem TA {l:List NodeP}{i:Nat}{x y:NodeP}(h:l[i]?=some x)(hy:y.card=x.card):au (l.set i y)=((au l).set (i*3+1) (ab y.parents)).set (i*3+2) (aB y.rows):=by
 have hl:=get_lt h;have h1:=AU (f:=NodeP.cells) (z:=3) (fun _=>rfl) l i y hl;have h2:=qO (f:=NodeP.cells) (z:=3) (fun _=>rfl) l i x h;unfold au;rw[h1];have h3:(l.map NodeP.cells).flatten=((l.map NodeP.cells).flatten).take (i*3)++(x.cells++((l.map NodeP.cells).flatten).drop (i*3+3)):=by
  rw[<- h2,<- XG,V4,V4]
 have hlen:(((l.map NodeP.cells).flatten).take (i*3)).length=i*3:=by
  rw[VC,nF (f:=NodeP.cells) (z:=3) (fun _=>rfl)];omega
 conv=>rhs;rw[h3]
 rw[Ww _ _ (by omega),Ww _ _ (by omega),hlen,show i*3+1 - i*3=1 by omega,show i*3+2 - i*3=2 by omega];unfold NodeP.cells;simp [hy]
theorem TB {lo:Nat}{H:AHeap}{e:TypeId}{v:AVal}{cs:List AVal}(h:aC lo H e v cs){d:Option TypeDesc}{t:TypeId}(hd:d=some (.slice t)):sf d H v=some (.lit (.int .i64 cs.length)):=by
 subst hd;rcases h with ⟨rfl,rfl⟩|⟨id,g,_,_,rfl,h4⟩
 ·rfl
 ·rw[yu,Cx,ak h4];rfl
theorem TC (l p:List Int)(hl:(l.length:Int)<2 ^ 40)(hp:(p.length:Int)<2 ^ 39)(hin:∀ q∈p,0<=q/\q<l.length)(H:AHeap)(K:ARes->AHeap->Prop)(hK:∀ v H',Over H H'->aC H.next H' 3 v (ints (aP l p))->K (.ret v) H'):ae Tryd.prog G0 49 [ab l,ab p] H K:=by
 refine ae.clo ⟨_,Tryd.func49,rfl,rfl⟩ fun hcl=>?_;refine ae.bF (n:=24) (rs:=[.tmp 4]) Tryd.func49 rfl rfl rfl (by decide) (by kernel_rfl) (by simp) ?_;simp only[go_sem];refine W.aG 8388576 (by rfl) (fun ρ H'=>∃ k:Nat,ρ 6=aa k/\k<=p.length/\Over H H'/\aC H.next H' 3 (ρ 5) (ints (aP l (p.take k)))) (fun ρ H=>p.length - (iv (ρ 6)).toNat) ?_ ?_
 ·simp only[go_sem];exact⟨0,rfl,by omega,.refl _,.nil⟩
 rintro ρ H' ⟨k,h6,hk,ov,h5⟩;refine W.vs ?_;by_cases hb:(k:Int)<p.length
 ·obtain⟨q,hq⟩:=get_of_lt (l:=p) (i:=k) (by omega);obtain⟨j,rfl,a,ha⟩:=nH (hin q (Vs hq)).1 (hin q (Vs hq)).2;have hne:=aJ hq;have hne2:=aJ ha;have hj:=get_lt ha;have hj':(j:Int)<l.length:=by omega
  obtain⟨v',H2,hA,ov2,hO,hn2,_⟩:=mB a ov h5 (by simp [aP];omega);have w1:=Vt ((k:Int)+1) (by omega);simp only[go_sem,h6,hb,hq,hne,ha,hne2,hj',w1,hA];refine⟨by have:=ov2.next;omega,⟨k+1,by simp,by omega,ov2,?_⟩,by omega⟩;rw[Gj hq,Int.toNat_natCast,bf ha];exact hO
 ·simp only[go_sem,h6,hb];rw[Vz (by omega)]at h5;exact av.mk ov.next (hK _ _ ov h5)
theorem TD (g:Int)(ns:List NodeP)(v:Nat)(x:NodeP)(hx:ns[v]?=some x)(hl:(ns.length:Int)<2 ^ 39)(hp:(x.parents.length:Int)<2 ^ 39)(hin:ik x.parents ns.length)(H:AHeap)(K:ARes->AHeap->Prop)
  (hK:∀ v H',Over H H'->aC H.next H' 3 v (ints (aQ ns x))->K (.ret v) H'):ae Tryd.prog G0 23 [aZ g ns,aa v] H K:=by
 refine ae.clo ⟨_,Tryd.func23,rfl,rfl⟩ fun hcl=>?_;have hne:=eP hx;have e1:=tl hx;have hv:(v:Int)<ns.length:=by have:=get_lt hx;omega
 refine ae.bF (n:=14) (rs:=[.tmp 4]) Tryd.func23 rfl rfl rfl (by decide) (by kernel_rfl) (by simp) ?_;simp only[go_sem,aZ,dk];refine W.draw 8 [0,1,0,4,0,28,60,124] Tryd.mixed (by kernel_rfl) (by kernel_rfl) ?_;simp only[go_sem];refine⟨ab (af ns),[],df.pure fun H2=>mA g ns hl H2 _ ⟨rfl,rfl⟩,?_⟩;simp only[go_sem,hv,hne,e1];refine aw.clo (TC (af ns) x.parents (by rw[bK];omega) hp (by rw[bK];exact hin) _ _ fun w H3 ov ho=>⟨trivial,?_⟩);simp only[go_sem];have o1:Over H H3:=(Over.ext _ _).trans ov;exact av.mk o1.next (hK _ _ o1 (ho.keep (by simp [dF]) (Nat.le_refl _) fun _ _ _ _ _ _=>rfl))
theorem TE {ns:List NodeP}{P:List Int}(hP:IsPerm ns.length P)(hall:∀ v:Nat,v<ns.length->(v:Int)∈P)(hr:∀ (j v:Nat) (x:NodeP),P[j]?=some (v:Int)->ns[v]?=some x->∀ q∈x.parents,0<=q/\∃ k,k<j/\P[k]?=some q):nJ (bA ns):=by
 intro v hv;have hl:(bA ns).length=ns.length:=by simp [bA]
 rw[hl]at hv;obtain⟨j,hj⟩:=V0.1 (hall v hv);have h0:∀ p∈P.take j,0<=p:=fun p hp=>(hP.rng p (VW hp)).1;have sub:∀ (k u:Nat) (x:NodeP),k<=j->P[k]?=some (u:Int)->ns[u]?=some x->Sub ((bA ns).getD u 0) (eb (P.take j)):=fun k u x hk hu hx i hi=>by
  rw[bf (o9 hx)]at hi;have hp0:∀ p∈x.parents,0<=p:=fun p hp=>(hr k u x hu hx p hp).1;rw[nI hp0]at hi;obtain⟨_,k',hk',hq⟩:=hr k u x hu hx _ (of_decide_eq_true hi);rw[nI h0];refine VM ?_;exact V0.2 ⟨k',by rw[WD (by omega)];exact hq⟩
 have hcl:mr (bA ns) (eb (P.take j)):=fun u hu ht=>by
  rw[hl]at hu;rw[nI h0]at ht;obtain⟨k,hk⟩:=V0.1 (of_decide_eq_true ht);have hkl:=get_lt hk;rw[VC]at hkl;rw[WD (by omega)]at hk;obtain⟨x,hx⟩:=get_of_lt hu;exact sub k u x (by omega) hk hx
 obtain⟨x,hx⟩:=get_of_lt hv;have h1:=tp hcl (bA ns).length (sub j v x (Nat.le_refl _) hj hx);cases hb:(fE (bA ns) ((bA ns).getD v 0)).testBit v with
 | false=>rfl
 | true =>
  exfalso;have h2:=h1 v hb;rw[nI h0]at h2;obtain⟨k,hk⟩:=V0.1 (of_decide_eq_true h2);have hkl:=get_lt hk;rw[VC]at hkl;rw[WD (by omega)]at hk;have e:P[k]?=P[j]?:=by rw[hk,hj]
  have:=(W4 (get_lt hk) hP.nd).1 e;omega
theorem Ez {lo:Nat}{H:AHeap}{e1 e0:TypeId}{v:AVal}{rows:List (List AVal)}(h:fU lo H e1 e0 v rows):v.one=true/\v.cells=[v]:=let ⟨_,a,_⟩:=h;⟨a.one,a.cells⟩
theorem EA {lo:Nat}{H:AHeap}{e1 e0:TypeId}{v:AVal}{rows:List (List AVal)}(h:fU lo H e1 e0 v rows){k:Nat}{b:Blk}(hk:k<lo):fU lo (H.upd k b) e1 e0 v rows :=
 let ⟨cs,a,b',c,e⟩:=h
 have u:∀ {u:AVal} {e:TypeId} {l:List AVal},aC lo H e u l->aC lo (H.upd k b) e u l:=fun h=>h.keep (Nat.le_refl _) (by rw[aE];exact Nat.le_refl _) fun i _ h1 _ _ _=>by rw[ag,Vw (by omega)]
 ⟨cs,u a,b',fun j r q h1 h2=>u (c j r q h1 h2),e⟩
abbrev Av (a b:AVal):Blk:=.arr 0 42 [a,b]
def vM (p:Int)(k:Nat):Bool:=decide (IntKind.u8.wrap (((BitVec.ofInt IntKind.u8.bits (p.fdiv (2 ^ (min ((k:Int)).toNat IntKind.u8.bits))) &&& BitVec.ofInt IntKind.u8.bits 1).toNat:Nat):Int)=1)
def kr (ms:List Int)(i v:Nat):Bool:=match ms[i]? with
 | some m=>vM m v
 | none=>false
def iH (ms:List Int)(i k:Nat)(vals:List Int):List Int:=(List.range vals.length).map fun v=>if v<k/\kr ms i v=true then -1 else vals.getD v 0
theorem oD (ms:List Int)(i k:Nat)(vals:List Int):(iH ms i k vals).length=vals.length:=by simp [iH]
theorem Po (ms:List Int)(i:Nat)(vals:List Int):iH ms i 0 vals=vals:=by
 refine V9 fun j=>?_;unfold iH;rw[List.getElem?_map];rcases VR j vals.length with h|h
 ·obtain⟨x,hx⟩:=get_of_lt h;rw[Wu h,hx];show some (if j<0/\_ then _ else vals.getD j 0)=_;rw[Vw (by omega),bf hx]
 ·rw[VB (by simpa using h),VB h];rfl
theorem sT {ms:List Int}{i k:Nat}{vals:List Int}{v:Nat}{x:Int}(h:vals[v]?=some x):(iH ms i k vals)[v]?=some (if v<k/\kr ms i v=true then -1 else x):=by
 unfold iH;rw[List.getElem?_map,Wu (get_lt h)];show some (if v<k/\kr ms i v=true then -1 else vals.getD v 0)=_;rw[bf h]
theorem Pp {ms:List Int}{i k:Nat}{vals:List Int}(hk:k<vals.length):iH ms i (k+1) vals=if kr ms i k=true then (iH ms i k vals).set k (-1) else iH ms i k vals:=by
 refine V9 fun j=>?_;rcases VR j vals.length with h|h
 ·obtain⟨x,hx⟩:=get_of_lt h;rw[sT hx];by_cases hm:kr ms i k=true
  ·rw[Vx hm,W3];by_cases hj:k=j
   ·subst hj;rw[Vx rfl,Vx (⟨by omega,hm⟩:k<k+1/\kr ms i k=true),Vx (by rw[oD];exact h)]
   ·rw[Vw hj,sT hx];by_cases hjk:j<k
    ·simp [hjk,show j<k+1 by omega]
    ·simp [hjk,show ¬ j<k+1 by omega]
  ·rw[Vw hm,sT hx];by_cases hj:j=k
   ·subst hj;simp [hm]
   ·by_cases hjk:j<k
    ·simp [hjk,show j<k+1 by omega]
    ·simp [hjk,show ¬ j<k+1 by omega]
 ·rw[VB (by rw[oD];exact h)];split
  ·rw[VB (by rw[VG,oD];exact h)]
  ·rw[VB (by rw[oD];exact h)]
def eM (l:List Int):List AVal:=l.map fun n=>.lit (.int .u16 n)
theorem Pq {l:List Int}{k:Nat}{a:Int}(h:l[k]?=some a):(eM l)[k]?=some (.lit (.int .u16 a)):=by unfold eM;rw[List.getElem?_map,h];rfl
theorem Pr (l:List Int):(eM l).length=l.length:=by simp [eM]
def oE (ns:List NodeP)(ws ms:List Int)(i:Nat):List Int:=iH ms i ns.length (dZ (af ns) (ws.getD i 0 % aA (af ns)))
def jJ (ns:List NodeP)(ws ms:List Int):List (List Int):=(List.range (min 12 ws.length)).map (oE ns ws ms)
def qA (ns:List NodeP)(ws ms:List Int)(k:Nat):List (List Int):=(List.range k).map (oE ns ws ms)
set_option maxHeartbeats 4000000 in
theorem DU (g:Int)(ns:List NodeP)(h8:1<=ns.length/\ns.length<=8)(hc:∀ y∈ns,1<=y.card/\y.card<=4)(hsz:aA (af ns)<=1024)(ws ms:List Int)(hws:∀ x∈ws,0<=x/\x<65536)(hms:∀ x∈ms,0<=x/\x<256)
  (hwl:(ws.length:Int)<2 ^ 63) (hml:(ms.length:Int)<2 ^ 63) (H:AHeap) (K:ARes->AHeap->Prop) (hK:K (.ret (da (af ns) (jJ ns ws ms))) H):
  ae Tryd.prog G0 7 [aZ g ns,.vec ws.length (eM ws),.vec ms.length (bh ms)] H K:=by
 refine ae.clo ⟨_,Tryd.func7,rfl,rfl⟩ fun hcl=>?_;have hp:=mq (l:=af ns) fun c hcm=>by obtain⟨y,hy,rfl⟩:=VN.1 hcm;exact(hc y hy).1
 have wll:=Pr ws;have mll:=Qb ms;refine ae.bF (n:=64) (rs:=[.cell 6 42]) Tryd.func7 rfl rfl rfl (by decide) (by kernel_rfl) (by simp) ?_;simp only[go_sem,aZ,dk];refine aw.clo (mA g ns (by omega) _ _ ⟨trivial,?_⟩);simp only[go_sem];obtain⟨cs,hcs⟩:∃ cs,cs=af ns:=⟨_,rfl⟩
 rw[<- hcs];obtain⟨H1,hH1⟩:∃ H1,H1=ext H [.arr 0 36 [aa g,.vec ns.length (au ns)],.arr 0 42 [.lit (.slice none 0 0),.lit (.slice none 0 0)],.arr 0 42 [.vec cs.length (ints cs),.lit (.slice none 0 0)]]:=⟨_,rfl⟩
 have n1:H1.next=H.next+3:=by rw[hH1];rfl
 have o1:Over H H1:=by rw[hH1];exact .ext _ _
 have g0:H1.get H.next=some (.arr 0 36 [aa g,.vec ns.length (au ns)]):=by rw[hH1];exact dN ..
 have g1:H1.get (H.next+1)=some (.arr 0 42 [.lit (.slice none 0 0),.lit (.slice none 0 0)]):=by rw[hH1];exact bC H _ 1 (by simp)
 have g2:H1.get (H.next+2)=some (Av (ab cs) (.lit (.slice none 0 0))):=by rw[hH1];exact bC H _ 2 (by simp)
 refine W.en (fun E=>E 1=.vec ws.length (eM ws) /\ E 2=.vec ms.length (bh ms) /\ E 3=.ptr H.next 0 0 /\ E 6=.ptr (H.next+1) 0 0 /\ E 7=.ptr (H.next+2) 0 0 /\ E 8=aa 0) (by simp only[go_sem]) fun E ⟨e1,e2,e3,e6,e7,e8⟩=>?_
 show W _ _ _ _ _ _ ⟨E,ext H [.arr 0 36 [aa g,.vec ns.length (au ns)],.arr 0 42 [.lit (.slice none 0 0),.lit (.slice none 0 0)],.arr 0 42 [.vec cs.length (ints cs),.lit (.slice none 0 0)]]⟩;rw[<- hH1];refine W.aG 9223372036854761216 (by rfl) (fun ρ Hi=>∃ (i:Nat) (xv:AVal),ρ 8=aa i/\i<=min 12 ws.length/\H1.next<=Hi.next/\(∀ id,id<H.next+2->Hi.get id=H1.get id)/\Hi.get (H.next+2)=some (Av (ab cs) xv)/\fU (H.next+3) Hi 39 3 xv ((qA ns ws ms i).map ints)) (fun ρ Hi=>12 - (iv (ρ 8)).toNat) ?_ ?_
 ·exact⟨0,_,e8,by omega,Nat.le_refl _,fun _ _=>rfl,g2,.nil⟩
 rintro ρ Hi ⟨i,xv,h8i,hi,hni,holdi,hbi,hD⟩;refine W.en (fun E1=>E1 1=.vec ws.length (eM ws) /\ E1 2=.vec ms.length (bh ms) /\ E1 3=.ptr H.next 0 0 /\ E1 6=.ptr (H.next+1) 0 0 /\ E1 7=.ptr (H.next+2) 0 0 /\ E1 8=aa i) (by simp only[go_sem,e1,e2,e3,e6,e7,h8i]) fun E1 ⟨a1,a2,a3,a6,a7,a8⟩=>?_
 have l0:=ak ((holdi _ (by omega)).trans g0);have l1:=ak ((holdi _ (by omega)).trans g1);have l2:=ak hbi;obtain⟨xone,xcells⟩:=Ez hD;have fin:i=min 12 ws.length->av Tryd.prog G0 H K (.agg [ab cs,xv]) (Hi.upd (H.next+1) (Av (ab cs) xv)):=fun hm=>by
  have hcl2:jJ ns ws ms=qA ns ws ms i:=by rw[hm];rfl
  rw[hcl2,<- hcs]at hK;exact av.bR aT hcl ⟨by rw[aE];omega,fun id h=>by rw[ag,Vw (by omega),holdi id (by omega)];exact o1.old id h⟩ (Aq (.ef _) (TN (EA hD (by omega)).TM fun i h=>by omega)) hK
 by_cases c1:(i:Int)<ws.length;rotate_left
 ·refine W.vs ?_;simp only[go_sem,a1,a6,a7,a8,l1,l2,c1,xone];exact fin (by omega)
 by_cases c2:(i:Int)<12;rotate_left
 ·refine W.vs ?_;simp only[go_sem,a1,a6,a7,a8,l1,l2,c1,c2,xone];exact fin (by omega)
 obtain⟨wd,hwd⟩:=get_of_lt (l:=ws) (i:=i) (by omega);have hwr:=hws wd (Vs hwd);have hwg:=Pq hwd;have hwn:=aJ hwg;have wu:=Vt wd (by omega);have wm:wd.tmod (aA cs)=wd % aA cs:=by rw[hcs];exact V6 hwr.1
 have wmr:=Xf wd (show 0<aA cs by rw[hcs];omega);have wmn:=Xs wd (show aA cs≠0 by rw[hcs];omega);have wmw:=Vt (wd % aA cs) (by rw[hcs]at wmr wmn ⊢;omega);have hpz:¬ aA cs=0:=by rw[hcs];omega
 refine W.vs ?_;simp only[go_sem,a1,a8,c1,c2];refine W.draw 9 [0,0,0,6,14,30,0,64,254] Tryd.mixed (by kernel_rfl) (by kernel_rfl) ?_;simp only[go_sem,a1,a3,a8,l0,c1,hwg,hwn,wu];refine⟨aa (aA cs),[],df.pure (fun H2=>Ub g ns h8.2 hc H2 _ ⟨by rw[hcs],rfl⟩),?_⟩;simp only[go_sem,hpz,wm];refine aw.clo (Pn g ns h8.2 hc (wd % aA cs) (by rw[hcs]at wmr wmn ⊢;omega) _ _ fun cv Hk ov hO=>⟨trivial,?_⟩);rw[<- hcs]at hO;obtain⟨vals,hvals⟩:∃ vals,vals=dZ cs (wd % aA cs):=⟨_,rfl⟩
 have hvl:vals.length=ns.length:=by rw[hvals,qQ,hcs,bK]
 rw[<- hvals]at hO;rcases hO with ⟨_,e⟩|⟨ic,gc,ic1,ic2,rfl,hgc⟩
 ·have:=congrArg List.length e;rw[aR,hvl,List.length_nil]at this;omega
 rw[aR,hvl];have ovn:=ov.next;simp only[go_sem];refine W.en (fun E2=>E2 1=.vec ws.length (eM ws) /\ E2 2=.vec ms.length (bh ms) /\ E2 3=.ptr H.next 0 0 /\ E2 6=.ptr (H.next+1) 0 0 /\ E2 7=.ptr (H.next+2) 0 0 /\ E2 8=aa i /\ E2 9=.own ic gc 0 ns.length 1 /\ E2 10=aa 0) (by simp only[go_sem,a1,a2,a3,a6,a7,a8]) fun E2 ⟨b1,b2,b3,b6,b7,b8,b9,b10⟩=>?_
 refine W.aG 144115170895987712 (by rfl) (fun ρ Hj=>∃ v:Nat,ρ 10=aa v/\v<=ns.length/\Hj.next=Hk.next/\(∀ id,id≠ic->Hj.get id=Hk.get id)/\Hj.get ic=some (.arr gc 3 (ints (iH ms i v vals)))) (fun ρ Hj=>ns.length - (iv (ρ 10)).toNat) ?_ ?_
 ·exact⟨0,b10,by omega,rfl,fun _ _=>rfl,by rw[Po];exact hgc⟩
 rintro ρ3 Hj ⟨v,h10,hv,nj,oj,gj⟩;refine W.en (fun E3=>E3 1=.vec ws.length (eM ws) /\ E3 2=.vec ms.length (bh ms) /\ E3 3=.ptr H.next 0 0 /\ E3 6=.ptr (H.next+1) 0 0 /\ E3 7=.ptr (H.next+2) 0 0 /\ E3 8=aa i /\ E3 9=.own ic gc 0 ns.length 1 /\ E3 10=aa v) (by simp only[go_sem,b1,b2,b3,b6,b7,b8,b9,h10]) fun E3 ⟨d1,d2,d3,d6,d7,d8,d9,d10⟩=>?_
 have ljc:=ak gj;have mrl:=oD ms i v vals;by_cases c3:(v:Int)<ns.length;rotate_left
 ·have ev:v=ns.length:=by omega
  subst ev;have w1:=Vt ((i:Int)+1) (by omega);have hcase:oE ns ws ms i=iH ms i ns.length vals:=by unfold oE;rw[bf hwd,<- hcs,<- hvals]
  have ovj:Over Hi Hj:=⟨by omega,fun id h=>(oj id (by omega)).trans (ov.old id h)⟩
  have hOj:aC Hi.next Hj 3 (.own ic gc 0 ns.length 1) (ints (iH ms i ns.length vals)):=.inr ⟨ic,gc,ic1,by omega,by rw[aR,mrl,hvl],gj⟩;obtain⟨xv2,H5,hA,hD5,hn5,hp5⟩:=fU.app (P:=Tryd.prog) (n:=Hj.next+1) (t:=40) Tryd.underlying40 Tryd.qL Tryd.qN Tryd.qM (by decide) (by simp [qA];omega) hD ovj (by omega) hOj rfl;have k2:Hj.live (H.next+2) 0=some (42,[ab cs,xv]):=(ovj.live (g:=0) (by omega:H.next+2<Hi.next)).trans l2;have k2e:∀ L,(ext Hj L).live (H.next+2) 0=some (42,[ab cs,xv]):=fun L=>(fN (by omega)).trans k2;have k5:H5.live (H.next+2) 0=some (42,[ab cs,xv]):=ak ((hp5 _ (by omega) (by omega)).trans ((ovj.old _ (by omega)).trans hbi));obtain⟨xone2,xcells2⟩:=Ez hD5;refine W.vs ?_;simp only[go_sem,d7,d8,d9,d10,ljc,c3,k2,hA,k5,xone2,xcells2,w1];refine⟨by rw[aE];omega,⟨i+1,xv2,rfl,by omega,by rw[aE];omega,fun id h=>by rw[ag,Vw (by omega),hp5 id (by omega) (by omega),ovj.old id (by omega)];exact holdi id h,by rw[ag,Vx rfl],?_⟩,by rw[h8i];simp only[aa,aN];omega⟩;have eK:(qA ns ws ms (i+1)).map ints=(qA ns ws ms i).map ints++[ints (iH ms i ns.length vals)]:=by
   unfold qA;rw[WI,Wo,Wo,<- hcase];rfl
  rw[eK];exact EA hD5 (by omega)
 have w2:=Vt ((v:Int)+1) (by omega);have msc:=Pp (ms:=ms) (i:=i) (k:=v) (vals:=vals) (by omega);by_cases c4:(i:Int)<ms.length;rotate_left
 ·have hq:kr ms i v=false:=by unfold kr;rw[VB (by omega)]
  rw[hq,Vw (by decide)]at msc;refine W.vs ?_;simp only[go_sem,d2,d8,d9,d10,ljc,c3,c4,w2];exact⟨by omega,⟨v+1,rfl,by omega,nj,oj,by rw[msc];exact gj⟩,by rw[h10];simp only[aa,aN];omega⟩
 obtain⟨m,hm⟩:=get_of_lt (l:=ms) (i:=i) (by omega);have hmg:=tb hm;have hmn:=aJ hmg;have hq:kr ms i v=vM m v:=by unfold kr;rw[hm]
 obtain⟨r1,hr1⟩:∃ r1,m.fdiv (2 ^ (min ((v:Int)).toNat IntKind.u8.bits))=r1:=⟨_,rfl⟩
 obtain⟨r2,hr2⟩:∃ r2,IntKind.u8.wrap (((BitVec.ofInt IntKind.u8.bits r1 &&& BitVec.ofInt IntKind.u8.bits 1).toNat:Nat):Int)=r2:=⟨_,rfl⟩
 have s1:∀ t o1 o2,aU Tryd.prog .shr t o1 o2 (.lit (.int .u8 m)) (.lit (.int .i64 (v:Int)))=some (.lit (.int .u8 r1)):=fun t o1 o2=>by rw[ru (by omega),hr1]
 have s2:∀ t o1 o2,aU Tryd.prog .and t o1 o2 (.lit (.int .u8 r1)) (.lit (.int .u8 1))=some (.lit (.int .u8 r2)):=fun t o1 o2=>by rw[tB,hr2]
 have hb8:vM m v=decide (r2=1):=by unfold vM;rw[hr1,hr2]
 rw[hq,hb8]at msc;by_cases hr:r2=1
 ·rw[VM hr,Vx rfl]at msc;refine W.vs ?_;simp only[go_sem,d2,d8,d9,d10,ljc,mrl,hvl,c3,c4,hmg,hmn,s1,s2,hr,w2];refine⟨by omega,by rw[aE];omega,⟨v+1,rfl,by omega,by rw[aE];exact nj,fun id h=>by rw[ag,Vw h];exact oj id h,?_⟩,by rw[h10];simp only[aa,aN];omega⟩;rw[ag,Vx rfl,fo (by omega),msc]
 ·rw[VZ hr,Vw (by decide)]at msc;refine W.vs ?_;simp only[go_sem,d2,d8,d9,d10,ljc,c3,c4,hmg,hmn,s1,s2,hr,w2];exact⟨by omega,⟨v+1,rfl,by omega,nj,oj,by rw[msc];exact gj⟩,by rw[h10];simp only[aa,aN];omega⟩
theorem Ay {g:Int}{ns:List NodeP}{cs:List Int}{xs:List (List Int)}{e:Int}(h:cb g ns cs xs=e)(he:e≠0):iM g ns cs xs=.tup [.agg (ints bt),aa e]:=by
 unfold iM;rw[Vx (by rw[h];exact he),h]
theorem QR {g:Int}{ns:List NodeP}{cs:List Int}{xs:List (List Int)}(h:eG g ns=false):cb g ns cs xs=50:=by
 unfold cb;rw[Vw (by rw[h];decide)]
theorem QS {g:Int}{ns:List NodeP}{cs:List Int}{xs:List (List Int)}(h:eG g ns=true)(h2:gZ cs xs=false):cb g ns cs xs=250:=by
 unfold cb;rw[Vx h,Vw (by rw[h2];decide)]
theorem QT {g:Int}{ns:List NodeP}{cs:List Int}{xs:List (List Int)}(h:eG g ns=true)(h2:gZ cs xs=true)(h3:¬ af ns=cs):cb g ns cs xs=261:=by
 unfold cb;rw[Vx h,Vx h2,Vw h3]
theorem QU {g:Int}{ns:List NodeP}{cs:List Int}{xs:List (List Int)}(h:eG g ns=true)(h2:gZ cs xs=true)(h3:af ns=cs):cb g ns cs xs=0:=by
 unfold cb;rw[Vx h,Vx h2,Vx h3]
theorem QV {g:Int}{ns:List NodeP}{cs:List Int}{xs:List (List Int)}(h:cb g ns cs xs=0)(h2:¬ ∀ r∈xs,mh r=true):iM g ns cs xs=.tup [.agg (ints bt),aa 260]:=by
 unfold iM;rw[Vw (fun hh=>hh h),Vw h2]
theorem QW {g:Int}{ns:List NodeP}{cs:List Int}{xs:List (List Int)}(h:cb g ns cs xs=0)(h2:∀ r∈xs,mh r=true)(h3:¬ ∀ w∈bg ns xs,w≠0):iM g ns cs xs=.tup [.agg (ints bt),aa 7]:=by
 unfold iM;rw[Vw (fun hh=>hh h),Vx h2,Vw h3]
theorem QX {g:Int}{ns:List NodeP}{cs:List Int}{xs:List (List Int)}(h:cb g ns cs xs=0)(h2:∀ r∈xs,mh r=true)(h3:∀ w∈bg ns xs,w≠0):iM g ns cs xs=.tup [.agg (ints (bV g bt (bg ns xs))),aa 0]:=by
 unfold iM;rw[Vw (fun hh=>hh h),Vx h2,Vx h3]
theorem EC {g:Int}{ns:List NodeP}{xs:List (List Int)}(hx:xs.length<=40)(hn:ns.length<=8){r:List Int}(i v:Nat):(bV g (bV g bt (bg ns (xs.take i))) ((dc ns r).take v)).length=18/\fQ (bV g (bV g bt (bg ns (xs.take i))) ((dc ns r).take v)) 9000:=by
 have h1:=Aw g (bg ns (xs.take i)) (e:=bt) (b:=0) (by omega) rfl .zero;have l1:(bg ns (xs.take i)).length<=320:=by
  rw[tf,VC]
  calc min i xs.length*ns.length<=40*8:=Xk (by omega) hn
   _=320:=rfl
 have h2:=Aw g ((dc ns r).take v) (by omega) h1.1 h1.2;have l2:((dc ns r).take v).length<=8:=by rw[VC,oR];omega
 exact⟨h2.1,fun x hx=>by have:=h2.2 x hx;omega⟩
theorem QY {g:Int}{ns:List NodeP}{xs:List (List Int)}(hx:xs.length<=40)(hn:ns.length<=8)(i:Nat):(bV g bt (bg ns (xs.take i))).length=18/\fQ (bV g bt (bg ns (xs.take i))) 9000:=EC (g:=g) (r:=[]) hx hn i 0
theorem fQ.mono {e:List Int}{a b:Int}(h:fQ e a)(hab:a<=b):fQ e b:=fun x hx=>by have:=h x hx;omega
set_option maxHeartbeats 4000000 in
theorem ED (g:Int)(ns:List NodeP)(cs:List Int)(xs:List (List Int))(hn:gi ns)(hf:ku cs xs)(H:AHeap)(K:ARes->AHeap->Prop)(hK:K (.ret (iM g ns cs xs)) H):ae Tryd.prog G0 15 [aZ g ns,da cs xs] H K:=by
 refine ae.clo ⟨_,Tryd.func15,rfl,rfl⟩ fun hcl=>?_;have hf':=hf;obtain⟨f1,f2,f3⟩:=hf;have hn1:=hn.1;refine ae.cX (n:=86) (rs:=[.cell 4 57,.tmp 5]) Tryd.func15 rfl rfl rfl (by decide) (by simp) ?_;refine W.sq ?_;simp only[go_sem,da,aB,aZ,dk];obtain⟨H1,hH1⟩:∃ H1,H1=ext H [.arr 0 36 [.lit (.int .i64 g),.vec ns.length (au ns)],.arr 0 42 [.vec cs.length (ints cs),.vec xs.length (xs.map ab)],.arr 0 57 (ints bt)]:=⟨_,rfl⟩
 have b0:H1.get H.next=some (.arr 0 36 [.lit (.int .i64 g),.vec ns.length (au ns)]):=by rw[hH1];exact dN ..
 have b1:H1.get (H.next+1)=some (.arr 0 42 [.vec cs.length (ints cs),.vec xs.length (xs.map ab)]):=by rw[hH1];exact bC H _ 1 (by simp)
 have b2:H1.get (H.next+2)=some (.arr 0 57 (ints bt)):=by rw[hH1];exact bC H _ 2 (by simp)
 have n1:H1.next=H.next+3:=by rw[hH1];rfl
 have o1:Over H H1:=by rw[hH1];exact .ext _ _
 refine W.en (fun E=>E 2=.ptr H.next 0 0 /\ E 3=.ptr (H.next+1) 0 0 /\ E 4=.ptr (H.next+2) 0 0 /\ E 5=aa 0) (by simp only[go_sem]) fun E ⟨e2,e3,e4,e5⟩=>?_
 show W _ _ _ _ _ _ ⟨E,ext H [.arr 0 36 [.lit (.int .i64 g),.vec ns.length (au ns)],.arr 0 42 [.vec cs.length (ints cs),.vec xs.length (xs.map ab)],.arr 0 57 (ints bt)]⟩;rw[<- hH1];clear hH1;have l0:=ak b0;have l1:=ak b1;have l2:=ak b2;have zt:=wo (e:=bt) rfl;have zl:(ints bt).length=18:=rfl;have za:=oc bt;have fail:∀ (c:Int) (Hx:AHeap),iM g ns cs xs=.tup [.agg (ints bt),aa c]->Over H Hx->av Tryd.prog G0 H K (.tup [.agg (ints bt),aa c]) Hx:=fun c Hx h o=>by
  rw[h]at hK;exact av.bR aT hcl o (At _ _) hK
 refine W.sq ?_;simp only[go_sem,e2,l0];refine aw.clo (Gv g ns hn _ _ ⟨trivial,?_⟩);cases hN:eG g ns
 ·simp only[go_sem,e4,l2,zl,qJ];exact fail 50 _ (Ay (QR hN) (by decide)) (o1.upd (by omega) _)
 simp only[go_sem];refine W.sq ?_;simp only[go_sem,e3,l1];refine aw.clo (Ap cs xs hf' _ _ ⟨trivial,?_⟩);cases hD:gZ cs xs
 ·simp only[go_sem,e4,l2,zl,qJ];exact fail 250 _ (Ay (QS hN hD) (by decide)) (o1.upd (by omega) _)
 simp only[go_sem];refine W.sq ?_;simp only[go_sem,e2,e3,l0,l1];refine aw.clo (QA g ns cs xs hn1 hf' _ _ ⟨trivial,?_⟩);by_cases hcs:af ns=cs;rotate_left
 ·simp only[go_sem,e4,l2,zl,qJ,hcs];exact fail 261 _ (Ay (QT hN hD hcs) (by decide)) (o1.upd (by omega) _)
 simp only[go_sem,hcs];have hE0:=QU hN hD hcs;subst hcs;have nok:=xd.1 hN;have dok:=Er.1 hD;refine W.en (fun E2=>E2 2=.ptr H.next 0 0 /\ E2 3=.ptr (H.next+1) 0 0 /\ E2 4=.ptr (H.next+2) 0 0 /\ E2 5=aa 0) (by simp only[go_sem,e2,e3,e4,e5]) fun E2 ⟨a2,a3,a4,a5⟩=>?_
 refine W.sq ?_;simp only[go_sem,a3,l1]
 refine W.aG 17523466568224 (by rfl) (fun ρ H'=>H'=H1/\∃ k:Nat,ρ 36=aa k/\k<=xs.length/\∀ r∈xs.take k,mh r=true) (fun ρ H=>xs.length - (iv (ρ 36)).toNat) ?_ ?_
 ·simp only[go_sem];exact⟨0,rfl,by omega,by simp⟩
 rintro ρ H' ⟨rfl,k,h36,hk,hall⟩;refine W.vs ?_;by_cases hb:(k:Int)<xs.length
 ·obtain⟨r,hr⟩:=get_of_lt (l:=xs) (i:=k) (by omega);have hrm:=Vs hr;have hr':=mg hr;have hrn:=aJ hr';have rl:=f3 r hrm;simp only[go_sem,h36,hb,hr',hrn];refine aw.clo (Qz r (-1) (by omega) _ _ ⟨trivial,?_⟩);have wi:=Qw (dok.row r hrm);by_cases hm:(-1:Int)∈r
  ·simp only[go_sem,hm,a4,l2,zl,qJ];exact fail 260 _ (QV hE0 fun hh=>(wi.1 (hh r hrm)) hm) (o1.upd (by omega) _)
  ·have w1:=Vt ((k:Int)+1) (by omega);simp only[go_sem,hm,h36,w1];refine⟨⟨k+1,rfl,by omega,fun q hq=>?_⟩,by omega⟩;rw[aL hr]at hq;rcases VP.1 hq with hq|hq
   ·exact hall q hq
   ·obtain rfl:=List.mem_singleton.1 hq;exact wi.2 hm
 rw[Vz (by omega)]at hall;simp only[go_sem,h36,hb];refine W.en (fun E3=>E3 2=.ptr H.next 0 0 /\ E3 3=.ptr (H.next+1) 0 0 /\ E3 4=.ptr (H.next+2) 0 0) (by simp only[go_sem,a2,a3,a4]) fun E3 ⟨c2,c3,c4⟩=>?_
 refine W.sq ?_;simp only[go_sem];obtain⟨Hs,hHs⟩:∃ Hs,Hs=ext H' [.arr 0 57 (ints bt)]:=⟨_,rfl⟩
 have ns':Hs.next=H.next+4:=by rw[hHs];show H'.next+1=_;omega
 have os:Over H' Hs:=by rw[hHs];exact .ext _ _
 have b10:Hs.get (H.next+3)=some (.arr 0 57 (ints bt)):=by rw[hHs,<- n1];exact cS
 have oall:=o1.trans os;have s0:=(os.old _ (by omega)).trans b0;have s1:=(os.old _ (by omega)).trans b1;have s2:=(os.old _ (by omega)).trans b2;refine W.en (fun E4=>E4 2=.ptr H.next 0 0 /\ E4 3=.ptr (H.next+1) 0 0 /\ E4 4=.ptr (H.next+2) 0 0 /\ E4 10=.ptr (H.next+3) 0 0) (by simp only[go_sem,c2,c3,c4,n1]) fun E4 ⟨d2,d3,d4,d10⟩=>?_
 show W _ _ _ _ _ _ ⟨E4,ext H' [.arr 0 57 (ints bt)]⟩;rw[<- hHs];clear hHs;have m0:=ak s0;have m1:=ak s1;have m2:=ak s2;refine W.sq ?_;simp only[go_sem,d3,m1];have nn8:=nok.n1.2;have x40:=dok.x1;refine W.aG 38685626227527396102303776 (by rfl) (fun ρ Hx=>∃ i:Nat,ρ 47=aa i/\i<=xs.length/\Hs.next<=Hx.next/\(∀ id,id<H.next+3->Hx.get id=Hs.get id)/\Hx.get (H.next+3)=some (.arr 0 57 (ints (bV g bt (bg ns (xs.take i)))))/\∀ w∈bg ns (xs.take i),w≠0) (fun ρ H=>xs.length - (iv (ρ 47)).toNat) ?_ ?_
 ·simp only[go_sem];exact⟨0,rfl,by omega,b10,by simp [bg]⟩
 rintro ρ2 Hx ⟨i,h47,hi,hnx,hold,hg10,hnz⟩;refine W.vs ?_;have p2:=ak ((hold _ (by omega)).trans s2);have p10:=ak hg10;by_cases hb2:(i:Int)<xs.length;rotate_left
 ·rw[Vz (by omega)]at hg10 hnz p10;have fs:=QY (g:=g) (xs:=xs) x40 nn8 xs.length;rw[Vz (Nat.le_refl _)]at fs;have ft:=wo fs.1;have fl:(ints (bV g bt (bg ns xs))).length=18:=by rw[aR,fs.1]
  have fa:=oc (bV g bt (bg ns xs));have fl1:=fs.1;simp only[go_sem,h47,hb2];refine W.vs ?_;simp only[go_sem,d4,d10,p2,p10,ft,fl,fa,zl,qJ];rw[QX hE0 hall hnz]at hK;exact av.bR aT hcl ⟨by rw[aE];omega,fun id h=>by rw[ag,Vw (by omega),hold id (by omega)];exact oall.old id h⟩ (At _ _) hK
 obtain⟨r,hr⟩:=get_of_lt (l:=xs) (i:=i) (by omega);have hrm:=Vs hr;have hr':=mg hr;have hrn:=aJ hr';have hfit:bP (af ns) r:=Qv (dok.row r hrm) (hall r hrm);have p0:=ak ((hold _ (by omega)).trans s0);have p1:=ak ((hold _ (by omega)).trans s1);obtain⟨e,he⟩:∃ e,e=bV g bt (bg ns (xs.take i)):=⟨_,rfl⟩
 rw[<- he]at hg10;simp only[go_sem,h47,hb2,hr',hrn,d2,p0];refine W.aG 19342813095819668285874208 (by rfl) (fun ρ3 Hy=>∃ v:Nat,ρ3 54=aa v/\v<=ns.length/\Hx.next<=Hy.next/\(∀ id,id<H.next+3->Hy.get id=Hs.get id)/\Hy.get (H.next+3)=some (.arr 0 57 (ints (bV g e ((dc ns r).take v))))/\∀ w∈(dc ns r).take v,w≠0) (fun ρ3 H=>ns.length - (iv (ρ3 54)).toNat) ?_ ?_
 ·simp only[go_sem];exact⟨0,rfl,by omega,hold,hg10,by simp⟩
 rintro ρ3 Hy ⟨v,h54,hv,hny,holdy,hgy,hnzv⟩;refine W.en (fun E5=>E5 2=.ptr H.next 0 0 /\ E5 3=.ptr (H.next+1) 0 0 /\ E5 4=.ptr (H.next+2) 0 0 /\ E5 10=.ptr (H.next+3) 0 0 /\ E5 12=ab r /\ E5 47=aa i /\ E5 52=.vec ns.length (au ns) /\ E5 53=aa ns.length /\ E5 54=aa v) (by simp only[go_sem,d2,d3,d4,d10,h47,h54]) fun E5 ⟨f2,f3,f4,f10,f12,f47,f52,f53,f54⟩=>?_
 refine W.vs ?_;by_cases hb3:(v:Int)<ns.length;rotate_left
 ·obtain rfl:v=ns.length:=by omega
  rw[Vz (by rw[oR];omega)]at hgy hnzv;have w1:=Vt ((i:Int)+1) (by omega);simp only[go_sem,f53,f54,f47,hb3,w1];refine⟨by omega,⟨i+1,rfl,by omega,by omega,holdy,?_,fun w hw=>?_⟩,by omega⟩
  ·rw[Ax hr,QO,<- he];exact hgy
  ·rw[Ax hr]at hw;rcases VP.1 hw with hw|hw
   ·exact hnz w hw
   ·exact hnzv w hw
 obtain⟨x,hx⟩:=get_of_lt (l:=ns) (i:=v) (by omega);have hxm:=Vs hx;have hin:ik x.parents ns.length:=fun q hq=>by have:=(nok.node x hxm).2.2 q hq;omega
 have sm:=tw nn8 (nok.node x hxm).2 fun y hy=>(nok.node y hy).1;obtain⟨i0,row,a,w,hR⟩:=A0 nok hx hfit;obtain⟨a',rfl⟩:=VU hR.a0;have hra:row[a']?=some w:=by have:=hR.hw;rw[Int.toNat_natCast]at this;exact this
 have hrane:=aJ hra;have hva:=hR.val;have hvne:=aJ hva;have hri:=mg hR.row;have hrine:=aJ hri;have hvv:(v:Int)<r.length:=by have:=get_lt hva;omega
 have hal:=hR.al;have hi0:(i0:Int)<x.rows.length:=by have:=get_lt hR.row;omega
 have e0:=kC hx;have e1:v*3+3<=(au ns).length:=by rw[fT];omega
 have hne:=eP hx;have q1:=ak ((holdy _ (by omega)).trans s1);have q1e:∀ L,(ext Hy L).live (H.next+1) 0=_:=fun L=>(fN (by omega)).trans q1;simp only[go_sem,f52,f53,f54,hb3,hne,e0,e1];refine W.draw 14 [0,1,0,4,0,16,0,124,255,511,0,0,3072,7168] Tryd.mixed (by kernel_rfl) (by kernel_rfl) ?_;simp only[go_sem,f3,f12,q1e,aB];refine⟨aa i0,[],df.pure (fun H2=>QQ ns x r hin sm hfit H2 _ ⟨by rw[hR.idx],rfl⟩),?_⟩;simp only[go_sem,f3,f12,hi0,hri,hrine,hva,hvne,hvv,hra,hrane,hal];obtain⟨Hn,hHn⟩:∃ Hn,Hn=ext Hy [.arr 0 53 [.lit (.int .i64 x.card),.vec x.parents.length (ints x.parents),aB x.rows]]:=⟨_,rfl⟩
 have nn1:Hn.next=Hy.next+1:=by rw[hHn];rfl
 have holdn:∀ id,id<H.next+3->Hn.get id=Hs.get id:=fun id h=>by rw[hHn,dV _ _ _ (by omega)];exact holdy id h
 have gn10:Hn.get (H.next+3)=some (.arr 0 57 (ints (bV g e ((dc ns r).take v)))):=by rw[hHn,dV _ _ _ (by omega)];exact hgy
 have fsm:=EC (g:=g) (r:=r) x40 nn8 (xs:=xs) i v;rw[<- he]at fsm;have r0:=ak ((holdn _ (by omega)).trans s0);have r2:=ak ((holdn _ (by omega)).trans s2);rw[show aB x.rows=.vec x.rows.length (x.rows.map ab) from rfl]at hHn;rw[<- hHn];by_cases hw0:w=0
 ·simp only[go_sem,hw0,f4,r2,zl,qJ];rw[QW hE0 hall (QP hr (get_lt hx) (by rw[hR.eq,hw0]))]at hK;exact av.bR aT hcl ⟨by rw[aE];omega,fun id h=>by rw[ag,Vw (by omega),holdn id (by omega)];exact oall.old id h⟩ (At bt _) hK
 have g60:=nok.g1;have wb:=hR.wb;simp only[go_sem,hw0,f10];refine aw.clo (Ex (H.next+3) _ w 1 (by omega) (.inl rfl) fsm.1 (fsm.2.mono (by omega)) Hn gn10 _ fun Hm gm holdm nm=>⟨trivial,?_⟩);have rm0:=ak ((holdm _ (by omega)).trans ((holdn _ (by omega)).trans s0));simp only[go_sem,f2,f10,rm0];refine aw.clo (Ex (H.next+3) _ g (-1) (by omega) (.inr rfl) (Ar ..) ((fsm.2.add (by omega) (.inl rfl) w).mono (by omega)) Hm gm _ fun Hm2 gm2 holdm2 nm2=>⟨trivial,?_⟩);have w1:=Vt ((v:Int)+1) (by omega);simp only[go_sem,f54,w1];refine⟨by omega,⟨v+1,rfl,by omega,by omega,fun id h=>by rw[holdm2 id (by omega),holdm id (by omega)];exact holdn id h,?_,fun q hq=>?_⟩,by rw[h54];simp only[aa,aN];omega⟩
 ·rw[aL (qX (get_lt hx)),QN,hR.eq];exact gm2
 ·rw[aL (qX (get_lt hx)),hR.eq]at hq;rcases VP.1 hq with hq|hq
  ·exact hnzv q hq
  ·obtain rfl:=List.mem_singleton.1 hq;exact hw0
def EB (w a n:Int):List AVal:=[.lit (.int .u8 w),.lit (.int .u8 a),.lit (.int .i64 n)]
end Go.Proofs
namespace Go.Hx
variable {P:Program} {G:Nat->Option (List AVal)}
theorem Vg {H:AHeap}(hc:Clo H):FzH (fun _=>False) H H where
 gone id hs:=hs.elim
 kept id b _ hb:=by
  have hbb:=hc.below id b hb;refine⟨hc.lt id b hb,b,hb,?_⟩;cases b with
  | rsv=>trivial
  | mp=>rfl
  | arr g e cells=>exact⟨rfl,rfl,rfl,fun i h _=>.dead (hbb i h)⟩
  | loop st pend n env ps asg body=>exact⟨rfl,rfl,rfl,rfl,rfl,rfl,rfl,fun t ht=>.dead (hbb t ht)⟩
 none id _ hb:=hb
theorem ae.tD {H:AHeap}{f:FuncId}{args args':List AVal}{K:ARes->AHeap->Prop}(hG:gE G)(hl:args'.length=args.length)(hv:∀ i (h:i<args.length) (h':i<args'.length),Fz (fun _=>False) H H.next args[i] args'[i])
  (h:ae P G f args' H K):ae P G f args H K:=by
 refine⟨h.1,fun Γ w cargs R hr=>?_⟩;have F:=Vg R.clo;have R0:=F.rel hG R;have E0:Evo Γ H w (fM (fun _=>False) Γ) H w:=F.aX;refine(h.2 _ w cargs R0 ⟨by have:=hr.1;omega,fun i h1 h2=>(hv i (by omega) h1).sound R F (hr.2 i (by omega) h2)⟩).mono ?_;rintro e w' ⟨r,H',Γ',h1,h2,h3,h4,h5⟩;exact⟨r,H',Γ',h1,h2,h3,E0.trans (Nat.le_refl _) h4,h5⟩
end Go.Hx
namespace Go.Hx
variable {P:Program}
structure OwnM (lo:Nat)(H:AHeap)(e1 e0:TypeId)(v:AVal)(ids:List Nat)(rows:List (List AVal)):Prop where
 len:ids.length=rows.length
 nd:ids.Nodup
 rng:∀ i∈ids,lo<=i/\i<H.next
 top:aC lo H e1 v (List.zipWith (fun i n=>AVal.own i 0 0 n 1) ids (rows.map List.length))
 row:∀ (k id:Nat) (r:List AVal),ids[k]?=some id->rows[k]?=some r->H.get id=some (.arr 0 e0 r)
theorem OwnM.nil {lo:Nat}{H:AHeap}{e1 e0:TypeId}:OwnM lo H e1 e0 (.lit (.slice none 0 0)) [] [] :=
 ⟨rfl,.nil,fun i h=>(by cases h),.nil,fun k id r h=>(by simp at h)⟩
theorem OwnM.keep {lo:Nat}{H H':AHeap}{e1 e0:TypeId}{v:AVal}{ids:List Nat}{rows:List (List AVal)}(h:OwnM lo H e1 e0 v ids rows)(hn:H.next<=H'.next)(hk:∀ id,lo<=id->id<H.next->H'.get id=H.get id):OwnM lo H' e1 e0 v ids rows :=
 ⟨h.len,h.nd,fun i hi=>⟨(h.rng i hi).1,by have:=(h.rng i hi).2;omega⟩,h.top.keep (Nat.le_refl _) hn fun id _ h1 h2 _ _=>hk id h1 h2,fun k id r h1 h2=>by
  have:=h.rng id (Vs h1);rw[hk id this.1 this.2];exact h.row k id r h1 h2⟩
theorem OwnM.app {lo n:Nat}{H:AHeap}{e1 e0:TypeId}{v:AVal}{ids:List Nat}{rows:List (List AVal)}{r:List AVal}{t:TypeId}{z:List AVal}(ht:P.underlying t=some (.slice e1))(hz:P.cellsOf e1=1)(hzero:bW P e1=some z)(hby:P.bytesOf e1=24)(hne:e1≠e0)
  (hb:rows.length<2 ^ 40) (h:OwnM lo H e1 e0 v ids rows) (hlo:lo<=H.next) (hn:n=H.next+2):
  ∃ v' H',bM P (ext (ext H [.arr 0 e0 r]) [.arr 0 e1 [.own H.next 0 0 r.length 1]]) n t t v (.own (H.next+1) 0 0 1 1)=some (v',H')/\OwnM lo H' e1 e0 v' (ids++[H.next]) (rows++[r])/\H.next<=H'.next/\(∀ k,k<H.next->k<lo->H'.get k=H.get k):=by
 obtain⟨Hb,hHb⟩:∃ Hb,Hb=ext H [.arr 0 e0 r]:=⟨_,rfl⟩
 have nb:Hb.next=H.next+1:=by rw[hHb];rfl
 have ob:Over H Hb:=by rw[hHb];exact .ext _ _
 have gb:Hb.get H.next=some (.arr 0 e0 r):=by rw[hHb];exact cS
 have htop:=h.top.over ob;obtain⟨v',H',hA,hO,hL,hp⟩:=jc (P:=P) (H:=Hb) (t:=t) (x:=.own H.next 0 0 r.length 1) (n:=n) ht hz hzero rfl (by rw[hby];simp [h.len];omega) htop (by omega) (by omega);rw[nb,hHb]at hA;have old:∀ id g,lo<=id->id<Hb.next->Hb.get id=some (.arr g e0 r)->H'.get id=Hb.get id:=fun id g h1 h2 h3=>hp id h2 fun g' m he=>by
  rcases htop with ⟨hv,_⟩|⟨i,g2,_,_,hv,h4⟩
  ·rw[hv]at he;cases he
  ·rw[hv]at he;obtain rfl:i=id:=(AVal.own.inj he).1;rw[h4]at h3;cases h3;exact hne rfl
 have oldr:∀ id g q,lo<=id->id<Hb.next->Hb.get id=some (.arr g e0 q)->H'.get id=Hb.get id:=fun id g q h1 h2 h3=>hp id h2 fun g' m he=>by
  rcases htop with ⟨hv,_⟩|⟨i,g2,_,_,hv,h4⟩
  ·rw[hv]at he;cases he
  ·rw[hv]at he;obtain rfl:i=id:=(AVal.own.inj he).1;rw[h4]at h3;cases h3;exact hne rfl
 refine⟨v',H',hA,⟨by simp [h.len],List.nodup_append.2 ⟨h.nd,by simp,fun a ha b hb=>by
  obtain rfl:=List.mem_singleton.1 hb;have:=(h.rng a ha).2;omega⟩,fun i hi=>?_,?_,fun k id q h1 h2=>?_⟩,by omega,fun k hk hkl=>?_⟩
 ·rcases VP.1 hi with h1|h1
  ·have:=h.rng i h1;omega
  ·obtain rfl:=List.mem_singleton.1 h1;omega
 ·rw[Wo,Zg (by rw[VD];exact h.len)];exact hO
 ·have hk:=Wm.1 h1;obtain⟨hk,_⟩:=hk;rw[List.length_append,Y4]at hk;rcases VR k ids.length with hlt|hge
  ·rw[VV hlt]at h1;rw[VV (by rw[<- h.len];exact hlt)]at h2;have hr:=h.rng id (Vs h1);have hg:=h.row k id q h1 h2;rw[oldr id 0 q hr.1 (by omega) ((ob.old id hr.2).trans hg),ob.old id hr.2];exact hg
  ·obtain rfl:k=ids.length:=(by omega);rw[VQ (Nat.le_refl _),W8]at h1;rw[h.len,VQ (Nat.le_refl _),W8]at h2;cases h1;cases h2;rw[oldr H.next 0 r hlo (by omega) gb];exact gb
 ·rw[hp k (by omega) fun g m he=>?_,ob.old k hk];rcases htop with ⟨hv,_⟩|⟨i,g2,a1,_,hv,h4⟩
  ·rw[hv]at he;cases he
  ·rw[hv]at he;have:=(AVal.own.inj he).1;omega
theorem OwnM.GQ {lo:Nat}{H:AHeap}{e1 e0:TypeId}{v:AVal}{ids:List Nat}{rows:List (List AVal)}(h:OwnM lo H e1 e0 v ids rows)(h0:rows≠[]):∃ id g,lo<=id/\id<H.next/\v=.own id g 0 rows.length 1/\H.get id=some (.arr g e1 (List.zipWith (fun i n=>AVal.own i 0 0 n 1) ids (rows.map List.length)))/\(e1≠e0->id ∉ ids):=by
 have hzl:(List.zipWith (fun i n=>AVal.own i 0 0 n 1) ids (rows.map List.length)).length=rows.length:=by simp [h.len]
 rcases h.top with ⟨hv,h4⟩|⟨i,g,a,b,hv,h4⟩
 ·rw[h4]at hzl;exact absurd (VK hzl.symm) h0
 ·refine⟨i,g,a,b,by rw[hv,hzl],h4,fun hne hm=>?_⟩;obtain⟨k,hk⟩:=V0.1 hm;have hkl:k<rows.length:=by rw[<- h.len];exact(Wm.1 hk).1
  have:=h.row k i _ hk (Vv hkl);rw[h4]at this;exact hne (Blk.arr.inj (Option.some.inj this)).2.1
theorem OwnM.store {lo:Nat}{H:AHeap}{e1 e0:TypeId}{v:AVal}{ids:List Nat}{rows:List (List AVal)}(h:OwnM lo H e1 e0 v ids rows)(hne:e1≠e0){k id:Nat}{r r':List AVal}(hk:ids[k]?=some id)(hr:rows[k]?=some r)(hl:r'.length=r.length):OwnM lo (H.upd id (.arr 0 e0 r')) e1 e0 v ids (rows.set k r'):=by
 have hid:=h.rng id (Vs hk);have h0:rows≠[]:=fun e=>by rw[e]at hr;simp at hr
 refine⟨by rw[VG];exact h.len,h.nd,fun i hi=>by rw[aE];exact h.rng i hi,?_,fun j id' q h1 h2=>?_⟩
 ·have e:(rows.set k r').map List.length=rows.map List.length:=by
   rw[Ys,hl];apply V9;intro i;rw[W3];split
   ·rename_i hi;subst hi;have hkl:=(Wm.1 hr).1;rw[Vx (by rw[VD];exact hkl),List.getElem?_map,hr];rfl
   ·rfl
  rw[e];obtain⟨i,g,a,b,_,h4,h5⟩:=h.GQ h0;refine h.top.keep (Nat.le_refl _) (by rw[aE];exact Nat.le_refl _) fun i2 g2 _ _ h3 _=>?_;rw[ag,Vw];rintro rfl;rw[h.row k i2 r hk hr]at h3;cases h3;exact hne rfl
 ·rw[ag];by_cases hj:j=k
  ·subst hj;rw[hk]at h1;cases h1;rw[VI (Wm.1 hr).1]at h2;cases h2;rw[Vx rfl]
  ·rw[VS (fun e=>hj e.symm)]at h2;rw[Vw,h.row j id' q h1 h2];rintro rfl;exact hj ((W4 (Wm.1 h1).1 h.nd).1 (by rw[h1,hk]))
theorem OwnM.fz {S:Nat->Prop}{lo nx:Nat}{H:AHeap}{e1 e0:TypeId}{v:AVal}{ids:List Nat}{rows:List (List AVal)}(h:OwnM lo H e1 e0 v ids rows)(hS:∀ i,lo<=i->S i)(hr:∀ r∈rows,∀ c∈r,Fz S H nx c c):
  Fz S H nx v (.vec rows.length (rows.map fun r=>.vec r.length r)):=by
 have hz:(List.zipWith (fun i n=>AVal.own i 0 0 n 1) ids (rows.map List.length)).length=rows.length:=by simp [h.len]
 have:=h.top.fz (S:=S) (nx:=nx) (cs':=rows.map fun r=>.vec r.length r) hS (by simp [h.len]) fun i hi hi'=>by
  simp only[VF,Zb];have hil:i<rows.length:=by omega
  have hii:i<ids.length:=by rw[h.len];exact hil
  refine .frz (hS _ (h.rng _ (Wh hii)).1) (h.row i _ _ (Vv hii) (Vv hil)) (by simp) fun j hj h2 h'=>?_;have e0:(0:Nat)+j=j:=Nat.zero_add j;have h3:=hr rows[i] (Wh hil) _ (Wh h');simpa only[e0] using h3
 rw[VD]at this;exact this
end Go.Hx
namespace Go.Hx
variable {P:Program} {G:Nat->Option (List AVal)}
def AHeap.iJ (H:AHeap)(n ob:Nat)(b:Blk):AHeap:=⟨fun id=>if id=ob then some b else if n<=id then none else H.get id,H.next⟩
theorem D7 {H:AHeap}{n ob:Nat}{b:Blk}:(H.iJ n ob b).get ob=some b:=by simp [AHeap.iJ]
theorem D8 {H:AHeap}{n ob id:Nat}{b:Blk}(h:id<n)(h2:id≠ob):(H.iJ n ob b).get id=H.get id:=by simp [AHeap.iJ,Nat.not_le.2 h,h2]
theorem PF {H:AHeap}(hc:Clo H){n ob g:Nat}{e:TypeId}{cells cells':List AVal}(hob:H.get ob=some (.arr g e cells))(hl:cells'.length=cells.length)
  (hcell:∀ i (h:i<cells.length) (h':i<cells'.length),Fz (fun id=>n<=id/\id≠ob) H H.next cells[i] cells'[i]):FzH (fun id=>n<=id/\id≠ob) H (H.iJ n ob (.arr g e cells')) where
 gone id hs:=by simp [AHeap.iJ,hs.1,hs.2]
 kept id b hs hb:=by
  have hbb:=hc.below id b hb;refine⟨hc.lt id b hb,?_⟩;by_cases h:id=ob
  ·subst h;rw[hob]at hb;cases hb;exact⟨.arr g e cells',D7,rfl,rfl,hl,hcell⟩
  ·have hn:¬ n<=id:=fun hn=>hs ⟨hn,h⟩;refine⟨b,by simp [AHeap.iJ,h,hn,hb],?_⟩;cases b with
   | rsv=>trivial
   | mp=>rfl
   | arr g e cells=>exact⟨rfl,rfl,rfl,fun i h _=>.dead (hbb i h)⟩
   | loop st pend n env ps asg body=>exact⟨rfl,rfl,rfl,rfl,rfl,rfl,rfl,fun t ht=>.dead (hbb t ht)⟩
 none id hs hb:=by
  by_cases h:id=ob
  ·subst h;rw[hob]at hb;cases hb
  ·have hn:¬ n<=id:=fun hn=>hs ⟨hn,h⟩;simp [AHeap.iJ,h,hn,hb]
theorem dD.iJ (hG:gE G){s:St}{n ob g:Nat}{e:TypeId}{cells cells':List AVal}(hob:s.H.get ob=some (.arr g e cells))(hl:cells'.length=cells.length)
  (hcell:(∀ c∈cells,Below s.H.next c)->∀ i (h:i<cells.length) (h':i<cells'.length),Fz (fun id=>n<=id/\id≠ob) s.H s.H.next cells[i] cells'[i]):dD P G s ⟨s.ρ,s.H.iJ n ob (.arr g e cells')⟩:=by
 intro n' wb Γ a w hs;exact dD.freeze (s:=s) (s':=⟨s.ρ,s.H.iJ n ob (.arr g e cells')⟩) hG (PF hs.heap.clo hob hl (hcell fun c hc=>by
  obtain⟨i,hi,rfl⟩:=List.mem_iff_getElem.1 hc;exact hs.heap.clo.below ob _ hob i hi)) (fun t=>.dead (hs.env t).p6) n' wb Γ a w hs
theorem PG {H:AHeap}{t e:TypeId}{n:Nat}{src:List AVal}{z:List AVal}(ht:P.underlying t=some (.slice e))(hz:P.cellsOf e=1)(hzero:bW P e=some z)(h0:0<src.length)
  (hb:src.length*P.bytesOf e<=2 ^ 46/\src.length<=2 ^ 46) (hn:n=H.next):bM P H n t t (.lit (.slice none 0 0)) (.vec src.length src)=some (.own n 0 0 src.length 1,ext H [.arr 0 e src]):=by
 have hsrc:cR H 1 (.vec src.length src)=some (src.length,src):=by
  unfold cR;simp
 unfold bM;rw[ht];simp only[hzero,hz,Option.bind_some];rw[hsrc];simp only[Option.bind_some];rw[Vw (by omega),Vx hb,uy hn];rfl
theorem OwnM.D9 {lo n:Nat}{H:AHeap}{e1 e0:TypeId}{v:AVal}{ids:List Nat}{rows:List (List AVal)}{r:List AVal}{t:TypeId}{z:List AVal}(h:OwnM lo H e1 e0 v ids rows)(ht:P.underlying t=some (.slice e1))(hz:P.cellsOf e1=1)(hzero:bW P e1=some z)(hby:P.bytesOf e1=24)(hne:e1≠e0)
  (hb:rows.length<2 ^ 40) (hlo:lo<=H.next) (hn:n=H.next+2):
  ∃ v' H',bM P (ext (ext H [.arr 0 e0 r]) [.arr 0 e1 [.own H.next 0 0 r.length 1]]) n t t v (.own (H.next+1) 0 0 1 1)=some (v',H')/\OwnM lo H' e1 e0 v' (ids++[H.next]) (rows++[r])/\H.next<=H'.next/\(∀ k,k<H.next->(∀ g n,v≠.own k g 0 n 1)->H'.get k=H.get k):=by
 obtain⟨v',H',hA,hO,hn',_⟩:=h.app (P:=P) (r:=r) ht hz hzero hby hne hb hlo hn;have nb:(ext H [.arr 0 e0 r]).next=H.next+1:=rfl;obtain⟨v2,H2,hA2,_,_,hp⟩:=jc (P:=P) (H:=ext H [.arr 0 e0 r]) (t:=t) (x:=.own H.next 0 0 r.length 1) (n:=n) ht hz hzero rfl (by rw[hby];simp [h.len];omega) (h.top.over (.ext _ _)) (by rw[nb];omega) (by rw[nb];omega);rw[nb]at hA2;have e:(v2,H2)=(v',H'):=Option.some.inj (hA2.symm.trans hA);cases e;exact⟨_,_,hA,hO,hn',fun k hk hne=>(hp k (by rw[nb];omega) hne).trans (dV _ _ _ hk)⟩
theorem OwnM.ne {lo:Nat}{H:AHeap}{e1 e0:TypeId}{v:AVal}{ids:List Nat}{rows:List (List AVal)}(h:OwnM lo H e1 e0 v ids rows){k g':Nat}{e:TypeId}{c:List AVal}(hk:H.get k=some (.arr g' e c))(he:e≠e1):∀ g n,v≠.own k g 0 n 1:=fun g n hv=>by
 rcases h.top with ⟨h1,_⟩|⟨i,g2,_,_,h1,h2⟩
 ·rw[h1]at hv;cases hv
 ·rw[h1]at hv;obtain rfl:=(AVal.own.inj hv).1;rw[hk]at h2;cases h2;exact he rfl
theorem W.vU {n:Nat}{rd:Option Nat}{Q:AX->St->Prop}{s:St}{x y:Code}(Φ:St->Prop)(h:W P G n rd x (fun ax s'=>ax=.normal/\Φ s') s)(h2:∀ s',Φ s'->W P G n rd y Q s'):W P G n rd (.seq x y) Q s :=
 W.seq (h.mono fun ax s' ⟨e,hp⟩=>by subst e;exact h2 s' hp)
theorem dD.same {s:St}:dD P G s s:=by
 intro n wb Γ a w hs;exact⟨Γ,hs,.refl _ _ _,fun _ _ h _=>h⟩
end Go.Hx
namespace Go.Proofs
open Go.Hx
structure NodO (lo:Nat)(H:AHeap)(pv rv:AVal)(ids:List Nat)(x:NodeP):Prop where
 par:aC lo H 3 pv (ints x.parents)
 rows:OwnM lo H 39 3 rv ids (x.rows.map ints)
 dj:∀ id g n,pv=.own id g 0 n 1->id ∉ ids
 nil:x.rows=[]->rv=.lit (.slice none 0 0)
theorem NodO.keep {lo:Nat}{H H':AHeap}{pv rv:AVal}{ids:List Nat}{x:NodeP}(h:NodO lo H pv rv ids x)(hn:H.next<=H'.next)(hk:∀ id,lo<=id->id<H.next->H'.get id=H.get id):NodO lo H' pv rv ids x :=
 ⟨h.par.keep (Nat.le_refl _) hn fun id _ h1 h2 _ _=>hk id h1 h2,h.rows.keep hn hk,h.dj,h.nil⟩
theorem NodO.over {lo:Nat}{H H':AHeap}{pv rv:AVal}{ids:List Nat}{x:NodeP}(h:NodO lo H pv rv ids x)(o:Over H H'):NodO lo H' pv rv ids x:=h.keep o.next fun id _ h2=>o.old id h2
theorem NodO.keepE {lo:Nat}{H H':AHeap}{pv rv:AVal}{ids:List Nat}{x:NodeP}(h:NodO lo H pv rv ids x)(hn:H.next<=H'.next)(hk:∀ id g e c,lo<=id->id<H.next->H.get id=some (.arr g e c)->e≠53->H'.get id=H.get id):NodO lo H' pv rv ids x :=
 ⟨h.par.keep (Nat.le_refl _) hn fun id g h1 h2 h3 _=>hk id g _ _ h1 h2 h3 (by decide),⟨h.rows.len,h.rows.nd,fun i hi=>⟨(h.rows.rng i hi).1,by have:=(h.rows.rng i hi).2;omega⟩,h.rows.top.keep (Nat.le_refl _) hn fun id g h1 h2 h3 _=>hk id g _ _ h1 h2 h3 (by decide),fun k id r h1 h2=>by
  have h3:=h.rows.rng id (Vs h1);have h4:=h.rows.row k id r h1 h2;rw[hk id _ _ _ h3.1 h3.2 h4 (by decide)];exact h4⟩,h.dj,h.nil⟩
theorem vV {lo:Nat}{H:AHeap}{e1 e0:TypeId}{v:AVal}{ids:List Nat}{rows:List (List AVal)}(h:OwnM lo H e1 e0 v ids rows):v.one=true/\v.cells=[v]:=⟨h.top.one,h.top.cells⟩
theorem Ea {S:Nat->Prop}{lo nx:Nat}{H:AHeap}{e:TypeId}{v:AVal}{cs cs':List AVal}(h:aC lo H e v cs)(hS:∀ i g,lo<=i->i<H.next->H.get i=some (.arr g e cs)->S i)(hl:cs'.length=cs.length)
  (hc:∀ i (h:i<cs.length) (h':i<cs'.length),Fz S H nx cs[i] cs'[i]):Fz S H nx v (.vec cs'.length cs'):=by
 rcases h with ⟨rfl,rfl⟩|⟨id,g,h1,h2,rfl,h4⟩
 ·obtain rfl:=VK hl;exact .nil
 ·rw[hl];refine .frz (hS id g h1 h2 h4) h4 (by omega) fun j hj h2 h'=>?_;simp only[Nat.zero_add]at h2 ⊢;exact hc j h2 h'
def sY (S:Nat->Prop)(lo:Nat)(H:AHeap):Prop:=∀ i g e c,lo<=i->i<H.next->H.get i=some (.arr g e c)->e≠53->S i
theorem NodO.sZ {S:Nat->Prop}{lo nx:Nat}{H:AHeap}{pv rv:AVal}{ids:List Nat}{x:NodeP}(h:NodO lo H pv rv ids x)(hS:sY S lo H):Fz S H nx pv (ab x.parents):=by
 have:=Ea (S:=S) (nx:=nx) (cs':=ints x.parents) h.par (fun i g h1 h2 h3=>hS i g _ _ h1 h2 h3 (by decide)) rfl fun i hi _=>by simp only[ints,VF];exact .lit _
 rw[aR]at this;exact this
theorem NodO.PH {S:Nat->Prop}{lo nx:Nat}{H:AHeap}{pv rv:AVal}{ids:List Nat}{x:NodeP}(h:NodO lo H pv rv ids x)(hS:sY S lo H):Fz S H nx rv (aB x.rows):=by
 have hl:=h.rows.len;rw[VD]at hl;have:=Ea (S:=S) (nx:=nx) (cs':=x.rows.map ab) h.rows.top (fun i g h1 h2 h3=>hS i g _ _ h1 h2 h3 (by decide)) (by simp [hl]) fun i hi hi'=>by
  have hil:i<x.rows.length:=by simpa using hi'
  have hii:i<ids.length:=by omega
  simp only[VF,Zb,aR];have hid:=h.rows.rng _ (Wh hii);have hrow:=h.rows.row i _ _ (Vv hii) (show (x.rows.map ints)[i]?=some (ints x.rows[i]) by rw[List.getElem?_map,Vv hil];rfl);refine .frz (hS _ _ _ _ hid.1 hid.2 hrow (by decide)) hrow (by simp [aR]) fun j hj h2 h'=>?_;simp only[ints,VF];have e0:0+j=j:=Nat.zero_add j;simp only[e0];exact .lit _
 rw[VD]at this;exact this
theorem NodO.oI {S:Nat->Prop}{lo nx:Nat}{H:AHeap}{pv rv:AVal}{ids:List Nat}{x:NodeP}(h:NodO lo H pv rv ids x)(hS:sY S lo H):Fz S H nx rv (bI x):=by
 unfold bI;split
 ·rename_i e;rw[h.nil e];exact .lit _
 ·exact h.PH hS
theorem NodO.low {lo lo':Nat}{H:AHeap}{pv rv:AVal}{ids:List Nat}{x:NodeP}(h:NodO lo H pv rv ids x)(hl:lo'<=lo):NodO lo' H pv rv ids x :=
 ⟨h.par.keep hl (Nat.le_refl _) fun _ _ _ _ _ _=>rfl,⟨h.rows.len,h.rows.nd,fun i hi=>⟨by have:=(h.rows.rng i hi).1;omega,(h.rows.rng i hi).2⟩,h.rows.top.keep hl (Nat.le_refl _) fun _ _ _ _ _ _=>rfl,h.rows.row⟩,h.dj,h.nil⟩
end Go.Proofs
