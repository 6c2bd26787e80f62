/- Own work: contracts. -/
import Derived.Test.YtebhdkihcdmmjaaGreatConG
import Derived.Test.YtebhdkihcdmmjaaGreatConF
import Derived.Test.YtebhdkihcdmmjaaGreatConA
import Derived.Test.YtebhdkihcdmmjaaGreatLibC
import Derived.Test.YtebhdkihcdmmjaaGreatLibB
import Derived.Test.YtebhdkihcdmmjaaGreatConB
set_option linter.all false
set_option maxHeartbeats 8000000
set_option maxRecDepth 100000
namespace Go.Proofs
open Go.Hx Tryz
variable {l:List Nat}{g i id j k n:Nat}{f:Nat->Nat}{H:ZK}
def qp (l:List Nat)(i j:Nat):List Nat:=(l.set i (l.getD j 0)).set j (l.getD i 0)
def TL (hi:i<l.length)(hj:j<l.length)(hij:i≠j)(a:Nat):(qp l i j).getD a 0=if a=j then l.getD i 0 else if a=i then l.getD j 0 else l.getD a 0:=by
 unfold qp;rw[nC _ _ _ _ _ (by rw[VF];exact hj),nC _ _ _ _ _ hi];by_cases h1:a=j
 ·rw[Vh h1,Vh h1.symm]
 ·rw[Vg h1,Vg fun h=>h1 h.symm];by_cases h2:a=i
  ·rw[Vh h2,Vh h2.symm]
  ·rw[Vg h2,Vg fun h=>h2 h.symm]
def sk (f:Nat->Nat)(l:List Nat)(n:Nat):Prop:=∀a b,a<b->b<n->f (l.getD a 0)<=f (l.getD b 0)
def ug (f:Nat->Nat)(l:List Nat)(i j:Nat):Prop:=(∀a b,a<b->b<=i->a≠j->b≠j->f (l.getD a 0)<=f (l.getD b 0))/\∀b,j<b->b<=i->f (l.getD j 0)<=f (l.getD b 0)
def TM (h:sk f l i):ug f l i i:=⟨fun a b h1 h2 h3 h4=>h a b h1 V,fun b h1 h2=>V⟩
def TN (h:ug f l i j)(hj:j<=i)(hd:j=0\/f (l.getD (j-1) 0)<=f (l.getD j 0)):sk f l (i+1):=by
 intro a b h1 h2;by_cases hb:b=j
 ·subst hb;rcases hd with h0|h0
  ·omega
  ·by_cases ha:a=b-1
   ·rw[ha];exact h0
   ·exact VM (h.1 a (b-1) V V V V) h0
 ·by_cases ha:a=j
  ·subst ha;exact h.2 b h1 (V)
  ·exact h.1 a b h1 V ha hb
def TO (h:ug f l i j)(hj:j<=i)(hi:i<l.length)(h0:0<j)(hlt:f (l.getD j 0)<f (l.getD (j-1) 0)):ug f (qp l j (j-1)) i (j-1):=by
 have g:=TL (l:=l) (i:=j) (j:=j-1) V V V;constructor
 ·intro a b h1 h2 h3 h4;rw[g a,g b,Vg h3,Vg h4];by_cases ha:a=j
  ·rw[Vh ha,Vg V];exact h.1 (j-1) b V h2 V (V)
  ·rw[Vg ha];by_cases hb:b=j
   ·rw[Vh hb];exact h.1 a (j-1) V V ha (V)
   ·rw[Vg hb];exact h.1 a b h1 h2 ha hb
 ·intro b h1 h2;rw[g (j-1),Vh rfl,g b,Vg V];by_cases hb:b=j
  ·rw[Vh hb];exact X4 hlt
  ·rw[Vg hb];exact h.2 b V h2
def TW (hi:i<l.length)(hj:j<l.length):(qp l i j).Perm l:=by
 unfold qp;rw[Vj,Vj,Vf hi,Vf hj];exact List.set_set_perm hi hj
def sr (h:i<l.length):l[i]?=some (l.getD i 0):=by
 rw[Vj,Vf h];rfl
def xk {b:ZR}(h:H.get id=some b):H.upd id b=H:=by
 have e:(fun j=>if j=id then some b else H.get j)=H.get:=by
  funext j
  by_cases hj:j=id
  ·rw[Vh hj,hj,h]
  ·rw[Vg hj]
 show ZK.mk (fun j=>if j=id then some b else H.get j) H.A=H;rw[e]
def xm (H:ZK)(id:Nat)(b c:ZR):(H.upd id b).upd id c=H.upd id c:=by
 unfold ZK.upd;congr 1
 funext j
 by_cases hj:j=id<;>simp[hj]
def cI (l:List Nat):List ZL:=l.map fun (n:Nat)=>aa (n:Int)
def pN (l:List Nat):(cI l).length=l.length:=by simp[cI]
def oy (h:i<l.length):(cI l)[i]?=some (aa (l.getD i 0:Nat)):=by
 unfold cI;rw[List.getElem?_map,sr h];rfl
def vI (l:List Nat):cI l=ints (aE l):=by unfold cI ints aE;rw[XW];rfl
def zB {a:Nat}(h:i<l.length):setAt (cI l) i [aa (a:Int)]=cI (l.set i a):=by
 rw[vI];show setAt (ints (aE l)) i [.lit (.int .i64 (a:Int))]=_;rw[iR (by simpa[aE] using h),vI];congr 1;unfold aE;rw[X6]
structure nno (l:List Nat)(j k:Nat)(s:List Nat):Prop where
 len:s.length=l.length
 kj:k<j
 k1:1<=k
 jl:j<=l.length
 rest:∀i,k<=i->s.getD i 0=l.getD i 0
 inc:∀a b,a<b->b<k->s.getD a 0<s.getD b 0
 mem:∀q,(∃a,a<k/\s.getD a 0=q)↔∃a,a<j/\l.getD a 0=q
 last:s.getD (k-1) 0=l.getD (j-1) 0
def ry (l:List Nat):Prop:=∀a b,a<b->b<l.length->l.getD a 0<=l.getD b 0
def nno.start (hs:ry l)(hk:1<=k)(hkl:k<l.length)(hd:∀a,1<=a->a<k->l.getD a 0≠l.getD (a-1) 0)(he:l.getD k 0=l.getD (k-1) 0):nno l (k+1) k l:=by
 refine⟨rfl,Wi k,hk,hkl,fun _ _=>rfl,fun a b h1 h2=>?_,fun q=>?_,by rw[WM,he]⟩
 ·have h3:=hd b V h2;have h4:=hs (b-1) b V V;have h5:l.getD a 0<=l.getD (b-1) 0:=by
   by_cases e:a=b-1
   ·rw[e];exact Nat.le_refl _
   ·exact hs a (b-1) V (V)
  omega
 ·constructor
  ·rintro⟨a,h1,h2⟩;exact⟨a,V,h2⟩
  ·rintro⟨a,h1,h2⟩;by_cases e:a=k
   ·exact⟨k-1,V,by rw[<- he,<- e];exact h2⟩
   ·exact⟨a,V,h2⟩
def nno.same {s:List Nat}(h:nno l j k s)(hj:j<l.length)(he:l.getD j 0=l.getD (j-1) 0):nno l (j+1) k s:=by
 have hkj:=h.kj;have hk1:=h.k1;refine⟨h.len,V,h.k1,hj,h.rest,h.inc,fun q=>?_,by rw[WM,he];exact h.last⟩;rw[h.mem q];constructor
 ·rintro⟨a,h1,h2⟩;exact⟨a,V,h2⟩
 ·rintro⟨a,h1,h2⟩;by_cases e:a=j
  ·exact⟨j-1,V,by rw[<- he,<- e];exact h2⟩
  ·exact⟨a,V,h2⟩
def nno.A (hs:ry l){s:List Nat}(h:nno l j k s)(hj:j<l.length)(hn:l.getD j 0≠l.getD (j-1) 0):nno l (j+1) (k+1) (s.set k (l.getD j 0)):=by
 have hkj:=h.kj;have hk1:=h.k1;have hsl:=h.len;have g:∀i,(s.set k (l.getD j 0)).getD i 0=if k=i then l.getD j 0 else s.getD i 0:=fun i=>nC _ _ _ _ _ (V)
 have hlt:l.getD (j-1) 0<l.getD j 0:=by
  have:=hs (j-1) j V hj;omega
 refine⟨by rw[VF];exact hsl,V,V,hj,fun i hi=>?_,fun a b h1 h2=>?_,fun q=>?_,by rw[WM,WM,g,Vh rfl]⟩
 ·rw[g,Vg V];exact h.rest i (V)
 ·rw[g,g,Vg V];by_cases e:b=k
  ·rw[Vh e.symm];have h3:s.getD a 0<=s.getD (k-1) 0:=by
    by_cases e2:a=k-1
    ·rw[e2];exact Nat.le_refl _
    ·exact X4 (h.inc a (k-1) V V)
   rw[h.last]at h3;omega
  ·rw[Vg fun h=>e h.symm];exact h.inc a b h1 (V)
 ·constructor
  ·rintro⟨a,h1,h2⟩;rw[g]at h2;by_cases e:k=a
   ·rw[Vh e]at h2;exact⟨j,V,h2⟩
   ·rw[Vg e]at h2;obtain⟨b,h3,h4⟩:=(h.mem q).1 ⟨a,V,h2⟩;exact⟨b,V,h4⟩
  ·rintro⟨a,h1,h2⟩;by_cases e:a=j
   ·exact⟨k,V,by rw[g,Vh rfl,<- e];exact h2⟩
   ·obtain⟨b,h3,h4⟩:=(h.mem q).2 ⟨a,V,h2⟩;exact⟨b,V,by rw[g,Vg V];exact h4⟩
structure Comp (l r:List Nat):Prop where
 inc:r.Pairwise (·<·)
 mem:∀q,q∈r↔q∈l
def Dy {q:Nat}:q∈l↔∃a,a<l.length/\l.getD a 0=q:=by
 constructor
 ·intro h;obtain⟨a,ha⟩:=Vl.1 h;exact⟨a,aO ha,gD ha⟩
 ·rintro⟨a,h1,rfl⟩;exact an (sr h1)
def nno.done {s:List Nat}(h:nno l l.length k s):Comp l (s.take k):=by
 have hkj:=h.kj;have hsl:=h.len;have g:∀a,a<k->(s.take k).getD a 0=s.getD a 0:=fun a ha=>by
  rw[Vj,Vj,Vz ha]
 have hl:(s.take k).length=k:=by rw[Vv];omega
 refine⟨Ws.2 fun a b ha hb hab=>?_,fun q=>?_⟩
 ·have e1:=sr (l:=s.take k) ha;have e2:=sr (l:=s.take k) hb;rw[Vf ha]at e1;rw[Vf hb]at e2;rw[Option.some.inj e1,Option.some.inj e2,g a V,g b V];exact h.inc a b hab (V)
 ·rw[Dy,Dy,<- h.mem q,hl];constructor
  ·rintro⟨a,h1,h2⟩;exact⟨a,h1,by rw[<- g a h1];exact h2⟩
  ·rintro⟨a,h1,h2⟩;exact⟨a,h1,by rw[g a h1];exact h2⟩
def Dz (hs:ry l)(hd:∀a,1<=a->a<l.length->l.getD a 0≠l.getD (a-1) 0):Comp l l:=by
 refine⟨Ws.2 fun a b ha hb hab=>?_,fun q=>Iff.rfl⟩;have e1:=sr (l:=l) ha;have e2:=sr (l:=l) hb;rw[Vf ha]at e1;rw[Vf hb]at e2;rw[Option.some.inj e1,Option.some.inj e2];have h3:=hd b V hb;have h4:=hs (b-1) b V hb;have h5:l.getD a 0<=l.getD (b-1) 0:=by
  by_cases e:a=b-1
  ·rw[e];exact Nat.le_refl _
  ·exact hs a (b-1) V (V)
 omega
def PA (h:sk (fun a=>a) l l.length):ry l:=h
def PB {ps:List Int}{S:Nat}(hp:bW ps n)(hS:S<2 ^ n){r:List Nat}(hl:∀q,q∈l↔(q:Int)∈ps\/S.testBit q=true)(h:Comp l r):aE r=dQ (bF ps |||S) n:=by
 refine Ds ?_ (Ag _ _) fun q=>?_
 ·unfold aE;exact List.Pairwise.map _ (R:=(·<·)) (fun a b h=>V) h.inc
 ·rw[lE];unfold aE;constructor
  ·intro hq;obtain⟨v,hv,rfl⟩:=Vu.1 hq;have h1:=(hl v).1 ((h.mem v).1 hv);refine⟨v,rfl,?_,?_⟩
   ·rcases h1 with h1|h1
    ·have:=hp.2 _ h1;omega
    ·exact Wr fun hn=>by
      rw[Wy (Vn hS (Vr ZH hn))]at h1;cases h1
   ·rw[Vy,VN];refine h1.imp (fun h1=>?_) (fun h2=>h2);rw[iD fun p hq=>(hp.2 p hq).1];exact VD h1
  ·rintro⟨v,rfl,_,hb⟩;refine Vu.2 ⟨v,(h.mem v).2 ((hl v).2 ?_),rfl⟩;rw[Vy,VN]at hb;refine hb.imp (fun h1=>?_) (fun h2=>h2);rw[iD fun p hq=>(hp.2 p hq).1]at h1;exact of_decide_eq_true h1
def TX {s:ByteArray}{F:ZL->Prop}(hs:s.size=256)(hi:i<256)(h:∀L:Nat,L<256->F (.lit (.int .u8 (L:Int)))):bj (pr prog 9 (.lit (.string s)) (.lit (.int .u8 (i:Int)))) F:=by
 have ix:pr prog 9 (.lit (.string s)) (.lit (.int .u8 (i:Int)))=some (.lit (.int .u8 (((s[i]!).toNat:Nat):Int))):=by
  unfold pr;simp only[];have e1:s[i]?=some s[i]!:=by
   rw[getElem!_pos s i V];exact getElem?_pos s i (V)
  have ht:prog.underlying 9=some .string:=Tryz.underlying9;simp[Instr.index,asIntOf,underlying,program,ht,aP,bind,Sem.bind,pure,e1]
 rw[ix,oh];exact h _ (UInt8.toNat_lt _)
def TY (h12:n<=12)(H:ZK)(K:ZQ->ZK->Prop)(hK:∀L:Nat,L<256->K (.ret (aa L)) H):ae prog G0 162 [.lit (.int .u64 (n:Int))] H K:=by
 have h1:¬(4294967296:Int)<=(n:Int):=V
 have h2:¬(65536:Int)<=(n:Int):=V
 have h3:¬(256:Int)<=(n:Int):=V
 have ww:IntKind.u8.wrap ((n:Nat):Int)=(n:Int):=by simp[IntKind.wrap,IntKind.bits,IntKind.signed];omega
 refine ae.sw (n:=25) (rs:=[.tmp 2]) func162 ?_;refine W.sq ?_;simp only[go_sem];refine W.sq ?_;simp only[go_sem,h1];refine W.sq ?_;simp only[go_sem,h2];refine W.sq ?_;simp only[go_sem,h3];refine W.vs ?_;simp only[go_sem,ww];refine TX ZI V fun L hL=>?_;have w:IntKind.i64.wrap (0+(L:Int))=(L:Int):=by rw[YJ];exact Vd (L:Int) (V)
 have w0:=Vd (L:Int) V;simp only[go_sem,w0,w];exact aj.mk ZJ (hK L hL)
def TZ (h12:n<=12)(H:ZK)(K:ZQ->ZK->Prop)(hK:∀L:Nat,L<256->K (.ret (aa L)) H):ae prog G0 127 [.lit (.int .u64 (n:Int))] H K:=by
 refine ae.sw (n:=8) (rs:=[.tmp 2]) func127 ?_;refine W.vs ?_;simp only[go_sem];refine ak.X (TY h12 H _ fun L hL=>⟨trivial,?_⟩);simp only[go_sem];exact aj.mk ZJ (hK L hL)
def PF (a:Int)(H:ZK)(K:ZQ->ZK->Prop)(hK:K (.ret (.lit (.bool false))) H):ae prog G0 183 [aa a] H K:=by
 have h0:(a == a)=true:=ZG
 refine ae.st (n:=6) (rs:=[.tmp 2]) func183 ?_;simp only[go_sem];exact aj.mk ZJ hK
def PG (a b:Int)(H:ZK)(K:ZQ->ZK->Prop)(hK:K (.ret (.lit (.bool (decide (a<b))))) H):ae prog G0 158 [aa a,aa b] H K:=by
 refine ae.st (n:=17) (rs:=[.tmp 4]) func158 ?_;simp only[go_sem];refine ak.X (PF a H _ ⟨trivial,?_⟩);simp only[go_sem];by_cases h:a<b
 ·rw[VD h]at hK;simp only[go_sem,h];exact aj.mk ZJ hK
 ·rw[V7 h]at hK;simp only[go_sem,h];exact aj.mk ZJ hK
def PH (hl:l.length<=64)(hm:∀a∈l,a<64)(H:ZK)(hid:H.get id=some (.J g 3 (cI l)))(K:ZQ->ZK->Prop)
  (hK:∀l' H',H'=H.upd id (.J g 3 (cI l'))->l'.Perm l->sk (fun a=>a) l' l.length->K (.ret (.nc [])) H'):
  ae prog G0 152 [.U id g 0 l.length 1,aa 0,aa l.length] H K:=by
 refine ae.sw (n:=49) (rs:=[]) func152 ?_;refine W.sq ?_;simp only[go_sem];refine W.env fun E hE=>?_;have e0:E 0=.U id g 0 l.length 1:=by rw[hE];simp only[go_sem]
 have e1:E 1=aa 0:=by rw[hE];simp only[go_sem]
 have e2:E 2=aa l.length:=by rw[hE];simp only[go_sem]
 have e6:E 6=aa 1:=by rw[hE];simp only[go_sem];rfl
 clear hE;refine W.block ?_;refine W.aS 562949953420480 (by rfl) (fun ρ Hx=>∃(i:Nat) (q:List Nat),ρ 6=aa i/\1<=i/\(i=1\/i<=l.length)/\q.Perm l/\sk (fun a=>a) q i/\Hx=H.upd id (.J g 3 (cI q))) (fun ρ Hx=>l.length-(iv (ρ 6)).toNat) ?_ ?_
 ·refine⟨1,l,e6,V,.inl rfl,.refl _,fun a b h1 h2=>V,(xk hid).symm⟩
 rintro ρ Hx ⟨i,q,h6,hi1,hi,hq,hS,hHx⟩;have ql:=hq.length_eq;refine W.en (fun E1=>E1 0=.U id g 0 l.length 1 /\ E1 1=aa 0 /\ E1 2=aa l.length /\ E1 6=aa i) (by simp only[go_sem,e0,e1,e2,h6]) fun E1 ⟨f0,f1,f2,f6⟩=>?_
 by_cases hb:(i:Int)<l.length;rotate_left
 ·refine W.vs ?_;simp only[go_sem,f6,f2,hb];refine aj.mk (by rw[hHx,aQ];exact Nat.le_refl _) (hK q Hx hHx hq fun a b h1 h2=>?_);rcases hi with h|h
  ·omega
  ·exact hS a b h1 (V)
 refine W.sq ?_;simp only[go_sem,f6,f2,hb];refine W.seq (W.block ?_);refine W.sq ?_;simp only[go_sem,f6];refine W.en (fun E2=>E2 0=.U id g 0 l.length 1 /\ E2 1=aa 0 /\ E2 2=aa l.length /\ E2 6=aa i /\ E2 7=aa i) (by simp only[go_sem,f0,f1,f2,f6]) fun E2 ⟨m0,m1,m2,m6,m7⟩=>?_
 refine W.block ?_;refine W.aS 562949953355904 (by rfl) (fun ρ Hz=>∃(j:Nat) (p:List Nat),ρ 7=aa j/\j<=i/\p.Perm l/\ug (fun a=>a) p i j/\Hz=H.upd id (.J g 3 (cI p))) (fun ρ Hz=>(iv (ρ 7)).toNat) ?_ ?_
 ·exact⟨i,q,m7,ZJ,hq,TM hS,hHx⟩
 rintro ρ2 Hz ⟨j,p,h7,hj,hp,hIn,hHz⟩;have pl:=hp.length_eq;refine W.en (fun E3=>E3 0=.U id g 0 l.length 1 /\ E3 1=aa 0 /\ E3 2=aa l.length /\ E3 6=aa i /\ E3 7=aa j) (by simp only[go_sem,m0,m1,m2,m6,h7]) fun E3 ⟨u0,u1,u2,u6,u7⟩=>?_
 have gz:Hz.get id=some (.J g 3 (cI p)):=by rw[hHz,ah,Vh rfl]
 have lz:=ag gz;have plen:=pN p;refine W.seq (W.tt (fun s'=>s'.H=Hz/\s'.ρ 0=.U id g 0 l.length 1/\s'.ρ 6=aa i/\s'.ρ 7=aa j/\s'.ρ 30=.lit (.bool (decide (0<j) && decide (p.getD j 0<p.getD (j-1) 0)))) ?_ ?_)
 ·refine W.dr 13 [0,0,3,7,15,15,63,127,15,15,527,1807,3855] mixed ?_;by_cases hjb:(j:Int) > 0
  ·have wj:=Vd ((j:Int)-1) V;have cj:((j:Int)-1).toNat=j-1:=V;have gj:=oy (l:=p) (i:=j) V;have gj1:=oy (l:=p) (i:=j-1) V;have gjn:=aZ gj;have gj1n:=aZ gj1;have b1:(j:Int)<l.length:=V;have b2:(j:Int)-1<l.length:=V;have b3:(0:Int)<=(j:Int)-1:=V;simp only[go_sem,u0,u1,u7,lz,hjb,wj,cj,gj,gj1,b1,b2,b3];refine ak.X (PG _ _ Hz _ ⟨trivial,?_⟩);have hd1:decide (0<j)=true:=VD V;rw[hd1];by_cases hlt:p.getD j 0<p.getD (j-1) 0
   ·have hlt':((p.getD j 0:Nat):Int)<(p.getD (j-1) 0:Nat):=V;rw[VD hlt,VD hlt'];simp only[go_sem,u0,u6,u7]
    try rfl
   ·have hlt':¬((p.getD j 0:Nat):Int)<(p.getD (j-1) 0:Nat):=V;rw[V7 hlt,V7 hlt'];simp only[go_sem,u0,u6,u7]
    try rfl
  ·simp only[go_sem,u0,u1,u6,u7,hjb];have hj0:j=0:=V;subst hj0;rfl
 rintro⟨ρ3,Hq⟩ ⟨hHq,v0,v6,v7,v30⟩;simp only at hHq v0 v6 v7 v30;rw[hHq];clear hHq Hq;cases hfl:(decide (0<j) && decide (p.getD j 0<p.getD (j-1) 0)) with
 |false =>
  rw[hfl]at v30;refine W.cond (t:=false) v30 ?_;refine W.vs ?_;simp only[go_sem];have wi:=Vd ((i:Int)+1) V;have hd:j=0\/p.getD (j-1) 0<=p.getD j 0:=by
   by_cases h0:j=0
   ·exact .inl h0
   ·rw[VD (by omega:0<j),Bool.true_and,Yu]at hfl;exact .inr (V)
  have hS':=TN hIn hj hd;refine W.vs ?_;simp only[go_sem,v6,wi];exact⟨by rw[hHz,aQ];exact Nat.le_refl _,⟨i+1,p,rfl,V,.inr V,hp,hS',hHz⟩,by rw[h6];simp only[aa,bf];omega⟩
 |true =>
  rw[hfl]at v30;refine W.cond (t:=true) v30 ?_;have hfl2:0<j/\p.getD j 0<p.getD (j-1) 0:=by simpa using hfl
  have wj:=Vd ((j:Int)-1) V;have cj:((j:Int)-1).toNat=j-1:=V
  have gj:=oy (l:=p) (i:=j) V;have gj1:=oy (l:=p) (i:=j-1) V;have gjn:=aZ gj;have gj1n:=aZ gj1;have b1:(j:Int)<l.length:=V
  have b2:(j:Int)-1<l.length:=V
  have b3:(0:Int)<=(j:Int)-1:=V
  have s1:setAt (cI p) j [.lit (.int .i64 ((p.getD (j-1) 0:Nat):Int))]=cI (p.set j (p.getD (j-1) 0)):=zB V;have s2:setAt (cI (p.set j (p.getD (j-1) 0))) (j-1) [.lit (.int .i64 ((p.getD j 0:Nat):Int))]=cI (qp p j (j-1)):=zB (by rw[VF];omega);have plen2:=pN (p.set j (p.getD (j-1) 0));rw[VF]at plen2;refine W.vs ?_;simp only[go_sem];refine W.seq (W.block ?_);refine W.dr 16 [0,0,0,0,8,0,0,64,224,480,0,0,3072,7168,16355,32739] mixed ?_;simp only[go_sem,v0,v7,lz,plen,pl,wj,cj,gj,gj1,b1,b2,b3,s1,s2,plen2];refine⟨V,V,sU _ _ _ (by rfl) ?_⟩;simp only[go_sem,v7,wj];refine⟨by rw[hHx,hHz];simp only[aQ];exact Nat.le_refl _,⟨j-1,qp p j (j-1),?_,V,(TW V V).trans hp,TO hIn hj V hfl2.1 hfl2.2,?_⟩,by rw[h7];simp only[aa,bf];omega⟩
  ·congr 2;omega
  ·rw[hHz,xm,xm]
def PI {L:Nat}(h12:l.length<=12)(hm:∀a∈l,a<64)(H:ZK)(hid:H.get id=some (.J g 3 (cI l)))(K:ZQ->ZK->Prop)
  (hK:∀l' H',H'=H.upd id (.J g 3 (cI l'))->l'.Perm l->sk (fun a=>a) l' l.length->K (.ret (.nc [])) H'):
  ae prog G0 126 [.U id g 0 l.length 1,aa 0,aa l.length,aa L] H K:=by
 have wn:IntKind.i64.wrap ((l.length:Int)-0)=(l.length:Int):=by rw[Zn];exact Vd (l.length:Int) (V)
 have hb:(l.length:Int)<=12:=V
 refine ae.sw (n:=134) (rs:=[]) func126 ?_;refine W.sq ?_;simp only[go_sem];refine W.sq ?_;simp only[go_sem];refine W.en (fun E=>E 0=.U id g 0 l.length 1 /\ E 1=aa 0 /\ E 2=aa l.length) (by simp only[go_sem]) fun E ⟨e0,e1,e2⟩=>?_
 refine W.block ?_;refine W.aS 21778071482940061661655974875633165532942 ZI (fun ρ Hx=>ρ 0=.U id g 0 l.length 1/\ρ 1=aa 0/\ρ 2=aa l.length/\Hx=H) (fun ρ Hx=>0) ?_ ?_
 ·exact⟨e0,e1,e2,rfl⟩
 rintro ρ Hx ⟨h0,h1,h2,hHx⟩;refine W.en (fun E1=>E1 0=.U id g 0 l.length 1 /\ E1 1=aa 0 /\ E1 2=aa l.length) (by simp only[go_sem,h0,e0,h1,h2]) fun E1 ⟨f0,f1,f2⟩=>?_
 rw[hHx];refine W.block ?_;refine W.sq ?_;simp only[go_sem,f1,f2,wn];refine W.sq ?_;simp only[go_sem,hb,f0,f1,f2];refine ak.X (PH V hm H hid _ fun l' H' e1 e2 e3=>⟨trivial,?_⟩);simp only[go_sem];exact aj.mk (by rw[e1,aQ];exact Nat.le_refl _) (hK l' H' e1 e2 e3)
def PJ (h12:l.length<=12)(hm:∀a∈l,a<64)(H:ZK)(hid:H.get id=some (.J g 3 (cI l)))(K:ZQ->ZK->Prop)
  (hK:∀l' H',H'=H.upd id (.J g 3 (cI l'))->l'.Perm l->ry l'->K (.ret (.nc [])) H'):
  ae prog G0 89 [.U id g 0 l.length 1] H K:=by
 have wn:IntKind.u64.wrap ((l.length:Nat):Int)=(l.length:Int):=by simp[IntKind.wrap,IntKind.bits,IntKind.signed];omega
 have lv:=ag hid;have cl:=pN l;refine ae.sw (n:=11) (rs:=[]) func89 ?_;refine W.sq ?_;simp only[go_sem,lv];refine W.vs ?_;simp only[go_sem,wn];refine ak.X (TZ h12 H _ fun L hL=>⟨trivial,?_⟩);simp only[go_sem];refine ak.X (PI h12 hm H hid _ fun l' H' e1 e2 e3=>⟨trivial,?_⟩);simp only[go_sem];exact aj.mk (by rw[e1,aQ];exact Nat.le_refl _) (hK l' H' e1 e2 (by rw[<- e2.length_eq]at e3;exact PA e3))
def builtin_clear {P:Program}(H:ZK)(id:Nat)(t:TypeId)(x:ZL):gT P H id .clear [t] [x]=jq P H t x:=rfl
def PK {s:List Nat}(hg:H.get id=some (.J g 3 (cI s)))(hk:k<=s.length):
  ∃q H',jq prog H 72 (.U id g k (s.length-k) 1)=some (.nc [],H')/\H'=H.upd id (.J g 3 (cI (s.take k++q))):=by
 have lv:=ag hg;have hu:prog.underlying 72=some (.slice 3):=Tryz.underlying72;by_cases h0:s.length-k=0
 ·refine⟨[],H,?_,?_⟩
  ·unfold jq;rw[hu];simp only[lv,Option.bind_some];rw[Vh h0]
  ·have e:s.take k++[]=s:=(by rw[List.append_nil,Vi V]);rw[e];exact(xk hg).symm
 ·refine⟨List.replicate (s.length-k) 0,_,?_,rfl⟩;have hz:kf prog 3 (s.length-k)=some (List.replicate (s.length-k) (aa 0)):=by
   rw[Cp,Tryz.fm];show some (List.replicate (s.length-k) [aa 0]).flatten=_;congr 1;exact Cq ..
  unfold jq;rw[hu];simp only[lv,Option.bind_some];rw[Vg h0,hz];simp only[Option.bind_some];rw[Vh ⟨ZG,by rw[pN];omega,by simp[aa,ZL.one,Value.oneCell]⟩];have e:setAt (cI s) k (List.replicate (s.length-k) (aa 0))=cI (s.take k++List.replicate (s.length-k) 0):=by
   unfold setAt cI;rw[V8,List.map_take,Yo,WD,YA (by simp;omega),List.append_nil];rfl
  rw[e]
def PL (hs:ry l)(h64:l.length<=64)(H:ZK)(hid:H.get id=some (.J g 3 (cI l)))(hlt:id<H.A)(K:ZQ->ZK->Prop)
  (hK:∀r q H',H'=H.upd id (.J g 3 (cI (r++q)))->Comp l r->K (.ret (.U id g 0 r.length 1)) H'):
  ae prog G0 90 [.U id g 0 l.length 1] H K:=by
 have lv:=ag hid;have cl:=pN l;have self:∀r:List Nat,r=l->Comp l r->K (.ret (.U id g 0 l.length 1)) H:=fun r e hc=>by
  subst e;exact hK r [] H (by rw[List.append_nil];exact(xk hid).symm) hc
 by_cases h2:(l.length:Int)<2
 ·refine ae.sw (n:=61) (rs:=[.tmp 2]) func90 ?_;refine W.sq ?_;simp only[go_sem];refine W.sq ?_;simp only[go_sem,lv,h2];exact aj.mk ZJ (self l rfl (Dz hs fun a h1 h3=>V))
 refine ae.sw (n:=61) (rs:=[.tmp 2]) func90 ?_;refine W.sq ?_;simp only[go_sem];refine W.sq ?_;simp only[go_sem,lv,h2];refine W.en (fun E=>E 0=.U id g 0 l.length 1) (by simp only[go_sem]) fun E e0=>?_
 refine W.sq ?_;simp only[go_sem];refine W.env fun E1 hE1=>?_;have f0:E1 0=.U id g 0 l.length 1:=by rw[hE1];simp only[go_sem,e0]
 have f3:E1 3=aa 1:=by rw[hE1];simp only[go_sem]
 clear hE1;refine W.aS 1152921504606846012 (by rfl) (fun ρ Hx=>∃k:Nat,ρ 3=aa k/\1<=k/\k<=l.length/\Hx=H/\∀a,1<=a->a<k->l.getD a 0≠l.getD (a-1) 0) (fun ρ _=>l.length-(iv (ρ 3)).toNat) ?_ ?_
 ·exact⟨1,f3,V,V,rfl,fun a h1 h3=>V⟩
 rintro ρ Hx ⟨k,h3,hk1,hkl,hHx,hd⟩;rw[hHx];refine W.en (fun E2=>E2 0=.U id g 0 l.length 1 /\ E2 3=aa k) (by simp only[go_sem,f0,h3]) fun E2 ⟨m0,m3⟩=>?_
 by_cases hb:(k:Int)<l.length;rotate_left
 ·refine W.vs ?_;simp only[go_sem,m0,m3,lv,hb];refine W.vs ?_;simp only[go_sem,m0];obtain rfl:k=l.length:=V
  exact aj.mk ZJ (self l rfl (Dz hs hd))
 have wk:=Vd ((k:Int)+1) V;have wm:=Vd ((k:Int)-1) V;have ck:((k:Int)-1).toNat=k-1:=V
 have gk:=oy (l:=l) (i:=k) V;have gk1:=oy (l:=l) (i:=k-1) V;have gkn:=aZ gk;have gk1n:=aZ gk1;have b1:(0:Int)<=(k:Int)-1:=V
 have b2:(k:Int)-1<l.length:=V
 refine W.sq ?_;simp only[go_sem,m0,m3,lv,hb];refine W.seq (W.block ?_);refine W.seq ?_;refine W.dr 9 [0,0,3,7,0,0,32,112,240] mixed ?_;simp only[go_sem,m0,m3,lv,hb,wm,ck,gk,gk1,b1,b2];by_cases he:l.getD k 0=l.getD (k-1) 0;rotate_left
 ·have heI:¬((l.getD k 0:Nat):Int)=(l.getD (k-1) 0:Nat):=V
  simp only[go_sem,heI];refine W.cond (t:=false) (by simp only[go_sem]) ?_;refine W.vs ?_;simp only[go_sem];refine W.vs ?_;simp only[go_sem,m3,wk];exact⟨⟨k+1,rfl,V,V,fun a h1 h4=>by
   by_cases e:a=k
   ·rw[e];exact he
   ·exact hd a h1 V⟩,by rw[h3];simp only[aa,bf];omega⟩
 have heI:((l.getD k 0:Nat):Int)=(l.getD (k-1) 0:Nat):=V
 simp only[go_sem,heI];refine W.cond (t:=true) (by simp only[go_sem]) ?_;have bk:(k:Int)<=l.length:=V
 have bn:k<=l.length:=V
 refine W.sq ?_;simp only[go_sem,m0,m3,lv,bk];refine W.en (fun E3=>E3 0=.U id g 0 l.length 1 /\ E3 3=aa k /\ E3 4=.U id g k (l.length-k) 1) (by simp only[go_sem,m0,m3]) fun E3 ⟨u0,u3,u4⟩=>?_
 refine W.seq ?_;refine W.sq ?_;simp only[go_sem];refine W.env fun E4 hE4=>?_;have v0:E4 0=.U id g 0 l.length 1:=by rw[hE4];simp only[go_sem,u0]
 have v3:E4 3=aa k:=by rw[hE4];simp only[go_sem,u3]
 have v4:E4 4=.U id g k (l.length-k) 1:=by rw[hE4];simp only[go_sem,u4]
 have v5:E4 5=aa 1:=by rw[hE4];simp only[go_sem]
 clear hE4;refine W.block ?_;refine W.aS 18014397972611112 (by rfl) (fun ρ Hx=>∃(k2 k3:Nat) (q:List Nat),ρ 5=aa k2/\1<=k2/\k2<=l.length-k/\ρ 3=aa k3/\nno l (k+k2) k3 q/\Hx=H.upd id (.J g 3 (cI q))) (fun ρ _=>(l.length-k)-(iv (ρ 5)).toNat) ?_ ?_
 ·exact⟨1,k,l,v5,V,V,v3,.start hs hk1 V hd he,(xk hid).symm⟩
 rintro ρ2 Hy ⟨k2,k3,q,h5,hk2,hk2l,h3',hC,hHy⟩;have ql:=hC.len;have kj:=hC.kj;have k31:=hC.k1;have gq:Hy.get id=some (.J g 3 (cI q)):=by rw[hHy,ah,Vh rfl]
 have lq:=ag gq;have cq:=pN q;rw[ql]at cq;refine W.en (fun E5=>E5 0=.U id g 0 l.length 1 /\ E5 3=aa k3 /\ E5 4=.U id g k (l.length-k) 1 /\ E5 5=aa k2) (by simp only[go_sem,v0,h3',v4,h5]) fun E5 ⟨x0,x3,x4,x5⟩=>?_
 by_cases hb2:(k2:Int)<((l.length-k:Nat):Int)
 rotate_left
 ·have b3:(k3:Int)<=l.length:=V
  have b3n:k3<=l.length:=V
  obtain⟨z,H2,hz,hH2⟩:=PK gq (k:=k3) V;rw[ql]at hz;refine W.vs ?_;simp only[go_sem,x4,x5,lq,hb2];have h4:k+k2=l.length:=V
  rw[h4]at hC;have hR:=hC.done;have hrl:(q.take k3).length=k3:=by rw[Vv];omega
  have lq2:H2.na id g=some (3,cI (q.take k3++z)):=ag (by rw[hH2,ah,Vh rfl]);refine W.vs ?_;simp only[go_sem,x0,x3,lq,b3,builtin_clear,hz,lq2];have hKr:=hK (q.take k3) z H2 (by rw[hH2,hHy,xm]) hR;rw[hrl]at hKr;exact aj.mk (by rw[hH2,hHy];simp only[aQ];exact Nat.le_refl _) hKr
 have w2:=Vd ((k2:Int)+1) V;have w3:=Vd ((k3:Int)+1) V;have w2m:=Vd ((k2:Int)-1) V;have c2:((k2:Int)-1).toNat=k2-1:=V
 have r0:=hC.rest (k+k2) V;have r1:=hC.rest (k+(k2-1)) V;have g0:=oy (l:=q) (i:=k+k2) V;have g1:=oy (l:=q) (i:=k+(k2-1)) V;have g0n:=aZ g0;have g1n:=aZ g1;have b4:(0:Int)<=(k2:Int)-1:=V
 have b5:(k2:Int)-1<((l.length-k:Nat):Int):=V
 refine W.sq ?_;simp only[go_sem,x4,x5,lq,hb2];refine W.seq (W.block ?_);refine W.seq ?_;refine W.dr 9 [0,0,3,7,0,0,32,112,240] mixed ?_;simp only[go_sem,x4,x5,lq,hb2,w2m,c2,g0,g1,b4,b5];have ek:k+k2-1=k+(k2-1):=V
 by_cases he2:q.getD (k+k2) 0=q.getD (k+(k2-1)) 0
 ·have heI2:((q.getD (k+k2) 0:Nat):Int)=(q.getD (k+(k2-1)) 0:Nat):=V
  have hel:l.getD (k+k2) 0=l.getD (k+k2-1) 0:=by rw[ek,<- r0,<- r1];exact he2
  refine W.cond (t:=false) (by simp only[go_sem,heI2]) ?_;refine W.vs ?_;simp only[go_sem];refine W.vs ?_;simp only[go_sem,x5,w2];exact⟨by rw[hHy,aQ];exact Nat.le_refl _,⟨k2+1,k3,q,rfl,V,V,x3,hC.same V hel,hHy⟩,by rw[h5];simp only[aa,bf];omega⟩
 have heI2:¬((q.getD (k+k2) 0:Nat):Int)=(q.getD (k+(k2-1)) 0:Nat):=V
 have hel:¬l.getD (k+k2) 0=l.getD (k+k2-1) 0:=by rw[ek,<- r0,<- r1];exact he2
 have b6:(k3:Int)<l.length:=V
 have b7:k3<l.length:=V
 have es:setAt (cI q) k3 [.lit (.int .i64 ((q.getD (k+k2) 0:Nat):Int))]=cI (q.set k3 (l.getD (k+k2) 0)):=by rw[r0];exact zB (V)
 refine W.cond (t:=true) (by simp only[go_sem,heI2]) ?_;refine W.vs ?_;simp only[go_sem,x0,x3,x4,x5,lq,cq,hb2,g0,b6,es,w3];refine⟨V,sU _ _ _ (by rfl) ?_⟩;simp only[go_sem,x5,w2];refine⟨by rw[aQ,hHy,aQ];exact Nat.le_refl _,⟨k2+1,k3+1,q.set k3 (l.getD (k+k2) 0),rfl,V,V,rfl,hC.A hs V hel,by rw[hHy,xm]⟩,by rw[h5];simp only[aa,bf];omega⟩
end Go.Proofs
namespace Go.Hx
variable {P:Program} {G:Nat->Option (List ZL)} {H:ZK}
def iz.PD {e:TypeId}:iz P G H (.lit (.slice none 0 0)) (ext H [.J 0 e []]) (.U H.A 0 0 0 1):=by
  intro Γ w R;have hΓ:Γ H.A=none:=by
    cases h:Γ H.A with
    |none=>rfl
    |some x =>
      obtain⟨y,hy⟩:=R.nE _ _ h;have:=R.A _ _ hy;omega
  have new:(ext H [.J 0 e []]).get H.A=some (.J 0 e []):=ef;have nf:∀j,j≠H.A->(ext H [.J 0 e []]).get j=H.get j:=fun j hj=>by
    show (if H.A<=j/\j<H.A+1 then _ else H.get j)=H.get j;rw[Vg V]
  have E:ZV Γ H w Γ (ext H [.J 0 e []]) w:=⟨rfl,rfl,rfl,ZJ,fun _ _ h=>⟨rfl,h⟩,fun id h1 _ x' hx=>⟨x',(by rw[nf id V]at hx;exact hx),ZR.le_refl _ _ _⟩,fun _ _=>rfl,.refl _,.refl _ _⟩
  have hn:H.A<=(ext H [.J 0 e []]).A:=Xw _;refine⟨Γ,?_,E,fun cv h=>?_⟩
  · exact
      { J:=fun j g e1 cells h1=>by
          by_cases hj:j=H.A
          · subst hj;rw[new]at h1;cases h1;rw[hΓ]
          · rw[nf j hj]at h1;have h2:=R.J j g e1 cells h1;cases hΓj:Γ j with
            |none=>rw[hΓj]at h2;exact h2
            |some y =>
              obtain⟨b,base,n⟩:=y;rw[hΓj]at h2;obtain⟨c,a1,a2,a3,a4⟩:=h2;exact⟨c,a1,a2,a3,fun i hi=>let ⟨cv,b1,b2⟩:=a4 i hi;⟨cv,b1,b2.ba E hn⟩⟩
        loop:=fun j st pend n env ps asg body h1=>by
          have hj:j≠H.A:=fun h=>by rw[h,new]at h1;cases h1
          rw[nf j hj]at h1;obtain⟨b,rr,a1,a2,a3,a4,a5,a6,a7,a8,a9⟩:=R.loop j st pend n env ps asg body h1;exact⟨b,rr,a1,a2,a3,a4,a5,a6,a7,a8,fun t ht=>(a9 t ht).ba E hn⟩
        mp:=fun j es h1=>by
          have hj:j≠H.A:=fun h=>by rw[h,new]at h1;cases h1
          rw[nf j hj]at h1;exact R.mp j es h1
        nq:=fun j h1=>by
          have hj:j≠H.A:=fun h=>by rw[h,new]at h1;cases h1
          rw[nf j hj]at h1;exact R.nq j h1
        inj:=R.inj
        nE:=fun j x hx=>by
          obtain⟨y,hy⟩:=R.nE j x hx;have:=R.A j y hy;exact⟨y,by rw[nf j V];exact hy⟩
        lt:=R.lt
        A:=fun j y h1=>by
          by_cases hj:j=H.A
          · subst hj;exact Wi _
          · rw[nf j hj]at h1;exact Vn (R.A j y h1) hn
        nD:=fun g cells h=>(R.nD g cells h).ba E hn
        gsz:=R.gsz }
  · cases h;refine .U ⟨Wi _,rfl,by rw[new];simp,fun g e1 cells h1=>?_⟩;rw[new]at h1;cases h1;refine⟨ZJ,fun _=>?_⟩;rw[hΓ];exact⟨rfl,rfl,rfl⟩
end Go.Hx
namespace Go.Proofs
open Go.Hx Tryz
def gC (t:List Int):Nat:=if t.length=0 then 0 else 1
def PE (t:List Int)(ht:(t.length:Int)<2 ^ 40)(H:ZK)(K:ZQ->ZK->Prop)(hK:K (.ret (.U H.A (gC t) 0 t.length 1)) (ext H [.J (gC t) 3 (ints t)])):ae prog G0 88 [af t] H K:=by
  refine ae.st (n:=8) (rs:=[.tmp 2]) func88 ?_;simp only[go_sem,az];intro b hlen;cases b with
  |true =>
    have h0:t=[]:=Vp (by
      rcases Wo t.length with h|h
      · exact h
      · exact absurd (hlen (by simpa using h)) ZH)
    subst h0;simp only[go_sem,az];exact⟨_,_,iz.PD,by rw[aW];simp,hK⟩
  |false =>
    by_cases hn:t.length=0
    · have h0:t=[]:=Vp hn;subst h0;simp only[go_sem,az];exact⟨⟨rfl,rfl⟩,aj.mk (by rw[aW];simp) hK⟩
    unfold gC at hK;rw[Vg hn]at hK;simp only[go_sem,hn,az];exact⟨⟨ZG,V,V,kW _⟩,aj.mk (by rw[aW];simp) hK⟩
end Go.Proofs
namespace Go.Hx
variable {P:Program} {G:Nat->Option (List ZL)} {Γ Γ':aD} {H H':ZK} {w w':World}
variable {v:ZL}
inductive Ids (K:Nat->Prop):ZL->Prop
 |lit (v:Value):Ids K (.lit v)
 |Q {n:Nat} {c:List ZL} (h:∀i (h:i<c.length),Ids K c[i]):Ids K (.Q n c)
 |ni {n:Nat} {c:List ZL} (h:∀i (h:i<c.length),Ids K c[i]):Ids K (.ni c n)
 |agg {c:List ZL} (h:∀i (h:i<c.length),Ids K c[i]):Ids K (.agg c)
 |nc {c:List ZL} (h:∀i (h:i<c.length),Ids K c[i]):Ids K (.nc c)
 |X {f:FuncId} {a b:List ZL} (h1:∀i (h:i<a.length),Ids K a[i]) (h2:∀i (h:i<b.length),Ids K b[i]):Ids K (.X f a b)
 |U {id g o l z:Nat} (h:K id):Ids K (.U id g o l z)
 |O {id g o:Nat} (h:K id):Ids K (.O id g o)
 |nk {id:Nat} (h:K id):Ids K (.nk id)
def Ids.D9 {cv:Value}(h:ZO P Γ H w v cv):Ids (fun id=>id<H.A/\H.get id≠some .nq) v:=by
 induction h with
 |lit v=>exact .lit v
 |nu a cap=>exact .Q fun i h=>absurd h (Vt _)
 |Q hb hlt hlen hcs hcell hrel ih=>exact .Q fun i h=>ih i h (V)
 |U h=>exact .U ⟨h.1,h.2.2.1⟩
 |O h=>exact .O ⟨h.1,h.2.2.1⟩
 |ni hb hlt hcs hcell hrel ih=>exact .ni fun i h=>ih i h (V)
 |agg hcs hrel ih=>exact .agg fun i h=>ih i h (V)
 |nc hcs hrel ih=>exact .nc fun i h=>ih i h (V)
 |X hfs hcs hf hc ih1 ih2=>exact .X (fun i h=>ih1 i h V) fun i h=>ih2 i h (V)
 |nk h=>exact .nk ⟨h.1,h.2.2.1⟩
def Ids.sound {K:Nat->Prop}{Γ₁ Γ₂:aD}{H₁ H₂:ZK}(hK:∀id,K id->H₂.get id=H₁.get id/\Γ₂ id=Γ₁ id/\id<H₂.A)(ho:∀b,Γ₂.fH b->Γ₁.fH b)(h:Ids K v):
  ∀ {cv:Value},ZO P Γ₁ H₁ w v cv->ZO P Γ₂ H₂ w v cv:=by
 induction h with
 |lit v=>intro cv h;cases h;exact .lit _
 |Q _ ih =>
  intro cv h;cases h with
  |nu a cap=>exact .nu a cap
  |Q hb hlt hlen hcs hcell hrel=>exact .Q (fun h=>hb (ho _ h)) hlt hlen hcs hcell fun i h1 h2=>ih i h1 (hrel i h1 h2)
 |ni _ ih=>intro cv h;cases h with|ni hb hlt hcs hcell hrel=>exact .ni (fun h=>hb (ho _ h)) hlt hcs hcell fun i h1 h2=>ih i h1 (hrel i h1 h2)
 |agg _ ih=>intro cv h;cases h with|agg hcs hrel=>exact .agg hcs fun i h1 h2=>ih i h1 (hrel i h1 h2)
 |nc _ ih=>intro cv h;cases h with|nc hcs hrel=>exact .nc hcs fun i h1 h2=>ih i h1 (hrel i h1 h2)
 |X _ _ ih1 ih2=>intro cv h;cases h with|X hfs hcs hf hc=>exact .X hfs hcs (fun i h1 h2=>ih1 i h1 (hf i h1 h2)) fun i h1 h2=>ih2 i h1 (hc i h1 h2)
 |U h =>
  intro cv hv;cases hv with
  |U hv =>
   obtain⟨a,b,c,d⟩:=hv;obtain⟨e1,e2,e3⟩:=hK _ h;refine .U ⟨e3,b,by rw[e1];exact c,fun g e cells hg=>?_⟩;rw[e1]at hg;rw[e2];exact d g e cells hg
 |O h =>
  intro cv hv;cases hv with
  |O hv =>
   obtain⟨a,b,c,d⟩:=hv;obtain⟨e1,e2,e3⟩:=hK _ h;refine .O ⟨e3,b,by rw[e1];exact c,fun g e cells hg=>?_⟩;rw[e1]at hg;rw[e2];exact d g e cells hg
 |nk h =>
  intro cv hv;cases hv with
  |nk hv =>
   obtain⟨a,b,c,d,e⟩:=hv;obtain⟨e1,e2,e3⟩:=hK _ h;refine .nk ⟨e3,b,by rw[e1];exact c,fun st pend n env ps asg body hg=>?_,fun es hg=>?_⟩
   ·rw[e1]at hg;rw[e2];exact d st pend n env ps asg body hg
   ·rw[e1]at hg;rw[e2];exact e es hg
def Qz {f:FuncId}{args:List ZL}{g n sz:Nat}{e:TypeId}{cells:List ZL}{rs:List Nat}(hrs:∀r,r∈rs->r<H.A)(hcl:∀i (h:i<cells.length),Ids (fun _=>False) cells[i])
  (hcall:∀H2:ZK,(∀r,r∈rs->H2.get r=H.get r)->ae P G f args H2 fun r H'=>r=.ret (.U H2.A g 0 n sz)/\H'=ext H2 [.J g e cells]):
  Ev.nY P G (.X f [] []) args H (.U H.A g 0 n sz) (Ev.fT H.A (H.A+1) (fun _=>true) (ext ⟨fun _=>none,H.A⟩ [.J g e cells]).get) 1 ⟨Ev.oa H.A (H.A+1),rs⟩:=by
 have hnew:Ev.fT H.A (H.A+1) (fun _=>true) (ext ⟨fun _=>none,H.A⟩ [.J g e cells]).get H.A=some (.J g e cells):=by
  unfold Ev.fT;rw[Vh ⟨ZJ,Wi _⟩,Vh rfl];exact ef (H:=⟨fun _=>none,H.A⟩)
 have hout:∀r,r≠H.A->Ev.fT H.A (H.A+1) (fun _=>true) (ext ⟨fun _=>none,H.A⟩ [.J g e cells]).get r=none:=fun r hr=>by
  unfold Ev.fT;rw[Vg V]
 refine⟨hrs,fun r hr=>?_,fun c hc=>?_,fun H2 hag hres hn2=>ak.X ⟨?_,fun Γ w cargs R hr=>?_⟩⟩
 ·have:r=H.A:=VZ fun h=>by rw[hout r h]at hr;cases hr
  subst this;exact⟨Ev.Bl ZJ (Wi _),.inr ⟨ZJ,Wi _⟩⟩
 ·obtain rfl:c=0:=V
  rw[show H.A+0=H.A from rfl,hnew];rfl
 ·exact(hcall H2 hag).1
 have hrid:H2.get H.A=some .nq:=hres 0 V;rw[List.nil_append,List.append_nil]at hr;refine((hcall H2 hag).2 Γ w cargs R hr).mono ?_;rintro x w' ⟨r,H',Γ',hend,⟨rfl,rfl⟩,R',E,hn⟩;obtain⟨H3,hH3⟩:∃H3:ZK,H3=⟨Ev.cV (Ev.fT H.A (H.A+1) (fun _=>true) (ext ⟨fun _=>none,H.A⟩ [.J g e cells]).get) H2.get,H2.A⟩:=⟨_,rfl⟩
 have h3n:H3.A=H2.A:=by rw[hH3]
 have h3r:H3.get H.A=some (.J g e cells):=by rw[hH3];show Ev.cV _ _ _=_;unfold Ev.cV;rw[hnew]
 have h3o:∀r,r≠H.A->H3.get r=H2.get r:=fun r h=>by rw[hH3];show Ev.cV _ _ _=_;unfold Ev.cV;rw[hout r h]
 have hxo:∀r,r<H2.A->(ext H2 [.J g e cells]).get r=H2.get r:=fun r h=>c9 H2 _ r h;have hxn:(ext H2 [.J g e cells]).get H2.A=some (.J g e cells):=ef;have hxf:∀r,H2.A<r->(ext H2 [.J g e cells]).get r=none:=fun r h=>by
  cases hg:(ext H2 [.J g e cells]).get r with
  |none=>rfl
  |some b=>have:=R'.A r b hg;rw[show (ext H2 [.J g e cells]).A=H2.A+1 from rfl]at this;omega
 have h2f:∀r,H2.A<=r->H2.get r=none:=fun r h=>by
  cases hg:H2.get r with
  |none=>rfl
  |some b=>have:=R.A r b hg;omega
 obtain⟨Γ3,hΓ3⟩:∃ Γ3:aD,Γ3=fun id=>if id=H.A then Γ' H2.A else if id=H2.A then none else Γ' id:=⟨_,rfl⟩
 have g3r:Γ3 H.A=Γ' H2.A:=by rw[hΓ3];exact Vh rfl
 have g3n:Γ3 H2.A=none:=by rw[hΓ3];show (if _ then _ else if _ then _ else _)=_;rw[Vg V,Vh rfl]
 have g3o:∀id,id≠H.A->id≠H2.A->Γ3 id=Γ' id:=fun id h1 h2=>by rw[hΓ3];show (if _ then _ else if _ then _ else _)=_;rw[Vg h1,Vg h2]
 have hΓrid:Γ' H.A=none:=R'.nq _ (by rw[hxo _ V];exact hrid);have back:∀id x,Γ3 id=some x->∃id',Γ' id'=some x/\((id=H.A/\id'=H2.A)\/(id≠H.A/\id≠H2.A/\id'=id)):=fun id x h=>by
  by_cases h1:id=H.A
  ·subst h1;rw[g3r]at h;exact⟨_,h,.inl ⟨rfl,rfl⟩⟩
  ·by_cases h2:id=H2.A
   ·subst h2;rw[g3n]at h;cases h
   ·rw[g3o id h1 h2]at h;exact⟨_,h,.inr ⟨h1,h2,rfl⟩⟩
 have ho:∀b,Γ3.fH b->Γ'.fH b:=fun b ⟨id,base,m,h⟩=>let ⟨id',h',_⟩:=back _ _ h;⟨id',base,m,h'⟩
 have hΓold:∀id,id<H2.A->id≠H.A->∀b,H2.get id=some b->b≠.nq->Γ' id=Γ' id:=fun _ _ _ _ _ _=>rfl;have hKs:∀id,(id<H2.A/\H2.get id≠some .nq)->H3.get id=(ext H2 [.J g e cells]).get id/\Γ3 id=Γ' id/\id<H3.A:=fun id ⟨h1,h2⟩=>by
  have hne:id≠H.A:=fun h=>h2 (h ▸ hrid);exact⟨(h3o id hne).trans (hxo id h1).symm,g3o id hne V,V⟩
 have hEE:ZV Γ H2 w Γ3 H3 w':=by
  refine⟨E.os,E.tape,E.output,E.size,fun b hb hno=>⟨(E.ng b hb hno).1,fun h=>(E.ng b hb hno).2 (ho b h)⟩,fun id h1 h2 x' hx'=>?_,E.ny,E.kind,fun id b x y hb hlt=>?_⟩;rotate_left
  ·obtain⟨id',h',hor⟩:=back _ _ hb;obtain⟨x',y',h''⟩:=E.newb id' b x y h' hlt;rcases hor with ⟨_,rfl⟩|⟨_,_,rfl⟩
   ·obtain⟨z,hz⟩:=R.nE _ _ h'';have:=R.A _ _ hz;omega
   ·exact⟨x',y',h''⟩
  by_cases hid:id=H.A
  ·subst hid;exact⟨.nq,hrid,trivial⟩
  ·rw[h3o id hid]at hx';obtain⟨x,hx,hle⟩:=E.na id h1 (by rw[show (ext H2 [.J g e cells]).A=H2.A+1 from rfl];omega) x' (by rw[hxo id h1];exact hx');refine⟨x,hx,?_⟩;have:=g3o id hid V;cases x<;>cases x'<;>simp only[ZR.le,this]at hle ⊢<;>exact hle
 have cellok:∀(cs:List ZL) (w0:World),(∀i (h:i<cs.length),Ids (fun id=>id<H2.A/\H2.get id≠some .nq) cs[i])->∀i (h:i<cs.length) cv,ZO P Γ' (ext H2 [.J g e cells]) w0 cs[i] cv->ZO P Γ3 H3 w0 cs[i] cv:=fun cs w0 hc i h cv hv=>(hc i h).sound hKs ho hv;have oldIds:∀id g0 e0 c0,H2.get id=some (.J g0 e0 c0)->∀i (h:i<c0.length),Ids (fun id=>id<H2.A/\H2.get id≠some .nq) c0[i]:=fun id g0 e0 c0 hg i hi=>by
  have h1:=R.J id g0 e0 c0 hg;cases hΓ:Γ id with
  |none=>rw[hΓ]at h1;rw[h1]at hi;exact absurd hi (Vt _)
  |some y =>
   obtain⟨b,base,m⟩:=y;rw[hΓ]at h1;obtain⟨c,a1,a2,a3,a4⟩:=h1;obtain⟨cv,_,b2⟩:=a4 i hi;exact .D9 b2
 have arrC:∀id id' g0 e0 c0,Γ3 id=Γ' id'->(ext H2 [.J g e cells]).get id'=some (.J g0 e0 c0)->(∀i (h:i<c0.length),Ids (fun id=>id<H2.A/\H2.get id≠some .nq) c0[i])->(match Γ3 id with
   |some (b,base,n)=>∃c,w'.heap[b]?=some (.cells c e0 (0,0))/\c.size=n/\base+c0.length<=n/\∀i (h:i<c0.length),∃cv,c[base+i]?=some cv/\ZO P Γ3 H3 w' c0[i] cv
   |none=>c0=[]):=fun id id' g0 e0 c0 hΓ hg hc=>by
  have h1:=R'.J id' g0 e0 c0 hg;rw[hΓ];cases hΓ':Γ' id' with
  |none=>rw[hΓ']at h1;exact h1
  |some y =>
   obtain⟨b,base,m⟩:=y;rw[hΓ']at h1;obtain⟨c,a1,a2,a3,a4⟩:=h1;exact⟨c,a1,a2,a3,fun i hi=>let ⟨cv,b1,b2⟩:=a4 i hi;⟨cv,b1,cellok c0 w' hc i hi cv b2⟩⟩
 have R3:ZT P G Γ3 H3 w':=by
  refine⟨fun id g0 e0 c0 hg=>?_,fun id st pend m env ps asg body hg=>?_,fun id es hg=>?_,fun id hg=>?_,fun id id' b base m base' m' h h'=>?_,fun id y h=>?_,fun id b base m h=>?_,fun id y h=>?_,fun g0 c0 h=>?_,R'.gsz⟩
  ·by_cases hid:id=H.A
   ·subst hid;rw[h3r]at hg;cases hg;exact arrC _ H2.A g e cells g3r hxn fun i hi=>by
     have:∀v,Ids (fun _=>False) v->Ids (fun id=>id<H2.A/\H2.get id≠some .nq) v:=fun v hv=>by
      induction hv with
      |lit v=>exact .lit v
      |Q _ ih=>exact .Q ih
      |ni _ ih=>exact .ni ih
      |agg _ ih=>exact .agg ih
      |nc _ ih=>exact .nc ih
      |X _ _ i1 i2=>exact .X i1 i2
      |U h=>exact h.elim
      |O h=>exact h.elim
      |nk h=>exact h.elim
     exact this _ (hcl i hi)
   ·rw[h3o id hid]at hg;have hlt:=R.A id _ hg;exact arrC id id g0 e0 c0 (g3o id hid V) (by rw[hxo id hlt];exact hg) (oldIds id g0 e0 c0 hg)
  ·have hid:id≠H.A:=fun h=>by subst h;rw[h3r]at hg;cases hg
   rw[h3o id hid]at hg;have hlt:=R.A id _ hg;obtain⟨b0,r0,p1,p2,p3,p4,p5,p6,p7,p8,p9⟩:=R.loop id st pend m env ps asg body hg;obtain⟨b,r,a1,a2,a3,a4,a5,a6,a7,a8,a9⟩:=R'.loop id st pend m env ps asg body (by rw[hxo id hlt];exact hg);exact⟨b,r,by rw[g3o id hid V];exact a1,a2,a3,a4,a5,a6,a7,a8,fun t ht=>(Ids.D9 (p9 t V)).sound hKs ho (a9 t ht)⟩
  ·have hid:id≠H.A:=fun h=>by subst h;rw[h3r]at hg;cases hg
   rw[h3o id hid]at hg;have hlt:=R.A id _ hg;obtain⟨b,a1,a2⟩:=R'.mp id es (by rw[hxo id hlt];exact hg);exact⟨b,by rw[g3o id hid V];exact a1,a2⟩
  ·have hid:id≠H.A:=fun h=>by subst h;rw[h3r]at hg;cases hg
   rw[h3o id hid]at hg;have hlt:=R.A id _ hg;rw[g3o id hid V];exact R'.nq id (by rw[hxo id hlt];exact hg)
  ·obtain⟨i1,q1,c1⟩:=back _ _ h;obtain⟨i2,q2,c2⟩:=back _ _ h';have:=R'.inj _ _ _ _ _ _ _ q1 q2;omega
  ·obtain⟨i1,q1,c1⟩:=back _ _ h;rcases c1 with ⟨rfl,_⟩|⟨h1,h2,rfl⟩
   ·exact⟨_,h3r⟩
   ·obtain⟨y',hy⟩:=R'.nE _ _ q1;have hlt:=R'.A _ _ hy;rw[show (ext H2 [.J g e cells]).A=H2.A+1 from rfl]at hlt;exact⟨y',by rw[h3o _ h1,<- hxo _ V];exact hy⟩
  ·obtain⟨i1,q1,c1⟩:=back _ _ h;exact R'.lt _ _ _ _ q1
  ·by_cases hid:id=H.A
   ·omega
   ·rw[h3o id hid]at h;have:=R.A id _ h;omega
  ·exact(R.nD g0 c0 h).ba hEE (V)
 refine⟨.ret (.U H.A g 0 n sz),H3,Γ3,?_,⟨rfl,hH3⟩,R3,hEE,V⟩;cases x with
 |returned cv =>
  have hv:ZO P Γ' (ext H2 [.J g e cells]) w' (.U H2.A g 0 n sz) cv:=hend;show ZO P Γ3 H3 w' (.U H.A g 0 n sz) cv;cases hv with
  |U hv =>
   obtain⟨a,b,c,d⟩:=hv;refine .U ⟨V,b,by rw[h3r];simp,fun g0 e0 c0 hg=>?_⟩;rw[h3r]at hg;cases hg;rw[g3r];exact d g e cells hxn
 |_=>exact hend.elim
end Go.Hx
namespace Go.Hx
def nnn.elem {lo:Nat}{H:ZK}{e1 e0:TypeId}{v:ZL}{ids:List Nat}{nb:List (List ZL)}(h:nnn lo H e1 e0 v ids nb){i:Nat}(hi:i∈ids):∃r,H.get i=some (.J 0 e0 r):=by
 obtain⟨k,hk⟩:=Vl.1 hi;have hl:=(VJ.1 hk).1;rw[h.len]at hl;exact⟨_,h.row k i _ hk (Vf hl)⟩
end Go.Hx
namespace Go.Proofs
open Go.Hx Tryz
variable {r:List Nat}{cs:List ZL}{ns:List ZM}{m nx v:Nat}{G:Nat->Option (List ZL)}{S:Nat->Prop}{H:ZK}
structure nnf (m:Nat)(ns:List ZM):Prop where
 len:ns.length<=m
 node:∀x∈ns,x.F.length<=m/\x.nb.length<=m/\∀r∈x.nb,r≠[]/\r.length<=m
def nnf.mono {m':Nat}(h:nnf m ns)(hm:m<=m'):nnf m' ns :=
 ⟨VM h.len hm,fun x hx=>by
  obtain⟨a,b,c⟩:=h.node x hx;exact⟨V,V,fun r hr=>⟨(c r hr).1,by have:=(c r hr).2;omega⟩⟩⟩
theorem nnf.set {A:Nat}{y:ZM}(h:nnf m ns)(hy:y.F.length<=m/\y.nb.length<=m/\∀r∈y.nb,r≠[]/\r.length<=m):nnf m (ns.set A y) :=
 ⟨by rw[VF];exact h.len,fun x hx=>by
  rcases Wa hx with h1|rfl
  ·exact h.node x h1
  ·exact hy⟩
def Cv {lo z n:Nat}{e:TypeId}{v:ZL}{cs':List ZL}(h:fy lo H e z v n cs)(hS:∀i,lo<=i->S i)(hl:cs'.length=cs.length)
  (hc:∀i (h:i<cs.length) (h':i<cs'.length),Fz S H nx cs[i] cs'[i]):Fz S H nx v (.Q n cs'):=by
 rcases h with ⟨rfl,rfl,rfl⟩|⟨id,g,h1,_,rfl,h3,h4⟩
 ·obtain rfl:=Vp hl;exact .nil
 ·refine .ny (hS id h1) h4 V fun j hj h2 h'=>?_;simp only[Nat.zero_add]at h2 ⊢;exact hc j h2 h'
structure nni (lo:Nat)(H:ZK)(rv:ZL)(ids:List Nat)(nb:List (List Int))(R:Nat)(q:List Int)(idt gt:Nat)(cells:List ZL)(idr:Nat):Prop where
 rv:rv=.U idt gt 0 nb.length 1
 top:H.get idt=some (.J gt 72 cells)
 tlo:lo<=idt/\idt<H.A
 len:cells.length=nb.length
 at':cells[R]?=some (.U idr 0 0 q.length 1)
 row:H.get idr=some (.J 0 3 (ints q))
 rlo:lo<=idr/\idr<H.A
 ne:idt≠idr
 id:ids[R]?=some idr
 q:nb[R]?=some q
 cell:∀(j i:Nat) (r:List Int),ids[j]?=some i->nb[j]?=some r->cells[j]?=some (.U i 0 0 r.length 1)
 nm:idt ∉ ids
theorem Z5.take {e:Nat->Prop}(h:Z5 e ns cs)(k:Nat):Z5 e (ns.take k) (cs.take (k*3)):=by
 refine⟨by rw[Vv,Vv,h.len];omega,fun v x hx=>?_⟩;have hv:=aO hx;rw[Vv]at hv;rw[Vz V]at hx;obtain⟨rv,a,b,c,d⟩:=h.node v x hx;exact⟨rv,by rw[Vz V];exact a,by rw[Vz V];exact b,by rw[Vz V];exact c,d⟩
theorem nnf.take (h:nnf m ns)(k:Nat):nnf m (ns.take k):=⟨by rw[Vv];have:=h.len;omega,fun x hx=>h.node x (VE hx)⟩
def PP {t:List Int}(ht:(t.length:Int)<2 ^ 40):
  Ev.nY prog G0 (.X 88 [] []) [.Q t.length (ints t)] H (.U H.A (gC t) 0 t.length 1) (Ev.fT H.A (H.A+1) (fun _=>true) (ext ⟨fun _=>none,H.A⟩ [.J (gC t) 3 (ints t)]).get) 1 ⟨Ev.oa H.A (H.A+1),[]⟩ :=
 Qz (fun r h=>by cases h) (fun i hi=>by
  simp only[ints,Vw];exact .lit _) fun H2 _=>PE t ht H2 _ ⟨rfl,rfl⟩
theorem zC (v:Nat):∀r:List Nat,((aE r).idxOf (v:Int))=r.idxOf v
 | []=>rfl
 |a :: r=>by
  have ih:=zC v r;unfold aE at ih ⊢;rw[List.map_cons,Yh,Yh,ih];by_cases h:a=v
  ·subst h;simp
  ·have h':¬((a:Int)=(v:Int)):=V;have e1:(a == v)=false:=(by simpa using h);have e2:((a:Int) == (v:Int))=false:=(by simpa using h');rw[e1,e2]
def mT :(v:Int)∈aE r↔v∈r:=by
 unfold aE;rw[Vu];refine⟨fun ⟨a,h1,h2⟩=>?_,fun h=>⟨v,h,rfl⟩⟩;have e:a=v:=V
 exact e ▸ h1
def DC {u:Nat}(hu:u∈r):fP (aE r) v >= fP (aE r) u↔fM r u v=true:=by
 unfold fP fM;rw[Vh (mT.2 hu),Ym,zC];by_cases hv:v∈r
 ·rw[Vh (mT.2 hv),zC];exact⟨fun h=>⟨hv,V⟩,fun h=>by have:=h.2;omega⟩
 ·rw[Vg fun h=>hv (mT.1 h)];exact⟨fun h=>V,fun h=>absurd h.1 hv⟩
def PQ (l:List ZM):∀c∈aG l,Fz S H nx c c:=by
 intro c hc;unfold aG at hc;obtain⟨r,hr,hc⟩:=XS.1 hc;obtain⟨x,_,rfl⟩:=Vu.1 hr;unfold ZM.cells at hc;simp only[List.mem_cons,List.not_mem_nil,or_false]at hc;rcases hc with rfl|rfl|rfl
 ·exact .lit _
 ·exact .ea _
 ·exact .bb _
def ia (q:List Nat)(S w:Nat):List Nat:=q++(List.range w).filter fun i=>S.testBit i
def PR (q:List Nat)(S w:Nat):(ia q S w).length<=q.length+w:=by
 unfold ia;rw[List.length_append];have:=YH (fun i=>S.testBit i) (List.range w);rw[WT]at this;omega
def PS (q:List Nat){S w:Nat}(h:S.testBit w=true):ia q S (w+1)=ia q S w++[w]:=by
 unfold ia;rw[VX,WY,List.append_assoc];congr 2;simp[h]
def DD (q:List Nat){S w:Nat}(h:S.testBit w=false):ia q S (w+1)=ia q S w:=by
 unfold ia;rw[VX,WY];simp[h]
theorem DE:∀ {l:List Int},(∀p∈l,0<=p)->aE (l.map Int.toNat)=l
 | [],_=>rfl
 |a :: l,h=>by
  have ih:=DE (l:=l) fun p hp=>h p (Xl _ hp);have h0:=h a ZG;unfold aE at ih ⊢;rw[List.map_cons,List.map_cons,ih];congr 1;exact Xx h0
def DF {d:ZN}(hok:ZS d)(hf:Z9 d)(h6:d.C.length<=6)(hro:Z0 d r){u s S:Nat}(hu:u∈r)(hS:S<2 ^ d.C.length)(H:ZK)(hs:H.get s=some (.J 0 157 (hZ d r u)))(hsl:s<H.A)(K:ZQ->ZK->Prop)(hK:K (.ret (da (bw d r u S))) H):
  ae prog G0 46 [.O s 0 0,aL S] H K:=by
 refine ae.X ⟨_,func46,rfl,rfl⟩ fun hcl=>?_;have n8:=hok.n.n1;have ls:=ag hs;unfold hZ at ls;have hrl:((aE r).length:Int)<2 ^ 62:=by
  have h2:(aJ d).length<=d.C.length:=rF;have h3:=xj _ _ _ _ (ou hok hro);simp[aE]at h3 ⊢;omega
 refine ae.sw (n:=134) (rs:=[.cell 4 38]) func46 ?_;refine W.sq ?_;simp only[go_sem];have lx:∀L,(ext H L).na s 0=_:=fun L=>(eF hsl).trans ls;refine W.seq ?_;refine W.dr 12 [0,1,3,7,15,0,32,96,224,480,1023,0] mixed ?_;simp only[go_sem,lx];obtain⟨H1,hH1⟩:∃H1,H1=ext (ext H [.J 0 38 [.lit (.int .i64 0),.lit (.slice none 0 0),.lit (.int .u64 0),.lit (.slice none 0 0)]]) [.J 0 38 [.lit (.int .i64 d.Z),.lit (.slice none 0 0),.lit (.int .u64 (d.nl:Int)),.lit (.slice none 0 0)]]:=⟨_,rfl⟩
 have o1:ZP H H1:=by rw[hH1];exact(ZP.ext _ _).trans (.ext _ _)
 have n1:H1.A=H.A+2:=by rw[hH1];rfl
 have g4:H1.get H.A=some (.J 0 38 [.lit (.int .i64 0),.lit (.slice none 0 0),.lit (.int .u64 0),.lit (.slice none 0 0)]):=by rw[hH1,ee];exact bM H _ 0 (ZG)
 have g5:H1.get (H.A+1)=some (.J 0 38 [.lit (.int .i64 d.Z),.lit (.slice none 0 0),.lit (.int .u64 (d.nl:Int)),.lit (.slice none 0 0)]):=by rw[hH1,ee];exact bM H _ 1 (ZG)
 rw[<- hH1];clear hH1;refine⟨by repeat' (first|refine And.intro ?_ ?_|(intro x hx;omega)),?_⟩;have l5:=ag g5;have ls1:=ag ((o1.nf s hsl).trans hs);unfold hZ at ls1;refine W.seq ?_;refine W.dr 8 [0,1,3,7,0,16,48,112] mixed ?_;simp only[go_sem,ls1];refine ak.X (zA (aE r) u hrl _ _ ⟨trivial,?_⟩);simp only[go_sem];refine W.sq ?_;simp only[go_sem,ls1];refine W.en (fun E=>E 0=.O s 0 0 /\ E 1=aL S /\ E 4=.O H.A 0 0 /\ E 5=.O (H.A+1) 0 0 /\ E 6=aa (fP (aE r) u) /\ E 39=.Q d.C.length (aG d.C) /\ E 40=aa d.C.length /\ E 41=aa 0) (by simp only[go_sem]) fun E ⟨e0,e1,e4,e5,e6,e39,e40,e41⟩=>?_
 obtain⟨D',hD'⟩:∃D',D'=bw d r u S:=⟨_,rfl⟩
 have hlen:D'.C.length=d.C.length:=by rw[hD'];exact hJ ..
 refine W.aS 1298074214633706907130425059056512 ZI (fun ρ Hx=>∃(k:Nat) (nv:ZL),ρ 41=aa k/\k<=d.C.length/\H1.A<=Hx.A/\(∀i,i<H1.A->i≠H.A+1->Hx.get i=H1.get i) /\
  Hx.get (H.A+1)=some (.J 0 38 [.lit (.int .i64 d.Z),nv,.lit (.int .u64 (d.nl:Int)),.lit (.slice none 0 0)])/\fy H1.A Hx 76 3 nv k (aG (D'.C.take k))) (fun ρ _=>d.C.length-(iv (ρ 41)).toNat) ?_ ?_
 ·exact⟨0,_,e41,V,ZJ,fun _ _ _=>rfl,g5,.nil⟩
 rintro ρ Hx ⟨k,nv,h41,hk,hnx,hold,hx5,hO⟩;refine W.en (fun E1=>E1 0=.O s 0 0 /\ E1 1=aL S /\ E1 4=.O H.A 0 0 /\ E1 5=.O (H.A+1) 0 0 /\ E1 6=aa (fP (aE r) u) /\ E1 39=.Q d.C.length (aG d.C) /\ E1 40=aa d.C.length /\ E1 41=aa k) (by simp only[go_sem,e0,e1,e4,e5,e6,e39,e40,h41]) fun E1 ⟨f0,f1,f4,f5,f6,f39,f40,f41⟩=>?_
 by_cases hb:(k:Int)<d.C.length;rotate_left
 ·obtain rfl:k=d.C.length:=V
  have hsx:Hx.get s=H.get s:=by rw[hold s V V,o1.nf s hsl]
  have lsx:=ag (hsx.trans hs);unfold hZ at lsx;refine W.sq ?_;simp only[go_sem,f40,f41,hb];refine W.sq ?_;simp only[go_sem];refine W.seq ?_;refine W.sq ?_;simp only[go_sem,f0,lsx];refine W.en (fun E2=>E2 4=.O H.A 0 0 /\ E2 5=.O (H.A+1) 0 0 /\ E2 114=.Q d.Y.length (bA d.Y) /\ E2 115=aa d.Y.length /\ E2 116=aa 0) (by simp only[go_sem,f4,f5]) fun E2 ⟨h4,h5,h114,h115,h116⟩=>?_
  refine W.block ?_;refine W.aS 10888952664720294273585930949875315261440 ZI (fun ρ Hy=>∃(j:Nat) (uv:ZL),ρ 116=aa j/\j<=d.Y.length/\Hx.A<=Hy.A/\(∀i,i<Hx.A->i≠H.A+1->Hy.get i=Hx.get i) /\
   Hy.get (H.A+1)=some (.J 0 38 [.lit (.int .i64 d.Z),nv,.lit (.int .u64 (d.nl:Int)),uv])/\fy Hx.A Hy 87 2 uv j (bA (d.Y.take j))) (fun ρ _=>d.Y.length-(iv (ρ 116)).toNat) ?_ ?_
  ·exact⟨0,_,h116,V,ZJ,fun _ _ _=>rfl,hx5,.nil⟩
  rintro ρ2 Hy ⟨j,uv,j116,hj,hny,oldy,gy,hU⟩;refine W.en (fun E3=>E3 4=.O H.A 0 0 /\ E3 5=.O (H.A+1) 0 0 /\ E3 114=.Q d.Y.length (bA d.Y) /\ E3 115=aa d.Y.length /\ E3 116=aa j) (by simp only[go_sem,h4,h5,h114,h115,j116]) fun E3 ⟨i4,i5,i114,i115,i116⟩=>?_
  have ly:=ag gy;by_cases hjb:(j:Int)<d.Y.length;rotate_left
  ·obtain rfl:j=d.Y.length:=V;have l4:=ag ((oldy H.A V V).trans ((hold H.A V V).trans g4));refine W.vs ?_;simp only[go_sem,i115,i116,hjb];refine W.vs ?_;simp only[go_sem,i4,i5,ly,l4];rw[XR]at hU;rw[Vi V]at hO;refine⟨by rw[hO.one,hU.one];rfl,?_⟩;refine aj.bB (v':=da (bw d r u S)) aF hcl ⟨by show H.A<=Hy.A;omega,fun i hi=>by rw[ah,Vg V];exact(oldy i V V).trans ((hold i V V).trans (o1.nf i hi))⟩ (.agg rfl fun i hi _=>?_) hK
   match i,hi with
   |0,_=>exact .lit _
   |1,_ =>
    show Fz _ _ _ nv (.Q (bw d r u S).C.length (aG (bw d r u S).C));rw[<- hD',hlen];exact Cv (hO.ng (H':=Hy.upd H.A _) hny fun id g h1 h2 _=>by rw[ah,Vg V];exact oldy id h2 V) (fun i h=>by show H.A<=i;omega) rfl fun j h h'=>PQ D'.C _ (We h)
   |2,_=>exact .lit _
   |3,_ =>
    show Fz _ _ _ uv (.Q d.Y.length (bA d.Y));exact Cv (hU.ng (H':=Hy.upd H.A _) ZJ fun id g h1 h2 _=>by rw[ah,Vg V]) (fun i h=>by show H.A<=i;omega) rfl fun j h h'=>wx d.Y _ (We h)
  obtain⟨y,hy⟩:=ay (l:=d.Y) (i:=j) V;have q1:=hf.Y.2 y (an hy);have q0:=hf.Y.1;have c0:=zK hy;have cne:=zL hy;have c3:j*2+2<=(bA d.Y).length:=by rw[zJ];omega
  have wj:=Vd ((j:Int)+1) V;refine W.sq ?_;simp only[go_sem,i115,i116,hjb];refine W.sq ?_;simp only[go_sem];refine W.seq (W.block ?_);refine W.sq ?_;simp only[go_sem,i114,i116,hjb,c0,cne,c3];refine W.dr 10 [0,1,0,4,12,0,32,124,252,508] mixed ?_;have htu:bA (d.Y.take (j+1))=bA (d.Y.take j)++[.Q y.vars.length (ints y.vars),.Q y.w.length (ints y.w)]:=by
   rw[bd hy];unfold bA;rw[V8,YM];rfl
  rcases hU with ⟨hv,hj0,hnil⟩|⟨iu,gu,z1,z2,hv,z4,z5⟩
  ·subst hv;have lye:∀L,(ext Hy L).na (H.A+1) 0=_:=fun L=>(eF V).trans ly;have lyn:∀c L,(ext (ext Hy [.J 0 87 c]) L).na Hy.A 0=some (87,c):=fun c L=>(eF (by show Hy.A<Hy.A+1;omega)).trans (ag (cL ..));have lyn0:∀c,(ext Hy [.J 0 87 c]).na Hy.A 0=some (87,c):=fun c=>ag (cL ..);simp only[go_sem,i5,lye,lyn0,az];refine⟨af y.vars,[],aY.pure fun Hz=>oU y.vars V Hz _ ⟨rfl,rfl⟩,?_⟩;simp only[go_sem];refine⟨af y.w,[],aY.pure fun Hz=>oU y.w V Hz _ ⟨rfl,rfl⟩,?_⟩;have lye2:∀L M,(ext (ext Hy L) M).na (H.A+1) 0=_:=fun L M=>(eF (by rw[aW];omega)).trans (lye L);have lsrc:∀c c2,(ext (ext Hy [.J 0 87 c]) [.J 0 87 c2]).na (Hy.A+1) 0=some (87,c2):=fun c c2=>ag (cL ..);have llay:∀a b c,(ext (ext Hy [a]) [b]).lay (Hy.A+1+1) c=some (ext (ext Hy [a]) [b,c]):=fun a b c=>yD (ext Hy [a]) [b] c;simp only[go_sem,i5,lye2,lsrc,llay];refine⟨by repeat' (first|refine And.intro ?_ ?_|(intro x hx;omega)),?_⟩;refine W.vs ?_;simp only[go_sem,i116,wj];refine⟨by show Hx.A<=Hy.A+3;omega,⟨j+1,_,rfl,V,by show Hx.A<=Hy.A+3;omega,fun i h1 h2=>by rw[ah,Vg h2,c9 _ _ i (by rw[aW];omega),c9 Hy _ i V];exact oldy i h1 h2,by rw[ah,Vh rfl],?_⟩,by rw[j116];simp only[aa,bf];omega⟩;rw[htu,hnil,hj0];exact .inr ⟨Hy.A+1+1,0,V,by show Hy.A+1+1<Hy.A+3;omega,rfl,rfl,by rw[ah,Vg V];exact bM (ext Hy _) _ 1 ZG⟩
  ·subst hv;have lye:∀L,(ext Hy L).na (H.A+1) 0=_:=fun L=>(eF V).trans ly;have lyn0:∀c,(ext Hy [.J 0 87 c]).na Hy.A 0=some (87,c):=fun c=>ag (cL ..);simp only[go_sem,i5,lye,lyn0,az];refine⟨af y.vars,[],aY.pure fun Hz=>oU y.vars V Hz _ ⟨rfl,rfl⟩,?_⟩;simp only[go_sem];refine⟨af y.w,[],aY.pure fun Hz=>oU y.w V Hz _ ⟨rfl,rfl⟩,?_⟩;have lye2:∀L M,(ext (ext Hy L) M).na (H.A+1) 0=_:=fun L M=>(eF (by rw[aW];omega)).trans (lye L);have lsrc:∀c c2,(ext (ext Hy [.J 0 87 c]) [.J 0 87 c2]).na (Hy.A+1) 0=some (87,c2):=fun c c2=>ag (cL ..);have zl:∀L M,(ext (ext Hy L) M).na iu gu=some (87,bA (d.Y.take j)):=fun L M=>(eF (by rw[aW];omega)).trans ((eF z2).trans (ag z5));have lyu:∀L M b,((ext (ext Hy L) M).upd iu b).na (H.A+1) 0=_:=fun L M b=>(lQ V).trans (lye2 L M);simp only[go_sem,i5,lsrc,zl,lyu,z4];refine⟨by repeat' (first|refine And.intro ?_ ?_|(intro x hx;omega)),V,?_⟩;refine W.vs ?_;simp only[go_sem,i116,wj];refine⟨by show Hx.A<=Hy.A+2;omega,⟨j+1,_,rfl,V,by show Hx.A<=Hy.A+2;omega,fun i h1 h2=>by rw[ah,Vg h2,ah,Vg V,c9 _ _ i (by rw[aW];omega),c9 Hy _ i V];exact oldy i h1 h2,by rw[ah,Vh rfl],?_⟩,by rw[j116];simp only[aa,bf];omega⟩;rw[htu];exact .inr ⟨iu,gu+1,z1,by show iu<Hy.A+2;omega,rfl,by rw[List.length_append,z4];simp;omega,by rw[ah,Vg V,ah,Vh rfl]⟩
 obtain⟨x,hx⟩:=ay (l:=d.C) (i:=k) V;have c0:=oC hx;have cne:=fQ hx;have c3:k*3+3<=(aG d.C).length:=by rw[kq];omega
 have w1:=Vd ((k:Int)+1) V;refine W.sq ?_;simp only[go_sem,f40,f41,hb];refine W.sq ?_;simp only[go_sem];refine W.seq (W.block ?_);refine W.sq ?_;simp only[go_sem,f39,f41,hb,c0,cne,c3];obtain⟨H2,hH2⟩:∃H2,H2=ext Hx [.J 0 76 [.lit (.int .i64 x.L),.Q x.F.length (ints x.F),bb x.nb]]:=⟨_,rfl⟩
 have n2:H2.A=Hx.A+1:=hH2▸rfl
 have o2:ZP Hx H2:=hH2▸.ext _ _
 have g8:=dh hH2
 rw[<- hH2];clear hH2;have l8:=ag g8;refine W.seq ?_;refine Ev.W.Bk 7 [0,1,0,4,12,31,0] mixed ZI ZI ?_;simp only[go_sem,l8,CC,CD,CE,CF,CG,CH,Nd];obtain⟨_,hpp,_,_⟩:=xC hok hx;have pl6:x.F.length<=6:=by have:=hpp.len;omega
 have hx38:=hf.C.2 x (an hx);refine⟨_,_,_,_,PP V,?_⟩;simp only[go_sem,CK,CJ];refine⟨by repeat' (first|refine And.intro ?_ ?_|(intro x hx;omega)),by repeat' (first|refine And.intro ?_ ?_|(intro x hx;omega)),?_⟩;obtain⟨H3,hH3⟩:∃H3,H3=ext (ext H2 [.J (gC x.F) 3 (ints x.F)]) [.J 0 76 [.lit (.int .i64 x.L),.U H2.A (gC x.F) 0 x.F.length 1,.lit (.slice none 0 0)]]:=⟨_,rfl⟩
 have n3:H3.A=H2.A+2:=by rw[hH3];rfl
 have o3:ZP H2 H3:=by rw[hH3];exact(ZP.ext _ _).trans (.ext _ _)
 have gp:H3.get H2.A=some (.J (gC x.F) 3 (ints x.F)):=by rw[hH3,ee];exact bM H2 _ 0 (ZG)
 have gn:H3.get (H2.A+1)=some (.J 0 76 [.lit (.int .i64 x.L),.U H2.A (gC x.F) 0 x.F.length 1,.lit (.slice none 0 0)]):=by rw[hH3,ee];exact bM H2 _ 1 (ZG)
 rw[<- hH3];clear hH3;have l83:=ag ((o3.nf Hx.A V).trans g8);refine W.en (fun E2=>E2 0=.O s 0 0 /\ E2 1=aL S /\ E2 4=.O H.A 0 0 /\ E2 5=.O (H.A+1) 0 0 /\ E2 6=aa (fP (aE r) u) /\ E2 7=aa k /\ E2 8=.O Hx.A 0 0 /\ E2 9=.O (H2.A+1) 0 0 /\ E2 39=.Q d.C.length (aG d.C) /\ E2 40=aa d.C.length /\ E2 41=aa k) (by simp only[go_sem,f0,f1,f4,f5,f6,f39,f40,f41]) fun E2 ⟨h0,h1,h4,h5,h6',h7,h8,h9,h39,h40,h41'⟩=>?_
 rw[show bb x.nb=.Q x.nb.length (x.nb.map af) from rfl]at l83;refine W.seq ?_;refine W.sq ?_;simp only[go_sem,h8,l83];refine W.env fun E3 hE3=>?_;have i0:E3 0=.O s 0 0:=by rw[hE3];simp only[go_sem,h0]
 have i1:E3 1=aL S:=by rw[hE3];simp only[go_sem,h1]
 have i4:E3 4=.O H.A 0 0:=by rw[hE3];simp only[go_sem,h4]
 have i5:E3 5=.O (H.A+1) 0 0:=by rw[hE3];simp only[go_sem,h5]
 have i6:E3 6=aa (fP (aE r) u):=by rw[hE3];simp only[go_sem,h6']
 have i7:E3 7=aa k:=by rw[hE3];simp only[go_sem,h7]
 have i9:E3 9=.O (H2.A+1) 0 0:=by rw[hE3];simp only[go_sem,h9]
 have i39:E3 39=.Q d.C.length (aG d.C):=by rw[hE3];simp only[go_sem,h39]
 have i40:E3 40=aa d.C.length:=by rw[hE3];simp only[go_sem,h40]
 have i41:E3 41=aa k:=by rw[hE3];simp only[go_sem,h41']
 have i53:E3 53=.Q x.nb.length (x.nb.map af):=by rw[hE3];simp only[go_sem]
 have i54:E3 54=aa x.nb.length:=by rw[hE3];simp only[go_sem]
 have i55:E3 55=aa 0:=by rw[hE3];simp only[go_sem]
 clear hE3;refine W.block ?_;refine W.aS 147537923792657451008 ZI (fun ρ Hy=>∃(j:Nat) (rv:ZL),ρ 55=aa j/\j<=x.nb.length/\H3.A<=Hy.A/\(∀i,i<H3.A->i≠H2.A+1->Hy.get i=H3.get i) /\
  Hy.get (H2.A+1)=some (.J 0 76 [.lit (.int .i64 x.L),.U H2.A (gC x.F) 0 x.F.length 1,rv])/\aI H3.A Hy 72 rv ((x.nb.take j).map af)) (fun ρ _=>x.nb.length-(iv (ρ 55)).toNat) ?_ ?_
 ·exact⟨0,_,i55,V,ZJ,fun _ _ _=>rfl,gn,.inl ⟨rfl,rfl⟩⟩
 rintro ρ2 Hy ⟨j,rv,j55,hj,hny,oldy,gy,hR⟩;refine W.en (fun E4=>E4 0=.O s 0 0 /\ E4 1=aL S /\ E4 4=.O H.A 0 0 /\ E4 5=.O (H.A+1) 0 0 /\ E4 6=aa (fP (aE r) u) /\ E4 7=aa k /\ E4 9=.O (H2.A+1) 0 0 /\ E4 39=.Q d.C.length (aG d.C) /\ E4 40=aa d.C.length /\ E4 41=aa k /\ E4 53=.Q x.nb.length (x.nb.map af) /\ E4 54=aa x.nb.length /\ E4 55=aa j) (by simp only[go_sem,i0,i1,i4,i5,i6,i7,i9,i39,i40,i41,i53,i54,j55]) fun E4 ⟨m0,m1,m4,m5,m6,m7,m9,m39,m40,m41,m53,m54,m55⟩=>?_
 by_cases hjb:(j:Int)<x.nb.length
 ·obtain⟨row,hrow⟩:=ay (l:=x.nb) (i:=j) V;have q1:=hx38.2.2 row (an hrow);have gr:(x.nb.map af)[j]?=some (af row):=by rw[List.getElem?_map,hrow];rfl
  have grn:=aZ gr;have wj:=Vd ((j:Int)+1) V;have ly:=ag gy;have rv1:=hR.one;have rvc:=hR.cells;refine W.sq ?_;simp only[go_sem,m54,m55,hjb];refine W.sq ?_;simp only[go_sem];refine W.seq (W.block ?_);refine W.sq ?_;simp only[go_sem,m53,m55,hjb,gr,grn];have rvne:∀i,i<H3.A->∀g n,rv≠.U i g 0 n 1:=fun i hi g n hv=>by
   rcases hR with ⟨h,_⟩|⟨i2,g2,z1,_,h,_⟩
   ·rw[h]at hv;cases hv
   ·rw[h]at hv;have:=(ZL.U.inj hv).1;omega
  refine W.dr 5 [0,1,0,4,12] mixed ?_;have ht1:(x.nb.take (j+1)).map af=(x.nb.take j).map af++[af row]:=by rw[bd hrow,V8];rfl
  have htl:((x.nb.take j).map af).length=j:=by rw[VA,Vv];omega
  rcases hR with ⟨hv,hnil⟩|⟨iu,gu,z1,z2,hv,z4⟩
  ·subst hv;simp only[go_sem,m9,ly,az];refine⟨af row,[],aY.pure fun Hz=>oU row V Hz _ ⟨rfl,rfl⟩,?_⟩;have lye:∀L,(ext Hy L).na (H2.A+1) 0=_:=fun L=>(eF V).trans ly;simp only[go_sem,lye];refine⟨by repeat' (first|refine And.intro ?_ ?_|(intro x hx;omega)),?_⟩;refine W.vs ?_;simp only[go_sem,m55,wj];refine⟨by show H3.A<=Hy.A+2;omega,⟨j+1,_,rfl,V,by show H3.A<=Hy.A+2;omega,fun i h1 h2=>by rw[ah,Vg h2,c9 Hy _ i V];exact oldy i h1 h2,by rw[ah,Vh rfl],?_⟩,by rw[j55];simp only[aa,bf];omega⟩;rw[ht1,hnil];exact .inr ⟨Hy.A+1,0,V,by show Hy.A+1<Hy.A+2;omega,rfl,by rw[ah,Vg V];exact bM Hy _ 1 ZG⟩
  ·subst hv;simp only[go_sem,m9,ly,az];refine⟨af row,[],aY.pure fun Hz=>oU row V Hz _ ⟨rfl,rfl⟩,?_⟩;have zl:∀L,(ext Hy L).na iu gu=some (72,(x.nb.take j).map af):=fun L=>(eF z2).trans (ag z4);have lye:∀L b,((ext Hy L).upd iu b).na (H2.A+1) 0=_:=fun L b=>(lQ V).trans ((eF V).trans ly);have hby:(j+1)*24<=140737488355328:=V;simp only[go_sem,m9,lye,zl,htl,hby];refine⟨by repeat' (first|refine And.intro ?_ ?_|(intro x hx;omega)),V,?_⟩;refine W.vs ?_;simp only[go_sem,m55,wj];refine⟨by show H3.A<=Hy.A+1;omega,⟨j+1,_,rfl,V,by show H3.A<=Hy.A+1;omega,fun i h1 h2=>by rw[ah,Vg h2,ah,Vg V,c9 Hy _ i V];exact oldy i h1 h2,by rw[ah,Vh rfl],?_⟩,by rw[j55];simp only[aa,bf];omega⟩;rw[ht1];exact .inr ⟨iu,gu+1,z1,by show iu<Hy.A+1;omega,by rw[List.length_append,htl];rfl,by rw[ah,Vg V,ah,Vh rfl];rfl⟩
 obtain rfl:j=x.nb.length:=V
 refine W.vs ?_;simp only[go_sem,m54,m55,hjb];rw[XR]at hR;have ly:=ag gy;have osy:Hy.get s=H.get s:=by rw[oldy s V V,o3.nf s V,o2.nf s V,hold s V V,o1.nf s hsl]
 have lsy:=ag (osy.trans hs);unfold hZ at lsy;obtain⟨pp,hpp2⟩:∃pp,pp=(jf d.C.length r u S k x).F:=⟨_,rfl⟩
 refine W.tt (fun σ=>σ.ρ 5=.O (H.A+1) 0 0/\σ.ρ 9=.O (H2.A+1) 0 0/\σ.ρ 41=aa k/\∃(ip gp:Nat) (rv:ZL),Hy.A<=σ.H.A/\(∀i,i<H3.A->i≠H2.A->i≠H2.A+1->σ.H.get i=H3.get i)/\H2.A<=ip/\ip<σ.H.A/\ip≠H2.A+1 /\
   σ.H.get (H2.A+1)=some (.J 0 76 [.lit (.int .i64 x.L),.U ip gp 0 pp.length 1,rv])/\(∃q,σ.H.get ip=some (.J gp 3 (ints pp++q)))/\aI H3.A σ.H 72 rv (x.nb.map af)) ?_ ?_
 ·refine W.sq ?_;simp only[go_sem,m0,m7,lsy];refine ak.X (zA (aE r) k hrl _ _ ⟨trivial,?_⟩);simp only[go_sem,m6];by_cases hlt:fM r u k=true;rotate_left
  ·have hge:¬fP (aE r) k >= fP (aE r) u:=fun h=>hlt ((DC hu).1 h);refine W.cond (t:=false) (by simp only[go_sem,hge]) ?_;refine W.vs ?_;simp only[go_sem,m5,m9,m41];have epp:pp=x.F:=(by rw[hpp2];unfold jf;rw[Vg hlt]);rw[epp];exact⟨H2.A,gC x.F,rv,fun i h1 _ h3=>oldy i h1 h3,ZJ,V,V,gy,⟨[],by rw[List.append_nil];exact(oldy _ V V).trans gp⟩,hR⟩
  have hge:fP (aE r) k >= fP (aE r) u:=(DC hu).2 hlt;refine W.cond (t:=true) (by simp only[go_sem,hge]) ?_;obtain⟨q0,hq0⟩:∃q:List Nat,aE q=x.F:=⟨_,DE fun p hp=>(hpp.2 p hp).1⟩
  have hq6:q0.length<=6:=by rw[<- hq0]at pl6;simpa[aE] using pl6
  have hqm:∀a∈q0,a<d.C.length:=fun a ha=>by
   have:=(hpp.2 a (by rw[<- hq0];exact mT.2 ha)).2;omega
  have S64:S<2 ^ 64:=Vn hS (Vr ZH V);have h3n:H3.A<=Hy.A:=hny;refine W.sq ?_;simp only[go_sem,m0,lsy];refine W.en (fun E5=>E5 1=aL S /\ E5 5=.O (H.A+1) 0 0 /\ E5 9=.O (H2.A+1) 0 0 /\ E5 41=aa k /\ E5 80=aa d.C.length /\ E5 81=aa 0) (by simp only[go_sem,m1,m5,m9,m41]) fun E5 ⟨q1,q5,q9,q41,q80,q81⟩=>?_
  refine W.aS 79225744662625108335194542080 ZI (fun ρ Hw=>∃w g:Nat,ρ 81=aa w/\w<=d.C.length/\Hy.A<=Hw.A/\(∀i,i<Hy.A->i≠H2.A->i≠H2.A+1->Hw.get i=Hy.get i) /\
   Hw.get (H2.A+1)=some (.J 0 76 [.lit (.int .i64 x.L),.U H2.A g 0 (ia q0 S w).length 1,rv])/\Hw.get H2.A=some (.J g 3 (cI (ia q0 S w)))) (fun ρ _=>d.C.length-(iv (ρ 81)).toNat) ?_ ?_
  ·have e0:ia q0 S 0=q0:=(by unfold ia;simp);have e1:x.F.length=q0.length:=(by rw[<- hq0];simp[aE]);have e2:ints x.F=cI q0:=(by rw[vI,hq0]);refine⟨0,gC x.F,q81,V,ZJ,fun _ _ _ _=>rfl,by rw[e0,<- e1];exact gy,by rw[e0,<- e2];exact(oldy _ V V).trans gp⟩
  rintro ρ3 Hw ⟨w,g,w81,hw,hnw,oldw,gnw,gpw⟩;refine W.en (fun E6=>E6 1=aL S /\ E6 5=.O (H.A+1) 0 0 /\ E6 9=.O (H2.A+1) 0 0 /\ E6 41=aa k /\ E6 80=aa d.C.length /\ E6 81=aa w) (by simp only[go_sem,q1,q5,q9,q41,q80,w81]) fun E6 ⟨r1,r5,r9,r41,r80,r81⟩=>?_
  have lnw:=ag gnw;have lpw:=ag gpw;have hll:=PR q0 S w;by_cases hwb:(w:Int)<d.C.length
  ·have s1:=fun t x y=>jm (P:=prog) (t:=t) (x:=x) (y:=y) (k':=.i64) (s:=w) S64;have s2:=fun t x y=>pf (P:=prog) (t:=t) (x:=x) (y:=y) (s:=w) S64;have ww:=Vd ((w:Int)+1) V;refine W.sq ?_;simp only[go_sem,r80,r81,hwb];refine W.sq ?_;simp only[go_sem];refine W.seq (W.block ?_);refine W.sq ?_;simp only[go_sem,r81];cases hbit:S.testBit w with
   |false =>
    refine W.sq ?_;simp only[go_sem,r1,s1,s2,hbit];refine W.cond (t:=false) (by simp only[go_sem]) ?_;refine W.vs ?_;simp only[go_sem];refine W.vs ?_;simp only[go_sem,r81,ww];exact⟨V,⟨w+1,g,rfl,V,hnw,oldw,by rw[DD _ hbit];exact gnw,by rw[DD _ hbit];exact gpw⟩,by rw[w81];simp only[aa,bf];omega⟩
   |true =>
    refine W.sq ?_;simp only[go_sem,r1,s1,s2,hbit];refine W.cond (t:=true) (by simp only[go_sem]) ?_;have lne:∀L,(ext Hw L).na (H2.A+1) 0=_:=fun L=>(eF V).trans lnw;have lpe:∀L,(ext Hw L).na H2.A g=some (3,cI (ia q0 S w)):=fun L=>(eF V).trans lpw;have lsrc:∀c,(ext Hw [.J 0 3 c]).na Hw.A 0=some (3,c):=fun c=>ag (cL ..);have lnu:∀L b,((ext Hw L).upd H2.A b).na (H2.A+1) 0=_:=fun L b=>(lQ V).trans (lne L);have ncl:=pN (ia q0 S w);have hby:((ia q0 S w).length+1)*8<=140737488355328:=V;refine W.vs ?_;simp only[go_sem,r9,lnw,lpe,lsrc,lnu,ncl,hby,az];refine⟨V,?_⟩;refine W.vs ?_;simp only[go_sem,r81,ww];have en:=PS q0 hbit;refine⟨by show Hy.A<=Hw.A+1;omega,⟨w+1,g+1,rfl,V,by show Hy.A<=Hw.A+1;omega,fun i h1 h2 h3=>by rw[ah,Vg h3,ah,Vg h2,c9 Hw _ i V];exact oldw i h1 h2 h3,by rw[ah,Vh rfl,en,List.length_append];rfl,by rw[ah,Vg V,ah,Vh rfl,en];unfold cI;rw[V8];rfl⟩,by rw[w81];simp only[aa,bf];omega⟩
  obtain rfl:w=d.C.length:=V
  have lm64:∀a∈ia q0 S d.C.length,a<64:=fun a ha=>by
   rcases VH.1 ha with h|h
   ·have:=hqm a h;omega
   ·have:=Vs.1 (Xa.1 h).1;omega
  have lmem:∀q,q∈ia q0 S d.C.length↔(q:Int)∈x.F\/S.testBit q=true:=fun q=>by
   unfold ia;rw[VH,Xa,Vs,<- hq0,mT];refine⟨fun h=>h.elim .inl fun h=>.inr h.2,fun h=>h.elim .inl fun h=>.inr ⟨?_,h⟩⟩;exact Wr fun hle=>by
    have:=Wy (Vn hS (Vr ZH hle));rw[this]at h;cases h
  refine W.vs ?_;simp only[go_sem,r80,r81,hwb];refine W.sq ?_;simp only[go_sem,r9,lnw];refine ak.X (PJ V lm64 Hw gpw _ fun l' H' hH' hperm hsrt=>⟨trivial,?_⟩);have gpl:H'.get H2.A=some (.J g 3 (cI l')):=by rw[hH',ah,Vh rfl]
  have ol:∀i,i≠H2.A->H'.get i=Hw.get i:=fun i h=>by rw[hH',ah,Vg h]
  have nl:H'.A=Hw.A:=by rw[hH'];rfl
  have gnl:=(ol (H2.A+1) V).trans gnw;rw[<- hperm.length_eq]at gnl;clear hH';have lnl:=ag gnl;have hpl':=hperm.length_eq;simp only[go_sem];refine W.vs ?_;simp only[go_sem,r9,lnl];refine ak.X (PL hsrt V H' gpl V _ fun rr qq H6 hH6 hcomp=>⟨trivial,?_⟩);have ol6:∀i,i≠H2.A->H6.get i=H'.get i:=fun i h=>by rw[hH6,ah,Vg h]
  have gp6:H6.get H2.A=some (.J g 3 (cI (rr++qq))):=by rw[hH6,ah,Vh rfl]
  have n6:H6.A=H'.A:=by rw[hH6];rfl
  have ln6:=ag ((ol6 (H2.A+1) V).trans gnl);have hpp3:aE rr=pp:=by
   rw[hpp2];unfold jf;rw[Vh hlt];exact PB hpp hS (fun q=>(hperm.mem_iff).trans (lmem q)) hcomp
  have hppl:pp.length=rr.length:=by rw[<- hpp3];simp[aE]
  clear hH6;simp only[go_sem,r5,r9,r41,ln6];refine⟨H2.A,g,rv,by show Hy.A<=H6.A;omega,fun i h1 h2 h3=>by rw[ah,Vg h3,ol6 i h2,ol i h2,oldw i V h2 h3];exact oldy i h1 h3,ZJ,by show H2.A<H6.A;omega,V,by rw[ah,Vh rfl,hppl],⟨cI qq,?_⟩,?_⟩
  ·rw[ah,Vg V,gp6,<- hpp3,<- vI];unfold cI;rw[V8]
  ·exact hR.ng ZJ (by show Hy.A<=H6.A;omega) fun id gg h1 h2 _ _=>by rw[ah,Vg V,ol6 id V,ol id V,oldw id h2 V V]
 rintro⟨ρ3,Hz⟩ ⟨p5,p9,p41,ip,gpp,rv3,nz,oldz,z1,z2,z3,gnz,⟨qz,gip⟩,hRz⟩;simp only at p5 p9 p41 nz oldz z2 gnz gip hRz;refine W.BQ (eV.jN aF (n:=H2.A) (ob:=H2.A+1) (cells':=[.lit (.int .i64 x.L),af pp,bb x.nb]) gnz rfl (fun _ i hi h'=>?_)) ZJ trivial ?_
 ·match i,hi with
  |0,_=>exact .lit _
  |1,_ =>
   refine .ny ⟨z1,z3⟩ gip (by rw[bD,Nat.mul_one]) fun j hj h2 h3=>?_;simp only[Nat.zero_add];rw[Wj (by rw[bD];omega)];simp only[ints,Vw];exact .lit _
  |2,_ =>
   have:=hRz.fz (S:=fun id=>H2.A<=id/\id≠H2.A+1) (nx:=Hz.A) (cs':=x.nb.map af) (fun i h=>⟨V,V⟩) rfl fun j hj h2=>by simp only[Vw];exact .ea _
   rw[VA]at this;exact this
 obtain⟨Hm,hHm⟩:∃Hm,Hm=Hz.jN H2.A (H2.A+1) (.J 0 76 [.lit (.int .i64 x.L),af pp,bb x.nb]):=⟨_,rfl⟩
 have nm:Hm.A=Hz.A:=by rw[hHm];rfl
 have gm:Hm.get (H2.A+1)=some (.J 0 76 [.lit (.int .i64 x.L),af pp,bb x.nb]):=by rw[hHm];exact Cu
 have oldm:∀i,i<Hx.A->Hm.get i=Hx.get i:=fun i h=>by rw[hHm,MM V V,oldz i V V V,o3.nf i V,o2.nf i h]
 rw[<- hHm];clear hHm;have lm:=ag gm;have l5m:=ag ((oldm _ V).trans hx5);have hy:=rp (r:=r) (u:=u) (S:=S) hx;have ht:aG (D'.C.take (k+1))=aG (D'.C.take k)++[.lit (.int .i64 x.L),.Q pp.length (ints pp),bb x.nb]:=by
  obtain⟨c1,c2⟩:=rq d.C.length r u S k x;rw[hD',bd hy];unfold aG;rw[V8,YM];congr 1;show [aa _,af _,bb _]++[]=_;rw[c1,c2,<- hpp2];rfl
 have w1':IntKind.i64.wrap ((k:Int)+1)=k+1:=w1;have lme:∀L,(ext Hm L).na (H.A+1) 0=_:=fun L=>(eF V).trans l5m;rcases hO with ⟨hv,hk0,hnil⟩|⟨iu,gu,y1,y2,hv,y4,y5⟩
 ·subst hv;refine W.vs ?_;simp only[go_sem,p5,p9,lm,l5m,lme,az];refine W.vs ?_;simp only[go_sem,p41,w1'];refine⟨by show H1.A<=Hm.A+2;omega,⟨k+1,_,rfl,V,by show H1.A<=Hm.A+2;omega,fun i h1 h2=>by rw[ah,Vg h2,c9 Hm _ i V,oldm i V];exact hold i h1 h2,by rw[ah,Vh rfl],?_⟩,by rw[h41];simp only[aa,bf];omega⟩;rw[ht,hnil,hk0];exact .inr ⟨Hm.A+1,0,V,by show Hm.A+1<Hm.A+2;omega,rfl,rfl,by rw[ah,Vg V];exact bM Hm _ 1 ZG⟩
 ·subst hv;have zl:∀L,(ext Hm L).na iu gu=some (76,aG (D'.C.take k)):=fun L=>(eF V).trans (ag ((oldm _ y2).trans y5));have lye:∀L b,((ext Hm L).upd iu b).na (H.A+1) 0=_:=fun L b=>(lQ V).trans (lme L);refine W.vs ?_;simp only[go_sem,p5,p9,lm,l5m,zl,lye,y4,az];refine⟨V,?_⟩;refine W.vs ?_;simp only[go_sem,p41,w1'];refine⟨by show H1.A<=Hm.A+1;omega,⟨k+1,_,rfl,V,by show H1.A<=Hm.A+1;omega,fun i h1 h2=>by rw[ah,Vg h2,ah,Vg V,c9 Hm _ i V,oldm i V];exact hold i h1 h2,by rw[ah,Vh rfl],?_⟩,by rw[h41];simp only[aa,bf];omega⟩;rw[ht];exact .inr ⟨iu,gu+1,y1,by show iu<Hm.A+1;omega,rfl,by rw[List.length_append,y4];simp;omega,by rw[ah,Vg V,ah,Vh rfl]⟩
def D3 {l:List Value}:∀i (_:i<(l.map ZL.lit).length) (_:i<(l.map ZL.lit).length),Fz S H nx (l.map ZL.lit)[i] (l.map ZL.lit)[i]:=fun i _ _=>by simp only[Vw];exact .lit _
def D4 (a b c:Value):Fz S H nx (.nc [.agg [.lit a,.lit b],.lit c]) (.nc [.agg [.lit a,.lit b],.lit c]) :=
 .nc rfl fun i h _=>match i,h with
  |0,_=>.agg rfl (D3 (l:=[a,b]))
  |1,_=>.lit _
def D5 (a c:Value):Fz S H nx (.nc [.lit a,.lit c]) (.nc [.lit a,.lit c]):=.nc rfl (D3 (l:=[a,c]))
def D6:ZL->Bool
 |.agg [.lit (.int .i64 _),.lit (.int .i64 _)]=>true
 |_=>false
def tK:GD:=⟨.agg [.lit (.int .i64 0),.lit (.int .i64 0)],D6⟩
def Qu (hG:fB G):yW prog G 163 tK:=by
 intro g cap cap' H o hl hv hok hc;refine ae.X ⟨_,func163,rfl,rfl⟩ fun hcl=>?_;refine ae.guard (n:=7) (m:=6) (rs:=[.cell 2 58,.cell 3 44]) func163 rfl rfl rfl ZI ZG ZH func184 rfl rfl rfl ZH ZI ZH ZH ZH ZH ZH (fun _=>ZI) (fun _ _ _=>ZI) ZH ZH ZH (s1:=?s) ?_ ?_
 case s=>exact⟨aH (aH (dD [.X g [] cap]) (some 2) (.O H.A 0 0)) (some 3) (.O (H.A+1) 0 0),ext H [.J 0 58 [.lit (.int .i64 0),.lit (.int .i64 0)],.J 0 44 [.lit (.int .i64 0)]]⟩
 ·simp only[go_sem]
 ·refine W.vs ?_;simp only[go_sem];refine ak.X ((ae.sN (args:=[]++[]++cap) hG (by simpa using hl) (fun i h h'=>by simpa using hv _ (fun id hid=>c9 H _ id hid) i (by simpa using h) h') hc).mono ?_);rintro r H' ⟨rfl,rfl⟩;refine⟨trivial,?_⟩;cases o with
  |none =>
   intro t v;refine⟨⟨aH (aH (aH (dD [.O H.A 0 0,.O (H.A+1) 0 0]) (some 3) (.lit (.iface t v))) (some 4) (.lit (.bool true))) (some 2) (.O (H.A+2) 0 0),ext H [.J 0 58 [.lit (.int .i64 0),.lit (.int .i64 0)],.J 0 44 [.lit (.int .i64 0)],.J 0 58 [.lit (.int .i64 0),.lit (.int .i64 0)]]⟩,
    ⟨aH (aH (aH (aH (dD [.O H.A 0 0,.O (H.A+1) 0 0]) (some 3) (.lit (.iface t v))) (some 4) (.lit (.bool true))) (some 2) (.O (H.A+2) 0 0)) (some 5) (.agg [.lit (.int .i64 0),.lit (.int .i64 0)]),ext H [.J 0 58 [.lit (.int .i64 0),.lit (.int .i64 0)],.J 0 44 [.lit (.int .i64 6)],.J 0 58 [.lit (.int .i64 0),.lit (.int .i64 0)]]⟩,?_,?_,?_⟩
   ·simp only[go_sem]
   ·simp only[go_sem]
   ·simp only[go_sem];exact aj.drop hG hcl (D4 _ _ _) ⟨rfl,rfl⟩
  |some u =>
   have hu:=hok u rfl;unfold tK D6 at hu;simp only at hu;split at hu
   ·rename_i a b;show opsV _ _ _ _ _ _ _;simp only[go_sem,yj];exact aj.drop hG hcl (D4 _ _ _) ⟨rfl,rfl⟩
   ·cases hu
def D7:ZL->Bool
 |.lit (.int .i64 _)=>true
 |_=>false
def D8:GD:=⟨.lit (.int .i64 0),D7⟩
def Qv (hG:fB G):yW prog G 139 D8:=by
 intro g cap cap' H o hl hv hok hc;refine ae.X ⟨_,func139,rfl,rfl⟩ fun hcl=>?_;refine ae.guard (n:=7) (m:=6) (rs:=[.cell 2 3,.cell 3 44]) func139 rfl rfl rfl ZI ZG ZH func173 rfl rfl rfl ZH ZI ZH ZH ZH ZH ZH (fun _=>ZI) (fun _ _ _=>ZI) ZH ZH ZH (s1:=?s) ?_ ?_
 case s=>exact⟨aH (aH (dD [.X g [] cap]) (some 2) (.O H.A 0 0)) (some 3) (.O (H.A+1) 0 0),ext H [.J 0 3 [.lit (.int .i64 0)],.J 0 44 [.lit (.int .i64 0)]]⟩
 ·simp only[go_sem]
 ·refine W.vs ?_;simp only[go_sem];refine ak.X ((ae.sN (args:=[]++[]++cap) hG (by simpa using hl) (fun i h h'=>by simpa using hv _ (fun id hid=>c9 H _ id hid) i (by simpa using h) h') hc).mono ?_);rintro r H' ⟨rfl,rfl⟩;refine⟨trivial,?_⟩;cases o with
  |none =>
   intro t v;refine⟨⟨aH (aH (aH (dD [.O H.A 0 0,.O (H.A+1) 0 0]) (some 3) (.lit (.iface t v))) (some 4) (.lit (.bool true))) (some 2) (.lit (.int .i64 0)),ext H [.J 0 3 [.lit (.int .i64 0)],.J 0 44 [.lit (.int .i64 0)]]⟩,
    ⟨aH (aH (aH (aH (dD [.O H.A 0 0,.O (H.A+1) 0 0]) (some 3) (.lit (.iface t v))) (some 4) (.lit (.bool true))) (some 2) (.lit (.int .i64 0))) (some 5) (.lit (.int .i64 0)),ext H [.J 0 3 [.lit (.int .i64 0)],.J 0 44 [.lit (.int .i64 6)]]⟩,?_,?_,?_⟩
   ·simp only[go_sem]
   ·simp only[go_sem]
   ·simp only[go_sem];exact aj.drop hG hcl (D5 _ _) ⟨rfl,rfl⟩
  |some u =>
   have hu:=hok u rfl;unfold D8 D7 at hu;simp only at hu;split at hu
   ·rename_i a;show opsV _ _ _ _ _ _ _;simp only[go_sem,yj];exact aj.drop hG hcl (D5 _ _) ⟨rfl,rfl⟩
   ·cases hu
end Go.Proofs
