/- Own work: contracts. -/
import Derived.Test.YtjhbjbninamhnaaGreatConH
import Derived.Test.YtjhbjbninamhnaaGreatConE
import Derived.Test.YtjhbjbninamhnaaGreatConG
import Derived.Test.YtjhbjbninamhnaaGreatConF
import Derived.Test.YtjhbjbninamhnaaGreatProg
import Derived.Test.YtjhbjbninamhnaaGreatLibC
import Derived.Test.YtjhbjbninamhnaaGreatConA
set_option linter.all false
set_option maxRecDepth 100000
namespace Go.Proofs
open Go.Hx
theorem Ed {α:Type}{a b:List α}{k:Nat}{x:α}(h:a.take k=b.take k)(ha:a[k]?=some x)(hb:b[k]?=some x):a.take (k+1)=b.take (k+1):=by
 rw[aO ha,aO hb,h]
theorem Ee {α:Type}{a b:List α}{k:Nat}(h:a.take k=b.take k)(ha:a.length<=k)(hb:b.length<=k):a=b:=by
 rw[SP ha,SP hb]at h;exact h
set_option maxHeartbeats 1000000 in
theorem Ra (a b:List (List Int))(ha:(a.length:Int)<2 ^ 62)(har:∀ r∈a,(r.length:Int)<2 ^ 62)(H:AHeap)(K:ARes->AHeap->Prop)(hK:K (.ret (.lit (.bool (decide (a=b))))) H):ae Tryz.prog G0 26 [ah a,ah b] H K:=by
 refine ae.aZ (n:=53) (rs:=[.tmp 4]) Tryz.func26 rfl rfl rfl (by decide) (by kernel_rfl) (by simp) ?_;have no:a≠b->ay Tryz.prog G0 H K (.lit (.bool false)) H:=fun h=>by
  rw[UH h]at hK;exact ay.mk (Nat.le_refl _) hK
 by_cases hl:(a.length:Int)=b.length;rotate_left
 ·simp only[go_sem,ah,hl];exact no fun h=>hl (by rw[h])
 simp only[go_sem,ah,hl];refine W.aL 9007199254737008 (by rfl) (fun ρ Hx=>Hx=H/\∃ k:Nat,ρ 5=aa k/\k<=a.length/\a.take k=b.take k) (fun ρ H=>a.length - (iv (ρ 5)).toNat) ?_ ?_
 ·simp only[go_sem];exact⟨0,rfl,by omega,rfl⟩
 rintro ρ Hx ⟨rfl,k,h5,hk,he⟩;refine W.vs ?_;by_cases hb:(k:Int)<a.length;rotate_left
 ·simp only[go_sem,h5,hl];have hab:a=b:=Ee he (by omega) (by omega);rw[T1 hab]at hK;have hb2:¬ (k:Int)<b.length:=by omega
  simp only[go_sem,hb2];exact ay.mk (Nat.le_refl _) hK
 obtain⟨x,hx⟩:=get_of_lt (l:=a) (i:=k) (by omega);obtain⟨y,hy⟩:=get_of_lt (l:=b) (i:=k) (by omega);have hx':(a.map af)[k]?=some (af x):=by rw[List.getElem?_map,hx];rfl
 have hy':(b.map af)[k]?=some (af y):=by rw[List.getElem?_map,hy];rfl
 have hxn:=aK hx;have hyn:=aK hy;have hb2:(k:Int)<b.length:=by omega
 have hxr:=har x (SK hx);have w1:=SM ((k:Int)+1) (by omega);have nxy:x≠y->a≠b:=fun h e=>h (by subst e;rw[hx]at hy;exact Option.some.inj hy);simp only[go_sem,h5,hl,hb2];refine W.draw 10 [0,0,3,7,15,0,0,96,224,480] Tryz.mixed (by kernel_rfl) (by kernel_rfl) ?_;by_cases hxy:(x.length:Int)=y.length;rotate_left
 ·simp only[go_sem,h5,hb,hb2,hx',hy',hxn,hyn,hxy];exact no (nxy fun e=>hxy (by rw[e]))
 simp only[go_sem,h5,hb,hb2,hx',hy',hxn,hyn,hxy];refine W.aL 9007198717870160 (by rfl) (fun ρ2 Hz=>Hz=Hx/\∃ j:Nat,ρ2 6=aa j/\j<=x.length/\x.take j=y.take j) (fun ρ2 H=>x.length - (iv (ρ2 6)).toNat) ?_ ?_
 ·simp only[go_sem];exact⟨0,rfl,by omega,rfl⟩
 rintro ρ2 Hz ⟨rfl,j,h6,hj,he2⟩;refine W.vs ?_;by_cases hc:(j:Int)<y.length;rotate_left
 ·simp only[go_sem,h5,h6,hb,hx',hxn,hxy,hc,w1];have hxy2:x=y:=Ee he2 (by omega) (by omega);exact⟨⟨k+1,by simp,by omega,Ed he hx (by rw[hxy2];exact hy)⟩,by omega⟩
 obtain⟨u,hu⟩:=get_of_lt (l:=x) (i:=j) (by omega);obtain⟨v,hv⟩:=get_of_lt (l:=y) (i:=j) (by omega);have hun:=aK hu;have hvn:=aK hv;have hc2:(j:Int)<x.length:=by omega
 have w2:=SM ((j:Int)+1) (by omega);simp only[go_sem,h5,h6,hb,hx',hxn,hxy,hc];refine W.draw 14 [0,0,3,7,0,31,63,0,0,384,896,0,3968,8064] Tryz.mixed (by kernel_rfl) (by kernel_rfl) ?_;by_cases huv:u=v
 ·subst huv;simp only[go_sem,h5,h6,hb,hb2,hx',hy',hxn,hyn,hxy,hc,hu,hv,hun,hvn,w2];exact⟨⟨j+1,by simp,by omega,Ed he2 hu hv⟩,by omega⟩
 ·simp only[go_sem,h5,h6,hb,hb2,hx',hy',hxn,hyn,hxy,hc,hu,hv,hun,hvn,huv];exact no (nxy fun e=>huv (by subst e;rw[hu]at hv;exact Option.some.inj hv))
def mT (v:AVal)(a:List (List Int)):Prop:=v=ah a\/v=.lit (.slice none 0 0)/\a=[]
theorem mT.fz {v:AVal}{a:List (List Int)}(h:mT v a){S:Nat->Prop}{H:AHeap}{nx:Nat}:Fz S H nx v (ah a):=by
 rcases h with rfl|⟨rfl,rfl⟩
 ·exact .ah a
 ·exact .nil
theorem mT.one {v:AVal}{a:List (List Int)}(h:mT v a):v.one=true/\v.cells=[v]:=by
 rcases h with rfl|⟨rfl,_⟩<;>exact⟨rfl,rfl⟩
theorem SD {u v:AVal}{a b:List (List Int)}(hu:mT u a)(hv:mT v b)(ha:(a.length:Int)<2 ^ 62)(har:∀ r∈a,(r.length:Int)<2 ^ 62)(H:AHeap)(K:ARes->AHeap->Prop)(hK:K (.ret (.lit (.bool (decide (a=b))))) H):ae Tryz.prog G0 26 [u,v] H K :=
 ae.zJ (args':=[ah a,ah b]) aS rfl (fun i hi _=>match i,hi with
  | 0,_=>hu.fz
  | 1,_=>hv.fz) (Ra a b ha har H K hK)
theorem SE {f:FuncId}{H:AHeap}{K:ARes->AHeap->Prop}(d:InfP)(cs:List AVal){e:Nat->Prop}(hq:NodesQ e d.nodes cs)(p:List (List Int))(v:Int)(h:ae Tryz.prog G0 f [jd d,ah p,aa v] H K):ae Tryz.prog G0 f [dL d cs,ah p,aa v] H K :=
 ae.zJ (args':=[jd d,ah p,aa v]) aS rfl (fun i hi _=>match i,hi with
  | 0,_=>.agg rfl fun j hj _=>match j,hj with
   | 0,_=>.lit _
   | 1,_=>.vec (by rw[hq.len,gT]) fun i h h'=>hq.uQ i h h'
   | 2,_=>.lit _
   | 3,_=>.vec rfl fun _ h _=>yS _ _ (Tt h)
  | 1,_=>yX p
  | 2,_=>.lit _) h
set_option maxHeartbeats 4000000 in
theorem SF (d:InfP)(hf:InfFit d)(h6:d.nodes.length<=6)(p:List (List Int))(hpf:mK p)(v:Int)(H:AHeap)(K:ARes->AHeap->Prop)
  (hE:dF d p≠0->K (.ret (.tup [.lit (.slice none 0 0),aa (dF d p)])) H)
  (hN:dF d p=0->(∀ u:Nat,u∈az d->v≠u)->K (.ret (.tup [.lit (.slice none 0 0),aa 2])) H)
  (hK:∀ u:Nat,u∈az d->v=u->InfOk d->PolOk d p->K (.ret (.tup [ah (gW d (fixC p) u),aa 0])) H):
  ae Tryz.prog G0 23 [jd d,ah p,aa v] H K:=by
 by_cases he:dF d p=0;rotate_left
 ·refine ae.clo ⟨_,Tryz.func23,rfl,rfl⟩ fun hcl=>?_;refine ae.aZ (n:=74) (rs:=[.tmp 6,.tmp 7]) Tryz.func23 rfl rfl rfl (by decide) (by kernel_rfl) (by simp) ?_;simp only[go_sem,kJ,cT];refine aB.clo (zc d hf p hpf _ _ ⟨trivial,?_⟩);simp only[go_sem,he];refine ay.bx aS hcl (.ext _ _) ?_ (hE he);exact .tup rfl fun i hi _=>match i,hi with
   | 0,_=>.lit _
   | 1,_=>.lit _
 obtain⟨hok,hp⟩:=Ep he;by_cases hv:∃ u:Nat,u∈az d/\v=u
 ·obtain⟨u,hu,rfl⟩:=hv;exact Rk d hok hf h6 p hp hpf u hu H K (hK u hu rfl hok hp)
 have hv':∀ u:Nat,u∈az d->v≠u:=fun u hu e=>hv ⟨u,hu,e⟩;have n8:=hok.n.n1;have hD:=hf.decs;refine ae.clo ⟨_,Tryz.func23,rfl,rfl⟩ fun hcl=>?_;have fin:∀ L,ay Tryz.prog G0 H K (.tup [.lit (.slice none 0 0),aa 2]) (ext H L):=fun L=>ay.bx aS hcl (.ext _ _) (.tup rfl fun i hi _=>match i,hi with
   | 0,_=>.lit _
   | 1,_=>.lit _) (hN he hv')
 refine ae.aZ (n:=74) (rs:=[.tmp 6,.tmp 7]) Tryz.func23 rfl rfl rfl (by decide) (by kernel_rfl) (by simp) ?_;simp only[go_sem,kJ,cT];refine aB.clo (zc d hf p hpf _ _ ⟨trivial,?_⟩);rw[he];by_cases c1:v<0
 ·simp only[go_sem,c1];exact fin _
 by_cases c2:v >= d.nodes.length
 ·simp only[go_sem,c1,c2];exact fin _
 obtain⟨u,rfl⟩:=S2 (show 0<=v by omega);have hb:d.decs.testBit u=false:=by
  cases hq:d.decs.testBit u with
  | false=>rfl
  | true=>exact absurd rfl (hv' u (dD.2 ⟨by omega,hq⟩))
 have s1:=fun t x y=>kP (P:=Tryz.prog) (t:=t) (x:=x) (y:=y) (k':=.i64) (s:=u) hD;have s2:=fun t x y=>mQ (P:=Tryz.prog) (t:=t) (x:=x) (y:=y) (s:=u) hD;simp only[go_sem,c1,c2,s1,s2,hb];exact fin _
theorem RN (x:List Int)(hx:(x.length:Int)<2 ^ 40)(H:AHeap)(K:ARes->AHeap->Prop)(hK:K (.ret (af x)) H):ae Tryz.prog G0 49 [af x] H K:=by
 refine ae.clo ⟨_,Tryz.func49,rfl,rfl⟩ fun hc=>?_;refine ae.aZ (n:=8) (rs:=[.tmp 2]) Tryz.func49 rfl rfl rfl (by decide) (by kernel_rfl) (by simp) ?_;simp only[go_sem];intro b hlen;cases b with
 | true =>
  have hx0:x=[]:=SY (by
   by_cases h:0<x.length
   ·have:=hlen (by simpa using h);cases this
   ·omega)
  simp only[go_sem];subst hx0;exact ay.Bm aS hc .ta hK
 | false =>
  by_cases h0:x.length=0
  ·have hx0:x=[]:=SY h0;subst hx0;simp only[go_sem,di];refine⟨⟨rfl,rfl⟩,ay.drop (v':=af []) aS hc ?_ hK⟩;exact .ints (Nat.le_refl _) (bQ ..) rfl fun i hi=>absurd hi (S7 _)
  ·simp only[go_sem,h0,di];refine⟨⟨rfl,by omega,by omega,iY x⟩,ay.drop aS hc ?_ hK⟩;exact .ints (Nat.le_refl _) (bQ ..) rfl fun i hi=>by simp [gJ,hi]
theorem RO (t:List Int)(ht:(t.length:Int)<2 ^ 40)(h0:0<t.length)(H:AHeap)(K:ARes->AHeap->Prop)(hK:∀ v H',Over H H'->aA H.next H' 3 v (ints t)->K (.ret v) H'):ae Tryz.prog G0 49 [af t] H K:=by
 refine ae.aZ (n:=8) (rs:=[.tmp 2]) Tryz.func49 rfl rfl rfl (by decide) (by kernel_rfl) (by simp) ?_;simp only[go_sem];intro b hlen;cases b with
 | true=>exact absurd (hlen (by simpa using h0)) (by decide)
 | false =>
  have hn:¬ t.length=0:=by omega
  simp only[go_sem,hn,di];refine⟨⟨by simp,by omega,by omega,iY _⟩,ay.mk (by simp [bI]) ?_⟩;refine hK _ _ (Over.ext _ _) (.inr ⟨H.next,_,Nat.le_refl _,by simp [bI],by rw[aP],?_⟩);rw[bQ];simp
def dT (p:List (List Int)):List (List Int):=(p.take 4).map fun l=>l.take 70
theorem EG (p:List (List Int)):(dT p).length<=4/\∀ r∈dT p,r.length<=70:=by
 unfold dT;refine⟨by simp;omega,fun r hr=>?_⟩;obtain⟨l,_,rfl⟩:=S9.1 hr;rw[SX];omega
def jm (p:List (List Int))(A k:Nat)(w:AVal):List AVal:=(((dT p).take k).map af).set A w
theorem RP {p:List (List Int)}{k:Nat}{l:List Int}(h:p[k]?=some l)(h4:k<4):(dT p)[k]?=some (l.take 70):=by
 unfold dT;rw[List.getElem?_map,Ts h4,h];rfl
theorem EI (p:List (List Int)):(dT p).length=min p.length 4:=by unfold dT;simp [Nat.min_comm]
theorem RQ {p:List (List Int)}{A k:Nat}{l:List Int}(h:(dT p)[k]?=some l)(w:AVal):jm p A (k+1) w=if A=k then ((dT p).take k).map af++[w] else jm p A k w++[af l]:=by
 have hl:=get_lt h;unfold jm;rw[aO h,TI];by_cases hA:A=k
 ·rw[SQ hA,Tv _ _ (by simp;omega),hA];simp [SX,Uw (VC hl)]
 ·rw[SO hA];rcases Te A k with h'|h'
  ·rw[UQ _ _ (by simp;omega)];rfl
  ·rw[TD (by simp;omega),TD (by simp;omega)];rfl
set_option maxHeartbeats 2000000 in
theorem RS (p:List (List Int))(hp:(p.length:Int)<2 ^ 63)(hr:∀ r∈p,(r.length:Int)<2 ^ 63)(A:Nat)(hA:∀ r,A<4->p[A]?=some r->0<r.length)(H:AHeap)(K:ARes->AHeap->Prop)
  (hK:Clo H->∀ v w H',Over H H'->aA H.next H' 46 v (jm p A (dT p).length w)->(∀ r,(dT p)[A]?=some r->aA H.next H' 3 w (ints r))->ay Tryz.prog G0 H K v H'):ae Tryz.prog G0 12 [ah p] H K:=by
 refine ae.clo ⟨_,Tryz.func12,rfl,rfl⟩ fun hcl=>?_;obtain⟨n,hn⟩:∃ n,n=min p.length 4:=⟨_,rfl⟩
 have hn4:(if (4:Int)<p.length then (4:Int) else p.length)=(n:Int):=by split<;>omega
 have hfl:=EI p;rw[<- hn]at hfl;refine ae.aZ (n:=27) (rs:=[.tmp 2]) Tryz.func12 rfl rfl rfl (by decide) (by kernel_rfl) (by simp) ?_;simp only[go_sem,ah,hn4];refine⟨by simp,by omega,?_⟩;refine W.aL 67104808 (by rfl) (fun ρ Hx=>∃ (k:Nat) (w:AVal),ρ 12=aa k/\k<=n/\Over H Hx/\aA H.next Hx 46 (ρ 3) (jm p A k w)/\(∀ r,A<k->(dT p)[A]?=some r->aA H.next Hx 3 w (ints r))) (fun ρ H=>n - (iv (ρ 12)).toNat) ?_ ?_
 ·simp only[go_sem];exact⟨0,.lit (.slice none 0 0),rfl,by omega,.refl _,by unfold jm;simp;exact .nil,fun r h=>absurd h (S7 _)⟩
 rintro ρ Hx ⟨k,w,h12,hk,ov,hO,hW⟩;obtain⟨v,h3⟩:∃ v,ρ 3=v:=⟨_,rfl⟩
 rw[h3]at hO;refine W.en (fun E=>E 0=ah p /\ E 3=v /\ E 10=.vec n ((p.map af).take n) /\ E 11=aa n /\ E 12=aa k) (by simp only[go_sem,ah,h3,h12]) fun E ⟨e0,e3,e10,e11,e12⟩=>?_
 by_cases hb:(k:Int)<n;rotate_left
 ·refine W.vs ?_;simp only[go_sem,e3,e11,e12,hb];have hkn:k=(dT p).length:=by omega
  rw[hkn]at hO;exact hK hcl v w Hx ov hO fun r h=>hW r (by have:=get_lt h;omega) h
 obtain⟨l,hl⟩:=get_of_lt (l:=p) (i:=k) (by omega);have hlm:=hr l (SK hl);have hf:=RP hl (by omega);have hg:((p.map af).take n)[k]?=some (af l):=by rw[Ts (by omega),List.getElem?_map,hl];rfl
 have hgn:=aK hg;obtain⟨m,hm⟩:∃ m,m=(l.take 70).length:=⟨_,rfl⟩
 have hm':m=min l.length 70:=by rw[hm,SX,Nat.min_comm]
 have hm70:(if (70:Int)<l.length then (70:Int) else l.length)=(m:Int):=by split<;>omega
 have htk:(ints l).take m=ints (l.take 70):=by
  unfold ints;rw[<- List.map_take];congr 1;rw[hm'];rcases Nat.le_total l.length 70 with h|h
  ·rw[Uw h,SP (Nat.le_refl _),SP h]
  ·rw[Nat.min_eq_right h]
 have hfl2:(jm p A k w).length=k:=by unfold jm;rw[SU,SZ,SX,hfl];omega
 have w1:=SM ((k:Int)+1) (by omega);have hsuc:=fun w=>RQ (A:=A) hf w;refine W.sq ?_;simp only[go_sem,e11,e12,hb];refine W.sq ?_;simp only[go_sem];refine W.seq (W.block ?_);refine W.sq ?_;simp only[go_sem,e10,e12,hb,hg,hgn];refine W.vs ?_;simp only[go_sem,e3,hm70,htk];refine⟨by omega,?_⟩;have hmv:AVal.vec m (ints (l.take 70))=af (l.take 70):=by unfold af;rw[hm]
 rw[hmv];by_cases hA':A=k
 ·have hl0:0<(l.take 70).length:=by rw[<- hm,hm'];have:=hA l (by omega) (by rw[hA'];exact hl);omega
  refine aB.clo (RO (l.take 70) (by omega) hl0 _ _ fun w2 H2 ov2 hW2=>⟨trivial,?_⟩);obtain⟨v',H3,hA3,ov3,hO3,n3,hp3⟩:=Ew w2 hW2.one (ov.trans ov2) (hO.over ov2) (by omega);have h31:=hO3.one;have h3c:=hO3.cells;have w21:=hW2.one;have w2c:=hW2.cells;simp only[go_sem,hA3,w2c];refine W.vs ?_;simp only[go_sem,e12,w1];refine⟨by have:=ov3.next;omega,⟨k+1,w2,rfl,by omega,ov3,?_,fun r h1 h2=>?_⟩,by rw[h12];simp only[aa,aQ];omega⟩
  ·have:=hsuc w2;rw[SQ hA']at this;rw[this];have e:jm p A k w=((dT p).take k).map af:=(by unfold jm;rw[hA',TD (by simp [SX];omega)]);rw[e]at hO3;exact hO3
  ·rw[hA',hf]at h2;cases h2;refine hW2.keep ov.next (by omega) fun i g _ h4 h5 _=>hp3 i h4 fun g' n' hv=>?_;rcases hO with ⟨h6,_⟩|⟨i2,g2,_,a2,h6,_⟩
   ·rw[h6]at hv;cases hv
   ·rw[h6]at hv;have:=(AVal.own.inj hv).1;omega
 ·refine aB.clo (RN (l.take 70) (by omega) _ _ ⟨trivial,?_⟩);obtain⟨v',H3,hA3,ov3,hO3,n3,hp3⟩:=Ew (af (l.take 70)) rfl ov hO (by omega);have h31:=hO3.one;have h3c:=hO3.cells;simp only[af]at hA3;simp only[go_sem,hA3];refine W.vs ?_;simp only[go_sem,e12,w1];refine⟨by have:=ov3.next;omega,⟨k+1,w,rfl,by omega,ov3,?_,fun r h1 h2=>?_⟩,by rw[h12];simp only[aa,aQ];omega⟩
  ·have:=hsuc w;rw[SO hA']at this;rw[this];exact hO3
  ·refine(hW r (by omega) h2).keep (Nat.le_refl _) n3 fun i g _ h4 h5 _=>hp3 i h4 fun g' n' hv=>?_;rcases hO with ⟨h6,_⟩|⟨i2,g2,_,a2,h6,h7⟩
   ·rw[h6]at hv;cases hv
   ·rw[h6]at hv;obtain rfl:=(AVal.own.inj hv).1;rw[h7]at h5;cases h5
theorem RT (p:List (List Int))(hp:(p.length:Int)<2 ^ 63)(hr:∀ r∈p,(r.length:Int)<2 ^ 63)(H:AHeap)(K:ARes->AHeap->Prop)(hK:K (.ret (ah (dT p))) H):ae Tryz.prog G0 12 [ah p] H K:=by
 refine RS p hp hr 4 (fun r h=>absurd h (UN _)) H K fun hcl v w H' ov hO _=>?_;have e:jm p 4 (dT p).length w=(dT p).map af:=by unfold jm;rw[TP,TD (by rw[SZ,EI];omega)]
 rw[e]at hO;refine ay.bx (v':=ah (dT p)) aS hcl ov ?_ hK;have:=uz (S:=fun i=>H.next<=i) (nx:=H.next) (cs':=(dT p).map af) hO (fun i _ h _ _=>h) rfl fun i hi _=>by
  simp only[S4];exact .dq _
 rw[SZ]at this;exact this
theorem Nu {c n g:Int}{q:List Int}(hq:q≠[]):iI c n g q≠[]/\(iI c n g q).length<=q.length+1:=by
 have hl:0<q.length:=T0.2 hq;have:0<(iI c n g q).length/\(iI c n g q).length<=q.length+1:=by
  unfold iI;split
  ·rw[SU];omega
  ·split
   ·simp
   ·split
    ·rw[List.length_cons,Tl];omega
    ·rw[Ni];omega
 exact⟨T0.1 this.1,this.2⟩
theorem Nv {m:Nat}{c r n g:Int}{x:NodeP}(hx:x.parents.length<=m/\x.rows.length<=m/\∀ r∈x.rows,r≠[]/\r.length<=m):
  ((dw c r n g x).1.parents.length<=m+1/\(dw c r n g x).1.rows.length<=m+1/\∀ r'∈(dw c r n g x).1.rows,r'≠[]/\r'.length<=m+1)/\((dw c r n g x).2=ah (dw c r n g x).1.rows\/(dw c r n g x).2=ba (dw c r n g x).1)/\((¬ c=5\/x.rows=[])->(dw c r n g x).2=ba (dw c r n g x).1):=by
 obtain⟨h1,h2,h3⟩:=hx;have h3':∀ r∈x.rows,r≠[]/\r.length<=m+1:=fun r hr=>⟨(h3 r hr).1,by have:=(h3 r hr).2;omega⟩
 unfold dw;split
 ·exact⟨⟨by show x.parents.length<=_;omega,by show x.rows.length<=_;omega,h3'⟩,.inr rfl,fun _=>rfl⟩
 ·split
  ·exact⟨⟨by simp;omega,by show x.rows.length<=_;omega,h3'⟩,.inr rfl,fun _=>rfl⟩
  ·split
   ·exact⟨⟨by simp,by show x.rows.length<=_;omega,h3'⟩,.inr rfl,fun _=>rfl⟩
   ·split
    ·refine⟨⟨by show x.parents.length<=_;omega,by simp;omega,fun r hr=>?_⟩,.inr rfl,fun _=>rfl⟩;rcases Ta.1 hr with h|h
     ·exact h3' r h
     ·obtain rfl:=List.mem_singleton.1 h;exact⟨by simp,by simp⟩
    ·split
     ·exact⟨⟨by show x.parents.length<=_;omega,by show x.rows.length<=_;omega,h3'⟩,.inr rfl,fun _=>rfl⟩
     ·rename_i q hq;have hql:=get_lt hq;split
      ·rename_i c5;refine⟨⟨by show x.parents.length<=_;omega,by simp;omega,fun r hr=>h3' r (Tg hr)⟩,.inl rfl,fun h=>?_⟩;rcases h with h|h
       ·exact absurd c5 h
       ·rw[h]at hql;simp at hql
      ·have hq2:=h3 q (SK hq);have hrb:=Nu (c:=c) (n:=n) (g:=g) hq2.1;have hne:x.rows.set (r % (x.rows.length:Int)).toNat (iI c n g q)≠[]:=fun h=>by
        have:=congrArg List.length h;rw[SU]at this;simp at this;rw[this]at hql;simp at hql
       refine⟨⟨by show x.parents.length<=_;omega,by show (x.rows.set _ _).length<=_;rw[SU];omega,fun r' hr=>?_⟩,.inl rfl,fun _=>(rR (x:={ x with rows:=x.rows.set (r % (x.rows.length:Int)).toNat (iI c n g q) }) hne).symm⟩;rcases Tq hr with h|rfl
       ·exact h3' r' h
       ·exact⟨hrb.1,by omega⟩
theorem Nw {ns:List NodeP}{A:Nat}{x:NodeP}(hx:ns[A]?=some x)(e:Nat->Prop):NodesQ e ns (bz ns A (aa x.card) (af x.parents) (ba x)):=by
 have:=uA (e:=e) (x':=x) (rv:=ba x) (get_lt hx) (.inr rfl) fun _=>rfl;rw[jX hx]at this;exact this
theorem Cy {m A:Nat}{c r n g:Int}{ns:List NodeP}(hs:SmallN m ns):SmallN (m+1) (dV c A r n g ns).2.1/\NodesQ (fun v=>¬ c=5\/∀ x,ns[v]?=some x->x.rows=[]) (dV c A r n g ns).2.1 (dV c A r n g ns).2.2/\(dV c A r n g ns).2.1.length<=ns.length+1:=by
 have hs1:=hs.mono (Uj m);unfold dV;split
 ·exact⟨⟨by simp,fun x hx=>by simp at hx⟩,⟨rfl,fun v x hx=>by simp at hx⟩,by simp⟩
 ·rename_i x hx;have hA:=get_lt hx;have hxm:=hs.node x (SK hx);have nq:=Nw hx (fun v=>¬ c=5\/∀ x,ns[v]?=some x->x.rows=[]);split
  ·exact⟨hs1,nq,Uj _⟩
  ·split
   ·refine⟨⟨by have:=hs.len;simp;omega,fun y hy=>?_⟩,nq.snoc (x:=⟨1,[],[[g]]⟩) (.inr rfl) fun _=>rfl,by simp⟩;rcases Ta.1 hy with hy|hy
    ·exact hs1.node y hy
    ·obtain rfl:=List.mem_singleton.1 hy;exact⟨by simp,by simp,fun r hr=>by simp at hr;subst hr;exact⟨by simp,by simp⟩⟩
   ·split
    ·exact⟨hs1.take _,nq.take _,by simp;omega⟩
    ·obtain⟨b1,b2,b3⟩:=Nv (c:=c) (r:=r) (n:=n) (g:=g) hxm;refine⟨hs1.set b1,uA hA b2 fun he=>b3 ?_,by rw[SU];exact Uj _⟩;rcases he with he|he
     ·exact .inl he
     ·exact .inr (he x hx)
theorem Nr {m:Nat}{c a n:Int}{us:List UtilP}(hu:UtilsS m us):UtilsS (m+5) (pF c a n us):=by
 have hu5:∀ u∈us,u.vars.length<=m+5/\u.w.length<=m+5:=fun u h=>by have:=hu.util u h;omega
 have hl:=hu.len;unfold pF;split
 ·exact⟨by simp,fun u h=>by rw[Tz h];exact⟨by simp,by simp⟩⟩
 ·rename_i u hu0;have h0:=hu.util u (SK hu0);split
  ·refine⟨by rw[SU];omega,fun u' h=>?_⟩;rcases Tq h with h|rfl
   ·exact hu5 u' h
   ·exact⟨by simp;omega,by show u.w.length<=_;omega⟩
  ·split
   ·refine⟨by rw[SU];omega,fun u' h=>?_⟩;rcases Tq h with h|rfl
    ·exact hu5 u' h
    ·exact⟨by show u.vars.length<=_;omega,by show (u.w.set _ _).length<=_;rw[SU];omega⟩
   ·refine⟨by simp;omega,fun u' h=>?_⟩;rcases Ta.1 (Tg h) with h|h
    ·exact hu5 u' h
    ·rw[Tz h];exact⟨by simp,by simp⟩
theorem Ns {m:Nat}{w w5 a r n5 n:Int}{d:InfP}(hm:m<2 ^ 29)(hs:SmallN m d.nodes)(hu:UtilsS m d.utils)(hd:d.decs<2 ^ 64)(hdec:∀ v x,d.nodes[v]?=some x->d.decs.testBit v=true->x.rows=[]):
  InfFit (gR w w5 a r n5 n d).1/\NodesQ (fun v=>(gR w w5 a r n5 n d).1.decs.testBit v=true) (gR w w5 a r n5 n d).1.nodes (gR w w5 a r n5 n d).2/\(gR w w5 a r n5 n d).1.nodes.length<=d.nodes.length+1:=by
 have fit:∀ (g:Int) (ns:List NodeP) (D:Nat) (us:List UtilP),SmallN (m+1) ns->UtilsS (m+5) us->D<2 ^ 64->InfFit ⟨g,ns,D,us⟩:=fun g ns D us h1 h2 h3=>by
  refine⟨⟨by have:=h1.len;show (ns.length:Int)<_;omega,fun x hx=>?_⟩,h3,by have:=h2.len;show (us.length:Int)<_;omega,fun u hu=>?_⟩
  ·obtain⟨h1,h2,h3⟩:=h1.node x hx;exact⟨by omega,by omega,fun r hr=>by have:=(h3 r hr).2;omega⟩
  ·obtain⟨h1,h2⟩:=h2.util u hu;exact⟨by omega,by omega⟩
 have hu5:UtilsS (m+5) d.utils:=⟨by have:=hu.len;omega,fun u h=>by have:=hu.util u h;omega⟩
 unfold gR;split
 ·obtain⟨b1,b2,b3⟩:=Cy (m:=m) (A:=(a % (d.nodes.length:Int)).toNat) (c:=w5 % 12) (r:=r) (n:=n5) (g:=d.grain) hs;exact⟨fit _ _ _ _ b1 hu5 hd,b2.mono fun v hv=>.inr fun x hx=>hdec v x hx hv,b3⟩
 ·obtain⟨b1,b2,b3⟩:=Cy (m:=m) (A:=0) (c:=0) (r:=0) (n:=d.grain) (g:=d.grain) hs;have hbn:(dV 0 0 0 d.grain d.grain d.nodes).2.1=d.nodes:=by
   unfold dV;split
   ·rename_i h;exact(SY (by have:=Ub.1 h;omega)).symm
   ·rfl
  rw[hbn]at b2;refine⟨fit _ _ _ _ (hs.mono (Uj m)) ?_ ?_,b2.mono fun v _=>.inl (by decide),Uj _⟩
  ·split
   ·exact hu5
   ·exact Nr hu
  ·split
   ·exact Vr hd (by omega)
   ·exact hd
theorem Nt {d:InfP}(h:InfOk d):SmallN 1024 d.nodes/\UtilsS 1024 d.utils/\∀ v x,d.nodes[v]?=some x->d.decs.testBit v=true->x.rows=[]:=by
 have n8:=h.n.n1;have hsz:=h.net.size;rw[jV]at hsz;refine⟨⟨by omega,fun x hx=>?_⟩,⟨by have:=h.utils.1;omega,fun u hu=>?_⟩,fun v x hx hb=>(h.n.dec v x hx hb).1⟩
 ·obtain⟨v,hv⟩:=S8.1 hx;have hn:=h.net.node _ (SK (eF (c:=fun _ _=>0) hv));have hr:=h.net.rows _ (SK (eF (c:=fun _ _=>0) hv));rw[(gp ..).1,(gp ..).2,dE]at hn;unfold fA at hr;rw[nQ]at hr;have hpl:=u6 n8.2 hn.2 h.n.card;refine⟨by omega,?_⟩;by_cases hb:d.decs.testBit v=true
  ·rw[(h.n.dec v x hv hb).1];exact⟨by simp,fun r hr=>by cases hr⟩
  ·rw[jj hb]at hr;have:=rU hn.2 h.n.card;refine⟨by omega,fun r hr'=>?_⟩;have:=(hr.2 r hr').1;exact⟨fun e=>by rw[e]at this;simp at this;omega,by omega⟩
 ·have hu':=h.utils.2 u hu;have:=u6 n8.2 hu'.vars h.n.card;have h2:=rU (x:=⟨0,u.vars,[]⟩) hu'.vars h.n.card;have h3:=hu'.size;have e:aH d.nodes ⟨0,u.vars,[]⟩=aF (ao d.nodes) u.vars:=rfl;rw[e]at h2;omega
theorem Tryz.pW:Tryz.prog.follows .mixedOrders=true:=by kernel_rfl
noncomputable def Tryz.vK:EP:={ P:=Tryz.prog,G:=ik,gd:=fun _=>none,known:=lk [] }
theorem Tryz.zK:EOk Tryz.vK:=.pD (l:=[]) rfl nG Tryz.pW (fun _ _ h=>by cases h) trivial
def Tryz.EJ:List AVal:=[.agg [.lit (.int .i64 1),.vec 2 [.lit (.int .i64 2),.lit (.slice none 0 0),.lit (.slice none 0 0),.lit (.int .i64 2),.lit (.slice none 0 0),.lit (.slice none 0 0)],.lit (.int .u64 3),.lit (.slice none 0 0)]]
def Tryz.EK:AVal:=.lit (.int .i64 0)
theorem Tryz.RV:fq Tryz.vK 1000000 95 Tryz.EJ Tryz.EK=true:=by kernel_rfl
def Tryz.EL:List AVal:=[.agg [.lit (.int .i64 4),.vec 3 [.lit (.int .i64 2),.lit (.slice none 0 0),.vec 1 [.vec 2 [.lit (.int .i64 1),.lit (.int .i64 3)]],.lit (.int .i64 2),.vec 1 [.lit (.int .i64 0)],.lit (.slice none 0 0),.lit (.int .i64 2),.vec 2 [.lit (.int .i64 0),.lit (.int .i64 1)],.vec 4 [.vec 2 [.lit (.int .i64 4),.lit (.int .i64 0)],.vec 2 [.lit (.int .i64 2),.lit (.int .i64 2)],.vec 2 [.lit (.int .i64 0),.lit (.int .i64 4)],.vec 2 [.lit (.int .i64 1),.lit (.int .i64 3)]]],.lit (.int .u64 2),.vec 1 [.vec 2 [.lit (.int .i64 1),.lit (.int .i64 2)],.vec 4 [.lit (.int .i64 0),.lit (.int .i64 10),.lit (.int .i64 (-2)),.lit (.int .i64 8)]]]]
def Tryz.EM:AVal:=.lit (.int .i64 0)
theorem Tryz.RW:fq Tryz.vK 1000000 95 Tryz.EL Tryz.EM=true:=by kernel_rfl
def Tryz.EN:List AVal:=[.agg [.lit (.int .i64 2),.vec 3 [.lit (.int .i64 2),.lit (.slice none 0 0),.lit (.slice none 0 0),.lit (.int .i64 2),.vec 1 [.lit (.int .i64 0)],.vec 2 [.vec 2 [.lit (.int .i64 2),.lit (.int .i64 0)],.vec 2 [.lit (.int .i64 1),.lit (.int .i64 1)]],.lit (.int .i64 2),.vec 2 [.lit (.int .i64 0),.lit (.int .i64 1)],.lit (.slice none 0 0)],.lit (.int .u64 5),.vec 1 [.vec 3 [.lit (.int .i64 0),.lit (.int .i64 1),.lit (.int .i64 2)],.vec 8 [.lit (.int .i64 1),.lit (.int .i64 0),.lit (.int .i64 9),.lit (.int .i64 9),.lit (.int .i64 0),.lit (.int .i64 3),.lit (.int .i64 5),.lit (.int .i64 2)]]]]
def Tryz.EO:AVal:=.lit (.int .i64 0)
theorem Tryz.RX:fq Tryz.vK 1000000 95 Tryz.EN Tryz.EO=true:=by kernel_rfl
def Tryz.jZ:fX:=[(Tryz.EJ,Tryz.EK),(Tryz.EL,Tryz.EM),(Tryz.EN,Tryz.EO)]
theorem Tryz.sj:fY Tryz.prog ik 95 Tryz.jZ:=.cons (fZ Tryz.zK Tryz.RV) (.cons (fZ Tryz.zK Tryz.RW) (.cons (fZ Tryz.zK Tryz.RX) .nil))
noncomputable def Tryz.vL:EP:={ P:=Tryz.prog,G:=ik,gd:=fun _=>none,known:=lk [(95,Tryz.jZ)] }
theorem Tryz.zL:EOk Tryz.vL:=.pD (l:=[(95,Tryz.jZ)]) rfl nG Tryz.pW (fun _ _ h=>by cases h) ⟨Tryz.sj,trivial⟩
def Tryz.ER:List AVal:=[.agg [.lit (.int .i64 4),.vec 3 [.lit (.int .i64 2),.lit (.slice none 0 0),.vec 1 [.vec 2 [.lit (.int .i64 1),.lit (.int .i64 3)]],.lit (.int .i64 2),.vec 1 [.lit (.int .i64 0)],.lit (.slice none 0 0),.lit (.int .i64 2),.vec 2 [.lit (.int .i64 0),.lit (.int .i64 1)],.vec 4 [.vec 2 [.lit (.int .i64 4),.lit (.int .i64 0)],.vec 2 [.lit (.int .i64 2),.lit (.int .i64 2)],.vec 2 [.lit (.int .i64 0),.lit (.int .i64 4)],.vec 2 [.lit (.int .i64 1),.lit (.int .i64 3)]]],.lit (.int .u64 2),.vec 1 [.vec 2 [.lit (.int .i64 1),.lit (.int .i64 2)],.vec 4 [.lit (.int .i64 0),.lit (.int .i64 10),.lit (.int .i64 (-2)),.lit (.int .i64 8)]]],.vec 1 [.vec 2 [.lit (.int .i64 1),.lit (.int .i64 0)]]]
def Tryz.ES:AVal:=.tup [.agg [.lit (.int .i64 33),.lit (.int .i64 4)],.lit (.int .i64 0)]
theorem Tryz.RY:fq Tryz.vL 1000000 27 Tryz.ER Tryz.ES=true:=by kernel_rfl
def Tryz.ET:List AVal:=[.agg [.lit (.int .i64 4),.vec 3 [.lit (.int .i64 2),.lit (.slice none 0 0),.vec 1 [.vec 2 [.lit (.int .i64 1),.lit (.int .i64 3)]],.lit (.int .i64 2),.vec 1 [.lit (.int .i64 0)],.lit (.slice none 0 0),.lit (.int .i64 2),.vec 2 [.lit (.int .i64 0),.lit (.int .i64 1)],.vec 4 [.vec 2 [.lit (.int .i64 4),.lit (.int .i64 0)],.vec 2 [.lit (.int .i64 2),.lit (.int .i64 2)],.vec 2 [.lit (.int .i64 0),.lit (.int .i64 4)],.vec 2 [.lit (.int .i64 1),.lit (.int .i64 3)]]],.lit (.int .u64 2),.vec 1 [.vec 2 [.lit (.int .i64 1),.lit (.int .i64 2)],.vec 4 [.lit (.int .i64 0),.lit (.int .i64 10),.lit (.int .i64 (-2)),.lit (.int .i64 8)]]],.vec 1 [.vec 2 [.lit (.int .i64 1),.lit (.int .i64 1)]]]
def Tryz.EU:AVal:=.tup [.agg [.lit (.int .i64 39),.lit (.int .i64 8)],.lit (.int .i64 0)]
theorem Tryz.RZ:fq Tryz.vL 1000000 27 Tryz.ET Tryz.EU=true:=by kernel_rfl
def Tryz.EV:List AVal:=[.agg [.lit (.int .i64 2),.vec 3 [.lit (.int .i64 2),.lit (.slice none 0 0),.lit (.slice none 0 0),.lit (.int .i64 2),.vec 1 [.lit (.int .i64 0)],.vec 2 [.vec 2 [.lit (.int .i64 2),.lit (.int .i64 0)],.vec 2 [.lit (.int .i64 1),.lit (.int .i64 1)]],.lit (.int .i64 2),.vec 2 [.lit (.int .i64 0),.lit (.int .i64 1)],.lit (.slice none 0 0)],.lit (.int .u64 5),.vec 1 [.vec 3 [.lit (.int .i64 0),.lit (.int .i64 1),.lit (.int .i64 2)],.vec 8 [.lit (.int .i64 1),.lit (.int .i64 0),.lit (.int .i64 9),.lit (.int .i64 9),.lit (.int .i64 0),.lit (.int .i64 3),.lit (.int .i64 5),.lit (.int .i64 2)]]],.vec 2 [.vec 1 [.lit (.int .i64 1)],.vec 4 [.lit (.int .i64 1),.lit (.int .i64 1),.lit (.int .i64 1),.lit (.int .i64 0)]]]
def Tryz.EW:AVal:=.tup [.agg [.lit (.int .i64 4),.lit (.int .i64 1)],.lit (.int .i64 0)]
theorem Tryz.R7:fq Tryz.vL 1000000 27 Tryz.EV Tryz.EW=true:=by kernel_rfl
def Tryz.lU:fX:=[(Tryz.ER,Tryz.ES),(Tryz.ET,Tryz.EU),(Tryz.EV,Tryz.EW)]
theorem Tryz.vM:fY Tryz.prog ik 27 Tryz.lU:=.cons (fZ Tryz.zL Tryz.RY) (.cons (fZ Tryz.zL Tryz.RZ) (.cons (fZ Tryz.zL Tryz.R7) .nil))
noncomputable def Tryz.vO:EP:={ P:=Tryz.prog,G:=ik,gd:=fun _=>none,known:=lk [(95,Tryz.jZ),(27,Tryz.lU)] }
theorem Tryz.zM:EOk Tryz.vO:=.pD (l:=[(95,Tryz.jZ),(27,Tryz.lU)]) rfl nG Tryz.pW (fun _ _ h=>by cases h) ⟨Tryz.sj,⟨Tryz.vM,trivial⟩⟩
def Tryz.EX:List AVal:=[.agg [.lit (.int .i64 4),.vec 3 [.lit (.int .i64 2),.lit (.slice none 0 0),.vec 1 [.vec 2 [.lit (.int .i64 1),.lit (.int .i64 3)]],.lit (.int .i64 2),.vec 1 [.lit (.int .i64 0)],.lit (.slice none 0 0),.lit (.int .i64 2),.vec 2 [.lit (.int .i64 0),.lit (.int .i64 1)],.vec 4 [.vec 2 [.lit (.int .i64 4),.lit (.int .i64 0)],.vec 2 [.lit (.int .i64 2),.lit (.int .i64 2)],.vec 2 [.lit (.int .i64 0),.lit (.int .i64 4)],.vec 2 [.lit (.int .i64 1),.lit (.int .i64 3)]]],.lit (.int .u64 2),.vec 1 [.vec 2 [.lit (.int .i64 1),.lit (.int .i64 2)],.vec 4 [.lit (.int .i64 0),.lit (.int .i64 10),.lit (.int .i64 (-2)),.lit (.int .i64 8)]]]]
def Tryz.EY:AVal:=.tup [.vec 1 [.vec 2 [.lit (.int .i64 1),.lit (.int .i64 0)]],.agg [.lit (.int .i64 33),.lit (.int .i64 4)],.lit (.int .i64 0)]
theorem Tryz.R8:fq Tryz.vO 1000000 11 Tryz.EX Tryz.EY=true:=by kernel_rfl
def Tryz.EZ:List AVal:=[.agg [.lit (.int .i64 2),.vec 3 [.lit (.int .i64 2),.lit (.slice none 0 0),.lit (.slice none 0 0),.lit (.int .i64 2),.vec 1 [.lit (.int .i64 0)],.vec 2 [.vec 2 [.lit (.int .i64 2),.lit (.int .i64 0)],.vec 2 [.lit (.int .i64 1),.lit (.int .i64 1)]],.lit (.int .i64 2),.vec 2 [.lit (.int .i64 0),.lit (.int .i64 1)],.lit (.slice none 0 0)],.lit (.int .u64 5),.vec 1 [.vec 3 [.lit (.int .i64 0),.lit (.int .i64 1),.lit (.int .i64 2)],.vec 8 [.lit (.int .i64 1),.lit (.int .i64 0),.lit (.int .i64 9),.lit (.int .i64 9),.lit (.int .i64 0),.lit (.int .i64 3),.lit (.int .i64 5),.lit (.int .i64 2)]]]]
def Tryz.Fa:AVal:=.tup [.vec 2 [.vec 1 [.lit (.int .i64 1)],.vec 4 [.lit (.int .i64 0),.lit (.int .i64 0),.lit (.int .i64 1),.lit (.int .i64 0)]],.agg [.lit (.int .i64 4),.lit (.int .i64 1)],.lit (.int .i64 0)]
theorem Tryz.R9:fq Tryz.vO 1000000 11 Tryz.EZ Tryz.Fa=true:=by kernel_rfl
def Tryz.Fb:List AVal:=[.agg [.lit (.int .i64 1),.vec 2 [.lit (.int .i64 2),.lit (.slice none 0 0),.lit (.slice none 0 0),.lit (.int .i64 2),.lit (.slice none 0 0),.lit (.slice none 0 0)],.lit (.int .u64 3),.lit (.slice none 0 0)]]
def Tryz.Fc:AVal:=.tup [.lit (.slice none 0 0),.agg [.lit (.int .i64 0),.lit (.int .i64 0)],.lit (.int .i64 210)]
theorem Tryz.Sa:fq Tryz.vO 1000000 11 Tryz.Fb Tryz.Fc=true:=by kernel_rfl
def Tryz.nW:fX:=[(Tryz.EX,Tryz.EY),(Tryz.EZ,Tryz.Fa),(Tryz.Fb,Tryz.Fc)]
theorem Tryz.zQ:fY Tryz.prog ik 11 Tryz.nW:=.cons (fZ Tryz.zM Tryz.R8) (.cons (fZ Tryz.zM Tryz.R9) (.cons (fZ Tryz.zM Tryz.Sa) .nil))
noncomputable def Tryz.vQ:EP:={ P:=Tryz.prog,G:=ik,gd:=fun _=>none,known:=lk [(95,Tryz.jZ),(27,Tryz.lU),(11,Tryz.nW)] }
theorem Tryz.zR:EOk Tryz.vQ:=.pD (l:=[(95,Tryz.jZ),(27,Tryz.lU),(11,Tryz.nW)]) rfl nG Tryz.pW (fun _ _ h=>by cases h) ⟨Tryz.sj,⟨Tryz.vM,⟨Tryz.zQ,trivial⟩⟩⟩
def Tryz.Fe:List AVal:=[.agg [.lit (.int .i64 4),.vec 3 [.lit (.int .i64 2),.lit (.slice none 0 0),.vec 1 [.vec 2 [.lit (.int .i64 1),.lit (.int .i64 3)]],.lit (.int .i64 2),.vec 1 [.lit (.int .i64 0)],.lit (.slice none 0 0),.lit (.int .i64 2),.vec 2 [.lit (.int .i64 0),.lit (.int .i64 1)],.vec 4 [.vec 2 [.lit (.int .i64 4),.lit (.int .i64 0)],.vec 2 [.lit (.int .i64 2),.lit (.int .i64 2)],.vec 2 [.lit (.int .i64 0),.lit (.int .i64 4)],.vec 2 [.lit (.int .i64 1),.lit (.int .i64 3)]]],.lit (.int .u64 2),.vec 1 [.vec 2 [.lit (.int .i64 1),.lit (.int .i64 2)],.vec 4 [.lit (.int .i64 0),.lit (.int .i64 10),.lit (.int .i64 (-2)),.lit (.int .i64 8)]]],.vec 1 [.vec 2 [.lit (.int .i64 1),.lit (.int .i64 0)]]]
def Tryz.Ff:AVal:=.tup [.lit (.bool true),.lit (.int .i64 0)]
theorem Tryz.Sb:fq Tryz.vQ 1000000 15 Tryz.Fe Tryz.Ff=true:=by kernel_rfl
def Tryz.Fg:List AVal:=[.agg [.lit (.int .i64 4),.vec 3 [.lit (.int .i64 2),.lit (.slice none 0 0),.vec 1 [.vec 2 [.lit (.int .i64 1),.lit (.int .i64 3)]],.lit (.int .i64 2),.vec 1 [.lit (.int .i64 0)],.lit (.slice none 0 0),.lit (.int .i64 2),.vec 2 [.lit (.int .i64 0),.lit (.int .i64 1)],.vec 4 [.vec 2 [.lit (.int .i64 4),.lit (.int .i64 0)],.vec 2 [.lit (.int .i64 2),.lit (.int .i64 2)],.vec 2 [.lit (.int .i64 0),.lit (.int .i64 4)],.vec 2 [.lit (.int .i64 1),.lit (.int .i64 3)]]],.lit (.int .u64 2),.vec 1 [.vec 2 [.lit (.int .i64 1),.lit (.int .i64 2)],.vec 4 [.lit (.int .i64 0),.lit (.int .i64 10),.lit (.int .i64 (-2)),.lit (.int .i64 8)]]],.vec 1 [.vec 2 [.lit (.int .i64 1),.lit (.int .i64 1)]]]
def Tryz.Fh:AVal:=.tup [.lit (.bool false),.lit (.int .i64 0)]
theorem Tryz.Sc:fq Tryz.vQ 1000000 15 Tryz.Fg Tryz.Fh=true:=by kernel_rfl
def Tryz.Fi:List AVal:=[.agg [.lit (.int .i64 2),.vec 3 [.lit (.int .i64 2),.lit (.slice none 0 0),.lit (.slice none 0 0),.lit (.int .i64 2),.vec 1 [.lit (.int .i64 0)],.vec 2 [.vec 2 [.lit (.int .i64 2),.lit (.int .i64 0)],.vec 2 [.lit (.int .i64 1),.lit (.int .i64 1)]],.lit (.int .i64 2),.vec 2 [.lit (.int .i64 0),.lit (.int .i64 1)],.lit (.slice none 0 0)],.lit (.int .u64 5),.vec 1 [.vec 3 [.lit (.int .i64 0),.lit (.int .i64 1),.lit (.int .i64 2)],.vec 8 [.lit (.int .i64 1),.lit (.int .i64 0),.lit (.int .i64 9),.lit (.int .i64 9),.lit (.int .i64 0),.lit (.int .i64 3),.lit (.int .i64 5),.lit (.int .i64 2)]]],.vec 2 [.vec 1 [.lit (.int .i64 1)],.vec 4 [.lit (.int .i64 1),.lit (.int .i64 1),.lit (.int .i64 1),.lit (.int .i64 0)]]]
def Tryz.Fj:AVal:=.tup [.lit (.bool true),.lit (.int .i64 0)]
theorem Tryz.Sd:fq Tryz.vQ 1000000 15 Tryz.Fi Tryz.Fj=true:=by kernel_rfl
def Tryz.sk:fX:=[(Tryz.Fe,Tryz.Ff),(Tryz.Fg,Tryz.Fh),(Tryz.Fi,Tryz.Fj)]
theorem Tryz.Fk:fY Tryz.prog ik 15 Tryz.sk:=.cons (fZ Tryz.zR Tryz.Sb) (.cons (fZ Tryz.zR Tryz.Sc) (.cons (fZ Tryz.zR Tryz.Sd) .nil))
noncomputable def Tryz.vR:EP:={ P:=Tryz.prog,G:=ik,gd:=fun _=>none,known:=lk [(95,Tryz.jZ),(27,Tryz.lU),(11,Tryz.nW),(15,Tryz.sk)] }
theorem Tryz.zS:EOk Tryz.vR:=.pD (l:=[(95,Tryz.jZ),(27,Tryz.lU),(11,Tryz.nW),(15,Tryz.sk)]) rfl nG Tryz.pW (fun _ _ h=>by cases h) ⟨Tryz.sj,⟨Tryz.vM,⟨Tryz.zQ,⟨Tryz.Fk,trivial⟩⟩⟩⟩
def Tryz.Fl:List AVal:=[.agg [.lit (.int .i64 4),.vec 3 [.lit (.int .i64 2),.lit (.slice none 0 0),.vec 1 [.vec 2 [.lit (.int .i64 1),.lit (.int .i64 3)]],.lit (.int .i64 2),.vec 1 [.lit (.int .i64 0)],.lit (.slice none 0 0),.lit (.int .i64 2),.vec 2 [.lit (.int .i64 0),.lit (.int .i64 1)],.vec 4 [.vec 2 [.lit (.int .i64 4),.lit (.int .i64 0)],.vec 2 [.lit (.int .i64 2),.lit (.int .i64 2)],.vec 2 [.lit (.int .i64 0),.lit (.int .i64 4)],.vec 2 [.lit (.int .i64 1),.lit (.int .i64 3)]]],.lit (.int .u64 2),.vec 1 [.vec 2 [.lit (.int .i64 1),.lit (.int .i64 2)],.vec 4 [.lit (.int .i64 0),.lit (.int .i64 10),.lit (.int .i64 (-2)),.lit (.int .i64 8)]]],.vec 1 [.vec 2 [.lit (.int .i64 0),.lit (.int .i64 0)]],.lit (.int .i64 1)]
def Tryz.Fm:AVal:=.tup [.vec 2 [.vec 2 [.lit (.int .i64 0),.lit (.int .i64 48)],.vec 2 [.lit (.int .i64 480),.lit (.int .i64 264)]],.lit (.int .i64 0)]
theorem Tryz.Se:fq Tryz.vR 1000000 23 Tryz.Fl Tryz.Fm=true:=by kernel_rfl
def Tryz.Fo:List AVal:=[.agg [.lit (.int .i64 2),.vec 3 [.lit (.int .i64 2),.lit (.slice none 0 0),.lit (.slice none 0 0),.lit (.int .i64 2),.vec 1 [.lit (.int .i64 0)],.vec 2 [.vec 2 [.lit (.int .i64 2),.lit (.int .i64 0)],.vec 2 [.lit (.int .i64 1),.lit (.int .i64 1)]],.lit (.int .i64 2),.vec 2 [.lit (.int .i64 0),.lit (.int .i64 1)],.lit (.slice none 0 0)],.lit (.int .u64 5),.vec 1 [.vec 3 [.lit (.int .i64 0),.lit (.int .i64 1),.lit (.int .i64 2)],.vec 8 [.lit (.int .i64 1),.lit (.int .i64 0),.lit (.int .i64 9),.lit (.int .i64 9),.lit (.int .i64 0),.lit (.int .i64 3),.lit (.int .i64 5),.lit (.int .i64 2)]]],.vec 2 [.vec 1 [.lit (.int .i64 1)],.vec 4 [.lit (.int .i64 0),.lit (.int .i64 0),.lit (.int .i64 1),.lit (.int .i64 0)]],.lit (.int .i64 0)]
def Tryz.Fp:AVal:=.tup [.vec 1 [.vec 2 [.lit (.int .i64 8),.lit (.int .i64 32)]],.lit (.int .i64 0)]
theorem Tryz.Sf:fq Tryz.vR 1000000 23 Tryz.Fo Tryz.Fp=true:=by kernel_rfl
def Tryz.Fq:List AVal:=[.agg [.lit (.int .i64 4),.vec 3 [.lit (.int .i64 2),.lit (.slice none 0 0),.vec 1 [.vec 2 [.lit (.int .i64 1),.lit (.int .i64 3)]],.lit (.int .i64 2),.vec 1 [.lit (.int .i64 0)],.lit (.slice none 0 0),.lit (.int .i64 2),.vec 2 [.lit (.int .i64 0),.lit (.int .i64 1)],.vec 4 [.vec 2 [.lit (.int .i64 4),.lit (.int .i64 0)],.vec 2 [.lit (.int .i64 2),.lit (.int .i64 2)],.vec 2 [.lit (.int .i64 0),.lit (.int .i64 4)],.vec 2 [.lit (.int .i64 1),.lit (.int .i64 3)]]],.lit (.int .u64 2),.vec 1 [.vec 2 [.lit (.int .i64 1),.lit (.int .i64 2)],.vec 4 [.lit (.int .i64 0),.lit (.int .i64 10),.lit (.int .i64 (-2)),.lit (.int .i64 8)]]],.vec 1 [.vec 2 [.lit (.int .i64 0),.lit (.int .i64 0)]],.lit (.int .i64 0)]
def Tryz.Fs:AVal:=.tup [.lit (.slice none 0 0),.lit (.int .i64 2)]
theorem Tryz.Sg:fq Tryz.vR 1000000 23 Tryz.Fq Tryz.Fs=true:=by kernel_rfl
def Tryz.zT:fX:=[(Tryz.Fl,Tryz.Fm),(Tryz.Fo,Tryz.Fp),(Tryz.Fq,Tryz.Fs)]
theorem Tryz.Sh:fY Tryz.prog ik 23 Tryz.zT:=.cons (fZ Tryz.zS Tryz.Se) (.cons (fZ Tryz.zS Tryz.Sf) (.cons (fZ Tryz.zS Tryz.Sg) .nil))
noncomputable def Tryz.Ft:EP:={ P:=Tryz.prog,G:=ik,gd:=fun _=>none,known:=lk [(95,Tryz.jZ),(27,Tryz.lU),(11,Tryz.nW),(15,Tryz.sk),(23,Tryz.zT)] }
theorem Tryz.Si:EOk Tryz.Ft:=.pD (l:=[(95,Tryz.jZ),(27,Tryz.lU),(11,Tryz.nW),(15,Tryz.sk),(23,Tryz.zT)]) rfl nG Tryz.pW (fun _ _ h=>by cases h) ⟨Tryz.sj,⟨Tryz.vM,⟨Tryz.zQ,⟨Tryz.Fk,⟨Tryz.Sh,trivial⟩⟩⟩⟩⟩
def Tryz.Sj:List AVal:=[]
def Tryz.Sk:AVal:=.lit (.bool true)
theorem Tryz.Sl:fq Tryz.Ft 1000000 21 Tryz.Sj Tryz.Sk=true:=by kernel_rfl
theorem Sm (H:AHeap)(K:ARes->AHeap->Prop)(hK:K (.ret (.lit (.bool true))) H):ae Tryz.prog G0 21 [] H K :=
 (ae.frame (args':=[]) aS rfl (fun i h _=>absurd h (S7 _)) (fZ Tryz.Si Tryz.Sl)).mono fun r H' ⟨h1,h2⟩=>by rw[h1,h2];exact hK
theorem SG {d:InfP}(hok:InfOk d)(c:Nat->Nat->Int){v:Nat}(hv:v∈az d):((gW d c v).length:Int)<2 ^ 62/\∀ r∈gW d c v,(r.length:Int)<2 ^ 62:=by
 obtain⟨v1,v2⟩:=dD.1 hv;have hrc:=nO hok v1 v2;refine⟨by rw[Rl];unfold cH;omega,fun r hr=>?_⟩;obtain⟨j,_,rfl⟩:=S9.1 hr;rw[yL];unfold bV;omega
set_option maxHeartbeats 8000000 in
theorem SH (d:D20)(hd:d.Ok)(w w5 a r n5 n0:Int)(hw:0<=w/\w<=255)(hw5:0<=w5/\w5<=255)(ha:0<=a/\a<=255)(hr:0<=r/\r<=255)(bs:List Int)(hbl:(bs.length:Int)<2 ^ 63)(hb8:∀ x∈bs,U8 x)(v0 kk:Int)(hkk:0<=kk/\kk<=255)
  (raw:List (List Int)) (hraw:(raw.length:Int)<2 ^ 63) (hrr:∀ r∈raw,(r.length:Int)<2 ^ 63) (H:AHeap) (K:ARes->AHeap->Prop) (hK:∀ H',H.next<=H'.next->K (.ret (.lit (.bool true))) H'):
  ae Tryz.prog G0 4 [.agg d.cells,.agg (rD w (jK w5 a r n5) n0),.vec bs.length (bn bs),.lit (.int .i64 v0),.lit (.int .u8 kk),ah raw] H K:=by
 refine ae.jD (n:=107) (rs:=[.tmp 12]) Tryz.func4 rfl rfl rfl (by decide) (by simp) ?_;refine W.sq ?_;simp only[go_sem,D20.cells,rD,jK];obtain⟨H1,hH1⟩:∃ H1,H1=ext H [.arr 0 28 [.lit (.int .u8 d.g),.vec d.ps.length (dY d.ps),.vec d.ord.length (bn d.ord),.lit (.int .u8 d.decs),.lit (.bool d.rem),.vec d.us.length (jS d.us)],.arr 0 32 [.lit (.int .u8 w),.lit (.int .u8 w5),.lit (.int .u8 a),.lit (.int .u8 r),.lit (.int .i64 n5),.lit (.int .i64 n0)]]:=⟨_,rfl⟩
 have g0:H1.get H.next=some (.arr 0 28 [.lit (.int .u8 d.g),.vec d.ps.length (dY d.ps),.vec d.ord.length (bn d.ord),.lit (.int .u8 d.decs),.lit (.bool d.rem),.vec d.us.length (jS d.us)]):=by rw[hH1];exact bQ ..
 have g1:H1.get (H.next+1)=some (.arr 0 32 [.lit (.int .u8 w),.lit (.int .u8 w5),.lit (.int .u8 a),.lit (.int .u8 r),.lit (.int .i64 n5),.lit (.int .i64 n0)]):=by rw[hH1];exact bB H _ 1 (by simp)
 have n1:H1.next=H.next+2:=by rw[hH1];rfl
 rw[<- hH1];clear hH1;have l0:=ag g0;refine W.en (fun E=>E 2=.vec bs.length (bn bs) /\ E 3=.lit (.int .i64 v0) /\ E 4=.lit (.int .u8 kk) /\ E 5=ah raw /\ E 6=.ptr H.next 0 0 /\ E 7=.ptr (H.next+1) 0 0) (by simp only[go_sem]) fun E ⟨e2,e3,e4,e5,e6,e7⟩=>?_
 refine W.sq ?_;simp only[go_sem,e6,l0];refine aB.clo (PU d hd _ _ fun x hx=>⟨trivial,?_⟩);have hok:=hx.ok;have hf:=P3 hok;have n8:=hok.n.n1;have h6:x.nodes.length<=6:=by have:=hx.n5;omega
 simp only[go_sem,Qn,y7];obtain⟨H2,hH2⟩:∃ H2,H2=ext H1 [.arr 0 38 [.lit (.int .i64 x.grain),.vec x.nodes.length (aT x.nodes),.lit (.int .u64 (x.decs:Int)),.vec x.utils.length (aR x.utils)]]:=⟨_,rfl⟩
 have k2:H2.get (H.next+2)=some (.arr 0 38 [.lit (.int .i64 x.grain),.vec x.nodes.length (aT x.nodes),.lit (.int .u64 (x.decs:Int)),.vec x.utils.length (aR x.utils)]):=by rw[hH2,<- n1];exact bT
 have k1:H2.get (H.next+1)=_:=(by rw[hH2];exact cz (by omega):H2.get (H.next+1)=H1.get (H.next+1)).trans g1;have n2:H2.next=H.next+3:=by rw[hH2,bI];simp;omega
 rw[<- hH2];clear hH2 g0 l0 g1;have m1:=ag k1;have m2:=ag k2;refine W.en (fun E1=>E1 2=.vec bs.length (bn bs) /\ E1 3=.lit (.int .i64 v0) /\ E1 4=.lit (.int .u8 kk) /\ E1 5=ah raw /\ E1 7=.ptr (H.next+1) 0 0 /\ E1 13=.ptr (H.next+2) 0 0) (by simp only[go_sem,e2,e3,e4,e5,e7,n1]) fun E1 ⟨f2,f3,f4,f5,f7,f13⟩=>?_
 clear e2 e3 e4 e5 e6 e7;obtain⟨hsx,hub,hdx⟩:=Nt hok;obtain⟨y0,cs0,hB⟩:∃ y0 cs0,(y0,cs0)=gR w w5 a r n5 n0 x:=⟨_,_,rfl⟩
 obtain⟨yf,yq,yl⟩:=Ns (w:=w) (w5:=w5) (a:=a) (r:=r) (n5:=n5) (n:=n0) (m:=1024) (by omega) hsx hub hf.decs hdx;rw[<- hB]at yf yq yl;simp only at yf yq yl;refine W.seq (W.seq ?_);refine W.draw 6 [0,0,0,6,15,0] Tryz.mixed (by kernel_rfl) (by kernel_rfl) ?_;simp only[go_sem,f7,f13,m1,m2];refine⟨dL y0 cs0,[],bO.pure fun H9=>Nq w w5 a r n5 n0 hw hw5 ha hr x (aT x.nodes) (yI (fun _=>True) x.nodes) 1024 (by omega) hsx hub hf.decs hdx H9 _ fun y cs hy _ _ _=>by rw[<- hB]at hy;cases hy;exact⟨rfl,rfl⟩,?_⟩;simp only[go_sem,iP,gV];have hrf:mK (dT raw):=⟨by have:=(EG raw).1;omega,fun r hr=>by have:=(EG raw).2 r hr;omega⟩
 refine W.en (fun E4=>E4 2=.vec bs.length (bn bs) /\ E4 3=.lit (.int .i64 v0) /\ E4 4=.lit (.int .u8 kk) /\ E4 5=ah raw /\ E4 13=.ptr (H.next+2) 0 0 /\ E4 32=.agg [.lit (.int .i64 x.grain),.vec x.nodes.length (aT x.nodes),.lit (.int .u64 (x.decs:Int)),.vec x.utils.length (aR x.utils),.lit (.int .i64 y0.grain),.vec y0.nodes.length cs0,.lit (.int .u64 (y0.decs:Int)),.vec y0.utils.length (aR y0.utils)] /\ E4 33=aa 0) (by simp only[go_sem,f2,f3,f4,f5,f13]) fun E4 ⟨h2,h3,h4,h5,h13,h32,h33⟩=>?_
 clear f2 f3 f4 f5 f7 f13;refine W.block ?_;refine W.aL 81129638414606681695780481175552 (by rfl) (fun ρ Hx=>∃ k:Nat,ρ 33=aa k/\k<=2/\H2.next<=Hx.next/\Hx.get (H.next+2)=H2.get (H.next+2)) (fun ρ Hx=>2 - (iv (ρ 33)).toNat) ?_ ?_
 ·simp only[go_sem,h33];exact⟨0,rfl,by omega⟩
 rintro ρ5 Hx ⟨k,hk,hk2,nx,gx⟩;refine W.env fun E5 hE5=>?_;have i2:E5 2=.vec bs.length (bn bs):=by rw[hE5];simp only[go_sem,h2]
 have i3:E5 3=.lit (.int .i64 v0):=by rw[hE5];simp only[go_sem,h3]
 have i4:E5 4=.lit (.int .u8 kk):=by rw[hE5];simp only[go_sem,h4]
 have i5:E5 5=ah raw:=by rw[hE5];simp only[go_sem,h5]
 have i13:E5 13=.ptr (H.next+2) 0 0:=by rw[hE5];simp only[go_sem,h13]
 have i32:=(show E5 32=E4 32 by rw[hE5];simp only[go_sem]).trans h32;have i33:E5 33=aa k:=by rw[hE5];simp only[go_sem,hk]
 clear hE5;by_cases hkb:(k:Int)<2;rotate_left
 ·refine W.vs ?_;simp only[go_sem,i33,hkb];refine W.vs ?_;simp only[go_sem];refine aB.clo (Sm _ _ ⟨trivial,?_⟩);simp only[go_sem];exact ay.mk (by omega) (hK _ (by omega))
 refine W.sq ?_;simp only[go_sem,i33,hkb];refine W.sq ?_;simp only[go_sem];refine W.seq (W.block ?_);refine W.gh (fun s'=>s'.ρ 2=.vec bs.length (bn bs)/\s'.ρ 3=.lit (.int .i64 v0)/\s'.ρ 4=.lit (.int .u8 kk)/\s'.ρ 5=ah raw/\s'.ρ 13=.ptr (H.next+2) 0 0/\s'.ρ 33=aa k/\s'.ρ 15=.ptr Hx.next 0 0/\s'.H.next=Hx.next+1/\s'.H.get (H.next+2)=H2.get (H.next+2)/\∃ (y:InfP) (cs:List AVal),InfFit y/\NodesQ (fun v=>y.decs.testBit v=true) y.nodes cs/\y.nodes.length<=6/\s'.H.get Hx.next=some (.arr 0 38 [.lit (.int .i64 y.grain),.vec y.nodes.length cs,.lit (.int .u64 (y.decs:Int)),.vec y.utils.length (aR y.utils)])) ?_ ?_
 ·have hk01:k=0\/k=1:=by omega
  refine W.vs ?_;rcases hk01 with rfl|rfl
  ·simp only[go_sem,i2,i3,i4,i5,i13,i32,i33];exact⟨(cz (by omega)).trans gx,x,aT x.nodes,hf,yI _ _,h6,bT⟩
  ·simp only[go_sem,i2,i3,i4,i5,i13,i32,i33];exact⟨(cz (by omega)).trans gx,y0,cs0,yf,yq,by have:=hx.n5;omega,bT⟩
 rintro⟨ρ6,Ha⟩ ⟨j2,j3,j4,j5,j13,j33,j15,na,ga2,y,cs,hyf,hyq,hy6,ga⟩;simp only at j2 j3 j4 j5 j13 j33 j15 na ga2 ga;clear i2 i3 i4 i5 i13 i32 i33;have la2:=ag (ga2.trans k2);refine W.sq ?_;simp only[go_sem,j2,j13,la2];refine aB.clo (P1 x hf hok bs hbl hb8 _ _ fun p hp=>⟨trivial,?_⟩);have hpf:=yW hok hp;simp only[go_sem,j5];refine aB.clo (RT raw hraw hrr _ _ ⟨trivial,?_⟩);simp only[go_sem];refine W.en (fun E6=>E6 3=.lit (.int .i64 v0) /\ E6 4=.lit (.int .u8 kk) /\ E6 15=.ptr Hx.next 0 0 /\ E6 33=aa k /\ E6 41=.agg [ah p,ah (dT raw)] /\ E6 42=aa 0) (by simp only[go_sem,j3,j4,j15,j33]) fun E6 ⟨a3,a4,a15,a33,a41,a42⟩=>?_
 clear j2 j3 j4 j5 j13 j33 j15;refine W.block ?_;refine W.aL 40564819207303340843496521994240 (by rfl) (fun ρ Hy=>∃ m:Nat,ρ 42=aa m/\m<=2/\Ha.next<=Hy.next/\Hy.get Hx.next=Ha.get Hx.next/\Hy.get (H.next+2)=H2.get (H.next+2)) (fun ρ Hx=>2 - (iv (ρ 42)).toNat) ?_ ?_
 ·simp only[go_sem,a42];exact⟨0,rfl,by omega,ga2⟩
 rintro ρ7 Hy ⟨m,hm,hm2,ny,gy,gy2⟩;rw[ga]at gy;refine W.env fun E7 hE7=>?_;have b3:E7 3=.lit (.int .i64 v0):=by rw[hE7];simp only[go_sem,a3]
 have b4:E7 4=.lit (.int .u8 kk):=by rw[hE7];simp only[go_sem,a4]
 have b15:E7 15=.ptr Hx.next 0 0:=by rw[hE7];simp only[go_sem,a15]
 have b33:E7 33=aa k:=by rw[hE7];simp only[go_sem,a33]
 have b41:=(show E7 41=E6 41 by rw[hE7];simp only[go_sem]).trans a41;have b42:E7 42=aa m:=by rw[hE7];simp only[go_sem,hm]
 clear hE7;by_cases hmb:(m:Int)<2;rotate_left
 ·refine W.vs ?_;simp only[go_sem,b42,hmb];have wk:=SM ((k:Int)+1) (by omega);refine W.vs ?_;simp only[go_sem,b33,wk];exact⟨by omega,⟨k+1,rfl,by omega,by omega,gy2⟩,by rw[hk];simp only[aa,aQ];omega⟩
 refine W.sq ?_;simp only[go_sem,b42,hmb];refine W.sq ?_;simp only[go_sem];refine W.seq (W.block ?_);refine W.gh (fun s'=>s'.H=Hy/\s'.ρ 3=.lit (.int .i64 v0)/\s'.ρ 4=.lit (.int .u8 kk)/\s'.ρ 15=.ptr Hx.next 0 0/\s'.ρ 33=aa k/\s'.ρ 42=aa m/\∃ pp,mK pp/\s'.ρ 17=ah pp) ?_ ?_
 ·have hm01:m=0\/m=1:=by omega
  refine W.vs ?_;rcases hm01 with rfl|rfl
  ·simp only[go_sem,b3,b4,b15,b33,b41,b42];exact⟨p,hpf,rfl⟩
  ·simp only[go_sem,b3,b4,b15,b33,b41,b42];exact⟨dT raw,hrf,rfl⟩
 rintro⟨ρ8,Hq⟩ ⟨hH,d3,d4,d15,d33,d42,pp,hpp,d17⟩;simp only at hH d3 d4 d15 d33 d42 d17;rw[hH];clear hH Hq b3 b4 b15 b33 b41 b42;have ly:=ag gy;have hyl:(y.nodes.length:Int)<2 ^ 39:=by omega
 refine W.sq ?_;simp only[go_sem,d3];have hdl:(aM (az y)).length=(az y).length:=by simp [aM]
 have hdn:(az y).length<=y.nodes.length:=jf;refine W.en (fun E8=>E8 3=.lit (.int .i64 v0) /\ E8 4=.lit (.int .u8 kk) /\ E8 15=.ptr Hx.next 0 0 /\ E8 17=ah pp /\ E8 18=.lit (.int .i64 v0) /\ E8 33=aa k /\ E8 42=aa m) (by simp only[go_sem,d3,d4,d15,d17,d33,d42]) fun E8 ⟨c3,c4,c15,c17,c18,c33,c42⟩=>?_
 clear d3 d4 d15 d17 d33 d42;refine W.gh (fun s'=>s'.H=Hy/\s'.ρ 3=.lit (.int .i64 v0)/\s'.ρ 15=.ptr Hx.next 0 0/\s'.ρ 17=ah pp/\s'.ρ 33=aa k/\s'.ρ 42=aa m/\∃ u:Int,s'.ρ 18=.lit (.int .i64 u)) ?_ ?_
 ·refine W.vs ?_;simp only[go_sem,c15,ly];refine aB.clo (vg y cs hyf.decs hyl _ _ ⟨trivial,?_⟩);by_cases z1:(0:Int)<(aM (az y)).length
  ·by_cases z2:kk<200
   ·have z3:¬ ((aM (az y)).length:Int)=0:=(by omega);have z4:kk.tmod (aM (az y)).length=((kk % ((aM (az y)).length:Int)).toNat:Int):=by
     rw[Tj (by omega),V6 (Ue _ (by omega))]
    have z5:=T7 kk z1;have z6:=Ue kk (b:=((aM (az y)).length:Int)) (by omega);obtain⟨i,hi⟩:∃ i,i=(kk % ((aM (az y)).length:Int)).toNat:=⟨_,rfl⟩
    rw[<- hi]at z4;obtain⟨b,hb⟩:=get_of_lt (l:=aM (az y)) (i:=i) (by omega);have hbn:=aK hb;have hil:(i:Int)<(aM (az y)).length:=(by omega);have hi0:(i:Int) >= 0:=(by omega);have wi:=SM (i:Int) (by omega);have wk:=SM kk (by omega);simp only[go_sem,c3,c4,c15,c17,c18,c33,c42,z1,z2,z3,z4,hb,hbn,hil,hi0,wk];exact⟨_,rfl⟩
   ·simp only[go_sem,c3,c4,c15,c17,c18,c33,c42,z1,z2];exact⟨_,rfl⟩
  ·simp only[go_sem,c3,c15,c17,c18,c33,c42,z1];exact⟨_,rfl⟩
 rintro⟨ρ9,Hq⟩ ⟨hH,d3,d15,d17,d33,d42,u,d18⟩;simp only at hH d3 d15 d17 d33 d42 d18;rw[hH];clear hH Hq c3 c4 c15 c17 c18 c33 c42;refine W.sq ?_;simp only[go_sem,d3,d18];refine W.en (fun E9=>E9 15=.ptr Hx.next 0 0 /\ E9 17=ah pp /\ E9 33=aa k /\ E9 42=aa m /\ E9 65=.agg [.lit (.int .i64 v0),.lit (.int .i64 u)] /\ E9 66=aa 0) (by simp only[go_sem,d15,d17,d33,d42]) fun E9 ⟨e15,e17,e33,e42,e65,e66⟩=>?_
 clear d3 d15 d17 d33 d42 d18;refine W.block ?_;refine W.aL 20282409603577883447652478095360 (by rfl) (fun ρ Hz=>∃ q:Nat,ρ 66=aa q/\q<=2/\Hz=Hy) (fun ρ Hx=>2 - (iv (ρ 66)).toNat) ?_ ?_
 ·simp only[go_sem,e66];exact⟨0,rfl,by omega⟩
 rintro ρ10 Hz ⟨q,hq,hq2,rfl⟩;refine W.env fun E10 hE10=>?_;have p15:E10 15=.ptr Hx.next 0 0:=by rw[hE10];simp only[go_sem,e15]
 have p17:E10 17=ah pp:=by rw[hE10];simp only[go_sem,e17]
 have p33:E10 33=aa k:=by rw[hE10];simp only[go_sem,e33]
 have p42:E10 42=aa m:=by rw[hE10];simp only[go_sem,e42]
 have p65:=(show E10 65=E9 65 by rw[hE10];simp only[go_sem]).trans e65;have p66:E10 66=aa q:=by rw[hE10];simp only[go_sem,hq]
 clear hE10;by_cases hqb:(q:Int)<2;rotate_left
 ·refine W.vs ?_;simp only[go_sem,p66,hqb];have wm:=SM ((m:Int)+1) (by omega);refine W.vs ?_;simp only[go_sem,p42,wm];exact⟨by omega,⟨m+1,rfl,by omega,by omega,by rw[gy,ga],gy2⟩,by rw[hm];simp only[aa,aQ];omega⟩
 refine W.sq ?_;simp only[go_sem,p66,hqb];refine W.sq ?_;simp only[go_sem];refine W.seq (W.block ?_);refine W.gh (fun s'=>s'.H=Hz/\s'.ρ 15=.ptr Hx.next 0 0/\s'.ρ 17=ah pp/\s'.ρ 33=aa k/\s'.ρ 42=aa m/\s'.ρ 66=aa q/\s'.ρ 65=E10 65/\∃ u':Int,s'.ρ 21=.lit (.int .i64 u')) ?_ ?_
 ·have hq01:q=0\/q=1:=by omega
  refine W.vs ?_;rcases hq01 with rfl|rfl
  ·simp only[go_sem,p15,p17,p33,p42,p65,p66];exact⟨_,rfl⟩
  ·simp only[go_sem,p15,p17,p33,p42,p65,p66];exact⟨_,rfl⟩
 rintro⟨ρ11,Hq⟩ ⟨hH,d15,d17,d33,d42,d66,d65,u',d21⟩;simp only at hH d15 d17 d33 d42 d66 d65 d21;rw[hH];clear hH Hq p15 p17 p33 p42 p65 p66;obtain⟨pe,hpe2⟩:∃ pe,pe=dF y pp:=⟨_,rfl⟩
  -- what the program answers
 obtain⟨rq,aq,er,hnil,hlen,hcase⟩:∃ (rq:AVal) (aq:List (List Int)) (er:Int),mT rq aq/\((aq.length:Int)<2 ^ 62/\∀ r∈aq,(r.length:Int)<2 ^ 62) /\
   ((dF y pp≠0/\rq=.lit (.slice none 0 0)/\aq=[]/\er=dF y pp)\/(dF y pp=0/\(∀ z:Nat,z∈az y->u'≠z)/\rq=.lit (.slice none 0 0)/\aq=[]/\er=2)\/(∃ z:Nat,z∈az y/\u'=z/\InfOk y/\PolOk y pp/\rq=ah aq/\aq=gW y (fixC pp) z/\er=0)):=by
  by_cases he:dF y pp=0
  ·obtain⟨o1,o2⟩:=Ep he;by_cases hz:∃ z:Nat,z∈az y/\u'=z
   ·obtain⟨z,hz,hz2⟩:=hz;exact⟨ah (gW y (fixC pp) z),gW y (fixC pp) z,0,.inl rfl,SG o1 _ hz,.inr (.inr ⟨z,hz,hz2,o1,o2,rfl,rfl,rfl⟩)⟩
   ·exact⟨.lit (.slice none 0 0),[],2,.inr ⟨rfl,rfl⟩,⟨by simp,fun r h=>by simp at h⟩,.inr (.inl ⟨he,fun z hz1 hz2=>hz ⟨z,hz1,hz2⟩,rfl,rfl,rfl⟩)⟩
  ·exact⟨.lit (.slice none 0 0),[],dF y pp,.inr ⟨rfl,rfl⟩,⟨by simp,fun r h=>by simp at h⟩,.inl ⟨he,rfl,rfl,rfl⟩⟩
 have hexp:∀ (K:ARes->AHeap->Prop) (H:AHeap),K (.ret (.tup [rq,aa er])) H->ae Tryz.prog G0 23 [dL y cs,ah pp,aa u'] H K:=fun K H hK=>by
  refine SE y cs hyq pp u' (SF y hyf hy6 pp hpp u' H K (fun h=>?_) (fun h1 h2=>?_) fun z h1 h2 h3 h4=>?_)
  ·rcases hcase with ⟨a,b,c,e⟩|⟨a,_⟩|⟨z,_,_,a,b,_⟩
   ·rw[<- b,<- e];exact hK
   ·exact absurd a h
   ·exact absurd (zd.2 ⟨a,b⟩) h
  ·rcases hcase with ⟨a,_⟩|⟨_,_,b,c,e⟩|⟨z,a,b,_⟩
   ·exact absurd h1 a
   ·rw[<- b,show (2:Int)=er from e.symm];exact hK
   ·exact absurd b (h2 z a)
  ·rcases hcase with ⟨a,_⟩|⟨_,a,_⟩|⟨z',a,b,c,e,f,g,i⟩
   ·exact absurd (zd.2 ⟨h3,h4⟩) a
   ·exact absurd h2 (a z h1)
   ·obtain rfl:z'=z:=(by omega);rw[<- g,<- f,show (0:Int)=er from i.symm];exact hK
 have rq1:=hnil.one.1;have rqc:=hnil.one.2;refine W.sq ?_;simp only[go_sem,d15,d17,d21,ly];refine aB.clo (hexp _ _ ⟨trivial,?_⟩);simp only[go_sem];refine W.sq ?_;simp only[go_sem];refine W.sq ?_;simp only[go_sem];refine W.en (fun E12=>E12 15=.ptr Hx.next 0 0 /\ E12 17=ah pp /\ E12 21=.lit (.int .i64 u') /\ E12 22=rq /\ E12 23=aa er /\ E12 24=.lit (.slice none 0 0) /\ E12 25=aa 0 /\ E12 66=aa q) (by simp only[go_sem,d15,d17,d21,d66]) fun E12 ⟨o15,o17,o21,o22,o23,o24,o25,o66⟩=>?_
 refine W.gh (fun s'=>s'.H=Hz/\s'.ρ 22=rq/\s'.ρ 23=aa er/\s'.ρ 25=aa er/\s'.ρ 66=aa q/\∃ wv,mT wv aq/\s'.ρ 24=wv) ?_ ?_
 ·refine W.block ?_;by_cases hok1:InfOk y;rotate_left
  ·have he:dF y pp=200:=(by unfold dF;rw[eQ hok1];rfl);have hq0:aq=[]/\er=200:=by
    rcases hcase with ⟨_,_,b,c⟩|⟨a,_⟩|⟨_,_,_,a,_⟩
    ·exact⟨b,by rw[c,he]⟩
    ·rw[he]at a;cases a
    ·exact absurd a hok1
   obtain⟨z1,z2⟩:=hq0;refine W.sq ?_;simp only[go_sem,o15,ly];refine aB.clo (ED y cs hyq hyf _ _ ⟨trivial,?_⟩);rw[eQ hok1];simp only[go_sem];refine W.cond (t:=true) rfl ?_;refine W.vs ?_;simp only[go_sem,o22,o23,o24,o66,z2];exact⟨_,.inr ⟨rfl,z1⟩,rfl⟩
  refine W.sq ?_;simp only[go_sem,o15,ly];refine aB.clo (ED y cs hyq hyf _ _ ⟨trivial,?_⟩);rw[ea hok1];simp only[go_sem];refine W.cond (t:=false) rfl ?_;by_cases hok2:PolOk y pp;rotate_left
  ·have he:dF y pp=201:=(by unfold dF;rw[ea hok1,eQ hok2];rfl);have hq0:aq=[]/\er=201:=by
    rcases hcase with ⟨_,_,b,c⟩|⟨a,_⟩|⟨_,_,_,_,a,_⟩
    ·exact⟨b,by rw[c,he]⟩
    ·rw[he]at a;cases a
    ·exact absurd a hok2
   obtain⟨z1,z2⟩:=hq0;refine W.sq ?_;simp only[go_sem,o15,o17,ly];refine aB.clo (EF y cs hyq hyf hok1 pp hpp _ _ ⟨trivial,?_⟩);rw[eQ hok2];simp only[go_sem];refine W.cond (t:=true) rfl ?_;refine W.vs ?_;simp only[go_sem,o22,o23,o24,o66,z2];exact⟨_,.inr ⟨rfl,z1⟩,rfl⟩
  have he0:dF y pp=0:=zd.2 ⟨hok1,hok2⟩;refine W.sq ?_;simp only[go_sem,o15,o17,ly];refine aB.clo (EF y cs hyq hyf hok1 pp hpp _ _ ⟨trivial,?_⟩);rw[ea hok2];simp only[go_sem];refine W.cond (t:=false) rfl ?_;rcases hcase with ⟨a,_⟩|⟨_,hno,_,z1,z2⟩|⟨z,hz,hu',_,_,_,z1,z2⟩
  ·exact absurd he0 a
  ·have hpl:¬ 0<=jn y u':=fun h=>by
    obtain⟨z,e1,e2⟩:=Fv.1 h;exact hno z e2 e1
   refine W.sq ?_;simp only[go_sem,o15,o21,ly];refine aB.clo (Fx y cs hyf.decs hyl u' _ _ ⟨trivial,?_⟩);rw[UH hpl];simp only[go_sem];refine W.cond (t:=true) rfl ?_;refine W.vs ?_;simp only[go_sem,o22,o23,o24,o66,z2];exact⟨_,.inr ⟨rfl,z1⟩,rfl⟩
  ·have hpl:0<=jn y u':=Fv.2 ⟨z,hu',hz⟩;subst hu';refine W.sq ?_;simp only[go_sem,o15,o21,ly];refine aB.clo (Fx y cs hyf.decs hyl (z:Int) _ _ ⟨trivial,?_⟩);rw[T1 hpl];simp only[go_sem];refine W.cond (t:=false) rfl ?_;refine W.vs ?_;simp only[go_sem,o15,o17,o21,ly];refine aB.clo (SC y cs hyq hyf hok1 hy6 pp hok2 z hz _ _ ⟨trivial,?_⟩);simp only[go_sem,o22,o23,o25,o66,z2];exact⟨_,.inl rfl,by rw[z1]⟩
 rintro⟨ρ13,Hq⟩ ⟨hH,d22,d23,d25,d66',wv',hwv,d24⟩;simp only at hH d22 d23 d25 d66' d24;rw[hH];clear hH Hq;have wq:=SM ((q:Int)+1) (by omega);refine W.vs ?_;simp only[go_sem,d22,d23,d24,d25];refine aB.clo (SD hnil hwv hlen.1 hlen.2 _ _ ⟨trivial,?_⟩);rw[T1 rfl];simp only[go_sem];refine W.vs ?_;simp only[go_sem,d66',wq];exact⟨⟨q+1,rfl,by omega⟩,by rw[hq];simp only[aa,aQ];omega⟩
end Go.Proofs
