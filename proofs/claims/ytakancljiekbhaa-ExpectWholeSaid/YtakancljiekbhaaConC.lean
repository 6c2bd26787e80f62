/- Own work: contracts. -/
import Derived.Test.YtakancljiekbhaaConB
import Derived.Test.YtakancljiekbhaaConA
set_option linter.all false
set_option maxRecDepth 100000
namespace Go.Proofs
open Go.Hx
def kG (f:Nat->Nat)(l:List Nat)(a i j:Nat):Prop:=(∀ x y,a<=x->x<y->y<=i->x≠j->y≠j->f (l.getD x 0)<=f (l.getD y 0))/\∀ y,j<y->y<=i->f (l.getD j 0)<=f (l.getD y 0)
theorem kG.start {f:Nat->Nat}{l:List Nat}{a i:Nat}(h:cV f l a i):kG f l a i i:=⟨fun x y h0 h1 h2 h3 h4=>h x y h0 h1 (by omega),fun b h1 h2=>by omega⟩
theorem kG.done {f:Nat->Nat}{l:List Nat}{a i j:Nat}(h:kG f l a i j)(hj:j<=i)(hd:j<=a\/f (l.getD (j - 1) 0)<=f (l.getD j 0)):cV f l a (i+1):=by
 intro x y h0 h1 h2;by_cases hb:y=j
 ·subst hb;rcases hd with h3|h3
  ·omega
  ·by_cases ha:x=y - 1
   ·rw[ha];exact h3
   ·exact So (h.1 x (y - 1) h0 (by omega) (by omega) (by omega) (by omega)) h3
 ·by_cases ha:x=j
  ·subst ha;exact h.2 y h1 (by omega)
  ·exact h.1 x y h0 h1 (by omega) ha hb
theorem kG.step {f:Nat->Nat}{l:List Nat}{a i j:Nat}(h:kG f l a i j)(hj:j<=i)(hi:i<l.length)(h0:a<j)(hlt:f (l.getD j 0)<f (l.getD (j - 1) 0)):kG f (bR l j (j - 1)) a i (j - 1):=by
 have g:=Qj (l:=l) (i:=j) (j:=j - 1) (by omega) (by omega) (by omega);constructor
 ·intro x y hx h1 h2 h3 h4;rw[g x,g y,RB h3,RB h4];by_cases ha:x=j
  ·rw[RC ha,RB (by omega)];exact h.1 (j - 1) y (by omega) (by omega) h2 (by omega) (by omega)
  ·rw[RB ha];by_cases hb:y=j
   ·rw[RC hb];exact h.1 x (j - 1) hx (by omega) (by omega) ha (by omega)
   ·rw[RB hb];exact h.1 x y hx h1 h2 ha hb
 ·intro b h1 h2;rw[g (j - 1),RC rfl,g b,RB (by omega)];by_cases hb:b=j
  ·rw[RC hb];exact T7 hlt
  ·rw[RB hb];exact h.2 b (by omega) h2
section
variable {cv:AVal} {f:Nat->Nat} {rid:Nat} {rb:Blk} {id g n a b:Nat} {l:List Nat} {H:AHeap}
set_option maxHeartbeats 4000000 in
theorem O3 (S:SH cv f rid rb id g n l H)(hab:a<=b)(hb:b<=n)(K:ARes->AHeap->Prop)(hK:∀ q,aW a b l q->cV f q a b->K (.ret (.tup [])) (H.upd id (nB g q))):
  ae Try.prog G0 96 [.own id g 0 n 1,aa a,aa b,cv] H K:=by
 have hn:=S.hn;have w0:=Rw ((a:Int)+1) (by omega);refine ae.cX (n:=53) (rs:=[]) Try.func96 rfl rfl rfl (by decide) (by simp) ?_;refine W.sq ?_;simp only[go_sem,w0];refine W.env fun E hE=>?_;have e0:E 0=.own id g 0 n 1:=by rw[hE];simp only[go_sem]
 have e1:E 1=aa a:=by rw[hE];simp only[go_sem]
 have e2:E 2=aa b:=by rw[hE];simp only[go_sem]
 have e3:E 3=cv:=by rw[hE];simp only[go_sem]
 have e8:E 8=aa ((a+1:Nat):Int):=by rw[hE];simp only[go_sem];rfl
 clear hE;refine W.block ?_;refine W.aI 9007199254737664 (by rfl) (fun ρ Hx=>∃ (i:Nat) (q:List Nat),ρ 8=aa i/\a<i/\(i<=b\/i=a+1)/\aW a b l q/\cV f q a i/\Hx=H.upd id (nB g q)) (fun ρ Hx=>b+1 - (iv (ρ 8)).toNat) ?_ ?_
 ·exact⟨a+1,l,e8,by omega,.inr rfl,.refl _ _ _,fun x y h1 h2 h3=>by omega,S.self.symm⟩
 rintro ρ Hx ⟨i,q,h8,hi1,hi,hq,hS,hHx⟩;refine W.en (fun E1=>E1 0=.own id g 0 n 1 /\ E1 1=aa a /\ E1 2=aa b /\ E1 3=cv /\ E1 8=aa i) (by simp only[go_sem,e0,e1,e2,e3,h8]) fun E1 ⟨f0,f1,f2,f3,f8⟩=>?_
 by_cases hib:(i:Int)<b;rotate_left
 ·refine W.vs ?_;simp only[go_sem,f8,f2,hib];rw[hHx];exact av.mk (by rw[aL];exact Nat.le_refl _) (hK q hq fun x y h1 h2 h3=>hS x y h1 h2 (by omega))
 refine W.sq ?_;simp only[go_sem,f8,f2,hib];refine W.seq (W.block ?_);refine W.sq ?_;simp only[go_sem,f8];refine W.en (fun E2=>E2 0=.own id g 0 n 1 /\ E2 1=aa a /\ E2 3=cv /\ E2 8=aa i /\ E2 9=aa i) (by simp only[go_sem,f0,f1,f3,f8]) fun E2 ⟨m0,m1,m3,m8,m9⟩=>?_
 refine W.block ?_;refine W.aI 9007199254479360 (by rfl) (fun ρ Hz=>∃ (j:Nat) (p:List Nat),ρ 9=aa j/\a<=j/\j<=i/\aW a b l p/\kG f p a i j/\Hz=H.upd id (nB g p)) (fun ρ Hz=>(iv (ρ 9)).toNat) ?_ ?_
 ·exact⟨i,q,m9,by omega,Nat.le_refl _,hq,.start hS,hHx⟩
 rintro ρ2 Hz ⟨j,p,h9,haj,hj,hp,hIn,hHz⟩;refine W.en (fun E3=>E3 0=.own id g 0 n 1 /\ E3 1=aa a /\ E3 3=cv /\ E3 8=aa i /\ E3 9=aa j) (by simp only[go_sem,m0,m1,m3,m8,h9]) fun E3 ⟨u0,u1,u3,u8,u9⟩=>?_
 have T:=S.upd hp.1;rw[<- hHz]at T;have i1:i<n:=by omega
 refine W.seq (W.cu (fun s'=>s'.H=Hz/\s'.ρ 0=.own id g 0 n 1/\s'.ρ 8=aa i/\s'.ρ 9=aa j/\s'.ρ 34=.lit (.bool (decide (a<j) && decide (f (p.getD j 0)<f (p.getD (j - 1) 0))))) ?_ ?_)
 ·refine W.draw 14 [0,0,3,7,15,15,15,111,239,15,15,1039,3599,7695] Try.mixed (by kernel_rfl) (by kernel_rfl) ?_;by_cases hjb:(j:Int) > a
  ·have wj:IntKind.i64.wrap ((j:Int) - 1)=((j - 1:Nat):Int):=(by rw[Rw _ (by omega)];omega);have b1:(j:Int)<n:=(by omega);have b2:((j - 1:Nat):Int)<n:=(by omega);simp only[go_sem,u0,u1,u3,u9,T.live,hjb,wj,T.cell (show j<n by omega),T.cell (show j - 1<n by omega),b1,b2];obtain⟨z,hz,hc⟩:=T.ask (show j<n by omega) (show j - 1<n by omega);refine hc _ ⟨trivial,?_⟩;have hd1:decide (a<j)=true:=RN (by omega);rw[hd1];by_cases hlt:f (p.getD j 0)<f (p.getD (j - 1) 0)
   ·have hlt':=hz.2 hlt;simp only[go_sem,u0,u8,u9,hlt',hlt]
    try rfl
   ·have hlt':¬ z<0:=fun h=>hlt (hz.1 h);simp only[go_sem,u0,u8,u9,hlt',hlt]
    try rfl
  ·simp only[go_sem,u0,u1,u8,u9,hjb];have hj0:decide (a<j)=false:=Sk (by omega);rw[hj0];rfl
 rintro⟨ρ3,Hq⟩ ⟨hHq,v0,v8,v9,v34⟩;simp only at hHq v0 v8 v9 v34;rw[hHq];clear hHq Hq;cases hfl:(decide (a<j) && decide (f (p.getD j 0)<f (p.getD (j - 1) 0))) with
 | false =>
  rw[hfl]at v34;refine W.cond (t:=false) v34 ?_;refine W.vs ?_;simp only[go_sem];have wi:=Rw ((i:Int)+1) (by omega);have hd:j<=a\/f (p.getD (j - 1) 0)<=f (p.getD j 0):=by
   by_cases h0:j<=a
   ·exact .inl h0
   ·rw[RN (by omega:a<j),Ur,SY]at hfl;exact .inr (by omega)
  have hS':=hIn.done hj hd;refine W.vs ?_;simp only[go_sem,v8,wi];exact⟨by rw[hHz,aL];exact Nat.le_refl _,⟨i+1,p,rfl,by omega,by omega,hp,hS',hHz⟩,by rw[h8];simp only[aa,aM];omega⟩
 | true =>
  rw[hfl]at v34;refine W.cond (t:=true) v34 ?_;have hfl2:a<j/\f (p.getD j 0)<f (p.getD (j - 1) 0):=by simpa using hfl
  have wj:IntKind.i64.wrap ((j:Int) - 1)=((j - 1:Nat):Int):=by rw[Rw _ (by omega)];omega
  have b1:(j:Int)<n:=by omega
  have b2:((j - 1:Nat):Int)<n:=by omega
  refine W.vs ?_;simp only[go_sem];refine W.seq (W.block ?_);refine W.draw 16 [0,0,0,0,8,0,0,64,224,480,0,0,3072,7168,16355,32739] Try.mixed (by kernel_rfl) (by kernel_rfl) ?_;simp only[go_sem,v0,v9,T.live,T.len,wj,T.cell (show j<n by omega),T.cell (show j - 1<n by omega),b1,b2,T.s1 (show j<n by omega),T.s2 (i:=j) (show j - 1<n by omega),T.ir,T.iu];refine⟨by omega,by omega,nX _ _ _ (by rfl) ?_⟩;simp only[go_sem,v9,wj];refine⟨by rw[hHx,hHz];simp only[aL];exact Nat.le_refl _,⟨j - 1,bR p j (j - 1),rfl,by omega,by omega,hp.trans (.swap (by omega) (by omega) (by omega) (by omega) (by rw[hp.len,S.hl];exact hb)),hIn.step hj (by rw[hp.len,S.hl];exact i1) hfl2.1 hfl2.2,?_⟩,by rw[h9];simp only[aa,aM];omega⟩;rw[T.u2,hHz,dF]
end
end Go.Proofs
namespace Go.Proofs
open Go.Hx
section
variable {cv:AVal} {f:Nat->Nat} {rid:Nat} {rb:Blk} {id g n a b:Nat} {l:List Nat} {H:AHeap}
def jE (f:Nat->Nat)(q:List Nat)(a b i j:Nat):Prop:=a<i/\i<=j+1/\j<b/\(∀ k,a<k->k<i->f (q.getD k 0)<f (q.getD a 0))/\∀ k,j<k->k<b->f (q.getD a 0)<=f (q.getD k 0)
theorem jE.done {f:Nat->Nat}{q:List Nat}{a b i j:Nat}(h:jE f q a b i j)(hij:j<i)(hb:b<=q.length):lZ f (bR q j a) a b j:=by
 obtain⟨h1,h2,h3,h4,h5⟩:=h;have g:=fun k=>ra (l:=q) (i:=j) (j:=a) (by omega) (by omega) k;have ej:(bR q j a).getD j 0=q.getD a 0:=by
  rw[g];split
  ·rename_i e;rw[e]
  ·rw[RC rfl]
 refine⟨fun k k1 k2=>?_,fun k k1 k2=>?_⟩
 ·rw[ej,g];split
  ·exact T7 (h4 j (by omega) (by omega))
  ·rw[RB (by omega)];exact T7 (h4 k (by omega) (by omega))
 ·rw[ej,g,RB (by omega),RB (by omega)];exact h5 k k1 k2
theorem jE.swap {f:Nat->Nat}{q:List Nat}{a b i j:Nat}(h:jE f q a b i j)(hij:i<=j)(hb:b<=q.length)(hi:¬ f (q.getD i 0)<f (q.getD a 0))(hj:f (q.getD j 0)<f (q.getD a 0)):i<j/\jE f (bR q i j) a b (i+1) (j - 1):=by
 obtain⟨h1,h2,h3,h4,h5⟩:=h;have hne:i≠j:=fun e=>hi (e ▸ hj);have g:=fun k=>ra (l:=q) (i:=i) (j:=j) (by omega) (by omega) k;have ea:(bR q i j).getD a 0=q.getD a 0:=by rw[g,RB (by omega),RB (by omega)]
 refine⟨by omega,by omega,by omega,by omega,fun k k1 k2=>?_,fun k k1 k2=>?_⟩
 ·rw[ea,g,RB (by omega)];split
  ·exact hj
  ·exact h4 k k1 (by omega)
 ·rw[ea,g];split
  ·exact TR hi
  ·rw[RB (by omega)];exact h5 k (by omega) k2
theorem jE.scan {f:Nat->Nat}{q:List Nat}{a b i j x y:Nat}(h:jE f q a b i j)(h1:i<=x)(h2:x<=j+1)(h3:∀ k,i<=k->k<x->f (q.getD k 0)<f (q.getD a 0))(h4:y<=j)(h5:x<=y+1)(h6:∀ k,y<k->k<=j->f (q.getD a 0)<=f (q.getD k 0)):jE f q a b x y:=by
 obtain⟨p1,p2,p3,p4,p5⟩:=h;refine⟨by omega,by omega,by omega,fun k k1 k2=>?_,fun k k1 k2=>?_⟩
 ·rcases RP k i with hk|hk
  ·exact p4 k k1 hk
  ·exact h3 k hk k2
 ·rcases RP j k with hk|hk
  ·exact p5 k hk k2
  ·exact h6 k k1 hk
set_option maxHeartbeats 16000000 in
theorem O4 {p:Nat}(S:SH cv f rid rb id g n l H)(hap:a<=p)(hpb:p<b)(hb:b<=n)(K:ARes->AHeap->Prop)(hK:∀ q m fl,aW a b l q->lZ f q a b m->a<=m->m<b->K (.ret (.tup [aa (m:Nat),.lit (.bool fl)])) (H.upd id (nB g q))):
  ae Try.prog G0 103 [.own id g 0 n 1,aa a,aa b,aa p,cv] H K:=by
 have hn:=S.hn;have ba:(a:Int)<n:=by omega
 have bp:(p:Int)<n:=by omega
 have w0:IntKind.i64.wrap ((a:Int)+1)=((a+1:Nat):Int):=by rw[Rw _ (by omega)];omega
 have w1:IntKind.i64.wrap ((b:Int) - 1)=((b - 1:Nat):Int):=by rw[Rw _ (by omega)];omega
 refine ae.cX (n:=178) (rs:=[.tmp 10,.tmp 11]) Try.func103 rfl rfl rfl (by decide) (by simp) ?_;refine W.sq ?_;simp only[go_sem];refine W.seq ?_;refine W.draw 14 [0,0,0,0,0,0,48,112,0,0,768,1792,4083,8179] Try.mixed (by kernel_rfl) (by kernel_rfl) ?_;simp only[go_sem,S.live,S.len,S.cell (show a<n by omega),S.cell (show p<n by omega),ba,bp,S.s1 (show a<n by omega),S.s2 (i:=a) (show p<n by omega),S.ir,S.iu];refine⟨by omega,by omega,?_⟩;rw[S.u2];obtain⟨q0,hq0⟩:∃ q0,q0=bR l a p:=⟨_,rfl⟩
 rw[<- hq0];have hp0:aW a b l q0:=by rw[hq0];exact .swap (Nat.le_refl _) (by omega) hap hpb (by rw[S.hl];exact hb)
 clear hq0;have T0:=S.upd hp0.1;obtain⟨H0,hH0⟩:∃ H0,H0=H.upd id (nB g q0):=⟨_,rfl⟩
 have n0:H0.next=H.next:=by rw[hH0];rfl
 rw[<- hH0]at T0 ⊢;refine W.sq ?_;simp only[go_sem,w0,w1];refine W.en (fun E=>E 0=.own id g 0 n 1 /\ E 1=aa a /\ E 4=cv /\ E 12=aa ((a+1:Nat):Int) /\ E 13=aa ((b - 1:Nat):Int)) (by simp only[go_sem]) fun E ⟨e0,e1,e4,e12,e13⟩=>?_
 have I0:jE f q0 a b (a+1) (b - 1):=⟨by omega,by omega,by omega,fun k k1 k2=>by omega,fun k k1 k2=>by omega⟩
 obtain⟨i0,hi0⟩:∃ i0,i0=a+1:=⟨_,rfl⟩
 obtain⟨j0,hj0⟩:∃ j0,j0=b - 1:=⟨_,rfl⟩
 rw[<- hi0]at e12 I0;rw[<- hj0]at e13 I0;refine W.cu (fun s'=>s'.H=H0/\s'.ρ 0=.own id g 0 n 1/\s'.ρ 1=aa a/\s'.ρ 4=cv/\s'.ρ 13=aa j0/\∃ u:Nat,s'.ρ 12=aa u/\(i0<=u/\u<=j0+1/\∀ k,i0<=k->k<u->f ((q0).getD k 0)<f ((q0).getD a 0))/\(u<=j0->¬ f ((q0).getD u 0)<f ((q0).getD a 0))) ?_ ?_
 ·refine W.block ?_;refine W.aI 1125895611879424 (by kernel_rfl) (fun ρ Hk=>Hk=H0/\∃ u:Nat,ρ 12=aa u/\(i0<=u/\u<=j0+1/\∀ k,i0<=k->k<u->f ((q0).getD k 0)<f ((q0).getD a 0))) (fun ρ _=>j0+1 - (iv (ρ 12)).toNat) ?_ ?_
  ·exact⟨rfl,i0,e12,Nat.le_refl _,by omega,fun k h1 h2=>by omega⟩
  rintro ρ Hk ⟨hHk,u,hx,x1,x2,x3⟩;rw[hHk];refine W.en (fun F=>F 0=.own id g 0 n 1 /\ F 1=aa a /\ F 4=cv /\ F 12=aa u /\ F 13=aa j0) (by simp only[go_sem,e0,e1,e4,hx,e13]) fun F ⟨d0,d1,d4,d12,d13⟩=>?_
  refine W.seq (W.cu (fun s'=>s'.H=H0/\s'.ρ 0=.own id g 0 n 1/\s'.ρ 1=aa a/\s'.ρ 4=cv/\s'.ρ 12=aa u/\s'.ρ 13=aa j0/\s'.ρ 47=.lit (.bool (decide (u<=j0) && decide (f ((q0).getD u 0)<f ((q0).getD a 0))))) ?_ ?_)
  ·refine W.draw 13 [0,0,3,7,15,15,15,111,239,15,15,1551,3599] Try.mixed (by kernel_rfl) (by kernel_rfl) ?_;by_cases hc:(u:Int)<=j0
   ·have b1:(u:Int)<n:=(by omega);simp only[go_sem,d0,d1,d4,d12,d13,T0.live,hc,T0.cell (show u<n by omega),T0.cell (show a<n by omega),b1,ba];obtain⟨z,hz,hcc⟩:=T0.ask (show u<n by omega) (show a<n by omega);refine hcc _ ⟨trivial,?_⟩;have hd1:decide (u<=j0)=true:=RN (by omega);rw[hd1];by_cases hlt:f ((q0).getD u 0)<f ((q0).getD a 0)
    ·have hlt':=hz.2 hlt;simp only[go_sem,d0,d1,d4,d12,d13,hlt',hlt]
     try rfl
    ·have hlt':¬ z<0:=fun h=>hlt (hz.1 h);simp only[go_sem,d0,d1,d4,d12,d13,hlt',hlt]
     try rfl
   ·simp only[go_sem,d0,d1,d4,d12,d13,hc];have hj0:decide (u<=j0)=false:=Sk (by omega);rw[hj0];rfl
  rintro⟨ρ3,Hs⟩ ⟨hHs,v0,v1,v4,v12,v13,vc⟩;simp only at hHs v0 v1 v4 v12 v13 vc;rw[hHs];clear hHs Hs;cases hfl:(decide (u<=j0) && decide (f ((q0).getD u 0)<f ((q0).getD a 0))) with
  | false =>
   rw[hfl]at vc;refine W.cond (t:=false) vc ?_;refine W.vs ?_;simp only[go_sem];refine⟨v0,v1,v4,v13,u,v12,⟨x1,x2,x3⟩,fun h hh=>?_⟩;rw[RN h,RN hh]at hfl;cases hfl
  | true =>
   rw[hfl]at vc;refine W.cond (t:=true) vc ?_;have hfl2:(u<=j0)/\f ((q0).getD u 0)<f ((q0).getD a 0):=(by simpa using hfl);have wx:=Rw ((u:Int)+1) (by omega);refine W.vs ?_;simp only[go_sem];refine W.vs ?_;simp only[go_sem,v12,wx];exact⟨⟨u+1,rfl,by omega,by omega,fun k h1 h2=>by
    by_cases hk:k=u
    ·rw[hk];exact hfl2.2
    ·exact x3 k h1 (by omega)⟩,by rw[hx];simp only[aa,aM];omega⟩
 rintro⟨ρa,Ha⟩ ⟨hHa,a0,a1,a4,a13,x,a12,⟨x1,x2,x3⟩,x4⟩;simp only at hHa a0 a1 a4 a13 a12;rw[hHa];clear hHa Ha;refine W.cu (fun s'=>s'.H=H0/\s'.ρ 0=.own id g 0 n 1/\s'.ρ 1=aa a/\s'.ρ 4=cv/\s'.ρ 12=aa x/\∃ u:Nat,s'.ρ 13=aa u/\(u<=j0/\x<=u+1/\∀ k,u<k->k<=j0->f ((q0).getD a 0)<=f ((q0).getD k 0))/\(x<=u->f ((q0).getD u 0)<f ((q0).getD a 0))) ?_ ?_
 ·refine W.block ?_;refine W.aI 590294684458798817280 (by kernel_rfl) (fun ρ Hk=>Hk=H0/\∃ u:Nat,ρ 13=aa u/\(u<=j0/\x<=u+1/\∀ k,u<k->k<=j0->f ((q0).getD a 0)<=f ((q0).getD k 0))) (fun ρ _=>(iv (ρ 13)).toNat) ?_ ?_
  ·exact⟨rfl,j0,a13,Nat.le_refl _,by omega,fun k h1 h2=>by omega⟩
  rintro ρ Hk ⟨hHk,u,hx,x1,x2,x3⟩;rw[hHk];refine W.en (fun F=>F 0=.own id g 0 n 1 /\ F 1=aa a /\ F 4=cv /\ F 12=aa x /\ F 13=aa u) (by simp only[go_sem,a0,a1,a4,a12,hx]) fun F ⟨d0,d1,d4,d12,d13⟩=>?_
  refine W.seq (W.cu (fun s'=>s'.H=H0/\s'.ρ 0=.own id g 0 n 1/\s'.ρ 1=aa a/\s'.ρ 4=cv/\s'.ρ 12=aa x/\s'.ρ 13=aa u/\s'.ρ 66=.lit (.bool (decide (x<=u) && !decide (f ((q0).getD u 0)<f ((q0).getD a 0))))) ?_ ?_)
  ·refine W.draw 13 [0,0,3,7,15,15,15,111,239,15,15,1551,3599] Try.mixed (by kernel_rfl) (by kernel_rfl) ?_;by_cases hc:(x:Int)<=u
   ·have b1:(u:Int)<n:=(by omega);simp only[go_sem,d0,d1,d4,d12,d13,T0.live,hc,T0.cell (show u<n by omega),T0.cell (show a<n by omega),b1,ba];obtain⟨z,hz,hcc⟩:=T0.ask (show u<n by omega) (show a<n by omega);refine hcc _ ⟨trivial,?_⟩;have hd1:decide (x<=u)=true:=RN (by omega);rw[hd1];by_cases hlt:f ((q0).getD u 0)<f ((q0).getD a 0)
    ·have hlt':=hz.2 hlt;simp only[go_sem,d0,d1,d4,d12,d13,hlt',hlt]
     try rfl
    ·have hlt':¬ z<0:=fun h=>hlt (hz.1 h);simp only[go_sem,d0,d1,d4,d12,d13,hlt',hlt]
     try rfl
   ·simp only[go_sem,d0,d1,d4,d12,d13,hc];have hj0:decide (x<=u)=false:=Sk (by omega);rw[hj0];rfl
  rintro⟨ρ3,Hs⟩ ⟨hHs,v0,v1,v4,v12,v13,vc⟩;simp only at hHs v0 v1 v4 v12 v13 vc;rw[hHs];clear hHs Hs;cases hfl:(decide (x<=u) && !decide (f ((q0).getD u 0)<f ((q0).getD a 0))) with
  | false =>
   rw[hfl]at vc;refine W.cond (t:=false) vc ?_;refine W.vs ?_;simp only[go_sem];refine⟨v0,v1,v4,v12,u,v13,⟨x1,x2,x3⟩,fun h=>?_⟩;rw[RN h,Ur,Um,Su]at hfl;exact hfl
  | true =>
   rw[hfl]at vc;refine W.cond (t:=true) vc ?_;have hfl2:(x<=u)/\¬ f ((q0).getD u 0)<f ((q0).getD a 0):=(by simpa using hfl);have wx:IntKind.i64.wrap ((u:Int) - 1)=((u - 1:Nat):Int):=(by rw[Rw _ (by omega)];omega);refine W.vs ?_;simp only[go_sem];refine W.vs ?_;simp only[go_sem,v13,wx];exact⟨⟨u - 1,rfl,by omega,by omega,fun k h1 h2=>by
    by_cases hk:k=u
    ·rw[hk];exact TR hfl2.2
    ·exact x3 k (by omega) h2⟩,by rw[hx];simp only[aa,aM];omega⟩
 rintro⟨ρb,Hb⟩ ⟨hHb,c0,c1,c4,c12,y,c13,⟨y1,y2,y3⟩,y4⟩;simp only at hHb c0 c1 c4 c13 c12;rw[hHb];clear hHb Hb;have I1:=I0.scan x1 x2 x3 y1 y2 y3;clear x1 x2 x3 y1 y2 y3 I0;have yb:=I1.2.2.1;have yn:y<n:=by omega
 have xn:x<=n:=by have:=I1.2.1;omega
 have ax:a<x:=I1.1;have ay:a<=y:=by have:=I1.2.1;omega
 have by1:(y:Int)<n:=by omega
 have pl0:=hp0.len;rw[S.hl]at pl0;by_cases hxy:(x:Int) > y
 ·refine W.seq ?_;refine W.vs ?_;simp only[go_sem,c12,c13,hxy];refine W.draw 14 [0,0,0,0,0,0,48,112,0,0,768,1792,4083,8179] Try.mixed (by kernel_rfl) (by kernel_rfl) ?_;simp only[go_sem,c0,c1,c13,T0.live,T0.len,T0.cell (show a<n by omega),T0.cell yn,ba,by1,T0.s1 yn,T0.s2 (i:=y) (show a<n by omega),T0.ir,T0.iu];refine⟨by omega,by omega,?_⟩;rw[T0.u2,hH0,dF];exact av.mk (Nat.le_refl _) (hK _ y true (hp0.trans (.swap (by omega) (by omega) (Nat.le_refl _) (by omega) (by rw[pl0];exact hb))) (I1.done (by omega) (by rw[pl0];exact hb)) ay I1.2.2.1)
 obtain⟨xy,I2⟩:=I1.swap (by omega) (by rw[pl0];exact hb) (x4 (by have:=I1.2.2.1;omega)) (y4 (by omega));have bx1:(x:Int)<n:=by omega
 have wx:IntKind.i64.wrap ((x:Int)+1)=((x+1:Nat):Int):=by rw[Rw _ (by omega)];omega
 have wy:IntKind.i64.wrap ((y:Int) - 1)=((y - 1:Nat):Int):=by rw[Rw _ (by omega)];omega
 refine W.seq ?_;refine W.vs ?_;simp only[go_sem,c12,c13,hxy];refine W.seq ?_;refine W.draw 14 [0,0,0,0,0,0,48,112,0,0,768,1792,4083,8179] Try.mixed (by kernel_rfl) (by kernel_rfl) ?_;simp only[go_sem,c0,c12,c13,T0.live,T0.len,T0.cell (show x<n by omega),T0.cell yn,bx1,by1,T0.s1 (show x<n by omega),T0.s2 (i:=x) yn,T0.ir,T0.iu];refine⟨by omega,by omega,?_⟩;rw[T0.u2];refine W.sq ?_;simp only[go_sem,c12,wx];refine W.sq ?_;simp only[go_sem,c13,wy];rw[hH0,dF];refine W.en (fun E2=>E2 0=.own id g 0 n 1 /\ E2 1=aa a /\ E2 4=cv /\ E2 12=aa ((x+1:Nat):Int) /\ E2 13=aa ((y - 1:Nat):Int)) (by simp only[go_sem,c0,c1,c4,c12,c13]) fun E2 ⟨k0,k1,k4,k12,k13⟩=>?_
 have hp1:aW a b l (bR q0 x y):=hp0.trans (.swap (by omega) (by have:=I1.2.2.1;omega) (by omega) I1.2.2.1 (by rw[pl0];exact hb));refine W.cu (fun s'=>∃ (q:List Nat) (i j:Nat),s'.H=H.upd id (nB g q)/\aW a b l q/\jE f q a b i j/\j<i/\s'.ρ 0=.own id g 0 n 1/\s'.ρ 1=aa a/\s'.ρ 13=aa j) ?_ ?_
 ·refine W.block ?_;refine W.aI 11692013098647223305064659454426923309352957784064 (by kernel_rfl) (fun ρ Hx=>∃ (q:List Nat) (i j:Nat),ρ 12=aa i/\ρ 13=aa j/\aW a b l q/\jE f q a b i j/\Hx=H.upd id (nB g q)) (fun ρ Hx=>(iv (ρ 13)).toNat) ?_ ?_
  ·exact⟨_,_,_,k12,k13,hp1,I2,rfl⟩
  rintro ρq Hx ⟨q,i,j,h12,h13,hp,I,hHx⟩;refine W.en (fun E3=>E3 0=.own id g 0 n 1 /\ E3 1=aa a /\ E3 4=cv /\ E3 12=aa i /\ E3 13=aa j) (by simp only[go_sem,k0,k1,k4,h12,h13]) fun E3 ⟨m0,m1,m4,m12,m13⟩=>?_
  have T:=S.upd hp.1;rw[<- hHx]at T;have hxn:Hx.next=H.next:=by rw[hHx];rfl
  have Ib:=I.2.2.1;have Ia:=I.1;have Ij:=I.2.1;refine W.block ?_;refine W.cu (fun s'=>s'.H=Hx/\s'.ρ 0=.own id g 0 n 1/\s'.ρ 1=aa a/\s'.ρ 4=cv/\s'.ρ 13=aa j/\∃ u:Nat,s'.ρ 12=aa u/\(i<=u/\u<=j+1/\∀ k,i<=k->k<u->f ((q).getD k 0)<f ((q).getD a 0))/\(u<=j->¬ f ((q).getD u 0)<f ((q).getD a 0))) ?_ ?_
  ·refine W.block ?_;refine W.aI 10633783401460119679889608587740188672 (by kernel_rfl) (fun ρ Hk=>Hk=Hx/\∃ u:Nat,ρ 12=aa u/\(i<=u/\u<=j+1/\∀ k,i<=k->k<u->f ((q).getD k 0)<f ((q).getD a 0))) (fun ρ _=>j+1 - (iv (ρ 12)).toNat) ?_ ?_
   ·exact⟨rfl,i,m12,Nat.le_refl _,by omega,fun k h1 h2=>by omega⟩
   rintro ρ Hk ⟨hHk,u,hx,x1,x2,x3⟩;rw[hHk];refine W.env fun F hF=>?_;have d0:F 0=.own id g 0 n 1:=(by rw[hF];simp only[go_sem,m0]);have d1:F 1=aa a:=(by rw[hF];simp only[go_sem,m1]);have d4:F 4=cv:=(by rw[hF];simp only[go_sem,m4]);have d12:F 12=aa u:=(by rw[hF];simp only[go_sem,hx]);have d13:F 13=aa j:=(by rw[hF];simp only[go_sem,m13]);clear hF;refine W.seq (W.cu (fun s'=>s'.H=Hx/\s'.ρ 0=.own id g 0 n 1/\s'.ρ 1=aa a/\s'.ρ 4=cv/\s'.ρ 12=aa u/\s'.ρ 13=aa j/\s'.ρ 120=.lit (.bool (decide (u<=j) && decide (f ((q).getD u 0)<f ((q).getD a 0))))) ?_ ?_)
   ·refine W.draw 13 [0,0,3,7,15,15,15,111,239,15,15,1551,3599] Try.mixed (by kernel_rfl) (by kernel_rfl) ?_;by_cases hc:(u:Int)<=j
    ·have b1:(u:Int)<n:=(by omega);simp only[go_sem,d0,d1,d4,d12,d13,T.live,hc,T.cell (show u<n by omega),T.cell (show a<n by omega),b1,ba];obtain⟨z,hz,hcc⟩:=T.ask (show u<n by omega) (show a<n by omega);refine hcc _ ⟨trivial,?_⟩;have hd1:decide (u<=j)=true:=RN (by omega);rw[hd1];by_cases hlt:f ((q).getD u 0)<f ((q).getD a 0)
     ·have hlt':=hz.2 hlt;simp only[go_sem,d0,d1,d4,d12,d13,hlt',hlt]
      try rfl
     ·have hlt':¬ z<0:=fun h=>hlt (hz.1 h);simp only[go_sem,d0,d1,d4,d12,d13,hlt',hlt]
      try rfl
    ·simp only[go_sem,d0,d1,d4,d12,d13,hc];have hj0:decide (u<=j)=false:=Sk (by omega);rw[hj0];rfl
   rintro⟨ρ3,Hs⟩ ⟨hHs,v0,v1,v4,v12,v13,vc⟩;simp only at hHs v0 v1 v4 v12 v13 vc;rw[hHs];clear hHs Hs;cases hfl:(decide (u<=j) && decide (f ((q).getD u 0)<f ((q).getD a 0))) with
   | false =>
    rw[hfl]at vc;refine W.cond (t:=false) vc ?_;refine W.vs ?_;simp only[go_sem];refine⟨v0,v1,v4,v13,u,v12,⟨x1,x2,x3⟩,fun h hh=>?_⟩;rw[RN h,RN hh]at hfl;cases hfl
   | true =>
    rw[hfl]at vc;refine W.cond (t:=true) vc ?_;have hfl2:(u<=j)/\f ((q).getD u 0)<f ((q).getD a 0):=(by simpa using hfl);have wx:=Rw ((u:Int)+1) (by omega);refine W.vs ?_;simp only[go_sem];refine W.vs ?_;simp only[go_sem,v12,wx];exact⟨⟨u+1,rfl,by omega,by omega,fun k h1 h2=>by
     by_cases hk:k=u
     ·rw[hk];exact hfl2.2
     ·exact x3 k h1 (by omega)⟩,by rw[hx];simp only[aa,aM];omega⟩
  rintro⟨ρa,Ha⟩ ⟨hHa,a0,a1,a4,a13,x,a12,⟨x1,x2,x3⟩,x4⟩;simp only at hHa a0 a1 a4 a13 a12;rw[hHa];clear hHa Ha;refine W.cu (fun s'=>s'.H=Hx/\s'.ρ 0=.own id g 0 n 1/\s'.ρ 1=aa a/\s'.ρ 4=cv/\s'.ρ 12=aa x/\∃ u:Nat,s'.ρ 13=aa u/\(u<=j/\x<=u+1/\∀ k,u<k->k<=j->f ((q).getD a 0)<=f ((q).getD k 0))/\(x<=u->f ((q).getD u 0)<f ((q).getD a 0))) ?_ ?_
  ·refine W.block ?_;refine W.aI 5575175665808689506056946337705608133746688 (by kernel_rfl) (fun ρ Hk=>Hk=Hx/\∃ u:Nat,ρ 13=aa u/\(u<=j/\x<=u+1/\∀ k,u<k->k<=j->f ((q).getD a 0)<=f ((q).getD k 0))) (fun ρ _=>(iv (ρ 13)).toNat) ?_ ?_
   ·exact⟨rfl,j,a13,Nat.le_refl _,by omega,fun k h1 h2=>by omega⟩
   rintro ρ Hk ⟨hHk,u,hx,x1,x2,x3⟩;rw[hHk];refine W.env fun F hF=>?_;have d0:F 0=.own id g 0 n 1:=(by rw[hF];simp only[go_sem,a0]);have d1:F 1=aa a:=(by rw[hF];simp only[go_sem,a1]);have d4:F 4=cv:=(by rw[hF];simp only[go_sem,a4]);have d12:F 12=aa x:=(by rw[hF];simp only[go_sem,a12]);have d13:F 13=aa u:=(by rw[hF];simp only[go_sem,hx]);clear hF;refine W.seq (W.cu (fun s'=>s'.H=Hx/\s'.ρ 0=.own id g 0 n 1/\s'.ρ 1=aa a/\s'.ρ 4=cv/\s'.ρ 12=aa x/\s'.ρ 13=aa u/\s'.ρ 139=.lit (.bool (decide (x<=u) && !decide (f ((q).getD u 0)<f ((q).getD a 0))))) ?_ ?_)
   ·refine W.draw 13 [0,0,3,7,15,15,15,111,239,15,15,1551,3599] Try.mixed (by kernel_rfl) (by kernel_rfl) ?_;by_cases hc:(x:Int)<=u
    ·have b1:(u:Int)<n:=(by omega);simp only[go_sem,d0,d1,d4,d12,d13,T.live,hc,T.cell (show u<n by omega),T.cell (show a<n by omega),b1,ba];obtain⟨z,hz,hcc⟩:=T.ask (show u<n by omega) (show a<n by omega);refine hcc _ ⟨trivial,?_⟩;have hd1:decide (x<=u)=true:=RN (by omega);rw[hd1];by_cases hlt:f ((q).getD u 0)<f ((q).getD a 0)
     ·have hlt':=hz.2 hlt;simp only[go_sem,d0,d1,d4,d12,d13,hlt',hlt]
      try rfl
     ·have hlt':¬ z<0:=fun h=>hlt (hz.1 h);simp only[go_sem,d0,d1,d4,d12,d13,hlt',hlt]
      try rfl
    ·simp only[go_sem,d0,d1,d4,d12,d13,hc];have hj0:decide (x<=u)=false:=Sk (by omega);rw[hj0];rfl
   rintro⟨ρ3,Hs⟩ ⟨hHs,v0,v1,v4,v12,v13,vc⟩;simp only at hHs v0 v1 v4 v12 v13 vc;rw[hHs];clear hHs Hs;cases hfl:(decide (x<=u) && !decide (f ((q).getD u 0)<f ((q).getD a 0))) with
   | false =>
    rw[hfl]at vc;refine W.cond (t:=false) vc ?_;refine W.vs ?_;simp only[go_sem];refine⟨v0,v1,v4,v12,u,v13,⟨x1,x2,x3⟩,fun h=>?_⟩;rw[RN h,Ur,Um,Su]at hfl;exact hfl
   | true =>
    rw[hfl]at vc;refine W.cond (t:=true) vc ?_;have hfl2:(x<=u)/\¬ f ((q).getD u 0)<f ((q).getD a 0):=(by simpa using hfl);have wx:IntKind.i64.wrap ((u:Int) - 1)=((u - 1:Nat):Int):=(by rw[Rw _ (by omega)];omega);refine W.vs ?_;simp only[go_sem];refine W.vs ?_;simp only[go_sem,v13,wx];exact⟨⟨u - 1,rfl,by omega,by omega,fun k h1 h2=>by
     by_cases hk:k=u
     ·rw[hk];exact TR hfl2.2
     ·exact x3 k (by omega) h2⟩,by rw[hx];simp only[aa,aM];omega⟩
  rintro⟨ρb,Hb⟩ ⟨hHb,c0,c1,c4,c12,y,c13,⟨y1,y2,y3⟩,y4⟩;simp only at hHb c0 c1 c4 c13 c12;rw[hHb];clear hHb Hb;have I1:=I.scan x1 x2 x3 y1 y2 y3;clear x2 x3 y2 y3 I;have yb:=I1.2.2.1;have yn:y<n:=by omega
  have xn:x<=n:=by have:=I1.2.1;omega
  have ax:a<x:=I1.1;have ay:a<=y:=by have:=I1.2.1;omega
  have by1:(y:Int)<n:=by omega
  have pl0:=hp.len;rw[S.hl]at pl0;by_cases hxy:(x:Int) > y
  ·refine W.vs ?_;simp only[go_sem,c12,c13,hxy];exact⟨q,x,y,hHx,hp,I1,by omega,c0,c1,rfl⟩
  obtain⟨xy,I2⟩:=I1.swap (by omega) (by rw[pl0];exact hb) (x4 (by omega)) (y4 (by omega));have bx1:(x:Int)<n:=by omega
  have wx:IntKind.i64.wrap ((x:Int)+1)=((x+1:Nat):Int):=by rw[Rw _ (by omega)];omega
  have wy:IntKind.i64.wrap ((y:Int) - 1)=((y - 1:Nat):Int):=by rw[Rw _ (by omega)];omega
  refine W.seq ?_;refine W.vs ?_;simp only[go_sem,c12,c13,hxy];refine W.seq ?_;refine W.draw 14 [0,0,0,0,0,0,48,112,0,0,768,1792,4083,8179] Try.mixed (by kernel_rfl) (by kernel_rfl) ?_;simp only[go_sem,c0,c12,c13,T.live,T.len,T.cell (show x<n by omega),T.cell yn,bx1,by1,T.s1 (show x<n by omega),T.s2 (i:=x) yn,T.ir,T.iu];refine⟨by omega,by omega,?_⟩;rw[T.u2];refine W.vs ?_;simp only[go_sem,c12,c13,wx,wy];refine⟨by simp only[aL];omega,⟨bR q x y,x+1,y - 1,rfl,rfl,hp.trans (.swap (by omega) (by omega) (by omega) (by omega) (by rw[pl0];exact hb)),I2,?_⟩,by rw[h13];simp only[aa,aM];omega⟩;rw[hHx,dF]
 rintro⟨ρd,Hd⟩ ⟨q,i,j,hHd,hp,I,hji,q0',q1,q13⟩;simp only at hHd q0' q1 q13;have T:=S.upd hp.1;rw[<- hHd]at T;have Ib:=I.2.2.1;have Ia:=I.1;have Ij:=I.2.1;have jn:j<n:=by omega
 have bj:(j:Int)<n:=by omega
 have pl:=hp.len;rw[S.hl]at pl;refine W.seq ?_;refine W.draw 14 [0,0,0,0,0,0,48,112,0,0,768,1792,4083,8179] Try.mixed (by kernel_rfl) (by kernel_rfl) ?_;simp only[go_sem,q0',q1,q13,T.live,T.len,T.cell (show a<n by omega),T.cell jn,ba,bj,T.s1 jn,T.s2 (i:=j) (show a<n by omega),T.ir,T.iu];refine⟨by omega,by omega,?_⟩;rw[T.u2];refine W.vs ?_;simp only[go_sem,q13];rw[hHd,dF];exact av.mk (Nat.le_refl _) (hK _ j false (hp.trans (.swap (by omega) (by omega) (Nat.le_refl _) (by omega) (by rw[pl];exact hb))) (I.done hji (by rw[pl];exact hb)) (by omega) Ib)
end
end Go.Proofs
namespace Go.Proofs
open Go.Hx
theorem cV.snoc {f:Nat->Nat}{q:List Nat}{a i:Nat}(h:cV f q a i)(ha:a<i)(hi:¬ f (q.getD i 0)<f (q.getD (i - 1) 0)):cV f q a (i+1):=fun x y h1 h2 h3=>by
 by_cases hy:y=i
 ·subst hy;by_cases hx:x=y - 1
  ·rw[hx];omega
  ·have:=h x (y - 1) h1 (by omega) (by omega);omega
 ·exact h x y h1 h2 (by omega)
theorem cV.keep {f:Nat->Nat}{q p:List Nat}{a i b:Nat}(h:cV f q a i)(hp:aW i b q p):cV f p a i:=fun x y h1 h2 h3=>by
 rw[hp.2 x (by omega),hp.2 y (by omega)];exact h x y h1 h2 h3
section
variable {cv:AVal} {f:Nat->Nat} {rid:Nat} {rb:Blk} {id g n a b:Nat} {l:List Nat} {H:AHeap}
set_option maxHeartbeats 16000000 in
theorem O5 (S:SH cv f rid rb id g n l H)(hab:a<b)(hb:b<=n)(hB:Bl f l a b)(K:ARes->AHeap->Prop)(hK:∀ q fl,aW a b l q->(fl=true->cV f q a b)->K (.ret (.lit (.bool fl))) (H.upd id (nB g q))):
  ae Try.prog G0 101 [.own id g 0 n 1,aa a,aa b,cv] H K:=by
 have hn:=S.hn;have w0:IntKind.i64.wrap ((a:Int)+1)=((a+1:Nat):Int):=by rw[Rw _ (by omega)];omega
 refine ae.cX (n:=141) (rs:=[.tmp 8]) Try.func101 rfl rfl rfl (by decide) (by simp) ?_;refine W.sq ?_;simp only[go_sem];refine W.sq ?_;simp only[go_sem,w0];refine W.sq ?_;simp only[go_sem];refine W.en (fun E=>E 0=.own id g 0 n 1 /\ E 1=aa a /\ E 2=aa b /\ E 3=cv /\ E 9=aa ((a+1:Nat):Int) /\ E 10=aa 0) (by simp only[go_sem]) fun E ⟨e0,e1,e2,e3,e9,e10⟩=>?_
 refine W.aI 2787593149816327892691964784081045188222720 (by kernel_rfl) (fun ρ Hx=>∃ (c i:Nat) (q:List Nat),ρ 9=aa i/\ρ 10=aa c/\c<=5/\a<i/\i<=b/\aW a b l q/\cV f q a i/\Hx=H.upd id (nB g q)) (fun ρ Hx=>5 - (iv (ρ 10)).toNat) ?_ ?_
 ·exact⟨0,a+1,l,e9,e10,by omega,by omega,by omega,.refl _ _ _,fun x y h1 h2 h3=>by omega,S.self.symm⟩
 rintro ρ Hx ⟨c,i,q,h9,h10,hc5,hai,hib,hp,hS,hHx⟩;refine W.en (fun F=>F 0=.own id g 0 n 1 /\ F 1=aa a /\ F 2=aa b /\ F 3=cv /\ F 9=aa i /\ F 10=aa c) (by simp only[go_sem,e0,e1,e2,e3,h9,h10]) fun F ⟨d0,d1,d2,d3,d9,d10⟩=>?_
 by_cases hc:(c:Int)<5;rotate_left
 ·refine W.vs ?_;simp only[go_sem,d10,hc];rw[hHx];refine W.vs ?_;simp only[go_sem];exact av.mk (Nat.le_refl _) (hK q false hp fun h=>by cases h)
 have T:=S.upd hp.1;rw[<- hHx]at T;have wc:=Rw ((c:Int)+1) (by omega);refine W.sq ?_;simp only[go_sem,d10,hc];refine W.seq (W.block ?_);refine W.cu (fun s'=>s'.H=Hx/\s'.ρ 0=.own id g 0 n 1/\s'.ρ 1=aa a/\s'.ρ 2=aa b/\s'.ρ 3=cv/\s'.ρ 10=aa c/\∃ u:Nat,s'.ρ 9=aa u/\a<u/\u<=b/\cV f q a u/\(u<b->f (q.getD u 0)<f (q.getD (u - 1) 0))) ?_ ?_
 ·refine W.block ?_;refine W.aI 549755290112 (by kernel_rfl) (fun ρ Hk=>Hk=Hx/\∃ u:Nat,ρ 9=aa u/\a<u/\u<=b/\cV f q a u) (fun ρ _=>b - (iv (ρ 9)).toNat) ?_ ?_
  ·exact⟨rfl,i,by simp only[go_sem,d9],hai,hib,hS⟩
  rintro ρk Hk ⟨hHk,u,hu,u1,u2,u3⟩;rw[hHk];refine W.en (fun J=>J 0=.own id g 0 n 1 /\ J 1=aa a /\ J 2=aa b /\ J 3=cv /\ J 9=aa u /\ J 10=aa c) (by simp only[go_sem,d0,d1,d2,d3,hu,d10]) fun J ⟨m0,m1,m2,m3,m9,m10⟩=>?_
  refine W.seq (W.cu (fun s'=>s'.H=Hx/\s'.ρ 0=.own id g 0 n 1/\s'.ρ 1=aa a/\s'.ρ 2=aa b/\s'.ρ 3=cv/\s'.ρ 9=aa u/\s'.ρ 10=aa c/\s'.ρ 36=.lit (.bool (decide (u<b) && !decide (f (q.getD u 0)<f (q.getD (u - 1) 0))))) ?_ ?_)
  ·refine W.draw 14 [0,0,3,7,15,15,15,111,239,15,15,1039,3599,7695] Try.mixed (by kernel_rfl) (by kernel_rfl) ?_;by_cases hub:(u:Int)<b
   ·have b1:(u:Int)<n:=(by omega);have b2:((u - 1:Nat):Int)<n:=(by omega);have wj:IntKind.i64.wrap ((u:Int) - 1)=((u - 1:Nat):Int):=(by rw[Rw _ (by omega)];omega);simp only[go_sem,m0,m2,m3,m9,T.live,hub,wj,T.cell (show u<n by omega),T.cell (show u - 1<n by omega),b1,b2];obtain⟨z,hz,hcc⟩:=T.ask (show u<n by omega) (show u - 1<n by omega);refine hcc _ ⟨trivial,?_⟩;have hd1:decide (u<b)=true:=RN (by omega);rw[hd1];by_cases hlt:f (q.getD u 0)<f (q.getD (u - 1) 0)
    ·have hlt':=hz.2 hlt;simp only[go_sem,m0,m1,m2,m3,m9,m10,hlt',hlt]
     try rfl
    ·have hlt':¬ z<0:=fun h=>hlt (hz.1 h);simp only[go_sem,m0,m1,m2,m3,m9,m10,hlt',hlt]
     try rfl
   ·simp only[go_sem,m0,m1,m2,m3,m9,m10,hub];have hj0:decide (u<b)=false:=Sk (by omega);rw[hj0];rfl
  rintro⟨ρ3,Hs⟩ ⟨hHs,v0,v1,v2,v3,v9,v10,vc⟩;simp only at hHs v0 v1 v2 v3 v9 v10 vc;rw[hHs];clear hHs Hs;cases hfl:(decide (u<b) && !decide (f (q.getD u 0)<f (q.getD (u - 1) 0))) with
  | false =>
   rw[hfl]at vc;refine W.cond (t:=false) vc ?_;refine W.vs ?_;simp only[go_sem];refine⟨v0,v1,v2,v3,v10,u,v9,u1,u2,u3,fun h=>?_⟩;rw[RN h,Ur,Um,Su]at hfl;exact hfl
  | true =>
   rw[hfl]at vc;refine W.cond (t:=true) vc ?_;have hfl2:u<b/\¬ f (q.getD u 0)<f (q.getD (u - 1) 0):=(by simpa using hfl);have wx:=Rw ((u:Int)+1) (by omega);refine W.vs ?_;simp only[go_sem];refine W.vs ?_;simp only[go_sem,v9,wx];exact⟨⟨u+1,rfl,by omega,by omega,u3.snoc u1 hfl2.2⟩,by rw[hu];simp only[aa,aM];omega⟩
 rintro⟨ρa,Ha⟩ ⟨hHa,a0,a1,a2,a3,a10,u,a9,u1,u2,u3,u4⟩;simp only at hHa a0 a1 a2 a3 a10 a9;rw[hHa];clear hHa Ha hS;by_cases hub:(u:Int)=b
 ·refine W.sq ?_;simp only[go_sem,a9,a2,hub];rw[hHx];exact av.mk (Nat.le_refl _) (hK q true hp fun _=>by rw[show b=u by omega];exact u3)
 have wba:=Rw ((b:Int) - (a:Int)) (by omega);by_cases h50:(b:Int) - a<50
 ·refine W.sq ?_;simp only[go_sem,a9,a2,hub];refine W.sq ?_;simp only[go_sem,a1,a2,wba,h50];rw[hHx];exact av.mk (Nat.le_refl _) (hK q false hp fun h=>by cases h)
 have hlt0:=u4 (by omega);have wu:IntKind.i64.wrap ((u:Int) - 1)=((u - 1:Nat):Int):=by rw[Rw _ (by omega)];omega
 have bu:(u:Int)<n:=by omega
 have bu1:((u - 1:Nat):Int)<n:=by omega
 have pl:=hp.len;rw[S.hl]at pl;refine W.sq ?_;simp only[go_sem,a9,a2,hub];refine W.sq ?_;simp only[go_sem,a1,a2,wba,h50];refine W.seq ?_;refine W.draw 16 [0,0,0,0,8,0,0,64,224,480,0,0,3072,7168,16355,32739] Try.mixed (by kernel_rfl) (by kernel_rfl) ?_;simp only[go_sem,a0,a9,T.live,T.len,wu,T.cell (show u<n by omega),T.cell (show u - 1<n by omega),bu,bu1,T.s1 (show u<n by omega),T.s2 (i:=u) (show u - 1<n by omega),T.ir,T.iu];refine⟨by omega,by omega,?_⟩;rw[T.u2,hHx,dF];obtain⟨q1,hq1⟩:∃ q1,q1=bR q u (u - 1):=⟨_,rfl⟩
 have pq1:aW (u - 1) (u+1) q q1:=by rw[hq1];exact .swap (by omega) (by omega) (Nat.le_refl _) (by omega) (by omega)
 rw[<- hq1];have hp1:aW a b l q1:=hp.trans (pq1.mono (by omega) (by omega));have hS1:cV f q1 a (u - 1):=(show cV f q a (u - 1) from fun x y h1 h2 h3=>u3 x y h1 h2 (by omega)).keep pq1;clear hq1 pq1;refine W.env fun M hM=>?_;have r0:M 0=.own id g 0 n 1:=by rw[hM];simp only[go_sem,a0]
 have r1:M 1=aa a:=by rw[hM];simp only[go_sem,a1]
 have r2:M 2=aa b:=by rw[hM];simp only[go_sem,a2]
 have r3:M 3=cv:=by rw[hM];simp only[go_sem,a3]
 have r9:M 9=aa u:=by rw[hM];simp only[go_sem,a9]
 have r10:M 10=aa c:=by rw[hM];simp only[go_sem,a10]
 clear hM;have wua:=Rw ((u:Int) - (a:Int)) (by omega);refine W.seq ?_;refine W.cu (fun s'=>s'.H=H.upd id (nB g q1)/\s'.ρ 0=.own id g 0 n 1/\s'.ρ 1=aa a/\s'.ρ 2=aa b/\s'.ρ 3=cv/\s'.ρ 9=aa u/\s'.ρ 10=aa c/\s'.ρ 65=.lit (.bool (decide ((2:Int)<=(u:Int) - a)))) ?_ ?_
 ·refine W.vs ?_;simp only[go_sem,r0,r1,r2,r3,r9,r10,wua]
 rintro⟨ρb,Hb⟩ ⟨hHb,c0,c1,c2,c3,c9,c10,c65⟩;simp only at hHb c0 c1 c2 c3 c9 c10 c65;rw[hHb];clear hHb Hb;have T1:=S.upd hp1.1;refine W.mono (Q:=fun ax s'=>ax=.normal/\s'.ρ 0=.own id g 0 n 1/\s'.ρ 1=aa a/\s'.ρ 2=aa b/\s'.ρ 3=cv/\s'.ρ 9=aa u/\s'.ρ 10=aa c/\∃ p,aW a b l p/\cV f p a u/\s'.H=H.upd id (nB g p)) ?_ ?_
 ·by_cases h2:(2:Int)<=(u:Int) - a;rotate_left
  ·refine W.cond (t:=false) (by rw[show af G0 ρb (.tmp 65)=ρb 65 from rfl,c65,Sk h2]) ?_;refine W.vs ?_;simp only[go_sem];exact⟨c0,c1,c2,c3,c9,c10,q1,hp1,fun x y x1 x2 x3=>by omega,rfl⟩
  refine W.cond (t:=true) (by rw[show af G0 ρb (.tmp 65)=ρb 65 from rfl,c65,RN h2]) ?_;refine W.sq ?_;simp only[go_sem,c9,wu];refine W.en (fun E4=>E4 0=.own id g 0 n 1 /\ E4 1=aa a /\ E4 2=aa b /\ E4 3=cv /\ E4 9=aa u /\ E4 10=aa c /\ E4 11=aa ((u - 1:Nat):Int)) (by simp only[go_sem,c0,c1,c2,c3,c9,c10]) fun E4 ⟨k0,k1,k2,k3,k9,k10,k11⟩=>?_
  refine W.block ?_;refine W.aI 2535301200161310897814053586944 (by kernel_rfl) (fun ρ Hz=>∃ (j:Nat) (p:List Nat),ρ 11=aa j/\a<=j/\j<=u - 1/\aW a b l p/\kG f p a (u - 1) j/\Hz=H.upd id (nB g p)) (fun ρ Hz=>(iv (ρ 11)).toNat) ?_ ?_
  ·exact⟨u - 1,q1,k11,by omega,Nat.le_refl _,hp1,.start hS1,rfl⟩
  rintro ρ2 Hz ⟨j,p,h11,haj,hj,hpp,hIn,hHz⟩;refine W.en (fun E5=>E5 0=.own id g 0 n 1 /\ E5 1=aa a /\ E5 2=aa b /\ E5 3=cv /\ E5 9=aa u /\ E5 10=aa c /\ E5 11=aa j) (by simp only[go_sem,k0,k1,k2,k3,k9,k10,h11]) fun E5 ⟨m0,m1,m2,m3,m9,m10,m11⟩=>?_
  have Tz:=S.upd hpp.1;rw[<- hHz]at Tz;have stop:(j<=a\/f (p.getD (j - 1) 0)<=f (p.getD j 0))->cV f p a u:=fun h=>by
   have:=hIn.done hj h
   rwa [show u - 1+1=u by omega]at this
  by_cases hj1:(j:Int) >= 1;rotate_left
  ·refine W.vs ?_;simp only[go_sem,m11,hj1];exact⟨m0,m1,m2,m3,m9,m10,p,hpp,stop (.inl (by omega)),hHz⟩
  have wj:IntKind.i64.wrap ((j:Int) - 1)=((j - 1:Nat):Int):=by rw[Rw _ (by omega)];omega
  have jn:j<n:=by omega
  have b1:(j:Int)<n:=by omega
  have b2:((j - 1:Nat):Int)<n:=by omega
  refine W.sq ?_;simp only[go_sem,m11,hj1];refine W.seq (W.block ?_);refine W.seq (W.cu (fun s'=>s'.H=Hz/\s'.ρ 0=.own id g 0 n 1/\s'.ρ 1=aa a/\s'.ρ 2=aa b/\s'.ρ 3=cv/\s'.ρ 9=aa u/\s'.ρ 10=aa c/\s'.ρ 11=aa j/\s'.ρ 84=.lit (.bool (!decide (f (p.getD j 0)<f (p.getD (j - 1) 0))))) ?_ ?_)
  ·refine W.draw 10 [0,0,0,6,14,0,0,64,224,480] Try.mixed (by kernel_rfl) (by kernel_rfl) ?_;simp only[go_sem,m0,m3,m11,Tz.live,wj,Tz.cell jn,Tz.cell (show j - 1<n by omega),b1,b2];obtain⟨z,hz,hcc⟩:=Tz.ask jn (show j - 1<n by omega);refine hcc _ ⟨trivial,?_⟩;by_cases hlt:f (p.getD j 0)<f (p.getD (j - 1) 0)
   ·have hlt':=hz.2 hlt;simp only[go_sem,m0,m1,m2,m3,m9,m10,m11,hlt',hlt]
   ·have hlt':¬ z<0:=fun h=>hlt (hz.1 h);simp only[go_sem,m0,m1,m2,m3,m9,m10,m11,hlt',hlt]
  rintro⟨ρ3,Hs⟩ ⟨hHs,v0,v1,v2,v3,v9,v10,v11,vc⟩;simp only at hHs v0 v1 v2 v3 v9 v10 v11 vc;rw[hHs];clear hHs Hs;by_cases hlt:f (p.getD j 0)<f (p.getD (j - 1) 0);rotate_left
  ·rw[Sk hlt]at vc;refine W.cond (t:=true) vc ?_;refine W.vs ?_;simp only[go_sem];exact⟨v0,v1,v2,v3,v9,v10,p,hpp,stop (.inr (by omega)),hHz⟩
  rw[RN hlt]at vc;have haj2:a<j:=by
   rcases RP a j with h|h
   ·exact h
   ·have e:j=a:=(by omega);rcases hB.perm hpp (by rw[S.hl];exact hb) with h3|h3
    ·omega
    ·have:=h3 j (by omega) (by omega);rw[e]at this hlt;omega
  have pl2:=hpp.len;rw[S.hl]at pl2;refine W.cond (t:=false) vc ?_;refine W.vs ?_;simp only[go_sem];refine W.draw 16 [0,0,0,0,8,0,0,64,224,480,0,0,3072,7168,16355,32739] Try.mixed (by kernel_rfl) (by kernel_rfl) ?_;simp only[go_sem,v0,v11,Tz.live,Tz.len,wj,Tz.cell jn,Tz.cell (show j - 1<n by omega),b1,b2,Tz.s1 jn,Tz.s2 (i:=j) (show j - 1<n by omega),Tz.ir,Tz.iu];refine⟨by omega,by omega,?_⟩
  try rw[Tz.u2]
  refine W.vs ?_;simp only[go_sem,v11,wj];refine⟨by simp only[aL];rw[hHz];exact Nat.le_refl _,⟨j - 1,bR p j (j - 1),rfl,by omega,by omega,hpp.trans (.swap (by omega) (by omega) (by omega) (by omega) (by rw[pl2];exact hb)),hIn.step hj (by omega) haj2 hlt,?_⟩,by rw[h11];simp only[aa,aM];omega⟩;rw[hHz,dF]
 rintro ax ⟨ρc,Hc⟩ ⟨hax,x0,x1,x2,x3,x9,x10,p,hpp,hSp,hHc⟩;simp only at x0 x1 x2 x3 x9 x10 hHc;subst hax;rw[hHc];clear hHc Hc hp1 hS1 T1;have wbu:=Rw ((b:Int) - (u:Int)) (by omega);refine W.cu (fun s'=>s'.H=H.upd id (nB g p)/\s'.ρ 0=.own id g 0 n 1/\s'.ρ 2=aa b/\s'.ρ 3=cv/\s'.ρ 9=aa u/\s'.ρ 10=aa c/\s'.ρ 104=.lit (.bool (decide ((2:Int)<=(b:Int) - u)))) ?_ ?_
 ·refine W.vs ?_;simp only[go_sem,x0,x2,x3,x9,x10,wbu]
 rintro⟨ρd,Hd⟩ ⟨hHd,c0,c2,c3,c9,c10,c104⟩;simp only at hHd c0 c2 c3 c9 c10 c104;rw[hHd];clear hHd Hd;refine W.mono (Q:=fun ax s'=>ax=.normal/\s'.ρ 9=aa u/\s'.ρ 10=aa c/\∃ p,aW a b l p/\cV f p a u/\s'.H=H.upd id (nB g p)) ?_ ?_
 ·by_cases h2:(2:Int)<=(b:Int) - u;rotate_left
  ·refine W.cond (t:=false) (by rw[show af G0 ρd (.tmp 104)=ρd 104 from rfl,c104,Sk h2]) ?_;refine W.vs ?_;simp only[go_sem];exact⟨c9,c10,p,hpp,hSp,rfl⟩
  refine W.cond (t:=true) (by rw[show af G0 ρd (.tmp 104)=ρd 104 from rfl,c104,RN h2]) ?_;have wu1:IntKind.i64.wrap ((u:Int)+1)=((u+1:Nat):Int):=by rw[Rw _ (by omega)];omega
  refine W.sq ?_;simp only[go_sem,c9,wu1];refine W.en (fun E4=>E4 0=.own id g 0 n 1 /\ E4 2=aa b /\ E4 3=cv /\ E4 9=aa u /\ E4 10=aa c /\ E4 12=aa ((u+1:Nat):Int)) (by simp only[go_sem,c0,c2,c3,c9,c10]) fun E4 ⟨k0,k2,k3,k9,k10,k12⟩=>?_
  refine W.block ?_;refine W.aI 2787593149654068615862751420689467177963520 (by kernel_rfl) (fun ρ Hz=>∃ (j:Nat) (p:List Nat),ρ 12=aa j/\u<j/\j<=b/\aW a b l p/\cV f p a u/\Hz=H.upd id (nB g p)) (fun ρ Hz=>b - (iv (ρ 12)).toNat) ?_ ?_
  ·exact⟨u+1,p,k12,by omega,by omega,hpp,hSp,rfl⟩
  clear hpp hSp c0 c2 c3 c9 c10 c104 x0 x1 x2 x3 x9 x10;rintro ρ2 Hz ⟨j,p,h12,huj,hj,hpp,hSp,hHz⟩;refine W.en (fun E5=>E5 0=.own id g 0 n 1 /\ E5 2=aa b /\ E5 3=cv /\ E5 9=aa u /\ E5 10=aa c /\ E5 12=aa j) (by simp only[go_sem,k0,k2,k3,k9,k10,h12]) fun E5 ⟨m0,m2,m3,m9,m10,m12⟩=>?_
  have Tz:=S.upd hpp.1;rw[<- hHz]at Tz;by_cases hjb:(j:Int)<b;rotate_left
  ·refine W.vs ?_;simp only[go_sem,m12,m2,hjb];exact⟨m9,m10,p,hpp,hSp,hHz⟩
  have wj:IntKind.i64.wrap ((j:Int) - 1)=((j - 1:Nat):Int):=by rw[Rw _ (by omega)];omega
  have wj1:=Rw ((j:Int)+1) (by omega);have jn:j<n:=by omega
  have b1:(j:Int)<n:=by omega
  have b2:((j - 1:Nat):Int)<n:=by omega
  refine W.sq ?_;simp only[go_sem,m12,m2,hjb];refine W.seq (W.block ?_);refine W.seq (W.cu (fun s'=>s'.H=Hz/\s'.ρ 0=.own id g 0 n 1/\s'.ρ 9=aa u/\s'.ρ 10=aa c/\s'.ρ 12=aa j/\s'.ρ 124=.lit (.bool (!decide (f (p.getD j 0)<f (p.getD (j - 1) 0))))) ?_ ?_)
  ·refine W.draw 10 [0,0,0,6,14,0,0,64,224,480] Try.mixed (by kernel_rfl) (by kernel_rfl) ?_;simp only[go_sem,m0,m3,m12,Tz.live,wj,Tz.cell jn,Tz.cell (show j - 1<n by omega),b1,b2];obtain⟨z,hz,hcc⟩:=Tz.ask jn (show j - 1<n by omega);refine hcc _ ⟨trivial,?_⟩;by_cases hlt:f (p.getD j 0)<f (p.getD (j - 1) 0)
   ·have hlt':=hz.2 hlt;simp only[go_sem,m0,m3,m9,m10,m12,hlt',hlt]
   ·have hlt':¬ z<0:=fun h=>hlt (hz.1 h);simp only[go_sem,m0,m3,m9,m10,m12,hlt',hlt]
  rintro⟨ρ3,Hs⟩ ⟨hHs,v0,v9,v10,v12,vc⟩;simp only at hHs v0 v9 v10 v12 vc;rw[hHs];clear hHs Hs;by_cases hlt:f (p.getD j 0)<f (p.getD (j - 1) 0);rotate_left
  ·rw[Sk hlt]at vc;refine W.cond (t:=true) vc ?_;refine W.vs ?_;simp only[go_sem];exact⟨v9,v10,p,hpp,hSp,hHz⟩
  rw[RN hlt]at vc;have pl2:=hpp.len;rw[S.hl]at pl2;have sw:aW u b p (bR p j (j - 1)):=.swap (by omega) (by omega) (by omega) (by omega) (by rw[pl2];exact hb);refine W.cond (t:=false) vc ?_;refine W.vs ?_;simp only[go_sem];refine W.draw 16 [0,0,0,0,8,0,0,64,224,480,0,0,3072,7168,16355,32739] Try.mixed (by kernel_rfl) (by kernel_rfl) ?_;simp only[go_sem,v0,v12,Tz.live,Tz.len,wj,Tz.cell jn,Tz.cell (show j - 1<n by omega),b1,b2,Tz.s1 jn,Tz.s2 (i:=j) (show j - 1<n by omega),Tz.ir,Tz.iu];refine⟨by omega,by omega,?_⟩
  try rw[Tz.u2]
  refine W.vs ?_;simp only[go_sem,v12,wj1];refine⟨by simp only[aL];rw[hHz];exact Nat.le_refl _,⟨j+1,bR p j (j - 1),rfl,by omega,by omega,hpp.trans (sw.mono (by omega) (Nat.le_refl _)),hSp.keep sw,?_⟩,by rw[h12];simp only[aa,aM];omega⟩;rw[hHz,dF]
 rintro ax ⟨ρe,He⟩ ⟨hax,y9,y10,p',hpp',hSp',hHe⟩;simp only at y9 y10 hHe;subst hax;rw[hHe];show W _ _ _ _ _ _ _;refine W.vs ?_;simp only[go_sem,y10,wc];exact⟨Nat.le_refl _,⟨c+1,u,p',y9,rfl,by omega,u1,u2,hpp',hSp',rfl⟩,by rw[h10];simp only[aa,aM];omega⟩
end
end Go.Proofs
namespace Go.Proofs
open Go.Hx
section
variable {cv:AVal} {f:Nat->Nat} {rid:Nat} {rb:Blk} {id g n a:Nat} {l:List Nat} {H:AHeap}
set_option maxHeartbeats 16000000 in
theorem CM {lo hi:Nat}(S:SH cv f rid rb id g n l H)(hb:a+hi<=n)(hl0:lo<=hi)(hh:gV f l a (lo+1) hi)(K:ARes->AHeap->Prop)(hK:∀ q,aW (a+lo) (a+hi) l q->gV f q a lo hi->K (.ret (.tup [])) (H.upd id (nB g q))):
  ae Try.prog G0 107 [.own id g 0 n 1,aa lo,aa hi,aa a,cv] H K:=by
 have hn:=S.hn;refine ae.cX (n:=82) (rs:=[]) Try.func107 rfl rfl rfl (by decide) (by simp) ?_;refine W.sq ?_;simp only[go_sem];refine W.en (fun E=>E 0=.own id g 0 n 1 /\ E 2=aa hi /\ E 3=aa a /\ E 4=cv /\ E 10=aa lo) (by simp only[go_sem]) fun E ⟨e0,e2,e3,e4,e10⟩=>?_
 refine W.block ?_;refine W.aI 4835703278458516698819584 (by kernel_rfl) (fun ρ Hx=>∃ (r:Nat) (q:List Nat),ρ 10=aa r/\lo<=r/\(r<hi\/r=lo)/\aW (a+lo) (a+hi) l q/\lV f q a lo hi r/\Hx=H.upd id (nB g q)) (fun ρ Hx=>hi+1 - (iv (ρ 10)).toNat) ?_ ?_
 ·exact⟨lo,l,e10,Nat.le_refl _,.inr rfl,.refl _ _ _,.start hh,S.self.symm⟩
 rintro ρ Hx ⟨r,q,h10,hlr,hrh,hp,hI,hHx⟩;refine W.en (fun F=>F 0=.own id g 0 n 1 /\ F 2=aa hi /\ F 3=aa a /\ F 4=cv /\ F 10=aa r) (by simp only[go_sem,e0,e2,e3,e4,h10]) fun F ⟨d0,d2,d3,d4,d10⟩=>?_
 have T:=S.upd hp.1;rw[<- hHx]at T;have wm:IntKind.i64.wrap (2*(r:Int))=((2*r:Nat):Int):=by rw[Rw _ (by omega)];omega
 have wc:IntKind.i64.wrap (((2*r:Nat):Int)+1)=((2*r+1:Nat):Int):=by rw[Rw _ (by omega)];omega
 obtain⟨c,hc⟩:∃ c,c=2*r+1:=⟨_,rfl⟩
 rw[<- hc]at wc;by_cases hce:(c:Int) >= hi
 ·refine W.block ?_;refine W.sq ?_;simp only[go_sem,d10,wm,wc];refine W.vs ?_;simp only[go_sem,d2,hce];rw[hHx];exact av.mk (Nat.le_refl _) (hK q hp (hI.done fun k k1 k2=>by unfold dO at k1;omega))
 refine W.block ?_;refine W.sq ?_;simp only[go_sem,d10,wm,wc];refine W.sq ?_;simp only[go_sem,d2,hce];refine W.en (fun J=>J 0=.own id g 0 n 1 /\ J 2=aa hi /\ J 3=aa a /\ J 4=cv /\ J 10=aa r /\ J 11=aa c) (by simp only[go_sem,d0,d2,d3,d4,d10]) fun J ⟨m0,m2,m3,m4,m10,m11⟩=>?_
 have wc1:IntKind.i64.wrap ((c:Int)+1)=((c+1:Nat):Int):=by rw[Rw _ (by omega)];omega
 have wac:IntKind.i64.wrap ((a:Int)+(c:Int))=((a+c:Nat):Int):=by rw[Rw _ (by omega)];omega
 have wac1:IntKind.i64.wrap (((a+c:Nat):Int)+1)=((a+c+1:Nat):Int):=by rw[Rw _ (by omega)];omega
 have bc:((a+c:Nat):Int)<n:=by omega
 refine W.seq (W.mono (Q:=fun ax s'=>ax=.normal/\s'.H=Hx/\s'.ρ 0=.own id g 0 n 1/\s'.ρ 2=aa hi/\s'.ρ 3=aa a/\s'.ρ 4=cv/\s'.ρ 10=aa r/\∃ d:Nat,s'.ρ 11=aa d/\dO r d/\d<hi/\∀ e,dO r e->e<hi->f (q.getD (a+e) 0)<=f (q.getD (a+d) 0)) ?_ ?_)
 ·refine W.cu (fun s'=>s'.H=Hx/\s'.ρ 0=.own id g 0 n 1/\s'.ρ 2=aa hi/\s'.ρ 3=aa a/\s'.ρ 4=cv/\s'.ρ 10=aa r/\s'.ρ 11=aa c/\s'.ρ 40=.lit (.bool (decide (c+1<hi) && decide (f (q.getD (a+c) 0)<f (q.getD (a+c+1) 0))))) ?_ ?_
  ·refine W.draw 19 [0,1,0,7,15,31,31,31,31,415,991,2015,31,31,31,24607,57375,127007,258079] Try.mixed (by kernel_rfl) (by kernel_rfl) ?_;by_cases hub:((c+1:Nat):Int)<hi
   ·have b2:((a+c+1:Nat):Int)<n:=(by omega);simp only[go_sem,m0,m2,m3,m4,m11,T.live,hub,wc1,wac,wac1,T.cell (show a+c<n by omega),T.cell (show a+c+1<n by omega),bc,b2];obtain⟨z,hz,hcc⟩:=T.ask (show a+c<n by omega) (show a+c+1<n by omega);refine hcc _ ⟨trivial,?_⟩;have hd1:decide (c+1<hi)=true:=RN (by omega);rw[hd1];by_cases hlt:f (q.getD (a+c) 0)<f (q.getD (a+c+1) 0)
    ·have hlt':=hz.2 hlt;simp only[go_sem,m0,m2,m3,m4,m10,m11,hlt',hlt]
     try rfl
    ·have hlt':¬ z<0:=fun h=>hlt (hz.1 h);simp only[go_sem,m0,m2,m3,m4,m10,m11,hlt',hlt]
     try rfl
   ·simp only[go_sem,m0,m2,m3,m4,m10,m11,hub,wc1];have hj0:decide (c+1<hi)=false:=Sk (by omega);rw[hj0];rfl
  rintro⟨ρ3,Hs⟩ ⟨hHs,v0,v2,v3,v4,v10,v11,vc⟩;simp only at hHs v0 v2 v3 v4 v10 v11 vc;rw[hHs];clear hHs Hs;cases hfl:(decide (c+1<hi) && decide (f (q.getD (a+c) 0)<f (q.getD (a+c+1) 0))) with
  | false =>
   rw[hfl]at vc;refine W.cond (t:=false) vc ?_;refine W.vs ?_;simp only[go_sem];refine⟨v0,v2,v3,v4,v10,c,v11,.inl hc,by omega,fun e e1 e2=>?_⟩;rcases e1 with e1|e1
   ·rw[show e=c by omega];exact Nat.le_refl _
   ·rw[RN (show c+1<hi by omega),Ur,SY]at hfl;rw[show a+e=a+c+1 by omega];omega
  | true =>
   rw[hfl]at vc;refine W.cond (t:=true) vc ?_;have hfl2:c+1<hi/\f (q.getD (a+c) 0)<f (q.getD (a+c+1) 0):=(by simpa using hfl);refine W.vs ?_;simp only[go_sem,v11,wc1];refine⟨v0,v2,v3,v4,v10,c+1,rfl,.inr (by omega),by omega,fun e e1 e2=>?_⟩;rcases e1 with e1|e1
   ·rw[show e=c by omega,<- Th];omega
   ·rw[show e=c+1 by omega];exact Nat.le_refl _
 rintro ax ⟨ρa,Ha⟩ ⟨hax,hHa,a0,a2,a3,a4,a10,d,a11,kd,dh,dm⟩;simp only at hHa a0 a2 a3 a4 a10 a11;subst hax;rw[hHa];clear hHa Ha;show W _ _ _ _ _ _ _;have rd:r<d:=by unfold dO at kd;omega
 have war:IntKind.i64.wrap ((a:Int)+(r:Int))=((a+r:Nat):Int):=by rw[Rw _ (by omega)];omega
 have wad:IntKind.i64.wrap ((a:Int)+(d:Int))=((a+d:Nat):Int):=by rw[Rw _ (by omega)];omega
 have br:((a+r:Nat):Int)<n:=by omega
 have bd:((a+d:Nat):Int)<n:=by omega
 have rn:a+r<n:=by omega
 have dn:a+d<n:=by omega
 refine W.seq (W.cu (fun s'=>s'.H=Hx/\s'.ρ 0=.own id g 0 n 1/\s'.ρ 3=aa a/\s'.ρ 10=aa r/\s'.ρ 11=aa d/\s'.ρ 58=.lit (.bool (!decide (f (q.getD (a+r) 0)<f (q.getD (a+d) 0))))) ?_ ?_)
 ·refine W.draw 13 [0,0,0,0,12,30,62,0,0,0,768,1920,3968] Try.mixed (by kernel_rfl) (by kernel_rfl) ?_;simp only[go_sem,a0,a3,a4,a10,a11,T.live,war,wad,T.cell rn,T.cell dn,br,bd];obtain⟨z,hz,hcc⟩:=T.ask rn dn;refine hcc _ ⟨trivial,?_⟩;by_cases hlt:f (q.getD (a+r) 0)<f (q.getD (a+d) 0)
  ·have hlt':=hz.2 hlt;simp only[go_sem,a0,a3,a4,a10,a11,hlt',hlt]
  ·have hlt':¬ z<0:=fun h=>hlt (hz.1 h);simp only[go_sem,a0,a3,a4,a10,a11,hlt',hlt]
 rintro⟨ρ4,Hs⟩ ⟨hHs,v0,v3,v10,v11,vc⟩;simp only at hHs v0 v3 v10 v11 vc;rw[hHs];clear hHs Hs;by_cases hlt:f (q.getD (a+r) 0)<f (q.getD (a+d) 0);rotate_left
 ·rw[Sk hlt]at vc;refine W.cond (t:=true) vc ?_;refine W.vs ?_;simp only[go_sem];rw[hHx];exact av.mk (Nat.le_refl _) (hK q hp (hI.done fun e e1 e2=>by have:=dm e e1 e2;omega))
 rw[RN hlt]at vc;have pl:=hp.len;rw[S.hl]at pl;refine W.cond (t:=false) vc ?_;refine W.vs ?_;simp only[go_sem];refine W.seq ?_;refine W.draw 22 [0,0,0,6,0,0,0,96,0,0,0,1536,3840,7936,0,0,0,98304,245760,507904,1048335,2096911] Try.mixed (by kernel_rfl) (by kernel_rfl) ?_;simp only[go_sem,v0,v3,v10,v11,T.live,T.len,war,wad,T.cell rn,T.cell dn,br,bd,T.s1 rn,T.s2 (i:=a+r) dn,T.ir,T.iu];refine⟨by omega,by omega,?_⟩
 try rw[T.u2]
 refine W.vs ?_;simp only[go_sem,v11];refine⟨by simp only[aL];rw[hHx];exact Nat.le_refl _,⟨d,bR q (a+r) (a+d),rfl,by omega,.inl dh,hp.trans (.swap (by omega) (by omega) (by omega) (by omega) (by omega)),hI.step hlr (by omega) kd dh dm (T7 hlt),?_⟩,by rw[h10];simp only[aa,aM];omega⟩;rw[hHx,dF]
end
end Go.Proofs
namespace Go.Proofs
open Go.Hx
section
variable {cv:AVal} {f:Nat->Nat} {rid:Nat} {rb:Blk} {id g n a b:Nat} {l:List Nat} {H:AHeap}
set_option maxHeartbeats 16000000 in
theorem O6 (S:SH cv f rid rb id g n l H)(hab:a<b)(hb:b<=n)(K:ARes->AHeap->Prop)(hK:∀ q,aW a b l q->cV f q a b->K (.ret (.tup [])) (H.upd id (nB g q))):
  ae Try.prog G0 97 [.own id g 0 n 1,aa a,aa b,cv] H K:=by
 have hn:=S.hn;have w0:IntKind.i64.wrap ((b:Int) - (a:Int))=((b - a:Nat):Int):=by rw[Rw _ (by omega)];omega
 have w1:IntKind.i64.wrap (((b - a:Nat):Int) - 1)=((b - a - 1:Nat):Int):=by rw[Rw _ (by omega)];omega
 have w2:(((b - a - 1:Nat):Int)).tdiv 2=(((b - a - 1) / 2:Nat):Int):=by rw[Sj (by omega)];push_cast;rfl
 have w3:IntKind.i64.wrap (((b - a - 1) / 2:Nat):Int)=(((b - a - 1) / 2:Nat):Int):=Rw _ (by omega);refine ae.cX (n:=60) (rs:=[]) Try.func97 rfl rfl rfl (by decide) (by simp) ?_;refine W.sq ?_;simp only[go_sem];refine W.sq ?_;simp only[go_sem];refine W.sq ?_;simp only[go_sem,w0];refine W.sq ?_;simp only[go_sem,w1,w2,w3];refine W.en (fun E=>E 0=.own id g 0 n 1 /\ E 3=cv /\ E 8=aa a /\ E 9=aa 0 /\ E 10=aa ((b - a:Nat):Int) /\ E 11=aa (((b - a - 1) / 2:Nat):Int)) (by simp only[go_sem]) fun E ⟨e0,e3,e8,e9,e10,e11⟩=>?_
 refine W.aI 1072695296 (by kernel_rfl) (fun ρ Hx=>∃ (k:Nat) (q:List Nat),ρ 11=aa ((k:Int) - 1)/\k<=b - a/\aW a b l q/\gV f q a k (b - a)/\Hx=H.upd id (nB g q)) (fun ρ Hx=>(iv (ρ 11)+1).toNat) ?_ ?_
 ·exact⟨(b - a - 1) / 2+1,l,e11.trans (by congr 3;omega),by omega,.refl _ _ _,.O1 (by omega),S.self.symm⟩
 rintro ρ Hx ⟨k,q,h11,hk,hp,hh,hHx⟩;refine W.en (fun F=>F 0=.own id g 0 n 1 /\ F 3=cv /\ F 8=aa a /\ F 9=aa 0 /\ F 10=aa ((b - a:Nat):Int) /\ F 11=aa ((k:Int) - 1)) (by simp only[go_sem,e0,e3,e8,e9,e10,h11]) fun F ⟨d0,d3,d8,d9,d10,d11⟩=>?_
 have T:=S.upd hp.1;rw[<- hHx]at T;by_cases hk0:(k:Int) - 1 >= 0
 ·obtain⟨i,rfl⟩:∃ i,k=i+1:=⟨k - 1,by omega⟩
  have ei:((i+1:Nat):Int) - 1=(i:Int):=by omega
  rw[ei]at d11 hk0 h11;have wi:=Rw ((i:Int) - 1) (by omega);refine W.sq ?_;simp only[go_sem,d11,hk0];refine W.seq (W.block ?_);refine W.vs ?_;simp only[go_sem,d0,d3,d8,d10,d11];refine az.clo (CM (hi:=b - a) T (by omega) (by omega) hh _ fun q' hq' hh'=>⟨trivial,?_⟩);simp only[go_sem];refine W.vs ?_;simp only[go_sem,d11,wi];refine⟨by rw[hHx];exact Nat.le_refl _,⟨i,q',rfl,by omega,hp.trans (hq'.mono (by omega) (by omega)),hh',?_⟩,by rw[h11];simp only[aa,aM];omega⟩;rw[hHx,dF]
 refine W.vs ?_;simp only[go_sem,d11,hk0];obtain rfl:k=0:=by omega
 refine W.sq ?_;simp only[go_sem,d10,w1];refine W.en (fun J=>J 0=.own id g 0 n 1 /\ J 3=cv /\ J 8=aa a /\ J 9=aa 0 /\ J 10=aa ((b - a:Nat):Int) /\ J 12=aa ((b - a - 1:Nat):Int)) (by simp only[go_sem,d0,d3,d8,d9,d10]) fun J ⟨m0,m3,m8,m9,m10,m12⟩=>?_
 refine W.block ?_;refine W.aI 1152921500311883776 (by kernel_rfl) (fun ρ Hz=>∃ (k:Nat) (p:List Nat),ρ 12=aa ((k:Int) - 1)/\k<=b - a/\aW a b l p/\gV f p a 0 k/\lY f p a (a+k) b/\Hz=H.upd id (nB g p)) (fun ρ Hz=>(iv (ρ 12)+1).toNat) ?_ ?_
 ·exact⟨b - a,q,m12.trans (by congr 3;omega),Nat.le_refl _,hp,hh,by rw[show a+(b - a)=b by omega];exact .start,hHx⟩
 rintro ρ2 Hz ⟨k,p,h12,hkb,hpp,hhp,hPI,hHz⟩;refine W.env fun M hM=>?_;have u0:M 0=.own id g 0 n 1:=by rw[hM];simp only[go_sem,m0]
 have u3:M 3=cv:=by rw[hM];simp only[go_sem,m3]
 have u8:M 8=aa a:=by rw[hM];simp only[go_sem,m8]
 have u9:M 9=aa 0:=by rw[hM];simp only[go_sem,m9]
 have u10:M 10=aa ((b - a:Nat):Int):=by rw[hM];simp only[go_sem,m10]
 have u12:M 12=aa ((k:Int) - 1):=by rw[hM];simp only[go_sem,h12]
 clear hM;have Tz:=S.upd hpp.1;rw[<- hHz]at Tz;by_cases hk1:(k:Int) - 1 >= 0;rotate_left
 ·refine W.vs ?_;simp only[go_sem,u12,hk1];obtain rfl:k=0:=by omega
  rw[hHz];exact av.mk (Nat.le_refl _) (hK p hpp hPI.done)
 obtain⟨i,rfl⟩:∃ i,k=i+1:=⟨k - 1,by omega⟩
 have ei:((i+1:Nat):Int) - 1=(i:Int):=by omega
 rw[ei]at u12 hk1 h12;have wi:=Rw ((i:Int) - 1) (by omega);have wai:IntKind.i64.wrap ((a:Int)+(i:Int))=((a+i:Nat):Int):=by rw[Rw _ (by omega)];omega
 have an:a<n:=by omega
 have ain:a+i<n:=by omega
 have ba:(a:Int)<n:=by omega
 have bai:((a+i:Nat):Int)<n:=by omega
 have pl:=hpp.len;rw[S.hl]at pl;refine W.sq ?_;simp only[go_sem,u12,hk1];refine W.seq (W.block (W.seq ?_));refine W.draw 18 [0,0,0,0,0,24,0,0,0,384,960,1984,0,0,12288,28672,65475,131011] Try.mixed (by kernel_rfl) (by kernel_rfl) ?_;simp only[go_sem,u0,u8,u12,Tz.live,Tz.len,wai,Tz.cell an,Tz.cell ain,ba,bai,Tz.s1 an,Tz.s2 (i:=a) ain,Tz.ir,Tz.iu];refine⟨by omega,by omega,?_⟩
 try rw[Tz.u2]
 have sw:aW a b p (bR p a (a+i)):=.swap (Nat.le_refl _) (by omega) (by omega) (by omega) (by omega);have Ts:=Tz.upd sw.1;refine W.vs ?_;simp only[go_sem,u0,u3,u8,u9,u12];refine az.clo (CM (lo:=0) (hi:=i) Ts (by omega) (by omega) (hhp.pop (by omega)) _ fun q' hq' hh'=>⟨trivial,?_⟩);simp only[go_sem];refine W.vs ?_;simp only[go_sem,u12,wi];refine⟨by simp only[aL];rw[hHz,hHx];exact Nat.le_refl _,⟨i,q',rfl,by omega,hpp.trans (sw.trans (hq'.mono (by omega) (by omega))),hh',hPI.step hhp (by omega) (by omega) hq',?_⟩,by rw[h12];simp only[aa,aM];omega⟩;rw[hHz,dF,dF]
end
end Go.Proofs
namespace Go.Hx
theorem O7 {P:Program}{t:TypeId}{x y:Operand}{k':IntKind}{a:Nat}:aV P .shr t x y (.lit (.int .u64 (a:Int))) (.lit (.int k' 8))=some (.lit (.int .u64 ((a / 256:Nat):Int))):=by
 rw[rD (by decide)];have e:(a:Int).fdiv (2 ^ (min (8:Int).toNat (IntKind.bits .u64)))=((a / 256:Nat):Int):=by
  rw[UV _ (by exact_mod_cast Ud _)]
  push_cast
  rfl
 rw[e]
theorem Clo.O8 {H:AHeap}(hc:Clo H){id:Nat}(hi:id<H.next)(g:Nat)(e:TypeId)(x:List Int):Clo (H.upd id (.arr g e (ints x))):=by
 refine⟨fun j b hb=>?_,fun j b hb=>?_⟩
 ·rw[aj]at hb;split at hb
  ·rename_i h;rw[h];exact hi
  ·exact hc.lt j b hb
 ·rw[aj]at hb;split at hb
  ·cases hb;exact fun i hi=>by simp only[ints,RQ];exact .lit _
  ·exact hc.below j b hb
end Go.Hx
namespace Go.Proofs
open Go.Hx
def CN (s:ByteArray):Bool:=s.size == 256 && (List.range 256).all fun i=>Nat.ble (s[i]!).toNat 8 && (i == 0 || (Nat.ble 1 (s[i]!).toNat && Nat.ble (2 ^ ((s[i]!).toNat - 1)) i))
theorem CO {s:ByteArray}{i:Nat}{F:AVal->Prop}(hs:CN s=true)(h0:i≠0)(hi:i<256)(h:∀ L:Nat,L<=8->1<=L->2 ^ (L - 1)<=i->F (.lit (.int .u8 (L:Int)))):aR (kV Try.prog 9 (.lit (.string s)) (.lit (.int .u8 (i:Int)))) F:=by
 unfold CN at hs;rw[RU,Sg]at hs;have h1:=hs.2 i (RK.2 hi);have hz:s.size=256:=by simpa using hs.1
 have ix:kV Try.prog 9 (.lit (.string s)) (.lit (.int .u8 (i:Int)))=some (.lit (.int .u8 (((s[i]!).toNat:Nat):Int))):=by
  unfold kV;simp only[];have e1:s[i]?=some s[i]!:=by
   rw[getElem!_pos s i (by omega)];exact getElem?_pos s i (by omega)
  have ht:Try.prog.underlying 9=some .string:=Try.underlying9;simp [Instr.index,asIntOf,underlying,program,ht,cB,bind,Sem.bind,pure,e1]
 rw[ix,lh];simp only[RU,TK,beq_iff_eq]at h1;have b2:=SL h1.1;rcases h1.2 with h2|h2
 ·exact absurd h2 h0
 ·exact h _ b2 (SL h2.1) (SL h2.2)
theorem O9 {n:Nat}(h1:1<=n)(hn:n<=1024)(H:AHeap)(K:ARes->AHeap->Prop)(hK:∀ L:Nat,L<=16->2 ^ L<=2*n->K (.ret (aa L)) H):ae Try.prog G0 105 [.lit (.int .u64 (n:Int))] H K:=by
 have g1:¬ (4294967296:Int)<=(n:Int):=by omega
 have g2:¬ (65536:Int)<=(n:Int):=by omega
 have wr:∀ i:Nat,i<256->IntKind.u8.wrap ((i:Nat):Int)=(i:Int):=fun i hi=>by simp [IntKind.wrap,IntKind.bits,IntKind.signed];omega
 have k8:IntKind.i64.wrap 8=8:=by decide
 have pw:∀ L,1<=L->2 ^ L=2*2 ^ (L - 1):=fun L h=>by rw[show L=(L - 1)+1 by omega,Nat.pow_succ,Nat.add_sub_cancel,Ux]
 refine ae.cX (n:=25) (rs:=[.tmp 2]) Try.func105 rfl rfl rfl (by decide) (by simp) ?_;refine W.sq ?_;simp only[go_sem];refine W.sq ?_;simp only[go_sem,g1];refine W.sq ?_;simp only[go_sem,g2];by_cases g3:(256:Int)<=(n:Int)
 ·have ww:=wr (n / 256) (by omega);refine W.sq ?_;simp only[go_sem,g3,O7,k8];refine W.vs ?_;simp only[go_sem,ww];refine CO (by kernel_rfl) (by omega) (by omega) fun L hL h1L h2L=>?_;have w:=Rw (8+(L:Int)) (by omega);have w0:=Rw (L:Int) (by omega);simp only[go_sem,w0,w];have e:8+(L:Int)=((8+L:Nat):Int):=by omega
  rw[e];refine av.mk (Nat.le_refl _) (hK _ (by omega) ?_);rw[Nat.pow_add,pw L h1L];omega
 ·have ww:=wr n (by omega);refine W.sq ?_;simp only[go_sem,g3];refine W.vs ?_;simp only[go_sem,ww];refine CO (by kernel_rfl) (by omega) (by omega) fun L hL h1L h2L=>?_;have w:IntKind.i64.wrap (0+(L:Int))=(L:Int):=by rw[Ul];exact Rw (L:Int) (by omega)
  have w0:=Rw (L:Int) (by omega);simp only[go_sem,w0,w];refine av.mk (Nat.le_refl _) (hK _ (by omega) ?_);rw[pw L h1L];omega
theorem CP {n:Nat}(h1:1<=n)(hn:n<=1024)(H:AHeap)(K:ARes->AHeap->Prop)(hK:∀ L:Nat,L<=16->2 ^ L<=2*n->K (.ret (aa L)) H):ae Try.prog G0 93 [.lit (.int .u64 (n:Int))] H K:=by
 refine ae.cX (n:=8) (rs:=[.tmp 2]) Try.func93 rfl rfl rfl (by decide) (by simp) ?_;refine W.vs ?_;simp only[go_sem];refine az.clo (O9 h1 hn H _ fun L hL h2=>⟨trivial,?_⟩);simp only[go_sem];exact av.mk (Nat.le_refl _) (hK L hL h2)
theorem Pa {n:Nat}(h1:1<=n)(hn:n<=1024)(H:AHeap)(K:ARes->AHeap->Prop)(hK:∀ M:Nat,1<=M->M<=2*n->K (.ret (.lit (.int .u64 (M:Int)))) H):ae Try.prog G0 108 [aa n] H K:=by
 have wn:IntKind.u64.wrap ((n:Nat):Int)=(n:Int):=by simp [IntKind.wrap,IntKind.bits,IntKind.signed];omega
 refine ae.cX (n:=7) (rs:=[.tmp 2]) Try.func108 rfl rfl rfl (by decide) (by simp) ?_;refine W.sq ?_;simp only[go_sem];refine W.vs ?_;simp only[go_sem,wn];refine az.clo (CP h1 hn H _ fun L hL h2=>⟨trivial,?_⟩);obtain⟨M,hM⟩:∃ M,M=2 ^ L:=⟨_,rfl⟩
 have sh:∀ t o1 o2,aV Try.prog .shl t o1 o2 (.lit (.int .u64 1)) (.lit (.int .i64 (L:Int)))=some (.lit (.int .u64 (M:Int))):=fun t o1 o2=>by
  have e:min L (IntKind.bits .u64)=L:=TI (show L<=64 by omega);have e2:((2:Int) ^ L)=(M:Int):=by rw[hM];push_cast;rfl
  rw[pB (Int.natCast_nonneg L),Int.toNat_natCast,e,Up,e2,To _ (by omega)]
 simp only[go_sem,sh];exact av.mk (Nat.le_refl _) (hK M (by rw[hM];exact TH L) (by omega))
theorem Pb {rd:Nat}{a:Int}(H:AHeap)(hg:H.get rd=some (.arr 0 167 [.lit (.int .u64 a)]))(K:ARes->AHeap->Prop)(hK:∀ c,K (.ret (.lit (.int .u64 c))) (H.upd rd (.arr 0 167 [.lit (.int .u64 c)]))):ae Try.prog G0 109 [.ptr rd 0 0] H K:=by
 obtain⟨f1,h1⟩:∃ f1:Int->Int,∀ t x y a,aV Try.prog .shl t x y (.lit (.int .u64 a)) (.lit (.int .u64 13))=some (.lit (.int .u64 (f1 a))):=⟨_,fun t x y a=>pB (by decide)⟩
 obtain⟨f2,h2⟩:∃ f2:Int->Int,∀ t x y a,aV Try.prog .shr t x y (.lit (.int .u64 a)) (.lit (.int .u64 7))=some (.lit (.int .u64 (f2 a))):=⟨_,fun t x y a=>rD (by decide)⟩
 obtain⟨f3,h3⟩:∃ f3:Int->Int,∀ t x y a,aV Try.prog .shl t x y (.lit (.int .u64 a)) (.lit (.int .u64 17))=some (.lit (.int .u64 (f3 a))):=⟨_,fun t x y a=>pB (by decide)⟩
 obtain⟨f4,h4⟩:∃ f4:Int->Int->Int,∀ t x y a b,aV Try.prog .xor t x y (.lit (.int .u64 a)) (.lit (.int .u64 b))=some (.lit (.int .u64 (f4 a b))):=⟨fun a b=>_,fun t x y a b=>QW⟩
 have up:∀ (H:AHeap) (x y:Blk),(H.upd rd x).upd rd y=H.upd rd y:=fun H x y=>lR ..;have lv:∀ (H:AHeap) (x:List AVal),(H.upd rd (.arr 0 167 x)).live rd 0=some (167,x):=fun H x=>ao (by rw[aj,RC rfl]);have l0:=ao hg;refine ae.cX (n:=33) (rs:=[.tmp 2]) Try.func109 rfl rfl rfl (by decide) (by simp) ?_;refine W.sq ?_;simp only[go_sem];refine W.seq ?_;refine W.draw 7 [0,1,3,0,8,24,56] Try.mixed (by kernel_rfl) (by kernel_rfl) ?_;simp only[go_sem,l0,h1,h4];refine W.en (fun E1=>E1 0=.ptr rd 0 0) (by simp only[go_sem]) fun E1 e0=>?_
 obtain⟨c1,hc1⟩:∃ c1,c1=f4 a (f1 a):=⟨_,rfl⟩
 rw[<- hc1];refine W.seq ?_;refine W.draw 7 [0,1,3,0,8,24,56] Try.mixed (by kernel_rfl) (by kernel_rfl) ?_;simp only[go_sem,e0,lv,h2,h4];rw[up];refine W.en (fun E2=>E2 0=.ptr rd 0 0) (by simp only[go_sem,e0]) fun E2 m0=>?_
 obtain⟨c2,hc2⟩:∃ c2,c2=f4 c1 (f2 c1):=⟨_,rfl⟩
 rw[<- hc2];refine W.seq ?_;refine W.draw 7 [0,1,3,0,8,24,56] Try.mixed (by kernel_rfl) (by kernel_rfl) ?_;simp only[go_sem,m0,lv,h3,h4];rw[up];refine W.en (fun E3=>E3 0=.ptr rd 0 0) (by simp only[go_sem,m0]) fun E3 u0=>?_
 refine W.vs ?_;simp only[go_sem,u0,lv];exact av.mk (Nat.le_refl _) (hK _)
section
variable {cv:AVal} {f:Nat->Nat} {rid:Nat} {rb:Blk} {id g n a b:Nat} {l:List Nat} {H:AHeap}
set_option maxHeartbeats 8000000 in
theorem Pc (S:SH cv f rid rb id g n l H)(hab:a+8<=b)(hb:b<=n)(K:ARes->AHeap->Prop)(hK:∀ q,aW a b l q->K (.ret (.tup [])) (H.upd id (nB g q))):
  ae Try.prog G0 98 [.own id g 0 n 1,aa a,aa b,cv] H K:=by
 refine ae.clo ⟨_,Try.func98,rfl,rfl⟩ fun hcl=>?_;have hn:=S.hn;have hil:=S.il;have hrl:=S.rl;have w0:IntKind.i64.wrap ((b:Int) - (a:Int))=((b - a:Nat):Int):=by rw[Rw _ (by omega)];omega
 obtain⟨L,hL⟩:∃ L,L=b - a:=⟨_,rfl⟩
 rw[<- hL]at w0;have g8:(L:Int) >= 8:=by omega
 have w1:IntKind.u64.wrap (L:Int)=(L:Int):=To _ (by omega);have q1:((L:Int)).tdiv 4=((L / 4:Nat):Int):=by rw[Sj (by omega)];push_cast;rfl
 have q2:IntKind.i64.wrap ((L / 4:Nat):Int)=((L / 4:Nat):Int):=Rw _ (by omega);have q3:IntKind.i64.wrap (((L / 4:Nat):Int)*2)=((L / 4*2:Nat):Int):=by rw[Rw _ (by omega)];omega
 have q4:IntKind.i64.wrap ((a:Int)+((L / 4*2:Nat):Int))=((a+L / 4*2:Nat):Int):=by rw[Rw _ (by omega)];omega
 have q5:IntKind.i64.wrap (((a+L / 4*2:Nat):Int) - 1)=((a+L / 4*2 - 1:Nat):Int):=by rw[Rw _ (by omega)];omega
 have q6:IntKind.i64.wrap (((a+L / 4*2:Nat):Int)+1)=((a+L / 4*2+1:Nat):Int):=by rw[Rw _ (by omega)];omega
 refine ae.cX (n:=67) (rs:=[]) Try.func98 rfl rfl rfl (by decide) (by simp) ?_;refine W.sq ?_;simp only[go_sem,w0];refine W.sq ?_;simp only[go_sem,g8];refine W.vs ?_;simp only[go_sem,w1];obtain⟨H1,hH1⟩:∃ H1,H1=ext H [.arr 0 167 [.lit (.int .u64 (L:Int))]]:=⟨_,rfl⟩
 have n1:H1.next=H.next+1:=by rw[hH1];rfl
 have o1:Over H H1:=by rw[hH1];exact .ext _ _
 have gr:H1.get H.next=some (.arr 0 167 [.lit (.int .u64 (L:Int))]):=by rw[hH1];exact cq
 refine az.clo (Pa (n:=L) (by omega) (by omega) _ _ fun M hM1 hM2=>⟨trivial,?_⟩);simp only[go_sem,q1,q2,q3,q4,q5];rw[<- hH1];refine W.en (fun E=>E 0=.own id g 0 n 1 /\ E 1=aa a /\ E 8=aa L /\ E 9=.ptr H.next 0 0 /\ E 10=.lit (.int .u64 (M:Int)) /\ E 11=aa ((a+L / 4*2 - 1:Nat):Int)) (by simp only[go_sem]) fun E ⟨e0,e1,e8,e9,e10,e11⟩=>?_
 have S1:=S.over o1;refine W.aI 147573952589407983616 (by kernel_rfl) (fun ρ Hx=>∃ (i:Nat) (q:List Nat) (c:Int),ρ 11=aa i/\a<=i/\i<=a+L / 4*2+2/\aW a b l q/\Hx.next=H1.next/\(∀ j,j<H.next->j≠id->Hx.get j=H.get j)/\Hx.get id=some (nB g q)/\Hx.get H.next=some (.arr 0 167 [.lit (.int .u64 c)])) (fun ρ Hx=>a+L / 4*2+2 - (iv (ρ 11)).toNat) ?_ ?_
 ·exact⟨_,l,_,e11,by omega,by omega,.refl _ _ _,rfl,fun j h _=>o1.old j h,S1.hg,gr⟩
 rintro ρ Hx ⟨i,q,c,h11,hi1,hi2,hp,hnx,hold,hgd,hgr⟩;refine W.en (fun F=>F 0=.own id g 0 n 1 /\ F 1=aa a /\ F 8=aa L /\ F 9=.ptr H.next 0 0 /\ F 10=.lit (.int .u64 (M:Int)) /\ F 11=aa i) (by simp only[go_sem,e0,e1,e8,e9,e10,h11]) fun F ⟨d0,d1,d8,d9,d10,d11⟩=>?_
 have ov:Over (H.upd id (nB g q)) Hx:=⟨by rw[aL,hnx];omega,fun j hj=>by
  rw[aL]at hj;rw[aj];by_cases h:j=id
  ·rw[RC h,h,hgd]
  ·rw[RB h];exact hold j hj h⟩
 by_cases hle:(i:Int)<=((a+L / 4*2+1:Nat):Int)
 rotate_left
 ·refine W.vs ?_;simp only[go_sem,d1,d8,d11,q1,q2,q3,q4,q6,hle];exact⟨.tup [],H.upd id (nB g q),.freeze aZ (Aq (hcl.O8 hil g _ _) ov) (.tup rfl fun i h=>absurd h (RV _)),Nat.le_refl _,hK q hp⟩
 have wi:=Rw ((i:Int)+1) (by omega);have wm:IntKind.u64.wrap ((M:Int) - 1)=((M - 1:Nat):Int):=by rw[To _ (by omega)];omega
 refine W.sq ?_;simp only[go_sem,d1,d8,d11,q1,q2,q3,q4,q6,hle];refine W.seq (W.block ?_);refine W.sq ?_;simp only[go_sem,d9];refine az.clo (Pb Hx hgr _ fun c'=>⟨trivial,?_⟩);obtain⟨y,hy⟩:∃ y,y=(BitVec.ofInt (IntKind.bits .u64) c' &&& BitVec.ofInt (IntKind.bits .u64) ((M - 1:Nat):Int)).toNat:=⟨_,rfl⟩
 have hy1:y<=M - 1:=by
  rw[hy,BitVec.toNat_and];refine So Nat.and_le_right ?_;show (BitVec.ofInt 64 _).toNat<=_;rw[BitVec.ofInt_natCast,BitVec.toNat_ofNat];exact Nat.mod_le _ _
 have ha:∀ t o1 o2,aV Try.prog .and t o1 o2 (.lit (.int .u64 c')) (.lit (.int .u64 ((M - 1:Nat):Int)))=some (.lit (.int .u64 (y:Int))):=fun t o1 o2=>by
  rw[uH,<- hy,To _ (by omega)]
 have wy:=Rw (y:Int) (by omega);simp only[go_sem,d10,wm,ha,wy];obtain⟨Hy,hHy⟩:∃ Hy,Hy=Hx.upd H.next (.arr 0 167 [.lit (.int .u64 c')]):=⟨_,rfl⟩
 have yn:Hy.next=H1.next:=by rw[hHy,aL,hnx]
 have yold:∀ j,j<H.next->j≠id->Hy.get j=H.get j:=fun j h h2=>by rw[hHy,aj,RB (by omega)];exact hold j h h2
 have yd:Hy.get id=some (nB g q):=by rw[hHy,aj,RB (by omega)];exact hgd
 have yr:Hy.get H.next=some (.arr 0 167 [.lit (.int .u64 c')]):=by rw[hHy,aj,RC rfl]
 rw[<- hHy];clear hHy;refine W.cu (fun s'=>s'.H=Hy/\s'.ρ 0=.own id g 0 n 1/\s'.ρ 1=aa a/\s'.ρ 11=aa i/\∃ z:Nat,s'.ρ 12=aa z/\z<L) ?_ ?_
 ·by_cases hyL:(y:Int) >= L
  ·have wz:IntKind.i64.wrap ((y:Int) - (L:Int))=((y - L:Nat):Int):=(by rw[Rw _ (by omega)];omega);refine W.vs ?_;simp only[go_sem,d0,d1,d8,d11,hyL,wz];exact⟨y - L,rfl,by omega⟩
  ·refine W.vs ?_;simp only[go_sem,d0,d1,d8,d11,hyL];exact⟨y,rfl,by omega⟩
 rintro⟨ρ3,Hs⟩ ⟨hHs,v0,v1,v11,z,v12,hz⟩;simp only at hHs v0 v1 v11 v12;rw[hHs];clear hHs Hs;have pl:=hp.len;rw[S.hl]at pl;have T:SH cv f rid rb id g n q Hy:=⟨pl,hn,yd,by rw[yold rid hrl S.ne];exact S.hr,S.ne,by omega,by omega,fun x y hx hy=>S.cmp x y (hp.1.mem_iff.1 hx) (hp.1.mem_iff.1 hy)⟩
 have waz:IntKind.i64.wrap ((a:Int)+(z:Int))=((a+z:Nat):Int):=by rw[Rw _ (by omega)];omega
 have i1:i<n:=by omega
 have z1:a+z<n:=by omega
 have bi:(i:Int)<n:=by omega
 have bz:((a+z:Nat):Int)<n:=by omega
 refine W.draw 18 [0,0,0,0,0,24,0,0,0,384,960,1984,0,0,12288,28672,65475,131011] Try.mixed (by kernel_rfl) (by kernel_rfl) ?_;simp only[go_sem,v0,v1,v11,v12,T.live,T.len,waz,T.cell i1,T.cell z1,bi,bz,T.s1 i1,T.s2 (i:=i) z1,T.ir,T.iu];refine⟨by omega,by omega,?_⟩
 try rw[T.u2]
 refine W.vs ?_;simp only[go_sem,v11,wi];refine⟨by simp only[aL];omega,⟨i+1,bR q i (a+z),c',rfl,by omega,by omega,hp.trans (.swap (by omega) (by omega) (by omega) (by omega) (by omega)),by simp only[aL];omega,fun j h h2=>?_,?_,?_⟩,by rw[h11];simp only[aa,aM];omega⟩
 ·rw[aj,RB h2];exact yold j h h2
 ·rw[aj,RC rfl]
 ·rw[aj,RB (by omega)];exact yr
end
end Go.Proofs
namespace Go.Proofs
open Go.Hx
section
variable {cv:AVal} {f:Nat->Nat} {rid:Nat} {rb:Blk} {id g n a b:Nat} {l:List Nat} {H:AHeap}
def sB (s:Int):Blk:=.arr 0 3 [aa s]
theorem xV {si:Nat}{s:Int}(S:SH cv f rid rb id g n l H)(hs:H.get si=some (sB s))(ha:a<n)(hb:b<n)(K:ARes->AHeap->Prop)(hK:∀ (x y:Nat) (t:Int),(x=a/\y=b\/x=b/\y=a)->K (.ret (.tup [aa x,aa y])) (H.upd si (sB t))):
  ae Try.prog G0 113 [.own id g 0 n 1,aa a,aa b,.ptr si 0 0,cv] H K:=by
 have hn:=S.hn;have ba:(a:Int)<n:=by omega
 have bb:(b:Int)<n:=by omega
 have ls:H.live si 0=some (3,[.lit (.int .i64 s)]):=ao hs;refine ae.cX (n:=32) (rs:=[.tmp 10,.tmp 11]) Try.func113 rfl rfl rfl (by decide) (by simp) ?_;refine W.sq ?_;simp only[go_sem];refine W.seq (W.cu (fun s'=>s'.H=H/\s'.ρ 1=aa a/\s'.ρ 2=aa b/\s'.ρ 3=.ptr si 0 0/\s'.ρ 22=.lit (.bool (decide (f (l.getD b 0)<f (l.getD a 0))))) ?_ ?_)
 ·refine W.draw 9 [0,0,0,6,14,0,0,96,224] Try.mixed (by kernel_rfl) (by kernel_rfl) ?_;simp only[go_sem,S.live,S.cell ha,S.cell hb,ba,bb];obtain⟨z,hz,hcc⟩:=S.ask hb ha;refine hcc _ ⟨trivial,?_⟩;by_cases hlt:f (l.getD b 0)<f (l.getD a 0)
  ·have hlt':=hz.2 hlt;simp only[go_sem,hlt',hlt]
  ·have hlt':¬ z<0:=fun h=>hlt (hz.1 h);simp only[go_sem,hlt',hlt]
 rintro⟨ρ3,Hs⟩ ⟨hHs,v1,v2,v3,vc⟩;simp only at hHs v1 v2 v3 vc;rw[hHs];clear hHs Hs;by_cases hlt:f (l.getD b 0)<f (l.getD a 0)
 ·rw[RN hlt]at vc;refine W.cond (t:=true) vc ?_;refine W.vs ?_;simp only[go_sem,v1,v2,v3,ls];exact av.mk (by rw[aL];exact Nat.le_refl _) (hK b a _ (.inr ⟨rfl,rfl⟩))
 ·rw[Sk hlt]at vc;refine W.cond (t:=false) vc ?_;refine W.vs ?_;simp only[go_sem];refine W.vs ?_;simp only[go_sem,v1,v2];have:=hK a b s (.inl ⟨rfl,rfl⟩);rw[B1 hs]at this;exact av.mk (Nat.le_refl _) this
theorem SH.sup (S:SH cv f rid rb id g n l H){si:Nat}(h1:si≠id)(h2:si≠rid)(b:Blk):SH cv f rid rb id g n l (H.upd si b) :=
 ⟨S.hl,S.hn,by rw[aj,RB (fun e=>h1 e.symm)];exact S.hg,by rw[aj,RB (fun e=>h2 e.symm)];exact S.hr,S.ne,S.il,S.rl,S.cmp⟩
theorem xX {si c:Nat}{s:Int}(S:SH cv f rid rb id g n l H)(h1:si≠id)(h2:si≠rid)(hs:H.get si=some (sB s))(ha:a<n)(hb:b<n)(hc:c<n)(K:ARes->AHeap->Prop)(hK:∀ (x:Nat) (t:Int),(x=a\/x=b\/x=c)->K (.ret (aa x)) (H.upd si (sB t))):
  ae Try.prog G0 111 [.own id g 0 n 1,aa a,aa b,aa c,.ptr si 0 0,cv] H K:=by
 have gs:∀ (H:AHeap) (t:Int),(H.upd si (sB t)).get si=some (sB t):=fun H t=>by rw[aj,RC rfl]
 refine ae.cX (n:=41) (rs:=[.tmp 12]) Try.func111 rfl rfl rfl (by decide) (by simp) ?_;refine W.sq ?_;simp only[go_sem];refine W.sq ?_;simp only[go_sem];refine az.clo (xV S hs ha hb _ fun x y t1 hxy=>⟨trivial,?_⟩);have S1:=S.sup h1 h2 (sB t1);have xn:x<n:=by omega
 have yn:y<n:=by omega
 simp only[go_sem];refine W.sq ?_;simp only[go_sem];refine az.clo (xV S1 (gs H t1) yn hc _ fun x2 y2 t2 hxy2=>⟨trivial,?_⟩);have S2:=S1.sup h1 h2 (sB t2);have x2n:x2<n:=by omega
 simp only[go_sem];refine W.sq ?_;simp only[go_sem];refine az.clo (xV S2 (gs _ t2) xn x2n _ fun x3 y3 t3 hxy3=>⟨trivial,?_⟩);simp only[go_sem];refine W.vs ?_;simp only[go_sem];rw[lR,lR];exact av.mk (by rw[aL];exact Nat.le_refl _) (hK y3 t3 (by omega))
theorem xY {si:Nat}{s:Int}(S:SH cv f rid rb id g n l H)(h1:si≠id)(h2:si≠rid)(hs:H.get si=some (sB s))(h0:1<=a)(ha:a+1<n)(K:ARes->AHeap->Prop)(hK:∀ (x:Nat) (t:Int),(x=a - 1\/x=a\/x=a+1)->K (.ret (aa x)) (H.upd si (sB t))):
  ae Try.prog G0 110 [.own id g 0 n 1,aa a,.ptr si 0 0,cv] H K:=by
 have hn:=S.hn;have w1:IntKind.i64.wrap ((a:Int) - 1)=((a - 1:Nat):Int):=by rw[Rw _ (by omega)];omega
 have w2:IntKind.i64.wrap ((a:Int)+1)=((a+1:Nat):Int):=by rw[Rw _ (by omega)];omega
 refine ae.cX (n:=18) (rs:=[.tmp 8]) Try.func110 rfl rfl rfl (by decide) (by simp) ?_;refine W.sq ?_;simp only[go_sem];refine W.vs ?_;simp only[go_sem,w1,w2];refine az.clo (xX S h1 h2 hs (by omega) (by omega) ha _ fun x t hx=>⟨trivial,?_⟩);simp only[go_sem];exact av.mk (by rw[aL];exact Nat.le_refl _) (hK x t hx)
set_option maxHeartbeats 8000000 in
theorem choose_spec (S:SH cv f rid rb id g n l H)(hab:a+8<=b)(hb:b<=n)(K:ARes->AHeap->Prop)(hK:∀ (p:Nat) (h:Int),a<=p->p<b->K (.ret (.tup [aa p,aa h])) H):
  ae Try.prog G0 99 [.own id g 0 n 1,aa a,aa b,cv] H K:=by
 refine ae.clo ⟨_,Try.func99,rfl,rfl⟩ fun hcl=>?_;have hn:=S.hn;have hil:=S.il;have hrl:=S.rl;have w0:IntKind.i64.wrap ((b:Int) - (a:Int))=((b - a:Nat):Int):=by rw[Rw _ (by omega)];omega
 obtain⟨L,hL⟩:∃ L,L=b - a:=⟨_,rfl⟩
 rw[<- hL]at w0;have g8:(L:Int) >= 8:=by omega
 have q1:((L:Int)).tdiv 4=((L / 4:Nat):Int):=by rw[Sj (by omega)];push_cast;rfl
 have q2:IntKind.i64.wrap ((L / 4:Nat):Int)=((L / 4:Nat):Int):=Rw _ (by omega);have q31:IntKind.i64.wrap (((L / 4:Nat):Int)*1)=((L / 4:Nat):Int):=by rw[Rw _ (by omega)];omega
 have q32:IntKind.i64.wrap (((L / 4:Nat):Int)*2)=((L / 4*2:Nat):Int):=by rw[Rw _ (by omega)];omega
 have q33:IntKind.i64.wrap (((L / 4:Nat):Int)*3)=((L / 4*3:Nat):Int):=by rw[Rw _ (by omega)];omega
 have q41:IntKind.i64.wrap ((a:Int)+((L / 4:Nat):Int))=((a+L / 4:Nat):Int):=by rw[Rw _ (by omega)];omega
 have q42:IntKind.i64.wrap ((a:Int)+((L / 4*2:Nat):Int))=((a+L / 4*2:Nat):Int):=by rw[Rw _ (by omega)];omega
 have q43:IntKind.i64.wrap ((a:Int)+((L / 4*3:Nat):Int))=((a+L / 4*3:Nat):Int):=by rw[Rw _ (by omega)];omega
 refine ae.cX (n:=63) (rs:=[.tmp 8,.tmp 9]) Try.func99 rfl rfl rfl (by decide) (by simp) ?_;refine W.sq ?_;simp only[go_sem];refine W.sq ?_;simp only[go_sem,w0];refine W.sq ?_;simp only[go_sem];obtain⟨H1,hH1⟩:∃ H1,H1=ext H [.arr 0 3 [.lit (.int .i64 0)]]:=⟨_,rfl⟩
 have o1:Over H H1:=by rw[hH1];exact .ext _ _
 have gs0:H1.get H.next=some (sB 0):=by rw[hH1];exact cq
 rw[<- hH1];clear hH1;refine W.sq ?_;simp only[go_sem,q1,q2,q31,q41];refine W.sq ?_;simp only[go_sem,q1,q2,q32,q42];refine W.sq ?_;simp only[go_sem,q1,q2,q33,q43];refine W.en (fun E=>E 0=.own id g 0 n 1 /\ E 3=cv /\ E 10=aa L /\ E 11=.ptr H.next 0 0 /\ E 12=aa ((a+L / 4:Nat):Int) /\ E 13=aa ((a+L / 4*2:Nat):Int) /\ E 14=aa ((a+L / 4*3:Nat):Int)) (by simp only[go_sem]) fun E ⟨e0,e3,e10,e11,e12,e13,e14⟩=>?_
 have S1:=S.over o1;have h1:H.next≠id:=by omega
 have h2:H.next≠rid:=by omega
 have gs:∀ (H':AHeap) (t:Int),(H'.upd H.next (sB t)).get H.next=some (sB t):=fun H' t=>by rw[aj,RC rfl]
 refine W.cu (fun s'=>s'.ρ 11=.ptr H.next 0 0/\∃ (t:Int) (p:Nat),s'.H=H1.upd H.next (sB t)/\s'.ρ 13=aa p/\a<=p/\p<b) ?_ ?_
 ·refine W.vs ?_;by_cases h50:(50:Int)<=L
  ·simp only[go_sem,e0,e3,e10,e11,e12,g8,h50];refine az.clo (xY S1 h1 h2 gs0 (by omega) (by omega) _ fun x t hx=>⟨trivial,?_⟩);simp only[go_sem,e0,e3,e11,e13];refine az.clo (xY (S1.sup h1 h2 (sB t)) h1 h2 (gs _ t) (by omega) (by omega) _ fun x2 t2 hx2=>⟨trivial,?_⟩);rw[lR];simp only[go_sem,e0,e3,e11,e14];refine az.clo (xY (S1.sup h1 h2 (sB t2)) h1 h2 (gs _ t2) (by omega) (by omega) _ fun x3 t3 hx3=>⟨trivial,?_⟩);rw[lR];simp only[go_sem,e0,e3,e11];refine az.clo (xX (S1.sup h1 h2 (sB t3)) h1 h2 (gs _ t3) (by omega) (by omega) (by omega) _ fun x4 t4 hx4=>⟨trivial,?_⟩);rw[lR];simp only[go_sem,e11];exact⟨t4,x4,rfl,rfl,by omega,by omega⟩
  ·simp only[go_sem,e0,e3,e10,e11,e12,e13,e14,g8,h50];refine az.clo (xX S1 h1 h2 gs0 (by omega) (by omega) (by omega) _ fun x4 t4 hx4=>⟨trivial,?_⟩);simp only[go_sem,e11];exact⟨t4,x4,rfl,rfl,by omega,by omega⟩
 rintro⟨ρ3,Hs⟩ ⟨v11,t,p,hHs,v13,hp1,hp2⟩;simp only at hHs v11 v13;have ls:Hs.live H.next 0=some (3,[.lit (.int .i64 t)]):=ao (by rw[hHs];exact gs _ t);have ov:Over H Hs:=by rw[hHs];exact⟨by rw[aL];exact o1.next,fun j hj=>by rw[aj,RB (by omega)];exact o1.old j hj⟩
 have fin:∀ h:Int,av Try.prog G0 H K (.tup [aa p,aa h]) Hs:=fun h=>av.cK aZ hcl ov (.tup rfl fun i hi _=>match i,hi with
  | 0,_=>.lit _
  | 1,_=>.lit _) (hK p h hp1 hp2)
 refine W.vs ?_;by_cases t0:t=0
 ·simp only[go_sem,v11,v13,ls,t0];exact fin 1
 by_cases t12:t=12
 ·simp only[go_sem,v11,v13,ls,t12];exact fin 2
 simp only[go_sem,v11,v13,ls,t0,t12];exact fin 0
end
end Go.Proofs
namespace Go.Hx
theorem W.CQ {P:Program}{G:Nat->Option (List AVal)}{n:Nat}{rd:Option Nat}{Q:AX->St->Prop}{s:St}{x y:Code}(Φ:St->Prop)(h:W P G n rd x (gi Φ Q) s)(h2:∀ s',Φ s'->W P G n rd y Q s'):W P G n rd (.seq x y) Q s :=
 W.seq (h.mono fun ax s' hx=>by
  cases ax with
  | normal=>exact h2 s' hx
  | _=>exact hx)
end Go.Hx
namespace Go.Proofs
open Go.Hx
theorem Bl.sub {f:Nat->Nat}{l:List Nat}{a b c:Nat}(h:Bl f l a b)(hc:c<=b):Bl f l a c:=h.imp id fun h i h1 h2=>h i h1 (by omega)
section
variable {cv:AVal} {f:Nat->Nat} {rid:Nat} {rb:Blk} {id g n:Nat}
set_option maxHeartbeats 32000000 in
theorem Pd:∀ (m a b:Nat) (l:List Nat) (H:AHeap) (L:Int),b - a<m->SH cv f rid rb id g n l H->kg f l->a<=b->b<=n->(0<=L/\L<256)->Bl f l a b->∀ (K:ARes->AHeap->Prop),(∀ q,aW a b l q->cV f q a b->K (.ret (.tup [])) (H.upd id (nB g q))) ->
  ae Try.prog G0 92 [.own id g 0 n 1,aa a,aa b,aa L,cv] H K:=by
 intro m
 induction m with
 | zero =>
  intro a b l H L hm;omega
 | succ m ih =>
  intro a b l H L hm S hD hab hb hL hB K hK;have hn:=S.hn;refine ae.cX (n:=148) (rs:=[]) Try.func92 rfl rfl rfl (by decide) (by simp) ?_;refine W.sq ?_;simp only[go_sem];refine W.sq ?_;simp only[go_sem];refine W.en (fun E=>E 0=.own id g 0 n 1 /\ E 1=aa a /\ E 2=aa b /\ E 3=aa L /\ E 4=cv /\ E 10=.lit (.bool true) /\ E 11=.lit (.bool true)) (by simp only[go_sem]) fun E ⟨e0,e1,e2,e3,e4,e10,e11⟩=>?_
  refine W.block ?_;refine W.aI 356811923176489970264571492362373784095685646 (by kernel_rfl) (fun ρ Hx=>∃ (c d:Nat) (M:Int) (wb wp:Bool) (q:List Nat),ρ 1=aa c/\ρ 2=aa d/\ρ 3=aa M/\ρ 10=.lit (.bool wb)/\ρ 11=.lit (.bool wp)/\a<=c/\c<=d/\d<=b/\(0<=M/\M<256)/\aW a b l q/\Out f q a b c d/\Hx=H.upd id (nB g q)) (fun ρ Hx=>(iv (ρ 2) - iv (ρ 1)).toNat) ?_ ?_
  ·exact⟨a,b,L,true,true,l,e1,e2,e3,e10,e11,Nat.le_refl _,hab,Nat.le_refl _,hL,.refl _ _ _,.start,S.self.symm⟩
  rintro ρ Hx ⟨c,d,M,wb,wp,q,h1,h2,h3,h10,h11,hac,hcd,hdb,hM,hp,hO,hHx⟩;refine W.en (fun F=>F 0=.own id g 0 n 1 /\ F 1=aa c /\ F 2=aa d /\ F 3=aa M /\ F 4=cv /\ F 10=.lit (.bool wb) /\ F 11=.lit (.bool wp)) (by simp only[go_sem,e0,h1,h2,h3,e4,h10,h11]) fun F ⟨d0,d1,d2,d3,d4,d10,d11⟩=>?_
  have pl:=hp.len;rw[S.hl]at pl;have T:=S.upd hp.1;rw[<- hHx]at T;have hDq:=hD.perm hp.1;have hBq:=(hO.bl (hB.perm hp (by rw[S.hl];exact hb)) hDq hac hdb (by rw[pl];exact hb))
  have back:∀ q',aW c d q q'->cV f q' c d->av Try.prog G0 H K (.tup []) (Hx.upd id (nB g q')):=fun q' h1 h2=>by
   rw[hHx,dF];exact av.mk (Nat.le_refl _) (hK q' (hp.trans (h1.mono hac hdb)) ((hO.perm h1 hac hdb (by rw[pl];exact hb)).done h2))
  have wl:IntKind.i64.wrap ((d:Int) - (c:Int))=((d - c:Nat):Int):=by rw[Rw _ (by omega)];omega
  obtain⟨N,hN⟩:∃ N,N=d - c:=⟨_,rfl⟩
  rw[<- hN]at wl;refine W.block ?_;refine W.sq ?_;simp only[go_sem,d1,d2,wl];by_cases h12:(N:Int)<=12
  ·refine W.sq ?_;simp only[go_sem,d0,d1,d2,d4,h12];refine az.clo (O3 T hcd (by omega) _ fun q' hq' hs'=>⟨trivial,?_⟩);simp only[go_sem];exact back q' hq' hs'
  refine W.sq ?_;simp only[go_sem,h12];by_cases hM0:M=0
  ·refine W.sq ?_;simp only[go_sem,d0,d1,d2,d3,d4,hM0];refine az.clo (O6 T (by omega) (by omega) _ fun q' hq' hs'=>⟨trivial,?_⟩);simp only[go_sem];exact back q' hq' hs'
  refine W.sq ?_;simp only[go_sem,d3,hM0];refine W.en (fun J=>J 0=.own id g 0 n 1 /\ J 1=aa c /\ J 2=aa d /\ J 3=aa M /\ J 4=cv /\ J 10=.lit (.bool wb) /\ J 11=.lit (.bool wp) /\ J 12=aa N) (by simp only[go_sem,d0,d1,d2,d3,d4,d10,d11]) fun J ⟨j0,j1,j2,j3,j4,j10,j11,j12⟩=>?_
  refine W.cu (fun s'=>s'.ρ 0=.own id g 0 n 1/\s'.ρ 1=aa c/\s'.ρ 2=aa d/\s'.ρ 4=cv/\s'.ρ 10=.lit (.bool wb)/\s'.ρ 11=.lit (.bool wp)/\s'.ρ 12=aa N/\∃ (M1:Int) (q1:List Nat),s'.ρ 3=aa M1/\(0<=M1/\M1<256)/\aW c d q q1/\s'.H=Hx.upd id (nB g q1)) ?_ ?_
  ·cases wb with
   | true =>
    refine W.vs ?_;simp only[go_sem,j0,j1,j2,j3,j4,j10,j11,j12];exact⟨M,q,rfl,hM,.refl _ _ _,T.self.symm⟩
   | false =>
    have wM:=Rw (M - 1) (by omega);refine W.vs ?_;simp only[go_sem,j0,j1,j2,j4,j10];refine az.clo (Pc T (by omega) (by omega) _ fun q' hq'=>⟨trivial,?_⟩);simp only[go_sem,j0,j1,j2,j3,j4,j10,j11,j12,wM];exact⟨M - 1,q',rfl,by omega,hq',rfl⟩
  rintro⟨ρa,Ha⟩ ⟨a0,a1,a2,a4,a10,a11,a12,M1,q1,a3,hM1,hp1,hHa⟩;simp only at a0 a1 a2 a4 a10 a11 a12 a3 hHa;have Ta:=T.upd hp1.1;rw[<- hHa]at Ta;refine W.sq ?_;simp only[go_sem,a0,a1,a2,a4];refine az.clo (choose_spec Ta (by omega) (by omega) _ fun p0 h0 hp01 hp02=>⟨trivial,?_⟩);simp only[go_sem];refine W.env fun R hR=>?_;have r0:R 0=.own id g 0 n 1:=by rw[hR];simp only[go_sem,a0]
  have r1:R 1=aa c:=by rw[hR];simp only[go_sem,a1]
  have r2:R 2=aa d:=by rw[hR];simp only[go_sem,a2]
  have r3:R 3=aa M1:=by rw[hR];simp only[go_sem,a3]
  have r4:R 4=cv:=by rw[hR];simp only[go_sem,a4]
  have r10:R 10=.lit (.bool wb):=by rw[hR];simp only[go_sem,a10]
  have r11:R 11=.lit (.bool wp):=by rw[hR];simp only[go_sem,a11]
  have r12:R 12=aa N:=by rw[hR];simp only[go_sem,a12]
  have r13:R 13=aa p0:=by rw[hR];simp only[go_sem]
  have r14:R 14=aa h0:=by rw[hR];simp only[go_sem]
  clear hR;refine W.cu (fun s'=>s'.ρ 0=.own id g 0 n 1/\s'.ρ 1=aa c/\s'.ρ 2=aa d/\s'.ρ 3=aa M1/\s'.ρ 4=cv/\s'.ρ 10=.lit (.bool wb)/\s'.ρ 11=.lit (.bool wp)/\s'.ρ 12=aa N/\∃ (p:Nat) (h:Int) (q2:List Nat),s'.ρ 13=aa p/\s'.ρ 14=aa h/\c<=p/\p<d/\aW c d q q2/\s'.H=Hx.upd id (nB g q2)) ?_ ?_
  ·by_cases hh:h0=2
   ·have w1:IntKind.i64.wrap ((d:Int) - 1)=((d - 1:Nat):Int):=(by rw[Rw _ (by omega)];omega);have w2:IntKind.i64.wrap ((p0:Int) - (c:Int))=((p0 - c:Nat):Int):=(by rw[Rw _ (by omega)];omega);have w3:IntKind.i64.wrap (((d - 1:Nat):Int) - ((p0 - c:Nat):Int))=((d - 1 - (p0 - c):Nat):Int):=(by rw[Rw _ (by omega)];omega);refine W.vs ?_;simp only[go_sem,r0,r1,r2,r4,r14,hh];refine az.clo (O2 Ta (by omega) (by omega) _ fun q' hq'=>⟨trivial,?_⟩);simp only[go_sem,r0,r1,r2,r3,r4,r10,r11,r12,r13,w1,w2,w3];exact⟨d - 1 - (p0 - c),1,q',rfl,rfl,by omega,by omega,hp1.trans hq',by rw[hHa,dF]⟩
   ·refine W.vs ?_;simp only[go_sem,r0,r1,r2,r3,r4,r10,r11,r12,r13,r14,hh];exact⟨p0,h0,q1,rfl,rfl,hp01,hp02,hp1,hHa⟩
  rintro⟨ρb,Hb⟩ ⟨b0,b1,b2,b3,b4,b10,b11,b12,p,h,q2,b13,b14,hcp,hpd,hp2,hHb⟩;simp only at b0 b1 b2 b3 b4 b10 b11 b12 b13 b14 hHb;have Tb:=T.upd hp2.1;rw[<- hHb]at Tb;have pq:=hp2.len;rw[pl]at pq;have bl2:=hBq.perm hp2 (by rw[pl];omega);refine W.CQ (fun s'=>s'.ρ 0=.own id g 0 n 1/\s'.ρ 1=aa c/\s'.ρ 2=aa d/\s'.ρ 3=aa M1/\s'.ρ 4=cv/\s'.ρ 12=aa N/\s'.ρ 13=aa p/\∃ (q3:List Nat),aW c d q q3/\s'.H=Hx.upd id (nB g q3)) ?_ ?_
  ·refine W.cu (fun s'=>s'.ρ 0=.own id g 0 n 1/\s'.ρ 1=aa c/\s'.ρ 2=aa d/\s'.ρ 3=aa M1/\s'.ρ 4=cv/\s'.ρ 12=aa N/\s'.ρ 13=aa p/\s'.ρ 75=.lit (.bool (wb && wp && decide (h=1)))/\s'.H=Hb) ?_ ?_
   ·refine W.vs ?_;by_cases hh:h=1
    ·cases wb<;>cases wp<;>simp only[go_sem,b0,b1,b2,b3,b4,b10,b11,b12,b13,b14,hh]<;>rfl
    ·cases wb<;>cases wp<;>simp only[go_sem,b0,b1,b2,b3,b4,b10,b11,b12,b13,b14,hh]<;>rfl
   rintro⟨ρc,Hc⟩ ⟨c0,c1,c2,c3,c4,c12,c13,c75,hHc⟩;simp only at c0 c1 c2 c3 c4 c12 c13 c75 hHc;rw[hHc];clear hHc Hc;cases hfl:(wb && wp && decide (h=1)) with
   | false =>
    rw[hfl]at c75;refine W.cond (t:=false) c75 ?_;refine W.vs ?_;simp only[go_sem];exact⟨c0,c1,c2,c3,c4,c12,c13,q2,hp2,hHb⟩
   | true =>
    rw[hfl]at c75;refine W.cond (t:=true) c75 ?_;refine W.vs ?_;simp only[go_sem,c0,c1,c2,c4];refine az.clo (O5 Tb (by omega) (by omega) bl2 _ fun q' fl hq' hs'=>⟨trivial,?_⟩);cases fl with
    | true =>
     simp only[go_sem];have:=back q' (hp2.trans hq') (hs' rfl);rw[hHb,dF];exact this
    | false =>
     simp only[go_sem];exact⟨c0,c1,c2,c3,c4,c12,c13,q',hp2.trans hq',by rw[hHb,dF]⟩
  clear b0 b1 b2 b3 b4 b10 b11 b12 b13 b14 Tb bl2 pq hp2 hHb;clear q2 Hb;rintro⟨ρd,Hd⟩ ⟨b0,b1,b2,b3,b4,b12,b13,q2,hp2,hHb⟩;simp only at b0 b1 b2 b3 b4 b12 b13 hHb;have Tb:=T.upd hp2.1;rw[<- hHb]at Tb;have pq:=hp2.len;rw[pl]at pq;have bl2:=hBq.perm hp2 (by rw[pl];omega);have hO2:=hO.perm hp2 hac hdb (by rw[pl];exact hb);have hDq2:=hDq.perm hp2.1;refine W.CQ (fun s'=>s'.ρ 0=.own id g 0 n 1/\s'.ρ 1=aa c/\s'.ρ 2=aa d/\s'.ρ 3=aa M1/\s'.ρ 4=cv/\s'.ρ 12=aa N/\s'.ρ 13=aa p/\s'.H=Hd) ?_ ?_
  ·refine W.cu (fun s'=>s'.ρ 0=.own id g 0 n 1/\s'.ρ 1=aa c/\s'.ρ 2=aa d/\s'.ρ 3=aa M1/\s'.ρ 4=cv/\s'.ρ 12=aa N/\s'.ρ 13=aa p/\s'.H=Hd/\s'.ρ 97=.lit (.bool false)) ?_ ?_
   ·refine W.draw 13 [0,1,3,7,7,7,39,119,247,7,7,1543,3591] Try.mixed (by kernel_rfl) (by kernel_rfl) ?_;by_cases hc0:(c:Int) > 0
    ·have w1:IntKind.i64.wrap ((c:Int) - 1)=((c - 1:Nat):Int):=(by rw[Rw _ (by omega)];omega);have c1n:c - 1<n:=(by omega);have pn:p<n:=(by omega);have x1:((c - 1:Nat):Int)<n:=(by omega);have x2:(p:Int)<n:=(by omega);simp only[go_sem,b0,b1,b4,b13,hc0,w1,Tb.live,Tb.cell c1n,Tb.cell pn,x1,x2];obtain⟨z,hz,hcc⟩:=Tb.ask c1n pn;refine hcc _ ⟨trivial,?_⟩;have hlt:f (q2.getD (c - 1) 0)<f (q2.getD p 0):=by
      rcases bl2 with h3|h3
      ·omega
      ·exact h3 p hcp hpd
     have hlt':=hz.2 hlt;simp only[go_sem,b0,b1,b2,b3,b4,b12,b13,hlt']
     try rfl
    ·simp only[go_sem,b0,b1,b2,b3,b4,b12,b13,hc0]
     try rfl
   rintro⟨ρc,Hc⟩ ⟨c0,c1,c2,c3,c4,c12,c13,hHc,c97⟩;simp only at c0 c1 c2 c3 c4 c12 c13 c97 hHc;refine W.cond (t:=false) c97 ?_;refine W.vs ?_;simp only[go_sem];exact⟨c0,c1,c2,c3,c4,c12,c13,hHc⟩
  rintro⟨ρc,Hc⟩ ⟨c0,c1,c2,c3,c4,c12,c13,hHc⟩;simp only at c0 c1 c2 c3 c4 c12 c13 hHc;rw[hHc];clear hHc Hc;refine W.sq ?_;simp only[go_sem,c0,c1,c2,c4,c13];refine az.clo (O4 Tb hcp hpd (by omega) _ fun q3 k al hp3 hpar hck hkd=>⟨trivial,?_⟩);have Tc:=Tb.upd hp3.1;have hp23:=hp2.trans hp3;have hO3:=hO2.perm hp3 hac hdb (by rw[pq];exact hb);have hDq3:=hDq2.perm hp3.1;have bl3:=bl2.perm hp3 (by rw[pq];omega);have pq3:=hp3.len;rw[pq]at pq3;have wk1:IntKind.i64.wrap ((k:Int) - (c:Int))=((k - c:Nat):Int):=by rw[Rw _ (by omega)];omega
  have wk2:IntKind.i64.wrap ((d:Int) - (k:Int))=((d - k:Nat):Int):=by rw[Rw _ (by omega)];omega
  have wk3:IntKind.i64.wrap ((k:Int)+1)=((k+1:Nat):Int):=by rw[Rw _ (by omega)];omega
  have t8:((N:Int)).tdiv 8=((N / 8:Nat):Int):=by rw[Sj (by omega)];push_cast;rfl
  have t8w:IntKind.i64.wrap ((N / 8:Nat):Int)=((N / 8:Nat):Int):=Rw _ (by omega);obtain⟨Hp,hHp⟩:∃ Hp,Hp=Hd.upd id (nB g q3):=⟨_,rfl⟩
  rw[<- hHp]at Tc ⊢;simp only[go_sem];refine W.sq ?_;simp only[go_sem];refine W.sq ?_;simp only[go_sem,c1,c2,wk1,wk2];refine W.sq ?_;simp only[go_sem,c12,t8,t8w];by_cases hlr:((k - c:Nat):Int)<((d - k:Nat):Int)
  ·refine W.sq ?_;simp only[go_sem,hlr];refine W.vs ?_;simp only[go_sem,c0,c1,c3,c4];refine az.clo (ih c k q3 Hp M1 (by omega) Tc hDq3 hck (by omega) hM1 (bl3.sub (by omega)) _ fun q4 hq4 hs4=>⟨trivial,?_⟩);simp only[go_sem,c2,c3,wk3];refine⟨by rw[hHp,hHb,hHx];exact Nat.le_refl _,⟨k+1,d,M1,_,_,q4,rfl,rfl,rfl,rfl,rfl,by omega,by omega,hdb,hM1,hp.trans ((hp23.trans (hq4.mono (Nat.le_refl _) (by omega))).mono hac hdb),hO3.left hpar hck hkd hac hdb (by rw[pq3];exact hb) hq4 hs4,by rw[hHp,hHb,hHx,dF,dF,dF]⟩,by rw[h1,h2];simp only[aa,aM];omega⟩
  refine W.sq ?_;simp only[go_sem,hlr];refine W.vs ?_;simp only[go_sem,c0,c2,c3,c4,wk3];refine az.clo (ih (k+1) d q3 Hp M1 (by omega) Tc hDq3 (by omega) (by omega) hM1 (.inr fun i i1 i2=>?_) _ fun q4 hq4 hs4=>⟨trivial,?_⟩)
  ·have i3:=hpar.2 i (by omega) i2;have i4:=hDq3.ne (i:=k) (j:=i) (by omega) (by omega) (by omega);rw[Nat.add_sub_cancel];omega
  simp only[go_sem,c1,c2,c3];refine⟨by rw[hHp,hHb,hHx];exact Nat.le_refl _,⟨c,k,M1,_,_,q4,rfl,rfl,rfl,rfl,rfl,hac,hck,by omega,hM1,hp.trans ((hp23.trans (hq4.mono (by omega) (Nat.le_refl _))).mono hac hdb),hO3.right hpar hck hkd hac hdb (by rw[pq3];exact hb) hq4 hs4,by rw[hHp,hHb,hHx,dF,dF,dF]⟩,by rw[h1,h2];simp only[aa,aM];omega⟩
end
end Go.Proofs
set_option linter.unusedVariables false
namespace Go.Proofs
theorem Dv {l:List Nat}{m i:Nat}(hi:l[m]?=some i)(a:Nat):a∈l.take (m+1)↔a∈l.take m\/a=i:=by
 rw[List.take_add_one,hi];simp
theorem Qm {l:List Nat}(hnd:l.Nodup){m i:Nat}(hi:l[m]?=some i):i ∉ l.take m:=fun h=>by
 obtain⟨j,hj⟩:=RW.1 h;have hjm:j<m:=by
  have:=get_lt hj;rw[RH]at this;omega
 rw[SJ hjm]at hj;have:=(Tq (get_lt hj) hnd).1 (hj.trans hi.symm);omega
theorem Qn (least sp:Int)(c:List Int)(l:List Nat):dB least sp c (fun a=>decide (a∈l.take 0))=(List.range c.length).map fun i=>least+partAt sp c i:=by
 unfold dB;refine Sa fun i _=>?_;simp
theorem Qo {least sp:Int}{c:List Int}{l:List Nat}(hnd:l.Nodup){m i:Nat}(hi:l[m]?=some i)(hic:i<c.length):(dB least sp c fun a=>decide (a∈l.take m))[i]?=some (least+partAt sp c i):=by
 rw[uD hic,Sk (Qm hnd hi)];simp
theorem Qp {least sp:Int}{c:List Int}{l:List Nat}(hnd:l.Nodup){m i:Nat}(hi:l[m]?=some i)(hic:i<c.length):(dB least sp c fun a=>decide (a∈l.take m)).set i (least+partAt sp c i+1)=dB least sp c fun a=>decide (a∈l.take (m+1)):=by
 apply Sf;intro a;rw[SQ];by_cases h:i=a
 ·subst h;rw[RC rfl,RC (by rw[px];exact hic),uD hic,RN ((Dv hi i).2 (.inr rfl))];simp
 ·rw[RB h];rcases RP a c.length with ha|ha
  ·rw[uD ha,uD ha];congr 2;have:(a∈l.take (m+1))↔a∈l.take m:=(by rw[Dv hi];exact⟨fun h'=>h'.elim id fun e=>absurd e.symm h,.inl⟩);simp only[this]
  ·rw[RF (by rw[px];exact ha),RF (by rw[px];exact ha)]
theorem Qq {sp:Int}{c:List Int}(h:0<c.sum){i:Nat}{x:Int}(hx:c[i]?=some x):partAt sp c i=sp*x / c.sum/\cH sp c i=sp*x % c.sum:=by
 unfold partAt cH eu di;rw[RC h,RC h,RE,hx];exact⟨rfl,rfl⟩
theorem Qr {sp:Int}{c:List Int}(h:¬ 0<c.sum){i:Nat}(hi:i<c.length):partAt sp c i=sp / c.length/\cH sp c i=sp % c.length:=by
 unfold partAt cH eu di;rw[RB h,RB h,RE,Sz,RC hi];simp
def iD (sp:Int)(c:List Int)(k:Nat):Int:=sp - ((List.range k).map (partAt sp c)).sum
theorem Dw (sp:Int)(c:List Int)(k:Nat):iD sp c (k+1)=iD sp c k - partAt sp c k:=by
 unfold iD;rw[SN,SW,TX];simp;omega
theorem Dx {sp:Int}{c:List Int}(hc:∀ x∈c,0<=x)(h0:0<c.length)(hs:0<=sp)(i:Nat):partAt sp c i<=sp:=by
 have hT:=pt h0;refine Int.ediv_le_of_le_mul hT ?_;have:(eu c).getD i 0<=di c:=by
  rw[RE];cases e:(eu c)[i]? with
  | none=>exact Ve hT
  | some a =>
   have:=Ds (Dn hc) a (Ry e);rw[Dm]at this;exact this
 exact Sd this hs
theorem Qs {sp:Int}{c:List Int}(hc:∀ x∈c,0<=x)(h0:0<c.length)(hs:0<=sp)(k:Nat):iD sp c k<=sp/\sp - sp*k<=iD sp c k:=by
 induction k with
 | zero=>simp [iD]
 | succ k ih =>
  rw[Dw];have h1:=yu hc h0 hs k;have h2:=Dx hc h0 hs k;have h3:sp*((k+1:Nat):Int)=sp*k+sp:=by push_cast;rw[Tm,UT]
  omega
end Go.Proofs
namespace Go.Proofs
open Go.Hx
theorem Pe {cv:AVal}{f:Nat->Nat}{rid:Nat}{rb:Blk}{id g n:Nat}{l:List Nat}{H:AHeap}(S:SH cv f rid rb id g n l H)(hD:kg f l)(h1:1<=n)(K:ARes->AHeap->Prop)(hK:∀ q,q.Perm l->Du f q q.length->K (.ret (.tup [])) (H.upd id (nB g q))):
  ae Try.prog G0 75 [.own id g 0 n 1,cv] H K:=by
 have hn:=S.hn;have wn:IntKind.u64.wrap ((n:Nat):Int)=(n:Int):=To _ (by omega);have w2:=Rw (n:Int) (by omega);refine ae.cX (n:=14) (rs:=[]) Try.func75 rfl rfl rfl (by decide) (by simp) ?_;refine W.sq ?_;simp only[go_sem,S.live];refine W.vs ?_;simp only[go_sem,wn];refine az.clo (CP h1 hn H _ fun L hL _=>⟨trivial,?_⟩);simp only[go_sem];refine az.clo (Pd (n+1) 0 n l H L (by omega) S hD (by omega) (Nat.le_refl _) (by omega) (.inl rfl) _ fun q hq hs=>⟨trivial,?_⟩);simp only[go_sem];exact av.mk (by rw[aL];exact Nat.le_refl _) (hK q hq.1 fun a b h1 h2=>hs a b (Ud _) h1 (by rw[hq.len,S.hl]at h2;exact h2))
theorem Pf {r:Nat->Int}{T n:Nat}(hr:∀ i,i<n->0<=r i/\r i<T):kg (nC r T n) (List.range n):=by
 unfold kg;rw[UU,UL];refine(List.Pairwise.and_mem.1 (UU.1 TE)).imp fun {i j} ⟨hi,hj,hne⟩ e=>?_;have hi:=RK.1 hi;have hj:=RK.1 hj;rcases Dl hne (r:=r) with b|b
 ·have:=(uE hr hi hj).2 b;omega
 ·have:=(uE hr hj hi).2 b;omega
theorem Pg {id g n:Nat}{rs:List Int}(hn:rs.length=n)(hr:∀ x∈rs,0<=x/\x<1125899906842624)(hn6:n<=1024){T:Nat}(hT:∀ i,i<n->0<=rs.getD i 0/\rs.getD i 0<T){l:List Nat}(hl:∀ a∈l,a<n):
  B9 (.clo 76 [.own id g 0 n 1] []) (nC (fun i=>rs.getD i 0) T n) l (fun Hx=>Hx.get id=some (.arr g 3 (ints rs))):=by
 intro a b ha hb Hx hI;have ha:=hl a ha;have hb:=hl b hb;obtain⟨x,hx⟩:=get_of_lt (l:=rs) (i:=a) (by omega);obtain⟨y,hy⟩:=get_of_lt (l:=rs) (i:=b) (by omega);have hxr:=hr x (Ry hx);have hyr:=hr y (Ry hy);have ex:rs.getD a 0=x:=by rw[RE,hx];rfl
 have ey:rs.getD b 0=y:=by rw[RE,hy];rfl
 have hxn:=aK hx;have hyn:=aK hy;have lv:=ao hI;have hil:=bO rs;rw[hn]at hil;have bx:(a:Int)<n:=by omega
 have by':(b:Int)<n:=by omega
 have w1:=Rw (y - x) (by omega);have w2:=Rw ((a:Int) - (b:Int)) (by omega);refine⟨if x=y then (a:Int) - b else y - x,?_,fun K hK=>az.clo ?_⟩
 ·rw[uE hT ha hb];unfold before;simp only[ex,ey];split<;>omega
 simp only[List.cons_append,List.nil_append,List.append_nil];refine ae.cX (n:=28) (rs:=[.tmp 6]) Try.func76 rfl rfl rfl (by decide) (by simp) ?_;refine W.sq ?_;simp only[go_sem];refine W.seq (W.cu (fun s'=>s'.H=Hx/\s'.ρ 0=.own id g 0 n 1/\s'.ρ 1=aa a/\s'.ρ 2=aa b/\s'.ρ 15=.lit (.bool (!decide (x=y)))) ?_ ?_)
 ·refine W.draw 8 [0,0,3,7,0,0,48,112] Try.mixed (by kernel_rfl) (by kernel_rfl) ?_;simp only[go_sem,lv,hx,hy,bx,by']
 rintro⟨ρ,Hq⟩ ⟨hHq,q0,q1,q2,q15⟩;simp only at hHq q0 q1 q2 q15;rw[hHq];by_cases hxy:x=y
 ·rw[RC hxy]at hK;rw[RN hxy]at q15;refine W.cond (t:=false) q15 ?_;refine W.vs ?_;simp only[go_sem];refine W.vs ?_;simp only[go_sem,q1,q2,w2];exact av.mk (Nat.le_refl _) hK
 ·rw[RB hxy]at hK;rw[Sk hxy]at q15;refine W.cond (t:=true) q15 ?_;refine W.seq ?_;refine W.draw 8 [0,0,3,7,0,0,48,112] Try.mixed (by kernel_rfl) (by kernel_rfl) ?_;simp only[go_sem,q0,q1,q2,lv,hx,hy,bx,by',w1];refine W.vs ?_;simp only[go_sem];exact av.mk (Nat.le_refl _) hK
theorem CR {c:List Int}{i:Nat}{x:Int}(h:c[i]?=some x):(c.take (i+1)).sum=(c.take i).sum+x:=by rw[aP h];simp
theorem CS {c:List Int}(hc:∀ x∈c,0<=x/\x<=1099511627776)(i:Nat):0<=(c.take i).sum/\(c.take i).sum<=1099511627776*(c.take i).length:=by
 have:∀ l:List Int,(∀ x∈l,0<=x/\x<=1099511627776)->0<=l.sum/\l.sum<=1099511627776*l.length:=by
  intro l
  induction l with
  | nil=>intro _;simp
  | cons a l ih =>
   intro h;have h1:=h a (by simp);have h2:=ih fun x hx=>h x (by simp [hx]);rw[RZ,List.length_cons];omega
 exact this _ fun x hx=>hc x (RS hx)
set_option maxHeartbeats 8000000 in
theorem xZ {c:List Int}{grain least:Int}{n:Nat}(hn:c.length=n)(h0:1<=n)(hl:n<=1024)(hc:∀ x∈c,0<=x/\x<=1099511627776)(hg:1<=grain/\grain<=720)(hle:0<=least/\least<=720)(H:AHeap)(K:ARes->AHeap->Prop)
  (hE:grain<least*n->K (.ret (.tup [.lit (.slice none 0 0),aa 2])) H)
  (hK:∀ s v H',least*n<=grain->eM least (bJ grain least c) c s->Over H H'->aB H.next H' 3 v (ints s)->K (.ret (.tup [v,aa 0])) H'):
  ae Try.prog G0 48 [.vec n (ints c),aa grain,aa least] H K:=by
 have hil:=bO c;rw[hn]at hil;have b1:¬ (n:Int)<1:=by omega
 have b2:¬ (n:Int) > 1024:=by omega
 refine ae.cX (n:=144) (rs:=[.tmp 6,.tmp 7]) Try.func48 rfl rfl rfl (by decide) (by simp) ?_;refine W.sq ?_;simp only[go_sem];refine W.sq ?_;simp only[go_sem,b1,b2];refine W.sq ?_;simp only[go_sem];refine W.sq ?_;simp only[go_sem];refine W.en (fun E=>E 0=.vec n (ints c) /\ E 1=aa grain /\ E 2=aa least /\ E 8=aa 0 /\ E 30=.vec n (ints c) /\ E 31=aa n /\ E 32=aa 0) (by simp only[go_sem]) fun E ⟨e0,e1,e2,e8,e30,e31,e32⟩=>?_
 refine W.aI 70364449211840 (by rfl) (fun ρ Hx=>Hx=H/\∃ i:Nat,ρ 32=aa i/\i<=n/\ρ 8=aa (c.take i).sum) (fun ρ Hx=>n - (iv (ρ 32)).toNat) ?_ ?_
 ·exact⟨rfl,0,e32,by omega,e8⟩
 rintro ρ Hx ⟨hHx,i,h32,hi,h8⟩;rw[hHx];refine W.en (fun E1=>E1 0=.vec n (ints c) /\ E1 1=aa grain /\ E1 2=aa least /\ E1 8=aa (c.take i).sum /\ E1 30=.vec n (ints c) /\ E1 31=aa n /\ E1 32=aa i) (by simp only[go_sem,e0,e1,e2,h8,e30,e31,h32]) fun E1 ⟨f0,f1,f2,f8,f30,f31,f32⟩=>?_
 have hsr:=CS hc i;have htl:((c.take i).length:Int)<=1024:=by rw[RH];omega
 by_cases hb:(i:Int)<n
 ·obtain⟨x,hx⟩:=get_of_lt (l:=c) (i:=i) (by omega);have hxr:=hc x (Ry hx);have hxn:=aK hx;have x1:¬ x<0:=by omega
  have x2:¬ x > 1099511627776:=by omega
  have w1:=Rw ((c.take i).sum+x) (by omega);have w2:=Rw ((i:Int)+1) (by omega);refine W.vs ?_;simp only[go_sem,f8,f30,f31,f32,hb,hx,hxn,x1,x2,w1,w2];exact⟨⟨i+1,rfl,by omega,by rw[CR hx]⟩,by rw[h32];simp only[aa,aM];omega⟩
 have hin:i=n:=by omega
 rw[hin,<- hn,TD]at f8 hsr;have g1:¬ grain<1:=by omega
 have g2:¬ grain > 720:=by omega
 have g3:¬ least<0:=by omega
 have gn:¬ (n:Int)=0:=by omega
 have gt:grain.tdiv n=grain / n:=Sj (by omega);have gw:=Rw (grain / n) (by have:=Tt (a:=grain) (b:=n) (by omega) (by omega);have:=TF (a:=grain) n (by omega);omega);refine W.vs ?_;simp only[go_sem,f31,f32,hb];by_cases hfit:grain<least*n
 ·have g4:least > grain / n:=by
   refine Se fun h=>?_;have:=(Tw (show (0:Int)<n by omega)).1 (Int.not_lt.1 h);omega
  refine W.sq ?_;simp only[go_sem,f0,f1,f2,g1,g2,g3,gn,gt,gw,g4];exact av.mk (Nat.le_refl _) (hE hfit)
 have g4:¬ least > grain / n:=fun h=>by
  have:=(Tw (show (0:Int)<n by omega)).2 (Int.not_lt.1 hfit);omega
 refine W.sq ?_;simp only[go_sem,f0,f1,f2,g1,g2,g3,gn,gt,gw,g4];have m0:0<=least*n:=SD hle.1 (by omega);have wm:=Rw (least*(n:Int)) (by omega);have wsb:=Rw (grain - least*(n:Int)) (by omega);obtain⟨sp,hsp⟩:∃ sp,sp=grain - least*n:=⟨_,rfl⟩
 have hsp':bJ grain least c=sp:=by unfold bJ;rw[hn,hsp]
 rw[<- hsp]at wsb;have sp0:0<=sp/\sp<=720:=by omega
 refine W.sq ?_;simp only[go_sem,f0,f1,f2,wm,<- hsp,wsb];refine W.sq ?_;simp only[go_sem];refine W.sq ?_;simp only[go_sem,f0];refine⟨⟨by omega,by omega⟩,?_⟩;refine W.sq ?_;simp only[go_sem,f0];refine⟨⟨by omega,by omega⟩,?_⟩;refine W.sq ?_;simp only[go_sem,f0];refine⟨⟨by omega,by omega⟩,?_⟩;refine W.sq ?_;simp only[go_sem,f0];have hz:List.replicate n (AVal.lit (.int .i64 0))=ints (List.replicate n 0):=by simp only[ints,UI];rfl
 rw[hz];obtain⟨H1,hH1⟩:∃ H1,H1=ext H [.arr 0 3 (ints (List.replicate n 0)),.arr 0 3 (ints (List.replicate n 0)),.arr 0 3 (ints (List.replicate n 0))]:=⟨_,rfl⟩
 have ga:H1.get H.next=some (.arr 0 3 (ints (List.replicate n 0))):=by rw[hH1];exact bk H _ 0 (by simp)
 have gb:H1.get (H.next+1)=some (.arr 0 3 (ints (List.replicate n 0))):=by rw[hH1];exact bk H _ 1 (by simp)
 have go:H1.get (H.next+2)=some (.arr 0 3 (ints (List.replicate n 0))):=by rw[hH1];exact bk H _ 2 (by simp)
 have n1:H1.next=H.next+3:=by rw[hH1];rfl
 have o1:Over H H1:=by rw[hH1];exact .ext _ _
 rw[<- hH1];refine W.en (fun E2=>E2 0=.vec n (ints c) /\ E2 2=aa least /\ E2 8=aa c.sum /\ E2 11=aa sp /\ E2 12=aa sp /\ E2 13=.own H.next 0 0 n 1 /\ E2 14=.own (H.next+1) 0 0 n 1 /\ E2 15=.own (H.next+2) 0 0 n 1 /\ E2 80=.vec n (ints c) /\ E2 81=aa n /\ E2 82=aa 0) (by simp only[go_sem,f0,f2,f8,<- hsp]) fun E2 ⟨a0,a2,a8,a11,a12,a13,a14,a15,a80,a81,a82⟩=>?_
 clear hH1;have hrs:=fun k=>Qs (sp:=sp) (c:=c) (fun x h=>(hc x h).1) (by omega) sp0.1 k;have hpn:=fun k=>yu (c:=c) (fun x h=>(hc x h).1) (by omega) sp0.1 k;have hpl:=fun k=>Dx (c:=c) (fun x h=>(hc x h).1) (by omega) sp0.1 k;have hrb:=fun k=>ym (sp:=sp) (c:=c) (by omega) k;have hT:di c<=1125899906842624:=by unfold di;split<;>omega
 refine W.aI 21267647932553818263182454447787675648 (by kernel_rfl) (fun ρ Hx=>∃ (i:Nat) (A B O:List Int),ρ 82=aa i/\i<=n/\ρ 12=aa (iD sp c i)/\Hx.next=H1.next/\(∀ j,j<H.next->Hx.get j=H.get j)/\Hx.get H.next=some (.arr 0 3 (ints A))/\Hx.get (H.next+1)=some (.arr 0 3 (ints B))/\Hx.get (H.next+2)=some (.arr 0 3 (ints O)) /\
  (A.length=n/\B.length=n/\O.length=n)/\∀ j,j<i->A[j]?=some (least+partAt sp c j)/\B[j]?=some (cH sp c j)/\O[j]?=some (j:Int)) (fun ρ Hx=>n - (iv (ρ 82)).toNat) ?_ ?_
 ·exact⟨0,_,_,_,a82,by omega,a12.trans (by unfold iD;simp),rfl,fun j h=>o1.old j h,ga,gb,go,by simp,fun j h=>absurd h (RV _)⟩
 rintro ρ2 Hx ⟨k,A,B,O,h82,hk,h12,nx,hold,xa,xb,xo,⟨lA,lB,lO⟩,hall⟩;refine W.en (fun E3=>E3 0=.vec n (ints c) /\ E3 2=aa least /\ E3 8=aa c.sum /\ E3 11=aa sp /\ E3 12=aa (iD sp c k) /\ E3 13=.own H.next 0 0 n 1 /\ E3 14=.own (H.next+1) 0 0 n 1 /\ E3 15=.own (H.next+2) 0 0 n 1 /\ E3 80=.vec n (ints c) /\ E3 81=aa n /\ E3 82=aa k) (by simp only[go_sem,a0,a2,a8,a11,h12,a13,a14,a15,a80,a81,h82]) fun E3 ⟨d0,d2,d8,d11,d12,d13,d14,d15,d80,d81,d82⟩=>?_
 by_cases hb2:(k:Int)<n;rotate_left
 ·have hkn:k=n:=by omega
  refine W.vs ?_;simp only[go_sem,d81,d82,hb2];rw[hkn]at d12 hall;have eA:A=dB least sp c fun a=>decide (a∈([]:List Nat).take 0):=by
   rw[Qn];apply Sf;intro j;rcases RP j n with h|h
   ·rw[(hall j h).1,List.getElem?_map,Sm (by omega)];rfl
   ·rw[RF (by omega),RF (by simp;omega)]
  have eO:O=dy (List.range n):=by
   apply Sf;intro j;rcases RP j n with h|h
   ·rw[(hall j h).2.2,xJ (Sm h)]
   ·rw[RF (by omega),RF (by rw[oZ,Sn];omega)]
  have eB:∀ j,j<n->B.getD j 0=cH sp c j:=fun j h=>by rw[RE,(hall j h).2.1];rfl
  rw[eO]at xo;obtain⟨T,hTe⟩:=R7 (Ve (pt (c:=c) (by omega)));have hBr:∀ x∈B,0<=x/\x<1125899906842624:=fun x hx=>by
   obtain⟨j,hj⟩:=RW.1 hx;have hjn:=get_lt hj;rw[(hall j (by omega)).2.1]at hj;cases hj;have:=hrb j;omega
  have hBT:∀ j,j<n->0<=B.getD j 0/\B.getD j 0<T:=fun j h=>by
   rw[eB j h,<- hTe];exact hrb j
  have hcmp:=Pg (id:=H.next+1) (g:=0) lB hBr (by omega) hBT (l:=List.range n) (fun a h=>RK.1 h);have xon:Hx.get (H.next+2)=some (nB 0 (List.range n)):=xo;refine W.sq ?_;simp only[go_sem,d14,d15];have SHx:SH (.clo 76 [.own (H.next+1) 0 0 n 1] []) (nC (fun i=>B.getD i 0) T n) (H.next+1) (.arr 0 3 (ints B)) (H.next+2) 0 n (List.range n) Hx :=
   ⟨Sn,hl,xon,xb,by omega,by omega,by omega,hcmp⟩
  refine az.clo (Pe SHx (Pf hBT) (by omega) _ fun l hp hs=>⟨trivial,?_⟩);obtain⟨H4,hH4⟩:∃ H4,H4=Hx.upd (H.next+2) (nB 0 l):=⟨_,rfl⟩
  rw[<- hH4];have hpw:=Ql (r:=fun i=>B.getD i 0) (T:=T) (n:=n) hBT hp hs;have pl:=hp.length_eq;rw[Sn]at pl;have hlm:∀ a∈l,a<n:=fun a h=>RK.1 (hp.mem_iff.1 h);have hnd:l.Nodup:=hp.nodup_iff.2 TE;have n4:H4.next=Hx.next:=by rw[hH4,aL]
  have g4o:H4.get (H.next+2)=some (.arr 0 3 (ints (dy l))):=by rw[hH4,aj,RC rfl];rfl
  have g4a:H4.get H.next=some (.arr 0 3 (ints (dB least sp c fun a=>decide (a∈l.take 0)))):=by rw[hH4,aj,RB (by omega),xa,eA];rfl
  have old4:∀ j,j<H.next->H4.get j=H.get j:=fun j h=>by rw[hH4,aj,RB (by omega)];exact hold j h
  clear hH4;have hLb:=yo (sp:=sp) (c:=c) (by omega);have hLk:iD sp c n=fg sp c:=by unfold iD fg;rw[hn]
  obtain⟨L,hL⟩:=R7 hLb.1;rw[hLk,hL]at d12;have Ln:L<n:=by omega
  have l4o:=ao g4o;have iol:(ints (dy l)).length=n:=by rw[bO,oZ,pl]
  have L0:(0:Int)<=L:=by omega
  have L1:(L:Int)<=n:=by omega
  simp only[go_sem];refine W.sq ?_;simp only[go_sem,d12,d15,l4o,L0,L1];refine W.en (fun E4=>E4 13=.own H.next 0 0 n 1 /\ E4 130=.own (H.next+2) 0 0 L 1 /\ E4 131=aa L /\ E4 132=aa 0) (by simp only[go_sem,d13]) fun E4 ⟨k13,k130,k131,k132⟩=>?_
  refine W.aI 11144928081394576555352445142605272463704064 (by kernel_rfl) (fun ρ Hy=>∃ m:Nat,ρ 132=aa m/\m<=L/\Hy.next=H4.next/\(∀ j,j<H.next->Hy.get j=H.get j)/\Hy.get (H.next+2)=some (.arr 0 3 (ints (dy l)))/\Hy.get H.next=some (.arr 0 3 (ints (dB least sp c fun a=>decide (a∈l.take m))))) (fun ρ Hy=>L - (iv (ρ 132)).toNat) ?_ ?_
  ·exact⟨0,k132,by omega,rfl,old4,g4o,g4a⟩
  rintro ρ3 Hy ⟨m,h132,hm,ny,oldy,gyo,gya⟩;refine W.en (fun E5=>E5 13=.own H.next 0 0 n 1 /\ E5 130=.own (H.next+2) 0 0 L 1 /\ E5 131=aa L /\ E5 132=aa m) (by simp only[go_sem,k13,k130,k131,h132]) fun E5 ⟨u13,u130,u131,u132⟩=>?_
  have lyo:=ao gyo;have lya:=ao gya;have isl:(ints (dB least sp c fun a=>decide (a∈l.take m))).length=n:=by rw[bO,px,hn]
  by_cases hb3:(m:Int)<L;rotate_left
  ·have hmL:m=L:=(by omega);subst hmL;have hTop:Top (cH sp c) n m (fun i=>decide (i∈l.take m)):=by
    have hpw':l.Pairwise (before (cH sp c)):=(List.Pairwise.and_mem.1 hpw).imp fun {i j} ⟨hi,hj,h⟩=>by
     unfold before at h ⊢;simp only[eB i (hlm i hi),eB j (hlm j hj)]at h;exact h
    exact Top.sorted hp hpw' (by omega)
   refine W.vs ?_;simp only[go_sem,u131,u132,hb3];refine W.vs ?_;simp only[go_sem,u13];have hov:Over H Hy:=⟨by omega,oldy⟩
   refine av.mk hov.next (hK _ _ Hy (by omega) (by rw[hsp'];exact⟨_,by rw[hL,Int.toNat_natCast,hn];exact hTop,rfl⟩) hov (.inr ⟨H.next,0,Nat.le_refl _,by omega,?_,gya⟩));rw[isl]
  obtain⟨q,hq⟩:=get_of_lt (l:=l) (i:=m) (by omega);have hqn:=hlm q (Ry hq);have gq:(ints (dy l))[m]?=some (aa q):=by rw[gI,xJ hq];rfl
  have gqn:=aK gq;have gs:(ints (dB least sp c fun a=>decide (a∈l.take m)))[q]?=some (aa (least+partAt sp c q)):=by rw[gI,Qo hnd hq (by omega)];rfl
  have gsn:=aK gs;have qb:(q:Int)<n:=by omega
  have wq:=Rw (least+partAt sp c q+1) (by have:=hpn q;have:=hpl q;omega);have wm1:=Rw ((m:Int)+1) (by omega);have es:setAt (ints (dB least sp c fun a=>decide (a∈l.take m))) q [.lit (.int .i64 (least+partAt sp c q+1))]=ints (dB least sp c fun a=>decide (a∈l.take (m+1))):=by rw[fa (by rw[px];omega),Qp hnd hq (by omega)]
  refine W.sq ?_;simp only[go_sem,u131,u132,hb3];refine W.sq ?_;simp only[go_sem];refine W.seq (W.block ?_);refine W.sq ?_;simp only[go_sem,u130,u132,lyo,gq,hb3];refine W.vs ?_;simp only[go_sem,u13,lya,isl,gs,qb,wq,es];refine⟨by omega,nX _ _ _ (by rfl) ?_⟩;simp only[go_sem,u132,wm1];exact⟨by rw[aL];omega,⟨m+1,rfl,by omega,by rw[aL];exact ny,fun j h=>by rw[aj,RB (by omega)];exact oldy j h,by rw[aj,RB (by omega)];exact gyo,by rw[aj,RC rfl]⟩,by rw[h132];simp only[aa,aM];omega⟩
 obtain⟨x,hx⟩:=get_of_lt (l:=c) (i:=k) (by omega);have hxr:=hc x (Ry hx);have hxn:=aK hx;have sx0:0<=sp*x:=SD sp0.1 hxr.1;have sx1:sp*x<=720*1099511627776:=SX sp0.2 hxr.2 hxr.1 (by omega);have wsx:=Rw (sp*x) (by omega);refine W.sq ?_;simp only[go_sem,d81,d82,hb2];refine W.sq ?_;simp only[go_sem];refine W.seq (W.block ?_);refine W.sq ?_;simp only[go_sem,d80,d82,hx,hxn,hb2];refine W.sq ?_;simp only[go_sem,d11,wsx];refine W.cu (fun s'=>s'.H=Hx/\s'.ρ 2=aa least/\s'.ρ 12=aa (iD sp c k)/\s'.ρ 13=.own H.next 0 0 n 1/\s'.ρ 14=.own (H.next+1) 0 0 n 1/\s'.ρ 15=.own (H.next+2) 0 0 n 1/\s'.ρ 16=aa k/\s'.ρ 18=aa (partAt sp c k)/\s'.ρ 19=aa (cH sp c k)/\s'.ρ 82=aa k) ?_ ?_
 ·by_cases hs:c.sum > 0
  ·obtain⟨p1,p2⟩:=Qq (sp:=sp) hs hx;have t1:(sp*x).tdiv c.sum=partAt sp c k:=(by rw[p1];exact Sj sx0);have t2:(sp*x).tmod c.sum=cH sp c k:=(by rw[p2];exact Sx sx0);have sn:¬ c.sum=0:=(by omega);have wp:=Rw (partAt sp c k) (by have:=hpn k;have:=hpl k;omega);have wr:=Rw (cH sp c k) (by have:=hrb k;omega);refine W.sq ?_;simp only[go_sem,d8,hs];refine W.cond (t:=true) (by simp only[go_sem]) ?_;refine W.draw 7 [0,0,3,0,0,24,15] Try.mixed (by kernel_rfl) (by kernel_rfl) ?_;simp only[go_sem,d2,d8,d12,d13,d14,d15,d82,sn,t1,t2,wp]
  ·obtain⟨p1,p2⟩:=Qr (sp:=sp) hs (show k<c.length by omega);rw[hn]at p1 p2;have t1:sp.tdiv n=partAt sp c k:=(by rw[p1];exact Sj sp0.1);have t2:sp.tmod n=cH sp c k:=(by rw[p2];exact Sx sp0.1);have wp:=Rw (partAt sp c k) (by have:=hpn k;have:=hpl k;omega);have wr:=Rw (cH sp c k) (by have:=hrb k;omega);refine W.sq ?_;simp only[go_sem,d8,hs];refine W.cond (t:=false) (by simp only[go_sem]) ?_;refine W.draw 9 [0,0,2,7,0,0,32,112,15] Try.mixed (by kernel_rfl) (by kernel_rfl) ?_;simp only[go_sem,d0,d2,d11,d12,d13,d14,d15,d82,gn,t1,t2,wp]
 rintro⟨ρ3,Hq⟩ ⟨hHq,q2,q12,q13,q14,q15,q16,q18,q19,q82⟩;simp only at hHq q2 q12 q13 q14 q15 q16 q18 q19 q82;rw[hHq];have wpl:=Rw (least+partAt sp c k) (by have:=hpn k;have:=hpl k;omega);have lxa:=ao xa;have iA:=bO A;have iB:=bO B;have iO:=bO O;rw[lA]at iA;rw[lB]at iB;rw[lO]at iO;have sA:setAt (ints A) k [.lit (.int .i64 (least+partAt sp c k))]=ints (A.set k (least+partAt sp c k)):=fa (by omega);have sB:setAt (ints B) k [.lit (.int .i64 (cH sp c k))]=ints (B.set k (cH sp c k)):=fa (by omega);have sO:setAt (ints O) k [.lit (.int .i64 (k:Int))]=ints (O.set k (k:Int)):=fa (by omega);obtain⟨Ha,hHa⟩:∃ Ha,Ha=Hx.upd H.next (.arr 0 3 (ints (A.set k (least+partAt sp c k)))):=⟨_,rfl⟩
 obtain⟨Hb,hHb⟩:∃ Hb,Hb=Ha.upd (H.next+1) (.arr 0 3 (ints (B.set k (cH sp c k)))):=⟨_,rfl⟩
 obtain⟨Ho,hHo⟩:∃ Ho,Ho=Hb.upd (H.next+2) (.arr 0 3 (ints (O.set k (k:Int)))):=⟨_,rfl⟩
 have lxb:Ha.live (H.next+1) 0=some (3,ints B):=ao (by rw[hHa,aj,RB (by omega)];exact xb);have lxo:Hb.live (H.next+2) 0=some (3,ints O):=ao (by rw[hHb,aj,RB (by omega),hHa,aj,RB (by omega)];exact xo);have gax:∀ b:Blk,Hx.upd H.next b=Hx.upd H.next b:=fun _=>rfl;refine W.sq ?_;simp only[go_sem,q2,q13,q14,q15,q16,q18,q19,lxa,iA,wpl,hb2,sA,<- hHa,lxb,iB,sB,<- hHb,lxo,iO,sO,<- hHo];have wlk:=Rw (iD sp c k - partAt sp c k) (by
  have h1:=hrs k;have h2:=hpl k;have h3:=hpn k;have:sp*(k:Int)<=720*1024:=SX sp0.2 (by omega) (by omega) (by omega);omega)
 have wk:=Rw ((k:Int)+1) (by omega);refine⟨by omega,by omega,by omega,nX _ _ _ (by rfl) ?_⟩;simp only[go_sem,q12,q18,wlk];refine W.vs ?_;simp only[go_sem,q82,wk];have hn':Ho.next=Hx.next:=by rw[hHo,hHb,hHa];rfl
 refine⟨by omega,⟨k+1,A.set k (least+partAt sp c k),B.set k (cH sp c k),O.set k (k:Int),rfl,by omega,by rw[Dw],by omega,fun j h=>?_,?_,?_,?_,by simp [lA,lB,lO],fun j hj=>?_⟩,by rw[h82];simp only[aa,aM];omega⟩
 ·rw[hHo,aj,RB (by omega),hHb,aj,RB (by omega),hHa,aj,RB (by omega)];exact hold j h
 ·rw[hHo,aj,RB (by omega),hHb,aj,RB (by omega),hHa,aj,RC rfl]
 ·rw[hHo,aj,RB (by omega),hHb,aj,RC rfl]
 ·rw[hHo,aj,RC rfl]
 ·by_cases e:j=k
  ·subst e;exact⟨by rw[RO (by omega)],by rw[RO (by omega)],by rw[RO (by omega)]⟩
  ·obtain⟨z1,z2,z3⟩:=hall j (by omega);exact⟨by rw[R9 (fun h=>e h.symm)];exact z1,by rw[R9 (fun h=>e h.symm)];exact z2,by rw[R9 (fun h=>e h.symm)];exact z3⟩
end Go.Proofs
namespace Go.Hx
variable {P:Program}
structure Own2 (lo:Nat)(H:AHeap)(e:TypeId)(v:AVal)(l:List AVal)(u:AVal)(m:List AVal):Prop where
 a:aB lo H e v l
 b:aB lo H e u m
 ne:∀ i g n g' n',v=.own i g 0 n 1->u≠.own i g' 0 n' 1
theorem Own2.symm {lo:Nat}{H:AHeap}{e:TypeId}{v u:AVal}{l m:List AVal}(h:Own2 lo H e v l u m):Own2 lo H e u m v l:=⟨h.b,h.a,fun i g n g' n' h1 h2=>h.ne i g' n' g n h2 h1⟩
theorem Own2.nil {lo:Nat}{H:AHeap}{e:TypeId}:Own2 lo H e (.lit (.slice none 0 0)) [] (.lit (.slice none 0 0)) []:=⟨.nil,.nil,fun _ _ _ _ _ h=>(by cases h)⟩
theorem Own2.keep {lo:Nat}{H H':AHeap}{e:TypeId}{v u:AVal}{l m:List AVal}(h:Own2 lo H e v l u m)(hn:H.next<=H'.next)(hk:∀ id,lo<=id->id<H.next->H'.get id=H.get id):Own2 lo H' e v l u m :=
 ⟨h.a.keep (Nat.le_refl _) hn fun id _ h1 h2 _ _=>hk id h1 h2,h.b.keep (Nat.le_refl _) hn fun id _ h1 h2 _ _=>hk id h1 h2,h.ne⟩
end Go.Hx
