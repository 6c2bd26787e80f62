/- Own work: contracts. -/
import Derived.Test.YtakancljiekbhaaDoorConC
import Derived.Test.YtakancljiekbhaaDoorConB
import Derived.Test.YtakancljiekbhaaDoorConA
set_option linter.all false
set_option maxRecDepth 100000
namespace Go.Proofs
open Go.Hx
section
variable {cv:AVal} {f:Nat->Nat} {rid:Nat} {rb:Blk} {id g n a b:Nat} {l:List Nat} {H:AHeap}
def sB (s:Int):Blk:=.arr 0 3 [aa s]
theorem AH {si:Nat}{s:Int}(S:SH cv f rid rb id g n l H)(hs:H.get si=some (sB s))(ha:a<n)(hb:b<n)(K:ARes->AHeap->Prop)(hK:∀ (x y:Nat) (t:Int),(x=a/\y=b\/x=b/\y=a)->K (.ret (.tup [aa x,aa y])) (H.upd si (sB t))):
  ae Tryd.prog G0 84 [.own id g 0 n 1,aa a,aa b,.ptr si 0 0,cv] H K:=by
 have hn:=S.hn;have ba:(a:Int)<n:=by omega
 have bb:(b:Int)<n:=by omega
 have ls:H.live si 0=some (3,[.lit (.int .i64 s)]):=ak hs;refine ae.cX (n:=32) (rs:=[.tmp 10,.tmp 11]) Tryd.func84 rfl rfl rfl (by decide) (by simp) ?_;refine W.sq ?_;simp only[go_sem];refine W.seq (W.cP (fun s'=>s'.H=H/\s'.ρ 1=aa a/\s'.ρ 2=aa b/\s'.ρ 3=.ptr si 0 0/\s'.ρ 22=.lit (.bool (decide (f (l.getD b 0)<f (l.getD a 0))))) ?_ ?_)
 ·refine W.draw 9 [0,0,0,6,14,0,0,96,224] Tryd.mixed (by kernel_rfl) (by kernel_rfl) ?_;simp only[go_sem,S.live,S.cell ha,S.cell hb,ba,bb];obtain⟨z,hz,hcc⟩:=S.ask hb ha;refine hcc _ ⟨trivial,?_⟩;by_cases hlt:f (l.getD b 0)<f (l.getD a 0)
  ·have hlt':=hz.2 hlt;simp only[go_sem,hlt',hlt]
  ·have hlt':¬ z<0:=fun h=>hlt (hz.1 h);simp only[go_sem,hlt',hlt]
 rintro⟨ρ3,Hs⟩ ⟨hHs,v1,v2,v3,vc⟩;simp only at hHs v1 v2 v3 vc;rw[hHs];clear hHs Hs;by_cases hlt:f (l.getD b 0)<f (l.getD a 0)
 ·rw[VM hlt]at vc;refine W.cond (t:=true) vc ?_;refine W.vs ?_;simp only[go_sem,v1,v2,v3,ls];exact av.mk (by rw[aE];exact Nat.le_refl _) (hK b a _ (.inr ⟨rfl,rfl⟩))
 ·rw[VZ hlt]at vc;refine W.cond (t:=false) vc ?_;refine W.vs ?_;simp only[go_sem];refine W.vs ?_;simp only[go_sem,v1,v2];have:=hK a b s (.inl ⟨rfl,rfl⟩);rw[Eo hs]at this;exact av.mk (Nat.le_refl _) this
theorem SH.sup (S:SH cv f rid rb id g n l H){si:Nat}(h1:si≠id)(h2:si≠rid)(b:Blk):SH cv f rid rb id g n l (H.upd si b) :=
 ⟨S.hl,S.hn,by rw[ag,Vw (fun e=>h1 e.symm)];exact S.hg,by rw[ag,Vw (fun e=>h2 e.symm)];exact S.hr,S.ne,S.il,S.rl,S.cmp⟩
theorem AI {si c:Nat}{s:Int}(S:SH cv f rid rb id g n l H)(h1:si≠id)(h2:si≠rid)(hs:H.get si=some (sB s))(ha:a<n)(hb:b<n)(hc:c<n)(K:ARes->AHeap->Prop)(hK:∀ (x:Nat) (t:Int),(x=a\/x=b\/x=c)->K (.ret (aa x)) (H.upd si (sB t))):
  ae Tryd.prog G0 82 [.own id g 0 n 1,aa a,aa b,aa c,.ptr si 0 0,cv] H K:=by
 have gs:∀ (H:AHeap) (t:Int),(H.upd si (sB t)).get si=some (sB t):=fun H t=>by rw[ag,Vx rfl]
 refine ae.cX (n:=41) (rs:=[.tmp 12]) Tryd.func82 rfl rfl rfl (by decide) (by simp) ?_;refine W.sq ?_;simp only[go_sem];refine W.sq ?_;simp only[go_sem];refine aw.clo (AH S hs ha hb _ fun x y t1 hxy=>⟨trivial,?_⟩);have S1:=S.sup h1 h2 (sB t1);have xn:x<n:=by omega
 have yn:y<n:=by omega
 simp only[go_sem];refine W.sq ?_;simp only[go_sem];refine aw.clo (AH S1 (gs H t1) yn hc _ fun x2 y2 t2 hxy2=>⟨trivial,?_⟩);have S2:=S1.sup h1 h2 (sB t2);have x2n:x2<n:=by omega
 simp only[go_sem];refine W.sq ?_;simp only[go_sem];refine aw.clo (AH S2 (gs _ t2) xn x2n _ fun x3 y3 t3 hxy3=>⟨trivial,?_⟩);simp only[go_sem];refine W.vs ?_;simp only[go_sem];rw[nt,nt];exact av.mk (by rw[aE];exact Nat.le_refl _) (hK y3 t3 (by omega))
theorem AJ {si:Nat}{s:Int}(S:SH cv f rid rb id g n l H)(h1:si≠id)(h2:si≠rid)(hs:H.get si=some (sB s))(h0:1<=a)(ha:a+1<n)(K:ARes->AHeap->Prop)(hK:∀ (x:Nat) (t:Int),(x=a - 1\/x=a\/x=a+1)->K (.ret (aa x)) (H.upd si (sB t))):
  ae Tryd.prog G0 81 [.own id g 0 n 1,aa a,.ptr si 0 0,cv] H K:=by
 have hn:=S.hn;have w1:IntKind.i64.wrap ((a:Int) - 1)=((a - 1:Nat):Int):=by rw[Vt _ (by omega)];omega
 have w2:IntKind.i64.wrap ((a:Int)+1)=((a+1:Nat):Int):=by rw[Vt _ (by omega)];omega
 refine ae.cX (n:=18) (rs:=[.tmp 8]) Tryd.func81 rfl rfl rfl (by decide) (by simp) ?_;refine W.sq ?_;simp only[go_sem];refine W.vs ?_;simp only[go_sem,w1,w2];refine aw.clo (AI S h1 h2 hs (by omega) (by omega) ha _ fun x t hx=>⟨trivial,?_⟩);simp only[go_sem];exact av.mk (by rw[aE];exact Nat.le_refl _) (hK x t hx)
set_option maxHeartbeats 8000000 in
theorem choose_spec (S:SH cv f rid rb id g n l H)(hab:a+8<=b)(hb:b<=n)(K:ARes->AHeap->Prop)(hK:∀ (p:Nat) (h:Int),a<=p->p<b->K (.ret (.tup [aa p,aa h])) H):
  ae Tryd.prog G0 70 [.own id g 0 n 1,aa a,aa b,cv] H K:=by
 refine ae.clo ⟨_,Tryd.func70,rfl,rfl⟩ fun hcl=>?_;have hn:=S.hn;have hil:=S.il;have hrl:=S.rl;have w0:IntKind.i64.wrap ((b:Int) - (a:Int))=((b - a:Nat):Int):=by rw[Vt _ (by omega)];omega
 obtain⟨L,hL⟩:∃ L,L=b - a:=⟨_,rfl⟩
 rw[<- hL]at w0;have g8:(L:Int) >= 8:=by omega
 have q1:((L:Int)).tdiv 4=((L / 4:Nat):Int):=by rw[Wa (by omega)];push_cast;rfl
 have q2:IntKind.i64.wrap ((L / 4:Nat):Int)=((L / 4:Nat):Int):=Vt _ (by omega);have q31:IntKind.i64.wrap (((L / 4:Nat):Int)*1)=((L / 4:Nat):Int):=by rw[Vt _ (by omega)];omega
 have q32:IntKind.i64.wrap (((L / 4:Nat):Int)*2)=((L / 4*2:Nat):Int):=by rw[Vt _ (by omega)];omega
 have q33:IntKind.i64.wrap (((L / 4:Nat):Int)*3)=((L / 4*3:Nat):Int):=by rw[Vt _ (by omega)];omega
 have q41:IntKind.i64.wrap ((a:Int)+((L / 4:Nat):Int))=((a+L / 4:Nat):Int):=by rw[Vt _ (by omega)];omega
 have q42:IntKind.i64.wrap ((a:Int)+((L / 4*2:Nat):Int))=((a+L / 4*2:Nat):Int):=by rw[Vt _ (by omega)];omega
 have q43:IntKind.i64.wrap ((a:Int)+((L / 4*3:Nat):Int))=((a+L / 4*3:Nat):Int):=by rw[Vt _ (by omega)];omega
 refine ae.cX (n:=63) (rs:=[.tmp 8,.tmp 9]) Tryd.func70 rfl rfl rfl (by decide) (by simp) ?_;refine W.sq ?_;simp only[go_sem];refine W.sq ?_;simp only[go_sem,w0];refine W.sq ?_;simp only[go_sem];obtain⟨H1,hH1⟩:∃ H1,H1=ext H [.arr 0 3 [.lit (.int .i64 0)]]:=⟨_,rfl⟩
 have o1:Over H H1:=by rw[hH1];exact .ext _ _
 have gs0:H1.get H.next=some (sB 0):=by rw[hH1];exact cS
 rw[<- hH1];clear hH1;refine W.sq ?_;simp only[go_sem,q1,q2,q31,q41];refine W.sq ?_;simp only[go_sem,q1,q2,q32,q42];refine W.sq ?_;simp only[go_sem,q1,q2,q33,q43];refine W.en (fun E=>E 0=.own id g 0 n 1 /\ E 3=cv /\ E 10=aa L /\ E 11=.ptr H.next 0 0 /\ E 12=aa ((a+L / 4:Nat):Int) /\ E 13=aa ((a+L / 4*2:Nat):Int) /\ E 14=aa ((a+L / 4*3:Nat):Int)) (by simp only[go_sem]) fun E ⟨e0,e3,e10,e11,e12,e13,e14⟩=>?_
 have S1:=S.over o1;have h1:H.next≠id:=by omega
 have h2:H.next≠rid:=by omega
 have gs:∀ (H':AHeap) (t:Int),(H'.upd H.next (sB t)).get H.next=some (sB t):=fun H' t=>by rw[ag,Vx rfl]
 refine W.cP (fun s'=>s'.ρ 11=.ptr H.next 0 0/\∃ (t:Int) (p:Nat),s'.H=H1.upd H.next (sB t)/\s'.ρ 13=aa p/\a<=p/\p<b) ?_ ?_
 ·refine W.vs ?_;by_cases h50:(50:Int)<=L
  ·simp only[go_sem,e0,e3,e10,e11,e12,g8,h50];refine aw.clo (AJ S1 h1 h2 gs0 (by omega) (by omega) _ fun x t hx=>⟨trivial,?_⟩);simp only[go_sem,e0,e3,e11,e13];refine aw.clo (AJ (S1.sup h1 h2 (sB t)) h1 h2 (gs _ t) (by omega) (by omega) _ fun x2 t2 hx2=>⟨trivial,?_⟩);rw[nt];simp only[go_sem,e0,e3,e11,e14];refine aw.clo (AJ (S1.sup h1 h2 (sB t2)) h1 h2 (gs _ t2) (by omega) (by omega) _ fun x3 t3 hx3=>⟨trivial,?_⟩);rw[nt];simp only[go_sem,e0,e3,e11];refine aw.clo (AI (S1.sup h1 h2 (sB t3)) h1 h2 (gs _ t3) (by omega) (by omega) (by omega) _ fun x4 t4 hx4=>⟨trivial,?_⟩);rw[nt];simp only[go_sem,e11];exact⟨t4,x4,rfl,rfl,by omega,by omega⟩
  ·simp only[go_sem,e0,e3,e10,e11,e12,e13,e14,g8,h50];refine aw.clo (AI S1 h1 h2 gs0 (by omega) (by omega) (by omega) _ fun x4 t4 hx4=>⟨trivial,?_⟩);simp only[go_sem,e11];exact⟨t4,x4,rfl,rfl,by omega,by omega⟩
 rintro⟨ρ3,Hs⟩ ⟨v11,t,p,hHs,v13,hp1,hp2⟩;simp only at hHs v11 v13;have ls:Hs.live H.next 0=some (3,[.lit (.int .i64 t)]):=ak (by rw[hHs];exact gs _ t);have ov:Over H Hs:=by rw[hHs];exact⟨by rw[aE];exact o1.next,fun j hj=>by rw[ag,Vw (by omega)];exact o1.old j hj⟩
 have fin:∀ h:Int,av Tryd.prog G0 H K (.tup [aa p,aa h]) Hs:=fun h=>av.bR aT hcl ov (.tup rfl fun i hi _=>match i,hi with
  | 0,_=>.lit _
  | 1,_=>.lit _) (hK p h hp1 hp2)
 refine W.vs ?_;by_cases t0:t=0
 ·simp only[go_sem,v11,v13,ls,t0];exact fin 1
 by_cases t12:t=12
 ·simp only[go_sem,v11,v13,ls,t12];exact fin 2
 simp only[go_sem,v11,v13,ls,t0,t12];exact fin 0
end
end Go.Proofs
namespace Go.Hx
theorem W.Fu {P:Program}{G:Nat->Option (List AVal)}{n:Nat}{rd:Option Nat}{Q:AX->St->Prop}{s:St}{x y:Code}(Φ:St->Prop)(h:W P G n rd x (iu Φ Q) s)(h2:∀ s',Φ s'->W P G n rd y Q s'):W P G n rd (.seq x y) Q s :=
 W.seq (h.mono fun ax s' hx=>by
  cases ax with
  | normal=>exact h2 s' hx
  | _=>exact hx)
end Go.Hx
namespace Go.Proofs
open Go.Hx
theorem Bl.sub {f:Nat->Nat}{l:List Nat}{a b c:Nat}(h:Bl f l a b)(hc:c<=b):Bl f l a c:=h.imp id fun h i h1 h2=>h i h1 (by omega)
section
variable {cv:AVal} {f:Nat->Nat} {rid:Nat} {rb:Blk} {id g n:Nat}
set_option maxHeartbeats 32000000 in
theorem SG:∀ (m a b:Nat) (l:List Nat) (H:AHeap) (L:Int),b - a<m->SH cv f rid rb id g n l H->lk f l->a<=b->b<=n->(0<=L/\L<256)->Bl f l a b->∀ (K:ARes->AHeap->Prop),(∀ q,bq a b l q->dH f q a b->K (.ret (.tup [])) (H.upd id (nB g q))) ->
  ae Tryd.prog G0 63 [.own id g 0 n 1,aa a,aa b,aa L,cv] H K:=by
 intro m
 induction m with
 | zero =>
  intro a b l H L hm;omega
 | succ m ih =>
  intro a b l H L hm S hD hab hb hL hB K hK;have hn:=S.hn;refine ae.cX (n:=148) (rs:=[]) Tryd.func63 rfl rfl rfl (by decide) (by simp) ?_;refine W.sq ?_;simp only[go_sem];refine W.sq ?_;simp only[go_sem];refine W.en (fun E=>E 0=.own id g 0 n 1 /\ E 1=aa a /\ E 2=aa b /\ E 3=aa L /\ E 4=cv /\ E 10=.lit (.bool true) /\ E 11=.lit (.bool true)) (by simp only[go_sem]) fun E ⟨e0,e1,e2,e3,e4,e10,e11⟩=>?_
  refine W.block ?_;refine W.aG 356811923176489970264571492362373784095685646 (by kernel_rfl) (fun ρ Hx=>∃ (c d:Nat) (M:Int) (wb wp:Bool) (q:List Nat),ρ 1=aa c/\ρ 2=aa d/\ρ 3=aa M/\ρ 10=.lit (.bool wb)/\ρ 11=.lit (.bool wp)/\a<=c/\c<=d/\d<=b/\(0<=M/\M<256)/\bq a b l q/\Out f q a b c d/\Hx=H.upd id (nB g q)) (fun ρ Hx=>(iv (ρ 2) - iv (ρ 1)).toNat) ?_ ?_
  ·exact⟨a,b,L,true,true,l,e1,e2,e3,e10,e11,Nat.le_refl _,hab,Nat.le_refl _,hL,.refl _ _ _,.start,S.self.symm⟩
  rintro ρ Hx ⟨c,d,M,wb,wp,q,h1,h2,h3,h10,h11,hac,hcd,hdb,hM,hp,hO,hHx⟩;refine W.en (fun F=>F 0=.own id g 0 n 1 /\ F 1=aa c /\ F 2=aa d /\ F 3=aa M /\ F 4=cv /\ F 10=.lit (.bool wb) /\ F 11=.lit (.bool wp)) (by simp only[go_sem,e0,h1,h2,h3,e4,h10,h11]) fun F ⟨d0,d1,d2,d3,d4,d10,d11⟩=>?_
  have pl:=hp.len;rw[S.hl]at pl;have T:=S.upd hp.1;rw[<- hHx]at T;have hDq:=hD.perm hp.1;have hBq:=(hO.bl (hB.perm hp (by rw[S.hl];exact hb)) hDq hac hdb (by rw[pl];exact hb))
  have back:∀ q',bq c d q q'->dH f q' c d->av Tryd.prog G0 H K (.tup []) (Hx.upd id (nB g q')):=fun q' h1 h2=>by
   rw[hHx,eh];exact av.mk (Nat.le_refl _) (hK q' (hp.trans (h1.mono hac hdb)) ((hO.perm h1 hac hdb (by rw[pl];exact hb)).done h2))
  have wl:IntKind.i64.wrap ((d:Int) - (c:Int))=((d - c:Nat):Int):=by rw[Vt _ (by omega)];omega
  obtain⟨N,hN⟩:∃ N,N=d - c:=⟨_,rfl⟩
  rw[<- hN]at wl;refine W.block ?_;refine W.sq ?_;simp only[go_sem,d1,d2,wl];by_cases h12:(N:Int)<=12
  ·refine W.sq ?_;simp only[go_sem,d0,d1,d2,d4,h12];refine aw.clo (Sw T hcd (by omega) _ fun q' hq' hs'=>⟨trivial,?_⟩);simp only[go_sem];exact back q' hq' hs'
  refine W.sq ?_;simp only[go_sem,h12];by_cases hM0:M=0
  ·refine W.sq ?_;simp only[go_sem,d0,d1,d2,d3,d4,hM0];refine aw.clo (Sz T (by omega) (by omega) _ fun q' hq' hs'=>⟨trivial,?_⟩);simp only[go_sem];exact back q' hq' hs'
  refine W.sq ?_;simp only[go_sem,d3,hM0];refine W.en (fun J=>J 0=.own id g 0 n 1 /\ J 1=aa c /\ J 2=aa d /\ J 3=aa M /\ J 4=cv /\ J 10=.lit (.bool wb) /\ J 11=.lit (.bool wp) /\ J 12=aa N) (by simp only[go_sem,d0,d1,d2,d3,d4,d10,d11]) fun J ⟨j0,j1,j2,j3,j4,j10,j11,j12⟩=>?_
  refine W.cP (fun s'=>s'.ρ 0=.own id g 0 n 1/\s'.ρ 1=aa c/\s'.ρ 2=aa d/\s'.ρ 4=cv/\s'.ρ 10=.lit (.bool wb)/\s'.ρ 11=.lit (.bool wp)/\s'.ρ 12=aa N/\∃ (M1:Int) (q1:List Nat),s'.ρ 3=aa M1/\(0<=M1/\M1<256)/\bq c d q q1/\s'.H=Hx.upd id (nB g q1)) ?_ ?_
  ·cases wb with
   | true =>
    refine W.vs ?_;simp only[go_sem,j0,j1,j2,j3,j4,j10,j11,j12];exact⟨M,q,rfl,hM,.refl _ _ _,T.self.symm⟩
   | false =>
    have wM:=Vt (M - 1) (by omega);refine W.vs ?_;simp only[go_sem,j0,j1,j2,j4,j10];refine aw.clo (SF T (by omega) (by omega) _ fun q' hq'=>⟨trivial,?_⟩);simp only[go_sem,j0,j1,j2,j3,j4,j10,j11,j12,wM];exact⟨M - 1,q',rfl,by omega,hq',rfl⟩
  rintro⟨ρa,Ha⟩ ⟨a0,a1,a2,a4,a10,a11,a12,M1,q1,a3,hM1,hp1,hHa⟩;simp only at a0 a1 a2 a4 a10 a11 a12 a3 hHa;have Ta:=T.upd hp1.1;rw[<- hHa]at Ta;refine W.sq ?_;simp only[go_sem,a0,a1,a2,a4];refine aw.clo (choose_spec Ta (by omega) (by omega) _ fun p0 h0 hp01 hp02=>⟨trivial,?_⟩);simp only[go_sem];refine W.env fun R hR=>?_;have r0:R 0=.own id g 0 n 1:=by rw[hR];simp only[go_sem,a0]
  have r1:R 1=aa c:=by rw[hR];simp only[go_sem,a1]
  have r2:R 2=aa d:=by rw[hR];simp only[go_sem,a2]
  have r3:R 3=aa M1:=by rw[hR];simp only[go_sem,a3]
  have r4:R 4=cv:=by rw[hR];simp only[go_sem,a4]
  have r10:R 10=.lit (.bool wb):=by rw[hR];simp only[go_sem,a10]
  have r11:R 11=.lit (.bool wp):=by rw[hR];simp only[go_sem,a11]
  have r12:R 12=aa N:=by rw[hR];simp only[go_sem,a12]
  have r13:R 13=aa p0:=by rw[hR];simp only[go_sem]
  have r14:R 14=aa h0:=by rw[hR];simp only[go_sem]
  clear hR;refine W.cP (fun s'=>s'.ρ 0=.own id g 0 n 1/\s'.ρ 1=aa c/\s'.ρ 2=aa d/\s'.ρ 3=aa M1/\s'.ρ 4=cv/\s'.ρ 10=.lit (.bool wb)/\s'.ρ 11=.lit (.bool wp)/\s'.ρ 12=aa N/\∃ (p:Nat) (h:Int) (q2:List Nat),s'.ρ 13=aa p/\s'.ρ 14=aa h/\c<=p/\p<d/\bq c d q q2/\s'.H=Hx.upd id (nB g q2)) ?_ ?_
  ·by_cases hh:h0=2
   ·have w1:IntKind.i64.wrap ((d:Int) - 1)=((d - 1:Nat):Int):=(by rw[Vt _ (by omega)];omega);have w2:IntKind.i64.wrap ((p0:Int) - (c:Int))=((p0 - c:Nat):Int):=(by rw[Vt _ (by omega)];omega);have w3:IntKind.i64.wrap (((d - 1:Nat):Int) - ((p0 - c:Nat):Int))=((d - 1 - (p0 - c):Nat):Int):=(by rw[Vt _ (by omega)];omega);refine W.vs ?_;simp only[go_sem,r0,r1,r2,r4,r14,hh];refine aw.clo (Sv Ta (by omega) (by omega) _ fun q' hq'=>⟨trivial,?_⟩);simp only[go_sem,r0,r1,r2,r3,r4,r10,r11,r12,r13,w1,w2,w3];exact⟨d - 1 - (p0 - c),1,q',rfl,rfl,by omega,by omega,hp1.trans hq',by rw[hHa,eh]⟩
   ·refine W.vs ?_;simp only[go_sem,r0,r1,r2,r3,r4,r10,r11,r12,r13,r14,hh];exact⟨p0,h0,q1,rfl,rfl,hp01,hp02,hp1,hHa⟩
  rintro⟨ρb,Hb⟩ ⟨b0,b1,b2,b3,b4,b10,b11,b12,p,h,q2,b13,b14,hcp,hpd,hp2,hHb⟩;simp only at b0 b1 b2 b3 b4 b10 b11 b12 b13 b14 hHb;have Tb:=T.upd hp2.1;rw[<- hHb]at Tb;have pq:=hp2.len;rw[pl]at pq;have bl2:=hBq.perm hp2 (by rw[pl];omega);refine W.Fu (fun s'=>s'.ρ 0=.own id g 0 n 1/\s'.ρ 1=aa c/\s'.ρ 2=aa d/\s'.ρ 3=aa M1/\s'.ρ 4=cv/\s'.ρ 12=aa N/\s'.ρ 13=aa p/\∃ (q3:List Nat),bq c d q q3/\s'.H=Hx.upd id (nB g q3)) ?_ ?_
  ·refine W.cP (fun s'=>s'.ρ 0=.own id g 0 n 1/\s'.ρ 1=aa c/\s'.ρ 2=aa d/\s'.ρ 3=aa M1/\s'.ρ 4=cv/\s'.ρ 12=aa N/\s'.ρ 13=aa p/\s'.ρ 75=.lit (.bool (wb && wp && decide (h=1)))/\s'.H=Hb) ?_ ?_
   ·refine W.vs ?_;by_cases hh:h=1
    ·cases wb<;>cases wp<;>simp only[go_sem,b0,b1,b2,b3,b4,b10,b11,b12,b13,b14,hh]<;>rfl
    ·cases wb<;>cases wp<;>simp only[go_sem,b0,b1,b2,b3,b4,b10,b11,b12,b13,b14,hh]<;>rfl
   rintro⟨ρc,Hc⟩ ⟨c0,c1,c2,c3,c4,c12,c13,c75,hHc⟩;simp only at c0 c1 c2 c3 c4 c12 c13 c75 hHc;rw[hHc];clear hHc Hc;cases hfl:(wb && wp && decide (h=1)) with
   | false =>
    rw[hfl]at c75;refine W.cond (t:=false) c75 ?_;refine W.vs ?_;simp only[go_sem];exact⟨c0,c1,c2,c3,c4,c12,c13,q2,hp2,hHb⟩
   | true =>
    rw[hfl]at c75;refine W.cond (t:=true) c75 ?_;refine W.vs ?_;simp only[go_sem,c0,c1,c2,c4];refine aw.clo (Sy Tb (by omega) (by omega) bl2 _ fun q' fl hq' hs'=>⟨trivial,?_⟩);cases fl with
    | true =>
     simp only[go_sem];have:=back q' (hp2.trans hq') (hs' rfl);rw[hHb,eh];exact this
    | false =>
     simp only[go_sem];exact⟨c0,c1,c2,c3,c4,c12,c13,q',hp2.trans hq',by rw[hHb,eh]⟩
  clear b0 b1 b2 b3 b4 b10 b11 b12 b13 b14 Tb bl2 pq hp2 hHb;clear q2 Hb;rintro⟨ρd,Hd⟩ ⟨b0,b1,b2,b3,b4,b12,b13,q2,hp2,hHb⟩;simp only at b0 b1 b2 b3 b4 b12 b13 hHb;have Tb:=T.upd hp2.1;rw[<- hHb]at Tb;have pq:=hp2.len;rw[pl]at pq;have bl2:=hBq.perm hp2 (by rw[pl];omega);have hO2:=hO.perm hp2 hac hdb (by rw[pl];exact hb);have hDq2:=hDq.perm hp2.1;refine W.Fu (fun s'=>s'.ρ 0=.own id g 0 n 1/\s'.ρ 1=aa c/\s'.ρ 2=aa d/\s'.ρ 3=aa M1/\s'.ρ 4=cv/\s'.ρ 12=aa N/\s'.ρ 13=aa p/\s'.H=Hd) ?_ ?_
  ·refine W.cP (fun s'=>s'.ρ 0=.own id g 0 n 1/\s'.ρ 1=aa c/\s'.ρ 2=aa d/\s'.ρ 3=aa M1/\s'.ρ 4=cv/\s'.ρ 12=aa N/\s'.ρ 13=aa p/\s'.H=Hd/\s'.ρ 97=.lit (.bool false)) ?_ ?_
   ·refine W.draw 13 [0,1,3,7,7,7,39,119,247,7,7,1543,3591] Tryd.mixed (by kernel_rfl) (by kernel_rfl) ?_;by_cases hc0:(c:Int) > 0
    ·have w1:IntKind.i64.wrap ((c:Int) - 1)=((c - 1:Nat):Int):=(by rw[Vt _ (by omega)];omega);have c1n:c - 1<n:=(by omega);have pn:p<n:=(by omega);have x1:((c - 1:Nat):Int)<n:=(by omega);have x2:(p:Int)<n:=(by omega);simp only[go_sem,b0,b1,b4,b13,hc0,w1,Tb.live,Tb.cell c1n,Tb.cell pn,x1,x2];obtain⟨z,hz,hcc⟩:=Tb.ask c1n pn;refine hcc _ ⟨trivial,?_⟩;have hlt:f (q2.getD (c - 1) 0)<f (q2.getD p 0):=by
      rcases bl2 with h3|h3
      ·omega
      ·exact h3 p hcp hpd
     have hlt':=hz.2 hlt;simp only[go_sem,b0,b1,b2,b3,b4,b12,b13,hlt']
     try rfl
    ·simp only[go_sem,b0,b1,b2,b3,b4,b12,b13,hc0]
     try rfl
   rintro⟨ρc,Hc⟩ ⟨c0,c1,c2,c3,c4,c12,c13,hHc,c97⟩;simp only at c0 c1 c2 c3 c4 c12 c13 c97 hHc;refine W.cond (t:=false) c97 ?_;refine W.vs ?_;simp only[go_sem];exact⟨c0,c1,c2,c3,c4,c12,c13,hHc⟩
  rintro⟨ρc,Hc⟩ ⟨c0,c1,c2,c3,c4,c12,c13,hHc⟩;simp only at c0 c1 c2 c3 c4 c12 c13 hHc;rw[hHc];clear hHc Hc;refine W.sq ?_;simp only[go_sem,c0,c1,c2,c4,c13];refine aw.clo (Sx Tb hcp hpd (by omega) _ fun q3 k al hp3 hpar hck hkd=>⟨trivial,?_⟩);have Tc:=Tb.upd hp3.1;have hp23:=hp2.trans hp3;have hO3:=hO2.perm hp3 hac hdb (by rw[pq];exact hb);have hDq3:=hDq2.perm hp3.1;have bl3:=bl2.perm hp3 (by rw[pq];omega);have pq3:=hp3.len;rw[pq]at pq3;have wk1:IntKind.i64.wrap ((k:Int) - (c:Int))=((k - c:Nat):Int):=by rw[Vt _ (by omega)];omega
  have wk2:IntKind.i64.wrap ((d:Int) - (k:Int))=((d - k:Nat):Int):=by rw[Vt _ (by omega)];omega
  have wk3:IntKind.i64.wrap ((k:Int)+1)=((k+1:Nat):Int):=by rw[Vt _ (by omega)];omega
  have t8:((N:Int)).tdiv 8=((N / 8:Nat):Int):=by rw[Wa (by omega)];push_cast;rfl
  have t8w:IntKind.i64.wrap ((N / 8:Nat):Int)=((N / 8:Nat):Int):=Vt _ (by omega);obtain⟨Hp,hHp⟩:∃ Hp,Hp=Hd.upd id (nB g q3):=⟨_,rfl⟩
  rw[<- hHp]at Tc ⊢;simp only[go_sem];refine W.sq ?_;simp only[go_sem];refine W.sq ?_;simp only[go_sem,c1,c2,wk1,wk2];refine W.sq ?_;simp only[go_sem,c12,t8,t8w];by_cases hlr:((k - c:Nat):Int)<((d - k:Nat):Int)
  ·refine W.sq ?_;simp only[go_sem,hlr];refine W.vs ?_;simp only[go_sem,c0,c1,c3,c4];refine aw.clo (ih c k q3 Hp M1 (by omega) Tc hDq3 hck (by omega) hM1 (bl3.sub (by omega)) _ fun q4 hq4 hs4=>⟨trivial,?_⟩);simp only[go_sem,c2,c3,wk3];refine⟨by rw[hHp,hHb,hHx];exact Nat.le_refl _,⟨k+1,d,M1,_,_,q4,rfl,rfl,rfl,rfl,rfl,by omega,by omega,hdb,hM1,hp.trans ((hp23.trans (hq4.mono (Nat.le_refl _) (by omega))).mono hac hdb),hO3.left hpar hck hkd hac hdb (by rw[pq3];exact hb) hq4 hs4,by rw[hHp,hHb,hHx,eh,eh,eh]⟩,by rw[h1,h2];simp only[aa,aN];omega⟩
  refine W.sq ?_;simp only[go_sem,hlr];refine W.vs ?_;simp only[go_sem,c0,c2,c3,c4,wk3];refine aw.clo (ih (k+1) d q3 Hp M1 (by omega) Tc hDq3 (by omega) (by omega) hM1 (.inr fun i i1 i2=>?_) _ fun q4 hq4 hs4=>⟨trivial,?_⟩)
  ·have i3:=hpar.2 i (by omega) i2;have i4:=hDq3.ne (i:=k) (j:=i) (by omega) (by omega) (by omega);rw[Xq];omega
  simp only[go_sem,c1,c2,c3];refine⟨by rw[hHp,hHb,hHx];exact Nat.le_refl _,⟨c,k,M1,_,_,q4,rfl,rfl,rfl,rfl,rfl,hac,hck,by omega,hM1,hp.trans ((hp23.trans (hq4.mono (by omega) (Nat.le_refl _))).mono hac hdb),hO3.right hpar hck hkd hac hdb (by rw[pq3];exact hb) hq4 hs4,by rw[hHp,hHb,hHx,eh,eh,eh]⟩,by rw[h1,h2];simp only[aa,aN];omega⟩
end
end Go.Proofs
set_option linter.unusedVariables false
namespace Go.Proofs
theorem Gf {l:List Nat}{m i:Nat}(hi:l[m]?=some i)(a:Nat):a∈l.take (m+1)↔a∈l.take m\/a=i:=by
 rw[List.take_add_one,hi];simp
theorem T4 {l:List Nat}(hnd:l.Nodup){m i:Nat}(hi:l[m]?=some i):i ∉ l.take m:=fun h=>by
 obtain⟨j,hj⟩:=V0.1 h;have hjm:j<m:=by
  have:=get_lt hj;rw[VC]at this;omega
 rw[WD hjm]at hj;have:=(W4 (get_lt hj) hnd).1 (hj.trans hi.symm);omega
theorem T5 (least sp:Int)(c:List Int)(l:List Nat):eF least sp c (fun a=>decide (a∈l.take 0))=(List.range c.length).map fun i=>least+partAt sp c i:=by
 unfold eF;refine V7 fun i _=>?_;simp
theorem T6 {least sp:Int}{c:List Int}{l:List Nat}(hnd:l.Nodup){m i:Nat}(hi:l[m]?=some i)(hic:i<c.length):(eF least sp c fun a=>decide (a∈l.take m))[i]?=some (least+partAt sp c i):=by
 rw[tt hic,VZ (T4 hnd hi)];simp
theorem T7 {least sp:Int}{c:List Int}{l:List Nat}(hnd:l.Nodup){m i:Nat}(hi:l[m]?=some i)(hic:i<c.length):(eF least sp c fun a=>decide (a∈l.take m)).set i (least+partAt sp c i+1)=eF least sp c fun a=>decide (a∈l.take (m+1)):=by
 apply V9;intro a;rw[W3];by_cases h:i=a
 ·subst h;rw[Vx rfl,Vx (by rw[rf];exact hic),tt hic,VM ((Gf hi i).2 (.inr rfl))];simp
 ·rw[Vw h];rcases VR a c.length with ha|ha
  ·rw[tt ha,tt ha];congr 2;have:(a∈l.take (m+1))↔a∈l.take m:=(by rw[Gf hi];exact⟨fun h'=>h'.elim id fun e=>absurd e.symm h,.inl⟩);simp only[this]
  ·rw[VB (by rw[rf];exact ha),VB (by rw[rf];exact ha)]
theorem T8 {sp:Int}{c:List Int}(h:0<c.sum){i:Nat}{x:Int}(hx:c[i]?=some x):partAt sp c i=sp*x / c.sum/\dq sp c i=sp*x % c.sum:=by
 unfold partAt dq fI dM;rw[Vx h,Vx h,Vy,hx];exact⟨rfl,rfl⟩
theorem T9 {sp:Int}{c:List Int}(h:¬ 0<c.sum){i:Nat}(hi:i<c.length):partAt sp c i=sp / c.length/\dq sp c i=sp % c.length:=by
 unfold partAt dq fI dM;rw[Vw h,Vw h,Vy,WY,Vx hi];simp
def jt (sp:Int)(c:List Int)(k:Nat):Int:=sp - ((List.range k).map (partAt sp c)).sum
theorem Gg (sp:Int)(c:List Int)(k:Nat):jt sp c (k+1)=jt sp c k - partAt sp c k:=by
 unfold jt;rw[WI,Wo,XR];simp;omega
theorem Gh {sp:Int}{c:List Int}(hc:∀ x∈c,0<=x)(h0:0<c.length)(hs:0<=sp)(i:Nat):partAt sp c i<=sp:=by
 have hT:=re h0;refine Int.ediv_le_of_le_mul hT ?_;have:(fI c).getD i 0<=dM c:=by
  rw[Vy];cases e:(fI c)[i]? with
  | none=>exact Y8 hT
  | some a =>
   have:=w6 (F5 hc) a (Vs e);rw[F1]at this;exact this
 exact V8 this hs
theorem Ua {sp:Int}{c:List Int}(hc:∀ x∈c,0<=x)(h0:0<c.length)(hs:0<=sp)(k:Nat):jt sp c k<=sp/\sp - sp*k<=jt sp c k:=by
 induction k with
 | zero=>simp [jt]
 | succ k ih =>
  rw[Gg];have h1:=AZ hc h0 hs k;have h2:=Gh hc h0 hs k;have h3:sp*((k+1:Nat):Int)=sp*k+sp:=by push_cast;rw[Xh,YO]
  omega
end Go.Proofs
namespace Go.Proofs
open Go.Hx
theorem SI {cv:AVal}{f:Nat->Nat}{rid:Nat}{rb:Blk}{id g n:Nat}{l:List Nat}{H:AHeap}(S:SH cv f rid rb id g n l H)(hD:lk f l)(h1:1<=n)(K:ARes->AHeap->Prop)(hK:∀ q,q.Perm l->Ge f q q.length->K (.ret (.tup [])) (H.upd id (nB g q))):
  ae Tryd.prog G0 52 [.own id g 0 n 1,cv] H K:=by
 have hn:=S.hn;have wn:IntKind.u64.wrap ((n:Nat):Int)=(n:Int):=Wl _ (by omega);have w2:=Vt (n:Int) (by omega);refine ae.cX (n:=14) (rs:=[]) Tryd.func52 rfl rfl rfl (by decide) (by simp) ?_;refine W.sq ?_;simp only[go_sem,S.live];refine W.vs ?_;simp only[go_sem,wn];refine aw.clo (Ft h1 hn H _ fun L hL _=>⟨trivial,?_⟩);simp only[go_sem];refine aw.clo (SG (n+1) 0 n l H L (by omega) S hD (by omega) (Nat.le_refl _) (by omega) (.inl rfl) _ fun q hq hs=>⟨trivial,?_⟩);simp only[go_sem];exact av.mk (by rw[aE];exact Nat.le_refl _) (hK q hq.1 fun a b h1 h2=>hs a b (XY _) h1 (by rw[hq.len,S.hl]at h2;exact h2))
theorem SJ {r:Nat->Int}{T n:Nat}(hr:∀ i,i<n->0<=r i/\r i<T):lk (oX r T n) (List.range n):=by
 unfold lk;rw[YP,List.pairwise_map];refine(List.Pairwise.and_mem.1 (YP.1 Xw)).imp fun {i j} ⟨hi,hj,hne⟩ e=>?_;have hi:=VJ.1 hi;have hj:=VJ.1 hj;rcases FZ hne (r:=r) with b|b
 ·have:=(w7 hr hi hj).2 b;omega
 ·have:=(w7 hr hj hi).2 b;omega
theorem SK {id g n:Nat}{rs:List Int}(hn:rs.length=n)(hr:∀ x∈rs,0<=x/\x<1125899906842624)(hn6:n<=1024){T:Nat}(hT:∀ i,i<n->0<=rs.getD i 0/\rs.getD i 0<T){l:List Nat}(hl:∀ a∈l,a<n):
  EG (.clo 53 [.own id g 0 n 1] []) (oX (fun i=>rs.getD i 0) T n) l (fun Hx=>Hx.get id=some (.arr g 3 (ints rs))):=by
 intro a b ha hb Hx hI;have ha:=hl a ha;have hb:=hl b hb;obtain⟨x,hx⟩:=get_of_lt (l:=rs) (i:=a) (by omega);obtain⟨y,hy⟩:=get_of_lt (l:=rs) (i:=b) (by omega);have hxr:=hr x (Vs hx);have hyr:=hr y (Vs hy);have ex:rs.getD a 0=x:=by rw[Vy,hx];rfl
 have ey:rs.getD b 0=y:=by rw[Vy,hy];rfl
 have hxn:=aJ hx;have hyn:=aJ hy;have lv:=ak hI;have hil:=aR rs;rw[hn]at hil;have bx:(a:Int)<n:=by omega
 have by':(b:Int)<n:=by omega
 have w1:=Vt (y - x) (by omega);have w2:=Vt ((a:Int) - (b:Int)) (by omega);refine⟨if x=y then (a:Int) - b else y - x,?_,fun K hK=>aw.clo ?_⟩
 ·rw[w7 hT ha hb];unfold before;simp only[ex,ey];split<;>omega
 simp only[List.cons_append,List.nil_append,List.append_nil];refine ae.cX (n:=28) (rs:=[.tmp 6]) Tryd.func53 rfl rfl rfl (by decide) (by simp) ?_;refine W.sq ?_;simp only[go_sem];refine W.seq (W.cP (fun s'=>s'.H=Hx/\s'.ρ 0=.own id g 0 n 1/\s'.ρ 1=aa a/\s'.ρ 2=aa b/\s'.ρ 15=.lit (.bool (!decide (x=y)))) ?_ ?_)
 ·refine W.draw 8 [0,0,3,7,0,0,48,112] Tryd.mixed (by kernel_rfl) (by kernel_rfl) ?_;simp only[go_sem,lv,hx,hy,bx,by']
 rintro⟨ρ,Hq⟩ ⟨hHq,q0,q1,q2,q15⟩;simp only at hHq q0 q1 q2 q15;rw[hHq];by_cases hxy:x=y
 ·rw[Vx hxy]at hK;rw[VM hxy]at q15;refine W.cond (t:=false) q15 ?_;refine W.vs ?_;simp only[go_sem];refine W.vs ?_;simp only[go_sem,q1,q2,w2];exact av.mk (Nat.le_refl _) hK
 ·rw[Vw hxy]at hK;rw[VZ hxy]at q15;refine W.cond (t:=true) q15 ?_;refine W.seq ?_;refine W.draw 8 [0,0,3,7,0,0,48,112] Tryd.mixed (by kernel_rfl) (by kernel_rfl) ?_;simp only[go_sem,q0,q1,q2,lv,hx,hy,bx,by',w1];refine W.vs ?_;simp only[go_sem];exact av.mk (Nat.le_refl _) hK
theorem Fv {c:List Int}{i:Nat}{x:Int}(h:c[i]?=some x):(c.take (i+1)).sum=(c.take i).sum+x:=by rw[aL h];simp
theorem Fw {c:List Int}(hc:∀ x∈c,0<=x/\x<=1099511627776)(i:Nat):0<=(c.take i).sum/\(c.take i).sum<=1099511627776*(c.take i).length:=by
 have:∀ l:List Int,(∀ x∈l,0<=x/\x<=1099511627776)->0<=l.sum/\l.sum<=1099511627776*l.length:=by
  intro l
  induction l with
  | nil=>intro _;simp
  | cons a l ih =>
   intro h;have h1:=h a (by simp);have h2:=ih fun x hx=>h x (by simp [hx]);rw[V5,List.length_cons];omega
 exact this _ fun x hx=>hc x (VW hx)
set_option maxHeartbeats 8000000 in
theorem Fx {c:List Int}{grain least:Int}{n:Nat}(hn:c.length=n)(h0:1<=n)(hl:n<=1024)(hc:∀ x∈c,0<=x/\x<=1099511627776)(hg:1<=grain/\grain<=720)(hle:0<=least/\least<=720)(H:AHeap)(K:ARes->AHeap->Prop)
  (hE:grain<least*n->K (.ret (.tup [.lit (.slice none 0 0),aa 2])) H)
  (hK:∀ s v H',least*n<=grain->iS least (dQ grain least c) c s->Over H H'->aC H.next H' 3 v (ints s)->K (.ret (.tup [v,aa 0])) H'):
  ae Tryd.prog G0 31 [.vec n (ints c),aa grain,aa least] H K:=by
 have hil:=aR c;rw[hn]at hil;have b1:¬ (n:Int)<1:=by omega
 have b2:¬ (n:Int) > 1024:=by omega
 refine ae.cX (n:=144) (rs:=[.tmp 6,.tmp 7]) Tryd.func31 rfl rfl rfl (by decide) (by simp) ?_;refine W.sq ?_;simp only[go_sem];refine W.sq ?_;simp only[go_sem,b1,b2];refine W.sq ?_;simp only[go_sem];refine W.sq ?_;simp only[go_sem];refine W.en (fun E=>E 0=.vec n (ints c) /\ E 1=aa grain /\ E 2=aa least /\ E 8=aa 0 /\ E 30=.vec n (ints c) /\ E 31=aa n /\ E 32=aa 0) (by simp only[go_sem]) fun E ⟨e0,e1,e2,e8,e30,e31,e32⟩=>?_
 refine W.aG 70364449211840 (by rfl) (fun ρ Hx=>Hx=H/\∃ i:Nat,ρ 32=aa i/\i<=n/\ρ 8=aa (c.take i).sum) (fun ρ Hx=>n - (iv (ρ 32)).toNat) ?_ ?_
 ·exact⟨rfl,0,e32,by omega,e8⟩
 rintro ρ Hx ⟨hHx,i,h32,hi,h8⟩;rw[hHx];refine W.en (fun E1=>E1 0=.vec n (ints c) /\ E1 1=aa grain /\ E1 2=aa least /\ E1 8=aa (c.take i).sum /\ E1 30=.vec n (ints c) /\ E1 31=aa n /\ E1 32=aa i) (by simp only[go_sem,e0,e1,e2,h8,e30,e31,h32]) fun E1 ⟨f0,f1,f2,f8,f30,f31,f32⟩=>?_
 have hsr:=Fw hc i;have htl:((c.take i).length:Int)<=1024:=by rw[VC];omega
 by_cases hb:(i:Int)<n
 ·obtain⟨x,hx⟩:=get_of_lt (l:=c) (i:=i) (by omega);have hxr:=hc x (Vs hx);have hxn:=aJ hx;have x1:¬ x<0:=by omega
  have x2:¬ x > 1099511627776:=by omega
  have w1:=Vt ((c.take i).sum+x) (by omega);have w2:=Vt ((i:Int)+1) (by omega);refine W.vs ?_;simp only[go_sem,f8,f30,f31,f32,hb,hx,hxn,x1,x2,w1,w2];exact⟨⟨i+1,rfl,by omega,by rw[Fv hx]⟩,by rw[h32];simp only[aa,aN];omega⟩
 have hin:i=n:=by omega
 rw[hin,<- hn,WR]at f8 hsr;have g1:¬ grain<1:=by omega
 have g2:¬ grain > 720:=by omega
 have g3:¬ least<0:=by omega
 have gn:¬ (n:Int)=0:=by omega
 have gt:grain.tdiv n=grain / n:=Wa (by omega);have gw:=Vt (grain / n) (by have:=Xt (a:=grain) (b:=n) (by omega) (by omega);have:=XK (a:=grain) n (by omega);omega);refine W.vs ?_;simp only[go_sem,f31,f32,hb];by_cases hfit:grain<least*n
 ·have g4:least > grain / n:=by
   refine V2 fun h=>?_;have:=(XV (show (0:Int)<n by omega)).1 (Int.not_lt.1 h);omega
  refine W.sq ?_;simp only[go_sem,f0,f1,f2,g1,g2,g3,gn,gt,gw,g4];exact av.mk (Nat.le_refl _) (hE hfit)
 have g4:¬ least > grain / n:=fun h=>by
  have:=(XV (show (0:Int)<n by omega)).2 (Int.not_lt.1 hfit);omega
 refine W.sq ?_;simp only[go_sem,f0,f1,f2,g1,g2,g3,gn,gt,gw,g4];have m0:0<=least*n:=WE hle.1 (by omega);have wm:=Vt (least*(n:Int)) (by omega);have wsb:=Vt (grain - least*(n:Int)) (by omega);obtain⟨sp,hsp⟩:∃ sp,sp=grain - least*n:=⟨_,rfl⟩
 have hsp':dQ grain least c=sp:=by unfold dQ;rw[hn,hsp]
 rw[<- hsp]at wsb;have sp0:0<=sp/\sp<=720:=by omega
 refine W.sq ?_;simp only[go_sem,f0,f1,f2,wm,<- hsp,wsb];refine W.sq ?_;simp only[go_sem];refine W.sq ?_;simp only[go_sem,f0];refine⟨⟨by omega,by omega⟩,?_⟩;refine W.sq ?_;simp only[go_sem,f0];refine⟨⟨by omega,by omega⟩,?_⟩;refine W.sq ?_;simp only[go_sem,f0];refine⟨⟨by omega,by omega⟩,?_⟩;refine W.sq ?_;simp only[go_sem,f0];have hz:List.replicate n (AVal.lit (.int .i64 0))=ints (List.replicate n 0):=by simp only[ints,Yg];rfl
 rw[hz];obtain⟨H1,hH1⟩:∃ H1,H1=ext H [.arr 0 3 (ints (List.replicate n 0)),.arr 0 3 (ints (List.replicate n 0)),.arr 0 3 (ints (List.replicate n 0))]:=⟨_,rfl⟩
 have ga:H1.get H.next=some (.arr 0 3 (ints (List.replicate n 0))):=by rw[hH1];exact bC H _ 0 (by simp)
 have gb:H1.get (H.next+1)=some (.arr 0 3 (ints (List.replicate n 0))):=by rw[hH1];exact bC H _ 1 (by simp)
 have go:H1.get (H.next+2)=some (.arr 0 3 (ints (List.replicate n 0))):=by rw[hH1];exact bC H _ 2 (by simp)
 have n1:H1.next=H.next+3:=by rw[hH1];rfl
 have o1:Over H H1:=by rw[hH1];exact .ext _ _
 rw[<- hH1];refine W.en (fun E2=>E2 0=.vec n (ints c) /\ E2 2=aa least /\ E2 8=aa c.sum /\ E2 11=aa sp /\ E2 12=aa sp /\ E2 13=.own H.next 0 0 n 1 /\ E2 14=.own (H.next+1) 0 0 n 1 /\ E2 15=.own (H.next+2) 0 0 n 1 /\ E2 80=.vec n (ints c) /\ E2 81=aa n /\ E2 82=aa 0) (by simp only[go_sem,f0,f2,f8,<- hsp]) fun E2 ⟨a0,a2,a8,a11,a12,a13,a14,a15,a80,a81,a82⟩=>?_
 clear hH1;have hrs:=fun k=>Ua (sp:=sp) (c:=c) (fun x h=>(hc x h).1) (by omega) sp0.1 k;have hpn:=fun k=>AZ (c:=c) (fun x h=>(hc x h).1) (by omega) sp0.1 k;have hpl:=fun k=>Gh (c:=c) (fun x h=>(hc x h).1) (by omega) sp0.1 k;have hrb:=fun k=>wV (sp:=sp) (c:=c) (by omega) k;have hT:dM c<=1125899906842624:=by unfold dM;split<;>omega
 refine W.aG 21267647932553818263182454447787675648 (by kernel_rfl) (fun ρ Hx=>∃ (i:Nat) (A B O:List Int),ρ 82=aa i/\i<=n/\ρ 12=aa (jt sp c i)/\Hx.next=H1.next/\(∀ j,j<H.next->Hx.get j=H.get j)/\Hx.get H.next=some (.arr 0 3 (ints A))/\Hx.get (H.next+1)=some (.arr 0 3 (ints B))/\Hx.get (H.next+2)=some (.arr 0 3 (ints O)) /\
  (A.length=n/\B.length=n/\O.length=n)/\∀ j,j<i->A[j]?=some (least+partAt sp c j)/\B[j]?=some (dq sp c j)/\O[j]?=some (j:Int)) (fun ρ Hx=>n - (iv (ρ 82)).toNat) ?_ ?_
 ·exact⟨0,_,_,_,a82,by omega,a12.trans (by unfold jt;simp),rfl,fun j h=>o1.old j h,ga,gb,go,by simp,fun j h=>absurd h (VX _)⟩
 rintro ρ2 Hx ⟨k,A,B,O,h82,hk,h12,nx,hold,xa,xb,xo,⟨lA,lB,lO⟩,hall⟩;refine W.en (fun E3=>E3 0=.vec n (ints c) /\ E3 2=aa least /\ E3 8=aa c.sum /\ E3 11=aa sp /\ E3 12=aa (jt sp c k) /\ E3 13=.own H.next 0 0 n 1 /\ E3 14=.own (H.next+1) 0 0 n 1 /\ E3 15=.own (H.next+2) 0 0 n 1 /\ E3 80=.vec n (ints c) /\ E3 81=aa n /\ E3 82=aa k) (by simp only[go_sem,a0,a2,a8,a11,h12,a13,a14,a15,a80,a81,h82]) fun E3 ⟨d0,d2,d8,d11,d12,d13,d14,d15,d80,d81,d82⟩=>?_
 by_cases hb2:(k:Int)<n;rotate_left
 ·have hkn:k=n:=by omega
  refine W.vs ?_;simp only[go_sem,d81,d82,hb2];rw[hkn]at d12 hall;have eA:A=eF least sp c fun a=>decide (a∈([]:List Nat).take 0):=by
   rw[T5];apply V9;intro j;rcases VR j n with h|h
   ·rw[(hall j h).1,List.getElem?_map,Wu (by omega)];rfl
   ·rw[VB (by omega),VB (by simp;omega)]
  have eO:O=aK (List.range n):=by
   apply V9;intro j;rcases VR j n with h|h
   ·rw[(hall j h).2.2,qH (Wu h)]
   ·rw[VB (by omega),VB (by rw[ks,WB];omega)]
  have eB:∀ j,j<n->B.getD j 0=dq sp c j:=fun j h=>by rw[Vy,(hall j h).2.1];rfl
  rw[eO]at xo;obtain⟨T,hTe⟩:=VU (Y8 (re (c:=c) (by omega)));have hBr:∀ x∈B,0<=x/\x<1125899906842624:=fun x hx=>by
   obtain⟨j,hj⟩:=V0.1 hx;have hjn:=get_lt hj;rw[(hall j (by omega)).2.1]at hj;cases hj;have:=hrb j;omega
  have hBT:∀ j,j<n->0<=B.getD j 0/\B.getD j 0<T:=fun j h=>by
   rw[eB j h,<- hTe];exact hrb j
  have hcmp:=SK (id:=H.next+1) (g:=0) lB hBr (by omega) hBT (l:=List.range n) (fun a h=>VJ.1 h);have xon:Hx.get (H.next+2)=some (nB 0 (List.range n)):=xo;refine W.sq ?_;simp only[go_sem,d14,d15];have SHx:SH (.clo 53 [.own (H.next+1) 0 0 n 1] []) (oX (fun i=>B.getD i 0) T n) (H.next+1) (.arr 0 3 (ints B)) (H.next+2) 0 n (List.range n) Hx :=
   ⟨WB,hl,xon,xb,by omega,by omega,by omega,hcmp⟩
  refine aw.clo (SI SHx (SJ hBT) (by omega) _ fun l hp hs=>⟨trivial,?_⟩);obtain⟨H4,hH4⟩:∃ H4,H4=Hx.upd (H.next+2) (nB 0 l):=⟨_,rfl⟩
  rw[<- hH4];have hpw:=T3 (r:=fun i=>B.getD i 0) (T:=T) (n:=n) hBT hp hs;have pl:=hp.length_eq;rw[WB]at pl;have hlm:∀ a∈l,a<n:=fun a h=>VJ.1 (hp.mem_iff.1 h);have hnd:l.Nodup:=hp.nodup_iff.2 Xw;have n4:H4.next=Hx.next:=by rw[hH4,aE]
  have g4o:H4.get (H.next+2)=some (.arr 0 3 (ints (aK l))):=by rw[hH4,ag,Vx rfl];rfl
  have g4a:H4.get H.next=some (.arr 0 3 (ints (eF least sp c fun a=>decide (a∈l.take 0)))):=by rw[hH4,ag,Vw (by omega),xa,eA];rfl
  have old4:∀ j,j<H.next->H4.get j=H.get j:=fun j h=>by rw[hH4,ag,Vw (by omega)];exact hold j h
  clear hH4;have hLb:=wW (sp:=sp) (c:=c) (by omega);have hLk:jt sp c n=js sp c:=by unfold jt js;rw[hn]
  obtain⟨L,hL⟩:=VU hLb.1;rw[hLk,hL]at d12;have Ln:L<n:=by omega
  have l4o:=ak g4o;have iol:(ints (aK l)).length=n:=by rw[aR,ks,pl]
  have L0:(0:Int)<=L:=by omega
  have L1:(L:Int)<=n:=by omega
  simp only[go_sem];refine W.sq ?_;simp only[go_sem,d12,d15,l4o,L0,L1];refine W.en (fun E4=>E4 13=.own H.next 0 0 n 1 /\ E4 130=.own (H.next+2) 0 0 L 1 /\ E4 131=aa L /\ E4 132=aa 0) (by simp only[go_sem,d13]) fun E4 ⟨k13,k130,k131,k132⟩=>?_
  refine W.aG 11144928081394576555352445142605272463704064 (by kernel_rfl) (fun ρ Hy=>∃ m:Nat,ρ 132=aa m/\m<=L/\Hy.next=H4.next/\(∀ j,j<H.next->Hy.get j=H.get j)/\Hy.get (H.next+2)=some (.arr 0 3 (ints (aK l)))/\Hy.get H.next=some (.arr 0 3 (ints (eF least sp c fun a=>decide (a∈l.take m))))) (fun ρ Hy=>L - (iv (ρ 132)).toNat) ?_ ?_
  ·exact⟨0,k132,by omega,rfl,old4,g4o,g4a⟩
  rintro ρ3 Hy ⟨m,h132,hm,ny,oldy,gyo,gya⟩;refine W.en (fun E5=>E5 13=.own H.next 0 0 n 1 /\ E5 130=.own (H.next+2) 0 0 L 1 /\ E5 131=aa L /\ E5 132=aa m) (by simp only[go_sem,k13,k130,k131,h132]) fun E5 ⟨u13,u130,u131,u132⟩=>?_
  have lyo:=ak gyo;have lya:=ak gya;have isl:(ints (eF least sp c fun a=>decide (a∈l.take m))).length=n:=by rw[aR,rf,hn]
  by_cases hb3:(m:Int)<L;rotate_left
  ·have hmL:m=L:=(by omega);subst hmL;have hTop:Top (dq sp c) n m (fun i=>decide (i∈l.take m)):=by
    have hpw':l.Pairwise (before (dq sp c)):=(List.Pairwise.and_mem.1 hpw).imp fun {i j} ⟨hi,hj,h⟩=>by
     unfold before at h ⊢;simp only[eB i (hlm i hi),eB j (hlm j hj)]at h;exact h
    exact Top.sorted hp hpw' (by omega)
   refine W.vs ?_;simp only[go_sem,u131,u132,hb3];refine W.vs ?_;simp only[go_sem,u13];have hov:Over H Hy:=⟨by omega,oldy⟩
   refine av.mk hov.next (hK _ _ Hy (by omega) (by rw[hsp'];exact⟨_,by rw[hL,Int.toNat_natCast,hn];exact hTop,rfl⟩) hov (.inr ⟨H.next,0,Nat.le_refl _,by omega,?_,gya⟩));rw[isl]
  obtain⟨q,hq⟩:=get_of_lt (l:=l) (i:=m) (by omega);have hqn:=hlm q (Vs hq);have gq:(ints (aK l))[m]?=some (aa q):=by rw[eZ,qH hq];rfl
  have gqn:=aJ gq;have gs:(ints (eF least sp c fun a=>decide (a∈l.take m)))[q]?=some (aa (least+partAt sp c q)):=by rw[eZ,T6 hnd hq (by omega)];rfl
  have gsn:=aJ gs;have qb:(q:Int)<n:=by omega
  have wq:=Vt (least+partAt sp c q+1) (by have:=hpn q;have:=hpl q;omega);have wm1:=Vt ((m:Int)+1) (by omega);have es:setAt (ints (eF least sp c fun a=>decide (a∈l.take m))) q [.lit (.int .i64 (least+partAt sp c q+1))]=ints (eF least sp c fun a=>decide (a∈l.take (m+1))):=by rw[fo (by rw[rf];omega),T7 hnd hq (by omega)]
  refine W.sq ?_;simp only[go_sem,u131,u132,hb3];refine W.sq ?_;simp only[go_sem];refine W.seq (W.block ?_);refine W.sq ?_;simp only[go_sem,u130,u132,lyo,gq,hb3];refine W.vs ?_;simp only[go_sem,u13,lya,isl,gs,qb,wq,es];refine⟨by omega,pO _ _ _ (by rfl) ?_⟩;simp only[go_sem,u132,wm1];exact⟨by rw[aE];omega,⟨m+1,rfl,by omega,by rw[aE];exact ny,fun j h=>by rw[ag,Vw (by omega)];exact oldy j h,by rw[ag,Vw (by omega)];exact gyo,by rw[ag,Vx rfl]⟩,by rw[h132];simp only[aa,aN];omega⟩
 obtain⟨x,hx⟩:=get_of_lt (l:=c) (i:=k) (by omega);have hxr:=hc x (Vs hx);have hxn:=aJ hx;have sx0:0<=sp*x:=WE sp0.1 hxr.1;have sx1:sp*x<=720*1099511627776:=W7 sp0.2 hxr.2 hxr.1 (by omega);have wsx:=Vt (sp*x) (by omega);refine W.sq ?_;simp only[go_sem,d81,d82,hb2];refine W.sq ?_;simp only[go_sem];refine W.seq (W.block ?_);refine W.sq ?_;simp only[go_sem,d80,d82,hx,hxn,hb2];refine W.sq ?_;simp only[go_sem,d11,wsx];refine W.cP (fun s'=>s'.H=Hx/\s'.ρ 2=aa least/\s'.ρ 12=aa (jt sp c k)/\s'.ρ 13=.own H.next 0 0 n 1/\s'.ρ 14=.own (H.next+1) 0 0 n 1/\s'.ρ 15=.own (H.next+2) 0 0 n 1/\s'.ρ 16=aa k/\s'.ρ 18=aa (partAt sp c k)/\s'.ρ 19=aa (dq sp c k)/\s'.ρ 82=aa k) ?_ ?_
 ·by_cases hs:c.sum > 0
  ·obtain⟨p1,p2⟩:=T8 (sp:=sp) hs hx;have t1:(sp*x).tdiv c.sum=partAt sp c k:=(by rw[p1];exact Wa sx0);have t2:(sp*x).tmod c.sum=dq sp c k:=(by rw[p2];exact V6 sx0);have sn:¬ c.sum=0:=(by omega);have wp:=Vt (partAt sp c k) (by have:=hpn k;have:=hpl k;omega);have wr:=Vt (dq sp c k) (by have:=hrb k;omega);refine W.sq ?_;simp only[go_sem,d8,hs];refine W.cond (t:=true) (by simp only[go_sem]) ?_;refine W.draw 7 [0,0,3,0,0,24,15] Tryd.mixed (by kernel_rfl) (by kernel_rfl) ?_;simp only[go_sem,d2,d8,d12,d13,d14,d15,d82,sn,t1,t2,wp]
  ·obtain⟨p1,p2⟩:=T9 (sp:=sp) hs (show k<c.length by omega);rw[hn]at p1 p2;have t1:sp.tdiv n=partAt sp c k:=(by rw[p1];exact Wa sp0.1);have t2:sp.tmod n=dq sp c k:=(by rw[p2];exact V6 sp0.1);have wp:=Vt (partAt sp c k) (by have:=hpn k;have:=hpl k;omega);have wr:=Vt (dq sp c k) (by have:=hrb k;omega);refine W.sq ?_;simp only[go_sem,d8,hs];refine W.cond (t:=false) (by simp only[go_sem]) ?_;refine W.draw 9 [0,0,2,7,0,0,32,112,15] Tryd.mixed (by kernel_rfl) (by kernel_rfl) ?_;simp only[go_sem,d0,d2,d11,d12,d13,d14,d15,d82,gn,t1,t2,wp]
 rintro⟨ρ3,Hq⟩ ⟨hHq,q2,q12,q13,q14,q15,q16,q18,q19,q82⟩;simp only at hHq q2 q12 q13 q14 q15 q16 q18 q19 q82;rw[hHq];have wpl:=Vt (least+partAt sp c k) (by have:=hpn k;have:=hpl k;omega);have lxa:=ak xa;have iA:=aR A;have iB:=aR B;have iO:=aR O;rw[lA]at iA;rw[lB]at iB;rw[lO]at iO;have sA:setAt (ints A) k [.lit (.int .i64 (least+partAt sp c k))]=ints (A.set k (least+partAt sp c k)):=fo (by omega);have sB:setAt (ints B) k [.lit (.int .i64 (dq sp c k))]=ints (B.set k (dq sp c k)):=fo (by omega);have sO:setAt (ints O) k [.lit (.int .i64 (k:Int))]=ints (O.set k (k:Int)):=fo (by omega);obtain⟨Ha,hHa⟩:∃ Ha,Ha=Hx.upd H.next (.arr 0 3 (ints (A.set k (least+partAt sp c k)))):=⟨_,rfl⟩
 obtain⟨Hb,hHb⟩:∃ Hb,Hb=Ha.upd (H.next+1) (.arr 0 3 (ints (B.set k (dq sp c k)))):=⟨_,rfl⟩
 obtain⟨Ho,hHo⟩:∃ Ho,Ho=Hb.upd (H.next+2) (.arr 0 3 (ints (O.set k (k:Int)))):=⟨_,rfl⟩
 have lxb:Ha.live (H.next+1) 0=some (3,ints B):=ak (by rw[hHa,ag,Vw (by omega)];exact xb);have lxo:Hb.live (H.next+2) 0=some (3,ints O):=ak (by rw[hHb,ag,Vw (by omega),hHa,ag,Vw (by omega)];exact xo);have gax:∀ b:Blk,Hx.upd H.next b=Hx.upd H.next b:=fun _=>rfl;refine W.sq ?_;simp only[go_sem,q2,q13,q14,q15,q16,q18,q19,lxa,iA,wpl,hb2,sA,<- hHa,lxb,iB,sB,<- hHb,lxo,iO,sO,<- hHo];have wlk:=Vt (jt sp c k - partAt sp c k) (by
  have h1:=hrs k;have h2:=hpl k;have h3:=hpn k;have:sp*(k:Int)<=720*1024:=W7 sp0.2 (by omega) (by omega) (by omega);omega)
 have wk:=Vt ((k:Int)+1) (by omega);refine⟨by omega,by omega,by omega,pO _ _ _ (by rfl) ?_⟩;simp only[go_sem,q12,q18,wlk];refine W.vs ?_;simp only[go_sem,q82,wk];have hn':Ho.next=Hx.next:=by rw[hHo,hHb,hHa];rfl
 refine⟨by omega,⟨k+1,A.set k (least+partAt sp c k),B.set k (dq sp c k),O.set k (k:Int),rfl,by omega,by rw[Gg],by omega,fun j h=>?_,?_,?_,?_,by simp [lA,lB,lO],fun j hj=>?_⟩,by rw[h82];simp only[aa,aN];omega⟩
 ·rw[hHo,ag,Vw (by omega),hHb,ag,Vw (by omega),hHa,ag,Vw (by omega)];exact hold j h
 ·rw[hHo,ag,Vw (by omega),hHb,ag,Vw (by omega),hHa,ag,Vx rfl]
 ·rw[hHo,ag,Vw (by omega),hHb,ag,Vx rfl]
 ·rw[hHo,ag,Vx rfl]
 ·by_cases e:j=k
  ·subst e;exact⟨by rw[VI (by omega)],by rw[VI (by omega)],by rw[VI (by omega)]⟩
  ·obtain⟨z1,z2,z3⟩:=hall j (by omega);exact⟨by rw[VS (fun h=>e h.symm)];exact z1,by rw[VS (fun h=>e h.symm)];exact z2,by rw[VS (fun h=>e h.symm)];exact z3⟩
end Go.Proofs
namespace Go.Hx
variable {P:Program}
structure Own2 (lo:Nat)(H:AHeap)(e:TypeId)(v:AVal)(l:List AVal)(u:AVal)(m:List AVal):Prop where
 a:aC lo H e v l
 b:aC lo H e u m
 ne:∀ i g n g' n',v=.own i g 0 n 1->u≠.own i g' 0 n' 1
theorem Own2.symm {lo:Nat}{H:AHeap}{e:TypeId}{v u:AVal}{l m:List AVal}(h:Own2 lo H e v l u m):Own2 lo H e u m v l:=⟨h.b,h.a,fun i g n g' n' h1 h2=>h.ne i g' n' g n h2 h1⟩
theorem Own2.nil {lo:Nat}{H:AHeap}{e:TypeId}:Own2 lo H e (.lit (.slice none 0 0)) [] (.lit (.slice none 0 0)) []:=⟨.nil,.nil,fun _ _ _ _ _ h=>(by cases h)⟩
theorem Own2.keep {lo:Nat}{H H':AHeap}{e:TypeId}{v u:AVal}{l m:List AVal}(h:Own2 lo H e v l u m)(hn:H.next<=H'.next)(hk:∀ id,lo<=id->id<H.next->H'.get id=H.get id):Own2 lo H' e v l u m :=
 ⟨h.a.keep (Nat.le_refl _) hn fun id _ h1 h2 _ _=>hk id h1 h2,h.b.keep (Nat.le_refl _) hn fun id _ h1 h2 _ _=>hk id h1 h2,h.ne⟩
end Go.Hx
namespace Go.Hx
theorem aC.wE {lo:Nat}{H:AHeap}{e:TypeId}{v:AVal}{cs:List AVal}(h:aC lo H e v cs){k:Nat}(hk:k<lo):∀ g n,v≠.own k g 0 n 1:=fun g n he=>by
 rcases h with ⟨h,_⟩|⟨id,g',a,_,h,_⟩
 ·rw[h]at he;cases he
 ·rw[h]at he;have:=(AVal.own.inj he).1;omega
end Go.Hx
namespace Go.Proofs
open Go.Hx
theorem EZ {r:Nat->Int}{M:Nat->Bool}:∀ m,(∃ j,j<m/\M j=false)->∃ b,b<m/\M b=false/\∀ j,j<m->M j=false->j≠b->before r b j
 | 0,⟨j,h,_⟩=>absurd h (VX _)
 | m+1,⟨j,hj,hM⟩=>by
  by_cases hex:∃ j,j<m/\M j=false
  ·obtain⟨b,hb,hMb,hmin⟩:=EZ m hex;cases hm:M m with
   | true=>exact⟨b,by omega,hMb,fun j hj h1 h2=>hmin j (by have:j≠m:=(by rintro rfl;rw[hm]at h1;cases h1);omega) h1 h2⟩
   | false =>
    by_cases hlt:r b<r m
    ·refine⟨m,by omega,hm,fun j hj h1 h2=>?_⟩;have hjm:j<m:=(by omega);by_cases hjb:j=b
     ·subst hjb;exact .inl hlt
     ·have:=hmin j hjm h1 hjb;unfold before at this ⊢;omega
    ·refine⟨b,by omega,hMb,fun j hj h1 h2=>?_⟩;by_cases hjm:j=m
     ·subst hjm;unfold before;omega
     ·exact hmin j (by omega) h1 h2
  ·have:j=m:=by
    refine V2 fun h=>hex ⟨j,by omega,hM⟩
   subst this;exact⟨j,by omega,hM,fun i hi h1 h2=>absurd ⟨i,by omega,h1⟩ hex⟩
theorem Top.some {r:Nat->Int}{n k:Nat}{M:Nat->Bool}(h:Top r n k M)(hk:k<n):∃ j,j<n/\M j=false:=by
 refine V2 fun hno=>?_;have:=h.count;have e:(List.range n).countP M=(List.range n).length:=X3.2 fun x hx=>by
  rcases Wf (M x) with e|e
  ·exact e
  ·exact absurd ⟨x,VJ.1 hx,e⟩ hno
 rw[e,WB]at this;omega
theorem Top.ex (r:Nat->Int)(n:Nat):∀ k,k<=n->∃ M,Top r n k M
 | 0,_=>⟨_,.zero⟩
 | k+1,h=>by
  obtain⟨M,hM⟩:=Top.ex r n k (by omega);obtain⟨b,hb,hMb,hmin⟩:=EZ (r:=r) n (hM.some (by omega));exact⟨_,hM.step hb hMb hmin⟩
theorem AD (least sp:Int){c:List Int}(h:0<c.length):∃ s,iS least sp c s:=by
 have:=wW (sp:=sp) h;obtain⟨M,hM⟩:=Top.ex (dq sp c) c.length (js sp c).toNat (by omega);exact⟨_,M,hM,rfl⟩
end Go.Proofs
namespace Go.Hx
theorem ae.fin {P:Program}{G:Nat->Option (List AVal)}{f:FuncId}{args:List AVal}{H:AHeap}{K:ARes->AHeap->Prop}(h:ae P G f args H fun r H'=>∃ v,r=.ret v/\av P G H K v H'):ae P G f args H K:=by
 refine⟨h.1,fun Γ w cargs R hr=>(h.2 Γ w cargs R hr).mono ?_⟩;rintro e w' ⟨r,H',Γ',hend,⟨v,rfl,v',H2,hw,hn2,hk⟩,R',E,hn⟩;obtain⟨Γ2,R2,E2,hv⟩:=hw Γ' w' R';refine⟨.ret v',H2,Γ2,?_,hk,R2,E.trans hn E2,hn2⟩;cases e with
 | returned cv=>exact hv cv hend
 | _=>exact hend.elim
end Go.Hx
namespace Go.Proofs
open Go.Hx
open Classical in
noncomputable def nE (least sp:Int)(c:List Int):List Int:=if h:∃ s,iS least sp c s then h.choose else []
theorem ti {least sp:Int}{c s:List Int}(h:iS least sp c s):s=nE least sp c:=by
 have hex:∃ s,iS least sp c s:=⟨s,h⟩
 unfold nE;rw[dif_pos hex];exact h.unique hex.choose_spec
def jo (c:List Int)(grain least:Int):Prop:=(1<=c.length/\c.length<=1024)/\(∀ x∈c,0<=x/\x<=1099511627776)/\(1<=grain/\grain<=720)/\0<=least/\least*c.length<=grain
noncomputable def tj (c:List Int)(grain least:Int):Bool:=@decide (jo c grain least) (Classical.propDecidable _)
theorem Fy {c:List Int}{grain least:Int}(h:jo c grain least):tj c grain least=true:=by unfold tj;exact @decide_eq_true _ (Classical.propDecidable _) h
theorem SL {c:List Int}{grain least:Int}(h:¬ jo c grain least):tj c grain least=false:=by unfold tj;exact @decide_eq_false _ (Classical.propDecidable _) h
noncomputable def wI (c:List Int)(grain least:Int):AVal:=if tj c grain least then .tup [ab (nE least (dQ grain least c) c),aa 0] else .tup [ab [],aa 2]
theorem jo.le {c:List Int}{grain least:Int}(h:jo c grain least):least<=720:=by
 obtain⟨h1,_,h3,h4,h5⟩:=h;have:least*1<=least*c.length:=V8 (by omega) h4;omega
theorem SM {c:List Int}{grain least:Int}{n:Nat}(hn:c.length=n)(hl:n<2 ^ 40)(hbad:¬ jo c grain least)(H:AHeap)(K:ARes->AHeap->Prop)(hK:K (.ret (.tup [ab [],aa 2])) H):
  ae Tryd.prog G0 31 [.vec n (ints c),aa grain,aa least] H K:=by
 refine ae.clo ⟨_,Tryd.func31,rfl,rfl⟩ fun hcl=>?_;have fin:av Tryd.prog G0 H K (.tup [.lit (.slice none 0 0),aa 2]) H:=av.bR (v':=.tup [ab [],aa 2]) aT hcl (.refl _) (.tup rfl fun i hi _=>match i,hi with
  | 0,_=>.nil
  | 1,_=>.lit _) hK
 have hil:=aR c;rw[hn]at hil;refine ae.cX (n:=144) (rs:=[.tmp 6,.tmp 7]) Tryd.func31 rfl rfl rfl (by decide) (by simp) ?_;refine W.sq ?_;simp only[go_sem];by_cases b1:(n:Int)<1
 ·refine W.sq ?_;simp only[go_sem,b1];exact fin
 by_cases b2:(n:Int) > 1024
 ·refine W.sq ?_;simp only[go_sem,b1,b2];exact fin
 refine W.sq ?_;simp only[go_sem,b1,b2];refine W.sq ?_;simp only[go_sem];refine W.sq ?_;simp only[go_sem];refine W.en (fun E=>E 0=.vec n (ints c) /\ E 1=aa grain /\ E 2=aa least /\ E 8=aa 0 /\ E 30=.vec n (ints c) /\ E 31=aa n /\ E 32=aa 0) (by simp only[go_sem]) fun E ⟨e0,e1,e2,e8,e30,e31,e32⟩=>?_
 refine W.aG 70364449211840 (by rfl) (fun ρ Hx=>Hx=H/\∃ i:Nat,ρ 32=aa i/\i<=n/\(∀ x∈c.take i,0<=x/\x<=1099511627776)/\ρ 8=aa (c.take i).sum) (fun ρ Hx=>n - (iv (ρ 32)).toNat) ?_ ?_
 ·exact⟨rfl,0,e32,by omega,fun x h=>by simp at h,e8⟩
 rintro ρ Hx ⟨hHx,i,h32,hi,hok,h8⟩;rw[hHx];refine W.en (fun E1=>E1 0=.vec n (ints c) /\ E1 1=aa grain /\ E1 2=aa least /\ E1 8=aa (c.take i).sum /\ E1 30=.vec n (ints c) /\ E1 31=aa n /\ E1 32=aa i) (by simp only[go_sem,e0,e1,e2,h8,e30,e31,h32]) fun E1 ⟨f0,f1,f2,f8,f30,f31,f32⟩=>?_
 by_cases hb:(i:Int)<n
 ·obtain⟨x,hx⟩:=get_of_lt (l:=c) (i:=i) (by omega);have hxn:=aJ hx;by_cases x1:x<0
  ·refine W.vs ?_;simp only[go_sem,f30,f31,f32,hb,hx,hxn,x1];exact fin
  by_cases x2:x > 1099511627776
  ·refine W.vs ?_;simp only[go_sem,f30,f31,f32,hb,hx,hxn,x1,x2];exact fin
  have hsr:=Fw (c:=c.take i) hok i;have htl:((c.take i).take i).length<=1024:=by rw[VC,VC];omega
  rw[X0,Nat.min_self]at hsr htl;have w1:=Vt ((c.take i).sum+x) (by omega);have w2:=Vt ((i:Int)+1) (by omega);refine W.vs ?_;simp only[go_sem,f8,f30,f31,f32,hb,hx,hxn,x1,x2,w1,w2];refine⟨⟨i+1,rfl,by omega,fun y hy=>?_,by rw[Fv hx]⟩,by rw[h32];simp only[aa,aN];omega⟩;rw[aL hx]at hy;rcases VP.1 hy with h|h
  ·exact hok y h
  ·rw[List.mem_singleton.1 h];omega
 have hin:i=n:=by omega
 rw[hin,<- hn,WR]at hok;refine W.vs ?_;simp only[go_sem,f31,f32,hb];by_cases g1:grain<1
 ·refine W.sq ?_;simp only[go_sem,f1,g1];exact fin
 by_cases g2:grain > 720
 ·refine W.sq ?_;simp only[go_sem,f1,g1,g2];exact fin
 by_cases g3:least<0
 ·refine W.sq ?_;simp only[go_sem,f1,f2,g1,g2,g3];exact fin
 have gn:¬ (n:Int)=0:=by omega
 have gt:grain.tdiv n=grain / n:=Wa (by omega);have gw:=Vt (grain / n) (by have:=Xt (a:=grain) (b:=n) (by omega) (by omega);have:=XK (a:=grain) n (by omega);omega);have g4:least > grain / n:=by
  refine V2 fun h=>hbad ?_;have:=(XV (show (0:Int)<n by omega)).1 (Int.not_lt.1 h);exact⟨by omega,hok,by omega,by omega,by rw[hn];exact this⟩
 refine W.sq ?_;simp only[go_sem,f0,f1,f2,g1,g2,g3,gn,gt,gw,g4];exact fin
theorem SN {H0 H':AHeap}{v:AVal}{s:List Int}(h:aC H0.next H' 3 v (ints s)):Fz (fun id=>H0.next<=id) H' H0.next (.tup [v,aa 0]) (.tup [ab s,aa 0]):=.tup rfl fun i hi _=>match i,hi with
 | 0,_=>h.jb fun i h=>h
 | 1,_=>.lit _
theorem SO {c:List Int}{grain least:Int}(hl:c.length<2 ^ 40)(H:AHeap)(K:ARes->AHeap->Prop)(hK:K (.ret (wI c grain least)) H):
  ae Tryd.prog G0 31 [ab c,aa grain,aa least] H K:=by
 by_cases h:jo c grain least
 ·have h7:=h.le;obtain⟨h1,h2,h3,h4,h5⟩:=id h;unfold wI at hK;rw[Fy h,Vx rfl]at hK;refine ae.clo ⟨_,Tryd.func31,rfl,rfl⟩ fun hcl=>ae.fin (Fx rfl h1.1 h1.2 h2 h3 ⟨h4,h7⟩ H _ (fun hlt=>absurd h5 (by omega)) fun s v H' _ hs ho hv=>⟨_,rfl,av.bR aT hcl ho (SN hv) ?_⟩);rw[ti hs];exact hK
 ·unfold wI at hK;rw[SL h,Vw (by decide)]at hK;exact SM rfl hl h H K hK
theorem Pa {n:Nat}{D:Nat->Bool}{f:Nat->Int}(h:∀ v,v<n->1<=f v):1<=dP n D f/\dP n D f<=aA ((List.range n).map f):=by
 induction n with
 | zero=>exact⟨Int.le_refl 1,Int.le_refl 1⟩
 | succ n ih =>
  obtain⟨h1,h2⟩:=ih fun v hv=>h v (by omega);have hf:=h n (by omega);rw[vF,WI,Wo,wK];have e:aA ([n].map f)=f n:=by simp [hU,iQ]
  rw[e];cases D n
  ·rw[Vw (by decide),YO];exact⟨h1,Y7 h2 (by have:=V8 hf (show 0<=aA ((List.range n).map f) by omega);omega)⟩
  ·rw[Vx rfl];exact⟨by have:=W7 h1 hf (by omega) (by omega);omega,Wv h2 (by omega)⟩
theorem Pb {n:Nat}(f:Nat->Int):∀ {l:List Nat},l.Nodup->(∀ v∈l,v<n)->dP n (fun v=>decide (v∈l)) f=aA (l.map f):=by
 intro l
 induction l with
 | nil=>intro _ _;rw[show (fun v=>decide (v∈([]:List Nat)))=fun _=>false from funext fun v=>by simp,DA];rfl
 | cons a l ih =>
  intro hn hl;obtain⟨h1,h2⟩:=XS.1 hn;have ha:=hl a (by simp);rw[vG (D:=fun v=>decide (v∈l)) (v:=a) f (by simpa using h1) (by simp) (fun i hi=>by simp [hi]),Vx ha,ih h2 fun v hv=>hl v (by simp [hv]),List.map_cons,hU,WZ]
theorem Pc {g:Int}{ns:List NodeP}(h:NetOk g ns){v:Nat}{x:NodeP}(hx:ns[v]?=some x):(v:Int) ∉ x.parents:=by
 intro hm;have ha:=h.acyc v (by rw[sQ];exact get_lt hx);rw[bf (o9 hx)]at ha;have hpos:=fun q hq=>((h.node x (Vs hx)).2.2 q hq).1;have hb:(eb x.parents).testBit v=true:=by rw[nI hpos];exact VM hm
 have:=wN (bA ns) (bA ns).length (eb x.parents) v hb;unfold fE at ha;rw[ha]at this;cases this
theorem vK {g:Int}{ns:List NodeP}(h:NetOk g ns){v:Nat}{x:NodeP}(hx:ns[v]?=some x):1<=(x.rows.length:Int)*x.card/\(x.rows.length:Int)*x.card<=1024:=by
 have hxm:=Vs hx;obtain⟨hpw,hpr⟩:=(h.node x hxm).2;have hl:(x.parents.map Int.toNat).Nodup:=by
  refine List.pairwise_map.2 (hpw.imp_of_mem fun {a b} ha hb hab=>?_);have:=(hpr a ha).1;omega
 have hno:=Pc h hx;have hn2:(v :: x.parents.map Int.toNat).Nodup:=XS.2 ⟨fun hm=>by
  obtain⟨q,hq,hqv⟩:=VN.1 hm;exact hno (by rw[<- hqv,Ws (hpr q hq).1];exact hq),hl⟩
 have hr2:∀ u∈(v :: x.parents.map Int.toNat),u<ns.length:=fun u hu=>by
  rcases List.mem_cons.1 hu with rfl|hu
  ·exact get_lt hx
  ·obtain⟨q,hq,rfl⟩:=VN.1 hu;have:=hpr q hq;omega
 have e:=Pb (fun u=>(af ns).getD u 0) hn2 hr2;have hge:=Pa (n:=ns.length) (D:=fun u=>decide (u∈v :: x.parents.map Int.toNat)) (f:=fun u=>(af ns).getD u 0) fun u hu=>by
  obtain⟨y,hy⟩:=get_of_lt hu;show 1<=(af ns).getD u 0;rw[bf (cN hy)];exact(h.node y (Vs hy)).1.1
 rw[e,DD,List.map_cons,hU,Yh]at hge;have e2:aA (x.parents.map ((fun u=>(af ns).getD u 0) ∘ Int.toNat))=aA (aQ ns x):=rfl;rw[e2,bf (cN hx),<- (h.rows x hxm).1,WZ]at hge;have:=h.size;omega
def md (l:List Int)(i:Nat)(d:Int):List Int:=l.set i (l.getD i 0+d)
theorem Pd (l:List Int)(i:Nat)(d:Int):(md l i d).length=l.length:=by simp [md]
theorem Pe {l:List Int}{i:Nat}(h:i<l.length)(d:Int):(md l i d).sum=l.sum+d:=by
 induction l generalizing i with
 | nil=>simp at h
 | cons a l ih =>
  cases i with
  | zero=>simp [md];omega
  | succ i =>
   have:=ih (i:=i) (by simpa using h);unfold md at this ⊢;simp only[List.set_cons_succ,V5,Wi,this];omega
theorem Pf {l:List Int}(h:∀ x∈l,0<=x)(i:Nat){d:Int}(hd:0<=d):∀ x∈md l i d,0<=x:=fun x hx=>by
 rcases Wy hx with hx|rfl
 ·exact h x hx
 ·rw[Vy];cases hy:l[i]? with
  | none=>simpa using hd
  | some y=>have:=h y (Vs hy);simp;omega
def jg (ns:List NodeP)(x:NodeP)(v:Nat)(w:List Int):Int:=eo (aQ ns x) (aP w x.parents)*x.card+w.getD v 0
def kq (ns:List NodeP)(x:NodeP)(v:Nat)(s w:List Int):List Int:=md s (jg ns x v w).toNat (weight ns w)
def fP (ns:List NodeP)(x:NodeP)(v:Nat)(ws:List (List Int)):List Int:=ws.foldl (kq ns x v) (List.replicate (x.rows.length*x.card.toNat) 0)
theorem Pg (ns:List NodeP)(x:NodeP)(v:Nat)(ws:List (List Int))(w:List Int):fP ns x v (ws++[w])=kq ns x v (fP ns x v ws) w:=by unfold fP;rw[WK];rfl
theorem z0 {g:Int}{ns:List NodeP}(h:NetOk g ns){v:Nat}{x:NodeP}(hx:ns[v]?=some x){w:List Int}(hw:bP (af ns) w):0<=jg ns x v w/\jg ns x v w<x.rows.length*x.card:=by
 have hxm:=Vs hx;have hin:ik x.parents ns.length:=fun q hq=>by have:=(h.node x hxm).2.2 q hq;omega
 have h1:=tn (w9 hin hw);obtain⟨a,ha⟩:=get_of_lt (l:=w) (i:=v) (by rw[hw.1,bK];exact get_lt hx);have h2:=hw.2 v x.card a (cN hx) ha;have hl:=(h.rows x hxm).1;unfold jg;rw[bf ha];have hc:=(h.node x hxm).1;have m1:0<=eo (aQ ns x) (aP w x.parents)*x.card:=WE h1.1 (by omega);have m2:(eo (aQ ns x) (aP w x.parents)+1)*x.card<=x.rows.length*x.card:=Wv (by omega) (by omega);rw[XN]at m2;omega
theorem sR {g:Int}{ns:List NodeP}(h:NetOk g ns){v:Nat}{x:NodeP}(hx:ns[v]?=some x)(ws:List (List Int))(hw:∀ w∈ws,bP (af ns) w):
  ((fP ns x v ws).length:Int)=x.rows.length*x.card/\(∀ y∈fP ns x v ws,0<=y)/\(fP ns x v ws).sum=(ws.map (weight ns)).sum:=by
 have hc:=(h.node x (Vs hx)).1;have key:∀ (l:List (List Int)) (s:List Int),(∀ w∈l,bP (af ns) w)->(s.length:Int)=x.rows.length*x.card->(∀ y∈s,0<=y) ->
   ((l.foldl (kq ns x v) s).length:Int)=x.rows.length*x.card/\(∀ y∈l.foldl (kq ns x v) s,0<=y)/\(l.foldl (kq ns x v) s).sum=s.sum+(l.map (weight ns)).sum:=by
  intro l
  induction l with
  | nil=>intro s _ h1 h2;exact⟨h1,h2,by simp⟩
  | cons w l ih =>
   intro s hl h1 h2;have hp:=z0 h hx (hl w (by simp));have hwt:=DF h (hl w (by simp));obtain⟨a,b,c⟩:=ih (kq ns x v s w) (fun w' h'=>hl w' (by simp [h'])) (by unfold kq;rw[Pd];exact h1) (Pf h2 _ hwt.1);refine⟨a,b,?_⟩;rw[Xc,c];unfold kq;rw[Pe (by omega),List.map_cons,V5];omega
 have e:((List.replicate (x.rows.length*x.card.toNat) (0:Int)).length:Int)=x.rows.length*x.card:=by
  rw[WH,Wx,Ws (by omega)]
 obtain⟨a,b,c⟩:=key ws _ hw e fun y hy=>by rw[Wk hy];exact Int.le_refl _
 refine⟨a,b,?_⟩;unfold fP;rw[c];have:(List.replicate (x.rows.length*x.card.toNat) (0:Int)).sum=0:=by rw[List.sum_replicate_int];simp
 omega
theorem Ph {α:Type}(f:α->Int)(p:α->Bool)(l:List α)(h:∀ a∈l,0<=f a):((l.filter p).map f).sum<=(l.map f).sum:=by
 induction l with
 | nil=>simp
 | cons a l ih =>
  have h1:=h a (by simp);have h2:=ih fun b hb=>h b (by simp [hb]);rw[List.filter_cons];split
  ·simp only[List.map_cons,V5];omega
  ·simp only[List.map_cons,V5];omega
theorem z8 {g:Int}{ns:List NodeP}(h:NetOk g ns)(h6:ns.length<=6){r:List Int}(hr:r.length=ns.length):dz ns r<=46656000000:=by
 unfold dz;rw[zR (by rw[hr,bK])];refine Y7 (Ph _ _ _ fun w hw=>(DF h (zQ (iF h) hw)).1) ?_;rw[OT h];have hg:=h.g1;obtain⟨k,rfl⟩:∃ k:Nat,g=k:=⟨g.toNat,by omega⟩
 have a1:k ^ ns.length<=60 ^ ns.length:=X9 (by omega) _;have a2:(60:Nat) ^ ns.length<=60 ^ 6:=VT (by decide) h6;have a3:(60:Nat) ^ 6=46656000000:=by decide
 rw[<- Int.natCast_pow];omega
noncomputable def jH (c:List Int):List Int:=nE 0 (dQ 720 0 c) c
def jh (ns:List NodeP)(x:NodeP)(v:Nat)(r:List Int):List Int:=fP ns x v (di (af ns) r)
def iG (a b:List Int):List Int:=List.zipWith (·+·) a b
noncomputable def cJ (ns:List NodeP)(x:NodeP)(v:Nat)(xs:List (List Int)):List Int:=xs.foldl (fun s r=>iG s (jH (jh ns x v r))) (List.replicate (x.rows.length*x.card.toNat) 0)
theorem z9 (ns:List NodeP)(x:NodeP)(v:Nat)(xs:List (List Int))(r:List Int):cJ ns x v (xs++[r])=iG (cJ ns x v xs) (jH (jh ns x v r)):=by unfold cJ;rw[WK];rfl
theorem Aa {g:Int}{ns:List NodeP}(h:NetOk g ns)(h6:ns.length<=6){v:Nat}{x:NodeP}(hx:ns[v]?=some x){r:List Int}(hr:r.length=ns.length):jo (jh ns x v r) 720 0:=by
 have hl:=vK h hx;obtain⟨a,b,c⟩:=sR h hx (di (af ns) r) fun w hw=>nk (iF h) (by rw[hr,bK]) hw;have hm:=z8 h h6 hr;have hs:(jh ns x v r).sum=dz ns r:=c;refine⟨by unfold jh;omega,fun y hy=>⟨b y hy,?_⟩,by omega,by omega,by omega⟩;have:=rp (l:=jh ns x v r) b y hy;omega
theorem Ab {c:List Int}(h:jo c 720 0):iS 0 (dQ 720 0 c) c (jH c)/\(jH c).length=c.length/\(jH c).sum=720/\∀ x∈jH c,0<=x/\x<=720:=by
 obtain⟨s,hs⟩:=AD 0 (dQ 720 0 c) (c:=c) (by have:=h.1;omega);have e:jH c=s:=(ti hs).symm;rw[e];have h1:=Gc (by have:=h.1;omega) hs;have h2:=Gd (fun x hx=>(h.2.1 x hx).1) (by have:=h.1;omega) (by unfold dQ;omega) hs;refine⟨hs,h1.1,h1.2,fun x hx=>⟨h2 x hx,?_⟩⟩;have:=rp h2 x hx;omega
theorem DR {a b:List Int}(h:a.length=b.length):(iG a b).length=a.length:=by simp [iG,h]
theorem Pi {a b:List Int}{m n:Int}(ha:∀ x∈a,0<=x/\x<=m)(hb:∀ x∈b,0<=x/\x<=n):∀ x∈iG a b,0<=x/\x<=m+n:=fun x hx=>by
 obtain⟨i,hi⟩:=Zd hx;unfold iG at hi;rw[Yt]at hi;cases h1:a[i]? with
 | none=>rw[h1]at hi;simp at hi
 | some y =>
  cases h2:b[i]? with
  | none=>rw[h1,h2]at hi;simp at hi
  | some z =>
   rw[h1,h2]at hi;simp only[Option.some.injEq]at hi;have:=ha y (Vs h1);have:=hb z (Vs h2);omega
theorem sS {g:Int}{ns:List NodeP}(h:NetOk g ns)(h6:ns.length<=6){v:Nat}{x:NodeP}(hx:ns[v]?=some x)(xs:List (List Int))(hr:∀ r∈xs,r.length=ns.length):
  ((cJ ns x v xs).length:Int)=x.rows.length*x.card/\∀ y∈cJ ns x v xs,0<=y/\y<=720*xs.length:=by
 have hc:=(h.node x (Vs hx)).1;have key:∀ k,k<=xs.length->((cJ ns x v (xs.take k)).length:Int)=x.rows.length*x.card/\∀ y∈cJ ns x v (xs.take k),0<=y/\y<=720*k:=by
  intro k
  induction k with
  | zero =>
   intro _;refine⟨?_,fun y hy=>?_⟩
   ·show ((List.replicate (x.rows.length*x.card.toNat) (0:Int)).length:Int)=_;rw[WH,Wx,Ws (by omega)]
   ·have hy':y∈List.replicate (x.rows.length*x.card.toNat) (0:Int):=hy;rw[Wk hy'];simp
  | succ k ih =>
   intro hk;obtain⟨r,hrk⟩:=get_of_lt (l:=xs) (i:=k) (by omega);have hrl:=hr r (Vs hrk);obtain⟨h1,h2⟩:=ih (by omega);have hp:=Aa h h6 hx hrl;obtain⟨_,h4,_,h5⟩:=Ab hp;obtain⟨a,_,_⟩:=sR h hx (di (af ns) r) fun w hw=>nk (iF h) (by rw[hrl,bK]) hw;have a':((jh ns x v r).length:Int)=x.rows.length*x.card:=a;rw[aL hrk,z9];refine⟨by rw[DR (by omega)];exact h1,fun y hy=>?_⟩;have:=Pi h2 h5 y hy;omega
 have:=key xs.length (Nat.le_refl _);rw[WR]at this;exact this
set_option maxHeartbeats 1000000 in
theorem Ap (cs:List Int)(xs:List (List Int))(hf:ku cs xs)(H:AHeap)(K:ARes -> AHeap -> Prop)(hK:K (.ret (aa (if gZ cs xs then 0 else 250))) H):ae Tryd.prog G0 14 [da cs xs] H K := by
  refine ae.clo ⟨_, Tryd.func14, rfl, rfl⟩ fun hcl => ?_;have no:¬ DataOk cs xs -> ∀ H', Over H H' -> av Tryd.prog G0 H K (aa 250) H' := fun h H' ov => av.bR aT hcl ov (.lit _) (by rw[Qs h]at hK; exact hK);obtain⟨f1, f2, f3⟩ := hf;refine ae.bF (n := 80) (rs := [.tmp 2]) Tryd.func14 rfl rfl rfl (by decide) (by kernel_rfl) (by simp) ?_;simp only[go_sem, da, aB, eY];obtain⟨H1, hH1⟩:∃ H1, H1 = ext H [.arr 0 42 [.vec cs.length (ints cs), .vec xs.length (xs.map ab)]] := ⟨_, rfl⟩
  have l1:H1.live H.next 0 = some (42, [.vec cs.length (ints cs), .vec xs.length (xs.map ab)]) := by rw[hH1]; exact ak (dN ..)
  have o1:Over H H1 := by rw[hH1]; exact .ext _ _
  rw[<- hH1];by_cases c1:(cs.length:Int) < 1
  · simp only[go_sem, l1, c1, jR, eY];exact no (fun h => by have := h.c1; omega) _ o1
  by_cases c2:(cs.length:Int) > 6
  · simp only[go_sem, l1, c1, c2, jR, eY];exact no (fun h => by have := h.c1; omega) _ o1
  by_cases c3:(xs.length:Int) > 40
  · simp only[go_sem, l1, c1, c2, c3, jR, eY];exact no (fun h => by have := h.x1; omega) _ o1
  simp only[go_sem, l1, c1, c2, c3, jR, eY];refine W.aG 17591112302636 (by rfl) (fun ρ H' => H' = H1 /\ ∃ k:Nat, ρ 30 = aa k /\ k <= cs.length /\ (∀ c ∈ cs.take k, 2 <= c /\ c <= 4) /\ ρ 3 = aa (aA (cs.take k))) (fun ρ H => cs.length - (iv (ρ 30)).toNat) ?_ ?_
  · simp only[go_sem, eY];exact⟨0, rfl, by omega, by simp, by simp [iQ]⟩
  rintro ρ H' ⟨rfl, k, h30, hk, hall, h3⟩;refine W.vs ?_;by_cases hb:(k:Int) < cs.length
  · obtain⟨c, hc⟩ := get_of_lt (l := cs) (i := k) (by omega);have hne := aJ hc;have hcm := Vs hc;by_cases d1:c < 2
    · simp only[go_sem, h30, hb, hne, hc, d1, jR, eY];exact no (fun h => by have := h.card c hcm; omega) _ o1
    by_cases d2:c > 4
    · simp only[go_sem, h30, hb, hne, hc, d1, d2, jR, eY];exact no (fun h => by have := h.card c hcm; omega) _ o1
    have hall':∀ y ∈ cs.take (k + 1), 2 <= y /\ y <= 4 := fun y hy => by
      rw[aL hc]at hy;rcases VP.1 hy with hy | hy
      · exact hall y hy
      · obtain rfl := List.mem_singleton.1 hy; omega
    have b1 := Qt hall' (by simp; omega);rw[aL hc, jM]at b1;have w1 := Vt ((k:Int) + 1) (by omega);have w2 := Vt (aA (cs.take k) * c) (by omega);simp only[go_sem, h30, h3, hb, hne, hc, d1, d2, w1, w2, jR, eY];exact⟨⟨k + 1, rfl, by omega, hall', by rw[aL hc, jM]⟩, by omega⟩
  rw[Vz (by omega)]at hall h3;by_cases c4:aA cs > 1024
  · simp only[go_sem, h30, h3, hb, c4, eY];exact no (fun h => by have := h.size; omega) _ o1
  simp only[go_sem, h30, h3, hb, c4, l1, eY];refine W.aG 604462909244364633933632 (by rfl) (fun ρ Ha => Ha = H' /\ ∃ k:Nat, ρ 49 = aa k /\ k <= xs.length /\ (∀ r ∈ xs.take k, qI cs r) /\ ρ 6 = aa 0) (fun ρ H => xs.length - (iv (ρ 49)).toNat) ?_ ?_
  · simp only[go_sem, eY];exact⟨0, rfl, by omega, by simp⟩
  rintro ρ' Ha ⟨rfl, i, h49, hi, hrows, h6⟩;refine W.vs ?_;by_cases hb2:(i:Int) < xs.length;rotate_left
  · simp only[go_sem, h49, h6, hb2, eY];rw[Vz (by omega)]at hrows;rw[vY ⟨by omega, by omega, hall, by omega, hrows⟩]at hK;exact av.bR aT hcl o1 (.lit _) hK
  obtain⟨r, hr⟩ := get_of_lt (l := xs) (i := i) (by omega);have hrm := Vs hr;have hr' := mg hr;have hrn := aJ hr';by_cases hl:(r.length:Int) = cs.length;rotate_left
  · simp only[go_sem, h49, hb2, hr', hrn, l1, hl, eY];exact no (fun h => hl (by have := (h.row r hrm).1; omega)) _ o1
  simp only[go_sem, h49, h6, hb2, hr', hrn, l1, hl, eY];refine W.aG 302229149060648079984192 (by rfl) (fun ρ2 Hb => Hb = Ha /\ ∃ j:Nat, ρ2 61 = aa j /\ j <= r.length /\ (∀ (v:Nat) (c x:Int), v < j -> cs[v]? = some c -> r[v]? = some x -> -1 <= x /\ x < c) /\ ρ2 6 = aa 0) (fun ρ2 H => r.length - (iv (ρ2 61)).toNat) ?_ ?_
  · simp only[go_sem, h6, eY];exact⟨0, rfl, by omega, fun v _ _ h => by omega⟩
  rintro ρ2 Hb ⟨rfl, j, h61, hj, hin, h6'⟩;refine W.vs ?_;have w1 := Vt ((i:Int) + 1) (by omega);by_cases hb3:(j:Int) < cs.length
  · obtain⟨x, hx⟩ := get_of_lt (l := r) (i := j) (by omega);obtain⟨c, hc⟩ := get_of_lt (l := cs) (i := j) (by omega);have hxn := aJ hx;have hcn := aJ hc;by_cases d1:x < -1
    · simp only[go_sem, h61, hb3, hl, hx, hxn, d1, jR, eY];exact no (fun h => by have := (h.row r hrm).2 j c x hc hx; omega) _ o1
    by_cases d2:x >= c
    · simp only[go_sem, h61, hb3, hl, hx, hxn, hc, hcn, l1, d1, d2, jR, eY];exact no (fun h => by have := (h.row r hrm).2 j c x hc hx; omega) _ o1
    have w2 := Vt ((j:Int) + 1) (by omega);simp only[go_sem, h61, h6', hb3, hl, hx, hxn, hc, hcn, l1, d1, d2, w2, jR, eY];refine⟨⟨j + 1, rfl, by omega, fun v c' x' hv h1 h2 => ?_⟩, by omega⟩;rcases VR v j with h | h
    · exact hin v c' x' h h1 h2
    · obtain rfl:v = j :=(by omega);rw[hc]at h1; rw[hx]at h2;cases h1; cases h2; omega
  · simp only[go_sem, h61, h6', h49, hb3, hl, w1, eY];refine⟨⟨i + 1, rfl, by omega, fun q hq => ?_⟩, by omega⟩;rw[aL hr]at hq;rcases VP.1 hq with hq | hq
    · exact hrows q hq
    · obtain rfl := List.mem_singleton.1 hq;exact .of (by omega) fun v c x hv => hin v c x (by omega)
theorem O7 (l:List Int)(v:Int)(hl:(l.length:Int)<2 ^ 62)(H:AHeap)(K:ARes->AHeap->Prop)(hK:∀ i:Int,(0<=i↔v∈l)->K (.ret (aa i)) H):ae Tryd.prog G0 57 [ab l,aa v] H K:=by
 refine ae.bF (n:=19) (rs:=[.tmp 4]) Tryd.func57 rfl rfl rfl (by decide) (by kernel_rfl) (by simp) ?_;simp only[go_sem];refine W.aG 524080 (by rfl) (fun ρ H'=>H'=H/\∃ k:Nat,ρ 8=aa k/\k<=l.length/\∀ j,j<k->∀ b,l[j]?=some b->b≠v) (fun ρ H=>l.length - (iv (ρ 8)).toNat) ?_ ?_
 ·simp only[go_sem];exact⟨0,rfl,by omega,fun j h=>absurd h (VX _)⟩
 rintro ρ H' ⟨rfl,k,h8,hk,hno⟩;refine W.vs ?_;by_cases hb:(k:Int)<l.length
 ·obtain⟨b,hkb⟩:=get_of_lt (l:=l) (i:=k) (by omega);have hne:=aJ hkb;have w1:=Vt ((k:Int)+1) (by omega);by_cases he:v=b
  ·subst he;simp only[go_sem,h8,hb,hkb,hne];exact av.mk (Nat.le_refl _) (hK k ⟨fun _=>Vs hkb,fun _=>by omega⟩)
  ·simp only[go_sem,h8,hb,hkb,hne,he,w1];exact⟨⟨k+1,by simp,by omega,fun j hj b' hb'=>by
    by_cases hjk:j=k
    ·subst hjk;rw[hkb]at hb';cases hb';exact fun h=>he h.symm
    ·exact hno j (by omega) b' hb'⟩,by omega⟩
 ·simp only[go_sem,h8,hb];refine av.mk (Nat.le_refl _) (hK (-1) ⟨fun h=>absurd h (by decide),fun hv=>?_⟩);obtain⟨j,hj⟩:=V0.1 hv;exact absurd rfl (hno j (by have:=get_lt hj;omega) v hj)
theorem O8 (l:List Int)(v:Int)(hl:(l.length:Int)<2 ^ 62)(H:AHeap)(K:ARes->AHeap->Prop)(hK:K (.ret (.lit (.bool (decide (v∈l))))) H):ae Tryd.prog G0 37 [ab l,aa v] H K:=by
 refine ae.bF (n:=9) (rs:=[.tmp 4]) Tryd.func37 rfl rfl rfl (by decide) (by kernel_rfl) (by simp) ?_;simp only[go_sem];refine aw.clo (O7 l v hl H _ fun i hi=>⟨trivial,?_⟩);by_cases h0:0<=i
 ·simp only[go_sem,h0];rw[VM (hi.1 h0)]at hK;exact av.mk (Nat.le_refl _) hK
 ·simp only[go_sem,h0];rw[VZ fun h=>h0 (hi.2 h)]at hK;exact av.mk (Nat.le_refl _) hK
theorem DO (l:List Int)(hl:(l.length:Int)<2 ^ 62)(H:AHeap)(K:ARes->AHeap->Prop)(hK:K (.ret (.lit (.bool (decide ((0:Int)∈l))))) H):ae Tryd.prog G0 28 [ab l] H K:=by
 refine ae.bF (n:=5) (rs:=[.tmp 2]) Tryd.func28 rfl rfl rfl (by decide) (by kernel_rfl) (by simp) ?_;simp only[go_sem];refine aw.clo (O8 l 0 hl H _ ⟨trivial,?_⟩);simp only[go_sem];exact av.mk (Nat.le_refl _) hK
def zZ (p:Int × List NodeP):List AVal:=[aa p.1,.vec p.2.length (au p.2)]
def eg (l:List (Int × List NodeP)):List AVal:=(l.map zZ).flatten
theorem vJ (l:List (Int × List NodeP)):(eg l).length=l.length*2:=nF (f:=zZ) (fun _=>rfl) l
theorem DP {l:List (Int × List NodeP)}{i:Nat}{p:Int × List NodeP}(h:l[i]?=some p):((eg l).drop (i*2)).take 2=[aa p.1,.vec p.2.length (au p.2)]:=qO (f:=zZ) (z:=2) (fun _=>rfl) l i p h
theorem DQ {l:List (Int × List NodeP)}{i:Nat}{p:Int × List NodeP}(h:l[i]?=some p):¬ eg l=[]:=fun e=>by
 have h1:=vJ l;have h2:=get_lt h;rw[e,List.length_nil]at h1;omega
noncomputable def ko (l:List (Int × List NodeP))(cs:List Int)(xs:List (List Int)):Int:=if (∀ p∈l,eG p.1 p.2=true) then (if gZ cs xs=true then (if ∀ p∈l,af p.2=cs then 0 else 261) else 250) else 50
set_option maxHeartbeats 2000000 in
theorem O9 (l:List (Int × List NodeP))(cs:List Int)(xs:List (List Int))(hn:∀ p∈l,gi p.2)(hf:ku cs xs)(hl4:l.length<=4)(H:AHeap)(K:ARes->AHeap->Prop)(hK:K (.ret (aa (ko l cs xs))) H):
  ae Tryd.prog G0 27 [da cs xs,.vec l.length (eg l)] H K:=by
 refine ae.clo ⟨_,Tryd.func27,rfl,rfl⟩ fun hcl=>?_;refine ae.bF (n:=61) (rs:=[.tmp 4]) Tryd.func27 rfl rfl rfl (by decide) (by kernel_rfl) (by simp) ?_;simp only[go_sem,da,aB];obtain⟨H1,hH1⟩:∃ H1,H1=ext H [.arr 0 42 [.vec cs.length (ints cs),.vec xs.length (xs.map ab)]]:=⟨_,rfl⟩
 have n1:H1.next=H.next+1:=by rw[hH1];rfl
 have o1:Over H H1:=by rw[hH1];exact .ext _ _
 have g1:H1.get H.next=some (.arr 0 42 [.vec cs.length (ints cs),.vec xs.length (xs.map ab)]):=by rw[hH1];exact cS
 rw[<- hH1];refine W.en (fun E=>E 1=.vec l.length (eg l) /\ E 2=.ptr H.next 0 0 /\ E 13=.vec l.length (eg l) /\ E 14=aa l.length /\ E 15=aa 0) (by simp only[go_sem]) fun E ⟨e1,e2,e13,e14,e15⟩=>?_
 refine W.aG 33521872 (by rfl) (fun ρ H'=>Over H1 H'/\∃ k:Nat,ρ 15=aa k/\k<=l.length/\∀ p∈l.take k,eG p.1 p.2=true) (fun ρ H=>l.length - (iv (ρ 15)).toNat) ?_ ?_
 ·exact⟨.refl _,0,e15,by omega,fun p h=>by simp at h⟩
 rintro ρ H' ⟨o2,k,h15,hk,hall⟩;have n2:=o2.next;refine W.en (fun F=>F 1=.vec l.length (eg l) /\ F 2=.ptr H.next 0 0 /\ F 13=.vec l.length (eg l) /\ F 14=aa l.length /\ F 15=aa k) (by simp only[go_sem,e1,e2,e13,e14,h15]) fun F ⟨f1,f2,f13,f14,f15⟩=>?_
 by_cases hb:(k:Int)<l.length
 ·obtain⟨p,hp⟩:=get_of_lt (l:=l) (i:=k) (by omega);have hpm:=Vs hp;have hne:=DQ hp;have hpt:=DP hp;have hbd:k*2+2<=(eg l).length:=by rw[vJ];omega
  have w1:=Vt ((k:Int)+1) (by omega);refine W.vs ?_;simp only[go_sem,f13,f14,f15,hb,hne,hpt,hbd];refine aw.clo (Gv p.1 p.2 (hn p hpm) _ _ ⟨trivial,?_⟩);cases hN:eG p.1 p.2
  ·simp only[go_sem];unfold ko at hK;rw[Vw fun hh=>by rw[hh p hpm]at hN;cases hN]at hK;exact av.bR aT hcl (o1.trans (o2.trans (.ext _ _))) (.lit _) hK
  ·simp only[go_sem,f15,w1];refine⟨by omega,⟨o2.trans (.ext _ _),k+1,rfl,by omega,fun q hq=>?_⟩,by rw[h15];simp only[aa,aN];omega⟩;rw[aL hp]at hq;rcases VP.1 hq with hq|hq
   ·exact hall q hq
   ·rw[List.mem_singleton.1 hq];exact hN
 rw[Vz (by omega)]at hall;have l1:=ak ((o2.old H.next (by omega)).trans g1);refine W.vs ?_;simp only[go_sem,f2,f14,f15,hb,l1];refine aw.clo (Ap cs xs hf _ _ ⟨trivial,?_⟩);unfold ko at hK;rw[Vx hall]at hK;cases hD:gZ cs xs
 ·simp only[go_sem];rw[Vw (by rw[hD];decide)]at hK;exact av.bR aT hcl (o1.trans o2) (.lit _) hK
 rw[Vx hD]at hK;have no:∀ p,p∈l->af p.2≠cs->∀ Hx,Over H Hx->av Tryd.prog G0 H K (aa 261) Hx:=fun p hp hne Hx ov=>by
  rw[Vw fun hh=>hne (hh p hp)]at hK;exact av.bR aT hcl ov (.lit _) hK
 simp only[go_sem,f1];refine W.en (fun E1=>E1 2=.ptr H.next 0 0 /\ E1 30=.vec l.length (eg l) /\ E1 31=aa l.length /\ E1 32=aa 0) (by simp only[go_sem,f2]) fun E1 ⟨k2,k30,k31,k32⟩=>?_
 refine W.aG 2305843004918733840 (by rfl) (fun ρ Hx=>Over H' Hx/\∃ k:Nat,ρ 32=aa k/\k<=l.length/\∀ p∈l.take k,af p.2=cs) (fun ρ H=>l.length - (iv (ρ 32)).toNat) ?_ ?_
 ·exact⟨.refl _,0,k32,by omega,fun p h=>by simp at h⟩
 rintro ρ4 Hx ⟨o3,m,h32,hm,hcar⟩;have n3:=o3.next;refine W.en (fun F2=>F2 2=.ptr H.next 0 0 /\ F2 30=.vec l.length (eg l) /\ F2 31=aa l.length /\ F2 32=aa m) (by simp only[go_sem,k2,k30,k31,h32]) fun F2 ⟨m2,m30,m31,m32⟩=>?_
 by_cases hb2:(m:Int)<l.length;rotate_left
 ·refine W.vs ?_;simp only[go_sem,m31,m32,hb2];rw[Vz (by omega)]at hcar;rw[Vx hcar]at hK;exact av.bR aT hcl (o1.trans (o2.trans o3)) (.lit _) hK
 obtain⟨p,hp⟩:=get_of_lt (l:=l) (i:=m) (by omega);obtain⟨g,ns⟩:=p;have hpm:=Vs hp;have hok:=xd.1 (hall _ hpm);have n8:1<=ns.length/\ns.length<=8:=hok.n1;have hne:=DQ hp;have hpt:=DP hp;have hbd:m*2+2<=(eg l).length:=by rw[vJ];omega
 have w1:=Vt ((m:Int)+1) (by omega);have lE:∀ L,(ext Hx L).live H.next 0=some (42,[.vec cs.length (ints cs),.vec xs.length (xs.map ab)]):=fun L=>ak ((dV _ _ _ (by omega)).trans ((o3.old H.next (by omega)).trans ((o2.old H.next (by omega)).trans g1)));by_cases hlen:(ns.length:Int)=cs.length;rotate_left
 ·refine W.vs ?_;simp only[go_sem,m2,m30,m31,m32,hb2,hne,hpt,hbd,lE,hlen];exact no _ hpm (fun hh=>hlen (by rw[<- hh];exact congrArg Int.ofNat (bK ns).symm)) _ ((o1.trans o2).trans (o3.trans (.ext _ _)))
 refine W.vs ?_;simp only[go_sem,m2,m30,m31,m32,hb2,hne,hpt,hbd,lE,hlen];obtain⟨Hy,hHy⟩:∃ Hy,Hy=ext Hx [.arr 0 36 [aa g,.vec ns.length (au ns)]]:=⟨_,rfl⟩
 have oy:Over Hx Hy:=by rw[hHy];exact .ext _ _
 have ny:Hy.next=Hx.next+1:=by rw[hHy];rfl
 refine W.en (fun E3=>E3 2=.ptr H.next 0 0 /\ E3 30=.vec l.length (eg l) /\ E3 31=aa l.length /\ E3 32=aa m /\ E3 44=.vec ns.length (au ns) /\ E3 45=aa ns.length /\ E3 46=aa 0) (by simp only[go_sem,m2,m30,m31,m32,hlen]) fun E3 ⟨p2,p30,p31,p32,p44,p45,p46⟩=>?_
 show W _ _ _ _ _ _ ⟨E3,ext Hx [.arr 0 36 [aa g,.vec ns.length (au ns)]]⟩;rw[<- hHy];refine W.aG 1152851135862675472 (by rfl) (fun ρ Hz=>Over Hy Hz/\∃ v:Nat,ρ 46=aa v/\v<=ns.length/\(af ns).take v=cs.take v) (fun ρ H=>ns.length - (iv (ρ 46)).toNat) ?_ ?_
 ·exact⟨.refl _,0,p46,by omega,rfl⟩
 rintro ρ5 Hz ⟨oz,v,h46,hv,he⟩;have nz:=oz.next;refine W.en (fun E4=>E4 2=.ptr H.next 0 0 /\ E4 30=.vec l.length (eg l) /\ E4 31=aa l.length /\ E4 32=aa m /\ E4 44=.vec ns.length (au ns) /\ E4 45=aa ns.length /\ E4 46=aa v) (by simp only[go_sem,p2,p30,p31,p32,p44,p45,h46]) fun E4 ⟨q2,q30,q31,q32,q44,q45,q46⟩=>?_
 have cl:=bK ns;by_cases hb3:(v:Int)<ns.length;rotate_left
 ·refine W.vs ?_;simp only[go_sem,q32,q45,q46,hb3,w1];rw[Vz (by omega),Vz (by omega)]at he;refine⟨by omega,⟨o3.trans (oy.trans oz),m+1,rfl,by omega,fun q hq=>?_⟩,by rw[h32];simp only[aa,aN];omega⟩
  ·rw[aL hp]at hq;rcases VP.1 hq with hq|hq
   ·exact hcar q hq
   ·rw[List.mem_singleton.1 hq];exact he
 obtain⟨x,hx⟩:=get_of_lt (l:=ns) (i:=v) (by omega);obtain⟨c,hc⟩:=get_of_lt (l:=cs) (i:=v) (by omega);have hxn:=eP hx;have hxp:=kC hx;have hcn:=aJ hc;have hbv:v*3+3<=(au ns).length:=by rw[fT];omega
 have hvc:(v:Int)<cs.length:=by omega
 have w2:=Vt ((v:Int)+1) (by omega);have lF:∀ L,(ext Hz L).live H.next 0=some (42,[.vec cs.length (ints cs),.vec xs.length (xs.map ab)]):=fun L=>ak ((dV _ _ _ (by omega)).trans ((oz.old H.next (by omega)).trans ((oy.old H.next (by omega)).trans ((o3.old H.next (by omega)).trans ((o2.old H.next (by omega)).trans g1)))));refine W.vs ?_;simp only[go_sem,q44,q45,q46,hb3,hxn,hxp,hbv];refine W.draw 7 [0,1,0,4,0,28,60] Tryd.mixed (by kernel_rfl) (by kernel_rfl) ?_;by_cases hd:x.card=c
 ·simp only[go_sem,q2,q46,hc,hcn,hvc,lF,hd,w2];exact⟨by omega,⟨oz.trans (.ext _ _),v+1,rfl,by omega,by rw[aL (cN hx),aL hc,he,hd]⟩,by rw[h46];simp only[aa,aN];omega⟩
 ·simp only[go_sem,q2,hc,hcn,hvc,lF,hd];exact no _ hpm (fun hh=>hd (by have:=cN hx;rw[show af ns=cs from hh,hc]at this;exact(Option.some.inj this).symm)) _ ((o1.trans o2).trans (o3.trans (oy.trans (oz.trans (.ext _ _)))))
theorem Pj {c:List Int}(h:jo c 720 0)(H:AHeap){v:AVal}(hv:Fz (fun _=>True) H 0 v (ab c)):
  ae Tryd.prog G0 31 [v,aa 720,aa 0] H fun r H'=>r=.ret (.tup [ab (jH c),aa 0])/\H'=H:=by
 obtain⟨h1,h2,h3,h4,h5⟩:=id h;refine ae.frame (H:=H) (args:=[v,aa 720,aa 0]) (args':=[ab c,aa 720,aa 0]) (v':=.tup [ab (jH c),aa 0]) aT rfl (fun i hi _=>match i,hi with
  | 0,_=>hv
  | 1,_=>.lit _
  | 2,_=>.lit _) ?_
 refine Fx rfl h1.1 h1.2 h2 h3 ⟨h4,by decide⟩ cL _ (fun hlt=>absurd h5 (by omega)) fun s u H' _ hs ho hu=>⟨_,rfl,.tup rfl fun i hi _=>?_⟩
 match i,hi with
 | 0,_ =>
  have e:jH c=s:=(ti hs).symm;rw[e];exact hu.tz
 | 1,_=>exact .lit _
set_option maxHeartbeats 4000000 in
theorem DS (g:Int)(ns:List NodeP)(h:NetOk g ns)(h6:ns.length<=6)(cs:List Int)(xs:List (List Int))(hx40:xs.length<=64)(hrow:∀ r∈xs,r.length=ns.length)(v:Nat)(x:NodeP)(hx:ns[v]?=some x)
  (H:AHeap) (K:ARes->AHeap->Prop) (hK:K (.ret (.tup [ab (cJ ns x v xs),aa 0])) H):
  ae Tryd.prog G0 30 [aZ g ns,da cs xs,aa v] H K:=by
 refine ae.clo ⟨_,Tryd.func30,rfl,rfl⟩ fun hcl=>?_;have n8:=h.n1;have hxm:=Vs hx;have hxc:=(h.node x hxm).1;have hrc:=vK h hx;have hvn:(v:Int)<ns.length:=by have:=get_lt hx;omega
 have hne:=eP hx;have hpt:=kC hx;have hbd:v*3+3<=(au ns).length:=by rw[fT];omega
 have wL:=Vt ((x.rows.length:Int)*x.card) (by omega);obtain⟨L,hL⟩:∃ L:Nat,(x.rows.length:Int)*x.card=L:=⟨((x.rows.length:Int)*x.card).toNat,by omega⟩
 have hLn:x.rows.length*x.card.toNat=L:=by
  have:((x.rows.length*x.card.toNat:Nat):Int)=x.rows.length*x.card:=by rw[Wx,Ws (by omega)]
  omega
 rw[hL]at wL hrc;refine ae.bF (n:=111) (rs:=[.tmp 6,.tmp 7]) Tryd.func30 rfl rfl rfl (by decide) (by kernel_rfl) (by simp) ?_;simp only[go_sem,aZ,dk,da,aB,hvn,hne,hpt,hbd,hL,wL];refine⟨by omega,?_⟩;obtain⟨H1,hH1⟩:∃ H1,H1=ext H [.arr 0 36 [aa g,.vec ns.length (au ns)],.arr 0 42 [.vec cs.length (ints cs),.vec xs.length (xs.map ab)],.arr 0 3 [aa v],.arr 0 53 [aa x.card,.vec x.parents.length (ints x.parents),.vec x.rows.length (x.rows.map ab)],.arr 0 3 (List.replicate L (aa 0))]:=⟨_,rfl⟩
 have n1:H1.next=H.next+5:=by rw[hH1];rfl
 have o1:Over H H1:=by rw[hH1];exact .ext _ _
 have g0:H1.get H.next=some (.arr 0 36 [aa g,.vec ns.length (au ns)]):=by rw[hH1];exact bC H _ 0 (by simp)
 have g2:H1.get (H.next+2)=some (.arr 0 3 [aa v]):=by rw[hH1];exact bC H _ 2 (by simp)
 have g3:H1.get (H.next+3)=some (.arr 0 53 [aa x.card,.vec x.parents.length (ints x.parents),.vec x.rows.length (x.rows.map ab)]):=by rw[hH1];exact bC H _ 3 (by simp)
 have hz:List.replicate L (aa 0)=ints (List.replicate L 0):=by simp [ints,aa]
 have g4:H1.get (H.next+4)=some (.arr 0 3 (ints (cJ ns x v (xs.take 0)))):=by
  rw[hH1,bC H _ 4 (by simp)];show some (Blk.arr 0 _ (List.replicate L (aa 0)))=some (.arr 0 _ (ints (List.replicate (x.rows.length*x.card.toNat) 0)));rw[hz,hLn]
 refine W.en (fun E=>E 3=.ptr H.next 0 0 /\ E 5=.ptr (H.next+2) 0 0 /\ E 8=.ptr (H.next+3) 0 0 /\ E 9=.own (H.next+4) 0 0 L 1 /\ E 35=.vec xs.length (xs.map ab) /\ E 36=aa xs.length /\ E 37=aa 0) (by simp only[go_sem]) fun E ⟨e3,e5,e8,e9,e35,e36,e37⟩=>?_
 show W _ _ _ _ _ _ ⟨E,ext H [.arr 0 36 [aa g,.vec ns.length (au ns)],.arr 0 42 [.vec cs.length (ints cs),.vec xs.length (xs.map ab)],.arr 0 3 [aa v],.arr 0 53 [aa x.card,.vec x.parents.length (ints x.parents),.vec x.rows.length (x.rows.map ab)],.arr 0 3 (List.replicate L (aa 0))]⟩;rw[<- hH1];refine W.aG 1298074137262454452077694442805440 (by kernel_rfl) (fun ρ H'=>∃ i:Nat,ρ 37=aa i/\i<=xs.length/\H1.next<=H'.next/\(∀ id,id<H1.next->id≠H.next+4->H'.get id=H1.get id)/\H'.get (H.next+4)=some (.arr 0 3 (ints (cJ ns x v (xs.take i))))) (fun ρ H=>xs.length - (iv (ρ 37)).toNat) ?_ ?_
 ·exact⟨0,e37,by omega,Nat.le_refl _,fun _ _ _=>rfl,g4⟩
 rintro ρ H' ⟨i,h37,hi,hn,hk,hg4⟩;have hxt:∀ r∈xs.take i,r.length=ns.length:=fun r hr=>hrow r (VW hr);obtain⟨el,er⟩:=sS h h6 hx (xs.take i) hxt;obtain⟨X,hX⟩:∃ X,X=cJ ns x v (xs.take i):=⟨_,rfl⟩
 rw[<- hX]at el er hg4;rw[hL]at el;have hXl:X.length=L:=by omega
 refine W.en (fun F=>F 3=.ptr H.next 0 0 /\ F 5=.ptr (H.next+2) 0 0 /\ F 8=.ptr (H.next+3) 0 0 /\ F 9=.own (H.next+4) 0 0 L 1 /\ F 35=.vec xs.length (xs.map ab) /\ F 36=aa xs.length /\ F 37=aa i) (by simp only[go_sem,e3,e5,e8,e9,e35,e36,h37]) fun F ⟨f3,f5,f8,f9,f35,f36,f37⟩=>?_
 by_cases hb:(i:Int)<xs.length;rotate_left
 ·have ei:i=xs.length:=by omega
  refine W.vs ?_;simp only[go_sem,f9,f36,f37,hb];rw[ei,WR]at hX;rw[<- hX]at hK;have ovx:Over H H':=⟨by omega,fun id hi=>(hk id (by omega) (by omega)).trans (o1.old id hi)⟩
  exact av.bR (v':=.tup [ab X,aa 0]) aT hcl ovx (.tup rfl fun i hi _=>match i,hi with
   | 0,_=>Fz.ints (by omega) hg4 hXl.symm fun j hj=>by rw[Nat.zero_add,eZ];simp only[Vv hj,Option.map_some]
   | 1,_=>.lit _) hK
 obtain⟨r,hr⟩:=get_of_lt (l:=xs) (i:=i) (by omega);have hr':=mg hr;have hrn:=aJ hr';have hrl:=hrow r (Vs hr);have lE:∀ L,(ext H' L).live H.next 0=some (36,[aa g,.vec ns.length (au ns)]):=fun L=>ak ((dV _ _ _ (by omega)).trans ((hk H.next (by omega) (by omega)).trans g0));have l4:H'.live (H.next+4) 0=some (3,ints X):=ak hg4;have hbL:(L:Int)*8<=2 ^ 46/\(L:Int)<=2 ^ 46:=by omega
 refine W.vs ?_;simp only[go_sem,f3,f9,f35,f36,f37,hb,hr',hrn,lE,l4,hbL];obtain⟨Ha,hHa⟩:∃ Ha,Ha=ext H' [.arr 0 3 (List.replicate L (aa 0)),.arr 0 39 [.own H'.next 0 0 L 1]]:=⟨_,rfl⟩
 obtain⟨Hb,hHb⟩:∃ Hb,Hb=ext Ha [.arr 0 105 [aa g,.vec ns.length (au ns),.vec r.length (ints r)]]:=⟨_,rfl⟩
 have na:Ha.next=H'.next+2:=by rw[hHa];rfl
 have nb:Hb.next=H'.next+3:=by rw[hHb];show Ha.next+1=_;rw[na]
 have ka:Ha.get H'.next=some (.arr 0 3 (ints (fP ns x v []))):=by
  rw[hHa,dN];show some (Blk.arr 0 _ (List.replicate L (aa 0)))=some (.arr 0 _ (ints (List.replicate (x.rows.length*x.card.toNat) 0)));rw[hz,hLn]
 have ka1:Ha.get (H'.next+1)=some (.arr 0 39 [.own H'.next 0 0 L 1]):=by rw[hHa];exact bC H' _ 1 (by simp)
 have kb:Hb.get (H'.next+2)=some (.arr 0 105 [aa g,.vec ns.length (au ns),.vec r.length (ints r)]):=by rw[hHb,<- na];exact cS
 have oab:∀ id,id<H'.next+2->Hb.get id=Ha.get id:=fun id hh=>by rw[hHb];exact fb (by omega)
 have oa:∀ id,id<H'.next->Hb.get id=H'.get id:=fun id hh=>by rw[oab id (by omega),hHa];exact dV _ _ _ hh
 refine aw.clo (DM g ns r _ _ ⟨trivial,?_⟩);simp only[go_sem];refine W.env fun E1 hE1=>?_;have k3:E1 3=.ptr H.next 0 0:=by rw[hE1];simp only[go_sem,f3]
 have k5:E1 5=.ptr (H.next+2) 0 0:=by rw[hE1];simp only[go_sem,f5]
 have k8:E1 8=.ptr (H.next+3) 0 0:=by rw[hE1];simp only[go_sem,f8]
 have k9:E1 9=.own (H.next+4) 0 0 L 1:=by rw[hE1];simp only[go_sem,f9]
 have k12:E1 12=.ptr (H'.next+1) 0 0:=by rw[hE1];simp only[go_sem]
 have k35:E1 35=.vec xs.length (xs.map ab):=by rw[hE1];simp only[go_sem,f35]
 have k36:E1 36=aa xs.length:=by rw[hE1];simp only[go_sem,f36]
 have k37:E1 37=aa i:=by rw[hE1];simp only[go_sem,f37]
 have k47:E1 47=.clo 60 [] [.ptr (H'.next+2) 0 0]:=by rw[hE1];rfl
 clear hE1;show W _ _ _ _ _ _ ⟨E1,ext (ext H' [.arr 0 3 (List.replicate L (aa 0)),.arr 0 39 [.own H'.next 0 0 L 1]]) [.arr 0 105 [aa g,.vec ns.length (au ns),.vec r.length (ints r)]]⟩;rw[<- hHa,<- hHb];have w1:=Vt ((i:Int)+1) (by omega);obtain⟨D,hD⟩:∃ D,D=di (af ns) r:=⟨_,rfl⟩
 have hDf:∀ w∈D,bP (af ns) w:=fun w hw=>nk (iF h) (by rw[hrl,bK]) (by rw[<- hD];exact hw);have hDl:(jG ns r (Hb.next+1)).length=D.length:=by unfold jG;rw[VD,hD]
 have mt:=zX h hrl;rw[<- hD]at mt;refine W.DH (f:=60) (first:=[]) (cap:=[.ptr (H'.next+2) 0 0]) (by show E1 47=_;exact k47) (DL g ns h r hrl (H'.next+2) (Hb.next+1) (by omega))
  (fun k Hx=>Hb.next<Hx.next/\(∀ id,id<Hb.next->id≠H'.next->Hx.get id=Hb.get id)/\Hx.get H'.next=some (.arr 0 3 (ints (fP ns x v (D.take k)))))
  (fun k Hx hj=>(hj.2.1 _ (by omega) (by omega)).trans kb)
  (fun k H1 H3 hj hw=>⟨by have:=hw.1;omega,fun id h1 h2=>(hw.2 _ (by omega) (by have:=hj.1;omega)).trans (hj.2.1 id h1 h2),(hw.2 _ (by omega) (by have:=hj.1;omega)).trans hj.2.2⟩)
  (fun k Hx hj=>hj.1)
  (fun k H1 b hj=>⟨hj.1,fun id h1 h2=>by rw[ag,Vw (by omega)];exact hj.2.1 id h1 h2,by rw[ag,Vw (by omega)];exact hj.2.2⟩)
  (fun b=>⟨by rw[dF];simp,fun id h1 h2=>fb h1,by rw[fb (by omega),oab _ (by omega)];exact ka⟩) (by decide)
  (fun x hx=>by
   unfold jG at hx;obtain⟨w,_,rfl⟩:=VN.1 hx;rfl) (fun _ _ _=>trivial) (fun k y Hx B Bb hy hj hs hn2 hB hBb=>?_) (fun Hx hj hn2=>?_)
 ·obtain⟨hh1,hh2,hh3⟩:=hj;obtain⟨w,hw,hwN⟩:=hs;rw[<- hD]at hw;have hwf:=hDf w (Vs hw);have hy':y=[.own (Hb.next+1+1) 0 0 ns.length 1,aa (weight ns w)]:=by
   unfold jG at hy;rw[<- hD,List.getElem?_map,hw]at hy;exact(Option.some.inj hy).symm
  subst hy';refine W.vs ?_;simp only[go_sem,lV,eX,tC,Xc,YU,XQ,YB,hB];obtain⟨H3,hH3⟩:∃ H3,H3=Hx.upd Hb.next Bb:=⟨_,rfl⟩
  rw[<- hH3];obtain⟨st,pd,n',en,ps',as',bo,hBe⟩:=hBb;have n3:H3.next=Hx.next:=by rw[hH3];rfl
  have o3:∀ id,id≠Hb.next->H3.get id=Hx.get id:=fun id hh=>by rw[hH3,ag,Vw hh]
  have jB:H3.get Hb.next=some Bb:=by rw[hH3,ag,Vx rfl]
  refine W.en (fun E2=>E2 3=.ptr H.next 0 0 /\ E2 5=.ptr (H.next+2) 0 0 /\ E2 8=.ptr (H.next+3) 0 0 /\ E2 12=.ptr (H'.next+1) 0 0 /\ E2 13=.own (Hb.next+2) 0 0 ns.length 1 /\ E2 14=aa (weight ns w)) (by simp only[go_sem,eX,k3,k5,k8,k12]) fun E2 ⟨m3,m5,m8,m12,m13,m14⟩=>?_
  have hsm:=fun id (h1:id<H1.next) (h2:id≠H.next+4)=>(o3 id (by omega)).trans ((hh2 id (by omega) (by omega)).trans ((oa id (by omega)).trans (hk id h1 h2)));have l0:=ak ((hsm H.next (by omega) (by omega)).trans g0);have l2:=ak ((hsm (H.next+2) (by omega) (by omega)).trans g2);have l3:=ak ((hsm (H.next+3) (by omega) (by omega)).trans g3);have l12:=ak ((o3 (H'.next+1) (by omega)).trans ((hh2 _ (by omega) (by omega)).trans ((oab _ (by omega)).trans ka1)));have lP:=ak ((o3 H'.next (by omega)).trans hh3);have lW:=ak ((o3 (Hb.next+2) (by omega)).trans hwN);refine W.vs ?_;simp only[go_sem,m8,l3];refine W.env fun E3 hE3=>?_;have p3:E3 3=.ptr H.next 0 0:=by rw[hE3];simp only[go_sem,m3]
  have p5:E3 5=.ptr (H.next+2) 0 0:=by rw[hE3];simp only[go_sem,m5]
  have p8:E3 8=.ptr (H.next+3) 0 0:=by rw[hE3];simp only[go_sem,m8]
  have p12:E3 12=.ptr (H'.next+1) 0 0:=by rw[hE3];simp only[go_sem,m12]
  have p13:E3 13=.own (Hb.next+2) 0 0 ns.length 1:=by rw[hE3];simp only[go_sem,m13]
  have p14:E3 14=aa (weight ns w):=by rw[hE3];simp only[go_sem,m14]
  have p15:E3 15=aa 0:=by rw[hE3];simp only[go_sem]
  have p51:E3 51=ab x.parents:=by rw[hE3];simp only[go_sem]
  have p52:E3 52=aa x.parents.length:=by rw[hE3];simp only[go_sem]
  have p53:E3 53=aa 0:=by rw[hE3];simp only[go_sem]
  clear hE3;have hin:ik x.parents ns.length:=fun q hq=>by have:=(h.node x hxm).2.2 q hq;omega
  have hfp:=w9 hin hwf;have pl:(aQ ns x).length=x.parents.length:=iU _ _;have vl:(aP w x.parents).length=x.parents.length:=iU _ _;have hsc:=tw n8.2 (h.node x hxm).2 fun y hy=>(h.node y hy).1;have hr0:=DI hfp hsc;have l12n:=hsc.1;have hwl:w.length=ns.length:=by rw[hwf.1,bK]
  refine W.aG 2361174234235568029696 (by kernel_rfl) (fun ρ H4=>H4=H3/\∃ j:Nat,ρ 53=aa j/\j<=x.parents.length/\ρ 15=aa (eu ((aQ ns x).take j) ((aP w x.parents).take j))) (fun ρ H=>x.parents.length - (iv (ρ 53)).toNat) ?_ ?_
  ·exact⟨rfl,0,p53,by omega,p15⟩
  rintro ρ4 H4 ⟨e4,j,h53,hj,h15⟩;rw[e4];refine W.en (fun E4=>E4 3=.ptr H.next 0 0 /\ E4 5=.ptr (H.next+2) 0 0 /\ E4 8=.ptr (H.next+3) 0 0 /\ E4 12=.ptr (H'.next+1) 0 0 /\ E4 13=.own (Hb.next+2) 0 0 ns.length 1 /\ E4 14=aa (weight ns w) /\ E4 15=aa (eu ((aQ ns x).take j) ((aP w x.parents).take j)) /\ E4 51=ab x.parents /\ E4 52=aa x.parents.length /\ E4 53=aa j) (by simp only[go_sem,p3,p5,p8,p12,p13,p14,h15,p51,p52,h53]) fun E4 ⟨q3,q5,q8,q12,q13,q14,q15,q51,q52,q53⟩=>?_
  by_cases hb2:(j:Int)<x.parents.length
  ·obtain⟨q,hq⟩:=get_of_lt (l:=x.parents) (i:=j) (by omega);obtain⟨u,y,b,rfl,hy,hbv,a1,a2,a3⟩:=DJ hin hwf hq;have hqn:=aJ hq;have hyn:=eP hy;have hy0:=nG hy;have hun:(u:Int)<ns.length:=(by have:=get_lt hy;omega);have w2:=Vt ((j:Int)+1) (by omega);have r1:=hr0 (j+1);rw[qU a1 a2]at r1;have r0:=hr0 j;have m0:0<=eu ((aQ ns x).take j) ((aP w x.parents).take j)*y.card:=WE r0.1 (by omega);have w3:=Vt (eu ((aQ ns x).take j) ((aP w x.parents).take j)*y.card) (by omega);have w4:=Vt (eu ((aQ ns x).take j) ((aP w x.parents).take j)*y.card+b) (by omega);refine W.vs ?_;simp only[go_sem,q51,q52,q53,hb2,hq,hqn];refine W.draw 12 [0,0,2,0,14,30,62,127,0,0,768,1792] Tryd.mixed (by kernel_rfl) (by kernel_rfl) ?_;simp only[go_sem,l0,lW,q3,q13,q15,q53,hyn,hy0,hun,hbv,w2,w3,w4];exact⟨⟨_,_,_,_,_,_,_,by rw[jB,hBe]⟩,⟨j+1,rfl,by omega,by rw[qU a1 a2]⟩,by rw[h53];simp only[aa,aN];omega⟩
  have ej:j=x.parents.length:=by omega
  rw[ej,Vz (by rw[pl];exact Nat.le_refl _),Vz (by rw[vl];exact Nat.le_refl _),qT hfp.1]at q15;obtain⟨a,ha⟩:=get_of_lt (l:=w) (i:=v) (by omega);have hac:=hwf.2 v x.card a (cN hx) ha;have hpr:=z0 h hx hwf;have hpe:jg ns x v w=eo (aQ ns x) (aP w x.parents)*x.card+a:=by unfold jg;rw[bf ha]
  obtain⟨z,hz2⟩:∃ z:Nat,jg ns x v w=z:=⟨(jg ns x v w).toNat,by omega⟩
  rw[hL,hz2]at hpr;rw[hz2]at hpe;obtain⟨pa,pb,pc⟩:=sR h hx (D.take k) fun w' h'=>hDf w' (VW h');obtain⟨Pl,hPl⟩:∃ Pl,Pl=fP ns x v (D.take k):=⟨_,rfl⟩
  have hPs:fP ns x v (D.take (k+1))=Pl.set z (Pl.getD z 0+weight ns w):=by
   rw[aL hw,Pg,<- hPl];unfold kq md;rw[hz2,Int.toNat_natCast]
  rw[<- hPl]at pa pb pc lP;rw[hL]at pa;obtain⟨e0,he0⟩:=get_of_lt (l:=Pl) (i:=z) (by omega);rw[bf he0]at hPs;have he1:=pb e0 (Vs he0);have he2:=rp pb e0 (Vs he0);have mt1:=mt (k+1);have hes:((D.take (k+1)).map (weight ns)).sum=((D.take k).map (weight ns)).sum+weight ns w:=by rw[aL hw];simp
  rw[hes]at mt1;have hwr:=DN h hwf;have hir:=hr0 x.parents.length;rw[Vz (by rw[pl];exact Nat.le_refl _),Vz (by rw[vl];exact Nat.le_refl _),qT hfp.1]at hir;have m0:0<=eo (aQ ns x) (aP w x.parents)*x.card:=WE hir.1 (by omega);have w2:=Vt (eo (aQ ns x) (aP w x.parents)*x.card) (by omega);have w3:=Vt (z:Int) (by omega);have w4:=Vt (e0+weight ns w) (by omega);have hzL:(z:Int)<L:=by omega
  have hvw:(v:Int)<w.length:=by omega
  have hpl2:Pl.length=L:=by omega
  have hz0:¬ (z:Int)<0:=by omega
  refine W.vs ?_;simp only[go_sem,q52,q53,hb2];refine W.draw 13 [0,0,0,4,14,0,0,96,224,510,1023,2047,0] Tryd.mixed (by kernel_rfl) (by kernel_rfl) ?_;simp only[go_sem,l2,l3,l12,lP,lW,q5,q8,q12,q13,q14,q15,ha,hvn,<- hpe,he0,hpl2,hzL,w2,w3,w4,nP];refine⟨by omega,?_⟩;obtain⟨H5,hH5⟩:∃ H5,H5=H3.upd H'.next (.arr 0 3 (setAt (ints Pl) z [.lit (.int .i64 (e0+weight ns w))])):=⟨_,rfl⟩
  rw[<- hH5];have n5:H5.next=Hx.next:=by rw[hH5];exact n3
  have k5:∀ id,id≠H'.next->id≠Hb.next->H5.get id=Hx.get id:=fun id h1 h2=>by rw[hH5,ag,Vw h1,o3 id h2]
  have e5:H5.get H'.next=some (.arr 0 3 (ints (fP ns x v (D.take (k+1))))):=by
   rw[hH5,ag,Vx rfl,fo (by omega),hPs]
  exact⟨by rw[hH5,ag,Vw (by omega)];exact jB,by omega,⟨by omega,fun id h1 h2=>(k5 id h2 (by omega)).trans (hh2 id h1 h2),e5⟩,fun id h1 h2=>k5 id (by omega) (by omega)⟩
 ·rw[hDl,Vz (Nat.le_refl _)]at hj;obtain⟨hh1,hh2,hh3⟩:=hj;have hro:=Aa h h6 hx hrl;obtain⟨_,rl,_,rr⟩:=Ab hro;obtain⟨pa,_,_⟩:=sR h hx D hDf;have hpR:jh ns x v r=fP ns x v D:=by rw[hD];rfl
  rw[hpR]at hro rl rr;rw[hL]at pa;have hXs:cJ ns x v (xs.take (i+1))=iG X (jH (fP ns x v D)):=by rw[aL hr,z9,<- hX,hpR]
  obtain⟨R,hR⟩:∃ R,R=jH (fP ns x v D):=⟨_,rfl⟩
  have l12:=ak ((hh2 (H'.next+1) (by omega) (by omega)).trans ((oab _ (by omega)).trans ka1));simp only[go_sem,k12,l12];refine aw.clo ((Pj hro Hx (Fz.ints (S:=fun _=>True) trivial hh3 (by omega) fun j hj=>by rw[Nat.zero_add,eZ];simp only[Vv hj,Option.map_some])).mono ?_);rintro rres Hq ⟨hrq,hHq⟩;rw[hHq];subst hrq;refine⟨trivial,?_⟩;rw[<- hR]at rl rr hXs ⊢;have hRl:R.length=L:=by omega
  simp only[go_sem];refine W.en (fun E2=>E2 3=.ptr H.next 0 0 /\ E2 5=.ptr (H.next+2) 0 0 /\ E2 8=.ptr (H.next+3) 0 0 /\ E2 9=.own (H.next+4) 0 0 L 1 /\ E2 35=.vec xs.length (xs.map ab) /\ E2 36=aa xs.length /\ E2 37=aa i /\ E2 94=ab R /\ E2 95=aa R.length /\ E2 96=aa 0) (by simp only[go_sem,k3,k5,k8,k9,k35,k36,k37]) fun E2 ⟨m3,m5,m8,m9,m35,m36,m37,m94,m95,m96⟩=>?_
  have gX:Hx.get (H.next+4)=some (.arr 0 3 (ints X)):=(hh2 _ (by omega) (by omega)).trans ((oa _ (by omega)).trans hg4);have hkx:∀ id,id<H1.next->id≠H.next+4->Hx.get id=H1.get id:=fun id h1 h2=>(hh2 id (by omega) (by omega)).trans ((oa id (by omega)).trans (hk id h1 h2));refine W.aG 648957879154339189228718500347904 (by kernel_rfl) (fun ρ H4=>∃ j:Nat,ρ 96=aa j/\j<=L/\Hx.next<=H4.next/\(∀ id,id<H1.next->id≠H.next+4->H4.get id=H1.get id)/\H4.get (H.next+4)=some (.arr 0 3 (ints (iG (X.take j) (R.take j)++X.drop j)))) (fun ρ H=>L - (iv (ρ 96)).toNat) ?_ ?_
  ·exact⟨0,m96,by omega,Nat.le_refl _,hkx,by rw[gX];rfl⟩
  rintro ρ4 H4 ⟨j,h96,hj,n4,hk4,hg4'⟩;refine W.en (fun E3=>E3 9=.own (H.next+4) 0 0 L 1 /\ E3 37=aa i /\ E3 94=ab R /\ E3 95=aa R.length /\ E3 96=aa j) (by simp only[go_sem,m9,m37,m94,m95,h96]) fun E3 ⟨p9,p37,p94,p95,p96⟩=>?_
  by_cases hb3:(j:Int)<R.length;rotate_left
  ·have ej:j=L:=(by omega);refine W.vs ?_;simp only[go_sem,p37,p95,p96,hb3,w1];refine⟨by omega,⟨i+1,rfl,by omega,by omega,hk4,?_⟩,by rw[h37];simp only[aa,aN];omega⟩;rw[hg4',ej,Vz (by omega),Vz (by omega),Xx (by omega),List.append_nil,hXs]
  obtain⟨a,ha⟩:=get_of_lt (l:=X) (i:=j) (by omega);obtain⟨b,hbj⟩:=get_of_lt (l:=R) (i:=j) (by omega);have hbn:=aJ hbj;have ha2:=er a (Vs ha);have hb2:=rr b (Vs hbj);have hil:(xs.take i).length<=64:=by rw[VC];omega
  have w2:=Vt (a+b) (by omega);have w3:=Vt ((j:Int)+1) (by omega);have avl:(iG (X.take j) (R.take j)).length=j:=by rw[DR (by simp;omega)];simp;omega
  have hln:(iG (X.take j) (R.take j)++X.drop j).length=L:=by rw[List.length_append,avl,Wg];omega
  have hgj:(iG (X.take j) (R.take j)++X.drop j)[j]?=some a:=by
   rw[VQ (by omega),avl,W8,qS ha];rfl
  have lX:=ak hg4';have hjL:(j:Int)<L:=by omega
  refine W.vs ?_;simp only[go_sem,p9,p94,p95,p96,hb3,hbj,hbn,lX,hln,hgj,hjL,w2,w3];refine⟨by omega,by rw[aE];omega,⟨j+1,rfl,by omega,by rw[aE];omega,fun id h1 h2=>by rw[ag,Vw h2];exact hk4 id h1 h2,?_⟩,by rw[h96];simp only[aa,aN];omega⟩;rw[ag,Vx rfl,fo (by omega)];congr 3;rw[Ww _ _ (by omega),avl,W8,qS ha,aL ha,aL hbj];show _++(a+b) :: _=_;unfold iG;rw[Zg (by simp;omega),List.append_assoc];rfl
def jI (ns:List NodeP)(xs:List (List Int)):Bool:=decide ((0:Int) ∉ xs.map (dz ns))
theorem Aq {S:Nat->Prop}{H:AHeap}{nx:Nat}{cv xv:AVal}{cs:List Int}{xs:List (List Int)}(h1:Fz S H nx cv (ab cs))(h2:Fz S H nx xv (aB xs)):Fz S H nx (.agg [cv,xv]) (da cs xs):=by
 refine .agg rfl fun i hi _=>?_
 match i,hi with
 | 0,_=>exact h1
 | 1,_=>exact h2
theorem aC.Qx {S:Nat->Prop}{lo nx:Nat}{H:AHeap}{e:TypeId}{v:AVal}{q:List (List Int)}(h:aC lo H e v (q.map ab))(hS:∀ i,lo<=i->S i):Fz S H nx v (aB q):=by
 have:=h.fz (S:=S) (nx:=nx) (cs':=q.map ab) hS rfl fun i hi _=>by simp only[VF];exact .ef _
 rw[VD]at this;exact this
theorem Qy (l:List Int)(v:Int)(hl:(l.length:Int)<2 ^ 62)(H:AHeap)(K:ARes->AHeap->Prop)(hK:∀ i:Int,(0<=i↔v∈l)->K (.ret (aa i)) H):ae Tryd.prog G0 57 [ab l,aa v] H K:=by
 refine ae.bF (n:=19) (rs:=[.tmp 4]) Tryd.func57 rfl rfl rfl (by decide) (by kernel_rfl) (by simp) ?_;simp only[go_sem];refine W.aG 524080 (by rfl) (fun ρ H'=>H'=H/\∃ k:Nat,ρ 8=aa k/\k<=l.length/\v ∉ l.take k) (fun ρ H=>l.length - (iv (ρ 8)).toNat) ?_ ?_
 ·simp only[go_sem];exact⟨0,rfl,by omega,by simp⟩
 rintro ρ H' ⟨rfl,k,h8,hk,hno⟩;refine W.vs ?_;by_cases hb:(k:Int)<l.length
 ·obtain⟨x,hx⟩:=get_of_lt (l:=l) (i:=k) (by omega);have hne:=aJ hx;by_cases d:v=x
  ·simp only[go_sem,h8,hb,hx,hne,d];exact av.mk (Nat.le_refl _) (hK k ⟨fun _=>by rw[d];exact Vs hx,fun _=>by omega⟩)
  have w1:=Vt ((k:Int)+1) (by omega);simp only[go_sem,h8,hb,hx,hne,d,w1];refine⟨⟨k+1,rfl,by omega,fun hm=>?_⟩,by omega⟩;rw[aL hx]at hm;rcases VP.1 hm with hm|hm
  ·exact hno hm
  ·exact d (List.mem_singleton.1 hm)
 ·simp only[go_sem,h8,hb];rw[Vz (by omega)]at hno;exact av.mk (Nat.le_refl _) (hK (-1) ⟨fun h=>absurd h (by decide),fun h=>absurd h hno⟩)
theorem Qz (l:List Int)(v:Int)(hl:(l.length:Int)<2 ^ 62)(H:AHeap)(K:ARes->AHeap->Prop)(hK:K (.ret (.lit (.bool (decide (v∈l))))) H):ae Tryd.prog G0 37 [ab l,aa v] H K:=by
 refine ae.bF (n:=9) (rs:=[.tmp 4]) Tryd.func37 rfl rfl rfl (by decide) (by kernel_rfl) (by simp) ?_;simp only[go_sem];refine aw.clo (Qy l v hl _ _ fun i hi=>⟨trivial,?_⟩);by_cases h:v∈l
 ·have h0:i >= 0:=hi.2 h;simp only[go_sem,h0];rw[VM h]at hK;exact av.mk (Nat.le_refl _) hK
 ·have h0:¬ i >= 0:=fun h'=>h (hi.1 h');simp only[go_sem,h0];rw[VZ h]at hK;exact av.mk (Nat.le_refl _) hK
set_option maxHeartbeats 1000000 in
theorem QA (g:Int)(ns:List NodeP)(cs:List Int)(xs:List (List Int))(hn:(ns.length:Int)<2 ^ 38)(hf:ku cs xs)(H:AHeap)(K:ARes->AHeap->Prop)(hK:K (.ret (.lit (.bool (decide (af ns=cs))))) H):ae Tryd.prog G0 36 [aZ g ns,da cs xs] H K:=by
 refine ae.clo ⟨_,Tryd.func36,rfl,rfl⟩ fun hcl=>?_;obtain⟨f1,f2,f3⟩:=hf;refine ae.bF (n:=31) (rs:=[.tmp 4]) Tryd.func36 rfl rfl rfl (by decide) (by kernel_rfl) (by simp) ?_;simp only[go_sem,da,aB,aZ,dk];obtain⟨H1,hH1⟩:∃ H1,H1=ext H [.arr 0 36 [.lit (.int .i64 g),.vec ns.length (au ns)],.arr 0 42 [.vec cs.length (ints cs),.vec xs.length (xs.map ab)]]:=⟨_,rfl⟩
 have l1:H1.live H.next 0=some (36,[.lit (.int .i64 g),.vec ns.length (au ns)]):=by rw[hH1];exact ak (dN ..)
 have l2:H1.live (H.next+1) 0=some (42,[.vec cs.length (ints cs),.vec xs.length (xs.map ab)]):=by rw[hH1];exact ak (bC H _ 1 (by simp))
 have n1:H1.next=H.next+2:=by rw[hH1];rfl
 have o1:Over H H1:=by rw[hH1];exact .ext _ _
 rw[<- hH1];by_cases hl:(ns.length:Int)=cs.length;rotate_left
 ·simp only[go_sem,hl];rw[VZ fun h=>hl (by rw[<- h,bK])]at hK;exact av.bR aT hcl o1 (.lit _) hK
 simp only[go_sem,l1,hl];refine W.aG 2147352688 (by rfl) (fun ρ H'=>Over H1 H'/\∃ k:Nat,ρ 17=aa k/\k<=ns.length/\(af ns).take k=cs.take k) (fun ρ H=>ns.length - (iv (ρ 17)).toNat) ?_ ?_
 ·simp only[go_sem];exact⟨.refl _,0,rfl,by omega,rfl⟩
 rintro ρ H' ⟨ov,k,h17,hk,he⟩;refine W.vs ?_;have l2':=(ov.live (g:=0) (by omega:H.next+1<H1.next)).trans l2;have hlt:H.next+1<H'.next:=by have:=ov.next;omega
 have l3:∀ L,(ext H' L).live (H.next+1) 0=_:=fun L=>(fN hlt).trans l2';by_cases hb:(k:Int)<cs.length
 ·obtain⟨x,hx⟩:=get_of_lt (l:=ns) (i:=k) (by omega);obtain⟨c,hc⟩:=get_of_lt (l:=cs) (i:=k) (by omega);have hne:=eP hx;have e0:=kC hx;have e1:k*3+3<=(au ns).length:=by rw[fT];omega
  have hcn:=aJ hc;simp only[go_sem,h17,hb,hl,hne,e0,e1,aB];refine W.draw 7 [0,1,0,4,0,28,60] Tryd.mixed (by kernel_rfl) (by kernel_rfl) ?_;by_cases hd:x.card=c
  ·have w1:=Vt ((k:Int)+1) (by omega);simp only[go_sem,h17,hb,l3,hc,hcn,hd,w1];exact⟨by omega,⟨ov.trans (.ext _ _),k+1,rfl,by omega,by rw[aL (cN hx),aL hc,he,hd]⟩,by omega⟩
  ·simp only[go_sem,hb,l3,hc,hcn,hd];rw[VZ fun h=>hd (by have:=cN hx;rw[h,hc]at this;exact(Option.some.inj this).symm)]at hK;exact av.bR aT hcl ((o1.trans ov).trans (.ext _ _)) (.lit _) hK
 ·simp only[go_sem,h17,hb];rw[Vz (by rw[bK];omega),Vz (by omega)]at he;rw[VM he]at hK;exact av.bR aT hcl (o1.trans ov) (.lit _) hK
end Go.Proofs
