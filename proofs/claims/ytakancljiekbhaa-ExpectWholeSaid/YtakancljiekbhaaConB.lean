/- Own work: contracts. -/
import Derived.Test.YtakancljiekbhaaConA
import Derived.Test.YtakancljiekbhaaLibC
set_option linter.all false
set_option maxRecDepth 100000
namespace Go.Hx
variable {P:Program} {G:Nat->Option (List AVal)} {n:Nat} {rd:Option Nat} {Q:AX->St->Prop}
def pC (N:Nat)(H1 H2:AHeap):Prop:=H1.next<=H2.next/\∀ id,id≠N->id<H1.next->H2.get id=H1.get id
def DS (P:Program)(G:Nat->Option (List AVal))(f:FuncId)(first cap:List AVal)(xs:List (List AVal))(N:Nat)(S0:AHeap->Prop)(S:Nat->AHeap->Prop):Prop :=
 ∀ (idy:Nat) (J:Nat->AHeap->Prop) (Stop:AHeap->Prop) (H:AHeap) (K:ARes->AHeap->Prop),H.next=N ->
  (∀ k H1,J k H1->S0 H1)->(∀ k H1 H2,J k H1->pC N H1 H2->J k H2)->J 0 H ->
  (∀ k x H1 K1,xs[k]?=some x->J k H1->S k H1->N<H1.next->(∀ H',J (k+1) H'->S k H'->H1.next<=H'.next->K1 (.ret (.lit (.bool true))) H')->(∀ H',Stop H'->H1.next<=H'.next->K1 (.ret (.lit (.bool false))) H')->az P G (.yld idy) x H1 K1) ->
  (∀ H',J xs.length H'->N<=H'.next->K (.ret (.tup [])) H') ->
  (∀ H',Stop H'->N<=H'.next->K (.ret (.tup [])) H') ->
  ae P G f (first++[.yld idy]++cap) H K
theorem W.Q9 {g:Operand}{ps:Array Tmp}{asg body:Code}{ρ:Env}{H:AHeap}{f:FuncId}{first cap:List AVal}{xs:List (List AVal)}{S0:AHeap->Prop}{S:Nat->AHeap->Prop}(hg:af G ρ g=.clo f first cap)
  (hit:DS P G f first cap xs (H.next+1) S0 S) (J:Nat->AHeap->Prop) (Stop:AX->AHeap->Prop) (hS:∀ k H1,J k H1->S0 H1) (hJw:∀ k H1 H2,J k H1->pC (H.next+1) H1 H2->J k H2) (hlow:∀ k H1,J k H1->H.next<H1.next)
  (hJu:∀ k H1 b,J k H1->J k (H1.upd H.next b)) (hSu:∀ c H1 b,Stop c H1->Stop c (H1.upd H.next b)) (hSk:∀ k H1 b,S k H1->S k (H1.upd H.next b))
  (hJ0:∀ b,J 0 (ext H [b])) (hps:ps.toList.all (fun t=>decide (t<n))=true) (hxl:∀ x∈xs,x.length=ps.size)
  (hrd:∀ k H1,J k H1->dp H1 rd) (hrd2:∀ c H1,Stop c H1->dp H1 rd)
  (hround:∀ k x H1 B Bb,xs[k]?=some x->J k H1->S k H1->H.next+1<H1.next->H1.get H.next=some B->(∃ st pd n' en ps' as' bo,Bb=Blk.loop st pd n' en ps' as' bo) ->
   W P G n (some H.next) asg (nD P G n H.next B Bb H1.next body (fun H'=>J (k+1) H'/\S k H') Stop) ⟨jq (cY ρ n) (ps.toList.zip x),H1⟩)
  (hend:∀ H',J xs.length H'->H.next+1<=H'.next->Q .normal ⟨ρ,H'⟩)
  (hret:∀ H',Stop .ret H'->H.next+1<=H'.next->Q .ret ⟨ρ,H'⟩) (hexit:∀ i H',Stop (.exit i) H'->H.next+1<=H'.next->Q (.exit i) ⟨ρ,H'⟩):
  W P G n rd (.rangeFunc g ps asg body) Q ⟨ρ,H⟩:=by
 refine W.rangeFunc (s:=⟨ρ,H⟩) hg ⟨_,qd _ _,?_⟩;obtain⟨B,hB⟩:∃ B,B=Blk.loop .ready none n ρ ps asg body:=⟨_,rfl⟩
 obtain⟨Bb,hBb⟩:∃ B,B=Blk.loop .busy none n ρ ps asg body:=⟨_,rfl⟩
 have nx:(ext H [B]).next=H.next+1:=rfl;show ae P G f (first++[.yld H.next]++cap) (ext H [Blk.loop .ready none n ρ ps asg body]) (qj rd Q ρ H.next);rw[<- hB];refine hit H.next (fun k H1=>H1.get H.next=some B/\J k H1) (fun H1=>∃ c pend,H1.get H.next=some (.loop .done (some pend) n ρ ps asg body)/\Stop c H1/\((c=.ret/\pend=.ret)\/∃ i,c=.exit i/\pend=.exit i)) _ _ nx
  (fun k H1 h=>hS k H1 h.2) (fun k H1 H2 h hw=>⟨(hw.2 _ (by omega) (hlow _ _ h.2)).trans h.1,hJw _ _ _ h.2 hw⟩) ⟨cq,hJ0 B⟩ (fun k x H1 K1 hx hj hs hn hgo hst=>?_) (fun H' hj hn=>?_) (fun H' hj hn=>?_)
 ·have hxm:=hxl x (Ry hx);refine az.yld (hj.1.trans (congrArg some hB)) hxm hps ?_;refine(hround k x H1 B Bb hx hj.2 hs hn hj.1 ⟨_,_,_,_,_,_,_,hBb⟩).mono fun e s1 h1=>?_;cases e with
  | normal =>
   obtain⟨a1,a2⟩:=h1;refine⟨Bb,by rw[a1,hB,hBb];rfl,?_⟩;refine a2.mono fun e2 s2 h2=>?_;cases e2 with
   | normal =>
    obtain⟨b1,b2,b3,b4⟩:=h2;exact⟨B,by rw[b1,hB,hBb];rfl,hgo _ ⟨by rw[aj,RC rfl],hJu _ _ _ b3⟩ (hSk _ _ _ b4) b2⟩
   | ret =>
    obtain⟨b1,b2,b3⟩:=h2;exact⟨.loop .done (some .ret) n ρ ps asg body,by rw[b1,hBb];rfl,hst _ ⟨.ret,.ret,by rw[aj,RC rfl],hSu _ _ _ b3,.inl ⟨rfl,rfl⟩⟩ b2⟩
   | exit i =>
    obtain⟨b1,b2,b3⟩:=h2;exact⟨.loop .done (some (.exit i)) n ρ ps asg body,by rw[b1,hBb];rfl,hst _ ⟨.exit i,.exit i,by rw[aj,RC rfl],hSu _ _ _ b3,.inr ⟨i,rfl,rfl⟩⟩ b2⟩
   | _=>exact h2.elim
  | _=>exact h1.elim
 ·refine⟨hrd _ _ hj.2,(none,.loop .exhausted none n ρ ps asg body),by rw[hj.1,hB];rfl,?_⟩;exact hend _ (hJu _ _ _ hj.2) hn
 ·obtain⟨c,pend,h1,h2,h3⟩:=hj;refine⟨hrd2 _ _ h2,(some pend,.loop .exhausted (some pend) n ρ ps asg body),by rw[h1];rfl,?_⟩;rcases h3 with ⟨rfl,rfl⟩|⟨i,rfl,rfl⟩
  ·exact hret _ (hSu _ _ _ h2) hn
  ·exact hexit i _ (hSu _ _ _ h2) hn
end Go.Hx
namespace Go.Proofs
open Go.Hx
def iy (ns:List NodeP)(x:NodeP)(vals:List Int):List Int:=x.rows.getD (dG (aN ns x) (aA vals x.parents)).toNat []
def fC (ns:List NodeP)(vals:List Int)(v:Nat):Int:=match ns[v]? with
 | some x=>(iy ns x vals).getD (vals.getD v 0).toNat 0
 | none=>1
def fD (ns:List NodeP)(vals:List Int):List Int:=(List.range ns.length).map (fC ns vals)
def weight (ns:List NodeP)(vals:List Int):Int:=aw (fD ns vals)
def Ru (ns:List NodeP):Nat:=(aw (ah ns)).toNat
theorem uu (ns:List NodeP)(vals:List Int):(fD ns vals).length=ns.length:=by simp [fD]
theorem C7 {ns:List NodeP}{vals:List Int}{v:Nat}(h:v<ns.length):(fD ns vals)[v]?=some (fC ns vals v):=by
 unfold fD;rw[List.getElem?_map,Sm h];rfl
theorem rq {ns:List NodeP}{x:NodeP}{vals:List Int}(hin:iE x.parents ns.length)(hf:bE (ah ns) vals):bE (aN ns x) (aA vals x.parents):=by
 refine⟨by unfold aN;rw[dQ,dQ],fun k c v h1 h2=>?_⟩;obtain⟨q,hq⟩:=get_of_lt (l:=x.parents) (i:=k) (by have:=get_lt h2;rw[dQ]at this;exact this);obtain⟨j,rfl,y,hy⟩:=jG (l:=ns) (hin q (Ry hq)).1 (hin q (Ry hq)).2;obtain⟨b,hb⟩:=get_of_lt (l:=vals) (i:=j) (by rw[hf.1,bA];exact get_lt hy);have e1:(aN ns x)[k]?=some y.card:=by rw[show (aN ns x)[k]?=_ from km hq,Int.toNat_natCast,aO (bX hy)]
 have e2:(aA vals x.parents)[k]?=some b:=by rw[km hq,Int.toNat_natCast,aO hb]
 rw[h1]at e1;rw[h2]at e2;cases e1;cases e2;exact hf.2 j y.card _ (bX hy) hb
structure RowAtW (g:Int)(ns:List NodeP)(x:NodeP)(vals:List Int)(v:Nat)(i:Nat)(r:List Int)(a w:Int):Prop where
 idx:dG (aN ns x) (aA vals x.parents)=i
 row:x.rows[i]?=some r
 val:vals[v]?=some a
 a0:0<=a
 hw:r[a.toNat]?=some w
 wb:0<=w/\w<=g
 eq:fC ns vals v=w
 rv:iy ns x vals=r
 len:(r.length:Int)=x.card
 al:a<r.length
theorem Dz {g:Int}{ns:List NodeP}(h:NetOk g ns){v:Nat}{x:NodeP}(hx:ns[v]?=some x){vals:List Int}(hf:bE (ah ns) vals):∃ i r a w,RowAtW g ns x vals v i r a w:=by
 have hxm:=Ry hx;have hin:iE x.parents ns.length:=fun q hq=>by have:=(h.node x hxm).2.2 q hq;omega
 have hr:=np (rq hin hf);obtain⟨r1,r2⟩:=h.rows x hxm;obtain⟨i,hi⟩:=R7 hr.1;obtain⟨r,hrr⟩:=get_of_lt (l:=x.rows) (i:=i) (by rw[<- r1,hi]at hr;omega);obtain⟨s1,s2,s3⟩:=r2 r (Ry hrr);obtain⟨a,ha⟩:=get_of_lt (l:=vals) (i:=v) (by rw[hf.1,bA];exact get_lt hx);have hb:=hf.2 v x.card a (bX hx) ha;obtain⟨w,hw⟩:=get_of_lt (l:=r) (i:=a.toNat) (by omega);have rv:iy ns x vals=r:=by unfold iy;rw[hi,Int.toNat_natCast,aO hrr]
 exact⟨i,r,a,w,hi,hrr,ha,hb.1,hw,s2 w (Ry hw),by unfold fC;rw[hx];simp only;rw[rv,aO ha,aO hw],rv,s1,by omega⟩
theorem Qv (k:Nat)(h:k<=8):(60:Int) ^ k<=167961600000000:=by
 have h1:(60:Nat) ^ k<=60 ^ 8:=R8 (by decide) h;have h2:(60:Nat) ^ 8=167961600000000:=by decide
 rw[h2]at h1;have h3:=Int.ofNat_le.2 h1;rw[Int.natCast_pow]at h3;exact h3
theorem DA {g:Int}{ns:List NodeP}(h:NetOk g ns){vals:List Int}(hf:bE (ah ns) vals)(k:Nat):0<=aw ((fD ns vals).take k)/\aw ((fD ns vals).take k)<=167961600000000:=by
 have hb:∀ w∈fD ns vals,0<=w/\w<=60:=fun w hw=>by
  obtain⟨v,hv,rfl⟩:=RI.1 hw;obtain⟨x,hx⟩:=get_of_lt (RK.1 hv);obtain⟨i,r,a,w,hR⟩:=Dz h hx hf;rw[hR.eq];have:=hR.wb;have:=h.g1;omega
 have h1:=ni (b:=60) (by omega) (l:=(fD ns vals).take k) fun x hx=>hb x (RS hx);have h2:=Qv ((fD ns vals).take k).length (by have:=h.n1;rw[RH,uu];omega);omega
theorem Qt (g:Int)(ns:List NodeP)(h8:ns.length<=8)(hc:∀ y∈ns,1<=y.card/\y.card<=4)(H:AHeap)(K:ARes->AHeap->Prop)(hK:K (.ret (aa (aw (ah ns)))) H):ae Try.prog G0 59 [bP g ns] H K:=by
 refine ae.clo ⟨_,Try.func59,rfl,rfl⟩ fun hcl=>?_;have hcards:∀ c∈ah ns,1<=c/\c<=4:=fun c h=>by
  obtain⟨x,hx,rfl⟩:=RI.1 h;exact hc x hx
 have sm:ew (ah ns):=ru (by rw[bA];omega) hcards;refine ae.bH (n:=6) (rs:=[.tmp 2]) Try.func59 rfl rfl rfl (by decide) (by kernel_rfl) (by simp) ?_;simp only[go_sem,bP,de];refine az.clo (uG g ns (by omega) _ _ ⟨trivial,?_⟩);simp only[go_sem];refine az.clo (DB (ah ns) sm _ _ ⟨trivial,?_⟩);simp only[go_sem];exact av.drop aZ hcl (.lit _) hK
end Go.Proofs
namespace Go.Hx
open Go.Proofs (get_lt get_of_lt)
variable {P:Program} {H:AHeap} {G:Nat->Option (List AVal)}
def fb (lo:Nat)(H:AHeap)(e1 e0:TypeId)(v:AVal)(rows:List (List AVal)):Prop :=
 ∃ cs:List AVal,aB lo H e1 v cs/\cs.length=rows.length/\(∀ (j:Nat) (r:List AVal) (c:AVal),rows[j]?=some r->cs[j]?=some c->aB lo H e0 c r)/\∀ (i j a g g' n n':Nat),cs[i]?=some (.own a g 0 n 1)->cs[j]?=some (.own a g' 0 n' 1)->i=j
theorem fb.nil {lo:Nat}{e1 e0:TypeId}:fb lo H e1 e0 (.lit (.slice none 0 0)) []:=⟨[],.nil,rfl,fun j r c h=>by simp at h,fun i j a g g' n n' h=>by simp at h⟩
theorem fb.P2 {lo:Nat}{e1 e0:TypeId}{v:AVal}{rows:List (List AVal)}(h:fb lo H e1 e0 v rows):iR lo H e1 e0 v rows :=
 let ⟨cs,a,b,c,_⟩:=h;⟨cs,a,b,c⟩
theorem fb.lo {lo lo':Nat}{e1 e0:TypeId}{v:AVal}{rows:List (List AVal)}(h:fb lo H e1 e0 v rows)(hl:lo'<=lo):fb lo' H e1 e0 v rows :=
 let ⟨cs,a,b,c,d⟩:=h;⟨cs,a.keep hl (Nat.le_refl _) fun _ _ _ _ _ _=>rfl,b,fun j r q h1 h2=>(c j r q h1 h2).keep hl (Nat.le_refl _) fun _ _ _ _ _ _=>rfl,d⟩
theorem fb.app {Hx:AHeap}{lo n:Nat}{e1 e0:TypeId}{v x:AVal}{rows:List (List AVal)}{r:List AVal}{t:TypeId}{z:List AVal}(ht:P.underlying t=some (.slice e1))(hz:P.cellsOf e1=1)(hzero:bT P e1=some z)(hby:P.bytesOf e1=24)(hne:e1≠e0)
  (hb:rows.length<2 ^ 40) (h:fb lo Hx e1 e0 v rows) (ho:Over Hx H) (hlo:lo<=Hx.next) (hx:aB Hx.next H e0 x r) (hn:n=H.next+1):
  ∃ v' H',bF P (ext H [.arr 0 e1 [x]]) n t t v (.own H.next 0 0 1 1)=some (v',H')/\fb lo H' e1 e0 v' (rows++[r])/\H.next<=H'.next/\(∀ k,k<H.next->k<lo->H'.get k=H.get k):=by
 obtain⟨cs,h1,h2,h3,h4⟩:=h;have hon:=ho.next;have h1':=h1.over ho;obtain⟨v',H',hA,hO,hL,hp⟩:=mI (P:=P) (t:=t) ht hz hzero hx.one (by rw[hby,h2];omega) h1' (by omega) hn;have key:∀ lo' u l,aB lo' H e0 u l->aB lo' H' e0 u l:=fun lo' u l hu=>h1'.vL hu hne hL hp;have split:∀ (j:Nat) (c:AVal),(cs++[x])[j]?=some c->(j<cs.length/\cs[j]?=some c)\/(j=cs.length/\c=x):=fun j c hc=>by
  rcases RP j cs.length with hj|hj
  ·rw[Si hj]at hc;exact .inl ⟨hj,hc⟩
  ·have:=get_lt hc;rw[List.length_append,Uz]at this;have hj:j=cs.length:=(by omega);subst hj;rw[Sb (Nat.le_refl _),Tx]at hc;exact .inr ⟨rfl,(Option.some.inj hc).symm⟩
 have old:∀ (j a g m:Nat),cs[j]?=some (.own a g 0 m 1)->a<Hx.next:=fun j a g m hc=>by
  obtain⟨r',hr'⟩:∃ r',rows[j]?=some r':=⟨_,Rz (by rw[<- h2];exact get_lt hc)⟩
  rcases h3 j r' _ hr' hc with ⟨e,_⟩|⟨i,g',_,b,e,_⟩
  ·cases e
  ·rw[(AVal.own.inj e).1];exact b
 have new:∀ a g m,x=.own a g 0 m 1->Hx.next<=a:=fun a g m he=>by
  rcases hx with ⟨e,_⟩|⟨i,g',b,_,e,_⟩
  ·rw[e]at he;cases he
  ·rw[e]at he;rw[<- (AVal.own.inj he).1];exact b
 refine⟨v',H',hA,⟨cs++[x],hO,by simp [h2],fun j r' c hr hc=>?_,fun i j a g g' m m' hi hj=>?_⟩,hL,fun k hk hkl=>hp k hk (h1.ne hkl)⟩
 ·rcases split j c hc with ⟨a,b⟩|⟨a,b⟩
  ·rw[Si (by omega)]at hr;exact key _ _ _ ((h3 j r' c hr b).over ho)
  ·rw[a,h2,Sb (Nat.le_refl _),Tx]at hr;cases hr;rw[b];exact key _ _ _ (hx.keep hlo (Nat.le_refl _) fun _ _ _ _ _ _=>rfl)
 ·rcases split i _ hi with ⟨a1,b1⟩|⟨a1,b1⟩<;>rcases split j _ hj with ⟨a2,b2⟩|⟨a2,b2⟩
  ·exact h4 i j a g g' m m' b1 b2
  ·have:=old i a g m b1;have:=new a g' m' b2.symm;omega
  ·have:=old j a g' m' b2;have:=new a g m b1.symm;omega
  ·omega
theorem fb.row {lo:Nat}{e1 e0:TypeId}{v:AVal}{rows:List (List AVal)}(h:fb lo H e1 e0 v rows)(hne:e1≠e0){k:Nat}{r:List AVal}(hr:rows[k]?=some r)(h0:r≠[]):
  ∃ idt gt idr gr cells,v=.own idt gt 0 rows.length 1/\H.get idt=some (.arr gt e1 cells)/\cells.length=rows.length/\lo<=idt/\idt<H.next/\cells[k]?=some (.own idr gr 0 r.length 1)/\H.get idr=some (.arr gr e0 r)/\lo<=idr/\idr<H.next /\
   ∀ r':List AVal,r'.length=r.length->fb lo (H.upd idr (.arr gr e0 r')) e1 e0 v (rows.set k r'):=by
 obtain⟨cs,h1,h2,h3,h4⟩:=h;have hk:=get_lt hr;obtain⟨c,hc⟩:=get_of_lt (l:=cs) (i:=k) (by omega);rcases h3 k r c hr hc with ⟨_,e⟩|⟨idr,gr,a1,a2,e,a4⟩
 ·exact absurd e h0
 rcases h1 with ⟨_,e'⟩|⟨idt,gt,b1,b2,e',b4⟩
 ·rw[e']at h2;simp at h2;omega
 subst e;have hit:idt≠idr:=fun e=>by rw[e,a4]at b4;cases b4;exact hne rfl
 refine⟨idt,gt,idr,gr,cs,by rw[e',h2],b4,h2,b1,b2,hc,a4,a1,a2,fun r' hl=>⟨cs,.inr ⟨idt,gt,b1,by rw[aL];exact b2,e',by rw[aj,RB hit];exact b4⟩,by rw[RY];exact h2,fun j q c' hj hc'=>?_,h4⟩⟩;by_cases e:j=k
 ·subst e;rw[RO hk]at hj;rw[hc]at hc';cases hj;cases hc';exact .inr ⟨idr,gr,a1,by rw[aL];exact a2,by rw[hl],by rw[aj,RC rfl]⟩
 ·rw[R9 (fun h=>e h.symm)]at hj;refine(h3 j q c' hj hc').keep (Nat.le_refl _) (by rw[aL];exact Nat.le_refl _) fun i g _ _ _ hv=>?_;rw[aj,RB];rintro rfl;rw[hv]at hc';exact e (h4 j k i g gr _ _ hc' hc)
theorem dv.P3 (hG:fH G){s:St}{n t0:Nat}{v':AVal}(hv:Fz (fun id=>n<=id) s.H s.H.next (s.ρ t0) v'):dv P G s ⟨fun t=>if t=t0 then v' else s.ρ t,s.H.cut n⟩:=by
 intro m wb Γ a w hs;refine dv.freeze (s:=s) (s':=⟨fun t=>if t=t0 then v' else s.ρ t,s.H.cut n⟩) hG (J8 hs.heap.clo n) (fun t=>?_) m wb Γ a w hs;by_cases h:t=t0
 ·subst h;simp only[if_true];exact hv
 ·simp only[h,if_false];exact .dead (hs.env t).qg
end Go.Hx
namespace Go.Proofs
open Go.Hx
theorem P4 {S:Nat->Prop}{lo nx:Nat}{H:AHeap}{e1 e0:TypeId}{v:AVal}{ps:List (List Int)}(h:iR lo H e1 e0 v (ps.map ints))(hS:∀ i,lo<=i->S i):Fz S H nx v (aH ps):=by
 have:=h.fz (S:=S) (nx:=nx) (rows':=ps.map ints) hS rfl fun j r r' h1 h2=>by
  rw[h1]at h2;cases h2;refine⟨rfl,fun i hi _=>?_⟩;rw[List.getElem?_map]at h1;obtain⟨z,_,rfl⟩:=Rx.1 h1;have e0:(ints z)[i]?=some (ints z)[i]:=Rz hi;generalize (ints z)[i]=a at e0 ⊢;rw[gI]at e0;obtain⟨b,_,rfl⟩:=Rx.1 e0;exact .lit _
 rw[RJ,Uk]at this;have e:(ps.map ((fun r:List AVal=>AVal.vec r.length r) ∘ ints))=ps.map ab:=Sa fun z _=>by simp [Function.comp,ab,bO]
 rw[e]at this;exact this
set_option maxHeartbeats 1000000 in
theorem MB (cs:List Int)(h1:∀ c∈cs,1<=c)(hs:ew cs)(i0:Int)(hi:0<=i0/\i0<=4611686018427387904)(H:AHeap)(K:ARes->AHeap->Prop)(hK:∀ v H',Over H H'->aB H.next H' 3 v (ints (dz cs i0))->K (.ret v) H'):ae Try.prog G0 80 [ab cs,aa i0] H K:=by
 refine ae.clo ⟨_,Try.func80,rfl,rfl⟩ fun hcl=>?_;have h12:=hs.1;have w0:=Rw ((cs.length:Int) - 1) (by omega);refine ae.bH (n:=33) (rs:=[.tmp 4]) Try.func80 rfl rfl rfl (by decide) (by kernel_rfl) (by simp) ?_;simp only[go_sem,w0];refine⟨by omega,?_⟩;refine W.aI 4294959170 (by rfl) (fun ρ H'=>∃ m:Nat,ρ 6=aa ((m:Int) - 1)/\m<=cs.length/\OwnI H H' H.next (List.replicate m 0++dz (cs.drop m) i0)/\ρ 1=aa (i0 / aw (cs.drop m))) (fun ρ H=>(iv (ρ 6)+1).toNat) ?_ ?_
 ·simp only[go_sem];refine⟨cs.length,rfl,by omega,?_,?_⟩
  ·rw[List.drop_length,show dz [] i0=[] from rfl,List.append_nil];exact .new [] _
  ·rw[List.drop_length,gZ,Int.ediv_one]
 rintro ρ H' ⟨m,h6,hm,ho,h1'⟩;refine W.en (fun E=>E 0=.vec cs.length (ints cs) /\ E 1=aa (i0 / aw (cs.drop m)) /\ E 5=.own H.next 0 0 cs.length 1 /\ E 6=aa ((m:Int) - 1)) (by simp only[go_sem,h1',h6]) fun E ⟨e0,e1,e5,e6⟩=>?_
 refine W.vs ?_;have lN:=ho.live;have clen:(List.replicate m 0++dz (cs.drop m) i0).length=cs.length:=by simp [nk];omega
 by_cases hm0:m=0
 ·subst hm0;have e6':E 6=aa (-1):=e6;simp only[go_sem,e6',e5];refine av.mk ho.ov.next (hK _ _ ho.ov (.inr ⟨H.next,0,Nat.le_refl _,ho.hi,?_,ho.get⟩));rw[bO,nk]
 ·obtain⟨k,rfl⟩:∃ k,m=k+1:=⟨m - 1,by omega⟩
  have e6':E 6=aa k:=by rw[e6];congr 1;omega
  obtain⟨c,hck⟩:=get_of_lt (l:=cs) (i:=k) (by omega);have hne:=aK hck;have c1:=h1 c (Ry hck);have hcz:¬ c=0:=by omega
  have hk0:(k:Int) >= 0:=by omega
  have hkc:(k:Int)<cs.length:=by omega
  have pp:1<=aw (cs.drop (k+1)):=jH fun c hc=>h1 c (SR hc);have q0:0<=i0 / aw (cs.drop (k+1)):=Tt hi.1 (by omega);have q1:i0 / aw (cs.drop (k+1))<=i0:=TF _ hi.1;have m1:(i0 / aw (cs.drop (k+1))).tmod c=i0 / aw (cs.drop (k+1)) % c:=Sx q0;have m2:(i0 / aw (cs.drop (k+1))).tdiv c=i0 / aw (cs.drop (k+1)) / c:=Sj q0;have m3:0<=i0 / aw (cs.drop (k+1)) / c:=Tt q0 (by omega);have m4:i0 / aw (cs.drop (k+1)) / c<=i0 / aw (cs.drop (k+1)):=TF _ q0;have w1:=Rw ((k:Int) - 1) (by omega);have w2:=Rw (i0 / aw (cs.drop (k+1)) / c) (by omega);simp only[go_sem,e0,e1,e5,e6',hk0,hkc,lN,hck,hne,hcz,m1,m2,w1,w2];refine⟨by rw[<- List.length_append,clen];omega,by have:=ho.hi;rw[aL];omega,⟨k,rfl,by omega,?_,?_⟩,by rw[h6];simp only[aa,aM];omega⟩
  ·have:=ho.store (k:=k) (by rw[clen];omega) (i0 / aw (cs.drop (k+1)) % c);rw[show (List.replicate (k+1) (0:Int)++dz (cs.drop (k+1)) i0).set k (i0 / aw (cs.drop (k+1)) % c)=List.replicate k 0++dz (cs.drop k) i0 by
    rw[Pn hck,Vg,List.append_assoc,S6 _ _ (by simp)];simp]at this
   exact this
  ·rw[rf hck,iw,Te c,Int.ediv_ediv_of_nonneg (by omega)]
theorem MC (g:Int)(ns:List NodeP)(h8:ns.length<=8)(hc:∀ y∈ns,1<=y.card/\y.card<=4)(i0:Int)(hi:0<=i0/\i0<=4611686018427387904)(H:AHeap)(K:ARes->AHeap->Prop)(hK:∀ v H',Over H H'->aB H.next H' 3 v (ints (dz (ah ns) i0))->K (.ret v) H'):ae Try.prog G0 58 [bP g ns,aa i0] H K:=by
 refine ae.clo ⟨_,Try.func58,rfl,rfl⟩ fun hcl=>?_;have hcards:∀ c∈ah ns,1<=c/\c<=4:=fun c h=>by
  obtain⟨x,hx,rfl⟩:=RI.1 h;exact hc x hx
 have sm:ew (ah ns):=ru (by rw[bA];omega) hcards;refine ae.bH (n:=9) (rs:=[.tmp 4]) Try.func58 rfl rfl rfl (by decide) (by kernel_rfl) (by simp) ?_;simp only[go_sem,bP,de];refine az.clo (uG g ns (by omega) _ _ ⟨trivial,?_⟩);simp only[go_sem];refine az.clo (MB (ah ns) (fun c h=>(hcards c h).1) sm i0 hi _ _ fun v H2 ov hO=>⟨trivial,?_⟩);have vo:=hO.one;have vc:=hO.cells;simp only[go_sem];have o2:Over H H2:=(Over.ext _ _).trans ov;exact av.mk o2.next (hK _ _ o2 (hO.keep (by simp [cJ]) (Nat.le_refl _) fun _ _ _ _ _ _=>rfl))
end Go.Proofs
namespace Go.Hx
variable {P:Program} {G:Nat->Option (List AVal)} {n:Nat} {rd:Option Nat} {Q:AX->St->Prop}
def Bt (P:Program)(G:Nat->Option (List AVal))(f:FuncId)(first cap:List AVal)(xs:List (List AVal))(N:Nat)(S0:AHeap->Prop)(S:Nat->AHeap->Prop):Prop :=
 ∀ (idy:Nat) (J:Nat->AHeap->Prop) (H:AHeap) (K:ARes->AHeap->Prop),H.next=N ->
  (∀ k H1,J k H1->S0 H1)->(∀ k H1 H2,J k H1->pC (N+1) H1 H2->J k H2)->J 0 H ->
  (∀ k x H1 K1,xs[k]?=some x->J k H1->S k H1->N+4<=H1.next->(∀ H',J (k+1) H'->(∀ id,N<=id->id<N+4->H'.get id=H1.get id)->H1.next<=H'.next->K1 (.ret (.lit (.bool true))) H')->az P G (.yld idy) x H1 K1) ->
  (∀ H',J xs.length H'->N<=H'.next->K (.ret (.tup [])) H') ->
  ae P G f (first++[.yld idy]++cap) H K
theorem W.Bu {g:Operand}{ps:Array Tmp}{asg body:Code}{ρ:Env}{H:AHeap}{f:FuncId}{first cap:List AVal}{xs:List (List AVal)}{S0:AHeap->Prop}{S:Nat->AHeap->Prop}(hg:af G ρ g=.clo f first cap)
  (hit:Bt P G f first cap xs (H.next+1) S0 S) (J:Nat->AHeap->Prop) (hS:∀ k H1,J k H1->S0 H1) (hJw:∀ k H1 H2,J k H1->pC (H.next+2) H1 H2->J k H2) (hlow:∀ k H1,J k H1->H.next<H1.next)
  (hJu:∀ k H1 b,J k H1->J k (H1.upd H.next b))
  (hJ0:∀ b,J 0 (ext H [b])) (hps:ps.toList.all (fun t=>decide (t<n))=true) (hxl:∀ x∈xs,x.length=ps.size)
  (hrd:∀ k H1,J k H1->dp H1 rd)
  (hround:∀ k x H1 B Bb,xs[k]?=some x->J k H1->S k H1->H.next+5<=H1.next->H1.get H.next=some B->(∃ st pd n' en ps' as' bo,Bb=Blk.loop st pd n' en ps' as' bo) ->
   W P G n (some H.next) asg (nD P G n H.next B Bb H1.next body (fun H'=>J (k+1) H'/\∀ id,H.next+1<=id->id<H.next+5->H'.get id=H1.get id) fun _ _=>False) ⟨jq (cY ρ n) (ps.toList.zip x),H1⟩)
  (hend:∀ H',J xs.length H'->H.next+1<=H'.next->Q .normal ⟨ρ,H'⟩):
  W P G n rd (.rangeFunc g ps asg body) Q ⟨ρ,H⟩:=by
 refine W.rangeFunc (s:=⟨ρ,H⟩) hg ⟨_,qd _ _,?_⟩;obtain⟨B,hB⟩:∃ B,B=Blk.loop .ready none n ρ ps asg body:=⟨_,rfl⟩
 obtain⟨Bb,hBb⟩:∃ B,B=Blk.loop .busy none n ρ ps asg body:=⟨_,rfl⟩
 have nx:(ext H [B]).next=H.next+1:=rfl;show ae P G f (first++[.yld H.next]++cap) (ext H [Blk.loop .ready none n ρ ps asg body]) (qj rd Q ρ H.next);rw[<- hB];refine hit H.next (fun k H1=>H1.get H.next=some B/\J k H1) _ _ nx
  (fun k H1 h=>hS k H1 h.2) (fun k H1 H2 h hw=>⟨(hw.2 _ (by omega) (hlow _ _ h.2)).trans h.1,hJw _ _ _ h.2 hw⟩) ⟨cq,hJ0 B⟩ (fun k x H1 K1 hx hj hs hn hgo=>?_) (fun H' hj hn=>?_)
 ·have hxm:=hxl x (Ry hx);refine az.yld (hj.1.trans (congrArg some hB)) hxm hps ?_;refine(hround k x H1 B Bb hx hj.2 hs (by omega) hj.1 ⟨_,_,_,_,_,_,_,hBb⟩).mono fun e s1 h1=>?_;cases e with
  | normal =>
   obtain⟨a1,a2⟩:=h1;refine⟨Bb,by rw[a1,hB,hBb];rfl,?_⟩;refine a2.mono fun e2 s2 h2=>?_;cases e2 with
   | normal =>
    obtain⟨b1,b2,b3,b4⟩:=h2;exact⟨B,by rw[b1,hB,hBb];rfl,hgo _ ⟨by rw[aj,RC rfl],hJu _ _ _ b3⟩ (fun id i1 i2=>by rw[aj,RB (by omega)];exact b4 id i1 (by omega)) b2⟩
   | ret=>exact h2.2.2.elim
   | exit i=>exact h2.2.2.elim
   | _=>exact h2.elim
  | _=>exact h1.elim
 ·refine⟨hrd _ _ hj.2,(none,.loop .exhausted none n ρ ps asg body),by rw[hj.1,hB];rfl,?_⟩;exact hend _ (hJu _ _ _ hj.2) hn
end Go.Hx
namespace Go.Proofs
open Go.Hx
def fU:List Int->List (List Int)
 | []=>[[]]
 | c :: cs=>(List.range c.toNat).flatMap fun (a:Nat)=>(fU cs).map fun w=>(a:Int) :: w
theorem LX {cs:List Int}(h:∀ c∈cs,1<=c)(a i:Int):dz cs (a*aw cs+i)=dz cs i:=by
 induction cs generalizing a with
 | nil=>rfl
 | cons c cs ih =>
  have h1:=jH (l:=cs) fun x hx=>h x (by simp [hx]);have hc:=h c (by simp);have e:a*aw (c :: cs)+i=i+a*c*aw cs:=by rw[iw];simp only[TC,Vf]
  show _ :: _=_ :: _;rw[e,U7 _ _ (by omega),Int.add_mul_emod_self_right];congr 1;rw[Vf];exact ih (fun x hx=>h x (by simp [hx])) _
theorem LY (m:Nat):∀ c:Nat,List.range (c*m)=(List.range c).flatMap fun a=>(List.range m).map fun j=>a*m+j:=by
 intro c
 induction c with
 | zero=>simp
 | succ c ih=>rw[SM,Vk,UY,ih,SN,Uf];simp
theorem tK {cs:List Int}(h:∀ c∈cs,1<=c):fU cs=(List.range (aw cs).toNat).map fun (i:Nat)=>dz cs i:=by
 induction cs with
 | nil=>rfl
 | cons c cs ih =>
  have hr:∀ x∈cs,1<=x:=fun x hx=>h x (by simp [hx]);have hm:=jH hr;have hc:=h c (by simp);obtain⟨m,e⟩:∃ m:Nat,aw cs=m:=⟨(aw cs).toNat,by omega⟩
  obtain⟨k,ek⟩:∃ k:Nat,c=k:=⟨c.toNat,by omega⟩
  have e2:(aw (c :: cs)).toNat=k*m:=by rw[iw,e,ek];exact Int.toNat_natCast (k*m)
  rw[e2,LY,List.map_flatMap];unfold fU;rw[ek,Int.toNat_natCast,ih hr,e,Int.toNat_natCast];rw[Uu,Uu];congr 1;refine Sa fun a ha=>?_;rw[Uk,Uk];refine Sa fun j hj=>?_;have ha':=RK.1 ha;have hj':=RK.1 hj;have hv:=LX hr (a:Int) (j:Int);rw[e]at hv;show _=_ :: _;rw[e];have e3:((a*m+j:Nat):Int)=a*m+j:=by simp
  rw[e3,hv];have e4:((a:Int)*m+j) / (m:Int) % (k:Int)=a:=by rw[Vf,U7 _ _ (by omega),U6 (by omega) (by omega),Ul,Int.emod_eq_of_lt (by omega) (by omega)]
  rw[e4];rfl
theorem xu {cs:List Int}(h:∀ c∈cs,1<=c){w:List Int}(hw:w∈fU cs):bE cs w:=by
 rw[tK h]at hw;obtain⟨i,_,rfl⟩:=RI.1 hw;exact uj h _
def mS:List Int->List Int->Bool
 | x :: r,y :: vs=>(decide (x<0) || decide (x=y)) && mS r vs
 | _,_=>true
def cF:List Int->List Int->List (List Int)
 | [],_=>[[]]
 | c :: cs,r=>(List.range c.toNat).flatMap fun (a:Nat)=>if r.headD (-1)<0\/r.headD (-1)=(a:Int) then (cF cs r.tail).map fun w=>(a:Int) :: w else []
theorem tL:∀ {cs r:List Int},r.length=cs.length->cF cs r=(fU cs).filter (mS r):=by
 intro cs
 induction cs with
 | nil=>intro r h;cases r with
  | nil=>rfl
  | cons _ _=>simp at h
 | cons c cs ih =>
  intro r h;cases r with
  | nil=>simp at h
  | cons x r =>
   unfold cF fU;rw[List.filter_flatMap,Uu,Uu];congr 1;refine Sa fun a _=>?_;rw[List.filter_map];by_cases hx:x<0\/x=(a:Int)
   ·rw[RC (by simpa using hx)];have:(mS (x :: r) ∘ fun w=>(a:Int) :: w)=mS r:=by
     funext w
     show (_ && _)=_;have:(decide (x<0) || decide (x=(a:Int)))=true:=(by simpa using hx);rw[this];rfl
    rw[this,<- ih (by simpa using h)];rfl
   ·rw[RB (by simpa using hx)];have:(mS (x :: r) ∘ fun w=>(a:Int) :: w)=fun _=>false:=by
     funext w
     show (_ && _)=_;have:(decide (x<0) || decide (x=(a:Int)))=false:=(by simpa using hx);rw[this];rfl
    rw[this];simp
theorem LZ (l l':List Int):(l++l').sum=l.sum+l'.sum:=TX
theorem L2 {α:Type}(f:List Int->Int)(l:List α)(g:α->List (List Int)):((l.flatMap g).map f).sum=(l.map fun a=>((g a).map f).sum).sum:=by
 induction l with
 | nil=>rfl
 | cons a l ih=>rw[UM,SW,LZ,ih];rfl
theorem xx {α:Type}(c:Int)(f:α->Int)(l:List α):(l.map fun a=>c*f a).sum=c*(l.map f).sum:=by
 induction l with
 | nil=>simp
 | cons a l ih=>simp only[List.map_cons,RZ,ih,Tm]
theorem L3 {α:Type}(f g:α->Int)(l:List α):(l.map fun a=>f a+g a).sum=(l.map f).sum+(l.map g).sum:=by
 induction l with
 | nil=>simp
 | cons a l ih=>simp only[List.map_cons,RZ,ih];omega
theorem L4 {α β:Type}(f:α->β->Int)(l:List α)(m:List β):(l.map fun a=>(m.map fun b=>f a b).sum).sum=(m.map fun b=>(l.map fun a=>f a b).sum).sum:=by
 induction l with
 | nil=>simp only[List.map_nil,List.sum_nil];induction m with
  | nil=>rfl
  | cons b m ih=>rw[List.map_cons,RZ,<- ih];rfl
 | cons a l ih=>simp only[List.map_cons,RZ,ih,L3]
theorem Bo {α:Type}(c:Int)(l:List α):(l.map fun _=>c).sum=l.length*c:=by
 induction l with
 | nil=>simp
 | cons a l ih=>simp only[List.map_cons,RZ,ih,List.length_cons];rw[show ((l.length+1:Nat):Int)=l.length+1 from rfl,Uq];omega
theorem mT {α:Type}{f g:α->Int}{l:List α}(h:∀ a∈l,f a=g a):(l.map f).sum=(l.map g).sum:=by rw[Sa h]
theorem all_cons (c:Int)(cs:List Int)(f:List Int->Int):((fU (c :: cs)).map f).sum=((List.range c.toNat).map fun (a:Nat)=>((fU cs).map fun w=>f ((a:Int) :: w)).sum).sum:=by
 show (((List.range c.toNat).flatMap _).map f).sum=_;rw[L2];refine mT fun a _=>?_;rw[Uk];rfl
theorem L5:∀ {cs:List Int} {v:Nat} {c:Int},(∀ c∈cs,1<=c)->cs[v]?=some c->∀ f:List Int->Int,
  ((fU cs).map fun w=>((List.range c.toNat).map fun (a:Nat)=>f (w.set v (a:Int))).sum).sum=c*((fU cs).map f).sum:=by
 intro cs
 induction cs with
 | nil=>intro v c _ h;simp at h
 | cons d cs ih =>
  intro v c h1 h f;rw[all_cons,all_cons];cases v with
  | zero =>
   simp only[List.getElem?_cons_zero,Option.some.injEq]at h;subst h;simp only[List.set_cons_zero];rw[Bo,Sn,Sw (by have:=h1 d (by simp);omega)];congr 1;exact L4 _ _ _
  | succ v =>
   simp only[List.set_cons_succ];rw[<- xx];refine mT fun a _=>?_;exact ih (fun x hx=>h1 x (by simp [hx])) (by simpa using h) fun w=>f ((a:Int) :: w)
def dc (n:Nat)(D:Nat->Bool)(f:Nat->Int):Int:=aw ((List.range n).map fun v=>if D v then f v else 1)
theorem tM (n:Nat)(D:Nat->Bool)(f:Nat->Int):dc (n+1) D f=dc n D f*(if D n then f n else 1):=by
 unfold dc;rw[SN,SW,ui];simp [iw,gZ]
theorem tO {D D':Nat->Bool}{v:Nat}(f:Nat->Int)(h0:D v=false)(h1:D' v=true)(he:∀ i,i≠v->D' i=D i):∀ n,dc n D' f=if v<n then dc n D f*f v else dc n D f:=by
 intro n
 induction n with
 | zero=>rfl
 | succ n ih =>
  rw[tM,tM,ih];rcases Tp v n with h|h|h
  ·rw[RC h,RC (show v<n+1 by omega),he n (by omega)];simp only[TC,Te (f v)]
  ·subst h;rw[RB (show ¬ v<v by omega),RC (show v<v+1 by omega),h1,h0];simp
  ·rw[RB (show ¬ v<n by omega),RB (show ¬ v<n+1 by omega),he n (by omega)]
theorem L6 {n:Nat}{D:Nat->Bool}{f g:Nat->Int}(h:∀ v,v<n->D v=true->f v=g v):dc n D f=dc n D g:=by
 unfold dc;congr 1;refine Sa fun v hv=>?_;split
 ·rename_i hd;exact h v (RK.1 hv) hd
 ·rfl
theorem Bp (n:Nat)(f:Nat->Int):dc n (fun _=>false) f=1:=by
 induction n with
 | zero=>rfl
 | succ n ih=>rw[tM,ih];simp
theorem xz {n:Nat}{D:Nat->Bool}(h:∀ v,v<n->D v=true)(f:Nat->Int):dc n D f=aw ((List.range n).map f):=by
 unfold dc;congr 1;exact Sa fun v hv=>by rw[h v (RK.1 hv)];rfl
theorem L7 (l:List Int):((List.range l.length).map fun i=>l.getD i 0).sum=l.sum:=by
 induction l with
 | nil=>rfl
 | cons a l ih=>rw[List.length_cons,T3,List.map_cons,Uk,RZ,RZ,<- ih];rfl
theorem L8 (n:Nat)(g:Int):aw ((List.range n).map fun _=>g)=g ^ n:=by
 induction n with
 | zero=>simp [gZ]
 | succ n ih=>rw[SN,SW,ui,ih,Vc];simp [iw,gZ]
theorem Bq {w ps:List Int}{v:Nat}{a:Int}(h:∀ p∈ps,p.toNat≠v):aA (w.set v a) ps=aA w ps:=by
 unfold aA;refine Sa fun p hp=>?_;rw[RE,RE,R9 (Ne.symm (h p hp))]
theorem Br {g:Int}{ns:List NodeP}(h:NetOk g ns){x:NodeP}(hx:x∈ns){w:List Int}(hw:bE (ah ns) w):∃ r,x.rows[(dG (aN ns x) (aA w x.parents)).toNat]?=some r:=by
 have hp:=(h.node x hx).2.2;have hf:bE (aN ns x) (aA w x.parents):=⟨by simp [aN,aA],fun k c b h1 h2=>by
  unfold aN aA at h1;unfold aA at h2;rw[List.getElem?_map]at h1 h2;cases hq:x.parents[k]? with
  | none=>rw[hq]at h1;cases h1
  | some q =>
   rw[hq]at h1 h2;have hr:=hp q (Ry hq);obtain⟨j,rfl,y,hy⟩:=jG (l:=ns) hr.1 hr.2;obtain⟨b',hb⟩:=get_of_lt (l:=w) (i:=j) (by rw[hw.1];have:=get_lt hy;simpa [ah] using this);simp only[Option.map_some,Option.some.injEq,Int.toNat_natCast]at h1 h2;rw[aO (bX hy)]at h1;rw[aO hb]at h2;rw[<- h1,<- h2];exact hw.2 j y.card b' (bX hy) hb⟩
 have hr:=np hf;have hl:=(h.rows x hx).1;exact get_of_lt (by omega)
def lM (g:Int)(ns:List NodeP)(D:Nat->Bool):Prop :=
 dc ns.length D (fun v=>(ah ns).getD v 0)*((fU (ah ns)).map fun w=>dc ns.length D (fC ns w)).sum=dc ns.length D (fun _=>g)*aw (ah ns)
theorem L9 (cs:List Int)(h:∀ c∈cs,1<=c):((fU cs).map fun _=>(1:Int)).sum=aw cs:=by
 rw[Bo,tK h];have:=jH h;simp;omega
theorem gO {g:Int}{ns:List NodeP}(h:NetOk g ns):∀ c∈ah ns,1<=c:=fun c hc=>by
 unfold ah at hc;obtain⟨x,hx,rfl⟩:=RI.1 hc;exact(h.node x hx).1.1
theorem Ma {g:Int}{ns:List NodeP}(h:NetOk g ns){D D':Nat->Bool}{v:Nat}(hv:v<ns.length)(h0:D v=false)(h1:D' v=true)(he:∀ i,i≠v->D' i=D i)
  (hcl:∀ (u:Nat) (x:NodeP),D u=true->ns[u]?=some x->∀ p∈x.parents,D p.toNat=true) (hpa:∀ x,ns[v]?=some x->∀ p∈x.parents,D p.toNat=true) (hs:lM g ns D):lM g ns D':=by
 obtain⟨x,hx⟩:=get_of_lt hv;have hxm:=Ry hx;have hc:=bX hx;have hc1:=gO h;unfold lM at hs ⊢;have key:x.card*((fU (ah ns)).map fun w=>dc ns.length D' (fC ns w)).sum=g*((fU (ah ns)).map fun w=>dc ns.length D (fC ns w)).sum:=by
  rw[<- L5 hc1 hc,<- xx];refine mT fun w hw=>?_;have hf:=xu hc1 hw;have hl:w.length=ns.length:=by rw[hf.1];simp [ah]
  have e1:∀ a:Nat,dc ns.length D' (fC ns (w.set v (a:Int)))=dc ns.length D (fC ns w)*(iy ns x w).getD a 0:=fun a=>by
   rw[tO _ h0 h1 he,RC hv];congr 1
   ·refine L6 fun u hu hd=>?_;obtain⟨y,hy⟩:=get_of_lt hu;have huv:v≠u:=fun e=>by rw[e,hd]at h0;cases h0
    unfold fC iy;rw[hy];dsimp only;rw[Bq fun p hp e=>by have:=hcl u y hd hy p hp;rw[e,h0]at this;cases this];simp only[RE,R9 huv]
   ·unfold fC iy;rw[hx];dsimp only;rw[Bq fun p hp e=>by have:=hpa x hx p hp;rw[e,h0]at this;cases this];congr 1;simp only[RE,RO (show v<w.length by omega)];rfl
  rw[mT fun a _=>e1 a,xx,Te g];congr 1;obtain⟨r,hr⟩:=Br h hxm hf;have hrow:iy ns x w=r:=by unfold iy;rw[aO hr]
  have ho:=(h.rows x hxm).2 r (Ry hr);rw[hrow,show x.card.toNat=r.length by have:=ho.1;omega,L7];exact ho.2.2
 rw[tO _ h0 h1 he,tO (fun _=>g) h0 h1 he,RC hv,RC hv,aO hc,TC,key,<- TC,Int.mul_right_comm,hs];simp only[TC,Te g]
theorem qK (ns:List NodeP):(aT ns).length=ns.length:=by simp [aT]
theorem sj {n s:Nat}(h:n<=bQ n s):∀ v,v<n->s.testBit v=true:=by
 have hl:=uq n s;have e:(List.range n).countP (fun i=>s.testBit i)=(List.range n).length:=by rw[Sn];exact Nat.le_antisymm hl h
 exact fun v hv=>Ty.1 e v (RK.2 hv)
theorem Mb {g:Int}{ns:List NodeP}(h:NetOk g ns):∀ (k:Nat) (out:List Nat) (done:Nat) (r:List Nat),ja (aT ns) k out done=some r->ns.length<=k+bQ ns.length done ->
  (∀ (u:Nat) (x:NodeP),done.testBit u=true->ns[u]?=some x->∀ p∈x.parents,done.testBit p.toNat=true)->lM g ns (fun v=>done.testBit v)->lM g ns fun _=>true:=by
 have hp64:∀ p∈aT ns,p<2 ^ 64:=fun p hp=>yw (n:=64) (fun x hx q hq=>by have:=(h.node x hx).2.2 q hq;have:=h.n1;omega) p hp;intro k
 induction k with
 | zero =>
  intro out done r _ hc _ hs;have hf:=sj (n:=ns.length) (s:=done) (by omega);unfold lM at hs ⊢;have e:∀ f,dc ns.length (fun v=>done.testBit v) f=dc ns.length (fun _=>true) f:=fun f=>by
   rw[xz hf,xz fun _ _=>rfl]
  rw[e,e,mT fun w _=>e (fC ns w)]at hs;exact hs
 | succ k ih =>
  intro out done r hr hc hcl hs;unfold ja at hr;cases hn:kj (aT ns) done with
  | none=>rw[hn]at hr;cases hr
  | some v =>
   rw[hn]at hr;obtain⟨h1,h2,h3⟩:=ur hp64 hn;rw[qK]at h1;obtain⟨y,hy⟩:=get_of_lt h1;have hpa:∀ x,ns[v]?=some x->∀ p∈x.parents,done.testBit p.toNat=true:=fun x hx p hp=>by
    rw[aO (mi hx)]at h3;refine h3 _ ?_;have hpos:=fun q hq=>((h.node x (Ry hx)).2.2 q hq).1;rw[kh hpos];exact RN (by rw[Sw (hpos p hp)];exact hp)
   refine ih _ _ r hr ?_ ?_ (Ma h h1 h2 (D':=fun i=>(done ||| 2 ^ v).testBit i) ?_ (fun i hi=>?_) hcl hpa hs)
   ·have:=nq (n:=ns.length) (.left done (2 ^ v)) h1 h2 (by rw[fB];simp);omega
   ·intro u x hu hx p hp;rw[fB]at hu ⊢;rw[TK]at hu ⊢;left;rcases hu with hu|hu
    ·exact hcl u x hu hx p hp
    ·have:v=u:=of_decide_eq_true hu;subst this;exact hpa x hx p hp
   ·show (done ||| 2 ^ v).testBit v=true;rw[fB];simp
   ·show (done ||| 2 ^ v).testBit i=done.testBit i;rw[fB,Sk (fun e=>hi e.symm),Bool.or_false]
theorem Bs (ns:List NodeP):aw ((List.range ns.length).map fun v=>(ah ns).getD v 0)=aw (ah ns):=by
 congr 1;refine Sf fun i=>?_;rw[List.getElem?_map];rcases RP i ns.length with h|h
 ·obtain⟨x,hx⟩:=get_of_lt h;rw[Sm h,bX hx];show some ((ah ns).getD i 0)=_;rw[aO (bX hx)]
 ·rw[RF (by simpa using h),RF (by simpa [ah] using h)];rfl
theorem Mc {g:Int}{ns:List NodeP}(h:NetOk g ns):((fU (ah ns)).map (weight ns)).sum=g ^ ns.length:=by
 have hc:=gO h;have hp:=jH hc;have h8:=h.n1;have hps:∀ p∈aT ns,p<2 ^ (aT ns).length:=fun p hp=>by
  rw[qK];exact yw (n:=ns.length) (fun x hx q hq=>(h.node x hx).2.2 q hq) p hp
 have ht:=(C3 hps (by rw[qK];omega)).2 h.acyc;obtain⟨r,hr⟩:=Sq.1 ht;unfold eI at hr;rw[qK]at hr;have hs:=Mb h _ _ _ r hr (by omega) (fun u x hu=>by rw[SG]at hu;cases hu) (by
  unfold lM;have e:∀ f,dc ns.length (fun v=>(0:Nat).testBit v) f=1:=fun f=>by
   rw[show (fun v=>(0:Nat).testBit v)=fun _=>false from funext fun v=>SG v,Bp]
  rw[e,e,mT fun w _=>e (fC ns w),L9 _ hc])
 unfold lM at hs;have e:∀ f,dc ns.length (fun _=>true) f=aw ((List.range ns.length).map f):=fun f=>xz (fun _ _=>rfl) f;rw[e,e,Bs,L8,mT fun w _=>e (fC ns w)]at hs;rw[Te]at hs;exact Int.eq_of_mul_eq_mul_right (by omega) hs
theorem Md {g:Int}{ns:List NodeP}(h:NetOk g ns){w:List Int}(hw:bE (ah ns) w)(v:Nat):0<=fC ns w v/\(v<ns.length->fC ns w v<=60):=by
 unfold fC;cases hx:ns[v]? with
 | none=>exact⟨show (0:Int)<=1 by decide,fun h=>by obtain⟨x,h⟩:=get_of_lt h;rw[hx]at h;cases h⟩
 | some x =>
  have hxm:=Ry hx;obtain⟨r,hr⟩:=Br h hxm hw;have hrow:iy ns x w=r:=by unfold iy;rw[aO hr]
  have ho:=(h.rows x hxm).2 r (Ry hr);have hg:=h.g1;show 0<=(iy ns x w).getD (w.getD v 0).toNat 0/\(_->(iy ns x w).getD (w.getD v 0).toNat 0<=60)
  rw[hrow,RE];cases hy:r[(w.getD v 0).toNat]? with
  | none=>exact⟨by simp,by simp⟩
  | some y=>have:=ho.2.1 y (Ry hy);exact⟨by simp;omega,fun _=>by simp;omega⟩
theorem tP {g:Int}{ns:List NodeP}(h:NetOk g ns){w:List Int}(hw:bE (ah ns) w):0<=weight ns w/\weight ns w<=60 ^ ns.length:=by
 have:=ni (b:=60) (l:=fD ns w) (by decide) fun y hy=>by
  unfold fD at hy;obtain⟨v,hv,rfl⟩:=RI.1 hy;have:=Md h hw v;exact⟨this.1,this.2 (RK.1 hv)⟩
 rw[uu]at this;exact this
def dM (cs:List Int)(xs:List (List Int)):AVal:=.agg [ab cs,aH xs]
def mZ (cs r:List Int):Prop:=r.length=cs.length/\∀ (v:Nat) (c x:Int),cs[v]?=some c->r[v]?=some x->-1<=x/\x<c
structure DataOk (cs:List Int)(xs:List (List Int)):Prop where
 c1:1<=cs.length/\cs.length<=6
 x1:xs.length<=40
 card:∀ c∈cs,2<=c/\c<=4
 size:aw cs<=1024
 row:∀ r∈xs,mZ cs r
noncomputable def fW (cs:List Int)(xs:List (List Int)):Bool:=@decide (DataOk cs xs) (Classical.propDecidable _)
theorem tY {cs:List Int}{xs:List (List Int)}(h:DataOk cs xs):fW cs xs=true:=by unfold fW;exact @decide_eq_true _ (Classical.propDecidable _) h
theorem Nv {cs:List Int}{xs:List (List Int)}(h:¬ DataOk cs xs):fW cs xs=false:=by unfold fW;exact @decide_eq_false _ (Classical.propDecidable _) h
theorem B3 {cs:List Int}{xs:List (List Int)}:fW cs xs=true↔DataOk cs xs:=by unfold fW;exact @decide_eq_true_iff _ (Classical.propDecidable _)
def j9 (cs:List Int)(xs:List (List Int)):Prop:=(cs.length:Int)<2 ^ 38/\(xs.length:Int)<2 ^ 38/\∀ r∈xs,(r.length:Int)<2 ^ 38
theorem o0 {xs:List (List Int)}{k:Nat}{r:List Int}(h:xs[k]?=some r):(xs.map ab)[k]?=some (.vec r.length (ints r)):=by rw[List.getElem?_map,h];rfl
theorem xK {l:List Int}(h:∀ c∈l,2<=c/\c<=4)(hl:l.length<=6):1<=aw l/\aw l<=4096:=by
 have h1:=ni (b:=4) (by omega) (l:=l) fun x hx=>by have:=h x hx;omega
 have h2:=jH (l:=l) fun x hx=>by have:=h x hx;omega
 have h3:(4:Nat) ^ l.length<=4 ^ 6:=R8 (by decide) hl;have h4:((4:Int) ^ l.length)<=4 ^ 6:=by exact_mod_cast h3
 have:(4:Int) ^ 6=4096:=by decide
 omega
theorem mZ.of {cs r:List Int}(hl:r.length=cs.length)(h:∀ (v:Nat) (c x:Int),v<r.length->cs[v]?=some c->r[v]?=some x->-1<=x/\x<c):mZ cs r:=⟨hl,fun v c x h1 h2=>h v c x (get_lt h2) h1 h2⟩
def xA (g:Int)(ns:List NodeP)(r:List Int):List AVal:=[aa g,.vec ns.length (ar ns),ab r]
theorem Bv {cs vs:List Int}(hf:bE cs vs)(hs:ew cs)(k:Nat):0<=cO (cs.take k) (vs.take k)/\cO (cs.take k) (vs.take k)<68719476737:=by
 have ft:bE (cs.take k) (vs.take k):=⟨by simp [hf.1],fun i c b h1 h2=>by
  rw[Td]at h1 h2;split at h1
  ·rename_i hik;rw[RC hik]at h2;exact hf.2 i c b h1 h2
  ·cases h1⟩
 rw[kJ ft.1];have a:=np ft;have b:=(hs.take k).prod;omega
theorem Bx {ns:List NodeP}{x:NodeP}{vals:List Int}(hin:iE x.parents ns.length)(hf:bE (ah ns) vals){k:Nat}{q:Int}(hq:x.parents[k]?=some q):
  ∃ (j:Nat) (y:NodeP) (b:Int),q=j/\ns[j]?=some y/\vals[j]?=some b/\(aN ns x)[k]?=some y.card/\(aA vals x.parents)[k]?=some b/\0<=b/\b<y.card:=by
 obtain⟨j,rfl,y,hy⟩:=jG (l:=ns) (hin q (Ry hq)).1 (hin q (Ry hq)).2;obtain⟨b,hb⟩:=get_of_lt (l:=vals) (i:=j) (by rw[hf.1,bA];exact get_lt hy);exact⟨j,y,b,rfl,hy,hb,by rw[show (aN ns x)[k]?=_ from km hq,Int.toNat_natCast,aO (bX hy)],by rw[km hq,Int.toNat_natCast,aO hb],hf.2 j y.card b (bX hy) hb⟩
set_option maxHeartbeats 2000000 in
theorem Me (g:Int)(ns:List NodeP)(h:NetOk g ns)(rc vals:List Int)(hf:bE (ah ns) vals)(H:AHeap)(K:ARes->AHeap->Prop)(hK:K (.ret (aa (weight ns vals))) H):
  ae Try.prog G0 90 [.agg (xA g ns rc),ab vals] H K:=by
 refine ae.clo ⟨_,Try.func90,rfl,rfl⟩ fun hcl=>?_;have n8:=h.n1;have hvl:vals.length=ns.length:=by rw[hf.1,bA]
 refine ae.bH (n:=57) (rs:=[.tmp 4]) Try.func90 rfl rfl rfl (by decide) (by kernel_rfl) (by simp) ?_;simp only[go_sem,xA];obtain⟨H1,hH1⟩:∃ H1,H1=ext H [.arr 0 127 [aa g,.vec ns.length (ar ns),.vec rc.length (ints rc)]]:=⟨_,rfl⟩
 have g1:H1.get H.next=some (.arr 0 127 [aa g,.vec ns.length (ar ns),.vec rc.length (ints rc)]):=by rw[hH1];exact dV ..
 have o1:Over H H1:=by rw[hH1];exact .ext _ _
 have n1:H1.next=H.next+1:=by rw[hH1];rfl
 refine W.en (fun E=>E 1=ab vals /\ E 2=.ptr H.next 0 0 /\ E 5=aa 1 /\ E 13=.vec ns.length (ar ns) /\ E 14=aa ns.length /\ E 15=aa 0) (by simp only[go_sem]) fun E ⟨e1,e2,e5,e13,e14,e15⟩=>?_
 show W _ _ _ _ _ _ ⟨E,ext H [.arr 0 127 [aa g,.vec ns.length (ar ns),.vec rc.length (ints rc)]]⟩;rw[<- hH1];refine W.aI 72057594037896672 (by rfl) (fun ρ H'=>Over H1 H'/\∃ v:Nat,ρ 15=aa v/\v<=ns.length/\ρ 5=aa (aw ((fD ns vals).take v))) (fun ρ H=>ns.length - (iv (ρ 15)).toNat) ?_ ?_
 ·exact⟨.refl _,0,e15,by omega,e5.trans (by simp [gZ])⟩
 rintro ρ H' ⟨o2,v,h15,hv,h5⟩;have n2:=o2.next;have l2:=ao ((o2.old H.next (by omega)).trans g1);refine W.en (fun F=>F 1=ab vals /\ F 2=.ptr H.next 0 0 /\ F 5=aa (aw ((fD ns vals).take v)) /\ F 13=.vec ns.length (ar ns) /\ F 14=aa ns.length /\ F 15=aa v) (by simp only[go_sem,e1,e2,h5,e13,e14,h15]) fun F ⟨f1,f2,f5,f13,f14,f15⟩=>?_
 by_cases hb:(v:Int)<ns.length;rotate_left
 ·have e:v=ns.length:=by omega
  subst e;refine W.vs ?_;simp only[go_sem,f5,f14,f15,hb];rw[RA (by rw[uu];omega)];exact av.cK aZ hcl (o1.trans o2) (.lit _) hK
 obtain⟨x,hx⟩:=get_of_lt (l:=ns) (i:=v) (by omega);have hxm:=Ry hx;have hin:iE x.parents ns.length:=fun q hq=>by have:=(h.node x hxm).2.2 q hq;omega
 have hfp:=rq hin hf;have pl:(aN ns x).length=x.parents.length:=dQ _ _;have vl:(aA vals x.parents).length=x.parents.length:=dQ _ _;have hsm:=yv n8.2 (h.node x hxm).2 fun y hy=>(h.node y hy).1;have hr:=Bv hfp hsm;have l12:=hsm.1;obtain⟨i,r,a,w,hR⟩:=Dz h hx hf;obtain⟨a',rfl⟩:=R7 hR.a0;have hne:=fZ hx;have hpt:=l9 hx;refine W.vs ?_;simp only[go_sem,f13,f14,f15,hb,hne,hpt];refine⟨by rw[fY];omega,?_⟩;obtain⟨H2,hH2⟩:∃ H2,H2=ext H' [.arr 0 69 [aa x.card,.vec x.parents.length (ints x.parents),aH x.rows]]:=⟨_,rfl⟩
 have o3:Over H' H2:=by rw[hH2];exact .ext _ _
 have n3:H2.next=H'.next+1:=by rw[hH2];rfl
 have l3:H2.live H'.next 0=some (69,[aa x.card,.vec x.parents.length (ints x.parents),aH x.rows]):=by rw[hH2];exact ao (dV ..)
 have l4:H2.live H.next 0=some (127,[aa g,.vec ns.length (ar ns),.vec rc.length (ints rc)]):=ao ((o3.old H.next (by omega)).trans ((o2.old H.next (by omega)).trans g1));refine W.en (fun E3=>E3 1=ab vals /\ E3 2=.ptr H.next 0 0 /\ E3 5=aa (aw ((fD ns vals).take v)) /\ E3 6=aa v /\ E3 7=.ptr H'.next 0 0 /\ E3 8=aa 0 /\ E3 13=.vec ns.length (ar ns) /\ E3 14=aa ns.length /\ E3 15=aa v /\ E3 21=ab x.parents /\ E3 22=aa x.parents.length /\ E3 23=aa 0) (by simp only[go_sem,f1,f2,f5,f13,f14,f15]) fun E3 ⟨g1,g2,g5,g6,g7,g8,g13,g14,g15,g21,g22,g23⟩=>?_
 show W _ _ _ _ _ _ ⟨E3,ext H' [.arr 0 69 [aa x.card,.vec x.parents.length (ints x.parents),aH x.rows]]⟩;rw[<- hH2];refine W.aI 4398038123776 (by rfl) (fun ρ H3=>H3=H2/\∃ k:Nat,ρ 23=aa k/\k<=x.parents.length/\ρ 8=aa (cO ((aN ns x).take k) ((aA vals x.parents).take k))) (fun ρ H=>x.parents.length - (iv (ρ 23)).toNat) ?_ ?_
 ·exact⟨rfl,0,g23,by omega,g8⟩
 rintro ρ3 H3 ⟨e3,k,h23,hk,h8⟩;rw[e3];refine W.en (fun E4=>E4 1=ab vals /\ E4 2=.ptr H.next 0 0 /\ E4 5=aa (aw ((fD ns vals).take v)) /\ E4 6=aa v /\ E4 7=.ptr H'.next 0 0 /\ E4 8=aa (cO ((aN ns x).take k) ((aA vals x.parents).take k)) /\ E4 13=.vec ns.length (ar ns) /\ E4 14=aa ns.length /\ E4 15=aa v /\ E4 21=ab x.parents /\ E4 22=aa x.parents.length /\ E4 23=aa k) (by simp only[go_sem,g1,g2,g5,g6,g7,h8,g13,g14,g15,g21,g22,h23]) fun E4 ⟨k1,k2,k5,k6,k7,k8,k13,k14,k15,k21,k22,k23⟩=>?_
 refine W.vs ?_;by_cases hb2:(k:Int)<x.parents.length
 ·obtain⟨q,hq⟩:=get_of_lt (l:=x.parents) (i:=k) (by omega);obtain⟨j,y,b,rfl,hy,hbv,a1,a2,a3⟩:=Bx hin hf hq;have hqn:=aK hq;have hbn:=aK hbv;have hyn:=fZ hy;have hy0:=l8 hy;have hjn:(j:Int)<ns.length:=by have:=get_lt hy;omega
  have hjv:(j:Int)<vals.length:=by have:=get_lt hbv;omega
  have w1:=Rw ((k:Int)+1) (by omega);have r1:=hr (k+1);rw[ma a1 a2]at r1;have r0:=hr k;have m0:0<=cO ((aN ns x).take k) ((aA vals x.parents).take k)*y.card:=SD r0.1 (by omega);have w2:=Rw (cO ((aN ns x).take k) ((aA vals x.parents).take k)*y.card) (by omega);have w3:=Rw (cO ((aN ns x).take k) ((aA vals x.parents).take k)*y.card+b) (by omega);simp only[go_sem,k21,k22,k23,hb2,hq,hqn];refine W.draw 13 [0,0,2,6,0,30,62,126,255,0,0,1536,3584] Try.mixed (by kernel_rfl) (by kernel_rfl) ?_;simp only[go_sem,l4,k1,k2,k8,k23,hbv,hbn,hyn,hy0,hjn,hjv,w1,w2,w3];exact⟨⟨k+1,rfl,by omega,by rw[ma a1 a2]⟩,by rw[h23];simp only[aa,aM];omega⟩
 have ek:k=x.parents.length:=by omega
 rw[ek,RA (by rw[pl];exact Nat.le_refl _),RA (by rw[vl];exact Nat.le_refl _),kJ hfp.1,hR.idx]at k8;have hva:=hR.val;have hvne:=aK hva;have hvv:(v:Int)<vals.length:=by omega
 have hra:r[a']?=some w:=by have:=hR.hw;rw[Int.toNat_natCast]at this;exact this
 have hrane:=aK hra;have hal:(a':Int)<r.length:=hR.al;have hir:=o0 hR.row;have hirn:=aK hir;have hil:(i:Int)<x.rows.length:=by have:=get_lt hR.row;omega
 have wt:=DA h hf (v+1);rw[aP (C7 (vals:=vals) (v:=v) (by omega)),iZ,hR.eq]at wt;have w1:=Rw ((v:Int)+1) (by omega);have w2:=Rw (aw ((fD ns vals).take v)*w) (by omega);simp only[go_sem,k22,k23,hb2];refine W.draw 12 [0,0,2,0,14,30,0,0,192,448,1022,2046] Try.mixed (by kernel_rfl) (by kernel_rfl) ?_;simp only[go_sem,l3,k1,k5,k6,k7,k8,k15,aH,hil,hir,hirn,hvv,hva,hvne,hra,hrane,hal,w1,w2];exact⟨by omega,⟨o2.trans o3,v+1,rfl,by omega,by rw[aP (C7 (vals:=vals) (v:=v) (by omega)),iZ,hR.eq]⟩,by rw[h15];simp only[aa,aM];omega⟩
theorem Mf {α:Type}{F:Nat->List α}{c a j:Nat}{t:α}(ha:a<c)(h:(F a)[j]?=some t):((List.range c).flatMap F)[((List.range a).flatMap F).length+j]?=some t:=by
 obtain⟨m,rfl⟩:∃ m,c=a+(m+1):=⟨c - a - 1,by omega⟩
 have hj:=get_lt h;rw[UY,Uf,Sb (by omega),TW,T3,List.map_cons,UM,Nat.add_zero,Si hj];exact h
def tQ (cs r:List Int)(x:Int)(a:Nat):List (List Int):=if x<0\/x=(a:Int) then (cF cs r).map fun w=>(a:Int) :: w else []
theorem Mg {cs r:List Int}{i:Nat}{c x:Int}(hc:cs[i]?=some c)(hx:r[i]?=some x):cF (cs.drop i) (r.drop i)=(List.range c.toNat).flatMap (tQ (cs.drop (i+1)) (r.drop (i+1)) x):=by
 rw[rf hc,rf hx];rfl
structure Own4 (n N b idy:Nat)(H:AHeap)(w:List Int):Prop where
 nx:N+4<=H.next
 y:H.get N=some (.arr 0 111 [.yld idy])
 w:H.get (N+1)=some (.arr 0 3 (ints w))
 c:H.get (N+2)=some (.arr 0 39 [.own (N+1) 0 0 n 1])
 f:H.get (N+3)=some (.arr 0 106 [.clo 89 [] [.ptr (N+2) 0 0,.ptr N 0 0,.ptr b 0 0,.ptr (N+3) 0 0]])
theorem Own4.keep {n N b idy:Nat}{H H':AHeap}{w:List Int}(h:Own4 n N b idy H w)(hn:H.next<=H'.next)(hk:∀ id,N<=id->id<N+4->H'.get id=H.get id):Own4 n N b idy H' w :=
 ⟨by have:=h.nx;omega,(hk _ (by omega) (by omega)).trans h.y,(hk _ (by omega) (by omega)).trans h.w,(hk _ (by omega) (by omega)).trans h.c,(hk _ (by omega) (by omega)).trans h.f⟩
def iT (ns:List NodeP)(r:List Int)(N:Nat):List (List AVal):=(cF (ah ns) r).map fun w=>[.own (N+1) 0 0 ns.length 1,aa (weight ns w)]
def By (ns:List NodeP)(r:List Int)(N:Nat)(k:Nat)(H:AHeap):Prop:=∃ w,(cF (ah ns) r)[k]?=some w/\H.get (N+1)=some (.arr 0 3 (ints w))
theorem mU {cs r:List Int}(h:∀ c∈cs,1<=c)(hl:r.length=cs.length){w:List Int}(hw:w∈cF cs r):bE cs w:=by
 rw[tL hl]at hw;exact xu h (Ue.1 hw).1
theorem Mh (g:Int)(ns:List NodeP)(h:NetOk g ns)(rc vals:List Int)(hf:bE (ah ns) vals)(H:AHeap)(N n:Nat)(hN:N<H.next)(hg:H.get N=some (.arr 0 3 (ints vals)))(hn:n=vals.length):
  ed Try.prog G0 (.clo 90 [] []) [.agg [aa g,.vec ns.length (ar ns),.vec rc.length (ints rc)],.own N 0 0 n 1] H (aa (weight ns vals)) [N]:=by
 subst hn;refine ed.mk (fun i hi=>by obtain rfl:=List.mem_singleton.1 hi;exact hN) fun H2 h2 _=>?_;refine(ae.frame (H:=H2) (args:=[.agg [aa g,.vec ns.length (ar ns),.vec rc.length (ints rc)],.own N 0 0 vals.length 1]) (args':=[.agg (xA g ns rc),ab vals]) (v':=aa (weight ns vals)) aZ rfl (fun i hi _=>?_) (Me g ns h rc vals hf bU _ ⟨_,rfl,.lit _⟩))
 match i,hi with
 | 0,_=>exact .agg rfl fun i hi _=>match i,hi with
  | 0,_=>.lit _
  | 1,_=>rB _
  | 2,_=>.dT _
 | 1,_=>exact Fz.rA ((h2 N (by simp)).trans hg) (by rw[bO]) fun c hc=>by obtain⟨z,_,rfl⟩:=RI.1 hc;exact⟨_,rfl⟩
set_option maxHeartbeats 2000000 in
theorem Mi (g:Int)(ns:List NodeP)(h:NetOk g ns)(rc:List Int)(hr:rc.length=ns.length)(b N idy:Nat)(hbN:b<N)(J:Nat->AHeap->Prop)
  (hS0:∀ k H1,J k H1->H1.get b=some (.arr 0 127 [aa g,.vec ns.length (ar ns),.vec rc.length (ints rc)])) (hJw:∀ k H1 H2,J k H1->pC (N+1) H1 H2->J k H2)
  (hY:∀ k x H1 K1,(iT ns rc N)[k]?=some x->J k H1->By ns rc N k H1->N+4<=H1.next->(∀ H',J (k+1) H'->(∀ id,N<=id->id<N+4->H'.get id=H1.get id)->H1.next<=H'.next->K1 (.ret (.lit (.bool true))) H')->az Try.prog G0 (.yld idy) x H1 K1):
  ∀ (d i:Nat),i+d=ns.length->∀ (k:Nat) (w:List Int) (H1:AHeap) (K1:ARes->AHeap->Prop),w.length=ns.length ->
   (∀ (j:Nat) (t:List Int),(cF ((ah ns).drop i) (rc.drop i))[j]?=some t->(cF (ah ns) rc)[k+j]?=some (w.take i++t)) ->
   J k H1->Own4 ns.length N b idy H1 w ->
   (∀ H' w',J (k+(cF ((ah ns).drop i) (rc.drop i)).length) H'->Own4 ns.length N b idy H' w'->w'.take i=w.take i->w'.length=ns.length->H1.next<=H'.next->K1 (.ret (.lit (.bool true))) H') ->
   ae Try.prog G0 89 [aa i,.ptr (N+2) 0 0,.ptr N 0 0,.ptr b 0 0,.ptr (N+3) 0 0] H1 K1:=by
 have hc1:=gO h;have n8:=h.n1;have cl:(ah ns).length=ns.length:=bA ns;intro d
 induction d with
 | zero =>
  intro i hi k w H1 K1 hw hpre hj ho hK;have ei:i=ns.length:=by omega
  subst ei;have e0:cF ((ah ns).drop ns.length) (rc.drop ns.length)=[[]]:=by rw[T4 (by omega)];rfl
  rw[e0]at hpre hK;have hk:=hpre 0 [] rfl;rw[RA (by omega),List.append_nil,Nat.add_zero]at hk;have hfit:=mU hc1 (by omega) (Ry hk);have lb:=ao (hS0 _ _ hj);have lc:=ao ho.c;have ly:=ao ho.y;have lw:=ao ho.w;refine ae.bH (n:=53) (rs:=[.tmp 6]) Try.func89 rfl rfl rfl (by decide) (by kernel_rfl) (by simp) ?_;simp only[go_sem,lc,lw];refine W.draw 5 [0,0,0,0,12] Try.mixed (by kernel_rfl) (by kernel_rfl) ?_;simp only[go_sem,lc,ly,lb];refine⟨aa (weight ns w),[N+1],Mh g ns h rc w hfit H1 (N+1) ns.length (by have:=ho.nx;omega) ho.w hw.symm,?_⟩;simp only[go_sem];refine hY k [.own (N+1) 0 0 ns.length 1,aa (weight ns w)] H1 _ (by unfold iT;rw[List.getElem?_map,hk];rfl) hj ⟨w,hk,ho.w⟩ ho.nx fun H2 j2 kp n2=>⟨trivial,?_⟩
  simp only[go_sem];exact av.mk n2 (hK H2 w j2 (ho.keep n2 kp) rfl hw n2)
 | succ d ih =>
  intro i hi k w H1 K1 hw hpre hj ho hK;obtain⟨x,hx⟩:=get_of_lt (l:=ns) (i:=i) (by omega);obtain⟨q,hq⟩:=get_of_lt (l:=rc) (i:=i) (by omega);have hxc:=(h.node x (Ry hx)).1;have hcx:=bX hx;rw[Mg hcx hq]at hpre hK;obtain⟨F,hF⟩:∃ F,F=tQ ((ah ns).drop (i+1)) (rc.drop (i+1)) q:=⟨_,rfl⟩
  rw[<- hF]at hpre hK;have lb:=ao (hS0 _ _ hj);have lc:=ao ho.c;have lw:=ao ho.w;have hin:¬ (i:Int)=ns.length:=by omega
  have hil:(i:Int)<ns.length:=by omega
  have hne:=fZ hx;have h0:=l8 hx;refine ae.bH (n:=53) (rs:=[.tmp 6]) Try.func89 rfl rfl rfl (by decide) (by kernel_rfl) (by simp) ?_;simp only[go_sem,lb,lc,lw,hin,hil,hne,h0];refine W.en (fun E=>E 0=aa i /\ E 1=.ptr (N+2) 0 0 /\ E 2=.ptr N 0 0 /\ E 3=.ptr b 0 0 /\ E 4=.ptr (N+3) 0 0 /\ E 24=aa x.card /\ E 25=aa 0) (by simp only[go_sem]) fun E ⟨e0,e1,e2,e3,e4,e24,e25⟩=>?_
  refine W.aI 9007199221186752 (by rfl) (fun ρ H'=>∃ (a:Nat) (w':List Int),ρ 25=aa a/\(a:Int)<=x.card/\J (k+((List.range a).flatMap F).length) H'/\Own4 ns.length N b idy H' w'/\w'.take i=w.take i/\w'.length=ns.length/\H1.next<=H'.next) (fun ρ H=>x.card.toNat - (iv (ρ 25)).toNat) ?_ ?_
  ·exact⟨0,w,e25,by omega,hj,ho,rfl,hw,Nat.le_refl _⟩
  rintro ρ H' ⟨a,w',h25,ha,hj',ho',ht',hl',hn'⟩;refine W.en (fun E1=>E1 0=aa i /\ E1 1=.ptr (N+2) 0 0 /\ E1 2=.ptr N 0 0 /\ E1 3=.ptr b 0 0 /\ E1 4=.ptr (N+3) 0 0 /\ E1 24=aa x.card /\ E1 25=aa a) (by simp only[go_sem,e0,e1,e2,e3,e4,e24,h25]) fun E1 ⟨f0,f1,f2,f3,f4,f24,f25⟩=>?_
  have mb:=ao (hS0 _ _ hj');have mc:=ao ho'.c;have mw:=ao ho'.w;have mf:=ao ho'.f;have hqn:=aK hq;have hir:(i:Int)<rc.length:=by omega
  have hiw:(i:Int)<w'.length:=by omega
  have w1:=Rw ((i:Int)+1) (by omega);have w2:=Rw ((a:Int)+1) (by omega);by_cases hb:(a:Int)<x.card;rotate_left
  ·have ea:a=x.card.toNat:=(by omega);refine W.vs ?_;simp only[go_sem,f24,f25,hb];exact av.mk hn' (hK H' w' (by rw[<- ea];exact hj') ho' ht' hl' hn')
  have hset:setAt (ints w') i [aa a]=ints (w'.set i (a:Int)):=fa (by omega);obtain⟨H3,hH3⟩:∃ H3,H3=H'.upd (N+1) (.arr 0 3 (setAt (ints w') i [aa a])):=⟨_,rfl⟩
  have n3:H3.next=H'.next:=by rw[hH3];rfl
  have k3:∀ id,id≠N+1->H3.get id=H'.get id:=fun id hh=>by rw[hH3,aj,RB hh]
  have m3:H3.get (N+1)=some (.arr 0 3 (ints (w'.set i (a:Int)))):=by rw[hH3,aj,RC rfl,hset]
  have o3:Own4 ns.length N b idy H3 (w'.set i (a:Int)):=⟨by rw[n3];exact ho'.nx,(k3 _ (by omega)).trans ho'.y,m3,(k3 _ (by omega)).trans ho'.c,(k3 _ (by omega)).trans ho'.f⟩
  have mf3:(H'.upd (N+1) (.arr 0 3 (setAt (ints w') i [.lit (.int .i64 (a:Int))]))).live (N+3) 0=some (106,[.clo 89 [] [.ptr (N+2) 0 0,.ptr N 0 0,.ptr b 0 0,.ptr (N+3) 0 0]]):=by have:=ao o3.f;rw[hH3]at this;exact this
  have j3:J (k+((List.range a).flatMap F).length) H3:=hJw _ _ _ hj' ⟨by rw[n3];exact Nat.le_refl _,fun id h1 _=>k3 id h1⟩;have tk:(w'.set i (a:Int)).take (i+1)=w.take i++[(a:Int)]:=by
   rw[aP (x:=(a:Int)) (by rw[RO (by omega)]),TT (Nat.le_refl _),ht']
  have fyes:(q<0\/q=(a:Int))->F a=(cF ((ah ns).drop (i+1)) (rc.drop (i+1))).map fun w=>(a:Int) :: w:=fun hh=>by rw[hF];unfold tQ;rw[RC hh]
  have hpre3:(q<0\/q=(a:Int))->∀ (j:Nat) (t:List Int),(cF ((ah ns).drop (i+1)) (rc.drop (i+1)))[j]?=some t->(cF (ah ns) rc)[k+((List.range a).flatMap F).length+j]?=some ((w'.set i (a:Int)).take (i+1)++t):=fun hh j t hj=>by
   rw[tk,List.append_assoc,Th];refine hpre _ _ (Mf (by omega) ?_);rw[fyes hh,List.getElem?_map,hj];rfl
  have pre1:((List.range (a+1)).flatMap F).length=((List.range a).flatMap F).length+(F a).length:=by
   rw[SN,Uf,List.length_append];simp
  by_cases q0:q<0
  ·refine W.vs ?_;simp only[go_sem,f0,f1,f3,f4,f24,f25,mb,mc,mw,mf3,w1,hb,hq,hqn,hir,hl',q0];refine⟨by omega,by omega,?_⟩;show az _ _ (.clo 89 [] [.ptr (N+2) 0 0,.ptr N 0 0,.ptr b 0 0,.ptr (N+3) 0 0]) [aa ((i+1:Nat):Int)] (H'.upd (N+1) (.arr 0 3 (setAt (ints w') i [aa a]))) _;rw[<- hH3];refine az.clo (ih (i+1) (by omega) _ (w'.set i (a:Int)) H3 _ (by rw[RY];exact hl') (hpre3 (.inl q0)) j3 o3 fun H4 w4 j4 o4 t4 l4 n4=>⟨trivial,?_⟩);have t4':w4.take i=w.take i:=by
    have:=congrArg (List.take i) (t4.trans tk);rw[Un,TI (UD i),List.take_left' (by rw[RH];omega)]at this;exact this
   simp only[go_sem,f25,w2];exact⟨by omega,⟨a+1,w4,rfl,by omega,by rw[pre1,fyes (.inl q0),RJ,<- Th];exact j4,o4,t4',l4,by omega⟩,by rw[h25];simp only[aa,aM];omega⟩
  by_cases q1:q=(a:Int)
  ·have q0':¬ (a:Int)<0:=(by omega);refine W.vs ?_;simp only[go_sem,f0,f1,f3,f4,f24,f25,mb,mc,mw,mf3,w1,hb,hq,hqn,hir,hl',q0',q1];refine⟨by omega,by omega,?_⟩;show az _ _ (.clo 89 [] [.ptr (N+2) 0 0,.ptr N 0 0,.ptr b 0 0,.ptr (N+3) 0 0]) [aa ((i+1:Nat):Int)] (H'.upd (N+1) (.arr 0 3 (setAt (ints w') i [aa a]))) _;rw[<- hH3];refine az.clo (ih (i+1) (by omega) _ (w'.set i (a:Int)) H3 _ (by rw[RY];exact hl') (hpre3 (.inr q1)) j3 o3 fun H4 w4 j4 o4 t4 l4 n4=>⟨trivial,?_⟩);have t4':w4.take i=w.take i:=by
    have:=congrArg (List.take i) (t4.trans tk);rw[Un,TI (UD i),List.take_left' (by rw[RH];omega)]at this;exact this
   simp only[go_sem,f25,w2];exact⟨by omega,⟨a+1,w4,rfl,by omega,by rw[pre1,fyes (.inr q1),RJ,<- Th];exact j4,o4,t4',l4,by omega⟩,by rw[h25];simp only[aa,aM];omega⟩
  ·refine W.vs ?_;simp only[go_sem,f0,f3,f24,f25,mb,hb,hq,hqn,hir,q0,q1,w2];have fno:F a=[]:=(by rw[hF];unfold tQ;rw[RB fun hh=>hh.elim q0 q1]);exact⟨hn',⟨a+1,w',rfl,by omega,by rw[pre1,fno];exact hj',ho',ht',hl',hn'⟩,by rw[h25];simp only[aa,aM];omega⟩
set_option maxHeartbeats 1000000 in
theorem Bz (g:Int)(ns:List NodeP)(h:NetOk g ns)(rc:List Int)(hr:rc.length=ns.length)(b N:Nat)(hbN:b<N):
  Bt Try.prog G0 88 [] [.ptr b 0 0] (iT ns rc N) N (fun H=>H.get b=some (.arr 0 127 [aa g,.vec ns.length (ar ns),.vec rc.length (ints rc)])) (By ns rc N):=by
 intro idy J H K hN hS0 hJw hJ0 hY hK;have l0:=ao (hS0 0 H hJ0);have n8:=h.n1;subst hN;show ae _ _ _ ([.yld idy]++[.ptr b 0 0]) _ _;refine ae.bH (n:=13) (rs:=[]) Try.func88 rfl rfl rfl (by decide) (by kernel_rfl) (by simp) ?_;have lE:∀ L,(ext H L).live b 0=some (127,[aa g,.vec ns.length (ar ns),.vec rc.length (ints rc)]):=fun L=>ao ((dI _ _ _ hbN).trans (hS0 0 H hJ0));have c1:∀ f a c,(AVal.clo f a c).cells=[.clo f a c]:=fun _ _ _=>rfl;have c2:∀ f a c,(AVal.clo f a c).one=true:=fun _ _ _=>rfl;have c3:∀ i,(AVal.yld i).cells=[.yld i]:=fun _=>rfl;simp only[go_sem,lE,c1,c2,c3];refine⟨by omega,?_⟩;obtain⟨bs,hbs⟩:∃ bs,bs=[Blk.arr 0 111 [.yld idy],.arr 0 3 (List.replicate ns.length (.lit (.int .i64 0))),.arr 0 39 [.own (H.next+1) 0 0 ns.length 1],.arr 0 106 [.clo 89 [] [.ptr (H.next+2) 0 0,.ptr H.next 0 0,.ptr b 0 0,.ptr (H.next+3) 0 0]]]:=⟨_,rfl⟩
 rw[<- hbs];have hrep:List.replicate ns.length (.lit (.int .i64 0))=ints (List.replicate ns.length 0):=by simp [ints,aa]
 have nx:(ext H bs).next=H.next+4:=by rw[hbs];rfl
 have hw:pC (H.next+1) H (ext H bs):=⟨by omega,fun id _ hi=>dI _ _ _ hi⟩
 refine az.clo (Mi g ns h rc hr b H.next idy hbN J hS0 hJw hY ns.length 0 (by omega) 0 (List.replicate ns.length 0) (ext H bs) _ (by simp) (fun j t ht=>by rw[Nat.zero_add];exact ht) (hJw 0 H _ hJ0 hw)
  ⟨by omega,by rw[hbs];exact bk H _ 0 (by simp),by rw[<- hrep,hbs];exact bk H _ 1 (by simp),by rw[hbs];exact bk H _ 2 (by simp),by rw[hbs];exact bk H _ 3 (by simp)⟩ fun H2 w2 j2 o2 _ _ n2=>⟨trivial,?_⟩)
 simp only[go_sem];refine av.mk (by omega) (hK H2 ?_ (by omega));rw[Nat.zero_add,List.drop_zero,List.drop_zero]at j2;unfold iT;rw[RJ];exact j2
theorem BA (g:Int)(ns:List NodeP)(rc:List Int)(H:AHeap)(K:ARes->AHeap->Prop)(hK:K (.ret (.clo 88 [] [.ptr H.next 0 0])) (ext H [.arr 0 127 [aa g,.vec ns.length (ar ns),.vec rc.length (ints rc)]])):
  ae Try.prog G0 70 [.agg [aa g,.vec ns.length (ar ns),.vec rc.length (ints rc)]] H K:=by
 refine ae.bH (n:=4) (rs:=[.tmp 2]) Try.func70 rfl rfl rfl (by decide) (by kernel_rfl) (by simp) ?_;simp only[go_sem];exact av.mk (by simp [cJ]) hK
def dJ (ns:List NodeP)(r:List Int):Int:=((cF (ah ns) r).map (weight ns)).sum
theorem Mj {g:Int}{ns:List NodeP}(h:NetOk g ns){r:List Int}(hr:r.length=ns.length):(cF (ah ns) r).length<=1024:=by
 have h1:=gO h;rw[tL (by rw[hr,bA])];refine So (U9 _ _) ?_;rw[tK h1,RJ,Sn];have:=h.size;omega
theorem BB {g:Int}{ns:List NodeP}(h:NetOk g ns){w:List Int}(hw:bE (ah ns) w):0<=weight ns w/\weight ns w<=167961600000000:=by
 have:=DA h hw ns.length;rw[RA (by rw[uu];exact Nat.le_refl _)]at this;exact this
theorem Mk {l:List Int}{b:Int}(h:∀ x∈l,0<=x/\x<=b):0<=l.sum/\l.sum<=l.length*b:=by
 induction l with
 | nil=>simp
 | cons a l ih =>
  have h1:=h a (by simp);have h2:=ih fun x hx=>h x (by simp [hx]);rw[RZ,List.length_cons,show ((l.length+1:Nat):Int)=l.length+1 from rfl,Uq];omega
theorem BC {g:Int}{ns:List NodeP}(h:NetOk g ns){r:List Int}(hr:r.length=ns.length)(k:Nat):
  0<=(((cF (ah ns) r).take k).map (weight ns)).sum/\(((cF (ah ns) r).take k).map (weight ns)).sum<=171992678400000000:=by
 have h1:=Mk (l:=((cF (ah ns) r).take k).map (weight ns)) (b:=167961600000000) fun x hx=>by
  obtain⟨w,hw,rfl⟩:=RI.1 hx;exact BB h (mU (gO h) (by rw[hr,bA]) (RS hw))
 have h2:=Mj h hr;rw[RJ,RH]at h1;have h3:((min k (cF (ah ns) r).length:Nat):Int)*167961600000000<=1024*167961600000000:=by omega
 omega
def fq (ns:List NodeP)(xs:List (List Int))(k:Nat):List Int:=(xs.take k).map (dJ ns)++List.replicate (xs.length - k) 0
theorem Ml (ns:List NodeP)(xs:List (List Int))(k:Nat)(hk:k<=xs.length):(fq ns xs k).length=xs.length:=by simp [fq];omega
theorem Mm {ns:List NodeP}{xs:List (List Int)}{k:Nat}{r:List Int}(h:xs[k]?=some r):fq ns xs (k+1)=(fq ns xs k).set k (dJ ns r):=by
 have hl:=get_lt h;unfold fq;rw[aP h,SW,S6 _ _ (by simp;omega)];have e:k - ((xs.take k).map (dJ ns)).length=0:=by simp;omega
 rw[e,show xs.length - k=(xs.length - (k+1))+1 by omega,TU];simp
theorem Mn {α:Type}{l:List α}{i:Nat}{x:α}(h:l[i]?=some x):l.set i x=l:=by
 refine Sf fun j=>?_;rw[SQ];split
 ·rename_i e;subst e;rw[RC (get_lt h),h]
 ·rfl
theorem Mo {ns:List NodeP}{xs:List (List Int)}{k:Nat}{r:List Int}(h:xs[k]?=some r):(fq ns xs k)[k]?=some 0:=by
 have hl:=get_lt h;unfold fq;rw[Sb (by simp;omega),Sz];rw[RC (by simp;omega)]
set_option maxHeartbeats 2000000 in
theorem BD (g:Int)(ns:List NodeP)(h:NetOk g ns)(cs:List Int)(xs:List (List Int))(hx40:xs.length<=64)(hrow:∀ r∈xs,r.length=ns.length)(H:AHeap)(K:ARes->AHeap->Prop)(hK:K (.ret (ab (xs.map (dJ ns)))) H):
  ae Try.prog G0 42 [bP g ns,dM cs xs] H K:=by
 refine ae.clo ⟨_,Try.func42,rfl,rfl⟩ fun hcl=>?_;have n8:=h.n1;refine ae.bH (n:=37) (rs:=[.tmp 4]) Try.func42 rfl rfl rfl (by decide) (by kernel_rfl) (by simp) ?_;simp only[go_sem,bP,de,dM,aH];refine⟨by omega,?_⟩;obtain⟨H1,hH1⟩:∃ H1,H1=ext H [.arr 0 35 [aa g,.vec ns.length (ar ns)],.arr 0 42 [.vec cs.length (ints cs),.vec xs.length (xs.map ab)],.arr 0 3 (List.replicate xs.length (aa 0)),.arr 0 39 [.own (H.next+2) 0 0 xs.length 1]]:=⟨_,rfl⟩
 have n1:H1.next=H.next+4:=by rw[hH1];rfl
 have o1:Over H H1:=by rw[hH1];exact .ext _ _
 have g0:H1.get H.next=some (.arr 0 35 [aa g,.vec ns.length (ar ns)]):=by rw[hH1];exact bk H _ 0 (by simp)
 have g2:H1.get (H.next+2)=some (.arr 0 3 (ints (fq ns xs 0))):=by
  rw[hH1,bk H _ 2 (by simp)];simp [fq,ints,aa]
 have g3:H1.get (H.next+3)=some (.arr 0 39 [.own (H.next+2) 0 0 xs.length 1]):=by rw[hH1];exact bk H _ 3 (by simp)
 refine W.en (fun E=>E 2=.ptr H.next 0 0 /\ E 5=.ptr (H.next+3) 0 0 /\ E 15=.vec xs.length (xs.map ab) /\ E 16=aa xs.length /\ E 17=aa 0) (by simp only[go_sem]) fun E ⟨e2,e5,e15,e16,e17⟩=>?_
 show W _ _ _ _ _ _ ⟨E,ext H [.arr 0 35 [aa g,.vec ns.length (ar ns)],.arr 0 42 [.vec cs.length (ints cs),.vec xs.length (xs.map ab)],.arr 0 3 (List.replicate xs.length (aa 0)),.arr 0 39 [.own (H.next+2) 0 0 xs.length 1]]⟩;rw[<- hH1];refine W.aI 34426716352 (by rfl) (fun ρ H'=>∃ i:Nat,ρ 17=aa i/\i<=xs.length/\H1.next<=H'.next/\(∀ id,id<H1.next->id≠H.next+2->H'.get id=H1.get id)/\H'.get (H.next+2)=some (.arr 0 3 (ints (fq ns xs i)))) (fun ρ H=>xs.length - (iv (ρ 17)).toNat) ?_ ?_
 ·exact⟨0,e17,by omega,Nat.le_refl _,fun _ _ _=>rfl,g2⟩
 rintro ρ H' ⟨i,h17,hi,hn,hk,hg2⟩;refine W.en (fun F=>F 2=.ptr H.next 0 0 /\ F 5=.ptr (H.next+3) 0 0 /\ F 15=.vec xs.length (xs.map ab) /\ F 16=aa xs.length /\ F 17=aa i) (by simp only[go_sem,e2,e5,e15,e16,h17]) fun F ⟨f2,f5,f15,f16,f17⟩=>?_
 by_cases hb:(i:Int)<xs.length;rotate_left
 ·have ei:i=xs.length:=by omega
  refine W.vs ?_;have l3:=ao ((hk (H.next+3) (by omega) (by omega)).trans g3);simp only[go_sem,f5,f16,f17,hb,l3];have em:fq ns xs i=xs.map (dJ ns):=by rw[ei];simp [fq]
  rw[em]at hg2;have ovx:Over H H':=⟨by omega,fun id hi=>(hk id (by omega) (by omega)).trans (o1.old id hi)⟩
  exact av.cK (v':=ab (xs.map (dJ ns))) aZ hcl ovx (Fz.ints (by omega) hg2 (by simp) fun j hj=>by rw[Nat.zero_add,gI];simp only[Rz hj,Option.map_some]) hK
 obtain⟨r,hr⟩:=get_of_lt (l:=xs) (i:=i) (by omega);have hr':=o0 hr;have hrn:=aK hr';have hrl:=hrow r (Ry hr);have lE:∀ L,(ext H' L).live H.next 0=some (35,[aa g,.vec ns.length (ar ns)]):=fun L=>ao ((dI _ _ _ (by omega)).trans ((hk H.next (by omega) (by omega)).trans g0));refine W.vs ?_;simp only[go_sem,f2,f15,f16,f17,hb,hr',hrn,lE];obtain⟨Ha,hHa⟩:∃ Ha,Ha=ext H' [.arr 0 3 [aa i]]:=⟨_,rfl⟩
 obtain⟨Hb,hHb⟩:∃ Hb,Hb=ext Ha [.arr 0 127 [aa g,.vec ns.length (ar ns),.vec r.length (ints r)]]:=⟨_,rfl⟩
 have na:Ha.next=H'.next+1:=by rw[hHa];rfl
 have nb:Hb.next=H'.next+2:=by rw[hHb];show Ha.next+1=_;rw[na]
 have ka:Ha.get H'.next=some (.arr 0 3 [aa i]):=by rw[hHa];exact cq
 have kb:Hb.get (H'.next+1)=some (.arr 0 127 [aa g,.vec ns.length (ar ns),.vec r.length (ints r)]):=by rw[hHb,<- na];exact cq
 have oab:∀ id,id<H'.next+1->Hb.get id=Ha.get id:=fun id hh=>by rw[hHb];exact eG (by omega)
 have oa:∀ id,id<H'.next->Hb.get id=H'.get id:=fun id hh=>by rw[oab id (by omega),hHa];exact eG hh
 refine az.clo (BA g ns r _ _ ⟨trivial,?_⟩);simp only[go_sem];refine W.env fun E1 hE1=>?_;have k2:E1 2=.ptr H.next 0 0:=by rw[hE1];simp only[go_sem,f2]
 have k5:E1 5=.ptr (H.next+3) 0 0:=by rw[hE1];simp only[go_sem,f5]
 have k6:E1 6=.ptr H'.next 0 0:=by rw[hE1];simp only[go_sem]
 have k15:E1 15=.vec xs.length (xs.map ab):=by rw[hE1];simp only[go_sem,f15]
 have k16:E1 16=aa xs.length:=by rw[hE1];simp only[go_sem,f16]
 have k17:E1 17=aa i:=by rw[hE1];simp only[go_sem,f17]
 have k25:E1 25=.clo 88 [] [.ptr (H'.next+1) 0 0]:=by rw[hE1];rfl
 clear hE1;show W _ _ _ _ _ _ ⟨E1,ext (ext H' [.arr 0 3 [aa i]]) [.arr 0 127 [aa g,.vec ns.length (ar ns),.vec r.length (ints r)]]⟩;rw[<- hHa,<- hHb];have w1:=Rw ((i:Int)+1) (by omega);have mt:=BC h hrl;obtain⟨D,hD⟩:∃ D,D=cF (ah ns) r:=⟨_,rfl⟩
 have hDl:(iT ns r (Hb.next+1)).length=D.length:=by unfold iT;rw[RJ,hD]
 rw[<- hD]at mt;have hm:dJ ns r=(D.map (weight ns)).sum:=by rw[hD];rfl
 refine W.Bu (f:=88) (first:=[]) (cap:=[.ptr (H'.next+1) 0 0]) (by show E1 25=_;exact k25) (Bz g ns h r hrl (H'.next+1) (Hb.next+1) (by omega))
  (fun k Hx=>Hb.next<Hx.next/\(∀ id,id<Hb.next->id≠H.next+2->Hx.get id=Hb.get id)/\Hx.get (H.next+2)=some (.arr 0 3 (ints ((fq ns xs i).set i ((D.take k).map (weight ns)).sum))))
  (fun k Hx hj=>(hj.2.1 _ (by omega) (by omega)).trans kb)
  (fun k H1 H3 hj hw=>⟨by have:=hw.1;omega,fun id h1 h2=>(hw.2 _ (by omega) (by have:=hj.1;omega)).trans (hj.2.1 id h1 h2),(hw.2 _ (by omega) (by have:=hj.1;omega)).trans hj.2.2⟩)
  (fun k Hx hj=>hj.1)
  (fun k H1 b hj=>⟨hj.1,fun id h1 h2=>by rw[aj,RB (by omega)];exact hj.2.1 id h1 h2,by rw[aj,RB (by omega)];exact hj.2.2⟩)
  (fun b=>⟨by rw[cJ];simp,fun id h1 h2=>eG h1,by
   rw[eG (by omega),oa _ (by omega),hg2];congr 2;simp only[List.take_zero,List.map_nil,List.sum_nil];rw[Mn (Mo hr)]⟩) (by decide)
  (fun x hx=>by
   unfold iT at hx;obtain⟨w,_,rfl⟩:=RI.1 hx;rfl) (fun _ _ _=>trivial) (fun k y Hx B Bb hy hj hs hn2 hB hBb=>?_) (fun Hx hj hn2=>?_)
 ·obtain⟨hh1,hh2,hh3⟩:=hj;obtain⟨w,hw,hwN⟩:=hs;rw[<- hD]at hw;have hy':y=[.own (Hb.next+1+1) 0 0 ns.length 1,aa (weight ns w)]:=by
   unfold iT at hy;rw[<- hD,List.getElem?_map,hw]at hy;exact(Option.some.inj hy).symm
  subst hy';refine W.vs ?_;simp only[go_sem,jq,cY,nD,SK,UC,TG,Uj,hB];obtain⟨H3,hH3⟩:∃ H3,H3=Hx.upd Hb.next Bb:=⟨_,rfl⟩
  rw[<- hH3];obtain⟨st,pd,n',en,ps',as',bo,hBe⟩:=hBb;have n3:H3.next=Hx.next:=by rw[hH3];rfl
  have o3:∀ id,id≠Hb.next->H3.get id=Hx.get id:=fun id hh=>by rw[hH3,aj,RB hh]
  have jB:H3.get Hb.next=some Bb:=by rw[hH3,aj,RC rfl]
  refine W.en (fun E2=>E2 5=.ptr (H.next+3) 0 0 /\ E2 6=.ptr H'.next 0 0 /\ E2 9=aa (weight ns w)) (by simp only[go_sem,cY,k5,k6]) fun E2 ⟨m5,m6,m9⟩=>?_
  have l3:=ao ((o3 (H.next+3) (by omega)).trans ((hh2 _ (by omega) (by omega)).trans ((oa _ (by omega)).trans ((hk _ (by omega) (by omega)).trans g3))));have l6:=ao ((o3 H'.next (by omega)).trans ((hh2 _ (by omega) (by omega)).trans ((oab _ (by omega)).trans ka)));have l2:=ao ((o3 (H.next+2) (by omega)).trans hh3);have hml:=Ml ns xs i hi;have hil:i<(fq ns xs i).length:=by omega
  have mt1:=mt (k+1);have es:((D.take (k+1)).map (weight ns)).sum=((D.take k).map (weight ns)).sum+weight ns w:=by rw[aP hw];simp
  rw[es]at mt1;have w2:=Rw (((D.take k).map (weight ns)).sum+weight ns w) (by omega);have hgv:((fq ns xs i).set i ((D.take k).map (weight ns)).sum)[i]?=some ((D.take k).map (weight ns)).sum:=RO hil;refine W.vs ?_;simp only[go_sem,m5,m6,m9,l2,l3,l6,hb,hgv,w2,kQ];refine⟨by rw[RY];omega,?_⟩;obtain⟨H4,hH4⟩:∃ H4,H4=H3.upd (H.next+2) (.arr 0 3 (setAt (ints ((fq ns xs i).set i ((D.take k).map (weight ns)).sum)) i [.lit (.int .i64 (((D.take k).map (weight ns)).sum+weight ns w))])):=⟨_,rfl⟩
  rw[<- hH4];have n4:H4.next=Hx.next:=by rw[hH4];exact n3
  have k4:∀ id,id≠H.next+2->id≠Hb.next->H4.get id=Hx.get id:=fun id h1 h2=>by rw[hH4,aj,RB h1,o3 id h2]
  have e4:H4.get (H.next+2)=some (.arr 0 3 (ints ((fq ns xs i).set i ((D.take (k+1)).map (weight ns)).sum))):=by
   rw[hH4,aj,RC rfl,fa (by rw[RY];omega),UQ,es]
  exact⟨by rw[hH4,aj,RB (by omega)];exact jB,by omega,⟨by omega,fun id h1 h2=>(k4 id h2 (by omega)).trans (hh2 id h1 h2),e4⟩,fun id h1 h2=>k4 id (by omega) (by omega)⟩
 ·rw[hDl,RA (Nat.le_refl _),<- hm]at hj;simp only[go_sem,k17,w1];have hi1:(i:Int)<xs.length:=hb;refine⟨by omega,⟨i+1,rfl,by omega,by omega,fun id h1 h2=>(hj.2.1 id (by omega) h2).trans ((oa id (by omega)).trans (hk id h1 h2)),by rw[Mm hr];exact hj.2.2⟩,by rw[h17];simp only[aa,aM];omega⟩
end Go.Proofs
namespace Go.Proofs
def before (r:Nat->Int)(i j:Nat):Prop:=r j<r i\/(r i=r j/\i<j)
theorem P5 {r:Nat->Int}{i j:Nat}(h:before r i j):¬ before r j i:=fun k=>by unfold before at *;omega
theorem Dl {r:Nat->Int}{i j:Nat}(h:i≠j):before r i j\/before r j i:=by unfold before;omega
structure Top (r:Nat->Int)(n k:Nat)(M:Nat->Bool):Prop where
 count:(List.range n).countP M=k
 first:∀ i j,i<n->j<n->M i=true->M j=false->before r i j
theorem P6 {l:List Nat}{p q:Nat->Bool}(h:∀ x∈l,p x=true->q x=true){a:Nat}(ha:a∈l)(hp:p a=false)(hq:q a=true):l.countP p<l.countP q:=by
 induction l with
 | nil=>cases ha
 | cons x l ih =>
  have hm:l.countP p<=l.countP q:=Vb fun y hy=>h y (by simp [hy]);rcases List.mem_cons.1 ha with rfl|ha
  ·rw[Sp,Sp,hp,hq];simp;omega
  ·have:=ih (fun y hy=>h y (by simp [hy])) ha;have hx:=h x (by simp);rw[Sp,Sp];cases hpx:p x
   ·simp;omega
   ·rw[hx hpx];simp;omega
theorem Top.unique {r:Nat->Int}{n k:Nat}{M M':Nat->Bool}(h:Top r n k M)(h':Top r n k M'):∀ i,i<n->M i=M' i:=by
 have key:∀ {M M':Nat->Bool},Top r n k M->Top r n k M'->∀ i,i<n->M i=true->M' i=true:=by
  intro M M' h h' i hi hm;rcases Sh (M' i) with e|e
  ·exact e
    -- some place of M' is not in M
  have:∃ j,j<n/\M' j=true/\M j=false:=by
   refine Se fun hno=>?_;have hsub:∀ x∈List.range n,M' x=true->M x=true:=fun x hx hx'=>by
    rcases Sh (M x) with e|e
    ·exact e
    ·exact absurd ⟨x,RK.1 hx,hx',e⟩ hno
   have:=P6 hsub (RK.2 hi) e hm;rw[h.count,h'.count]at this;omega
  obtain⟨j,hj,a,b⟩:=this;exact absurd (h'.first j i hj hi a e) (P5 (h.first i j hi hj hm b))
 intro i hi;have a:=key h h' i hi;have b:=key h' h i hi;cases h1:M i<;>cases h2:M' i<;>simp_all
theorem Top.zero {r:Nat->Int}{n:Nat}:Top r n 0 (fun _=>false):=⟨by simp,fun _ _ _ _ h=>by cases h⟩
theorem Top.step {r:Nat->Int}{n k b:Nat}{M:Nat->Bool}(h:Top r n k M)(hb:b<n)(hm:M b=false)(hmin:∀ j,j<n->M j=false->j≠b->before r b j):
  Top r n (k+1) (fun i=>decide (i=b) || M i) where
 count:=by
  have:∀ l:List Nat,l.Nodup->b∈l->l.countP (fun i=>decide (i=b) || M i)=l.countP M+1:=by
   intro l
   induction l with
   | nil=>intro _ h;cases h
   | cons x l ih =>
    intro hnd hmem;obtain⟨h1,h2⟩:=TY.1 hnd;rw[Sp,Sp];rcases List.mem_cons.1 hmem with rfl|hmem
    ·have:l.countP (fun i=>decide (i=b) || M i)=l.countP M:=Uo fun y hy=>by
      have:y≠b:=(by rintro rfl;exact h1 hy);simp [this]
     rw[this];simp [hm]
    ·have hx:x≠b:=(by rintro rfl;exact h1 hmem);rw[ih h2 hmem];simp [hx];omega
  rw[this _ TE (RK.2 hb),h.count]
 first i j hi hj h1 h2:=by
  simp only[TK,decide_eq_true_eq,Bool.or_eq_false_iff,SY]at h1 h2;rcases h1 with rfl|h1
  ·exact hmin j hj h2.2 h2.1
  ·exact h.first i j hi hj h1 h2.2
theorem Top.sorted {r:Nat->Int}{n k:Nat}{l:List Nat}(hp:l.Perm (List.range n))(hs:l.Pairwise (before r))(hk:k<=n):Top r n k (fun i=>decide (i∈l.take k)) where
 count:=by
  rw[<- hp.countP_eq];have hnd:l.Nodup:=hp.nodup_iff.2 TE;have hl:l.length=n:=by simpa using hp.length_eq
  conv=>lhs;rw[<- Sc k l]
  rw[List.countP_append];have e1:(l.take k).countP (fun i=>decide (i∈(List.take k l++List.drop k l).take k))=k:=by
   have:(l.take k).length=k:=by simp;omega
   conv=>rhs;rw[<- this]
   rw[Ty];intro x hx;simpa using hx
  have e2:(l.drop k).countP (fun i=>decide (i∈(List.take k l++List.drop k l).take k))=0:=by
   rw[Vm];intro x hx;rw[Sc];simp only[decide_eq_true_eq];intro hx2;have:=(Sc k l) ▸ hnd;rw[List.nodup_append]at this;exact this.2.2 x hx2 x hx rfl
  rw[e1,e2];rfl
 first i j hi hj h1 h2:=by
  simp only[decide_eq_true_eq,SY]at h1 h2;have hjl:j∈l:=hp.mem_iff.2 (RK.2 hj);rw[<- Sc k l]at hjl hs;rcases RX.1 hjl with h|h
  ·exact absurd h h2
  ·exact(Ua.1 hs).2.2 i h1 j h
def eu (c:List Int):List Int:=if 0<c.sum then c else List.replicate c.length 1
def di (c:List Int):Int:=if 0<c.sum then c.sum else c.length
def partAt (sp:Int)(c:List Int)(i:Nat):Int:=sp*(eu c).getD i 0 / di c
def cH (sp:Int)(c:List Int)(i:Nat):Int:=sp*(eu c).getD i 0 % di c
def bJ (grain least:Int)(c:List Int):Int:=grain - least*c.length
def fg (sp:Int)(c:List Int):Int:=sp - ((List.range c.length).map (partAt sp c)).sum
theorem P7 (c:List Int):(eu c).length=c.length:=by unfold eu;split<;>simp
theorem Dm (c:List Int):(eu c).sum=di c:=by
 unfold eu di;split
 ·rfl
 ·simp
theorem Dn {c:List Int}(h:∀ x∈c,0<=x):∀ x∈eu c,0<=x:=by
 unfold eu;split
 ·exact h
 ·intro x hx;rw[List.mem_replicate]at hx;omega
theorem pt {c:List Int}(h:0<c.length):0<di c:=by unfold di;split<;>omega
theorem P8:∀ (l:List Int),((List.range l.length).map fun i=>l.getD i 0).sum=l.sum:=by
 intro l;have:((List.range l.length).map fun i=>l.getD i 0)=l:=by
  apply List.ext_getElem
  ·simp
  ·intro i h1 h2;simp at h1 ⊢;simp [h1]
 rw[this]
theorem uA (l:List Nat)(f g:Nat->Int):(l.map fun i=>f i+g i).sum=(l.map f).sum+(l.map g).sum:=by
 induction l with
 | nil=>rfl
 | cons x l ih=>simp only[List.map_cons,RZ,ih];omega
theorem yl (l:List Nat)(k:Int)(f:Nat->Int):(l.map fun i=>k*f i).sum=k*(l.map f).sum:=by
 induction l with
 | nil=>simp
 | cons x l ih=>simp only[List.map_cons,RZ,ih];rw[Tm]
theorem P9 {l:List Nat}{f:Nat->Int}{b:Int}(h:∀ i∈l,f i<=b):(l.map f).sum<=b*l.length:=by
 induction l with
 | nil=>simp
 | cons x l ih =>
  have h1:=ih fun i hi=>h i (by simp [hi]);have h2:=h x (by simp);simp only[List.map_cons,RZ,List.length_cons];have:b*((l.length+1:Nat):Int)=b*l.length+b:=by push_cast;rw[Tm];simp
  omega
theorem Qa {l:List Nat}{f:Nat->Int}(h:∀ i∈l,0<=f i):0<=(l.map f).sum:=by
 induction l with
 | nil=>simp
 | cons x l ih =>
  have h1:=ih fun i hi=>h i (by simp [hi]);have h2:=h x (by simp);simp only[List.map_cons,RZ];omega
theorem ym {sp:Int}{c:List Int}(h:0<c.length)(i:Nat):0<=cH sp c i/\cH sp c i<di c :=
 ⟨TZ _ (by have:=pt h;omega),TA _ (pt h)⟩
theorem Qb {sp:Int}{c:List Int}(h:0<c.length):fg sp c*di c=((List.range c.length).map (cH sp c)).sum:=by
 have e:∀ i,sp*(eu c).getD i 0=di c*partAt sp c i+cH sp c i:=fun i=>by
  unfold partAt cH;exact(Int.mul_ediv_add_emod _ _).symm
 have h1:((List.range c.length).map fun i=>sp*(eu c).getD i 0).sum=sp*di c:=by
  rw[yl,<- P7 c,P8,Dm]
 have h2:((List.range c.length).map fun i=>sp*(eu c).getD i 0).sum=di c*((List.range c.length).map (partAt sp c)).sum+((List.range c.length).map (cH sp c)).sum:=by
  rw[<- yl,<- uA];congr 1;exact Sa fun i _=>e i
 unfold fg;rw[Int.sub_mul,<- h1,h2,Te (di c)];omega
theorem yo {sp:Int}{c:List Int}(h:0<c.length):0<=fg sp c/\fg sp c<c.length:=by
 have hT:=pt h;have e:=Qb (sp:=sp) h;have h0:0<=((List.range c.length).map (cH sp c)).sum:=Qa fun i _=>(ym h i).1;have h1:((List.range c.length).map (cH sp c)).sum<=(di c - 1)*(List.range c.length).length:=P9 fun i _=>by have:=(ym (sp:=sp) h i).2;omega
 rw[<- e]at h0 h1;simp only[Sn]at h1;constructor
 ·exact Se fun hn=>by
   have:fg sp c*di c<0:=Int.mul_neg_of_neg_of_pos (by omega) hT;omega
 ·exact Se fun hn=>by
   have h3:(c.length:Int)*di c<=fg sp c*di c:=Tk (by omega) (by omega);have h4:(di c - 1)*(c.length:Int)=c.length*di c - c.length:=(by rw[Int.sub_mul,Te];omega);omega
def dB (least sp:Int)(c:List Int)(M:Nat->Bool):List Int:=(List.range c.length).map fun i=>least+partAt sp c i+if M i then 1 else 0
def eM (least sp:Int)(c s:List Int):Prop:=∃ M,Top (cH sp c) c.length (fg sp c).toNat M/\s=dB least sp c M
theorem eM.unique {least sp:Int}{c s s':List Int}(h:eM least sp c s)(h':eM least sp c s'):s=s':=by
 obtain⟨M,h1,rfl⟩:=h;obtain⟨M',h2,rfl⟩:=h';unfold dB;apply Sa;intro i hi;rw[h1.unique h2 i (RK.1 hi)]
end Go.Proofs
namespace Go.Proofs
def cf (n:Nat)(f:Nat->Int):Int:=((List.range n).map f).sum
theorem uB (n:Nat)(f g:Nat->Int):cf n (fun i=>f i+g i)=cf n f+cf n g:=uA _ _ _
theorem rp (n:Nat)(k:Int)(f:Nat->Int):cf n (fun i=>k*f i)=k*cf n f:=yl _ _ _
theorem uC {n:Nat}{f g:Nat->Int}(h:∀ i,i<n->f i=g i):cf n f=cf n g:=by
 unfold cf;rw[Sa fun i hi=>h i (RK.1 hi)]
theorem Qc {l:List Nat}{f g:Nat->Int}(h:∀ i∈l,f i<=g i):(l.map f).sum<=(l.map g).sum:=by
 induction l with
 | nil=>simp
 | cons x l ih =>
  have h1:=ih fun i hi=>h i (by simp [hi]);have h2:=h x (by simp);simp only[List.map_cons,RZ];omega
theorem yq {n:Nat}{f g:Nat->Int}(h:∀ i,i<n->f i<=g i):cf n f<=cf n g:=Qc fun i hi=>h i (RK.1 hi)
theorem yt (l:List Nat)(p:Nat->Bool):((l.countP p:Nat):Int)=(l.map fun i=>if p i then (1:Int) else 0).sum:=by
 induction l with
 | nil=>rfl
 | cons x l ih =>
  rw[Sp];cases h:p x
  ·simp [ih,h]
  ·simp [ih,h];omega
theorem threshold (l:List Nat)(p:Nat->Bool)(g:Nat->Int):∃ θ:Int,0<=θ/\(∀ i∈l,p i=true->g i<=θ)/\(θ=0\/∃ i∈l,p i=true/\θ=g i):=by
 induction l with
 | nil=>exact⟨0,by omega,fun i h=>(by cases h),.inl rfl⟩
 | cons x l ih =>
  obtain⟨θ,h0,h1,h2⟩:=ih;by_cases hx:p x=true/\θ<g x
  ·refine⟨g x,by omega,fun i hi hp=>?_,.inr ⟨x,by simp,hx.1,rfl⟩⟩;rcases List.mem_cons.1 hi with rfl|hi
   ·exact Int.le_refl _
   ·have:=h1 i hi hp;omega
  ·refine⟨θ,h0,fun i hi hp=>?_,?_⟩
   ·rcases List.mem_cons.1 hi with rfl|hi
    ·exact Se fun hn=>hx ⟨hp,by omega⟩
    ·exact h1 i hi hp
   ·rcases h2 with h2|⟨i,hi,hp,he⟩
    ·exact .inl h2
    ·exact .inr ⟨i,by simp [hi],hp,he⟩
theorem Do {n:Nat}{M N:Nat->Bool}{g:Nat->Int}(hg:∀ i,i<n->0<=g i)(hM:∀ i j,i<n->j<n->M i=true->M j=false->g i<=g j)(hc:(List.range n).countP M<=(List.range n).countP N):
  cf n (fun i=>if M i then g i else 0)<=cf n (fun i=>if N i then g i else 0):=by
 obtain⟨θ,h0,h1,h2⟩:=threshold (List.range n) M g;have h3:∀ j,j<n->M j=false->θ<=g j:=fun j hj hm=>by
  rcases h2 with rfl|⟨i,hi,hp,rfl⟩
  ·exact hg j hj
  ·exact hM i j (RK.1 hi) hj hp hm
 have hpt:cf n (fun i=>(if M i then g i else 0)+θ*(if N i then 1 else 0))<=cf n (fun i=>(if N i then g i else 0)+θ*(if M i then 1 else 0)):=by
  refine yq fun i hi=>?_;have a:=h1 i (RK.2 hi);have b:=h3 i hi;cases hm:M i<;>cases hn:N i
  ·simp
  ·simp;exact b hm
  ·simp;exact a hm
  ·simp
 rw[uB,uB,rp,rp]at hpt;have e1:cf n (fun i=>if M i then (1:Int) else 0)=((List.range n).countP M:Nat):=(yt _ _).symm;have e2:cf n (fun i=>if N i then (1:Int) else 0)=((List.range n).countP N:Nat):=(yt _ _).symm;rw[e1,e2]at hpt;have h4:θ*((List.range n).countP M:Nat)<=θ*((List.range n).countP N:Nat):=Sd (by omega) h0;omega
def mh (d:Int):Int:=max d (-d)
def hU (d:Int):Int:=max d 0
theorem Qd (d:Int):mh d=2*hU d+(-1)*d:=by unfold mh hU;omega
theorem abs_neg (d:Int):mh d=2*hU (-d)+d:=by unfold mh hU;omega
theorem Dp {n:Nat}{f:Nat->Int}(h:cf n f=0):cf n (fun i=>mh (f i))=2*cf n (fun i=>hU (f i)):=by
 rw[uC fun i _=>Qd _,uB,rp,rp,h];omega
theorem Dq {n:Nat}{f:Nat->Int}(h:cf n f=0):cf n (fun i=>mh (f i))=2*cf n (fun i=>hU (-f i)):=by
 rw[uC fun i _=>abs_neg _,uB,rp,h];omega
theorem Dr (l:List Nat)(p:Nat->Bool):l.countP (fun i=>!p i)+l.countP p=l.length:=by
 induction l with
 | nil=>rfl
 | cons x l ih =>
  rw[Sp,Sp,List.length_cons];cases h:p x<;>simp<;>omega
theorem nearest {n:Nat}{t k:Nat}{ρ q x:Nat->Int}{M:Nat->Bool}(hρ:∀ i,i<n->0<=ρ i/\ρ i<t)(hM:Top ρ n k M)
  (h0:cf n (fun i=>(t:Int)*(q i+(if M i then 1 else 0)) - (t*q i+ρ i))=0) (h1:cf n (fun i=>(t:Int)*x i - (t*q i+ρ i))=0):
  cf n (fun i=>mh (t*(q i+(if M i then 1 else 0)) - (t*q i+ρ i)))<=cf n (fun i=>mh (t*x i - (t*q i+ρ i))):=by
 let N:Nat->Bool:=fun i=>decide (q i+1<=x i)
 have ge:∀ i j,i<n->j<n->M i=true->M j=false->ρ j<=ρ i:=fun i j hi hj a b=>by
  have:=hM.first i j hi hj a b;unfold before at this;omega
 rcases Nat.le_total k ((List.range n).countP N) with hk|hk
 ·rw[Dp h0,Dp h1];have a1:cf n (fun i=>hU (t*(q i+(if M i then 1 else 0)) - (t*q i+ρ i)))=cf n (fun i=>if M i then t - ρ i else 0):=uC fun i hi=>by
   have:=hρ i hi;rw[Tm];unfold hU;cases M i<;>simp<;>omega
  have a2:cf n (fun i=>if N i then t - ρ i else 0)<=cf n (fun i=>hU (t*x i - (t*q i+ρ i))):=yq fun i hi=>by
   have:=hρ i hi;unfold hU;by_cases h:q i+1<=x i
   ·have h5:(t:Int)*(q i+1)<=t*x i:=Sd h (by omega);rw[Tm]at h5;simp only[N,h,decide_true,if_true];omega
   ·simp only[N,h,decide_false,Bool.false_eq_true,if_false];omega
  have a3:=Do (M:=M) (N:=N) (g:=fun i=>t - ρ i) (fun i hi=>by have:=hρ i hi;omega) (fun i j hi hj a b=>by have:=ge i j hi hj a b;omega) (by rw[hM.count];exact hk);rw[a1];omega
 ·rw[Dq h0,Dq h1];have a1:cf n (fun i=>hU (-(t*(q i+(if M i then 1 else 0)) - (t*q i+ρ i))))=cf n (fun i=>if !M i then ρ i else 0):=uC fun i hi=>by
   have:=hρ i hi;rw[Tm];unfold hU;cases M i<;>simp<;>omega
  have a2:cf n (fun i=>if !N i then ρ i else 0)<=cf n (fun i=>hU (-(t*x i - (t*q i+ρ i)))):=yq fun i hi=>by
   have:=hρ i hi;unfold hU;by_cases h:q i+1<=x i
   ·simp only[N,h,decide_true,Bool.not_true,Bool.false_eq_true,if_false];omega
   ·have h5:(t:Int)*x i<=t*q i:=Sd (by omega) (by omega);simp only[N,h,decide_false,Bool.not_false,if_true];omega
  have c1:=Dr (List.range n) M;have c2:=Dr (List.range n) N;have a3:=Do (M:=fun i=>!M i) (N:=fun i=>!N i) (g:=ρ) (fun i hi=>(hρ i hi).1) (fun i j hi hj a b=>by
   simp only[UN,Um]at a b;exact ge j i hj hi b a) (by have:=hM.count;omega)
  rw[a1];omega
end Go.Proofs
namespace Go.Proofs
theorem px (least sp:Int)(c:List Int)(M:Nat->Bool):(dB least sp c M).length=c.length:=by simp [dB]
theorem uD {least sp:Int}{c:List Int}{M:Nat->Bool}{i:Nat}(h:i<c.length):(dB least sp c M)[i]?=some (least+partAt sp c i+if M i then 1 else 0):=by
 unfold dB;rw[List.getElem?_map,Sm h];rfl
theorem Qe (n:Nat)(a:Int):((List.range n).map fun _=>a).sum=a*n:=by
 induction n with
 | zero=>simp
 | succ n ih=>rw[SN,SW,TX,ih];simp;rw[Tm,UT]
theorem Qf {c:List Int}(h:∀ x∈c,0<=x)(i:Nat):0<=(eu c).getD i 0:=by
 rw[RE];cases e:(eu c)[i]? with
 | none=>exact Int.le_refl _
 | some a=>exact Dn h a (Ry e)
theorem yu {c:List Int}(h:∀ x∈c,0<=x)(h0:0<c.length){sp:Int}(hs:0<=sp)(i:Nat):0<=partAt sp c i :=
 Tt (SD hs (Qf h i)) (Ve (pt h0))
theorem Qg {least grain:Int}{c s:List Int}(h0:0<c.length)(h:eM least (bJ grain least c) c s):s.length=c.length/\s.sum=grain:=by
 obtain⟨M,hM,rfl⟩:=h;refine⟨px ..,?_⟩;have hb:=yo (sp:=bJ grain least c) h0;have hc:=yt (List.range c.length) M;rw[hM.count]at hc;have e1:(dB least (bJ grain least c) c M).sum=((List.range c.length).map fun _=>least).sum+(((List.range c.length).map (partAt (bJ grain least c) c)).sum+((List.range c.length).map fun i=>if M i then (1:Int) else 0).sum):=by
  rw[<- uA,<- uA];unfold dB;congr 1;exact Sa fun i _=>by omega
 rw[e1,Qe,<- hc];have:((fg (bJ grain least c) c).toNat:Int)=fg (bJ grain least c) c:=by omega
 rw[this];unfold fg bJ;omega
theorem Qh {least grain:Int}{c s:List Int}(hc:∀ x∈c,0<=x)(h0:0<c.length)(hs:0<=bJ grain least c)(h:eM least (bJ grain least c) c s):∀ x∈s,least<=x:=by
 obtain⟨M,hM,rfl⟩:=h;intro x hx;unfold dB at hx;obtain⟨i,hi,rfl⟩:=RI.1 hx;have:=yu hc h0 hs i;split<;>omega
theorem Ds:∀ {l:List Int},(∀ x∈l,0<=x)->∀ x∈l,x<=l.sum
 | a :: l,h,x,hx=>by
  have h1:0<=l.sum:=by
   have:∀ l:List Int,(∀ x∈l,0<=x)->0<=l.sum:=by
    intro l
    induction l with
    | nil=>intro _;simp
    | cons b l ih=>intro h;have:=h b (by simp);have:=ih fun x hx=>h x (by simp [hx]);rw[RZ];omega
   exact this l fun x hx=>h x (by simp [hx])
  rw[RZ];rcases List.mem_cons.1 hx with rfl|hx
  ·omega
  ·have:=Ds (fun y hy=>h y (by simp [hy])) x hx;have:=h a (by simp);omega
end Go.Proofs
namespace Go.Proofs
open Go.Hx
theorem py {α:Type}(l:List α)(i j:Nat)(a d:α)(hi:i<l.length):(l.set i a).getD j d=if i=j then a else l.getD j d:=by
 rw[RE,RE,SQ];by_cases h:i=j
 ·subst h;rw[RC rfl,RC hi,RC rfl];rfl
 ·rw[RB h,RB h]
theorem jK {l:List Nat}{i:Nat}(h:i<l.length):l[i]?=some (l.getD i 0):=by
 rw[RE,Rz h];rfl
def bR (l:List Nat)(i j:Nat):List Nat:=(l.set i (l.getD j 0)).set j (l.getD i 0)
theorem Qi (l:List Nat)(i j:Nat):(bR l i j).length=l.length:=by simp [bR]
theorem Qj {l:List Nat}{i j:Nat}(hi:i<l.length)(hj:j<l.length)(hij:i≠j)(a:Nat):(bR l i j).getD a 0=if a=j then l.getD i 0 else if a=i then l.getD j 0 else l.getD a 0:=by
 unfold bR;rw[py _ _ _ _ _ (by rw[RY];exact hj),py _ _ _ _ _ hi];by_cases h1:a=j
 ·rw[RC h1,RC h1.symm]
 ·rw[RB h1,RB fun h=>h1 h.symm];by_cases h2:a=i
  ·rw[RC h2,RC h2.symm]
  ·rw[RB h2,RB fun h=>h2 h.symm]
def Du (f:Nat->Nat)(l:List Nat)(n:Nat):Prop:=∀ a b,a<b->b<n->f (l.getD a 0)<=f (l.getD b 0)
theorem Qk {l:List Nat}{i j:Nat}(hi:i<l.length)(hj:j<l.length):(bR l i j).Perm l:=by
 unfold bR;rw[RE,RE,Rz hi,Rz hj];exact List.set_set_perm hi hj
def nC (r:Nat->Int)(T n:Nat)(i:Nat):Nat:=(T - (r i).toNat)*n+i
theorem uE {r:Nat->Int}{T n:Nat}(hr:∀ i,i<n->0<=r i/\r i<T){i j:Nat}(hi:i<n)(hj:j<n):nC r T n i<nC r T n j↔before r i j:=by
 have h1:=hr i hi;have h2:=hr j hj;unfold nC before;obtain⟨a,ha⟩:∃ a,a=T - (r i).toNat:=⟨_,rfl⟩
 obtain⟨b,hb⟩:∃ b,b=T - (r j).toNat:=⟨_,rfl⟩
 rw[<- ha,<- hb];rcases Tp a b with h|h|h
 ·have:(a+1)*n<=b*n:=Sy _ h;rw[SM,Vk]at this;constructor
  ·intro _;left;omega
  ·intro _;omega
 ·subst h;constructor
  ·intro h;right;omega
  ·rintro(h|h)<;>omega
 ·have:(b+1)*n<=a*n:=Sy _ h;rw[SM,Vk]at this;constructor
  ·intro h;omega
  ·rintro(h|h)<;>omega
theorem Ql {r:Nat->Int}{T n:Nat}(hr:∀ i,i<n->0<=r i/\r i<T){l:List Nat}(hp:l.Perm (List.range n))(hs:Du (nC r T n) l l.length):l.Pairwise (before r):=by
 have hm:∀ a∈l,a<n:=fun a ha=>RK.1 (hp.mem_iff.1 ha);have hnd:l.Nodup:=hp.nodup_iff.2 TE;rw[UZ];intro i j hi hj hij;have h:=hs i j hij hj;rw[RE,RE,Rz hi,Rz hj]at h;simp only[Option.getD_some]at h;have hne:l[i]≠l[j]:=fun e=>by
  have:=(Tq hi hnd).1 (show l[i]?=l[j]? by rw[Rz hi,e,<- Rz hj]);omega
 rcases Dl hne (r:=r) with b|b
 ·exact b
 ·have:=(uE hr (hm _ (Sv hj)) (hm _ (Sv hi))).2 b;omega
end Go.Proofs
namespace Go.Hx
variable {P:Program} {G:Nat->Option (List AVal)} {Γ Γ':au} {H H':AHeap} {w w':World}
theorem W.cu {n:Nat}{rd:Option Nat}{Q:AX->St->Prop}{s:St}{x y:Code}(Φ:St->Prop)(h:W P G n rd x (fun ax s'=>ax=.normal/\Φ s') s)(h2:∀ s',Φ s'->W P G n rd y Q s'):W P G n rd (.seq x y) Q s :=
 W.seq (h.mono fun ax s' ⟨e,hp⟩=>by subst e;exact h2 s' hp)
theorem B1 {H:AHeap}{id:Nat}{b:Blk}(h:H.get id=some b):H.upd id b=H:=by
 have e:(fun j=>if j=id then some b else H.get j)=H.get:=by
  funext j
  by_cases hj:j=id
  ·rw[RC hj,hj,h]
  ·rw[RB hj]
 show AHeap.mk (fun j=>if j=id then some b else H.get j) H.next=H;rw[e]
theorem lR (H:AHeap)(id:Nat)(b c:Blk):(H.upd id b).upd id c=H.upd id c:=by
 unfold AHeap.upd;congr 1
 funext j
 by_cases hj:j=id<;>simp [hj]
end Go.Hx
namespace Go.Proofs
open Go.Hx
def dy (l:List Nat):List Int:=l.map fun (v:Nat)=>(v:Int)
theorem oZ (l:List Nat):(dy l).length=l.length:=by simp [dy]
theorem xJ {l:List Nat}{i k:Nat}(h:l[i]?=some k):(dy l)[i]?=some (k:Int):=by simp [dy,h]
theorem B2 (l:List Nat)(i k:Nat):(dy l).set i (k:Int)=dy (l.set i k):=by unfold dy;rw[Uy]
def nB (g:Nat)(q:List Nat):Blk:=.arr g 3 (ints (dy q))
def B9 (cv:AVal)(f:Nat->Nat)(l:List Nat)(Inv:AHeap->Prop):Prop:=∀ a b,a∈l->b∈l->∀ Hx,Inv Hx->∃ z:Int,(z<0↔f a<f b)/\∀ K,K (.ret (aa z)) Hx->az Try.prog G0 cv [aa (a:Nat),aa (b:Nat)] Hx K
def aW (a b:Nat)(l l':List Nat):Prop:=l'.Perm l/\∀ i,i<a\/b<=i->l'.getD i 0=l.getD i 0
theorem aW.refl (a b:Nat)(l:List Nat):aW a b l l:=⟨.refl _,fun _ _=>rfl⟩
theorem aW.trans {a b:Nat}{l m r:List Nat}(h:aW a b l m)(k:aW a b m r):aW a b l r:=⟨k.1.trans h.1,fun i hi=>(k.2 i hi).trans (h.2 i hi)⟩
theorem aW.len {a b:Nat}{l m:List Nat}(h:aW a b l m):m.length=l.length:=h.1.length_eq
theorem aW.mono {a b a' b':Nat}{l m:List Nat}(h:aW a b l m)(ha:a'<=a)(hb:b<=b'):aW a' b' l m:=⟨h.1,fun i hi=>h.2 i (by omega)⟩
theorem aW.swap {a b i j:Nat}{l:List Nat}(h1:a<=i)(h2:i<b)(h3:a<=j)(h4:j<b)(hb:b<=l.length):aW a b l (bR l i j):=by
 refine⟨Qk (by omega) (by omega),fun k hk=>?_⟩;unfold bR;rw[py _ _ _ _ _ (by rw[RY];omega),py _ _ _ _ _ (by omega),RB (by omega),RB (by omega)]
theorem ra {l:List Nat}{i j:Nat}(hi:i<l.length)(hj:j<l.length)(a:Nat):(bR l i j).getD a 0=if a=j then l.getD i 0 else if a=i then l.getD j 0 else l.getD a 0:=by
 unfold bR;rw[py _ _ _ _ _ (by rw[RY];exact hj),py _ _ _ _ _ hi];by_cases h1:a=j
 ·rw[RC h1,RC h1.symm]
 ·rw[RB h1,RB fun h=>h1 h.symm];by_cases h2:a=i
  ·rw[RC h2,RC h2.symm]
  ·rw[RB h2,RB fun h=>h2 h.symm]
theorem CK {a b:Nat}{l:List Nat}{x:Nat}:x∈(l.take b).drop a↔∃ i,a<=i/\i<b/\i<l.length/\l.getD i 0=x:=by
 rw[RW];constructor
 ·rintro⟨k,hk⟩;rw[SS,Td]at hk;split at hk
  ·exact⟨a+k,by omega,by omega,get_lt hk,by rw[RE,hk];rfl⟩
  ·cases hk
 ·rintro⟨i,h1,h2,h3,h4⟩;refine⟨i - a,?_⟩;rw[SS,Td,RC (by omega),show a+(i - a)=i by omega,jK h3,h4]
theorem CL {l m:List Nat}(hl:l.length=m.length)(h:∀ i,i<l.length->l.getD i 0=m.getD i 0):l=m:=by
 apply Sf;intro i;rcases RP i l.length with hi|hi
 ·rw[jK hi,jK (by omega),h i hi]
 ·rw[RF hi,RF (by omega)]
theorem aW.O0 {a b:Nat}{l m:List Nat}(h:aW a b l m)(hab:a<=b)(hb:b<=l.length):((m.take b).drop a).Perm ((l.take b).drop a):=by
 have hl:=h.len;have e1:m.take a=l.take a:=CL (by simp [hl]) fun i hi=>by
  rw[RH]at hi;rw[RE,RE,Td,Td,RC (by omega),RC (by omega),jK (by omega),jK (by omega),h.2 i (by omega)]
 have e2:m.drop b=l.drop b:=CL (by simp [hl]) fun i hi=>by
  rw[Sr]at hi;rw[RE,RE,SS,SS,jK (by omega),jK (by omega),h.2 (b+i) (by omega)]
 have cut:∀ l:List Nat,l=l.take a++((l.take b).drop a++l.drop b):=fun l=>by
  rw[<- List.append_assoc];have:l.take a++(l.take b).drop a=l.take b:=by
   have:=Sc a (l.take b);rw[Un,TI hab]at this;exact this
  rw[this,Sc]
 have hp:=h.1;rw[cut m,cut l,e1,e2]at hp;exact(List.perm_append_right_iff _).1 ((List.perm_append_left_iff _).1 hp)
theorem aW.all {a b:Nat}{l m:List Nat}(h:aW a b l m)(hb:b<=l.length){p:Nat->Prop}(hp:∀ i,a<=i->i<b->p (l.getD i 0)):∀ i,a<=i->i<b->p (m.getD i 0):=by
 intro i h1 h2;have hl:=h.len;have:m.getD i 0∈(m.take b).drop a:=CK.2 ⟨i,h1,h2,by omega,rfl⟩;obtain⟨k,k1,k2,_,k4⟩:=CK.1 ((h.O0 (by omega) hb).mem_iff.1 this);rw[<- k4];exact hp k k1 k2
def cV (f:Nat->Nat)(l:List Nat)(a b:Nat):Prop:=∀ i j,a<=i->i<j->j<b->f (l.getD i 0)<=f (l.getD j 0)
def kg (f:Nat->Nat)(l:List Nat):Prop:=(l.map f).Nodup
theorem kg.perm {f:Nat->Nat}{l m:List Nat}(h:kg f l)(hp:m.Perm l):kg f m:=(hp.map f).nodup_iff.2 h
theorem kg.ne {f:Nat->Nat}{l:List Nat}(h:kg f l){i j:Nat}(hij:i≠j)(hi:i<l.length)(hj:j<l.length):f (l.getD i 0)≠f (l.getD j 0):=by
 intro e;have g:∀ k,k<l.length->(l.map f)[k]?=some (f (l.getD k 0)):=fun k hk=>by rw[List.getElem?_map,jK hk];rfl
 refine hij ((Tq (by rw[RJ];exact hi) h).1 ?_);rw[g i hi,g j hj,e]
def Bl (f:Nat->Nat)(l:List Nat)(a b:Nat):Prop:=a=0\/∀ i,a<=i->i<b->f (l.getD (a - 1) 0)<f (l.getD i 0)
theorem Bl.perm {f:Nat->Nat}{l m:List Nat}{a b:Nat}(h:Bl f l a b)(hp:aW a b l m)(hb:b<=l.length):Bl f m a b:=by
 rcases h with h|h
 ·exact .inl h
 ·by_cases ha:a=0
  ·exact .inl ha
  ·refine .inr fun i h1 h2=>?_;rw[hp.2 (a - 1) (by omega)];exact hp.all hb (p:=fun x=>f (l.getD (a - 1) 0)<f x) h i h1 h2
def dO (k c:Nat):Prop:=c=2*k+1\/c=2*k+2
def gV (f:Nat->Nat)(l:List Nat)(a lo hi:Nat):Prop:=∀ k c,lo<=k->dO k c->c<hi->f (l.getD (a+c) 0)<=f (l.getD (a+k) 0)
def lV (f:Nat->Nat)(l:List Nat)(a lo hi r:Nat):Prop :=
 (∀ k c,lo<=k->k≠r->dO k c->c<hi->f (l.getD (a+c) 0)<=f (l.getD (a+k) 0))/\∀ k c,lo<=k->dO k r->dO r c->c<hi->f (l.getD (a+c) 0)<=f (l.getD (a+k) 0)
theorem lV.start {f:Nat->Nat}{l:List Nat}{a lo hi:Nat}(h:gV f l a (lo+1) hi):lV f l a lo hi lo :=
 ⟨fun k c h1 h2 h3 h4=>h k c (by omega) h3 h4,fun k c h1 h2 h3 h4=>by unfold dO at h2;omega⟩
theorem lV.done {f:Nat->Nat}{l:List Nat}{a lo hi r:Nat}(h:lV f l a lo hi r)(hd:∀ c,dO r c->c<hi->f (l.getD (a+c) 0)<=f (l.getD (a+r) 0)):gV f l a lo hi:=fun k c h1 h3 h4=>by
 by_cases hk:k=r
 ·subst hk;exact hd c h3 h4
 ·exact h.1 k c h1 hk h3 h4
theorem lV.step {f:Nat->Nat}{l:List Nat}{a lo hi r c:Nat}(h:lV f l a lo hi r)(hlo:lo<=r)(hb:a+hi<=l.length)(hc:dO r c)(hci:c<hi)(hmax:∀ d,dO r d->d<hi->f (l.getD (a+d) 0)<=f (l.getD (a+c) 0))(hlt:f (l.getD (a+r) 0)<=f (l.getD (a+c) 0)):
  lV f (bR l (a+r) (a+c)) a lo hi c:=by
 have hrc:r<c:=by unfold dO at hc;omega
 have g:=fun k=>ra (l:=l) (i:=a+r) (j:=a+c) (by omega) (by omega) (a+k);have gk:∀ k,k≠r->k≠c->(bR l (a+r) (a+c)).getD (a+k) 0=l.getD (a+k) 0:=fun k h1 h2=>by rw[g,RB (by omega),RB (by omega)]
 have gr:(bR l (a+r) (a+c)).getD (a+r) 0=l.getD (a+c) 0:=by rw[g,RB (by omega),RC rfl]
 have gc:(bR l (a+r) (a+c)).getD (a+c) 0=l.getD (a+r) 0:=by rw[g,RC rfl]
 constructor
 ·intro k d h1 h2 h3 h4;by_cases hk:k=r
  ·subst hk;rw[gr];by_cases hd:d=c
   ·subst hd;rw[gc];exact hlt
   ·rw[gk d (by unfold dO at h3;omega) hd];exact hmax d h3 h4
  ·rw[gk k hk h2];by_cases hd:d=r
   ·subst hd;rw[gr];exact h.2 k c h1 h3 hc hci
   ·rw[gk d hd (by unfold dO at h3 hc;omega)];exact h.1 k d h1 hk h3 h4
 ·intro k d h1 h2 h3 h4;obtain rfl:k=r:=by unfold dO at h2 hc;omega
  rw[gr,gk d (by unfold dO at h3;omega) (by unfold dO at h3;omega)];exact h.1 c d (by omega) (by omega) h3 h4
theorem gV.O1 {f:Nat->Nat}{l:List Nat}{a lo hi:Nat}(h:hi<=2*lo+1):gV f l a lo hi:=fun k c h1 h2 h3=>by unfold dO at h2;omega
theorem gV.max {f:Nat->Nat}{l:List Nat}{a hi:Nat}(h:gV f l a 0 hi):∀ k,k<hi->f (l.getD (a+k) 0)<=f (l.getD a 0):=by
 intro k
 induction k using Nat.strongRecOn with
 | _ k ih =>
  intro hk;by_cases h0:k=0
  ·subst h0;exact Nat.le_refl _
  ·have h1:=h ((k - 1) / 2) k (by omega) (by unfold dO;omega) hk;exact So h1 (ih _ (by omega) (by omega))
theorem gV.pop {f:Nat->Nat}{l:List Nat}{a i:Nat}(h:gV f l a 0 (i+1))(hb:a+i<l.length):gV f (bR l a (a+i)) a 1 i:=by
 intro k c h1 h2 h3;have g:=fun k=>ra (l:=l) (i:=a) (j:=a+i) (by omega) (by omega) (a+k);rw[g,g,RB (by omega),RB (by unfold dO at h2;omega),RB (by unfold dO at h2;omega),RB (by omega)];exact h k c (by omega) h2 (by omega)
def lY (f:Nat->Nat)(l:List Nat)(a m b:Nat):Prop:=∀ i j,a<=i->i<j->j<b->m<=j->f (l.getD i 0)<=f (l.getD j 0)
theorem lY.start {f:Nat->Nat}{l:List Nat}{a b:Nat}:lY f l a b b:=fun i j h1 h2 h3 h4=>by omega
theorem lY.done {f:Nat->Nat}{l:List Nat}{a b:Nat}(h:lY f l a a b):cV f l a b:=fun i j h1 h2 h3=>h i j h1 h2 h3 (by omega)
theorem lY.step {f:Nat->Nat}{l m:List Nat}{a i b:Nat}(h:lY f l a (a+(i+1)) b)(hh:gV f l a 0 (i+1))(hi:a+i<b)(hb:b<=l.length)(hp:aW a (a+i) (bR l a (a+i)) m):lY f m a (a+i) b:=by
 have g:=fun k=>ra (l:=l) (i:=a) (j:=a+i) (by omega) (by omega) k;have mx:=hh.max;have sl:(bR l a (a+i)).length=l.length:=Qi ..;have big:∀ k,a<=k->k<a+i->f ((bR l a (a+i)).getD k 0)<=f (l.getD a 0):=fun k h1 h2=>by
  rw[g,RB (by omega)];split
  ·have:=mx i (by omega);exact this
  ·have:=mx (k - a) (by omega);rw[show a+(k - a)=k by omega]at this;exact this
 have big':=hp.all (by omega) (p:=fun x=>f x<=f (l.getD a 0)) big;have tail:∀ k,a+i<=k->m.getD k 0=(bR l a (a+i)).getD k 0:=fun k hk=>hp.2 k (.inr hk);intro x y h1 h2 h3 h4;rw[tail y h4];by_cases hy:y=a+i
 ·subst hy;rw[g,RC rfl];exact big' x h1 h2
 ·rw[g,RB hy,RB (by omega)];rcases RP x (a+i) with hx|hx
  ·have e:∀ z,a<=z->z<a+i->f ((bR l a (a+i)).getD z 0)<=f (l.getD y 0):=fun z z1 z2=>So (big z z1 z2) (h a y (by omega) (by omega) h3 (by omega));exact hp.all (by omega) (p:=fun x=>f x<=f (l.getD y 0)) e x h1 hx
  ·rw[tail x hx,g];split
   ·exact h a y (by omega) (by omega) h3 (by omega)
   ·rw[RB (by omega)];exact h x y h1 h2 h3 (by omega)
def Out (f:Nat->Nat)(l:List Nat)(a b c d:Nat):Prop:=∀ i j,a<=i->i<j->j<b->(i<c\/d<=j)->f (l.getD i 0)<=f (l.getD j 0)
theorem Out.start {f:Nat->Nat}{l:List Nat}{a b:Nat}:Out f l a b a b:=fun i j h1 h2 h3 h4=>by omega
theorem Out.perm {f:Nat->Nat}{l m:List Nat}{a b c d:Nat}(h:Out f l a b c d)(hp:aW c d l m)(h1:a<=c)(h2:d<=b)(hb:b<=l.length):Out f m a b c d:=by
 intro i j q1 q2 q3 q4;by_cases hi:c<=i/\i<d
 ·have hj:d<=j:=by omega
  rw[hp.2 j (.inr hj)];exact hp.all (by omega) (p:=fun x=>f x<=f (l.getD j 0)) (fun k k1 k2=>h k j (by omega) (by omega) q3 (.inr hj)) i hi.1 hi.2
 ·rw[hp.2 i (by omega)];by_cases hj:c<=j/\j<d
  ·have hic:i<c:=(by omega);exact hp.all (by omega) (p:=fun x=>f (l.getD i 0)<=f x) (fun k k1 k2=>h i k q1 (by omega) (by omega) (.inl hic)) j hj.1 hj.2
  ·rw[hp.2 j (by omega)];exact h i j q1 q2 q3 q4
theorem Out.done {f:Nat->Nat}{l:List Nat}{a b c d:Nat}(h:Out f l a b c d)(hs:cV f l c d):cV f l a b:=fun i j h1 h2 h3=>by
 by_cases hc:i<c\/d<=j
 ·exact h i j h1 h2 h3 hc
 ·exact hs i j (by omega) h2 (by omega)
def lZ (f:Nat->Nat)(l:List Nat)(c d m:Nat):Prop:=(∀ i,c<=i->i<m->f (l.getD i 0)<=f (l.getD m 0))/\∀ i,m<i->i<d->f (l.getD m 0)<=f (l.getD i 0)
theorem lZ.le {f:Nat->Nat}{l:List Nat}{c d m:Nat}(h:lZ f l c d m){i j:Nat}(h1:c<=i)(h2:j<d)(h3:i<=m)(h4:m<=j):f (l.getD i 0)<=f (l.getD j 0):=by
 have a1:f (l.getD i 0)<=f (l.getD m 0):=by
  rcases RP i m with q|q
  ·exact h.1 i h1 q
  ·rw[show i=m by omega];exact Nat.le_refl _
 have a2:f (l.getD m 0)<=f (l.getD j 0):=by
  rcases RP m j with q|q
  ·exact h.2 j q h2
  ·rw[show j=m by omega];exact Nat.le_refl _
 omega
theorem Out.left {f:Nat->Nat}{l m:List Nat}{a b c d p:Nat}(h:Out f l a b c d)(hp:lZ f l c d p)(h1:c<=p)(h2:p<d)(h3:a<=c)(h4:d<=b)(hb:b<=l.length)(hm:aW c p l m)(hs:cV f m c p):Out f m a b (p+1) d:=by
 have hout:=h.perm (hm.mono (Nat.le_refl _) (show p<=d by omega)) h3 h4 hb;have hm':lZ f m c d p:=by
  have ep:=hm.2 p (.inr (Nat.le_refl _));refine⟨fun i i1 i2=>?_,fun i i1 i2=>?_⟩
  ·rw[ep];exact hm.all (by omega) (p:=fun x=>f x<=f (l.getD p 0)) hp.1 i i1 i2
  ·rw[ep,hm.2 i (by omega)];exact hp.2 i i1 i2
 intro i j q1 q2 q3 q4;by_cases hc:i<c\/d<=j
 ·exact hout i j q1 q2 q3 hc
 ·rcases RP j p with hj|hj
  ·exact hs i j (by omega) q2 hj
  ·exact hm'.le (by omega) (by omega) (by omega) hj
theorem Out.right {f:Nat->Nat}{l m:List Nat}{a b c d p:Nat}(h:Out f l a b c d)(hp:lZ f l c d p)(h1:c<=p)(h2:p<d)(h3:a<=c)(h4:d<=b)(hb:b<=l.length)(hm:aW (p+1) d l m)(hs:cV f m (p+1) d):Out f m a b c p:=by
 have hout:=h.perm (hm.mono (show c<=p+1 by omega) (Nat.le_refl _)) h3 h4 hb;have hm':lZ f m c d p:=by
  have ep:=hm.2 p (.inl (by omega));refine⟨fun i i1 i2=>?_,fun i i1 i2=>?_⟩
  ·rw[ep,hm.2 i (by omega)];exact hp.1 i i1 i2
  ·rw[ep];exact hm.all (by omega) (p:=fun x=>f (l.getD p 0)<=f x) (fun k k1 k2=>hp.2 k (by omega) k2) i (by omega) i2
 intro i j q1 q2 q3 q4;by_cases hc:i<c\/d<=j
 ·exact hout i j q1 q2 q3 hc
 ·rcases RP p i with hi|hi
  ·exact hs i j (by omega) q2 (by omega)
  ·exact hm'.le (by omega) (by omega) hi (by omega)
theorem Out.bl {f:Nat->Nat}{l:List Nat}{a b c d:Nat}(h:Out f l a b c d)(hB:Bl f l a b)(hD:kg f l)(h1:a<=c)(h2:d<=b)(hb:b<=l.length):Bl f l c d:=by
 by_cases hc:c=a
 ·subst hc;rcases hB with q|q
  ·exact .inl q
  ·exact .inr fun i i1 i2=>q i i1 (by omega)
 ·refine .inr fun i i1 i2=>?_;have h1:=h (c - 1) i (by omega) (by omega) (by omega) (.inl (by omega));have h2:=hD.ne (i:=c - 1) (j:=i) (by omega) (by omega) (by omega);omega
structure SH (cv:AVal)(f:Nat->Nat)(rid:Nat)(rb:Blk)(id g n:Nat)(l:List Nat)(H:AHeap):Prop where
 hl:l.length=n
 hn:n<=1024
 hg:H.get id=some (nB g l)
 hr:H.get rid=some rb
 ne:rid≠id
 il:id<H.next
 rl:rid<H.next
 cmp:B9 cv f l fun Hx=>Hx.get rid=some rb
section
variable {cv:AVal} {f:Nat->Nat} {rid:Nat} {rb:Blk} {id g n:Nat} {l q:List Nat} {H H':AHeap}
theorem SH.upd (S:SH cv f rid rb id g n l H)(hp:q.Perm l):SH cv f rid rb id g n q (H.upd id (nB g q)) :=
 ⟨by rw[hp.length_eq,S.hl],S.hn,by rw[aj,RC rfl],by rw[aj,RB S.ne];exact S.hr,S.ne,S.il,S.rl,fun a b ha hb=>S.cmp a b (hp.mem_iff.1 ha) (hp.mem_iff.1 hb)⟩
theorem SH.over (S:SH cv f rid rb id g n l H)(ho:Over H H'):SH cv f rid rb id g n l H' :=
 ⟨S.hl,S.hn,(ho.old _ S.il).trans S.hg,(ho.old _ S.rl).trans S.hr,S.ne,by have:=S.il;have:=ho.next;omega,by have:=S.rl;have:=ho.next;omega,S.cmp⟩
theorem SH.live (S:SH cv f rid rb id g n l H):H.live id g=some (3,ints (dy l)):=ao S.hg
theorem SH.len (S:SH cv f rid rb id g n l H):(ints (dy l)).length=n:=by rw[bO,oZ,S.hl]
theorem SH.cell (S:SH cv f rid rb id g n l H){i:Nat}(hi:i<n):(ints (dy l))[i]?=some (.lit (.int .i64 ((l.getD i 0:Nat):Int))):=by
 rw[gI,xJ (jK (by rw[S.hl];exact hi))];rfl
theorem SH.ask (S:SH cv f rid rb id g n l H){i j:Nat}(hi:i<n)(hj:j<n):∃ z:Int,(z<0↔f (l.getD i 0)<f (l.getD j 0))/\∀ K,K (.ret (aa z)) H->az Try.prog G0 cv [.lit (.int .i64 ((l.getD i 0:Nat):Int)),.lit (.int .i64 ((l.getD j 0:Nat):Int))] H K :=
 S.cmp _ _ (Ry (jK (by rw[S.hl];exact hi))) (Ry (jK (by rw[S.hl];exact hj))) H S.hr
theorem SH.s1 (S:SH cv f rid rb id g n l H){i:Nat}(hi:i<n)(x:Nat):setAt (ints (dy l)) i [.lit (.int .i64 (x:Int))]=ints (dy (l.set i x)):=by
 rw[fa (by rw[oZ,S.hl];exact hi),B2]
theorem SH.ir (S:SH cv f rid rb id g n l H)(i x:Nat):(ints (dy (l.set i x))).length=n:=by rw[bO,oZ,RY,S.hl]
theorem SH.iu (_S:SH cv f rid rb id g n l H)(q:List Nat):(H.upd id (.arr g 3 (ints (dy q)))).live id g=some (3,ints (dy q)):=ao (by rw[aj,RC rfl])
theorem SH.s2 (S:SH cv f rid rb id g n l H){i j:Nat}(hj:j<n):setAt (ints (dy (l.set i (l.getD j 0)))) j [.lit (.int .i64 ((l.getD i 0:Nat):Int))]=ints (dy (bR l i j)):=by
 rw[fa (by rw[oZ,RY,S.hl];exact hj),B2];rfl
theorem SH.u2 (_S:SH cv f rid rb id g n l H)(p q:List Nat):(H.upd id (.arr g 3 (ints (dy p)))).upd id (.arr g 3 (ints (dy q)))=H.upd id (nB g q):=lR ..
theorem SH.self (S:SH cv f rid rb id g n l H):H.upd id (nB g l)=H:=B1 S.hg
end
theorem dF (H:AHeap)(id g:Nat)(p q:List Nat):(H.upd id (nB g p)).upd id (nB g q)=H.upd id (nB g q):=lR ..
section
variable {cv:AVal} {f:Nat->Nat} {rid:Nat} {rb:Blk} {id g n a b:Nat} {l:List Nat} {H:AHeap}
set_option maxHeartbeats 4000000 in
theorem O2 (S:SH cv f rid rb id g n l H)(hab:a<b)(hb:b<=n)(K:ARes->AHeap->Prop)(hK:∀ q,aW a b l q->K (.ret (.tup [])) (H.upd id (nB g q))):
  ae Try.prog G0 100 [.own id g 0 n 1,aa a,aa b,cv] H K:=by
 have hn:=S.hn;have w0:IntKind.i64.wrap ((b:Int) - 1)=((b - 1:Nat):Int):=by rw[Rw _ (by omega)];omega
 refine ae.cX (n:=34) (rs:=[]) Try.func100 rfl rfl rfl (by decide) (by simp) ?_;refine W.sq ?_;simp only[go_sem];refine W.sq ?_;simp only[go_sem,w0];refine W.en (fun E=>E 0=.own id g 0 n 1 /\ E 8=aa a /\ E 9=aa ((b - 1:Nat):Int)) (by simp only[go_sem]) fun E ⟨e0,e8,e9⟩=>?_
 refine W.block ?_;refine W.aI 17179861760 (by rfl) (fun ρ Hx=>∃ (i:Nat) (j:Int) (q:List Nat),ρ 8=aa i/\ρ 9=aa j/\a<=i/\j<b/\i+j=(a:Int)+b - 1/\aW a b l q/\Hx=H.upd id (nB g q)) (fun ρ Hx=>(iv (ρ 9)+1).toNat) ?_ ?_
 ·exact⟨a,_,l,e8,e9,Nat.le_refl _,by omega,by omega,.refl _ _ _,S.self.symm⟩
 rintro ρ Hx ⟨i,j,q,h8,h9,hi,hj,hij,hp,hHx⟩;refine W.en (fun E1=>E1 0=.own id g 0 n 1 /\ E1 8=aa i /\ E1 9=aa j) (by simp only[go_sem,e0,h8,h9]) fun E1 ⟨f0,f8,f9⟩=>?_
 by_cases hlt:(i:Int)<j;rotate_left
 ·refine W.vs ?_;simp only[go_sem,f8,f9,hlt];rw[hHx];exact av.mk (by rw[aL];exact Nat.le_refl _) (hK q hp)
 obtain⟨j,rfl⟩:=R7 (show 0<=j by omega);have T:=S.upd hp.1;rw[<- hHx]at T;have b1:(i:Int)<n:=by omega
 have b2:(j:Int)<n:=by omega
 have w1:=Rw ((i:Int)+1) (by omega);have w2:=Rw ((j:Int) - 1) (by omega);refine W.sq ?_;simp only[go_sem,f8,f9,hlt];refine W.block (W.seq ?_);refine W.draw 14 [0,0,0,0,0,0,48,112,0,0,768,1792,4083,8179] Try.mixed (by kernel_rfl) (by kernel_rfl) ?_;simp only[go_sem,f0,f8,f9,T.live,T.len,T.cell (show i<n by omega),T.cell (show j<n by omega),b1,b2,T.s1 (show i<n by omega),T.s2 (i:=i) (show j<n by omega),T.ir,T.iu];refine⟨by omega,by omega,?_⟩;refine W.vs ?_;simp only[go_sem,f8,f9,w1,w2];refine⟨by rw[hHx];exact Nat.le_refl _,⟨i+1,(j:Int) - 1,bR q i j,rfl,rfl,by omega,by omega,by omega,hp.trans (.swap (by omega) (by omega) (by omega) (by omega) (by rw[hp.len,S.hl];exact hb)),?_⟩,by rw[h9];simp only[aa,aM];omega⟩;rw[T.u2,hHx,dF]
end
end Go.Proofs
