/- Own work: contracts. -/
import Derived.Test.YtakancljiekbhaaConC
import Derived.Test.YtakancljiekbhaaConB
import Derived.Test.YtakancljiekbhaaConA
set_option linter.all false
set_option maxRecDepth 100000
namespace Go.Hx
theorem aB.CD {lo:Nat}{H:AHeap}{e:TypeId}{v:AVal}{cs:List AVal}(h:aB lo H e v cs){k:Nat}(hk:k<lo):∀ g n,v≠.own k g 0 n 1:=fun g n he=>by
 rcases h with ⟨h,_⟩|⟨id,g',a,_,h,_⟩
 ·rw[h]at he;cases he
 ·rw[h]at he;have:=(AVal.own.inj he).1;omega
end Go.Hx
namespace Go.Proofs
open Go.Hx
theorem CE {r:Nat->Int}{M:Nat->Bool}:∀ m,(∃ j,j<m/\M j=false)->∃ b,b<m/\M b=false/\∀ j,j<m->M j=false->j≠b->before r b j
 | 0,⟨j,h,_⟩=>absurd h (RV _)
 | m+1,⟨j,hj,hM⟩=>by
  by_cases hex:∃ j,j<m/\M j=false
  ·obtain⟨b,hb,hMb,hmin⟩:=CE m hex;cases hm:M m with
   | true=>exact⟨b,by omega,hMb,fun j hj h1 h2=>hmin j (by have:j≠m:=(by rintro rfl;rw[hm]at h1;cases h1);omega) h1 h2⟩
   | false =>
    by_cases hlt:r b<r m
    ·refine⟨m,by omega,hm,fun j hj h1 h2=>?_⟩;have hjm:j<m:=(by omega);by_cases hjb:j=b
     ·subst hjb;exact .inl hlt
     ·have:=hmin j hjm h1 hjb;unfold before at this ⊢;omega
    ·refine⟨b,by omega,hMb,fun j hj h1 h2=>?_⟩;by_cases hjm:j=m
     ·subst hjm;unfold before;omega
     ·exact hmin j (by omega) h1 h2
  ·have:j=m:=by
    refine Se fun h=>hex ⟨j,by omega,hM⟩
   subst this;exact⟨j,by omega,hM,fun i hi h1 h2=>absurd ⟨i,by omega,h1⟩ hex⟩
theorem Top.some {r:Nat->Int}{n k:Nat}{M:Nat->Bool}(h:Top r n k M)(hk:k<n):∃ j,j<n/\M j=false:=by
 refine Se fun hno=>?_;have:=h.count;have e:(List.range n).countP M=(List.range n).length:=Ty.2 fun x hx=>by
  rcases Sh (M x) with e|e
  ·exact e
  ·exact absurd ⟨x,RK.1 hx,e⟩ hno
 rw[e,Sn]at this;omega
theorem Top.ex (r:Nat->Int)(n:Nat):∀ k,k<=n->∃ M,Top r n k M
 | 0,_=>⟨_,.zero⟩
 | k+1,h=>by
  obtain⟨M,hM⟩:=Top.ex r n k (by omega);obtain⟨b,hb,hMb,hmin⟩:=CE (r:=r) n (hM.some (by omega));exact⟨_,hM.step hb hMb hmin⟩
theorem qY (least sp:Int){c:List Int}(h:0<c.length):∃ s,eM least sp c s:=by
 have:=yo (sp:=sp) h;obtain⟨M,hM⟩:=Top.ex (cH sp c) c.length (fg sp c).toNat (by omega);exact⟨_,M,hM,rfl⟩
end Go.Proofs
namespace Go.Hx
theorem ae.fin {P:Program}{G:Nat->Option (List AVal)}{f:FuncId}{args:List AVal}{H:AHeap}{K:ARes->AHeap->Prop}(h:ae P G f args H fun r H'=>∃ v,r=.ret v/\av P G H K v H'):ae P G f args H K:=by
 refine⟨h.1,fun Γ w cargs R hr=>(h.2 Γ w cargs R hr).mono ?_⟩;rintro e w' ⟨r,H',Γ',hend,⟨v,rfl,v',H2,hw,hn2,hk⟩,R',E,hn⟩;obtain⟨Γ2,R2,E2,hv⟩:=hw Γ' w' R';refine⟨.ret v',H2,Γ2,?_,hk,R2,E.trans hn E2,hn2⟩;cases e with
 | returned cv=>exact hv cv hend
 | _=>exact hend.elim
end Go.Hx
namespace Go.Proofs
open Go.Hx
open Classical in
noncomputable def jF (least sp:Int)(c:List Int):List Int:=if h:∃ s,eM least sp c s then h.choose else []
theorem kI {least sp:Int}{c s:List Int}(h:eM least sp c s):s=jF least sp c:=by
 have hex:∃ s,eM least sp c s:=⟨s,h⟩
 unfold jF;rw[dif_pos hex];exact h.unique hex.choose_spec
def gY (c:List Int)(grain least:Int):Prop:=(1<=c.length/\c.length<=1024)/\(∀ x∈c,0<=x/\x<=1099511627776)/\(1<=grain/\grain<=720)/\0<=least/\least*c.length<=grain
noncomputable def re (c:List Int)(grain least:Int):Bool:=@decide (gY c grain least) (Classical.propDecidable _)
theorem CT {c:List Int}{grain least:Int}(h:gY c grain least):re c grain least=true:=by unfold re;exact @decide_eq_true _ (Classical.propDecidable _) h
theorem Ph {c:List Int}{grain least:Int}(h:¬ gY c grain least):re c grain least=false:=by unfold re;exact @decide_eq_false _ (Classical.propDecidable _) h
noncomputable def ug (c:List Int)(grain least:Int):AVal:=if re c grain least then .tup [ab (jF least (bJ grain least c) c),aa 0] else .tup [ab [],aa 2]
theorem gY.le {c:List Int}{grain least:Int}(h:gY c grain least):least<=720:=by
 obtain⟨h1,_,h3,h4,h5⟩:=h;have:least*1<=least*c.length:=Sd (by omega) h4;omega
theorem Pi {c:List Int}{grain least:Int}{n:Nat}(hn:c.length=n)(hl:n<2 ^ 40)(hbad:¬ gY c grain least)(H:AHeap)(K:ARes->AHeap->Prop)(hK:K (.ret (.tup [ab [],aa 2])) H):
  ae Try.prog G0 48 [.vec n (ints c),aa grain,aa least] H K:=by
 refine ae.clo ⟨_,Try.func48,rfl,rfl⟩ fun hcl=>?_;have fin:av Try.prog G0 H K (.tup [.lit (.slice none 0 0),aa 2]) H:=av.cK (v':=.tup [ab [],aa 2]) aZ hcl (.refl _) (.tup rfl fun i hi _=>match i,hi with
  | 0,_=>.nil
  | 1,_=>.lit _) hK
 have hil:=bO c;rw[hn]at hil;refine ae.cX (n:=144) (rs:=[.tmp 6,.tmp 7]) Try.func48 rfl rfl rfl (by decide) (by simp) ?_;refine W.sq ?_;simp only[go_sem];by_cases b1:(n:Int)<1
 ·refine W.sq ?_;simp only[go_sem,b1];exact fin
 by_cases b2:(n:Int) > 1024
 ·refine W.sq ?_;simp only[go_sem,b1,b2];exact fin
 refine W.sq ?_;simp only[go_sem,b1,b2];refine W.sq ?_;simp only[go_sem];refine W.sq ?_;simp only[go_sem];refine W.en (fun E=>E 0=.vec n (ints c) /\ E 1=aa grain /\ E 2=aa least /\ E 8=aa 0 /\ E 30=.vec n (ints c) /\ E 31=aa n /\ E 32=aa 0) (by simp only[go_sem]) fun E ⟨e0,e1,e2,e8,e30,e31,e32⟩=>?_
 refine W.aI 70364449211840 (by rfl) (fun ρ Hx=>Hx=H/\∃ i:Nat,ρ 32=aa i/\i<=n/\(∀ x∈c.take i,0<=x/\x<=1099511627776)/\ρ 8=aa (c.take i).sum) (fun ρ Hx=>n - (iv (ρ 32)).toNat) ?_ ?_
 ·exact⟨rfl,0,e32,by omega,fun x h=>by simp at h,e8⟩
 rintro ρ Hx ⟨hHx,i,h32,hi,hok,h8⟩;rw[hHx];refine W.en (fun E1=>E1 0=.vec n (ints c) /\ E1 1=aa grain /\ E1 2=aa least /\ E1 8=aa (c.take i).sum /\ E1 30=.vec n (ints c) /\ E1 31=aa n /\ E1 32=aa i) (by simp only[go_sem,e0,e1,e2,h8,e30,e31,h32]) fun E1 ⟨f0,f1,f2,f8,f30,f31,f32⟩=>?_
 by_cases hb:(i:Int)<n
 ·obtain⟨x,hx⟩:=get_of_lt (l:=c) (i:=i) (by omega);have hxn:=aK hx;by_cases x1:x<0
  ·refine W.vs ?_;simp only[go_sem,f30,f31,f32,hb,hx,hxn,x1];exact fin
  by_cases x2:x > 1099511627776
  ·refine W.vs ?_;simp only[go_sem,f30,f31,f32,hb,hx,hxn,x1,x2];exact fin
  have hsr:=CS (c:=c.take i) hok i;have htl:((c.take i).take i).length<=1024:=by rw[RH,RH];omega
  rw[Un,Nat.min_self]at hsr htl;have w1:=Rw ((c.take i).sum+x) (by omega);have w2:=Rw ((i:Int)+1) (by omega);refine W.vs ?_;simp only[go_sem,f8,f30,f31,f32,hb,hx,hxn,x1,x2,w1,w2];refine⟨⟨i+1,rfl,by omega,fun y hy=>?_,by rw[CR hx]⟩,by rw[h32];simp only[aa,aM];omega⟩;rw[aP hx]at hy;rcases RX.1 hy with h|h
  ·exact hok y h
  ·rw[List.mem_singleton.1 h];omega
 have hin:i=n:=by omega
 rw[hin,<- hn,TD]at hok;refine W.vs ?_;simp only[go_sem,f31,f32,hb];by_cases g1:grain<1
 ·refine W.sq ?_;simp only[go_sem,f1,g1];exact fin
 by_cases g2:grain > 720
 ·refine W.sq ?_;simp only[go_sem,f1,g1,g2];exact fin
 by_cases g3:least<0
 ·refine W.sq ?_;simp only[go_sem,f1,f2,g1,g2,g3];exact fin
 have gn:¬ (n:Int)=0:=by omega
 have gt:grain.tdiv n=grain / n:=Sj (by omega);have gw:=Rw (grain / n) (by have:=Tt (a:=grain) (b:=n) (by omega) (by omega);have:=TF (a:=grain) n (by omega);omega);have g4:least > grain / n:=by
  refine Se fun h=>hbad ?_;have:=(Tw (show (0:Int)<n by omega)).1 (Int.not_lt.1 h);exact⟨by omega,hok,by omega,by omega,by rw[hn];exact this⟩
 refine W.sq ?_;simp only[go_sem,f0,f1,f2,g1,g2,g3,gn,gt,gw,g4];exact fin
theorem Pj {H0 H':AHeap}{v:AVal}{s:List Int}(h:aB H0.next H' 3 v (ints s)):Fz (fun id=>H0.next<=id) H' H0.next (.tup [v,aa 0]) (.tup [ab s,aa 0]):=.tup rfl fun i hi _=>match i,hi with
 | 0,_=>h.qq fun i h=>h
 | 1,_=>.lit _
theorem Pk {c:List Int}{grain least:Int}(hl:c.length<2 ^ 40)(H:AHeap)(K:ARes->AHeap->Prop)(hK:K (.ret (ug c grain least)) H):
  ae Try.prog G0 48 [ab c,aa grain,aa least] H K:=by
 by_cases h:gY c grain least
 ·have h7:=h.le;obtain⟨h1,h2,h3,h4,h5⟩:=id h;unfold ug at hK;rw[CT h,RC rfl]at hK;refine ae.clo ⟨_,Try.func48,rfl,rfl⟩ fun hcl=>ae.fin (xZ rfl h1.1 h1.2 h2 h3 ⟨h4,h7⟩ H _ (fun hlt=>absurd h5 (by omega)) fun s v H' _ hs ho hv=>⟨_,rfl,av.cK aZ hcl ho (Pj hv) ?_⟩);rw[kI hs];exact hK
 ·unfold ug at hK;rw[Ph h,RB (by decide)]at hK;exact Pi rfl hl h H K hK
theorem Ms {n:Nat}{D:Nat->Bool}{f:Nat->Int}(h:∀ v,v<n->1<=f v):1<=dc n D f/\dc n D f<=aw ((List.range n).map f):=by
 induction n with
 | zero=>exact⟨Int.le_refl 1,Int.le_refl 1⟩
 | succ n ih =>
  obtain⟨h1,h2⟩:=ih fun v hv=>h v (by omega);have hf:=h n (by omega);rw[tM,SN,SW,ui];have e:aw ([n].map f)=f n:=by simp [iw,gZ]
  rw[e];cases D n
  ·rw[RB (by decide),UT];exact⟨h1,Vd h2 (by have:=Sd hf (show 0<=aw ((List.range n).map f) by omega);omega)⟩
  ·rw[RC rfl];exact⟨by have:=SX h1 hf (by omega) (by omega);omega,Tk h2 (by omega)⟩
theorem Mt {n:Nat}(f:Nat->Int):∀ {l:List Nat},l.Nodup->(∀ v∈l,v<n)->dc n (fun v=>decide (v∈l)) f=aw (l.map f):=by
 intro l
 induction l with
 | nil=>intro _ _;rw[show (fun v=>decide (v∈([]:List Nat)))=fun _=>false from funext fun v=>by simp,Bp];rfl
 | cons a l ih =>
  intro hn hl;obtain⟨h1,h2⟩:=TY.1 hn;have ha:=hl a (by simp);rw[tO (D:=fun v=>decide (v∈l)) (v:=a) f (by simpa using h1) (by simp) (fun i hi=>by simp [hi]),RC ha,ih h2 fun v hv=>hl v (by simp [hv]),List.map_cons,iw,Te]
theorem Mu {g:Int}{ns:List NodeP}(h:NetOk g ns){v:Nat}{x:NodeP}(hx:ns[v]?=some x):(v:Int) ∉ x.parents:=by
 intro hm;have ha:=h.acyc v (by rw[qK];exact get_lt hx);rw[aO (mi hx)]at ha;have hpos:=fun q hq=>((h.node x (Ry hx)).2.2 q hq).1;have hb:(df x.parents).testBit v=true:=by rw[kh hpos];exact RN hm
 have:=uo (aT ns) (aT ns).length (df x.parents) v hb;unfold g9 at ha;rw[ha]at this;cases this
theorem qL {g:Int}{ns:List NodeP}(h:NetOk g ns){v:Nat}{x:NodeP}(hx:ns[v]?=some x):1<=(x.rows.length:Int)*x.card/\(x.rows.length:Int)*x.card<=1024:=by
 have hxm:=Ry hx;obtain⟨hpw,hpr⟩:=(h.node x hxm).2;have hl:(x.parents.map Int.toNat).Nodup:=by
  refine UL.2 (hpw.imp_of_mem fun {a b} ha hb hab=>?_);have:=(hpr a ha).1;omega
 have hno:=Mu h hx;have hn2:(v :: x.parents.map Int.toNat).Nodup:=TY.2 ⟨fun hm=>by
  obtain⟨q,hq,hqv⟩:=RI.1 hm;exact hno (by rw[<- hqv,Sw (hpr q hq).1];exact hq),hl⟩
 have hr2:∀ u∈(v :: x.parents.map Int.toNat),u<ns.length:=fun u hu=>by
  rcases List.mem_cons.1 hu with rfl|hu
  ·exact get_lt hx
  ·obtain⟨q,hq,rfl⟩:=RI.1 hu;have:=hpr q hq;omega
 have e:=Mt (fun u=>(ah ns).getD u 0) hn2 hr2;have hge:=Ms (n:=ns.length) (D:=fun u=>decide (u∈v :: x.parents.map Int.toNat)) (f:=fun u=>(ah ns).getD u 0) fun u hu=>by
  obtain⟨y,hy⟩:=get_of_lt hu;show 1<=(ah ns).getD u 0;rw[aO (bX hy)];exact(h.node y (Ry hy)).1.1
 rw[e,Bs,List.map_cons,iw,Uk]at hge;have e2:aw (x.parents.map ((fun u=>(ah ns).getD u 0) ∘ Int.toNat))=aw (aN ns x):=rfl;rw[e2,aO (bX hx),<- (h.rows x hxm).1,Te]at hge;have:=h.size;omega
def dL (l:List Int)(i:Nat)(d:Int):List Int:=l.set i (l.getD i 0+d)
theorem tS (l:List Int)(i:Nat)(d:Int):(dL l i d).length=l.length:=by simp [dL]
theorem xC {l:List Int}{i:Nat}(h:i<l.length)(d:Int):(dL l i d).sum=l.sum+d:=by
 induction l generalizing i with
 | nil=>simp at h
 | cons a l ih =>
  cases i with
  | zero=>simp [dL];omega
  | succ i =>
   have:=ih (i:=i) (by simpa using h);unfold dL at this ⊢;simp only[List.set_cons_succ,RZ,List.getD_cons_succ,this];omega
theorem Mv {l:List Int}(h:∀ x∈l,0<=x)(i:Nat){d:Int}(hd:0<=d):∀ x∈dL l i d,0<=x:=fun x hx=>by
 rcases SO hx with hx|rfl
 ·exact h x hx
 ·rw[RE];cases hy:l[i]? with
  | none=>simpa using hd
  | some y=>have:=h y (Ry hy);simp;omega
def dD (ns:List NodeP)(x:NodeP)(v:Nat)(w:List Int):Int:=dG (aN ns x) (aA w x.parents)*x.card+w.getD v 0
def kD (ns:List NodeP)(x:NodeP)(v:Nat)(s w:List Int):List Int:=dL s (dD ns x v w).toNat (weight ns w)
def fu (ns:List NodeP)(x:NodeP)(v:Nat)(ws:List (List Int)):List Int:=ws.foldl (kD ns x v) (List.replicate (x.rows.length*x.card.toNat) 0)
theorem Mw (ns:List NodeP)(x:NodeP)(v:Nat)(ws:List (List Int))(w:List Int):fu ns x v (ws++[w])=kD ns x v (fu ns x v ws) w:=by unfold fu;rw[SZ];rfl
theorem qM {g:Int}{ns:List NodeP}(h:NetOk g ns){v:Nat}{x:NodeP}(hx:ns[v]?=some x){w:List Int}(hw:bE (ah ns) w):0<=dD ns x v w/\dD ns x v w<x.rows.length*x.card:=by
 have hxm:=Ry hx;have hin:iE x.parents ns.length:=fun q hq=>by have:=(h.node x hxm).2.2 q hq;omega
 have h1:=np (rq hin hw);obtain⟨a,ha⟩:=get_of_lt (l:=w) (i:=v) (by rw[hw.1,bA];exact get_lt hx);have h2:=hw.2 v x.card a (bX hx) ha;have hl:=(h.rows x hxm).1;unfold dD;rw[aO ha];have hc:=(h.node x hxm).1;have m1:0<=dG (aN ns x) (aA w x.parents)*x.card:=SD h1.1 (by omega);have m2:(dG (aN ns x) (aA w x.parents)+1)*x.card<=x.rows.length*x.card:=Tk (by omega) (by omega);rw[Uq]at m2;omega
theorem qN {g:Int}{ns:List NodeP}(h:NetOk g ns){v:Nat}{x:NodeP}(hx:ns[v]?=some x)(ws:List (List Int))(hw:∀ w∈ws,bE (ah ns) w):
  ((fu ns x v ws).length:Int)=x.rows.length*x.card/\(∀ y∈fu ns x v ws,0<=y)/\(fu ns x v ws).sum=(ws.map (weight ns)).sum:=by
 have hc:=(h.node x (Ry hx)).1;have key:∀ (l:List (List Int)) (s:List Int),(∀ w∈l,bE (ah ns) w)->(s.length:Int)=x.rows.length*x.card->(∀ y∈s,0<=y) ->
   ((l.foldl (kD ns x v) s).length:Int)=x.rows.length*x.card/\(∀ y∈l.foldl (kD ns x v) s,0<=y)/\(l.foldl (kD ns x v) s).sum=s.sum+(l.map (weight ns)).sum:=by
  intro l
  induction l with
  | nil=>intro s _ h1 h2;exact⟨h1,h2,by simp⟩
  | cons w l ih =>
   intro s hl h1 h2;have hp:=qM h hx (hl w (by simp));have hwt:=tP h (hl w (by simp));obtain⟨a,b,c⟩:=ih (kD ns x v s w) (fun w' h'=>hl w' (by simp [h'])) (by unfold kD;rw[tS];exact h1) (Mv h2 _ hwt.1);refine⟨a,b,?_⟩;rw[SK,c];unfold kD;rw[xC (by omega),List.map_cons,RZ];omega
 have e:((List.replicate (x.rows.length*x.card.toNat) (0:Int)).length:Int)=x.rows.length*x.card:=by
  rw[S7,Tj,Sw (by omega)]
 obtain⟨a,b,c⟩:=key ws _ hw e fun y hy=>by rw[S8 hy];exact Int.le_refl _
 refine⟨a,b,?_⟩;unfold fu;rw[c];have:(List.replicate (x.rows.length*x.card.toNat) (0:Int)).sum=0:=by rw[T2];simp
 omega
theorem Mx {α:Type}(f:α->Int)(p:α->Bool)(l:List α)(h:∀ a∈l,0<=f a):((l.filter p).map f).sum<=(l.map f).sum:=by
 induction l with
 | nil=>simp
 | cons a l ih =>
  have h1:=h a (by simp);have h2:=ih fun b hb=>h b (by simp [hb]);rw[List.filter_cons];split
  ·simp only[List.map_cons,RZ];omega
  ·simp only[List.map_cons,RZ];omega
theorem My {g:Int}{ns:List NodeP}(h:NetOk g ns)(h6:ns.length<=6){r:List Int}(hr:r.length=ns.length):dJ ns r<=46656000000:=by
 unfold dJ;rw[tL (by rw[hr,bA])];refine Vd (Mx _ _ _ fun w hw=>(tP h (xu (gO h) hw)).1) ?_;rw[Mc h];have hg:=h.g1;obtain⟨k,rfl⟩:∃ k:Nat,g=k:=⟨g.toNat,by omega⟩
 have a1:k ^ ns.length<=60 ^ ns.length:=Nat.pow_le_pow_left (by omega) _;have a2:(60:Nat) ^ ns.length<=60 ^ 6:=R8 (by decide) h6;have a3:(60:Nat) ^ 6=46656000000:=by decide
 rw[<- Int.natCast_pow];omega
noncomputable def gQ (c:List Int):List Int:=jF 0 (bJ 720 0 c) c
def iU (ns:List NodeP)(x:NodeP)(v:Nat)(r:List Int):List Int:=fu ns x v (cF (ah ns) r)
def fw (a b:List Int):List Int:=List.zipWith (·+·) a b
noncomputable def bI (ns:List NodeP)(x:NodeP)(v:Nat)(xs:List (List Int)):List Int:=xs.foldl (fun s r=>fw s (gQ (iU ns x v r))) (List.replicate (x.rows.length*x.card.toNat) 0)
theorem xD (ns:List NodeP)(x:NodeP)(v:Nat)(xs:List (List Int))(r:List Int):bI ns x v (xs++[r])=fw (bI ns x v xs) (gQ (iU ns x v r)):=by unfold bI;rw[SZ];rfl
theorem xE {g:Int}{ns:List NodeP}(h:NetOk g ns)(h6:ns.length<=6){v:Nat}{x:NodeP}(hx:ns[v]?=some x){r:List Int}(hr:r.length=ns.length):gY (iU ns x v r) 720 0:=by
 have hl:=qL h hx;obtain⟨a,b,c⟩:=qN h hx (cF (ah ns) r) fun w hw=>mU (gO h) (by rw[hr,bA]) hw;have hm:=My h h6 hr;have hs:(iU ns x v r).sum=dJ ns r:=c;refine⟨by unfold iU;omega,fun y hy=>⟨b y hy,?_⟩,by omega,by omega,by omega⟩;have:=pz (l:=iU ns x v r) b y hy;omega
theorem xF {c:List Int}(h:gY c 720 0):eM 0 (bJ 720 0 c) c (gQ c)/\(gQ c).length=c.length/\(gQ c).sum=720/\∀ x∈gQ c,0<=x/\x<=720:=by
 obtain⟨s,hs⟩:=qY 0 (bJ 720 0 c) (c:=c) (by have:=h.1;omega);have e:gQ c=s:=(kI hs).symm;rw[e];have h1:=Qg (by have:=h.1;omega) hs;have h2:=Qh (fun x hx=>(h.2.1 x hx).1) (by have:=h.1;omega) (by unfold bJ;omega) hs;refine⟨hs,h1.1,h1.2,fun x hx=>⟨h2 x hx,?_⟩⟩;have:=pz h2 x hx;omega
theorem BH {a b:List Int}(h:a.length=b.length):(fw a b).length=a.length:=by simp [fw,h]
theorem Mz {a b:List Int}{m n:Int}(ha:∀ x∈a,0<=x/\x<=m)(hb:∀ x∈b,0<=x/\x<=n):∀ x∈fw a b,0<=x/\x<=m+n:=fun x hx=>by
 obtain⟨i,hi⟩:=List.getElem?_of_mem hx;unfold fw at hi;rw[Va]at hi;cases h1:a[i]? with
 | none=>rw[h1]at hi;simp at hi
 | some y =>
  cases h2:b[i]? with
  | none=>rw[h1,h2]at hi;simp at hi
  | some z =>
   rw[h1,h2]at hi;simp only[Option.some.injEq]at hi;have:=ha y (Ry h1);have:=hb z (Ry h2);omega
theorem oS {g:Int}{ns:List NodeP}(h:NetOk g ns)(h6:ns.length<=6){v:Nat}{x:NodeP}(hx:ns[v]?=some x)(xs:List (List Int))(hr:∀ r∈xs,r.length=ns.length):
  ((bI ns x v xs).length:Int)=x.rows.length*x.card/\∀ y∈bI ns x v xs,0<=y/\y<=720*xs.length:=by
 have hc:=(h.node x (Ry hx)).1;have key:∀ k,k<=xs.length->((bI ns x v (xs.take k)).length:Int)=x.rows.length*x.card/\∀ y∈bI ns x v (xs.take k),0<=y/\y<=720*k:=by
  intro k
  induction k with
  | zero =>
   intro _;refine⟨?_,fun y hy=>?_⟩
   ·show ((List.replicate (x.rows.length*x.card.toNat) (0:Int)).length:Int)=_;rw[S7,Tj,Sw (by omega)]
   ·have hy':y∈List.replicate (x.rows.length*x.card.toNat) (0:Int):=hy;rw[S8 hy'];simp
  | succ k ih =>
   intro hk;obtain⟨r,hrk⟩:=get_of_lt (l:=xs) (i:=k) (by omega);have hrl:=hr r (Ry hrk);obtain⟨h1,h2⟩:=ih (by omega);have hp:=xE h h6 hx hrl;obtain⟨_,h4,_,h5⟩:=xF hp;obtain⟨a,_,_⟩:=qN h hx (cF (ah ns) r) fun w hw=>mU (gO h) (by rw[hrl,bA]) hw;have a':((iU ns x v r).length:Int)=x.rows.length*x.card:=a;rw[aP hrk,xD];refine⟨by rw[BH (by omega)];exact h1,fun y hy=>?_⟩;have:=Mz h2 h5 y hy;omega
 have:=key xs.length (Nat.le_refl _);rw[TD]at this;exact this
set_option maxHeartbeats 1000000 in
theorem B4 (cs:List Int)(xs:List (List Int))(hf:j9 cs xs)(H:AHeap)(K:ARes -> AHeap -> Prop)(hK:K (.ret (aa (if fW cs xs then 0 else 250))) H):ae Try.prog G0 62 [dM cs xs] H K := by
  refine ae.clo ⟨_, Try.func62, rfl, rfl⟩ fun hcl => ?_;have no:¬ DataOk cs xs -> ∀ H', Over H H' -> av Try.prog G0 H K (aa 250) H' := fun h H' ov => av.cK aZ hcl ov (.lit _) (by rw[Nv h]at hK; exact hK);obtain⟨f1, f2, f3⟩ := hf;refine ae.bH (n := 80) (rs := [.tmp 2]) Try.func62 rfl rfl rfl (by decide) (by kernel_rfl) (by simp) ?_;simp only[go_sem, dM, aH, cb];obtain⟨H1, hH1⟩:∃ H1, H1 = ext H [.arr 0 42 [.vec cs.length (ints cs), .vec xs.length (xs.map ab)]] := ⟨_, rfl⟩
  have l1:H1.live H.next 0 = some (42, [.vec cs.length (ints cs), .vec xs.length (xs.map ab)]) := by rw[hH1]; exact ao (dV ..)
  have o1:Over H H1 := by rw[hH1]; exact .ext _ _
  rw[<- hH1];by_cases c1:(cs.length:Int) < 1
  · simp only[go_sem, l1, c1, jL, cb];exact no (fun h => by have := h.c1; omega) _ o1
  by_cases c2:(cs.length:Int) > 6
  · simp only[go_sem, l1, c1, c2, jL, cb];exact no (fun h => by have := h.c1; omega) _ o1
  by_cases c3:(xs.length:Int) > 40
  · simp only[go_sem, l1, c1, c2, c3, jL, cb];exact no (fun h => by have := h.x1; omega) _ o1
  simp only[go_sem, l1, c1, c2, c3, jL, cb];refine W.aI 17591112302636 (by rfl) (fun ρ H' => H' = H1 /\ ∃ k:Nat, ρ 30 = aa k /\ k <= cs.length /\ (∀ c ∈ cs.take k, 2 <= c /\ c <= 4) /\ ρ 3 = aa (aw (cs.take k))) (fun ρ H => cs.length - (iv (ρ 30)).toNat) ?_ ?_
  · simp only[go_sem, cb];exact⟨0, rfl, by omega, by simp, by simp [gZ]⟩
  rintro ρ H' ⟨rfl, k, h30, hk, hall, h3⟩;refine W.vs ?_;by_cases hb:(k:Int) < cs.length
  · obtain⟨c, hc⟩ := get_of_lt (l := cs) (i := k) (by omega);have hne := aK hc;have hcm := Ry hc;by_cases d1:c < 2
    · simp only[go_sem, h30, hb, hne, hc, d1, jL, cb];exact no (fun h => by have := h.card c hcm; omega) _ o1
    by_cases d2:c > 4
    · simp only[go_sem, h30, hb, hne, hc, d1, d2, jL, cb];exact no (fun h => by have := h.card c hcm; omega) _ o1
    have hall':∀ y ∈ cs.take (k + 1), 2 <= y /\ y <= 4 := fun y hy => by
      rw[aP hc]at hy;rcases RX.1 hy with hy | hy
      · exact hall y hy
      · obtain rfl := List.mem_singleton.1 hy; omega
    have b1 := xK hall' (by simp; omega);rw[aP hc, iZ]at b1;have w1 := Rw ((k:Int) + 1) (by omega);have w2 := Rw (aw (cs.take k) * c) (by omega);simp only[go_sem, h30, h3, hb, hne, hc, d1, d2, w1, w2, jL, cb];exact⟨⟨k + 1, rfl, by omega, hall', by rw[aP hc, iZ]⟩, by omega⟩
  rw[RA (by omega)]at hall h3;by_cases c4:aw cs > 1024
  · simp only[go_sem, h30, h3, hb, c4, cb];exact no (fun h => by have := h.size; omega) _ o1
  simp only[go_sem, h30, h3, hb, c4, l1, cb];refine W.aI 604462909244364633933632 (by rfl) (fun ρ Ha => Ha = H' /\ ∃ k:Nat, ρ 49 = aa k /\ k <= xs.length /\ (∀ r ∈ xs.take k, mZ cs r) /\ ρ 6 = aa 0) (fun ρ H => xs.length - (iv (ρ 49)).toNat) ?_ ?_
  · simp only[go_sem, cb];exact⟨0, rfl, by omega, by simp⟩
  rintro ρ' Ha ⟨rfl, i, h49, hi, hrows, h6⟩;refine W.vs ?_;by_cases hb2:(i:Int) < xs.length;rotate_left
  · simp only[go_sem, h49, h6, hb2, cb];rw[RA (by omega)]at hrows;rw[tY ⟨by omega, by omega, hall, by omega, hrows⟩]at hK;exact av.cK aZ hcl o1 (.lit _) hK
  obtain⟨r, hr⟩ := get_of_lt (l := xs) (i := i) (by omega);have hrm := Ry hr;have hr' := o0 hr;have hrn := aK hr';by_cases hl:(r.length:Int) = cs.length;rotate_left
  · simp only[go_sem, h49, hb2, hr', hrn, l1, hl, cb];exact no (fun h => hl (by have := (h.row r hrm).1; omega)) _ o1
  simp only[go_sem, h49, h6, hb2, hr', hrn, l1, hl, cb];refine W.aI 302229149060648079984192 (by rfl) (fun ρ2 Hb => Hb = Ha /\ ∃ j:Nat, ρ2 61 = aa j /\ j <= r.length /\ (∀ (v:Nat) (c x:Int), v < j -> cs[v]? = some c -> r[v]? = some x -> -1 <= x /\ x < c) /\ ρ2 6 = aa 0) (fun ρ2 H => r.length - (iv (ρ2 61)).toNat) ?_ ?_
  · simp only[go_sem, h6, cb];exact⟨0, rfl, by omega, fun v _ _ h => by omega⟩
  rintro ρ2 Hb ⟨rfl, j, h61, hj, hin, h6'⟩;refine W.vs ?_;have w1 := Rw ((i:Int) + 1) (by omega);by_cases hb3:(j:Int) < cs.length
  · obtain⟨x, hx⟩ := get_of_lt (l := r) (i := j) (by omega);obtain⟨c, hc⟩ := get_of_lt (l := cs) (i := j) (by omega);have hxn := aK hx;have hcn := aK hc;by_cases d1:x < -1
    · simp only[go_sem, h61, hb3, hl, hx, hxn, d1, jL, cb];exact no (fun h => by have := (h.row r hrm).2 j c x hc hx; omega) _ o1
    by_cases d2:x >= c
    · simp only[go_sem, h61, hb3, hl, hx, hxn, hc, hcn, l1, d1, d2, jL, cb];exact no (fun h => by have := (h.row r hrm).2 j c x hc hx; omega) _ o1
    have w2 := Rw ((j:Int) + 1) (by omega);simp only[go_sem, h61, h6', hb3, hl, hx, hxn, hc, hcn, l1, d1, d2, w2, jL, cb];refine⟨⟨j + 1, rfl, by omega, fun v c' x' hv h1 h2 => ?_⟩, by omega⟩;rcases RP v j with h | h
    · exact hin v c' x' h h1 h2
    · obtain rfl:v = j :=(by omega);rw[hc]at h1; rw[hx]at h2;cases h1; cases h2; omega
  · simp only[go_sem, h61, h6', h49, hb3, hl, w1, cb];refine⟨⟨i + 1, rfl, by omega, fun q hq => ?_⟩, by omega⟩;rw[aP hr]at hq;rcases RX.1 hq with hq | hq
    · exact hrows q hq
    · obtain rfl := List.mem_singleton.1 hq;exact .of (by omega) fun v c x hv => hin v c x (by omega)
theorem Mp (l:List Int)(v:Int)(hl:(l.length:Int)<2 ^ 62)(H:AHeap)(K:ARes->AHeap->Prop)(hK:∀ i:Int,(0<=i↔v∈l)->K (.ret (aa i)) H):ae Try.prog G0 87 [ab l,aa v] H K:=by
 refine ae.bH (n:=19) (rs:=[.tmp 4]) Try.func87 rfl rfl rfl (by decide) (by kernel_rfl) (by simp) ?_;simp only[go_sem];refine W.aI 524080 (by rfl) (fun ρ H'=>H'=H/\∃ k:Nat,ρ 8=aa k/\k<=l.length/\∀ j,j<k->∀ b,l[j]?=some b->b≠v) (fun ρ H=>l.length - (iv (ρ 8)).toNat) ?_ ?_
 ·simp only[go_sem];exact⟨0,rfl,by omega,fun j h=>absurd h (RV _)⟩
 rintro ρ H' ⟨rfl,k,h8,hk,hno⟩;refine W.vs ?_;by_cases hb:(k:Int)<l.length
 ·obtain⟨b,hkb⟩:=get_of_lt (l:=l) (i:=k) (by omega);have hne:=aK hkb;have w1:=Rw ((k:Int)+1) (by omega);by_cases he:v=b
  ·subst he;simp only[go_sem,h8,hb,hkb,hne];exact av.mk (Nat.le_refl _) (hK k ⟨fun _=>Ry hkb,fun _=>by omega⟩)
  ·simp only[go_sem,h8,hb,hkb,hne,he,w1];exact⟨⟨k+1,by simp,by omega,fun j hj b' hb'=>by
    by_cases hjk:j=k
    ·subst hjk;rw[hkb]at hb';cases hb';exact fun h=>he h.symm
    ·exact hno j (by omega) b' hb'⟩,by omega⟩
 ·simp only[go_sem,h8,hb];refine av.mk (Nat.le_refl _) (hK (-1) ⟨fun h=>absurd h (by decide),fun hv=>?_⟩);obtain⟨j,hj⟩:=RW.1 hv;exact absurd rfl (hno j (by have:=get_lt hj;omega) v hj)
theorem Mq (l:List Int)(v:Int)(hl:(l.length:Int)<2 ^ 62)(H:AHeap)(K:ARes->AHeap->Prop)(hK:K (.ret (.lit (.bool (decide (v∈l))))) H):ae Try.prog G0 69 [ab l,aa v] H K:=by
 refine ae.bH (n:=9) (rs:=[.tmp 4]) Try.func69 rfl rfl rfl (by decide) (by kernel_rfl) (by simp) ?_;simp only[go_sem];refine az.clo (Mp l v hl H _ fun i hi=>⟨trivial,?_⟩);by_cases h0:0<=i
 ·simp only[go_sem,h0];rw[RN (hi.1 h0)]at hK;exact av.mk (Nat.le_refl _) hK
 ·simp only[go_sem,h0];rw[Sk fun h=>h0 (hi.2 h)]at hK;exact av.mk (Nat.le_refl _) hK
theorem BE (l:List Int)(hl:(l.length:Int)<2 ^ 62)(H:AHeap)(K:ARes->AHeap->Prop)(hK:K (.ret (.lit (.bool (decide ((0:Int)∈l))))) H):ae Try.prog G0 41 [ab l] H K:=by
 refine ae.bH (n:=5) (rs:=[.tmp 2]) Try.func41 rfl rfl rfl (by decide) (by kernel_rfl) (by simp) ?_;simp only[go_sem];refine az.clo (Mq l 0 hl H _ ⟨trivial,?_⟩);simp only[go_sem];exact av.mk (Nat.le_refl _) hK
def xB (p:Int × List NodeP):List AVal:=[aa p.1,.vec p.2.length (ar p.2)]
def dK (l:List (Int × List NodeP)):List AVal:=(l.map xB).flatten
theorem tR (l:List (Int × List NodeP)):(dK l).length=l.length*2:=nh (f:=xB) (fun _=>rfl) l
theorem BF {l:List (Int × List NodeP)}{i:Nat}{p:Int × List NodeP}(h:l[i]?=some p):((dK l).drop (i*2)).take 2=[aa p.1,.vec p.2.length (ar p.2)]:=pf (f:=xB) (z:=2) (fun _=>rfl) l i p h
theorem BG {l:List (Int × List NodeP)}{i:Nat}{p:Int × List NodeP}(h:l[i]?=some p):¬ dK l=[]:=fun e=>by
 have h1:=tR l;have h2:=get_lt h;rw[e,List.length_nil]at h1;omega
noncomputable def mV (l:List (Int × List NodeP))(cs:List Int)(xs:List (List Int)):Int:=if (∀ p∈l,iF p.1 p.2=true) then (if fW cs xs=true then (if ∀ p∈l,ah p.2=cs then 0 else 261) else 250) else 50
set_option maxHeartbeats 2000000 in
theorem Mr (l:List (Int × List NodeP))(cs:List Int)(xs:List (List Int))(hn:∀ p∈l,jd p.2)(hf:j9 cs xs)(hl4:l.length<=4)(H:AHeap)(K:ARes->AHeap->Prop)(hK:K (.ret (aa (mV l cs xs))) H):
  ae Try.prog G0 40 [dM cs xs,.vec l.length (dK l)] H K:=by
 refine ae.clo ⟨_,Try.func40,rfl,rfl⟩ fun hcl=>?_;refine ae.bH (n:=61) (rs:=[.tmp 4]) Try.func40 rfl rfl rfl (by decide) (by kernel_rfl) (by simp) ?_;simp only[go_sem,dM,aH];obtain⟨H1,hH1⟩:∃ H1,H1=ext H [.arr 0 42 [.vec cs.length (ints cs),.vec xs.length (xs.map ab)]]:=⟨_,rfl⟩
 have n1:H1.next=H.next+1:=by rw[hH1];rfl
 have o1:Over H H1:=by rw[hH1];exact .ext _ _
 have g1:H1.get H.next=some (.arr 0 42 [.vec cs.length (ints cs),.vec xs.length (xs.map ab)]):=by rw[hH1];exact cq
 rw[<- hH1];refine W.en (fun E=>E 1=.vec l.length (dK l) /\ E 2=.ptr H.next 0 0 /\ E 13=.vec l.length (dK l) /\ E 14=aa l.length /\ E 15=aa 0) (by simp only[go_sem]) fun E ⟨e1,e2,e13,e14,e15⟩=>?_
 refine W.aI 33521872 (by rfl) (fun ρ H'=>Over H1 H'/\∃ k:Nat,ρ 15=aa k/\k<=l.length/\∀ p∈l.take k,iF p.1 p.2=true) (fun ρ H=>l.length - (iv (ρ 15)).toNat) ?_ ?_
 ·exact⟨.refl _,0,e15,by omega,fun p h=>by simp at h⟩
 rintro ρ H' ⟨o2,k,h15,hk,hall⟩;have n2:=o2.next;refine W.en (fun F=>F 1=.vec l.length (dK l) /\ F 2=.ptr H.next 0 0 /\ F 13=.vec l.length (dK l) /\ F 14=aa l.length /\ F 15=aa k) (by simp only[go_sem,e1,e2,e13,e14,h15]) fun F ⟨f1,f2,f13,f14,f15⟩=>?_
 by_cases hb:(k:Int)<l.length
 ·obtain⟨p,hp⟩:=get_of_lt (l:=l) (i:=k) (by omega);have hpm:=Ry hp;have hne:=BG hp;have hpt:=BF hp;have hbd:k*2+2<=(dK l).length:=by rw[tR];omega
  have w1:=Rw ((k:Int)+1) (by omega);refine W.vs ?_;simp only[go_sem,f13,f14,f15,hb,hne,hpt,hbd];refine az.clo (QT p.1 p.2 (hn p hpm) _ _ ⟨trivial,?_⟩);cases hN:iF p.1 p.2
  ·simp only[go_sem];unfold mV at hK;rw[RB fun hh=>by rw[hh p hpm]at hN;cases hN]at hK;exact av.cK aZ hcl (o1.trans (o2.trans (.ext _ _))) (.lit _) hK
  ·simp only[go_sem,f15,w1];refine⟨by omega,⟨o2.trans (.ext _ _),k+1,rfl,by omega,fun q hq=>?_⟩,by rw[h15];simp only[aa,aM];omega⟩;rw[aP hp]at hq;rcases RX.1 hq with hq|hq
   ·exact hall q hq
   ·rw[List.mem_singleton.1 hq];exact hN
 rw[RA (by omega)]at hall;have l1:=ao ((o2.old H.next (by omega)).trans g1);refine W.vs ?_;simp only[go_sem,f2,f14,f15,hb,l1];refine az.clo (B4 cs xs hf _ _ ⟨trivial,?_⟩);unfold mV at hK;rw[RC hall]at hK;cases hD:fW cs xs
 ·simp only[go_sem];rw[RB (by rw[hD];decide)]at hK;exact av.cK aZ hcl (o1.trans o2) (.lit _) hK
 rw[RC hD]at hK;have no:∀ p,p∈l->ah p.2≠cs->∀ Hx,Over H Hx->av Try.prog G0 H K (aa 261) Hx:=fun p hp hne Hx ov=>by
  rw[RB fun hh=>hne (hh p hp)]at hK;exact av.cK aZ hcl ov (.lit _) hK
 simp only[go_sem,f1];refine W.en (fun E1=>E1 2=.ptr H.next 0 0 /\ E1 30=.vec l.length (dK l) /\ E1 31=aa l.length /\ E1 32=aa 0) (by simp only[go_sem,f2]) fun E1 ⟨k2,k30,k31,k32⟩=>?_
 refine W.aI 2305843004918733840 (by rfl) (fun ρ Hx=>Over H' Hx/\∃ k:Nat,ρ 32=aa k/\k<=l.length/\∀ p∈l.take k,ah p.2=cs) (fun ρ H=>l.length - (iv (ρ 32)).toNat) ?_ ?_
 ·exact⟨.refl _,0,k32,by omega,fun p h=>by simp at h⟩
 rintro ρ4 Hx ⟨o3,m,h32,hm,hcar⟩;have n3:=o3.next;refine W.en (fun F2=>F2 2=.ptr H.next 0 0 /\ F2 30=.vec l.length (dK l) /\ F2 31=aa l.length /\ F2 32=aa m) (by simp only[go_sem,k2,k30,k31,h32]) fun F2 ⟨m2,m30,m31,m32⟩=>?_
 by_cases hb2:(m:Int)<l.length;rotate_left
 ·refine W.vs ?_;simp only[go_sem,m31,m32,hb2];rw[RA (by omega)]at hcar;rw[RC hcar]at hK;exact av.cK aZ hcl (o1.trans (o2.trans o3)) (.lit _) hK
 obtain⟨p,hp⟩:=get_of_lt (l:=l) (i:=m) (by omega);obtain⟨g,ns⟩:=p;have hpm:=Ry hp;have hok:=DF.1 (hall _ hpm);have n8:1<=ns.length/\ns.length<=8:=hok.n1;have hne:=BG hp;have hpt:=BF hp;have hbd:m*2+2<=(dK l).length:=by rw[tR];omega
 have w1:=Rw ((m:Int)+1) (by omega);have lE:∀ L,(ext Hx L).live H.next 0=some (42,[.vec cs.length (ints cs),.vec xs.length (xs.map ab)]):=fun L=>ao ((dI _ _ _ (by omega)).trans ((o3.old H.next (by omega)).trans ((o2.old H.next (by omega)).trans g1)));by_cases hlen:(ns.length:Int)=cs.length;rotate_left
 ·refine W.vs ?_;simp only[go_sem,m2,m30,m31,m32,hb2,hne,hpt,hbd,lE,hlen];exact no _ hpm (fun hh=>hlen (by rw[<- hh];exact congrArg Int.ofNat (bA ns).symm)) _ ((o1.trans o2).trans (o3.trans (.ext _ _)))
 refine W.vs ?_;simp only[go_sem,m2,m30,m31,m32,hb2,hne,hpt,hbd,lE,hlen];obtain⟨Hy,hHy⟩:∃ Hy,Hy=ext Hx [.arr 0 35 [aa g,.vec ns.length (ar ns)]]:=⟨_,rfl⟩
 have oy:Over Hx Hy:=by rw[hHy];exact .ext _ _
 have ny:Hy.next=Hx.next+1:=by rw[hHy];rfl
 refine W.en (fun E3=>E3 2=.ptr H.next 0 0 /\ E3 30=.vec l.length (dK l) /\ E3 31=aa l.length /\ E3 32=aa m /\ E3 44=.vec ns.length (ar ns) /\ E3 45=aa ns.length /\ E3 46=aa 0) (by simp only[go_sem,m2,m30,m31,m32,hlen]) fun E3 ⟨p2,p30,p31,p32,p44,p45,p46⟩=>?_
 show W _ _ _ _ _ _ ⟨E3,ext Hx [.arr 0 35 [aa g,.vec ns.length (ar ns)]]⟩;rw[<- hHy];refine W.aI 1152851135862675472 (by rfl) (fun ρ Hz=>Over Hy Hz/\∃ v:Nat,ρ 46=aa v/\v<=ns.length/\(ah ns).take v=cs.take v) (fun ρ H=>ns.length - (iv (ρ 46)).toNat) ?_ ?_
 ·exact⟨.refl _,0,p46,by omega,rfl⟩
 rintro ρ5 Hz ⟨oz,v,h46,hv,he⟩;have nz:=oz.next;refine W.en (fun E4=>E4 2=.ptr H.next 0 0 /\ E4 30=.vec l.length (dK l) /\ E4 31=aa l.length /\ E4 32=aa m /\ E4 44=.vec ns.length (ar ns) /\ E4 45=aa ns.length /\ E4 46=aa v) (by simp only[go_sem,p2,p30,p31,p32,p44,p45,h46]) fun E4 ⟨q2,q30,q31,q32,q44,q45,q46⟩=>?_
 have cl:=bA ns;by_cases hb3:(v:Int)<ns.length;rotate_left
 ·refine W.vs ?_;simp only[go_sem,q32,q45,q46,hb3,w1];rw[RA (by omega),RA (by omega)]at he;refine⟨by omega,⟨o3.trans (oy.trans oz),m+1,rfl,by omega,fun q hq=>?_⟩,by rw[h32];simp only[aa,aM];omega⟩
  ·rw[aP hp]at hq;rcases RX.1 hq with hq|hq
   ·exact hcar q hq
   ·rw[List.mem_singleton.1 hq];exact he
 obtain⟨x,hx⟩:=get_of_lt (l:=ns) (i:=v) (by omega);obtain⟨c,hc⟩:=get_of_lt (l:=cs) (i:=v) (by omega);have hxn:=fZ hx;have hxp:=l9 hx;have hcn:=aK hc;have hbv:v*3+3<=(ar ns).length:=by rw[fY];omega
 have hvc:(v:Int)<cs.length:=by omega
 have w2:=Rw ((v:Int)+1) (by omega);have lF:∀ L,(ext Hz L).live H.next 0=some (42,[.vec cs.length (ints cs),.vec xs.length (xs.map ab)]):=fun L=>ao ((dI _ _ _ (by omega)).trans ((oz.old H.next (by omega)).trans ((oy.old H.next (by omega)).trans ((o3.old H.next (by omega)).trans ((o2.old H.next (by omega)).trans g1)))));refine W.vs ?_;simp only[go_sem,q44,q45,q46,hb3,hxn,hxp,hbv];refine W.draw 7 [0,1,0,4,0,28,60] Try.mixed (by kernel_rfl) (by kernel_rfl) ?_;by_cases hd:x.card=c
 ·simp only[go_sem,q2,q46,hc,hcn,hvc,lF,hd,w2];exact⟨by omega,⟨oz.trans (.ext _ _),v+1,rfl,by omega,by rw[aP (bX hx),aP hc,he,hd]⟩,by rw[h46];simp only[aa,aM];omega⟩
 ·simp only[go_sem,q2,hc,hcn,hvc,lF,hd];exact no _ hpm (fun hh=>hd (by have:=bX hx;rw[show ah ns=cs from hh,hc]at this;exact(Option.some.inj this).symm)) _ ((o1.trans o2).trans (o3.trans (oy.trans (oz.trans (.ext _ _)))))
theorem MA {c:List Int}(h:gY c 720 0)(H:AHeap){v:AVal}(hv:Fz (fun _=>True) H 0 v (ab c)):
  ae Try.prog G0 48 [v,aa 720,aa 0] H fun r H'=>r=.ret (.tup [ab (gQ c),aa 0])/\H'=H:=by
 obtain⟨h1,h2,h3,h4,h5⟩:=id h;refine ae.frame (H:=H) (args:=[v,aa 720,aa 0]) (args':=[ab c,aa 720,aa 0]) (v':=.tup [ab (gQ c),aa 0]) aZ rfl (fun i hi _=>match i,hi with
  | 0,_=>hv
  | 1,_=>.lit _
  | 2,_=>.lit _) ?_
 refine xZ rfl h1.1 h1.2 h2 h3 ⟨h4,by decide⟩ bU _ (fun hlt=>absurd h5 (by omega)) fun s u H' _ hs ho hu=>⟨_,rfl,.tup rfl fun i hi _=>?_⟩
 match i,hi with
 | 0,_ =>
  have e:gQ c=s:=(kI hs).symm;rw[e];exact hu.pA
 | 1,_=>exact .lit _
set_option maxHeartbeats 4000000 in
theorem BI (g:Int)(ns:List NodeP)(h:NetOk g ns)(h6:ns.length<=6)(cs:List Int)(xs:List (List Int))(hx40:xs.length<=64)(hrow:∀ r∈xs,r.length=ns.length)(v:Nat)(x:NodeP)(hx:ns[v]?=some x)
  (H:AHeap) (K:ARes->AHeap->Prop) (hK:K (.ret (.tup [ab (bI ns x v xs),aa 0])) H):
  ae Try.prog G0 43 [bP g ns,dM cs xs,aa v] H K:=by
 refine ae.clo ⟨_,Try.func43,rfl,rfl⟩ fun hcl=>?_;have n8:=h.n1;have hxm:=Ry hx;have hxc:=(h.node x hxm).1;have hrc:=qL h hx;have hvn:(v:Int)<ns.length:=by have:=get_lt hx;omega
 have hne:=fZ hx;have hpt:=l9 hx;have hbd:v*3+3<=(ar ns).length:=by rw[fY];omega
 have wL:=Rw ((x.rows.length:Int)*x.card) (by omega);obtain⟨L,hL⟩:∃ L:Nat,(x.rows.length:Int)*x.card=L:=⟨((x.rows.length:Int)*x.card).toNat,by omega⟩
 have hLn:x.rows.length*x.card.toNat=L:=by
  have:((x.rows.length*x.card.toNat:Nat):Int)=x.rows.length*x.card:=by rw[Tj,Sw (by omega)]
  omega
 rw[hL]at wL hrc;refine ae.bH (n:=111) (rs:=[.tmp 6,.tmp 7]) Try.func43 rfl rfl rfl (by decide) (by kernel_rfl) (by simp) ?_;simp only[go_sem,bP,de,dM,aH,hvn,hne,hpt,hbd,hL,wL];refine⟨by omega,?_⟩;obtain⟨H1,hH1⟩:∃ H1,H1=ext H [.arr 0 35 [aa g,.vec ns.length (ar ns)],.arr 0 42 [.vec cs.length (ints cs),.vec xs.length (xs.map ab)],.arr 0 3 [aa v],.arr 0 69 [aa x.card,.vec x.parents.length (ints x.parents),.vec x.rows.length (x.rows.map ab)],.arr 0 3 (List.replicate L (aa 0))]:=⟨_,rfl⟩
 have n1:H1.next=H.next+5:=by rw[hH1];rfl
 have o1:Over H H1:=by rw[hH1];exact .ext _ _
 have g0:H1.get H.next=some (.arr 0 35 [aa g,.vec ns.length (ar ns)]):=by rw[hH1];exact bk H _ 0 (by simp)
 have g2:H1.get (H.next+2)=some (.arr 0 3 [aa v]):=by rw[hH1];exact bk H _ 2 (by simp)
 have g3:H1.get (H.next+3)=some (.arr 0 69 [aa x.card,.vec x.parents.length (ints x.parents),.vec x.rows.length (x.rows.map ab)]):=by rw[hH1];exact bk H _ 3 (by simp)
 have hz:List.replicate L (aa 0)=ints (List.replicate L 0):=by simp [ints,aa]
 have g4:H1.get (H.next+4)=some (.arr 0 3 (ints (bI ns x v (xs.take 0)))):=by
  rw[hH1,bk H _ 4 (by simp)];show some (Blk.arr 0 _ (List.replicate L (aa 0)))=some (.arr 0 _ (ints (List.replicate (x.rows.length*x.card.toNat) 0)));rw[hz,hLn]
 refine W.en (fun E=>E 3=.ptr H.next 0 0 /\ E 5=.ptr (H.next+2) 0 0 /\ E 8=.ptr (H.next+3) 0 0 /\ E 9=.own (H.next+4) 0 0 L 1 /\ E 35=.vec xs.length (xs.map ab) /\ E 36=aa xs.length /\ E 37=aa 0) (by simp only[go_sem]) fun E ⟨e3,e5,e8,e9,e35,e36,e37⟩=>?_
 show W _ _ _ _ _ _ ⟨E,ext H [.arr 0 35 [aa g,.vec ns.length (ar ns)],.arr 0 42 [.vec cs.length (ints cs),.vec xs.length (xs.map ab)],.arr 0 3 [aa v],.arr 0 69 [aa x.card,.vec x.parents.length (ints x.parents),.vec x.rows.length (x.rows.map ab)],.arr 0 3 (List.replicate L (aa 0))]⟩;rw[<- hH1];refine W.aI 1298074137262454452077694442805440 (by kernel_rfl) (fun ρ H'=>∃ i:Nat,ρ 37=aa i/\i<=xs.length/\H1.next<=H'.next/\(∀ id,id<H1.next->id≠H.next+4->H'.get id=H1.get id)/\H'.get (H.next+4)=some (.arr 0 3 (ints (bI ns x v (xs.take i))))) (fun ρ H=>xs.length - (iv (ρ 37)).toNat) ?_ ?_
 ·exact⟨0,e37,by omega,Nat.le_refl _,fun _ _ _=>rfl,g4⟩
 rintro ρ H' ⟨i,h37,hi,hn,hk,hg4⟩;have hxt:∀ r∈xs.take i,r.length=ns.length:=fun r hr=>hrow r (RS hr);obtain⟨el,er⟩:=oS h h6 hx (xs.take i) hxt;obtain⟨X,hX⟩:∃ X,X=bI ns x v (xs.take i):=⟨_,rfl⟩
 rw[<- hX]at el er hg4;rw[hL]at el;have hXl:X.length=L:=by omega
 refine W.en (fun F=>F 3=.ptr H.next 0 0 /\ F 5=.ptr (H.next+2) 0 0 /\ F 8=.ptr (H.next+3) 0 0 /\ F 9=.own (H.next+4) 0 0 L 1 /\ F 35=.vec xs.length (xs.map ab) /\ F 36=aa xs.length /\ F 37=aa i) (by simp only[go_sem,e3,e5,e8,e9,e35,e36,h37]) fun F ⟨f3,f5,f8,f9,f35,f36,f37⟩=>?_
 by_cases hb:(i:Int)<xs.length;rotate_left
 ·have ei:i=xs.length:=by omega
  refine W.vs ?_;simp only[go_sem,f9,f36,f37,hb];rw[ei,TD]at hX;rw[<- hX]at hK;have ovx:Over H H':=⟨by omega,fun id hi=>(hk id (by omega) (by omega)).trans (o1.old id hi)⟩
  exact av.cK (v':=.tup [ab X,aa 0]) aZ hcl ovx (.tup rfl fun i hi _=>match i,hi with
   | 0,_=>Fz.ints (by omega) hg4 hXl.symm fun j hj=>by rw[Nat.zero_add,gI];simp only[Rz hj,Option.map_some]
   | 1,_=>.lit _) hK
 obtain⟨r,hr⟩:=get_of_lt (l:=xs) (i:=i) (by omega);have hr':=o0 hr;have hrn:=aK hr';have hrl:=hrow r (Ry hr);have lE:∀ L,(ext H' L).live H.next 0=some (35,[aa g,.vec ns.length (ar ns)]):=fun L=>ao ((dI _ _ _ (by omega)).trans ((hk H.next (by omega) (by omega)).trans g0));have l4:H'.live (H.next+4) 0=some (3,ints X):=ao hg4;have hbL:(L:Int)*8<=2 ^ 46/\(L:Int)<=2 ^ 46:=by omega
 refine W.vs ?_;simp only[go_sem,f3,f9,f35,f36,f37,hb,hr',hrn,lE,l4,hbL];obtain⟨Ha,hHa⟩:∃ Ha,Ha=ext H' [.arr 0 3 (List.replicate L (aa 0)),.arr 0 39 [.own H'.next 0 0 L 1]]:=⟨_,rfl⟩
 obtain⟨Hb,hHb⟩:∃ Hb,Hb=ext Ha [.arr 0 127 [aa g,.vec ns.length (ar ns),.vec r.length (ints r)]]:=⟨_,rfl⟩
 have na:Ha.next=H'.next+2:=by rw[hHa];rfl
 have nb:Hb.next=H'.next+3:=by rw[hHb];show Ha.next+1=_;rw[na]
 have ka:Ha.get H'.next=some (.arr 0 3 (ints (fu ns x v []))):=by
  rw[hHa,dV];show some (Blk.arr 0 _ (List.replicate L (aa 0)))=some (.arr 0 _ (ints (List.replicate (x.rows.length*x.card.toNat) 0)));rw[hz,hLn]
 have ka1:Ha.get (H'.next+1)=some (.arr 0 39 [.own H'.next 0 0 L 1]):=by rw[hHa];exact bk H' _ 1 (by simp)
 have kb:Hb.get (H'.next+2)=some (.arr 0 127 [aa g,.vec ns.length (ar ns),.vec r.length (ints r)]):=by rw[hHb,<- na];exact cq
 have oab:∀ id,id<H'.next+2->Hb.get id=Ha.get id:=fun id hh=>by rw[hHb];exact eG (by omega)
 have oa:∀ id,id<H'.next->Hb.get id=H'.get id:=fun id hh=>by rw[oab id (by omega),hHa];exact dI _ _ _ hh
 refine az.clo (BA g ns r _ _ ⟨trivial,?_⟩);simp only[go_sem];refine W.env fun E1 hE1=>?_;have k3:E1 3=.ptr H.next 0 0:=by rw[hE1];simp only[go_sem,f3]
 have k5:E1 5=.ptr (H.next+2) 0 0:=by rw[hE1];simp only[go_sem,f5]
 have k8:E1 8=.ptr (H.next+3) 0 0:=by rw[hE1];simp only[go_sem,f8]
 have k9:E1 9=.own (H.next+4) 0 0 L 1:=by rw[hE1];simp only[go_sem,f9]
 have k12:E1 12=.ptr (H'.next+1) 0 0:=by rw[hE1];simp only[go_sem]
 have k35:E1 35=.vec xs.length (xs.map ab):=by rw[hE1];simp only[go_sem,f35]
 have k36:E1 36=aa xs.length:=by rw[hE1];simp only[go_sem,f36]
 have k37:E1 37=aa i:=by rw[hE1];simp only[go_sem,f37]
 have k47:E1 47=.clo 88 [] [.ptr (H'.next+2) 0 0]:=by rw[hE1];rfl
 clear hE1;show W _ _ _ _ _ _ ⟨E1,ext (ext H' [.arr 0 3 (List.replicate L (aa 0)),.arr 0 39 [.own H'.next 0 0 L 1]]) [.arr 0 127 [aa g,.vec ns.length (ar ns),.vec r.length (ints r)]]⟩;rw[<- hHa,<- hHb];have w1:=Rw ((i:Int)+1) (by omega);obtain⟨D,hD⟩:∃ D,D=cF (ah ns) r:=⟨_,rfl⟩
 have hDf:∀ w∈D,bE (ah ns) w:=fun w hw=>mU (gO h) (by rw[hrl,bA]) (by rw[<- hD];exact hw);have hDl:(iT ns r (Hb.next+1)).length=D.length:=by unfold iT;rw[RJ,hD]
 have mt:=BC h hrl;rw[<- hD]at mt;refine W.Bu (f:=88) (first:=[]) (cap:=[.ptr (H'.next+2) 0 0]) (by show E1 47=_;exact k47) (Bz g ns h r hrl (H'.next+2) (Hb.next+1) (by omega))
  (fun k Hx=>Hb.next<Hx.next/\(∀ id,id<Hb.next->id≠H'.next->Hx.get id=Hb.get id)/\Hx.get H'.next=some (.arr 0 3 (ints (fu ns x v (D.take k)))))
  (fun k Hx hj=>(hj.2.1 _ (by omega) (by omega)).trans kb)
  (fun k H1 H3 hj hw=>⟨by have:=hw.1;omega,fun id h1 h2=>(hw.2 _ (by omega) (by have:=hj.1;omega)).trans (hj.2.1 id h1 h2),(hw.2 _ (by omega) (by have:=hj.1;omega)).trans hj.2.2⟩)
  (fun k Hx hj=>hj.1)
  (fun k H1 b hj=>⟨hj.1,fun id h1 h2=>by rw[aj,RB (by omega)];exact hj.2.1 id h1 h2,by rw[aj,RB (by omega)];exact hj.2.2⟩)
  (fun b=>⟨by rw[cJ];simp,fun id h1 h2=>eG h1,by rw[eG (by omega),oab _ (by omega)];exact ka⟩) (by decide)
  (fun x hx=>by
   unfold iT at hx;obtain⟨w,_,rfl⟩:=RI.1 hx;rfl) (fun _ _ _=>trivial) (fun k y Hx B Bb hy hj hs hn2 hB hBb=>?_) (fun Hx hj hn2=>?_)
 ·obtain⟨hh1,hh2,hh3⟩:=hj;obtain⟨w,hw,hwN⟩:=hs;rw[<- hD]at hw;have hwf:=hDf w (Ry hw);have hy':y=[.own (Hb.next+1+1) 0 0 ns.length 1,aa (weight ns w)]:=by
   unfold iT at hy;rw[<- hD,List.getElem?_map,hw]at hy;exact(Option.some.inj hy).symm
  subst hy';refine W.vs ?_;simp only[go_sem,jq,cY,nD,SK,UC,TG,Uj,hB];obtain⟨H3,hH3⟩:∃ H3,H3=Hx.upd Hb.next Bb:=⟨_,rfl⟩
  rw[<- hH3];obtain⟨st,pd,n',en,ps',as',bo,hBe⟩:=hBb;have n3:H3.next=Hx.next:=by rw[hH3];rfl
  have o3:∀ id,id≠Hb.next->H3.get id=Hx.get id:=fun id hh=>by rw[hH3,aj,RB hh]
  have jB:H3.get Hb.next=some Bb:=by rw[hH3,aj,RC rfl]
  refine W.en (fun E2=>E2 3=.ptr H.next 0 0 /\ E2 5=.ptr (H.next+2) 0 0 /\ E2 8=.ptr (H.next+3) 0 0 /\ E2 12=.ptr (H'.next+1) 0 0 /\ E2 13=.own (Hb.next+2) 0 0 ns.length 1 /\ E2 14=aa (weight ns w)) (by simp only[go_sem,cY,k3,k5,k8,k12]) fun E2 ⟨m3,m5,m8,m12,m13,m14⟩=>?_
  have hsm:=fun id (h1:id<H1.next) (h2:id≠H.next+4)=>(o3 id (by omega)).trans ((hh2 id (by omega) (by omega)).trans ((oa id (by omega)).trans (hk id h1 h2)));have l0:=ao ((hsm H.next (by omega) (by omega)).trans g0);have l2:=ao ((hsm (H.next+2) (by omega) (by omega)).trans g2);have l3:=ao ((hsm (H.next+3) (by omega) (by omega)).trans g3);have l12:=ao ((o3 (H'.next+1) (by omega)).trans ((hh2 _ (by omega) (by omega)).trans ((oab _ (by omega)).trans ka1)));have lP:=ao ((o3 H'.next (by omega)).trans hh3);have lW:=ao ((o3 (Hb.next+2) (by omega)).trans hwN);refine W.vs ?_;simp only[go_sem,m8,l3];refine W.env fun E3 hE3=>?_;have p3:E3 3=.ptr H.next 0 0:=by rw[hE3];simp only[go_sem,m3]
  have p5:E3 5=.ptr (H.next+2) 0 0:=by rw[hE3];simp only[go_sem,m5]
  have p8:E3 8=.ptr (H.next+3) 0 0:=by rw[hE3];simp only[go_sem,m8]
  have p12:E3 12=.ptr (H'.next+1) 0 0:=by rw[hE3];simp only[go_sem,m12]
  have p13:E3 13=.own (Hb.next+2) 0 0 ns.length 1:=by rw[hE3];simp only[go_sem,m13]
  have p14:E3 14=aa (weight ns w):=by rw[hE3];simp only[go_sem,m14]
  have p15:E3 15=aa 0:=by rw[hE3];simp only[go_sem]
  have p51:E3 51=ab x.parents:=by rw[hE3];simp only[go_sem]
  have p52:E3 52=aa x.parents.length:=by rw[hE3];simp only[go_sem]
  have p53:E3 53=aa 0:=by rw[hE3];simp only[go_sem]
  clear hE3;have hin:iE x.parents ns.length:=fun q hq=>by have:=(h.node x hxm).2.2 q hq;omega
  have hfp:=rq hin hwf;have pl:(aN ns x).length=x.parents.length:=dQ _ _;have vl:(aA w x.parents).length=x.parents.length:=dQ _ _;have hsc:=yv n8.2 (h.node x hxm).2 fun y hy=>(h.node y hy).1;have hr0:=Bv hfp hsc;have l12n:=hsc.1;have hwl:w.length=ns.length:=by rw[hwf.1,bA]
  refine W.aI 2361174234235568029696 (by kernel_rfl) (fun ρ H4=>H4=H3/\∃ j:Nat,ρ 53=aa j/\j<=x.parents.length/\ρ 15=aa (cO ((aN ns x).take j) ((aA w x.parents).take j))) (fun ρ H=>x.parents.length - (iv (ρ 53)).toNat) ?_ ?_
  ·exact⟨rfl,0,p53,by omega,p15⟩
  rintro ρ4 H4 ⟨e4,j,h53,hj,h15⟩;rw[e4];refine W.en (fun E4=>E4 3=.ptr H.next 0 0 /\ E4 5=.ptr (H.next+2) 0 0 /\ E4 8=.ptr (H.next+3) 0 0 /\ E4 12=.ptr (H'.next+1) 0 0 /\ E4 13=.own (Hb.next+2) 0 0 ns.length 1 /\ E4 14=aa (weight ns w) /\ E4 15=aa (cO ((aN ns x).take j) ((aA w x.parents).take j)) /\ E4 51=ab x.parents /\ E4 52=aa x.parents.length /\ E4 53=aa j) (by simp only[go_sem,p3,p5,p8,p12,p13,p14,h15,p51,p52,h53]) fun E4 ⟨q3,q5,q8,q12,q13,q14,q15,q51,q52,q53⟩=>?_
  by_cases hb2:(j:Int)<x.parents.length
  ·obtain⟨q,hq⟩:=get_of_lt (l:=x.parents) (i:=j) (by omega);obtain⟨u,y,b,rfl,hy,hbv,a1,a2,a3⟩:=Bx hin hwf hq;have hqn:=aK hq;have hyn:=fZ hy;have hy0:=l8 hy;have hun:(u:Int)<ns.length:=(by have:=get_lt hy;omega);have w2:=Rw ((j:Int)+1) (by omega);have r1:=hr0 (j+1);rw[ma a1 a2]at r1;have r0:=hr0 j;have m0:0<=cO ((aN ns x).take j) ((aA w x.parents).take j)*y.card:=SD r0.1 (by omega);have w3:=Rw (cO ((aN ns x).take j) ((aA w x.parents).take j)*y.card) (by omega);have w4:=Rw (cO ((aN ns x).take j) ((aA w x.parents).take j)*y.card+b) (by omega);refine W.vs ?_;simp only[go_sem,q51,q52,q53,hb2,hq,hqn];refine W.draw 12 [0,0,2,0,14,30,62,127,0,0,768,1792] Try.mixed (by kernel_rfl) (by kernel_rfl) ?_;simp only[go_sem,l0,lW,q3,q13,q15,q53,hyn,hy0,hun,hbv,w2,w3,w4];exact⟨⟨_,_,_,_,_,_,_,by rw[jB,hBe]⟩,⟨j+1,rfl,by omega,by rw[ma a1 a2]⟩,by rw[h53];simp only[aa,aM];omega⟩
  have ej:j=x.parents.length:=by omega
  rw[ej,RA (by rw[pl];exact Nat.le_refl _),RA (by rw[vl];exact Nat.le_refl _),kJ hfp.1]at q15;obtain⟨a,ha⟩:=get_of_lt (l:=w) (i:=v) (by omega);have hac:=hwf.2 v x.card a (bX hx) ha;have hpr:=qM h hx hwf;have hpe:dD ns x v w=dG (aN ns x) (aA w x.parents)*x.card+a:=by unfold dD;rw[aO ha]
  obtain⟨z,hz2⟩:∃ z:Nat,dD ns x v w=z:=⟨(dD ns x v w).toNat,by omega⟩
  rw[hL,hz2]at hpr;rw[hz2]at hpe;obtain⟨pa,pb,pc⟩:=qN h hx (D.take k) fun w' h'=>hDf w' (RS h');obtain⟨Pl,hPl⟩:∃ Pl,Pl=fu ns x v (D.take k):=⟨_,rfl⟩
  have hPs:fu ns x v (D.take (k+1))=Pl.set z (Pl.getD z 0+weight ns w):=by
   rw[aP hw,Mw,<- hPl];unfold kD dL;rw[hz2,Int.toNat_natCast]
  rw[<- hPl]at pa pb pc lP;rw[hL]at pa;obtain⟨e0,he0⟩:=get_of_lt (l:=Pl) (i:=z) (by omega);rw[aO he0]at hPs;have he1:=pb e0 (Ry he0);have he2:=pz pb e0 (Ry he0);have mt1:=mt (k+1);have hes:((D.take (k+1)).map (weight ns)).sum=((D.take k).map (weight ns)).sum+weight ns w:=by rw[aP hw];simp
  rw[hes]at mt1;have hwr:=BB h hwf;have hir:=hr0 x.parents.length;rw[RA (by rw[pl];exact Nat.le_refl _),RA (by rw[vl];exact Nat.le_refl _),kJ hfp.1]at hir;have m0:0<=dG (aN ns x) (aA w x.parents)*x.card:=SD hir.1 (by omega);have w2:=Rw (dG (aN ns x) (aA w x.parents)*x.card) (by omega);have w3:=Rw (z:Int) (by omega);have w4:=Rw (e0+weight ns w) (by omega);have hzL:(z:Int)<L:=by omega
  have hvw:(v:Int)<w.length:=by omega
  have hpl2:Pl.length=L:=by omega
  have hz0:¬ (z:Int)<0:=by omega
  refine W.vs ?_;simp only[go_sem,q52,q53,hb2];refine W.draw 13 [0,0,0,4,14,0,0,96,224,510,1023,2047,0] Try.mixed (by kernel_rfl) (by kernel_rfl) ?_;simp only[go_sem,l2,l3,l12,lP,lW,q5,q8,q12,q13,q14,q15,ha,hvn,<- hpe,he0,hpl2,hzL,w2,w3,w4,kQ];refine⟨by omega,?_⟩;obtain⟨H5,hH5⟩:∃ H5,H5=H3.upd H'.next (.arr 0 3 (setAt (ints Pl) z [.lit (.int .i64 (e0+weight ns w))])):=⟨_,rfl⟩
  rw[<- hH5];have n5:H5.next=Hx.next:=by rw[hH5];exact n3
  have k5:∀ id,id≠H'.next->id≠Hb.next->H5.get id=Hx.get id:=fun id h1 h2=>by rw[hH5,aj,RB h1,o3 id h2]
  have e5:H5.get H'.next=some (.arr 0 3 (ints (fu ns x v (D.take (k+1))))):=by
   rw[hH5,aj,RC rfl,fa (by omega),hPs]
  exact⟨by rw[hH5,aj,RB (by omega)];exact jB,by omega,⟨by omega,fun id h1 h2=>(k5 id h2 (by omega)).trans (hh2 id h1 h2),e5⟩,fun id h1 h2=>k5 id (by omega) (by omega)⟩
 ·rw[hDl,RA (Nat.le_refl _)]at hj;obtain⟨hh1,hh2,hh3⟩:=hj;have hro:=xE h h6 hx hrl;obtain⟨_,rl,_,rr⟩:=xF hro;obtain⟨pa,_,_⟩:=qN h hx D hDf;have hpR:iU ns x v r=fu ns x v D:=by rw[hD];rfl
  rw[hpR]at hro rl rr;rw[hL]at pa;have hXs:bI ns x v (xs.take (i+1))=fw X (gQ (fu ns x v D)):=by rw[aP hr,xD,<- hX,hpR]
  obtain⟨R,hR⟩:∃ R,R=gQ (fu ns x v D):=⟨_,rfl⟩
  have l12:=ao ((hh2 (H'.next+1) (by omega) (by omega)).trans ((oab _ (by omega)).trans ka1));simp only[go_sem,k12,l12];refine az.clo ((MA hro Hx (Fz.ints (S:=fun _=>True) trivial hh3 (by omega) fun j hj=>by rw[Nat.zero_add,gI];simp only[Rz hj,Option.map_some])).mono ?_);rintro rres Hq ⟨hrq,hHq⟩;rw[hHq];subst hrq;refine⟨trivial,?_⟩;rw[<- hR]at rl rr hXs ⊢;have hRl:R.length=L:=by omega
  simp only[go_sem];refine W.en (fun E2=>E2 3=.ptr H.next 0 0 /\ E2 5=.ptr (H.next+2) 0 0 /\ E2 8=.ptr (H.next+3) 0 0 /\ E2 9=.own (H.next+4) 0 0 L 1 /\ E2 35=.vec xs.length (xs.map ab) /\ E2 36=aa xs.length /\ E2 37=aa i /\ E2 94=ab R /\ E2 95=aa R.length /\ E2 96=aa 0) (by simp only[go_sem,k3,k5,k8,k9,k35,k36,k37]) fun E2 ⟨m3,m5,m8,m9,m35,m36,m37,m94,m95,m96⟩=>?_
  have gX:Hx.get (H.next+4)=some (.arr 0 3 (ints X)):=(hh2 _ (by omega) (by omega)).trans ((oa _ (by omega)).trans hg4);have hkx:∀ id,id<H1.next->id≠H.next+4->Hx.get id=H1.get id:=fun id h1 h2=>(hh2 id (by omega) (by omega)).trans ((oa id (by omega)).trans (hk id h1 h2));refine W.aI 648957879154339189228718500347904 (by kernel_rfl) (fun ρ H4=>∃ j:Nat,ρ 96=aa j/\j<=L/\Hx.next<=H4.next/\(∀ id,id<H1.next->id≠H.next+4->H4.get id=H1.get id)/\H4.get (H.next+4)=some (.arr 0 3 (ints (fw (X.take j) (R.take j)++X.drop j)))) (fun ρ H=>L - (iv (ρ 96)).toNat) ?_ ?_
  ·exact⟨0,m96,by omega,Nat.le_refl _,hkx,by rw[gX];rfl⟩
  rintro ρ4 H4 ⟨j,h96,hj,n4,hk4,hg4'⟩;refine W.en (fun E3=>E3 9=.own (H.next+4) 0 0 L 1 /\ E3 37=aa i /\ E3 94=ab R /\ E3 95=aa R.length /\ E3 96=aa j) (by simp only[go_sem,m9,m37,m94,m95,h96]) fun E3 ⟨p9,p37,p94,p95,p96⟩=>?_
  by_cases hb3:(j:Int)<R.length;rotate_left
  ·have ej:j=L:=(by omega);refine W.vs ?_;simp only[go_sem,p37,p95,p96,hb3,w1];refine⟨by omega,⟨i+1,rfl,by omega,by omega,hk4,?_⟩,by rw[h37];simp only[aa,aM];omega⟩;rw[hg4',ej,RA (by omega),RA (by omega),T4 (by omega),List.append_nil,hXs]
  obtain⟨a,ha⟩:=get_of_lt (l:=X) (i:=j) (by omega);obtain⟨b,hbj⟩:=get_of_lt (l:=R) (i:=j) (by omega);have hbn:=aK hbj;have ha2:=er a (Ry ha);have hb2:=rr b (Ry hbj);have hil:(xs.take i).length<=64:=by rw[RH];omega
  have w2:=Rw (a+b) (by omega);have w3:=Rw ((j:Int)+1) (by omega);have avl:(fw (X.take j) (R.take j)).length=j:=by rw[BH (by simp;omega)];simp;omega
  have hln:(fw (X.take j) (R.take j)++X.drop j).length=L:=by rw[List.length_append,avl,Sr];omega
  have hgj:(fw (X.take j) (R.take j)++X.drop j)[j]?=some a:=by
   rw[Sb (by omega),avl,Tx,rf ha];rfl
  have lX:=ao hg4';have hjL:(j:Int)<L:=by omega
  refine W.vs ?_;simp only[go_sem,p9,p94,p95,p96,hb3,hbj,hbn,lX,hln,hgj,hjL,w2,w3];refine⟨by omega,by rw[aL];omega,⟨j+1,rfl,by omega,by rw[aL];omega,fun id h1 h2=>by rw[aj,RB h2];exact hk4 id h1 h2,?_⟩,by rw[h96];simp only[aa,aM];omega⟩;rw[aj,RC rfl,fa (by omega)];congr 3;rw[S6 _ _ (by omega),avl,Tx,rf ha,aP ha,aP hbj];show _++(a+b) :: _=_;unfold fw;rw[List.zipWith_append (by simp;omega),List.append_assoc];rfl
def eH (ns:List NodeP)(xs:List (List Int)):Bool:=decide ((0:Int) ∉ xs.map (dJ ns))
theorem Nw {S:Nat->Prop}{H:AHeap}{nx:Nat}{cv xv:AVal}{cs:List Int}{xs:List (List Int)}(h1:Fz S H nx cv (ab cs))(h2:Fz S H nx xv (aH xs)):Fz S H nx (.agg [cv,xv]) (dM cs xs):=by
 refine .agg rfl fun i hi _=>?_
 match i,hi with
 | 0,_=>exact h1
 | 1,_=>exact h2
theorem aB.B5 {S:Nat->Prop}{lo nx:Nat}{H:AHeap}{e:TypeId}{v:AVal}{q:List (List Int)}(h:aB lo H e v (q.map ab))(hS:∀ i,lo<=i->S i):Fz S H nx v (aH q):=by
 have:=h.fz (S:=S) (nx:=nx) (cs':=q.map ab) hS rfl fun i hi _=>by simp only[RQ];exact .dT _
 rw[RJ]at this;exact this
noncomputable def fA (g:Int)(ns:List NodeP)(cs:List Int)(xs:List (List Int)):Int:=if iF g ns=true then (if fW cs xs=true then (if ah ns=cs then 0 else 261) else 250) else 50
theorem BJ (g:Int)(ns:List NodeP)(cs:List Int)(xs:List (List Int)):mV [(g,ns)] cs xs=fA g ns cs xs:=by
 unfold mV fA;simp
theorem BK (l:List (Int × List NodeP))(cs:List Int)(xs:List (List Int))(hn:∀ p∈l,jd p.2)(hf:j9 cs xs)(hl4:l.length<=4)(H:AHeap){id:Nat}(hg:H.get id=some (.arr 0 35 (dK l))):
  ae Try.prog G0 40 [.agg [.vec cs.length (ints cs),.vec xs.length (xs.map ab)],.own id 0 0 l.length 2] H fun r H'=>r=.ret (aa (mV l cs xs))/\H'=H:=by
 refine ae.frame (H:=H) (args:=[.agg [.vec cs.length (ints cs),.vec xs.length (xs.map ab)],.own id 0 0 l.length 2]) (args':=[dM cs xs,.vec l.length (dK l)]) (v':=aa (mV l cs xs)) aZ rfl (fun i hi _=>match i,hi with
  | 0,_=>?_
  | 1,_=>?_) (Mr l cs xs hn hf hl4 bU _ ⟨_,rfl,.lit _⟩)
 ·exact .agg rfl fun i hi _=>match i,hi with
   | 0,_=>.dT _
   | 1,_=>.aH _
 ·refine .frz trivial hg (by rw[tR]) fun i hi h2 h'=>?_;have hm:∀ c∈dK l,Fz (fun _=>True) H 0 c c:=fun c hc=>by
   unfold dK at hc;obtain⟨q,hq,hcq⟩:=TS.1 hc;obtain⟨p,_,rfl⟩:=RI.1 hq;rcases List.mem_cons.1 hcq with rfl|hcq
   ·exact .lit _
   ·rw[List.mem_singleton.1 hcq];exact rB _
  have e:(dK l)[0+i]=(dK l)[i]:=by congr 1;omega
  rw[e];exact hm _ (Sv _)
noncomputable def tT (g:Int)(ns:List NodeP)(cs:List Int)(xs:List (List Int))(v:Int):AVal :=
 if fA g ns cs xs≠0 then .tup [ab [],aa (fA g ns cs xs)]
 else if v<0\/v >= ns.length then .tup [ab [],aa 2]
 else if eH ns xs=true then .tup [ab (bI ns (ns.getD v.toNat ⟨0,[],[]⟩) v.toNat xs),aa 0]
 else .tup [ab [],aa 7]
theorem qO {g:Int}{ns:List NodeP}{cs:List Int}{xs:List (List Int)}(h:fA g ns cs xs=0):NetOk g ns/\DataOk cs xs/\ah ns=cs:=by
 unfold fA at h;split at h
 ·rename_i h1;split at h
  ·rename_i h2;split at h
   ·rename_i h3;exact⟨DF.1 h1,B3.1 h2,h3⟩
   ·cases h
  ·cases h
 ·cases h
theorem tU {g:Int}{ns:List NodeP}{cs:List Int}{xs:List (List Int)}(h:fA g ns cs xs=0):ns.length<=6/\xs.length<=40/\∀ r∈xs,r.length=ns.length:=by
 obtain⟨h1,h2,h3⟩:=qO h;have e:ns.length=cs.length:=by rw[<- h3,bA]
 refine⟨by have:=h2.c1;omega,h2.x1,fun r hr=>by rw[(h2.row r hr).1,e]⟩
set_option maxHeartbeats 1000000 in
theorem BL (g:Int)(ns:List NodeP)(cs:List Int)(xs:List (List Int))(hn:jd ns)(hf:j9 cs xs)(v:Int)(H:AHeap)(K:ARes->AHeap->Prop)(hK:K (.ret (tT g ns cs xs v)) H):
  ae Try.prog G0 12 [bP g ns,dM cs xs,aa v] H K:=by
 refine ae.clo ⟨_,Try.func12,rfl,rfl⟩ fun hcl=>?_;have hn1:=hn.1;have nil:∀ e H',Over H H'->K (.ret (.tup [ab [],aa e])) H->av Try.prog G0 H K (.tup [.lit (.slice none 0 0),aa e]) H':=fun e H' ov hk=>av.cK (v':=.tup [ab [],aa e]) aZ hcl ov (.tup rfl fun i hi _=>match i,hi with
  | 0,_=>.nil
  | 1,_=>.lit _) hk
 refine ae.bH (n:=35) (rs:=[.tmp 6,.tmp 7]) Try.func12 rfl rfl rfl (by decide) (by kernel_rfl) (by simp) ?_;simp only[go_sem,bP,de,dM,aH];obtain⟨H1,hH1⟩:∃ H1,H1=ext H [.arr 0 35 [aa g,.vec ns.length (ar ns)],.arr 0 42 [.vec cs.length (ints cs),.vec xs.length (xs.map ab)],.arr 0 35 [aa g,.vec ns.length (ar ns)]]:=⟨_,rfl⟩
 have n1:H1.next=H.next+3:=by rw[hH1];rfl
 have o1:Over H H1:=by rw[hH1];exact .ext _ _
 have g0:H1.get H.next=some (.arr 0 35 [aa g,.vec ns.length (ar ns)]):=by rw[hH1];exact dV ..
 have g1:H1.get (H.next+1)=some (.arr 0 42 [.vec cs.length (ints cs),.vec xs.length (xs.map ab)]):=by rw[hH1];exact bk H _ 1 (by simp)
 have g2:H1.get (H.next+2)=some (.arr 0 35 (dK [(g,ns)])):=by rw[hH1];exact bk H _ 2 (by simp)
 show az _ _ _ _ (ext H [.arr 0 35 [aa g,.vec ns.length (ar ns)],.arr 0 42 [.vec cs.length (ints cs),.vec xs.length (xs.map ab)],.arr 0 35 [aa g,.vec ns.length (ar ns)]]) _;rw[<- hH1];have l0:=ao g0;have l1:=ao g1;refine az.clo ((BK [(g,ns)] cs xs (fun p hp=>by rw[List.mem_singleton.1 hp];exact hn) hf (by simp) H1 g2).mono ?_);rintro rres Hq ⟨hrq,hHq⟩;rw[hHq,hrq,BJ];refine⟨trivial,?_⟩;unfold tT at hK;obtain⟨e,he⟩:∃ e,e=fA g ns cs xs:=⟨_,rfl⟩
 rw[<- he]at hK ⊢;by_cases h0:e=0;rotate_left
 ·rw[RC h0]at hK;simp only[go_sem,h0];exact nil e H1 o1 hK
 rw[RB (fun hh=>hh h0)]at hK;rw[h0]at he ⊢;obtain⟨hok,hdk,hca⟩:=qO he.symm;obtain⟨h6,h40,hrow⟩:=tU he.symm;by_cases v0:v<0
 ·rw[RC (.inl v0)]at hK;simp only[go_sem,v0];exact nil 2 H1 o1 hK
 by_cases v1:v >= ns.length
 ·rw[RC (.inr v1)]at hK;simp only[go_sem,l0,v0,v1];exact nil 2 H1 o1 hK
 rw[RB (fun hh=>hh.elim v0 v1)]at hK;obtain⟨u,rfl⟩:∃ u:Nat,v=u:=⟨v.toNat,by omega⟩
 obtain⟨x,hx⟩:=get_of_lt (l:=ns) (i:=u) (by omega);rw[Int.toNat_natCast,aO hx]at hK;simp only[go_sem,l0,l1,v0,v1];refine az.clo (BD g ns hok cs xs (by omega) hrow _ _ ⟨trivial,?_⟩);simp only[go_sem];refine az.clo (BE (xs.map (dJ ns)) (by rw[RJ];omega) _ _ ⟨trivial,?_⟩);unfold eH at hK;by_cases hz:(0:Int)∈xs.map (dJ ns)
 ·rw[Sk (fun hh=>hh hz),RB (by decide)]at hK;simp only[go_sem,hz];exact nil 7 H1 o1 hK
 rw[RN hz,RC rfl]at hK;simp only[go_sem,hz,l0,l1];refine az.clo (BI g ns hok h6 cs xs (by omega) hrow u x hx _ _ ⟨trivial,?_⟩);simp only[go_sem];exact av.cK (v':=.tup [ab (bI ns x u xs),aa 0]) aZ hcl o1 (.tup rfl fun i hi _=>match i,hi with
  | 0,_=>.dT _
  | 1,_=>.lit _) hK
end Go.Proofs
namespace Go.Proofs.R01
open Go.Hx
section
variable {P:Program} {t:TypeId} {x y:Operand} {k k':IntKind} {a b:Int}
end
section
variable {P:Program} {G:Nat->Option (List AVal)}
end
end Go.Proofs.R01
namespace Go.Proofs.R01
open Go.Hx
def val:List Int -> Nat
  | [] => 0
  | a :: l => a.toNat + 10000 * val l
end Go.Proofs.R01
namespace Go.Proofs.R01
open Go.Hx
theorem nA {H H' H2:AHeap}{v:AVal}{cs:List AVal}{e:TypeId}(ov:Over H H')(h:aB H.next H' e v cs)(hn:H'.next<=H2.next)(hp:∀ k,k<H'.next->(∀ g n,v≠.own k g 0 n 1)->H2.get k=H'.get k):Over H H2 :=
 ⟨by have:=ov.next;omega,fun id hid=>by
  rw[hp id (by have:=ov.next;omega) fun g n he=>?_,ov.old id hid];rcases h with ⟨h,_⟩|⟨i2,g2,a1,_,h,_⟩
  ·rw[h]at he;cases he
  ·rw[h]at he;have:=AVal.own.inj he;omega⟩
end Go.Proofs.R01
namespace Go.Proofs.R01
open Go.Hx
end Go.Proofs.R01
namespace Go.Proofs.R01
open Go.Hx
theorem fa {l:List Int}{k:Nat}(v:Int)(h:k<l.length):setAt (ints l) k [.lit (.int .i64 v)]=ints (l.set k v):=by
 unfold setAt ints;rw[Uy,UG,RC (by simpa using h)];simp [aa]
end Go.Proofs.R01
namespace Go.Proofs.R01
open Go.Hx
end Go.Proofs.R01
namespace Go.Proofs.R01
open Go.Hx
end Go.Proofs.R01
namespace Go.Proofs.R01
open Go.Hx
end Go.Proofs.R01
namespace Go.Proofs.R01
open Go.Hx
end Go.Proofs.R01
namespace Go.Proofs
open Go.Hx
def aX (l:List Int):List AVal:=l.map fun n=>.lit (.int .u8 n)
theorem qU {l:List Int}{k:Nat}{a:Int}(h:l[k]?=some a):(aX l)[k]?=some (.lit (.int .u8 a)):=by unfold aX;rw[List.getElem?_map,h];rfl
theorem Nk (l:List Int):(aX l).length=l.length:=by simp [aX]
end Go.Proofs
namespace Go.Hx
variable {P:Program} {H H':AHeap}
theorem ph {t e:TypeId}{lo n m:Nat}{v x:AVal}{cs src:List AVal}{z:List AVal}(ht:P.underlying t=some (.slice e))(hz:P.cellsOf e=1)(hzero:bT P e=some z)(hsrc:cM H 1 x=some (m,src))(hm:src.length=m)(hx:src.all AVal.one=true)
  (hb:(cs.length+m)*P.bytesOf e<=2 ^ 46/\cs.length+m<=2 ^ 46) (ho:aB lo H e v cs) (hlo:lo<=H.next) (hn:n=H.next):
  ∃ v' H',bF P H n t t v x=some (v',H')/\aB lo H' e v' (cs++src)/\H.next<=H'.next/\(∀ k,k<H.next->(∀ g n,v≠.own k g 0 n 1)->H'.get k=H.get k):=by
 subst hm;obtain⟨v',H',hA,h2⟩:=As (H:=H) (n:=n) ht hz hzero hx hb ho hlo hn;refine⟨v',H',?_,h2⟩;rw[<- hA];have e2:cM H 1 (.vec src.length src)=some (src.length,src):=by unfold cM;simp
 unfold bF;rw[ht];simp only[hz,hsrc,e2]
end Go.Hx
namespace Go.Proofs
open Go.Hx
def U8 (n:Int):Prop:=0<=n/\n<256
theorem PG (n:Nat)(hn:n<=5)(ord:List Int)(H:AHeap)(K:ARes->AHeap->Prop)(hK:K (.ret (ab (List.replicate n 1))) H):
  ae Try.prog G0 66 [.agg [.vec n (aX (List.replicate n 0)),(.lit (.int .u16 0)),.vec ord.length (aX ord)]] H K:=by
 refine ae.clo ⟨_,Try.func66,rfl,rfl⟩ fun hcl=>?_;refine ae.bH (n:=28) (rs:=[.tmp 2]) Try.func66 rfl rfl rfl (by decide) (by kernel_rfl) (by simp) ?_;simp only[go_sem];obtain⟨H1,hH1⟩:∃ H1,H1=ext H [.arr 0 83 [.vec n (aX (List.replicate n 0)),.lit (.int .u16 0),.vec ord.length (aX ord)]]:=⟨_,rfl⟩
 have l1:=ao (show H1.get H.next=some (.arr 0 83 [.vec n (aX (List.replicate n 0)),.lit (.int .u16 0),.vec ord.length (aX ord)]) by rw[hH1];exact dV ..);have n1:H1.next=H.next+1:=by rw[hH1];rfl
 have o1:Over H H1:=by rw[hH1];exact .ext _ _
 rw[<- hH1];refine W.aI 134217720 (by rfl) (fun ρ H'=>∃ k:Nat,ρ 4=aa k/\k<=n/\Over H1 H'/\aB H1.next H' 3 (ρ 3) (ints (List.replicate k 1))) (fun ρ H=>n - (iv (ρ 4)).toNat) ?_ ?_
 ·simp only[go_sem];exact⟨0,rfl,by omega,.refl _,.nil⟩
 rintro ρ H' ⟨k,h4,hk,ov,h3⟩;refine W.en (fun E=>E 1=.ptr H.next 0 0 /\ E 3=ρ 3 /\ E 4=aa k) (by simp only[go_sem,h4]) fun E ⟨e1,e3,e4⟩=>?_
 refine W.vs ?_;have l2:=(ov.live (g:=0) (by omega:H.next<H1.next)).trans l1;by_cases hb:(k:Int)<n
 ·have h5:(k:Int)<5:=by omega
  have hg:(aX (List.replicate n 0))[k]?=some (.lit (.int .u8 0)):=qU (by rw[Sz,RC (by omega)]);have hne:=aK hg;obtain⟨v',H2,hA,ov2,hO,hn2,_⟩:=mo 1 ov h3 (by simp;omega);have w1:=Rw ((k:Int)+1) (by omega);have hk0:(k:Int) >= 0:=by omega
  have w5:IntKind.i64.wrap (1+IntKind.i64.wrap (Int.tmod 0 4))=1:=by decide
  simp only[go_sem,e1,e3,e4,l2,hb,h5,hk0,hg,hne,w1,w5,hA];refine⟨by have:=ov2.next;omega,⟨k+1,rfl,by omega,ov2,?_⟩,by rw[h4];simp only[aa,aM];omega⟩;rw[Vg];exact hO
 ·simp only[go_sem,e1,e3,e4,l2,hb];obtain rfl:k=n:=by omega
  exact av.cK aZ hcl (o1.trans ov) (h3.qq fun i hi=>by omega) hK
structure IsPerm (n:Nat)(p:List Int):Prop where
 len:p.length=n
 nd:p.Nodup
 rng:∀ x∈p,0<=x/\x<n
theorem PH {n:Nat}{p:List Int}(h:IsPerm n p)(at':Nat)(ha:at'<=n):IsPerm (n+1) (p.take at'++(n:Int) :: p.drop at'):=by
 have hperm:(p.take at'++(n:Int) :: p.drop at').Perm ((n:Int) :: p):=by
  have:=List.perm_middle (a:=(n:Int)) (l₁:=p.take at') (l₂:=p.drop at')
  rwa [Sc]at this
 refine⟨by rw[hperm.length_eq];simp [h.len],(hperm.nodup_iff).2 (TY.2 ⟨fun hm=>?_,h.nd⟩),fun x hx=>?_⟩
 ·have:=h.rng _ hm;omega
 ·rcases List.mem_cons.1 (hperm.mem_iff.1 hx) with rfl|h2
  ·omega
  ·have:=h.rng x h2;omega
def kM (ord:List Int)(k:Nat):Nat:=if k<ord.length then (ord.getD k 0 % ((k:Int)+1)).toNat else 0
def eo (ord:List Int):Nat->List Int
 | 0=>[]
 | k+1=>(eo ord k).take (kM ord k)++(k:Int) :: (eo ord k).drop (kM ord k)
theorem PI (ord:List Int)(k:Nat):kM ord k<=k:=by
 unfold kM;split
 ·have:=TA (ord.getD k 0) (show 0<(k:Int)+1 by omega);omega
 ·omega
theorem yg (ord:List Int):∀ n:Nat,IsPerm n (eo ord n)
 | 0=>⟨rfl,by simp [eo],by simp [eo]⟩
 | n+1=>PH (yg ord n) _ (PI ord n)
set_option maxHeartbeats 1000000 in
theorem PJ (n:Nat)(hn:n<=5)(ord:List Int)(hol:(ord.length:Int)<2 ^ 63)(ho8:∀ x∈ord,U8 x)(H:AHeap)(K:ARes->AHeap->Prop)(hK:∀ v H',Over H H'->aB H.next H' 3 v (ints (eo ord n))->K (.ret v) H'):
  ae Try.prog G0 35 [.agg [.vec n (aX (List.replicate n 0)),.lit (.int .u16 0),.vec ord.length (aX ord)]] H K:=by
 refine ae.clo ⟨_,Try.func35,rfl,rfl⟩ fun hcl=>?_;refine ae.bH (n:=42) (rs:=[.tmp 2]) Try.func35 rfl rfl rfl (by decide) (by kernel_rfl) (by simp) ?_;simp only[go_sem];obtain⟨H1,hH1⟩:∃ H1,H1=ext H [.arr 0 83 [.vec n (aX (List.replicate n 0)),.lit (.int .u16 0),.vec ord.length (aX ord)]]:=⟨_,rfl⟩
 have l1:=ao (show H1.get H.next=some (.arr 0 83 [.vec n (aX (List.replicate n 0)),.lit (.int .u16 0),.vec ord.length (aX ord)]) by rw[hH1];exact dV ..);have n1:H1.next=H.next+1:=by rw[hH1];rfl
 have o1:Over H H1:=by rw[hH1];exact .ext _ _
 rw[<- hH1];refine W.aI 2199023255544 (by rfl) (fun ρ H'=>∃ (k:Nat) (p:List Int),ρ 4=aa k/\k<=n/\p=eo ord k/\Over H1 H'/\aB H1.next H' 3 (ρ 3) (ints p)) (fun ρ H=>n - (iv (ρ 4)).toNat) ?_ ?_
 ·simp only[go_sem];exact⟨0,[],rfl,by omega,rfl,.refl _,.nil⟩
 rintro ρ H' ⟨k,p,h4,hk,hpe,ov,h3⟩;have hp:IsPerm k p:=by rw[hpe];exact yg ord k
 refine W.en (fun E=>E 1=.ptr H.next 0 0 /\ E 3=ρ 3 /\ E 4=aa k) (by simp only[go_sem,h4]) fun E ⟨e1,e3,e4⟩=>?_
 refine W.vs ?_;have l2:=(ov.live (g:=0) (by omega:H.next<H1.next)).trans l1;simp only[go_sem,e1,l2];refine az.clo (PG n hn ord _ _ ⟨trivial,?_⟩);by_cases hb:(k:Int)<n;rotate_left
 ·simp only[go_sem,S7,e3,e4,hb];obtain rfl:k=n:=by omega
  exact av.mk (o1.trans ov).next (hK _ _ (o1.trans ov) (by rw[<- hpe];exact h3.keep (by omega) (Nat.le_refl _) fun _ _ _ _ _ _=>rfl))
  -- the place
 rcases h3 with ⟨h3n,hpn⟩|⟨oi,og,hoi1,hoi2,h3o,hog⟩
 ·have p0:p=[]:=by cases p with
   | nil=>rfl
   | cons a l=>simp [ints]at hpn
  have pl:=hp.len;rw[p0]at pl;obtain rfl:k=0:=by simpa using pl.symm
  rw[h3n]at e3;have e4':E 4=aa 0:=e4;have hb':(0:Int)<n:=hb;by_cases ho:(0:Int)<ord.length
  ·obtain⟨b,hbg⟩:=get_of_lt (l:=ord) (i:=0) (by omega);have b8:=ho8 b (Ry hbg);have hbg':=qU hbg;have hbne:=aK hbg';have w2:IntKind.i64.wrap b=b:=Rw b (by have:=b8.1;have:=b8.2;omega);have w1:IntKind.i64.wrap 1=1:=(by decide);have m1:b.tmod 1=0:=(by simp);obtain⟨v2,Hb,hA2,ovB,hO2,hn2,hp2⟩:=mo (H:=H') (H':=H') (l:=[]) (v:=.lit (.slice none 0 0)) (0:Int) (.refl _) aB.nil (by simp);obtain⟨v3,Hc,hA3,hO3,hn3,hp3⟩:=ph (P:=Try.prog) (H:=Hb) (t:=39) (n:=Hb.next) (m:=0) (v:=v2) (x:=.lit (.slice none 0 0)) (src:=[]) Try.underlying39 Try.fX Try.iq rfl rfl rfl (by rw[Try.jC];exact⟨by decide,by decide⟩) hO2 ovB.next rfl;have ovC:Over H' Hc:=nA ovB hO2 hn3 hp3;have hA1:bF Try.prog H' H'.next 39 39 (.lit (.slice none 0 0)) (.lit (.slice none 0 0))=some (.lit (.slice none 0 0),H'):=by
    unfold bF;rw[Try.underlying39];simp only[Try.iq,Try.fX,Option.bind_some,vG,if_true]
   have hO3':aB H1.next Hc 3 v3 (ints [0]):=by
    rw[List.append_nil]at hO3;exact hO3.keep ov.next (Nat.le_refl _) fun _ _ _ _ _ _=>rfl
   simp only[go_sem,S7,e1,e3,e4',l2,hb',ho,hbg',hbne,w1,w2,m1,hA1,hA2,hA3];refine⟨by have:=ovC.next;have:=ov.next;omega,⟨1,[0],rfl,by omega,by simp [eo],ov.trans ovC,hO3'⟩,by rw[h4];simp only[aa,aM];omega⟩
  ·have w1:IntKind.i64.wrap 1=1:=(by decide);obtain⟨v2,Hb,hA2,ovB,hO2,hn2,hp2⟩:=mo (H:=H') (H':=H') (l:=[]) (v:=.lit (.slice none 0 0)) (0:Int) (.refl _) aB.nil (by simp);obtain⟨v3,Hc,hA3,hO3,hn3,hp3⟩:=ph (P:=Try.prog) (H:=Hb) (t:=39) (n:=Hb.next) (m:=0) (v:=v2) (x:=.lit (.slice none 0 0)) (src:=[]) Try.underlying39 Try.fX Try.iq rfl rfl rfl (by rw[Try.jC];exact⟨by decide,by decide⟩) hO2 ovB.next rfl;have ovC:Over H' Hc:=nA ovB hO2 hn3 hp3;have hA1:bF Try.prog H' H'.next 39 39 (.lit (.slice none 0 0)) (.lit (.slice none 0 0))=some (.lit (.slice none 0 0),H'):=by
    unfold bF;rw[Try.underlying39];simp only[Try.iq,Try.fX,Option.bind_some,vG,if_true]
   have hO3':aB H1.next Hc 3 v3 (ints [0]):=by
    rw[List.append_nil]at hO3;exact hO3.keep ov.next (Nat.le_refl _) fun _ _ _ _ _ _=>rfl
   simp only[go_sem,S7,e1,e3,e4',l2,hb',ho,w1,hA1,hA2,hA3];refine⟨by have:=ovC.next;have:=ov.next;omega,⟨1,[0],rfl,by omega,by simp [eo],ov.trans ovC,hO3'⟩,by rw[h4];simp only[aa,aM];omega⟩
 rw[h3o]at e3;have lo:=ao hog;by_cases ho:(k:Int)<ord.length
 ·obtain⟨b,hbg⟩:=get_of_lt (l:=ord) (i:=k) (by omega);have b8:=ho8 b (Ry hbg);have hbg':=qU hbg;have hbne:=aK hbg';have w0:=Rw ((k:Int)+1) (by omega);have w1:=w0;have w2:IntKind.i64.wrap b=b:=Rw b (by have:=b8.1;have:=b8.2;omega);have m1:b.tmod ((k:Int)+1)=b % ((k:Int)+1):=Sx b8.1;have m2:=TZ b (show (k:Int)+1≠0 by omega);have m3:=TA b (show 0<(k:Int)+1 by omega);have hz:¬ (k:Int)+1=0:=by omega
  obtain⟨a,hat⟩:=R7 m2;have ha:a<=k:=by omega
  have hac:(0:Int)<=(a:Int):=by omega
  have hap:(a:Int)<=(p.length:Int):=by rw[hp.len];omega
  have hak:(0:Int)<=(a:Int)/\(a:Int)<=(p.length:Int):=⟨hac,hap⟩
  have pl:p.length=k:=hp.len;obtain⟨v1,Ha,hA1,hO1,hn1,hp1⟩:=ph (P:=Try.prog) (H:=H') (t:=39) (n:=H'.next) (m:=a) (v:=.lit (.slice none 0 0)) (x:=.own oi og 0 a 1) (src:=(ints p).take a) Try.underlying39 Try.fX Try.iq
   (by rw[qp,RC rfl,lo];simp) (by simp [bO]<;>omega) (Sg.2 fun c hc=>by
    obtain⟨z,_,rfl⟩:=RI.1 (RS hc);rfl) (by rw[Try.jC];simp<;>omega) aB.nil (Nat.le_refl _) rfl
  have ovA:Over H' Ha:=⟨hn1,fun id hi=>hp1 id hi fun g n h=>by cases h⟩
  rw[List.nil_append,DN]at hO1;obtain⟨v2,Hb,hA2,ovB,hO2,hn2,hp2⟩:=mo (k:Int) ovA hO1 (by simp<;>omega);have hcl2:(ints (p.take a++[(k:Int)])).length<=k+1:=by rw[bO,List.length_append,RH];simp<;>omega
  have hlb:Hb.live oi og=some (3,ints p):=(ovB.live hoi2).trans lo;obtain⟨v3,Hc,hA3,hO3,hn3,hp3⟩:=ph (P:=Try.prog) (H:=Hb) (t:=39) (n:=Hb.next) (m:=p.length - a) (v:=v2) (x:=.own oi og a (p.length - a) 1) (src:=(ints p).drop a) Try.underlying39 Try.fX Try.iq
   (by rw[qp,RC rfl,hlb];simp [RA,bO]) (by simp [bO]) (Sg.2 fun c hc=>by
    obtain⟨z,_,rfl⟩:=RI.1 (SR hc);rfl) (by rw[Try.jC];omega) hO2 ovB.next rfl
  have ovC:Over H' Hc:=nA ovB hO2 hn3 hp3;have hla:Ha.live oi og=some (3,ints p):=(ovA.live hoi2).trans lo;rw[DO]at hO3;have hO3':aB H1.next Hc 3 v3 (ints (p.take a++(k:Int) :: p.drop a)):=by
   have:ints (p.take a++[(k:Int)])++ints (p.drop a)=ints (p.take a++(k:Int) :: p.drop a):=(by simp [ints]);rw[this]at hO3;exact hO3.keep ov.next (Nat.le_refl _) fun _ _ _ _ _ _=>rfl
  simp only[go_sem,S7,e1,e3,e4,l2,hb,ho,hbg',hbne,w0,w2,m1,hz,hat,hac,hap,Int.toNat_natCast,lo,hlb,hA1,hA2,hA3];refine⟨by have:=ovC.next;omega,⟨k+1,_,rfl,by omega,by rw[eo,<- hpe,show kM ord k=a by unfold kM;rw[RC (by omega),aO hbg,hat];rfl],ov.trans ovC,hO3'⟩,by rw[h4];simp only[aa,aM];omega⟩
 ·have w0:=Rw ((k:Int)+1) (by omega);have pl:p.length=k:=hp.len;obtain⟨v1,Ha,hA1,hO1,hn1,hp1⟩:=ph (P:=Try.prog) (H:=H') (t:=39) (n:=H'.next) (m:=0) (v:=.lit (.slice none 0 0)) (x:=.own oi og 0 0 1) (src:=(ints p).take 0) Try.underlying39 Try.fX Try.iq
   (by rw[qp,RC rfl,lo];simp) (by simp [bO]<;>omega) (Sg.2 fun c hc=>by
    obtain⟨z,_,rfl⟩:=RI.1 (RS hc);rfl) (by rw[Try.jC];simp<;>omega) aB.nil (Nat.le_refl _) rfl
  have ovA:Over H' Ha:=⟨hn1,fun id hi=>hp1 id hi fun g n h=>by cases h⟩
  rw[List.nil_append,DN]at hO1;obtain⟨v2,Hb,hA2,ovB,hO2,hn2,hp2⟩:=mo (k:Int) ovA hO1 (by simp<;>omega);have hcl2:(ints (p.take 0++[(k:Int)])).length<=k+1:=by rw[bO,List.length_append,RH];simp<;>omega
  have hlb:Hb.live oi og=some (3,ints p):=(ovB.live hoi2).trans lo;obtain⟨v3,Hc,hA3,hO3,hn3,hp3⟩:=ph (P:=Try.prog) (H:=Hb) (t:=39) (n:=Hb.next) (m:=p.length) (v:=v2) (x:=.own oi og 0 (p.length) 1) (src:=(ints p).drop 0) Try.underlying39 Try.fX Try.iq
   (by rw[qp,RC rfl,hlb];simp [RA,bO]) (by simp [bO]) (Sg.2 fun c hc=>by
    obtain⟨z,_,rfl⟩:=RI.1 (SR hc);rfl) (by rw[Try.jC];omega) hO2 ovB.next rfl
  have ovC:Over H' Hc:=nA ovB hO2 hn3 hp3;have hla:Ha.live oi og=some (3,ints p):=(ovA.live hoi2).trans lo;rw[DO]at hO3;have hO3':aB H1.next Hc 3 v3 (ints (p.take 0++(k:Int) :: p.drop 0)):=by
   have:ints (p.take 0++[(k:Int)])++ints (p.drop 0)=ints (p.take 0++(k:Int) :: p.drop 0):=(by simp [ints]);rw[this]at hO3;exact hO3.keep ov.next (Nat.le_refl _) fun _ _ _ _ _ _=>rfl
  simp only[go_sem,S7,e1,e3,e4,l2,hb,ho,w0,lo,hlb,hA1,hA2,hA3];refine⟨by have:=ovC.next;omega,⟨k+1,_,rfl,by omega,by rw[eo,<- hpe,show kM ord k=0 by unfold kM;rw[RB (by omega)]],ov.trans ovC,hO3'⟩,by rw[h4];simp only[aa,aM];omega⟩
structure D25 where
 cards:List Int
 cases:List (List Int)
 follow:Int
 miss:List Int
def Nx (l:List (List Int)):List AVal:=(l.map aX).flatten
def D25.cells (d:D25):List AVal:=[.vec d.cards.length (aX d.cards),.vec d.cases.length (Nx d.cases),.lit (.int .u8 d.follow),.vec d.miss.length (aX d.miss)]
structure D25.Ok (d:D25):Prop where
 cl:(d.cards.length:Int)<2 ^ 63
 c8:∀ x∈d.cards,U8 x
 xl:(d.cases.length:Int)<2 ^ 63
 x8:∀ r∈d.cases,r.length=5/\∀ x∈r,U8 x
 f8:U8 d.follow
 ml:(d.miss.length:Int)<2 ^ 63
 m8:∀ x∈d.miss,U8 x
def xL (n:Nat)(xs:List (List Int)):Prop:=∀ r∈xs,r.length=n
theorem xL.set {n:Nat}{xs:List (List Int)}(h:xL n xs){i:Nat}{r:List Int}(hr:r.length=n):xL n (xs.set i r):=fun q hq=>by
 rcases SO hq with h'|rfl
 ·exact h q h'
 ·exact hr
end Go.Proofs
namespace Go.Hx
variable {P:Program} {G:Nat->Option (List AVal)}
def AHeap.eJ (H:AHeap)(n ob:Nat)(b:Blk):AHeap:=⟨fun id=>if n<=id then none else if id=ob then some b else H.get id,H.next⟩
theorem C8 {H:AHeap}{n ob:Nat}{b:Blk}(h:ob<n):(H.eJ n ob b).get ob=some b:=by simp [AHeap.eJ,Nat.not_le.2 h]
theorem uv {H:AHeap}{n ob id:Nat}{b:Blk}(h:id<n)(h2:id≠ob):(H.eJ n ob b).get id=H.get id:=by simp [AHeap.eJ,Nat.not_le.2 h,h2]
theorem PF {H:AHeap}(hc:Clo H){n ob g:Nat}{e:TypeId}{cells cells':List AVal}(hob:H.get ob=some (.arr g e cells))(hlt:ob<n)(hl:cells'.length=cells.length)
  (hcell:∀ i (h:i<cells.length) (h':i<cells'.length),Fz (fun id=>n<=id) H H.next cells[i] cells'[i]):FzH (fun id=>n<=id) H (H.eJ n ob (.arr g e cells')) where
 gone id hs:=by simp [AHeap.eJ,hs]
 kept id b hs hb:=by
  have hbb:=hc.below id b hb;refine⟨hc.lt id b hb,?_⟩;by_cases h:id=ob
  ·subst h;rw[hob]at hb;cases hb;exact⟨.arr g e cells',by simp [AHeap.eJ,hs],rfl,rfl,hl,hcell⟩
  ·refine⟨b,by simp [AHeap.eJ,hs,h,hb],?_⟩;cases b with
   | rsv=>trivial
   | mp=>rfl
   | arr g e cells=>exact⟨rfl,rfl,rfl,fun i h _=>.dead (hbb i h)⟩
   | loop st pend n env ps asg body=>exact⟨rfl,rfl,rfl,rfl,rfl,rfl,rfl,fun t ht=>.dead (hbb t ht)⟩
 none id hs hb:=by
  by_cases h:id=ob
  ·subst h;rw[hob]at hb;cases hb
  ·simp [AHeap.eJ,hs,h,hb]
theorem dv.eJ (hG:fH G){s:St}{n ob g:Nat}{e:TypeId}{cells cells':List AVal}(hob:s.H.get ob=some (.arr g e cells))(hlt:ob<n)(hl:cells'.length=cells.length)
  (hcell:∀ i (h:i<cells.length) (h':i<cells'.length),Fz (fun id=>n<=id) s.H s.H.next cells[i] cells'[i]):dv P G s ⟨s.ρ,s.H.eJ n ob (.arr g e cells')⟩:=by
 intro n' wb Γ a w hs;exact dv.freeze (s:=s) (s':=⟨s.ρ,s.H.eJ n ob (.arr g e cells')⟩) hG (PF hs.heap.clo hob hlt hl hcell) (fun t=>.dead (hs.env t).qg) n' wb Γ a w hs
theorem iR.upd {lo:Nat}{H:AHeap}{e1 e0:TypeId}{v:AVal}{rows:List (List AVal)}(h:iR lo H e1 e0 v rows){k:Nat}{b:Blk}(hk:k<lo):iR lo (H.upd k b) e1 e0 v rows:=by
 obtain⟨cs,c1,c2,c3⟩:=h;refine⟨cs,c1.keep (Nat.le_refl _) (by rw[aL];exact Nat.le_refl _) fun id _ h1 _ _ _=>by rw[aj,RB (by omega)],c2,fun j r c hr hc=>(c3 j r c hr hc).keep (Nat.le_refl _) (by rw[aL];exact Nat.le_refl _) fun id _ h1 _ _ _=>by rw[aj,RB (by omega)]⟩
end Go.Hx
namespace Go.Proofs
open Go.Hx
theorem nt {l:List Int}(h:∀ x∈l,0<=x):0<=l.sum:=by
 induction l with
 | nil=>simp
 | cons a l ih =>
  rw[RZ];have:=h a (by simp);have:=ih fun x hx=>h x (by simp [hx]);omega
theorem C9 {l:List Int}{i:Nat}{a b:Int}(h:l[i]?=some a):(l.set i b).sum=l.sum - a+b:=by
 induction l generalizing i with
 | nil=>simp at h
 | cons x l ih =>
  cases i with
  | zero=>simp at h;subst h;simp only[List.set_cons_zero,RZ];omega
  | succ i =>
   simp only[List.set_cons_succ,RZ];rw[ih (by simpa using h)];omega
theorem PK {l:List Int}{b:Int}(h:∀ x∈l,0<=x/\x<=b):l.sum<=b*l.length:=by
 induction l with
 | nil=>simp
 | cons a l ih =>
  rw[RZ,List.length_cons];have:=(h a (by simp)).2;have:=ih fun x hx=>h x (by simp [hx]);rw[show b*((l.length+1:Nat):Int)=b*l.length+b by rw[Int.natCast_add,Tm];simp];omega
def wF (n:Nat)(bs:List Int)(from':Int):List Int:=(List.range n).map fun (k:Nat)=>if bs.length=0 then 0 else bs.getD ((from'+(k:Int)) % (bs.length:Int)).toNat 0 % 8
theorem Da (n:Nat)(bs:List Int)(from':Int):(wF n bs from').length=n:=by simp [wF]
theorem Db {n:Nat}(bs:List Int)(from':Int){k:Nat}(h:k<n):(wF n bs from')[k]?=some (if bs.length=0 then 0 else bs.getD ((from'+(k:Int)) % (bs.length:Int)).toNat 0 % 8):=by
 unfold wF;rw[List.getElem?_map,Sm h];rfl
theorem PL (n:Nat)(bs:List Int)(from':Int):∀ x∈wF n bs from',0<=x/\x<=7:=fun x hx=>by
 unfold wF at hx;obtain⟨k,_,rfl⟩:=RI.1 hx;split<;>omega
def uw (g s:Int)(st:List Int × Nat)(m:Nat):List Int × Nat:=if 0<st.1.getD m 0 then (st.1.set m (g*st.1.getD m 0 / s),m) else st
def iz (g:Int)(c:List Int)(m:Nat):List Int × Nat:=(List.range m).foldl (uw g c.sum) (c,0)
theorem Dc (g:Int)(c:List Int)(m:Nat):iz g c (m+1)=uw g c.sum (iz g c m) m:=by unfold iz;rw[SN,SZ];rfl
def mg (g:Int)(n:Nat)(bs:List Int)(from':Int):List Int:=(iz g (wF n bs from') n).1.set (iz g (wF n bs from') n).2 ((iz g (wF n bs from') n).1.getD (iz g (wF n bs from') n).2 0+(g - (iz g (wF n bs from') n).1.sum))
structure RInv (g:Int)(c:List Int)(m:Nat)(d:List Int)(last:Nat):Prop where
 dl:d.length=c.length
 d0:∀ x∈d,0<=x
 dd:d.drop m=c.drop m
 dg:(d.take m).sum<=g
 ds:c.sum*(d.take m).sum<=g*(c.take m).sum
 la:last<c.length
theorem Dd {g:Int}{c:List Int}(hg:1<=g)(hc:∀ x∈c,0<=x)(hl:0<c.length):∀ m,m<=c.length->RInv g c m (iz g c m).1 (iz g c m).2:=by
 intro m
 induction m with
 | zero=>intro _;exact⟨rfl,hc,rfl,by simp;omega,by simp,hl⟩
 | succ m ih =>
  intro hm;obtain⟨hdl,hd0,hdd,hdg,hds,hla⟩:=ih (by omega);rw[Dc];generalize iz g c m=st at *
  obtain⟨d,last⟩:=st;simp only at hdl hd0 hdd hdg hds hla;obtain⟨x,hcx⟩:=get_of_lt (l:=c) (i:=m) (by omega);have hx0:=hc x (Ry hcx);have hdx:d[m]?=some x:=by
   have h1:(d.drop m)[0]?=d[m]?:=(by rw[SS];rfl);have h2:(c.drop m)[0]?=c[m]?:=(by rw[SS];rfl);rw[<- h1,hdd,h2,hcx]
  have hdd':d.drop (m+1)=c.drop (m+1):=by
   have:=congrArg (List.drop 1) hdd
   rwa [TO,TO]at this
  have hct:(c.take (m+1)).sum=(c.take m).sum+x:=by rw[aP hcx];simp
  have hcs:(c.take (m+1)).sum+(c.drop (m+1)).sum=c.sum:=by rw[<- TX,Sc]
  have hcd0:=nt (l:=c.drop (m+1)) fun y hy=>hc y (SR hy);have hc00:=nt (l:=c.take m) fun y hy=>hc y (RS hy);have hd00:=nt (l:=d.take m) fun y hy=>hd0 y (RS hy);unfold uw;rw[aO hdx];by_cases hx:0<x
  ·rw[RC hx];have gx:0<=g*x:=SD (by omega) hx0;have y0:0<=g*x / c.sum:=Tt gx (by omega);have y2:c.sum*(g*x / c.sum)<=g*x:=Vi (by omega);have dt:((d.set m (g*x / c.sum)).take (m+1)).sum=(d.take m).sum+g*x / c.sum:=by
    rw[aP (RO (by omega)),TT (Nat.le_refl _)];simp
   have hs2:c.sum*((d.take m).sum+g*x / c.sum)<=g*(c.take (m+1)).sum:=by
    rw[Tm,hct,Tm];omega
   have hle:(d.take m).sum+g*x / c.sum<=g:=by
    have h1:g*(c.take (m+1)).sum<=g*c.sum:=Sd (by omega) (by omega);have h2:c.sum*((d.take m).sum+g*x / c.sum)<=c.sum*g:=(by rw[Te c.sum g];omega);exact U0 h2 (by omega)
   refine⟨by simp [hdl],fun y hy=>?_,?_,by dsimp only;rw[dt];exact hle,by dsimp only;rw[dt];exact hs2,by dsimp only;omega⟩
   ·rcases SO hy with h|h
    ·exact hd0 y h
    ·omega
   ·rw[<- hdd',List.drop_set_of_lt (by omega)]
  ·rw[RB hx];have x0:x=0:=(by omega);have dt:(d.take (m+1)).sum=(d.take m).sum:=(by rw[aP hdx,x0];simp);rw[x0,UR]at hct;exact⟨hdl,hd0,hdd',by dsimp only;rw[dt];exact hdg,by dsimp only;rw[dt,hct];exact hds,hla⟩
theorem PM {g:Int}{n:Nat}(hg:1<=g)(hn:1<=n)(bs:List Int)(from':Int):kP g n (mg g n bs from'):=by
 have hw:=Da n bs from';have I:=Dd (g:=g) (c:=wF n bs from') hg (fun x hx=>(PL n bs from' x hx).1) (by omega) n (by omega);unfold mg;generalize iz g (wF n bs from') n=st at *
 obtain⟨d,last⟩:=st;obtain⟨hdl,hd0,hdd,hdg,hds,hla⟩:=I;dsimp only at hdl hd0 hdd hdg hds hla ⊢;obtain⟨y,hy⟩:=get_of_lt (l:=d) (i:=last) (by omega);have y0:=hd0 y (Ry hy);rw[aO hy];rw[RA (by omega)]at hdg;have hs:(d.set last (y+(g - d.sum))).sum=g:=by rw[C9 hy];omega
 have h0:∀ w∈d.set last (y+(g - d.sum)),0<=w:=fun w hw=>by
  rcases SO hw with h|h
  ·exact hd0 w h
  ·omega
 exact⟨by simp [hdl,hw],fun w hw=>⟨h0 w hw,by have:=pz h0 w hw;omega⟩,hs⟩
set_option maxHeartbeats 2000000 in
theorem PN (g:Int)(n:Nat)(hg:1<=g/\g<=60)(hn:1<=n/\n<=4)(bs:List Int)(hbl:(bs.length:Int)<2 ^ 63)(hb8:∀ x∈bs,U8 x)(from':Int)(hf:0<=from'/\from'<=1000000)(H:AHeap)(K:ARes->AHeap->Prop)(hK:∀ v H',Over H H'->aB H.next H' 3 v (ints (mg g n bs from'))->K (.ret v) H'):
  ae Try.prog G0 38 [aa g,aa n,.vec bs.length (aX bs),aa from'] H K:=by
 refine ae.clo ⟨_,Try.func38,rfl,rfl⟩ fun hcl=>?_;refine ae.bH (n:=84) (rs:=[.tmp 8]) Try.func38 rfl rfl rfl (by decide) (by kernel_rfl) (by simp) ?_;simp only[go_sem];refine⟨by omega,?_⟩;refine W.aI 35184371960832 (by rfl) (fun ρ H'=>∃ (k:Nat) (c:List Int),ρ 11=aa k/\k<=n/\c.length=n/\(∀ x∈c,0<=x/\x<=7)/\(∀ j x,k<=j->c[j]?=some x->x=0)/\(∀ j,j<k->c[j]?=(wF n bs from')[j]?)/\ρ 10=aa c.sum/\OwnI H H' H.next c) (fun ρ H=>n - (iv (ρ 11)).toNat) ?_ ?_
 ·simp only[go_sem];refine⟨0,List.replicate n 0,rfl,by omega,by simp,fun x hx=>?_,fun j x _ hx=>?_,fun j hj=>by omega,by simp,?_⟩
  ·have:=S8 hx;omega
  ·exact S8 (Ry hx)
  ·exact .new [] _
 rintro ρ H' ⟨k,c,h11,hk,hcl',hc7,hc0,hcw,h10,ho⟩;refine W.en (fun E=>E 0=aa g /\ E 1=aa n /\ E 2=.vec bs.length (aX bs) /\ E 3=aa from' /\ E 9=.own H.next 0 0 n 1 /\ E 10=aa c.sum /\ E 11=aa k) (by simp only[go_sem,h10,h11]) fun E ⟨e0,e1,e2,e3,e9,e10,e11⟩=>?_
 refine W.vs ?_;have lN:=ho.live;have hs0:=nt fun x hx=>(hc7 x hx).1;have hs1:=PK hc7;by_cases hb:(k:Int)<n
 ·have hck:c[k]?=some 0:=by
   obtain⟨a,ha⟩:=get_of_lt (l:=c) (i:=k) (by omega);rw[ha,hc0 k a (Nat.le_refl _) ha]
  have hcne:=aK hck;have hk0:(k:Int) >= 0:=by omega
  have w1:=Rw ((k:Int)+1) (by omega);by_cases hz:(0:Int)<bs.length
  ·have hzn:¬ (bs.length:Int)=0:=(by omega);have w2:=Rw (from'+k) (by omega);have m1:(from'+(k:Int)).tmod bs.length=(from'+k) % bs.length:=Sx (by omega);have m2:=TZ (from'+k) hzn;have m3:=TA (from'+k) hz;obtain⟨q,hq⟩:=R7 m2;have hq0:(q:Int) >= 0:=(by omega);have hql:(q:Int)<bs.length:=(by omega);obtain⟨b,hbg⟩:=get_of_lt (l:=bs) (i:=q) (by omega);have b8:=hb8 b (Ry hbg);have hbg':=qU hbg;have hbne:=aK hbg';have t1:b.tmod 8=b % 8:=Sx b8.1;have w3:IntKind.u8.wrap (b % 8)=b % 8:=UJ _ (by omega);have w4:IntKind.i64.wrap (b % 8)=b % 8:=Rw _ (by omega);have w5:=Rw (c.sum+b % 8) (by omega);have hsg:(setAt (ints c) k [.lit (.int .i64 (b % 8))])[k]?=some (.lit (.int .i64 (b % 8))):=by
    rw[fa (by omega),gI,RO (by omega)];rfl
   simp only[go_sem,hsg,e1,e2,e3,e9,e10,e11,hb,hz,hzn,w1,w2,m1,hq,hq0,hql,hbg',hbne,t1,w4,w5,hk0,lN];refine⟨by omega,by have:=ho.hi;rw[aL];omega,⟨k+1,c.set k (b % 8),rfl,by omega,by simp [hcl'],fun x hx=>?_,fun j x hj hx=>?_,fun j hj=>?_,by rw[C9 hck,Int.sub_zero],ho.store (by omega) _⟩,by rw[h11];simp only[aa,aM];omega⟩
   ·rcases SO hx with h|h
    ·exact hc7 x h
    ·omega
   ·rw[R9 (by omega)]at hx;exact hc0 j x (by omega) hx
   ·by_cases hjk:j=k
    ·subst hjk;rw[RO (by omega),Db bs from' (by omega),RB (by omega),hq,Int.toNat_natCast,aO hbg]
    ·rw[R9 (by omega)];exact hcw j (by omega)
  ·have w5:=Rw (c.sum+0) (by omega);rw[UR]at w5;simp only[go_sem,e1,e2,e9,e10,e11,hb,hz,w1,w5,UR,hk0,hck,lN];refine⟨by have:=ho.hi;omega,⟨k+1,c,rfl,by omega,hcl',hc7,fun j x hj hx=>hc0 j x (by omega) hx,fun j hj=>by
    by_cases hjk:j=k
    ·subst hjk;rw[hck,Db bs from' (by omega),RC (by omega)]
    ·exact hcw j (by omega),rfl,ho⟩,by rw[h11];simp only[aa,aM];omega⟩
 ·obtain rfl:k=n:=by omega
  simp only[go_sem,e1,e11,hb];have hcwF:c=wF k bs from':=by
   apply Sf;intro j;rcases RP j k with h|h
   ·exact hcw j h
   ·rw[RF (by omega),RF (by rw[Da];exact h)]
  have hRI:=fun m (hm:m<=k)=>Dd (g:=g) (c:=c) hg.1 (fun x hx=>(hc7 x hx).1) (by omega) m (by omega);refine W.aI 18889465861109836705792 (by rfl) (fun ρ H2=>∃ (m last:Nat) (d:List Int),ρ 14=aa m/\m<=k/\iz g c m=(d,last)/\ρ 12=aa (g - (d.take m).sum)/\ρ 13=aa last/\H'.next<=H2.next/\OwnI H H2 H.next d) (fun ρ H=>k - (iv (ρ 14)).toNat) ?_ ?_
  ·simp only[go_sem,e0];exact⟨0,0,c,rfl,by omega,rfl,by simp,rfl,ho⟩
  rintro ρ2 H2 ⟨m,last,d,h14,hm,hrf,h12,h13,hnn,hod⟩;obtain⟨hdl,hd0,hdd,hdg,hds,hlast⟩:RInv g c m d last:=by have:=hRI m hm;rw[hrf]at this;exact this
  rw[hcl']at hdl hlast;have hrs:=Dc g c m;rw[hrf]at hrs;unfold uw at hrs;dsimp only at hrs;refine W.en (fun E2=>E2 0=aa g /\ E2 1=aa k /\ E2 9=.own H.next 0 0 k 1 /\ E2 10=aa c.sum /\ E2 12=aa (g - (d.take m).sum) /\ E2 13=aa last /\ E2 14=aa m) (by simp only[go_sem,e0,e1,e9,e10,h12,h13,h14]) fun E2 ⟨f0,f1,f9,f10,f12,f13,f14⟩=>?_
  refine W.vs ?_;have lN2:=hod.live;by_cases hb2:(m:Int)<k
  ·obtain⟨x,hcx⟩:=get_of_lt (l:=c) (i:=m) (by omega);have hx7:=hc7 x (Ry hcx);have hdx:d[m]?=some x:=by
    have h1:(d.drop m)[0]?=d[m]?:=(by rw[SS];rfl);have h2:(c.drop m)[0]?=c[m]?:=(by rw[SS];rfl);rw[<- h1,hdd,h2,hcx]
   have hdne:=aK hdx;have hm0:(m:Int) >= 0:=(by omega);have w1:=Rw ((m:Int)+1) (by omega);have hdd':d.drop (m+1)=c.drop (m+1):=by
    have:=congrArg (List.drop 1) hdd
    rwa [TO,TO]at this
   have hct:(c.take (m+1)).sum=(c.take m).sum+x:=(by rw[aP hcx];simp);have hcs:(c.take (m+1)).sum+(c.drop (m+1)).sum=c.sum:=(by rw[<- TX,Sc]);have hcd0:=nt (l:=c.drop (m+1)) fun y hy=>(hc7 y (SR hy)).1;have hc00:=nt (l:=c.take m) fun y hy=>(hc7 y (RS hy)).1;have hd00:=nt (l:=d.take m) fun y hy=>hd0 y (RS hy);by_cases hx:0<x
   ·have hsz:¬ c.sum=0:=(by omega);have gx:0<=g*x:=SD (by omega) hx7.1;have gx2:g*x<=60*7:=SX hg.2 hx7.2 hx7.1 (by omega);have w2:=Rw (g*x) (by omega);have t1:(g*x).tdiv c.sum=g*x / c.sum:=Sj gx;have y0:0<=g*x / c.sum:=Tt gx hs0;have y1:g*x / c.sum<=g*x:=TF _ gx;have y2:c.sum*(g*x / c.sum)<=g*x:=Vi (by omega);have w3:=Rw (g*x / c.sum) (by omega);have w4:=Rw (g - (d.take m).sum - g*x / c.sum) (by omega);have hsg:(setAt (ints d) m [.lit (.int .i64 (g*x / c.sum))])[m]?=some (.lit (.int .i64 (g*x / c.sum))):=by
     rw[fa (by omega),gI,RO (by omega)];rfl
    have dt:((d.set m (g*x / c.sum)).take (m+1)).sum=(d.take m).sum+g*x / c.sum:=by
     rw[aP (RO (by omega)),TT (Nat.le_refl _)];simp
    have hs2:c.sum*((d.take m).sum+g*x / c.sum)<=g*(c.take (m+1)).sum:=by
     rw[Tm,hct,Tm];omega
    have hle:(d.take m).sum+g*x / c.sum<=g:=by
     have h1:g*(c.take (m+1)).sum<=g*c.sum:=Sd (by omega) (by omega);have h2:c.sum*((d.take m).sum+g*x / c.sum)<=c.sum*g:=(by rw[Te c.sum g];omega);exact U0 h2 (by omega)
    simp only[go_sem,hsg,f0,f1,f9,f10,f12,f13,f14,hb2,hx,hsz,w1,w2,t1,w3,w4,hm0,hdx,lN2];rw[aO hdx,RC hx]at hrs;exact⟨by omega,by rw[aL];exact hnn,⟨m+1,m,d.set m (g*x / c.sum),rfl,by omega,hrs,by rw[dt];congr 2;omega,rfl,by rw[aL];exact hnn,hod.store (by omega) _⟩,by rw[h14];simp only[aa,aM];omega⟩
   ·have x0:x=0:=(by omega);have w4:=Rw (g - (d.take m).sum) (by omega);simp only[go_sem,f1,f9,f12,f13,f14,hb2,x0,w1,w4,hm0,hdx,Int.sub_zero,lN2];have dt:(d.take (m+1)).sum=(d.take m).sum:=(by rw[aP hdx,x0];simp);rw[x0,UR]at hct;rw[aO hdx,RB hx]at hrs;exact⟨hnn,⟨m+1,last,d,rfl,by omega,hrs,by rw[dt],rfl,hnn,hod⟩,by rw[h14];simp only[aa,aM];omega⟩
  ·obtain rfl:m=k:=(by omega);obtain⟨y,hy⟩:=get_of_lt (l:=d) (i:=last) (by omega);have hyne:=aK hy;have hl0:(last:Int) >= 0:=(by omega);have hlk:(last:Int)<m:=(by omega);have y0:=hd0 y (Ry hy);rw[RA (by omega)]at hdg hds h12 f12;have hyle:=pz hd0 y (Ry hy);have w1:=Rw (y+(g - d.sum)) (by omega);have hle:last+1<=d.length:=(by omega);simp only[go_sem,f1,f9,f12,f13,f14,hb2,hl0,hlk,hy,lN2,w1];refine⟨hle,?_⟩;have hrow:mg g m bs from'=d.set last (y+(g - d.sum)):=by
    unfold mg;rw[<- hcwF,hrf];dsimp only;rw[aO hy]
   rw[hrow]at hK;have ho2:=hod.store (k:=last) (by omega) (y+(g - d.sum));refine av.mk ho2.ov.next (hK _ _ ho2.ov (.inr ⟨_,0,ho2.lo,ho2.hi,?_,ho2.get⟩));rw[bO,RY,hdl]
structure DrP where
 card:Int
 par:Int
 w:List Int
def DrP.cells (x:DrP):List AVal:=[.lit (.int .u8 x.card),.lit (.int .u8 x.par),.vec x.w.length (aX x.w)]
def eL (l:List DrP):List AVal:=(l.map DrP.cells).flatten
def DrP.Ok (x:DrP):Prop:=U8 x.card/\U8 x.par/\(x.w.length:Int)<2 ^ 63/\∀ b∈x.w,U8 b
def yh (g:Int)(ps:List DrP)(ord:List Int):AVal:=.agg [.lit (.int .u8 g),.vec ps.length (eL ps),.vec ord.length (aX ord)]
theorem De {l:List DrP}{i:Nat}{x:DrP}(h:l[i]?=some x):((eL l).drop (i*3)).take 3=[.lit (.int .u8 x.card),.lit (.int .u8 x.par),.vec x.w.length (aX x.w)]:=pf (f:=DrP.cells) (z:=3) (fun _=>rfl) l i x h
theorem Df (l:List DrP):(eL l).length=l.length*3:=nh (f:=DrP.cells) (fun _=>rfl) l
def NodeP.bS (x:NodeP):List AVal:=if x.rows=[] then [aa x.card,.lit (.slice none 0 0),.lit (.slice none 0 0)] else [aa x.card,ab x.parents,aH x.rows]
def bh (l:List NodeP):List AVal:=(l.map NodeP.bS).flatten
theorem jI (x:NodeP):x.bS.length=3:=by unfold NodeP.bS;split<;>rfl
theorem Dg (l:List NodeP):(bh l).length=l.length*3:=nh (f:=NodeP.bS) jI l
theorem Dh {l:List NodeP}{i:Nat}{x:NodeP}(h:l[i]?=some x):(bh l)[i*3]?=some (aa x.card):=by
 have:=ng (f:=NodeP.bS) (z:=3) jI l i 0 x h (by omega);rw[Nat.add_zero]at this;rw[show (bh l)[i*3]?=_ from this];unfold NodeP.bS;split<;>rfl
theorem PO {l:List NodeP}(h:∀ x∈l,x.rows≠[]):bh l=ar l:=by
 unfold bh ar;congr 1;exact Sa fun x hx=>RB (h x hx)
theorem yi {α:Type}{f:α->List AVal}{z:Nat}(hz:∀ a,(f a).length=z):∀ (l:List α) (i:Nat) (a:α),i<l.length->((l.set i a).map f).flatten=((l.map f).flatten).take (i*z)++f a++((l.map f).flatten).drop (i*z+z):=by
 intro l
 induction l with
 | nil=>intro i a h;simp at h
 | cons b l ih =>
  intro i a h;cases i with
  | zero=>simp [hz]
  | succ i =>
   have hb:=hz b;simp only[List.set_cons_succ,List.map_cons,List.flatten_cons];rw[ih i a (by simpa using h),show (i+1)*z=z+i*z by rw[SM];omega,List.take_append,List.drop_append,hb];rw[RA (l:=f b) (i:=z+i*z) (by omega),T4 (l:=f b) (i:=z+i*z+z) (by omega),show z+i*z - z=i*z by omega,show z+i*z+z - z=i*z+z by omega];simp
theorem Di {S:Nat->Prop}{H:AHeap}{nx:Nat}{A B:List AVal}{i:Nat}{a b:AVal}(h:∀ j (h:j<A.length) (h':j<B.length),Fz S H nx A[j] B[j])(hab:Fz S H nx a b):∀ j (h:j<(A.set i a).length) (h':j<(B.set i b).length),Fz S H nx (A.set i a)[j] (B.set i b)[j]:=by
 intro j h1 h2;rw[Ut,Ut];split
 ·exact hab
 ·exact h j (by simpa using h1) (by simpa using h2)
theorem ux {S:Nat->Prop}{H:AHeap}{nx:Nat}(l:List (List Int)):Fz S H nx (aH l) (aH l):=.vec rfl fun i hi _=>by simp only[RQ];exact .dT _
theorem PP {S:Nat->Prop}{H:AHeap}{nx:Nat}(x:NodeP):∀ c∈x.bS,Fz S H nx c c:=by
 intro c hc;unfold NodeP.bS at hc;split at hc
 ·simp only[List.mem_cons,List.not_mem_nil,or_false]at hc;rcases hc with rfl|rfl|rfl<;>exact .lit _
 ·simp only[List.mem_cons,List.not_mem_nil,or_false]at hc;rcases hc with rfl|rfl|rfl
  ·exact .lit _
  ·exact .dT _
  ·exact ux _
theorem Dj {S:Nat->Prop}{H:AHeap}{nx:Nat}(l:List NodeP):∀ c∈bh l,Fz S H nx c c:=by
 intro c hc;unfold bh at hc;obtain⟨r,hr,hc⟩:=TS.1 hc;obtain⟨x,_,rfl⟩:=RI.1 hr;exact PP x c hc
theorem PQ {S:Nat->Prop}{H:AHeap}{nx:Nat}:∀ (l:List NodeP),(∀ x∈l,x.rows=[]->x.parents=[])->∀ (i:Nat) (h:i<(bh l).length) (h':i<(ar l).length),Fz S H nx (bh l)[i] (ar l)[i]:=by
 intro l
 induction l with
 | nil=>intro _ i h;simp [bh]at h
 | cons x l ih =>
  intro hx i h h';have e1:bh (x :: l)=x.bS++bh l:=by simp [bh]
  have e2:ar (x :: l)=x.cells++ar l:=by simp [ar]
  have l1:=jI x;have l2:x.cells.length=3:=rfl;have hc:∀ (i:Nat) (h:i<x.bS.length) (h':i<x.cells.length),Fz S H nx x.bS[i] x.cells[i]:=by
   intro i h h';by_cases hr:x.rows=[]
   ·have hp:=hx x (by simp) hr;have ez:x.bS=[aa x.card,.lit (.slice none 0 0),.lit (.slice none 0 0)]:=RC hr;have ec:x.cells=[aa x.card,ab [],aH []]:=(by unfold NodeP.cells;rw[hr,hp]);simp only[ez,ec]
    match i,h' with
    | 0,_=>exact .lit _
    | 1,_=>exact .nil
    | 2,_=>exact .nil
   ·have ez:x.bS=x.cells:=RB hr;simp only[ez]
    match i,h' with
    | 0,_=>exact .lit _
    | 1,_=>exact .dT _
    | 2,_=>exact ux _
  simp only[e1,e2];by_cases hi:i<3
  ·rw[SI (by omega),SI (by omega)];exact hc i (by omega) (by omega)
  ·rw[SP (by omega),SP (by omega)];simp only[l1,l2];exact ih (fun y hy=>hx y (by simp [hy])) (i - 3) _ _
theorem PR {l:List NodeP}{i:Nat}{x y:NodeP}(h:l[i]?=some x)(hy:y.card=x.card):ar (l.set i y)=((ar l).set (i*3+1) (ab y.parents)).set (i*3+2) (aH y.rows):=by
 have hl:=get_lt h;have h1:=yi (f:=NodeP.cells) (z:=3) (fun _=>rfl) l i y hl;have h2:=pf (f:=NodeP.cells) (z:=3) (fun _=>rfl) l i x h;unfold ar;rw[h1];have h3:(l.map NodeP.cells).flatten=((l.map NodeP.cells).flatten).take (i*3)++(x.cells++((l.map NodeP.cells).flatten).drop (i*3+3)):=by
  rw[<- h2,<- TO,Sc,Sc]
 have hlen:(((l.map NodeP.cells).flatten).take (i*3)).length=i*3:=by
  rw[RH,nh (f:=NodeP.cells) (z:=3) (fun _=>rfl)];omega
 conv=>rhs;rw[h3]
 rw[S6 _ _ (by omega),S6 _ _ (by omega),hlen,show i*3+1 - i*3=1 by omega,show i*3+2 - i*3=2 by omega];unfold NodeP.cells;simp [hy]
theorem PS {lo:Nat}{H:AHeap}{e:TypeId}{v:AVal}{cs:List AVal}(h:aB lo H e v cs){d:Option TypeDesc}{t:TypeId}(hd:d=some (.slice t)):ql d H v=some (.lit (.int .i64 cs.length)):=by
 subst hd;rcases h with ⟨rfl,rfl⟩|⟨id,g,_,_,rfl,h4⟩
 ·rfl
 ·rw[vD,Am,ao h4];rfl
theorem PT (l p:List Int)(hl:(l.length:Int)<2 ^ 40)(hp:(p.length:Int)<2 ^ 39)(hin:∀ q∈p,0<=q/\q<l.length)(H:AHeap)(K:ARes->AHeap->Prop)(hK:∀ v H',Over H H'->aB H.next H' 3 v (ints (aA l p))->K (.ret v) H'):ae Try.prog G0 67 [ab l,ab p] H K:=by
 refine ae.clo ⟨_,Try.func67,rfl,rfl⟩ fun hcl=>?_;refine ae.bH (n:=24) (rs:=[.tmp 4]) Try.func67 rfl rfl rfl (by decide) (by kernel_rfl) (by simp) ?_;simp only[go_sem];refine W.aI 8388576 (by rfl) (fun ρ H'=>∃ k:Nat,ρ 6=aa k/\k<=p.length/\Over H H'/\aB H.next H' 3 (ρ 5) (ints (aA l (p.take k)))) (fun ρ H=>p.length - (iv (ρ 6)).toNat) ?_ ?_
 ·simp only[go_sem];exact⟨0,rfl,by omega,.refl _,.nil⟩
 rintro ρ H' ⟨k,h6,hk,ov,h5⟩;refine W.vs ?_;by_cases hb:(k:Int)<p.length
 ·obtain⟨q,hq⟩:=get_of_lt (l:=p) (i:=k) (by omega);obtain⟨j,rfl,a,ha⟩:=jG (hin q (Ry hq)).1 (hin q (Ry hq)).2;have hne:=aK hq;have hne2:=aK ha;have hj:=get_lt ha;have hj':(j:Int)<l.length:=by omega
  obtain⟨v',H2,hA,ov2,hO,hn2,_⟩:=mo a ov h5 (by simp [aA];omega);have w1:=Rw ((k:Int)+1) (by omega);simp only[go_sem,h6,hb,hq,hne,ha,hne2,hj',w1,hA];refine⟨by have:=ov2.next;omega,⟨k+1,by simp,by omega,ov2,?_⟩,by omega⟩;rw[Qx hq,Int.toNat_natCast,aO ha];exact hO
 ·simp only[go_sem,h6,hb];rw[RA (by omega)]at h5;exact av.mk ov.next (hK _ _ ov h5)
theorem PU (g:Int)(ns:List NodeP)(v:Nat)(x:NodeP)(hx:ns[v]?=some x)(hl:(ns.length:Int)<2 ^ 39)(hp:(x.parents.length:Int)<2 ^ 39)(hin:iE x.parents ns.length)(H:AHeap)(K:ARes->AHeap->Prop)
  (hK:∀ v H',Over H H'->aB H.next H' 3 v (ints (aN ns x))->K (.ret v) H'):ae Try.prog G0 37 [bP g ns,aa v] H K:=by
 refine ae.clo ⟨_,Try.func37,rfl,rfl⟩ fun hcl=>?_;have hne:=fZ hx;have e1:=uh hx;have hv:(v:Int)<ns.length:=by have:=get_lt hx;omega
 refine ae.bH (n:=14) (rs:=[.tmp 4]) Try.func37 rfl rfl rfl (by decide) (by kernel_rfl) (by simp) ?_;simp only[go_sem,bP,de];refine W.draw 8 [0,1,0,4,0,28,60,124] Try.mixed (by kernel_rfl) (by kernel_rfl) ?_;simp only[go_sem];refine⟨ab (ah ns),[],ed.pure fun H2=>uG g ns hl H2 _ ⟨rfl,rfl⟩,?_⟩;simp only[go_sem,hv,hne,e1];refine az.clo (PT (ah ns) x.parents (by rw[bA];omega) hp (by rw[bA];exact hin) _ _ fun w H3 ov ho=>⟨trivial,?_⟩);simp only[go_sem];have o1:Over H H3:=(Over.ext _ _).trans ov;exact av.mk o1.next (hK _ _ o1 (ho.keep (by simp [cJ]) (Nat.le_refl _) fun _ _ _ _ _ _=>rfl))
theorem PV {ns:List NodeP}{P:List Int}(hP:IsPerm ns.length P)(hall:∀ v:Nat,v<ns.length->(v:Int)∈P)(hr:∀ (j v:Nat) (x:NodeP),P[j]?=some (v:Int)->ns[v]?=some x->∀ q∈x.parents,0<=q/\∃ k,k<j/\P[k]?=some q):kK (aT ns):=by
 intro v hv;have hl:(aT ns).length=ns.length:=by simp [aT]
 rw[hl]at hv;obtain⟨j,hj⟩:=RW.1 (hall v hv);have h0:∀ p∈P.take j,0<=p:=fun p hp=>(hP.rng p (RS hp)).1;have sub:∀ (k u:Nat) (x:NodeP),k<=j->P[k]?=some (u:Int)->ns[u]?=some x->Sub ((aT ns).getD u 0) (df (P.take j)):=fun k u x hk hu hx i hi=>by
  rw[aO (mi hx)]at hi;have hp0:∀ p∈x.parents,0<=p:=fun p hp=>(hr k u x hu hx p hp).1;rw[kh hp0]at hi;obtain⟨_,k',hk',hq⟩:=hr k u x hu hx _ (of_decide_eq_true hi);rw[kh h0];refine RN ?_;exact RW.2 ⟨k',by rw[SJ (by omega)];exact hq⟩
 have hcl:kL (aT ns) (df (P.take j)):=fun u hu ht=>by
  rw[hl]at hu;rw[kh h0]at ht;obtain⟨k,hk⟩:=RW.1 (of_decide_eq_true ht);have hkl:=get_lt hk;rw[RH]at hkl;rw[SJ (by omega)]at hk;obtain⟨x,hx⟩:=get_of_lt hu;exact sub k u x (by omega) hk hx
 obtain⟨x,hx⟩:=get_of_lt hv;have h1:=rj hcl (aT ns).length (sub j v x (Nat.le_refl _) hj hx);cases hb:(g9 (aT ns) ((aT ns).getD v 0)).testBit v with
 | false=>rfl
 | true =>
  exfalso;have h2:=h1 v hb;rw[kh h0]at h2;obtain⟨k,hk⟩:=RW.1 (of_decide_eq_true h2);have hkl:=get_lt hk;rw[RH]at hkl;rw[SJ (by omega)]at hk;have e:P[k]?=P[j]?:=by rw[hk,hj]
  have:=(Tq (get_lt hk) hP.nd).1 e;omega
theorem Ny {lo:Nat}{H':AHeap}{v:AVal}{l:List Int}(x:Int)(h:aB lo H' 3 v (ints l))(hlo:lo<=H'.next)(hl:l.length<2 ^ 40):
  ∃ v' H2,bF Try.prog (ext H' [.arr 0 3 [.lit (.int .i64 x)]]) (H'.next+1) 39 39 v (.own H'.next 0 0 1 1)=some (v',H2)/\aB lo H2 3 v' (ints (l++[x]))/\H'.next<=H2.next/\(∀ k,k<H'.next->(∀ g n,v≠.own k g 0 n 1)->H2.get k=H'.get k):=by
 obtain⟨v',H2,hA,hO,hn2,hp⟩:=mI (P:=Try.prog) (H:=H') (t:=39) (x:=aa x) (n:=H'.next+1) Try.underlying39 Try.fX Try.iq rfl (by rw[Try.jC,bO];omega) h hlo rfl;simp only[aa]at hA;exact⟨v',H2,hA,by simpa [ints,aa] using hO,hn2,hp⟩
theorem B6 {lo:Nat}{H:AHeap}{e1 e0:TypeId}{v:AVal}{rows:List (List AVal)}(h:fb lo H e1 e0 v rows):v.one=true/\v.cells=[v]:=let ⟨_,a,_⟩:=h;⟨a.one,a.cells⟩
theorem B7 {lo:Nat}{H:AHeap}{e1 e0:TypeId}{v:AVal}{rows:List (List AVal)}(h:fb lo H e1 e0 v rows){k:Nat}{b:Blk}(hk:k<lo):fb lo (H.upd k b) e1 e0 v rows :=
 let ⟨cs,a,b',c,e⟩:=h
 have u:∀ {u:AVal} {e:TypeId} {l:List AVal},aB lo H e u l->aB lo (H.upd k b) e u l:=fun h=>h.keep (Nat.le_refl _) (by rw[aL];exact Nat.le_refl _) fun i _ h1 _ _ _=>by rw[aj,RB (by omega)]
 ⟨cs,u a,b',fun j r q h1 h2=>u (c j r q h1 h2),e⟩
abbrev xM (a b:AVal):Blk:=.arr 0 42 [a,b]
end Go.Proofs
