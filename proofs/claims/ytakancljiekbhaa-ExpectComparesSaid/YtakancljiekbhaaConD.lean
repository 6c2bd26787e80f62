/- Own work: contracts. -/
import Derived.Test.YtakancljiekbhaaConC
import Derived.Test.YtakancljiekbhaaConB
set_option linter.all false
set_option maxRecDepth 100000
namespace Go.Proofs
open Go.Hx
structure DrP where
 card:Int
 par:Int
 w:List Int
def DrP.cells (x:DrP):List AVal:=[.lit (.int .u8 x.card),.lit (.int .u8 x.par),.vec x.w.length (aU x.w)]
def dx (l:List DrP):List AVal:=(l.map DrP.cells).flatten
def DrP.Ok (x:DrP):Prop:=U8 x.card/\U8 x.par/\(x.w.length:Int)<2 ^ 63/\∀ b∈x.w,U8 b
def mv (g:Int)(ps:List DrP)(ord:List Int):AVal:=.agg [.lit (.int .u8 g),.vec ps.length (dx ps),.vec ord.length (aU ord)]
theorem BY {l:List DrP}{i:Nat}{x:DrP}(h:l[i]?=some x):((dx l).drop (i*3)).take 3=[.lit (.int .u8 x.card),.lit (.int .u8 x.par),.vec x.w.length (aU x.w)]:=om (f:=DrP.cells) (z:=3) (fun _=>rfl) l i x h
theorem BZ (l:List DrP):(dx l).length=l.length*3:=kL (f:=DrP.cells) (fun _=>rfl) l
def NodeP.bW (x:NodeP):List AVal:=if x.rows=[] then [aa x.card,.lit (.slice none 0 0),.lit (.slice none 0 0)] else [aa x.card,ae x.parents,ay x.rows]
def bB (l:List NodeP):List AVal:=(l.map NodeP.bW).flatten
theorem iO (x:NodeP):x.bW.length=3:=by unfold NodeP.bW;split<;>rfl
theorem B1 (l:List NodeP):(bB l).length=l.length*3:=kL (f:=NodeP.bW) iO l
theorem B2 {l:List NodeP}{i:Nat}{x:NodeP}(h:l[i]?=some x):(bB l)[i*3]?=some (aa x.card):=by
 have:=jx (f:=NodeP.bW) (z:=3) iO l i 0 x h (by omega);rw[Nat.add_zero]at this;rw[show (bB l)[i*3]?=_ from this];unfold NodeP.bW;split<;>rfl
theorem Oa {l:List NodeP}(h:∀ x∈l,x.rows≠[]):bB l=aq l:=by
 unfold bB aq;congr 1;exact P9 fun x hx=>Pt (h x hx)
theorem xd {α:Type}{f:α->List AVal}{z:Nat}(hz:∀ a,(f a).length=z):∀ (l:List α) (i:Nat) (a:α),i<l.length->((l.set i a).map f).flatten=((l.map f).flatten).take (i*z)++f a++((l.map f).flatten).drop (i*z+z):=by
 intro l
 induction l with
 | nil=>intro i a h;simp at h
 | cons b l ih =>
  intro i a h;cases i with
  | zero=>simp [hz]
  | succ i =>
   have hb:=hz b;simp only[List.set_cons_succ,List.map_cons,List.flatten_cons];rw[ih i a (by simpa using h),show (i+1)*z=z+i*z by rw[P6];omega,List.take_append,List.drop_append,hb];rw[Pw (l:=f b) (i:=z+i*z) (by omega),Sf (l:=f b) (i:=z+i*z+z) (by omega),show z+i*z - z=i*z by omega,show z+i*z+z - z=i*z+z by omega];simp
theorem B3 {S:Nat->Prop}{H:AHeap}{nx:Nat}{A B:List AVal}{i:Nat}{a b:AVal}(h:∀ j (h:j<A.length) (h':j<B.length),Fz S H nx A[j] B[j])(hab:Fz S H nx a b):∀ j (h:j<(A.set i a).length) (h':j<(B.set i b).length),Fz S H nx (A.set i a)[j] (B.set i b)[j]:=by
 intro j h1 h2;rw[Re,Re];split
 ·exact hab
 ·exact h j (by simpa using h1) (by simpa using h2)
theorem qp {S:Nat->Prop}{H:AHeap}{nx:Nat}(l:List (List Int)):Fz S H nx (ay l) (ay l):=.vec rfl fun i hi _=>by simp only[PB];exact .dm _
theorem Ob {S:Nat->Prop}{H:AHeap}{nx:Nat}(x:NodeP):∀ c∈x.bW,Fz S H nx c c:=by
 intro c hc;unfold NodeP.bW at hc;split at hc
 ·simp only[List.mem_cons,List.not_mem_nil,or_false]at hc;rcases hc with rfl|rfl|rfl<;>exact .lit _
 ·simp only[List.mem_cons,List.not_mem_nil,or_false]at hc;rcases hc with rfl|rfl|rfl
  ·exact .lit _
  ·exact .dm _
  ·exact qp _
theorem B4 {S:Nat->Prop}{H:AHeap}{nx:Nat}(l:List NodeP):∀ c∈bB l,Fz S H nx c c:=by
 intro c hc;unfold bB at hc;obtain⟨r,hr,hc⟩:=RI.1 hc;obtain⟨x,_,rfl⟩:=PQ.1 hr;exact Ob x c hc
theorem Oc {S:Nat->Prop}{H:AHeap}{nx:Nat}:∀ (l:List NodeP),(∀ x∈l,x.rows=[]->x.parents=[])->∀ (i:Nat) (h:i<(bB l).length) (h':i<(aq l).length),Fz S H nx (bB l)[i] (aq l)[i]:=by
 intro l
 induction l with
 | nil=>intro _ i h;simp [bB]at h
 | cons x l ih =>
  intro hx i h h';have e1:bB (x :: l)=x.bW++bB l:=by simp [bB]
  have e2:aq (x :: l)=x.cells++aq l:=by simp [aq]
  have l1:=iO x;have l2:x.cells.length=3:=rfl;have hc:∀ (i:Nat) (h:i<x.bW.length) (h':i<x.cells.length),Fz S H nx x.bW[i] x.cells[i]:=by
   intro i h h';by_cases hr:x.rows=[]
   ·have hp:=hx x (by simp) hr;have ez:x.bW=[aa x.card,.lit (.slice none 0 0),.lit (.slice none 0 0)]:=Pv hr;have ec:x.cells=[aa x.card,ae [],ay []]:=(by unfold NodeP.cells;rw[hr,hp]);simp only[ez,ec]
    match i,h' with
    | 0,_=>exact .lit _
    | 1,_=>exact .nil
    | 2,_=>exact .nil
   ·have ez:x.bW=x.cells:=Pt hr;simp only[ez]
    match i,h' with
    | 0,_=>exact .lit _
    | 1,_=>exact .dm _
    | 2,_=>exact qp _
  simp only[e1,e2];by_cases hi:i<3
  ·rw[Qk (by omega),Qk (by omega)];exact hc i (by omega) (by omega)
  ·rw[Qp (by omega),Qp (by omega)];simp only[l1,l2];exact ih (fun y hy=>hx y (by simp [hy])) (i - 3) _ _
theorem Od {l:List NodeP}{i:Nat}{x y:NodeP}(h:l[i]?=some x)(hy:y.card=x.card):aq (l.set i y)=((aq l).set (i*3+1) (ae y.parents)).set (i*3+2) (ay y.rows):=by
 have hl:=get_lt h;have h1:=xd (f:=NodeP.cells) (z:=3) (fun _=>rfl) l i y hl;have h2:=om (f:=NodeP.cells) (z:=3) (fun _=>rfl) l i x h;unfold aq;rw[h1];have h3:(l.map NodeP.cells).flatten=((l.map NodeP.cells).flatten).take (i*3)++(x.cells++((l.map NodeP.cells).flatten).drop (i*3+3)):=by
  rw[<- h2,<- Rs,PV,PV]
 have hlen:(((l.map NodeP.cells).flatten).take (i*3)).length=i*3:=by
  rw[PC,kL (f:=NodeP.cells) (z:=3) (fun _=>rfl)];omega
 conv=>rhs;rw[h3]
 rw[Qg _ _ (by omega),Qg _ _ (by omega),hlen,show i*3+1 - i*3=1 by omega,show i*3+2 - i*3=2 by omega];unfold NodeP.cells;simp [hy]
theorem xe {lo:Nat}{H:AHeap}{e:TypeId}{v:AVal}{cs:List AVal}(h:aA lo H e v cs){d:Option TypeDesc}{t:TypeId}(hd:d=some (.slice t)):lC d H v=some (.lit (.int .i64 cs.length)):=by
 subst hd;rcases h with ⟨rfl,rfl⟩|⟨id,g,_,_,rfl,h4⟩
 ·rfl
 ·rw[uK,zh,aj h4];rfl
theorem Oe (l p:List Int)(hl:(l.length:Int)<2 ^ 40)(hp:(p.length:Int)<2 ^ 39)(hin:∀ q∈p,0<=q/\q<l.length)(H:AHeap)(K:ARes->AHeap->Prop)(hK:∀ v H',Over H H'->aA H.next H' 3 v (ints (bd l p))->K (.ret v) H'):ab Try.prog G0 67 [ae l,ae p] H K:=by
 refine ab.clo ⟨_,Try.func67,rfl,rfl⟩ fun hcl=>?_;refine ab.aZ (n:=24) (rs:=[.tmp 4]) Try.func67 rfl rfl rfl (by decide) (by kernel_rfl) (by simp) ?_;simp only[go_sem];refine W.aN 8388576 (by rfl) (fun ρ H'=>∃ k:Nat,ρ 6=aa k/\k<=p.length/\Over H H'/\aA H.next H' 3 (ρ 5) (ints (bd l (p.take k)))) (fun ρ H=>p.length - (iv (ρ 6)).toNat) ?_ ?_
 ·simp only[go_sem];exact⟨0,rfl,by omega,.refl _,.nil⟩
 rintro ρ H' ⟨k,h6,hk,ov,h5⟩;refine W.vs ?_;by_cases hb:(k:Int)<p.length
 ·obtain⟨q,hq⟩:=get_of_lt (l:=p) (i:=k) (by omega);obtain⟨j,rfl,a,ha⟩:=mm (hin q (Pq hq)).1 (hin q (Pq hq)).2;have hne:=aL hq;have hne2:=aL ha;have hj:=get_lt ha;have hj':(j:Int)<l.length:=by omega
  obtain⟨v',H2,hA,ov2,hO,hn2,_⟩:=iS a ov h5 (by simp [bd];omega);have w1:=Ps ((k:Int)+1) (by omega);simp only[go_sem,h6,hb,hq,hne,ha,hne2,hj',w1,hA];refine⟨by have:=ov2.next;omega,⟨k+1,by simp,by omega,ov2,?_⟩,by omega⟩;rw[Cg hq,Int.toNat_natCast,bH ha];exact hO
 ·simp only[go_sem,h6,hb];rw[Pw (by omega)]at h5;exact av.mk ov.next (hK _ _ ov h5)
theorem Of (g:Int)(ns:List NodeP)(v:Nat)(x:NodeP)(hx:ns[v]?=some x)(hl:(ns.length:Int)<2 ^ 39)(hp:(x.parents.length:Int)<2 ^ 39)(hin:im x.parents ns.length)(H:AHeap)(K:ARes->AHeap->Prop)
  (hK:∀ v H',Over H H'->aA H.next H' 3 v (ints (bh ns x))->K (.ret v) H'):ab Try.prog G0 37 [aG g ns,aa v] H K:=by
 refine ab.clo ⟨_,Try.func37,rfl,rfl⟩ fun hcl=>?_;have hne:=fI hx;have e1:=kM hx;have hv:(v:Int)<ns.length:=by have:=get_lt hx;omega
 refine ab.aZ (n:=14) (rs:=[.tmp 4]) Try.func37 rfl rfl rfl (by decide) (by kernel_rfl) (by simp) ?_;simp only[go_sem,aG,cf];refine W.draw 8 [0,1,0,4,0,28,60,124] Try.mixed (by kernel_rfl) (by kernel_rfl) ?_;simp only[go_sem];refine⟨ae (ar ns),[],cI.pure fun H2=>oE g ns hl H2 _ ⟨rfl,rfl⟩,?_⟩;simp only[go_sem,hv,hne,e1];refine az.clo (Oe (ar ns) x.parents (by rw[bR];omega) hp (by rw[bR];exact hin) _ _ fun w H3 ov ho=>⟨trivial,?_⟩);simp only[go_sem];have o1:Over H H3:=(Over.ext _ _).trans ov;exact av.mk o1.next (hK _ _ o1 (ho.keep (by simp [bb]) (Nat.le_refl _) fun _ _ _ _ _ _=>rfl))
theorem B5 {ns:List NodeP}{P:List Int}(hP:IsPerm ns.length P)(hall:∀ v:Nat,v<ns.length->(v:Int)∈P)(hr:∀ (j v:Nat) (x:NodeP),P[j]?=some (v:Int)->ns[v]?=some x->∀ q∈x.parents,0<=q/\∃ k,k<j/\P[k]?=some q):kQ (bu ns):=by
 intro v hv;have hl:(bu ns).length=ns.length:=by simp [bu]
 rw[hl]at hv;obtain⟨j,hj⟩:=PT.1 (hall v hv);have h0:∀ p∈P.take j,0<=p:=fun p hp=>(hP.rng p (PW hp)).1;have sub:∀ (k u:Nat) (x:NodeP),k<=j->P[k]?=some (u:Int)->ns[u]?=some x->Sub ((bu ns).getD u 0) (dH (P.take j)):=fun k u x hk hu hx i hi=>by
  rw[bH (oF hx)]at hi;have hp0:∀ p∈x.parents,0<=p:=fun p hp=>(hr k u x hu hx p hp).1;rw[mn hp0]at hi;obtain⟨_,k',hk',hq⟩:=hr k u x hu hx _ (of_decide_eq_true hi);rw[mn h0];refine QL ?_;exact PT.2 ⟨k',by rw[Ql (by omega)];exact hq⟩
 have hcl:kR (bu ns) (dH (P.take j)):=fun u hu ht=>by
  rw[hl]at hu;rw[mn h0]at ht;obtain⟨k,hk⟩:=PT.1 (of_decide_eq_true ht);have hkl:=get_lt hk;rw[PC]at hkl;rw[Ql (by omega)]at hk;obtain⟨x,hx⟩:=get_of_lt hu;exact sub k u x (by omega) hk hx
 obtain⟨x,hx⟩:=get_of_lt hv;have h1:=tw hcl (bu ns).length (sub j v x (Nat.le_refl _) hj hx);cases hb:(fw (bu ns) ((bu ns).getD v 0)).testBit v with
 | false=>rfl
 | true =>
  exfalso;have h2:=h1 v hb;rw[mn h0]at h2;obtain⟨k,hk⟩:=PT.1 (of_decide_eq_true h2);have hkl:=get_lt hk;rw[PC]at hkl;rw[Ql (by omega)]at hk;have e:P[k]?=P[j]?:=by rw[hk,hj]
  have:=(Q5 (get_lt hk) hP.nd).1 e;omega
theorem n9 {lo:Nat}{H:AHeap}{e1 e0:TypeId}{v:AVal}{rows:List (List AVal)}(h:dy lo H e1 e0 v rows):v.one=true/\v.cells=[v]:=let ⟨_,a,_⟩:=h;⟨a.one,a.cells⟩
theorem ju {lo:Nat}{H:AHeap}{e1 e0:TypeId}{v:AVal}{rows:List (List AVal)}(h:dy lo H e1 e0 v rows){k:Nat}{b:Blk}(hk:k<lo):dy lo (H.upd k b) e1 e0 v rows :=
 let ⟨cs,a,b',c,e⟩:=h
 have u:∀ {u:AVal} {e:TypeId} {l:List AVal},aA lo H e u l->aA lo (H.upd k b) e u l:=fun h=>h.keep (Nat.le_refl _) (by rw[aC];exact Nat.le_refl _) fun i _ h1 _ _ _=>by rw[ag,Pt (by omega)]
 ⟨cs,u a,b',fun j r q h1 h2=>u (c j r q h1 h2),e⟩
abbrev eV (a b:AVal):Blk:=.arr 0 42 [a,b]
def sY (p:Int)(k:Nat):Bool:=decide (IntKind.u8.wrap (((BitVec.ofInt IntKind.u8.bits (p.fdiv (2 ^ (min ((k:Int)).toNat IntKind.u8.bits))) &&& BitVec.ofInt IntKind.u8.bits 1).toNat:Nat):Int)=1)
def jo (ms:List Int)(i v:Nat):Bool:=match ms[i]? with
 | some m=>sY m v
 | none=>false
def fY (ms:List Int)(i k:Nat)(vals:List Int):List Int:=(List.range vals.length).map fun v=>if v<k/\jo ms i v=true then -1 else vals.getD v 0
theorem lV (ms:List Int)(i k:Nat)(vals:List Int):(fY ms i k vals).length=vals.length:=by simp [fY]
theorem K6 (ms:List Int)(i:Nat)(vals:List Int):fY ms i 0 vals=vals:=by
 refine Qf fun j=>?_;unfold fY;rw[List.getElem?_map];rcases PR j vals.length with h|h
 ·obtain⟨x,hx⟩:=get_of_lt h;rw[Rc h,hx];show some (if j<0/\_ then _ else vals.getD j 0)=_;rw[Pt (by omega),bH hx]
 ·rw[PD (by simpa using h),PD h];rfl
theorem wx {ms:List Int}{i k:Nat}{vals:List Int}{v:Nat}{x:Int}(h:vals[v]?=some x):(fY ms i k vals)[v]?=some (if v<k/\jo ms i v=true then -1 else x):=by
 unfold fY;rw[List.getElem?_map,Rc (get_lt h)];show some (if v<k/\jo ms i v=true then -1 else vals.getD v 0)=_;rw[bH h]
theorem K7 {ms:List Int}{i k:Nat}{vals:List Int}(hk:k<vals.length):fY ms i (k+1) vals=if jo ms i k=true then (fY ms i k vals).set k (-1) else fY ms i k vals:=by
 refine Qf fun j=>?_;rcases PR j vals.length with h|h
 ·obtain⟨x,hx⟩:=get_of_lt h;rw[wx hx];by_cases hm:jo ms i k=true
  ·rw[Pv hm,Rp];by_cases hj:k=j
   ·subst hj;rw[Pv rfl,Pv (⟨by omega,hm⟩:k<k+1/\jo ms i k=true),Pv (by rw[lV];exact h)]
   ·rw[Pt hj,wx hx];by_cases hjk:j<k
    ·simp [hjk,show j<k+1 by omega]
    ·simp [hjk,show ¬ j<k+1 by omega]
  ·rw[Pt hm,wx hx];by_cases hj:j=k
   ·subst hj;simp [hm]
   ·by_cases hjk:j<k
    ·simp [hjk,show j<k+1 by omega]
    ·simp [hjk,show ¬ j<k+1 by omega]
 ·rw[PD (by rw[lV];exact h)];split
  ·rw[PD (by rw[Py,lV];exact h)]
  ·rw[PD (by rw[lV];exact h)]
def fo (l:List Int):List AVal:=l.map fun n=>.lit (.int .u16 n)
theorem K8 {l:List Int}{k:Nat}{a:Int}(h:l[k]?=some a):(fo l)[k]?=some (.lit (.int .u16 a)):=by unfold fo;rw[List.getElem?_map,h];rfl
theorem K9 (l:List Int):(fo l).length=l.length:=by simp [fo]
def nU (ns:List NodeP)(ws ms:List Int)(i:Nat):List Int:=fY ms i ns.length (cj (ar ns) (ws.getD i 0 % au (ar ns)))
def gH (ns:List NodeP)(ws ms:List Int):List (List Int):=(List.range (min 12 ws.length)).map (nU ns ws ms)
def nV (ns:List NodeP)(ws ms:List Int)(k:Nat):List (List Int):=(List.range k).map (nU ns ws ms)
set_option maxHeartbeats 4000000 in
theorem La (g:Int)(ns:List NodeP)(h8:1<=ns.length/\ns.length<=8)(hc:∀ y∈ns,1<=y.card/\y.card<=4)(hsz:au (ar ns)<=1024)(ws ms:List Int)(hws:∀ x∈ws,0<=x/\x<65536)(hms:∀ x∈ms,0<=x/\x<256)
  (hwl:(ws.length:Int)<2 ^ 63) (hml:(ms.length:Int)<2 ^ 63) (H:AHeap) (K:ARes->AHeap->Prop) (hK:K (.ret (bt (ar ns) (gH ns ws ms))) H):
  ab Try.prog G0 27 [aG g ns,.vec ws.length (fo ws),.vec ms.length (aU ms)] H K:=by
 refine ab.clo ⟨_,Try.func27,rfl,rfl⟩ fun hcl=>?_;have hp:=hZ (l:=ar ns) fun c hcm=>by obtain⟨y,hy,rfl⟩:=PQ.1 hcm;exact(hc y hy).1
 have wll:=K9 ws;have mll:=L5 ms;refine ab.aZ (n:=64) (rs:=[.cell 6 42]) Try.func27 rfl rfl rfl (by decide) (by kernel_rfl) (by simp) ?_;simp only[go_sem,aG,cf];refine az.clo (oE g ns (by omega) _ _ ⟨trivial,?_⟩);simp only[go_sem];obtain⟨cs,hcs⟩:∃ cs,cs=ar ns:=⟨_,rfl⟩
 rw[<- hcs];obtain⟨H1,hH1⟩:∃ H1,H1=ext H [.arr 0 35 [aa g,.vec ns.length (aq ns)],.arr 0 42 [.lit (.slice none 0 0),.lit (.slice none 0 0)],.arr 0 42 [.vec cs.length (ints cs),.lit (.slice none 0 0)]]:=⟨_,rfl⟩
 have n1:H1.next=H.next+3:=by rw[hH1];rfl
 have o1:Over H H1:=by rw[hH1];exact .ext _ _
 have g0:H1.get H.next=some (.arr 0 35 [aa g,.vec ns.length (aq ns)]):=by rw[hH1];exact cD ..
 have g1:H1.get (H.next+1)=some (.arr 0 42 [.lit (.slice none 0 0),.lit (.slice none 0 0)]):=by rw[hH1];exact aY H _ 1 (by simp)
 have g2:H1.get (H.next+2)=some (eV (ae cs) (.lit (.slice none 0 0))):=by rw[hH1];exact aY H _ 2 (by simp)
 refine W.en (fun E=>E 1=.vec ws.length (fo ws) /\ E 2=.vec ms.length (aU ms) /\ E 3=.ptr H.next 0 0 /\ E 6=.ptr (H.next+1) 0 0 /\ E 7=.ptr (H.next+2) 0 0 /\ E 8=aa 0) (by simp only[go_sem]) fun E ⟨e1,e2,e3,e6,e7,e8⟩=>?_
 show W _ _ _ _ _ _ ⟨E,ext H [.arr 0 35 [aa g,.vec ns.length (aq ns)],.arr 0 42 [.lit (.slice none 0 0),.lit (.slice none 0 0)],.arr 0 42 [.vec cs.length (ints cs),.lit (.slice none 0 0)]]⟩;rw[<- hH1];refine W.aN 9223372036854761216 (by rfl) (fun ρ Hi=>∃ (i:Nat) (xv:AVal),ρ 8=aa i/\i<=min 12 ws.length/\H1.next<=Hi.next/\(∀ id,id<H.next+2->Hi.get id=H1.get id)/\Hi.get (H.next+2)=some (eV (ae cs) xv)/\dy (H.next+3) Hi 39 3 xv ((nV ns ws ms i).map ints)) (fun ρ Hi=>12 - (iv (ρ 8)).toNat) ?_ ?_
 ·exact⟨0,_,e8,by omega,Nat.le_refl _,fun _ _=>rfl,g2,.nil⟩
 rintro ρ Hi ⟨i,xv,h8i,hi,hni,holdi,hbi,hD⟩;refine W.en (fun E1=>E1 1=.vec ws.length (fo ws) /\ E1 2=.vec ms.length (aU ms) /\ E1 3=.ptr H.next 0 0 /\ E1 6=.ptr (H.next+1) 0 0 /\ E1 7=.ptr (H.next+2) 0 0 /\ E1 8=aa i) (by simp only[go_sem,e1,e2,e3,e6,e7,h8i]) fun E1 ⟨a1,a2,a3,a6,a7,a8⟩=>?_
 have l0:=aj ((holdi _ (by omega)).trans g0);have l1:=aj ((holdi _ (by omega)).trans g1);have l2:=aj hbi;obtain⟨xone,xcells⟩:=n9 hD;have fin:i=min 12 ws.length->av Try.prog G0 H K (.agg [ae cs,xv]) (Hi.upd (H.next+1) (eV (ae cs) xv)):=fun hm=>by
  have hcl2:gH ns ws ms=nV ns ws ms i:=by rw[hm];rfl
  rw[hcl2,<- hcs]at hK;exact av.bq aK hcl ⟨by rw[aC];omega,fun id h=>by rw[ag,Pt (by omega),holdi id (by omega)];exact o1.old id h⟩ (tt (.dm _) (qu (ju hD (by omega)).qt fun i h=>by omega)) hK
 by_cases c1:(i:Int)<ws.length;rotate_left
 ·refine W.vs ?_;simp only[go_sem,a1,a6,a7,a8,l1,l2,c1,xone];exact fin (by omega)
 by_cases c2:(i:Int)<12;rotate_left
 ·refine W.vs ?_;simp only[go_sem,a1,a6,a7,a8,l1,l2,c1,c2,xone];exact fin (by omega)
 obtain⟨wd,hwd⟩:=get_of_lt (l:=ws) (i:=i) (by omega);have hwr:=hws wd (Pq hwd);have hwg:=K8 hwd;have hwn:=aL hwg;have wu:=Ps wd (by omega);have wm:wd.tmod (au cs)=wd % au cs:=by rw[hcs];exact PP hwr.1
 have wmr:=Qq wd (show 0<au cs by rw[hcs];omega);have wmn:=QA wd (show au cs≠0 by rw[hcs];omega);have wmw:=Ps (wd % au cs) (by rw[hcs]at wmr wmn ⊢;omega);have hpz:¬ au cs=0:=by rw[hcs];omega
 refine W.vs ?_;simp only[go_sem,a1,a8,c1,c2];refine W.draw 9 [0,0,0,6,14,30,0,64,254] Try.mixed (by kernel_rfl) (by kernel_rfl) ?_;simp only[go_sem,a1,a3,a8,l0,c1,hwg,hwn,wu];refine⟨aa (au cs),[],cI.pure (fun H2=>Cf g ns h8.2 hc H2 _ ⟨by rw[hcs],rfl⟩),?_⟩;simp only[go_sem,hpz,wm];refine az.clo (K5 g ns h8.2 hc (wd % au cs) (by rw[hcs]at wmr wmn ⊢;omega) _ _ fun cv Hk ov hO=>⟨trivial,?_⟩);rw[<- hcs]at hO;obtain⟨vals,hvals⟩:∃ vals,vals=cj cs (wd % au cs):=⟨_,rfl⟩
 have hvl:vals.length=ns.length:=by rw[hvals,kP,hcs,bR]
 rw[<- hvals]at hO;rcases hO with ⟨_,e⟩|⟨ic,gc,ic1,ic2,rfl,hgc⟩
 ·have:=congrArg List.length e;rw[aS,hvl,List.length_nil]at this;omega
 rw[aS,hvl];have ovn:=ov.next;simp only[go_sem];refine W.en (fun E2=>E2 1=.vec ws.length (fo ws) /\ E2 2=.vec ms.length (aU ms) /\ E2 3=.ptr H.next 0 0 /\ E2 6=.ptr (H.next+1) 0 0 /\ E2 7=.ptr (H.next+2) 0 0 /\ E2 8=aa i /\ E2 9=.own ic gc 0 ns.length 1 /\ E2 10=aa 0) (by simp only[go_sem,a1,a2,a3,a6,a7,a8]) fun E2 ⟨b1,b2,b3,b6,b7,b8,b9,b10⟩=>?_
 refine W.aN 144115170895987712 (by rfl) (fun ρ Hj=>∃ v:Nat,ρ 10=aa v/\v<=ns.length/\Hj.next=Hk.next/\(∀ id,id≠ic->Hj.get id=Hk.get id)/\Hj.get ic=some (.arr gc 3 (ints (fY ms i v vals)))) (fun ρ Hj=>ns.length - (iv (ρ 10)).toNat) ?_ ?_
 ·exact⟨0,b10,by omega,rfl,fun _ _=>rfl,by rw[K6];exact hgc⟩
 rintro ρ3 Hj ⟨v,h10,hv,nj,oj,gj⟩;refine W.en (fun E3=>E3 1=.vec ws.length (fo ws) /\ E3 2=.vec ms.length (aU ms) /\ E3 3=.ptr H.next 0 0 /\ E3 6=.ptr (H.next+1) 0 0 /\ E3 7=.ptr (H.next+2) 0 0 /\ E3 8=aa i /\ E3 9=.own ic gc 0 ns.length 1 /\ E3 10=aa v) (by simp only[go_sem,b1,b2,b3,b6,b7,b8,b9,h10]) fun E3 ⟨d1,d2,d3,d6,d7,d8,d9,d10⟩=>?_
 have ljc:=aj gj;have mrl:=lV ms i v vals;by_cases c3:(v:Int)<ns.length;rotate_left
 ·have ev:v=ns.length:=by omega
  subst ev;have w1:=Ps ((i:Int)+1) (by omega);have hcase:nU ns ws ms i=fY ms i ns.length vals:=by unfold nU;rw[bH hwd,<- hcs,<- hvals]
  have ovj:Over Hi Hj:=⟨by omega,fun id h=>(oj id (by omega)).trans (ov.old id h)⟩
  have hOj:aA Hi.next Hj 3 (.own ic gc 0 ns.length 1) (ints (fY ms i ns.length vals)):=.inr ⟨ic,gc,ic1,by omega,by rw[aS,mrl,hvl],gj⟩;obtain⟨xv2,H5,hA,hD5,hn5,hp5⟩:=dy.app (P:=Try.prog) (n:=Hj.next+1) (t:=40) Try.underlying40 Try.ma Try.me Try.md (by decide) (by simp [nV];omega) hD ovj (by omega) hOj rfl;have k2:Hj.live (H.next+2) 0=some (42,[ae cs,xv]):=(ovj.live (g:=0) (by omega:H.next+2<Hi.next)).trans l2;have k2e:∀ L,(ext Hj L).live (H.next+2) 0=some (42,[ae cs,xv]):=fun L=>(dF (by omega)).trans k2;have k5:H5.live (H.next+2) 0=some (42,[ae cs,xv]):=aj ((hp5 _ (by omega) (by omega)).trans ((ovj.old _ (by omega)).trans hbi));obtain⟨xone2,xcells2⟩:=n9 hD5;refine W.vs ?_;simp only[go_sem,d7,d8,d9,d10,ljc,c3,k2,hA,k5,xone2,xcells2,w1];refine⟨by rw[aC];omega,⟨i+1,xv2,rfl,by omega,by rw[aC];omega,fun id h=>by rw[ag,Pt (by omega),hp5 id (by omega) (by omega),ovj.old id (by omega)];exact holdi id h,by rw[ag,Pv rfl],?_⟩,by rw[h8i];simp only[aa,aW];omega⟩;have eK:(nV ns ws ms (i+1)).map ints=(nV ns ws ms i).map ints++[ints (fY ms i ns.length vals)]:=by
   unfold nV;rw[Qx,Qj,Qj,<- hcase];rfl
  rw[eK];exact ju hD5 (by omega)
 have w2:=Ps ((v:Int)+1) (by omega);have msc:=K7 (ms:=ms) (i:=i) (k:=v) (vals:=vals) (by omega);by_cases c4:(i:Int)<ms.length;rotate_left
 ·have hq:jo ms i v=false:=by unfold jo;rw[PD (by omega)]
  rw[hq,Pt (by decide)]at msc;refine W.vs ?_;simp only[go_sem,d2,d8,d9,d10,ljc,c3,c4,w2];exact⟨by omega,⟨v+1,rfl,by omega,nj,oj,by rw[msc];exact gj⟩,by rw[h10];simp only[aa,aW];omega⟩
 obtain⟨m,hm⟩:=get_of_lt (l:=ms) (i:=i) (by omega);have hmg:=qf hm;have hmn:=aL hmg;have hq:jo ms i v=sY m v:=by unfold jo;rw[hm]
 obtain⟨r1,hr1⟩:∃ r1,m.fdiv (2 ^ (min ((v:Int)).toNat IntKind.u8.bits))=r1:=⟨_,rfl⟩
 obtain⟨r2,hr2⟩:∃ r2,IntKind.u8.wrap (((BitVec.ofInt IntKind.u8.bits r1 &&& BitVec.ofInt IntKind.u8.bits 1).toNat:Nat):Int)=r2:=⟨_,rfl⟩
 have s1:∀ t o1 o2,aX Try.prog .shr t o1 o2 (.lit (.int .u8 m)) (.lit (.int .i64 (v:Int)))=some (.lit (.int .u8 r1)):=fun t o1 o2=>by rw[qB (by omega),hr1]
 have s2:∀ t o1 o2,aX Try.prog .and t o1 o2 (.lit (.int .u8 r1)) (.lit (.int .u8 1))=some (.lit (.int .u8 r2)):=fun t o1 o2=>by rw[tK,hr2]
 have hb8:sY m v=decide (r2=1):=by unfold sY;rw[hr1,hr2]
 rw[hq,hb8]at msc;by_cases hr:r2=1
 ·rw[QL hr,Pv rfl]at msc;refine W.vs ?_;simp only[go_sem,d2,d8,d9,d10,ljc,mrl,hvl,c3,c4,hmg,hmn,s1,s2,hr,w2];refine⟨by omega,by rw[aC];omega,⟨v+1,rfl,by omega,by rw[aC];exact nj,fun id h=>by rw[ag,Pt h];exact oj id h,?_⟩,by rw[h10];simp only[aa,aW];omega⟩;rw[ag,Pv rfl,fL (by omega),msc]
 ·rw[Q1 hr,Pt (by decide)]at msc;refine W.vs ?_;simp only[go_sem,d2,d8,d9,d10,ljc,c3,c4,hmg,hmn,s1,s2,hr,w2];exact⟨by omega,⟨v+1,rfl,by omega,nj,oj,by rw[msc];exact gj⟩,by rw[h10];simp only[aa,aW];omega⟩
def dX (w a n:Int)(cs:List Int)(xs:List (List Int)):List Int × List (List Int) :=
 if w % 6=0 then (cs.set (a % (cs.length:Int)).toNat n,xs)
 else if w % 6=1/\0<xs.length then
  (cs,xs.set (a / 4 % (xs.length:Int)).toNat ((xs.getD (a / 4 % (xs.length:Int)).toNat []).set (a % ((xs.getD (a / 4 % (xs.length:Int)).toNat []).length:Int)).toNat n))
 else if w % 6=2/\0<xs.length then (cs,xs.set (a % (xs.length:Int)).toNat ((xs.getD (a % (xs.length:Int)).toNat []).drop 1))
 else if w % 6=3 then (cs,xs++List.replicate (41 - xs.length) (List.replicate cs.length 0))
 else if w % 6=4 then ([4,4,4,4,4,4],[])
 else ([],xs)
def oc (w a n:Int):List AVal:=[.lit (.int .u8 w),.lit (.int .u8 a),.lit (.int .i64 n)]
abbrev wM (w a n:Int):Blk:=.arr 0 30 [.lit (.int .u8 w),.lit (.int .u8 a),.lit (.int .i64 n)]
theorem Mm {S:Nat->Prop}{lo nx idt gt idr gr k:Nat}{Hi Hz:AHeap}{ocs:List AVal}{xs:List (List Int)}{r:List Int}(hS:∀ i,lo<=i->S i)(oL:ocs.length=(xs.map ints).length)(oC:∀ (j:Nat) (q:List AVal) (c:AVal),(xs.map ints)[j]?=some q->ocs[j]?=some c->aA lo Hi 3 c q)
  (hit:lo<=idt) (hgt:Hz.get idt=some (.arr gt 39 (ocs.set k (.own idr gr 1 (r.length - 1) 1)))) (hn:idt<Hz.next) (hir:lo<=idr) (hgr:Hz.get idr=some (.arr gr 3 (ints r))) (hkeep:∀ id g c,lo<=id->Hi.get id=some (.arr g 3 c)->Hz.get id=Hi.get id) (hnx:Hi.next<=Hz.next):
  Fz S Hz nx (.own idt gt 0 xs.length 1) (ay (xs.set k (r.drop 1))):=by
 rw[Px]at oL;have hG:aA lo Hz 39 (.own idt gt 0 xs.length 1) (ocs.set k (.own idr gr 1 (r.length - 1) 1)):=.inr ⟨idt,gt,hit,hn,by rw[Py,oL],hgt⟩;have:=hG.fz (S:=S) (nx:=nx) (cs':=(xs.set k (r.drop 1)).map ae) hS (by simp [oL]) fun i h h'=>by
  simp only[PB,Re];split
  ·have hl:(ae (r.drop 1))=.vec (r.length - 1) (ints (r.drop 1)):=(by unfold ae;rw[P0]);rw[hl];refine .frz (hS _ hir) hgr (by rw[aS,P0];omega) fun j a b c=>?_;simp only[ints,PB,Q4];exact .lit _
  ·rw[Py]at h;refine aA.ja (lo:=lo) (e:=3) ?_ hS;have h1:ocs[i]?=some ocs[i]:=Pr h;have h2:(xs.map ints)[i]?=some (ints (xs[i]'(by omega))):=(by rw[List.getElem?_map,Pr (by omega)];rfl);exact(oC i _ _ h2 h1).keep (Nat.le_refl _) hnx fun id g a _ b _=>hkeep id g _ a b
 rw[Px,Py]at this;unfold ay;rw[Py];exact this
set_option maxHeartbeats 4000000 in
theorem Mn (w a n:Int)(hw:U8 w)(ha:U8 a)(cs:List Int)(xs:List (List Int))(hc:1<=cs.length/\cs.length<=64)(hx:xs.length<=41)(hr:l8 cs.length xs)(H:AHeap)(K:ARes->AHeap->Prop)(hK:K (.ret (bt (dX w a n cs xs).1 (dX w a n cs xs).2)) H):
  ab Try.prog G0 39 [.agg (oc w a n),bt cs xs] H K:=by
 refine ab.clo ⟨_,Try.func39,rfl,rfl⟩ fun hcl=>?_;unfold U8 at hw ha;refine ab.fS (n:=138) (rs:=[.cell 4 42]) Try.func39 rfl rfl rfl (by decide) (by simp) ?_;refine W.sq ?_;simp only[go_sem,oc,bt,ay];obtain⟨H1,hH1⟩:∃ H1,H1=ext H [wM w a n,eV (ae cs) (.vec xs.length (xs.map ae)),eV (.lit (.slice none 0 0)) (.lit (.slice none 0 0))]:=⟨_,rfl⟩
 have b0:H1.get H.next=some (wM w a n):=by rw[hH1];exact cD ..
 have b1:H1.get (H.next+1)=some (eV (ae cs) (.vec xs.length (xs.map ae))):=by rw[hH1];exact aY H _ 1 (by simp)
 have b2:H1.get (H.next+2)=some (eV (.lit (.slice none 0 0)) (.lit (.slice none 0 0))):=by rw[hH1];exact aY H _ 2 (by simp)
 have n1:H1.next=H.next+3:=by rw[hH1];rfl
 have o1:Over H H1:=by rw[hH1];exact .ext _ _
 refine W.en (fun E=>E 2=.ptr H.next 0 0 /\ E 3=.ptr (H.next+1) 0 0 /\ E 4=.ptr (H.next+2) 0 0) (by simp only[go_sem]) fun E ⟨e2,e3,e4⟩=>?_
 show W _ _ _ _ _ _ ⟨E,ext H [wM w a n,eV (ae cs) (.vec xs.length (xs.map ae)),eV (.lit (.slice none 0 0)) (.lit (.slice none 0 0))]⟩;rw[<- hH1];clear hH1;have l1:=aj b1;have l1e:∀ L,(ext H1 L).live (H.next+1) 0=_:=fun L=>(dF (by omega)).trans l1;obtain⟨cv,Hq,hA1,hcO,hqn,hqp⟩:=pE (P:=Try.prog) (H:=ext H1 [.arr 0 3 []]) (t:=39) (n:=H1.next+1) (lo:=H1.next) (src:=ints cs) Try.underlying39 Try.eg Try.eX (nt _) (by rw[Try.fG,aS,List.length_nil];omega) (aA.new (H:=H1) (cs:=[])) (by rw[bb];simp) rfl;rw[List.nil_append]at hcO;rw[aS]at hA1;simp only[List.length_nil]at hA1;have cone:=hcO.one;have ccells:=hcO.cells;have rz:List.replicate 0 (AVal.lit (.int .i64 0))=[]:=rfl;refine W.sq ?_;simp only[go_sem,e3,l1e,hA1,cone,ccells,rz];have hxn:(ext H1 [.arr 0 3 []]).next=H1.next+1:=rfl;have oq:Over H1 Hq:=⟨by omega,fun id h=>by rw[hqp id (by omega) (fun g m e=>by have:=(AVal.own.inj e).1;omega),bY _ _ _ h]⟩
 obtain⟨Hs,hHs⟩:∃ Hs,Hs=ext Hq [eV cv (.lit (.slice none 0 0))]:=⟨_,rfl⟩
 have ns:Hs.next=Hq.next+1:=by rw[hHs];rfl
 have os:Over Hq Hs:=by rw[hHs];exact .ext _ _
 have b5:Hs.get Hq.next=some (eV cv (.lit (.slice none 0 0))):=by rw[hHs];exact cJ
 have oall:=(o1.trans oq).trans os;have c0:=(os.old _ (by omega)).trans ((oq.old _ (by omega)).trans b0);have c1:=(os.old _ (by omega)).trans ((oq.old _ (by omega)).trans b1);have c2:=(os.old _ (by omega)).trans ((oq.old _ (by omega)).trans b2);have csO:=hcO.over os;rw[<- hHs];refine W.en (fun E=>E 2=.ptr H.next 0 0 /\ E 3=.ptr (H.next+1) 0 0 /\ E 4=.ptr (H.next+2) 0 0 /\ E 5=.ptr Hq.next 0 0) (by simp only[go_sem,e2,e3,e4]) fun E ⟨f2,f3,f4,f5⟩=>?_
 clear hHs;obtain⟨idc,gc,ic1,ic2,hcv,hgc⟩:∃ id g,H1.next<=id/\id<Hq.next/\cv=.own id g 0 cs.length 1/\Hs.get id=some (.arr g 3 (ints cs)):=by
  rcases hcO with ⟨_,e⟩|⟨id,g,h1,h2,h3,h4⟩
  ·have:=congrArg List.length e;rw[aS,List.length_nil]at this;omega
  ·rw[aS]at h3;exact⟨id,g,h1,h2,h3,(os.old _ h2).trans h4⟩
 clear csO hcO cone ccells hqp hA1;refine W.Bd (fun s'=>s'.ρ 2=.ptr H.next 0 0/\s'.ρ 3=.ptr (H.next+1) 0 0/\s'.ρ 4=.ptr (H.next+2) 0 0/\s'.ρ 5=.ptr Hq.next 0 0/\Hs.next<=s'.H.next/\(∀ id,id<Hq.next->s'.H.get id=Hs.get id)/\∃ xv,s'.H.get Hq.next=some (eV cv xv)/\dy Hs.next s'.H 39 3 xv (xs.map ints)) ?_ ?_
 ·refine W.sq ?_;simp only[go_sem];refine W.block ?_;refine W.aN 8589918272 (by rfl) (fun ρ Hi=>∃ (i:Nat) (xv:AVal),ρ 6=aa i/\i<=xs.length/\Hs.next<=Hi.next/\(∀ id,id<Hq.next->Hi.get id=Hs.get id)/\Hi.get Hq.next=some (eV cv xv)/\dy Hs.next Hi 39 3 xv ((xs.take i).map ints)) (fun ρ H=>xs.length - (iv (ρ 6)).toNat) ?_ ?_
  ·simp only[go_sem];exact⟨0,_,rfl,by omega,b5,.nil⟩
  rintro ρ Hi ⟨i,xv,h6,hi,hni,holdi,hbi,hD⟩;refine W.vs ?_;have l1:=aj ((holdi _ (by omega)).trans c1);have l5:=aj hbi;by_cases g1:(i:Int)<xs.length;rotate_left
  ·simp only[go_sem,f2,f3,f4,f5,h6,l1,g1];rw[Pw (by omega)]at hD;exact⟨hni,holdi,xv,hbi,hD⟩
  obtain⟨r,hrr⟩:=get_of_lt (l:=xs) (i:=i) (by omega);have rl:=hr r (Pq hrr);have hr':=lZ hrr;have hrn:=aL hr';have l1e:∀ L,(ext Hi L).live (H.next+1) 0=_:=fun L=>(dF (by omega)).trans l1;have l5e:∀ L,(ext Hi L).live Hq.next 0=_:=fun L=>(dF (by omega)).trans l5;obtain⟨rv,Hx,hA1,rO,hxn',hxp⟩:=pE (P:=Try.prog) (H:=ext Hi [.arr 0 3 []]) (t:=39) (n:=Hi.next+1) (lo:=Hi.next) (src:=ints r) Try.underlying39 Try.eg Try.eX (nt _) (by rw[Try.fG,aS,List.length_nil];omega) (aA.new (H:=Hi) (cs:=[])) (by rw[bb];simp) rfl;rw[List.nil_append]at rO;rw[aS]at hA1;simp only[List.length_nil]at hA1;have hen:(ext Hi [.arr 0 3 []]).next=Hi.next+1:=rfl;have ox:Over Hi Hx:=⟨by omega,fun id h=>by rw[hxp id (by omega) (fun g m e=>by have:=(AVal.own.inj e).1;omega),bY _ _ _ h]⟩
  have rone:=rO.one;have rcells:=rO.cells;obtain⟨xv2,H5,hA2,hD5,hn5,hp⟩:=dy.app (P:=Try.prog) (n:=Hx.next+1) (t:=40) Try.underlying40 Try.ma Try.me Try.md (by decide) (by rw[Px,PC];omega) hD ox hni rO rfl;have k5:H5.live Hq.next 0=_:=aj ((hp _ (by omega) (by omega)).trans ((ox.old _ (by omega)).trans hbi));obtain⟨xone,xcells⟩:=n9 hD5;have w1:=Ps ((i:Int)+1) (by omega);simp only[go_sem,f3,h6,l1,g1];refine W.draw 10 [0,1,0,0,8,0,56,120,252,508] Try.mixed (by kernel_rfl) (by kernel_rfl) ?_;simp only[go_sem,f3,f5,h6,l5,l1e,g1,hr',hrn,hA1,rcells,hA2,k5,xone,xcells,rz,w1];refine⟨⟨fun _ h=>by omega,fun _ h=>by omega⟩,fun _ h=>by omega,fun _ h=>by omega,⟨fun _ h=>by omega,fun _ h=>by omega⟩,⟨fun _ h=>by omega,fun _ h=>by omega⟩,by rw[aC];omega,⟨i+1,xv2,rfl,by omega,by rw[aC];omega,fun id h=>by rw[ag,Pt (by omega),hp id (by omega) (by omega),ox.old id (by omega)];exact holdi id h,by rw[ag,Pv rfl],?_⟩,by omega⟩;rw[aO hrr,Qj];exact ju hD5 (by omega)
 rintro⟨ρ1,Hi⟩ ⟨p2,p3,p4,p5,hni,hold,xv,hb5,hD⟩;simp only at p2 p3 p4 p5 hni hold hb5 hD;have k0:=aj ((hold _ (by omega)).trans c0);have k2:=aj ((hold _ (by omega)).trans c2);have k5:=aj hb5;have gci:=(hold _ ic2).trans hgc;have kc:=aj gci;obtain⟨xone,xcells⟩:=n9 hD;have oi:Over H Hi:=⟨by have:=oall.next;omega,fun id h=>(hold id (by omega)).trans (oall.old id h)⟩
 have wm:w.tmod 6=w % 6:=PP hw.1;have wu:IntKind.u8.wrap (w % 6)=w % 6:=Sa _ (by omega);have ai:=Ps a (by omega);have fin:∀ (Hz:AHeap) (cv' xv':AVal) (cs':List Int) (xs':List (List Int)),H.next<=Hz.next->(∀ id,id<H.next->Hz.get id=H.get id)->Fz (fun id=>H.next<=id) Hz H.next cv' (ae cs')->Fz (fun id=>H.next<=id) Hz H.next xv' (ay xs')->(cs',xs')=dX w a n cs xs->av Try.prog G0 H K (.agg [cv',xv']) Hz:=fun Hz cv' xv' cs' xs' h1 h2 h3 h4 h5=>by
  rw[<- h5]at hK;exact av.bq aK hcl ⟨h1,h2⟩ (tt h3 h4) hK
 rw[hcv]at k5 hb5;have own:∀ (Hz:AHeap) (cs':List Int),idc<Hz.next->cs'.length=cs.length->Hz.get idc=some (.arr gc 3 (ints cs'))->Fz (fun id=>H.next<=id) Hz H.next (.own idc gc 0 cs.length 1) (ae cs'):=fun Hz cs' h1 h2 h3=>by
  rw[<- h2];exact aA.ja (lo:=H.next) (.inr ⟨idc,gc,by omega,h1,by rw[aS],h3⟩) fun i h=>h
 have kl:(0:Int)<cs.length:=by omega
 have cz:¬ (cs.length:Int)=0:=by omega
 have hlen:lC (some (TypeDesc.slice 39)) Hi xv=some (.lit (.int .i64 xs.length)):=by
  obtain⟨ocs,oG,oL,_,_⟩:=hD;have:=xe oG (d:=some (.slice 39)) rfl;rw[oL,Px]at this;exact this
 have u2:∀ b,(Hi.upd Hq.next b).live (H.next+2) 0=_:=fun b=>(iq (by omega)).trans k2;have onext:=oi.next;have nilC:dX w a n cs xs=([],xs)->av Try.prog G0 H K (.agg [.lit (.slice none 0 0),xv]) ((Hi.upd Hq.next (eV (.lit (.slice none 0 0)) xv)).upd (H.next+2) (eV (.lit (.slice none 0 0)) xv)):=fun hb =>
  fin _ _ _ [] xs (by rw[aC,aC];omega) (fun id h=>by rw[ag,Pt (by omega),ag,Pt (by omega)];exact oi.old id h) .nil (qu (ju (ju hD (by omega)) (by omega)).qt fun i hi=>by omega) hb.symm
 refine W.vs ?_;have hw6:w % 6=0\/w % 6=1\/w % 6=2\/w % 6=3\/w % 6=4\/w % 6=5:=by omega
 rcases hw6 with d|d|d|d|d|d
 ·have jr:=Qq a kl;have jn:=QA a cz;obtain⟨j,hj⟩:=PM jn;have jt:a.tmod (cs.length:Int)=j:=by rw[PP ha.1];exact hj
  have jl:(j:Int)<cs.length:=by omega
  have u5:∀ b,(Hi.upd idc b).live Hq.next 0=_:=fun b=>(iq (by omega)).trans k5;have u2:∀ b,(Hi.upd idc b).live (H.next+2) 0=_:=fun b=>(iq (by omega)).trans k2;simp only[go_sem,p2,k0,wm,d];refine W.draw 11 [0,1,0,4,12,0,32,96,252,0,512] Try.mixed (by kernel_rfl) (by kernel_rfl) ?_;simp only[go_sem,p2,p4,p5,k0,k5,ai,jt,cz,jl,kc,u5,u2,xone];refine⟨by omega,fin _ _ _ (cs.set j n) xs (by rw[aC,aC];have:=oi.next;omega) (fun id h=>by rw[ag,Pt (by omega),ag,Pt (by omega)];exact oi.old id h) (own _ _ (by rw[aC,aC];omega) (by simp) (by rw[ag,Pt (by omega),ag,Pv rfl,fL (by omega)])) (qu (ju (ju hD (by omega)) (by omega)).qt fun i hi=>by omega) ?_⟩;unfold dX;rw[Pv d,hj];rfl
 ·by_cases hxl:(xs.length:Int) > 0;rotate_left
  ·simp only[go_sem,p2,p4,p5,k0,k5,wm,d,hlen,hxl,xone,u2];refine nilC ?_;have:¬ 0<xs.length:=(by omega);unfold dX;rw[d,Pt (by decide),Pt (fun h=>this h.2),Pt (fun h=>this h.2),Pt (by decide),Pt (by decide)]
  have kr:=Qq (a / 4) (show (0:Int)<xs.length by omega);have kn:=QA (a / 4) (show (xs.length:Int)≠0 by omega);obtain⟨k,hk⟩:=PM kn;obtain⟨r,hrr⟩:=get_of_lt (l:=xs) (i:=k) (by omega);have rl:=hr r (Pq hrr);have jr:=Qq a (show (0:Int)<r.length by omega);have jn:=QA a (show (r.length:Int)≠0 by omega);obtain⟨j,hj⟩:=PM jn;obtain⟨idt,gt,idr,gr,cells,hxv,hgt,hcl2,it1,it2,hck,hgr,ir1,ir2,hset⟩:=dy.row hD (by decide) (k:=k) (r:=ints r) (by rw[List.getElem?_map,hrr];rfl) (by intro e;have:=congrArg List.length e;rw[aS,List.length_nil]at this;omega);rw[Px]at hxv hcl2;rw[aS]at hck;have lt:=aj hgt;have lr:=aj hgr;have cne:=aL hck;have q4:a.tdiv 4=a / 4:=Qu ha.1;have v1:IntKind.u8.wrap (a / 4)=a / 4:=Sa _ (by omega);have v2:=Ps (a / 4) (by omega);have v3:(a / 4).tmod (xs.length:Int)=k:=by rw[PP (by omega)];exact hk
  have v6:a.tmod (r.length:Int)=j:=by rw[PP (by omega)];exact hj
  have x0:¬ (xs.length:Int)=0:=by omega
  have r0:¬ (r.length:Int)=0:=by omega
  have kl':(k:Int)<xs.length:=by omega
  have jl:(j:Int)<r.length:=by omega
  have hset':=hset (ints (r.set j n)) (by rw[aS,aS,Py]);rw[hxv]at k5 hlen xone xcells hset';have u5:∀ b,(Hi.upd idr b).live Hq.next 0=_:=fun b=>(iq (by omega)).trans k5;have u2':∀ b,(Hi.upd idr b).live (H.next+2) 0=_:=fun b=>(iq (by omega)).trans k2;simp only[go_sem,p2,p5,k0,k5,wm,d,hlen,hxl];refine W.draw 10 [0,1,0,4,12,28,0,64,192,508] Try.mixed (by kernel_rfl) (by kernel_rfl) ?_;simp only[go_sem,p2,p5,k0,k5,q4,v1,v2,v3,x0,kl',lt,hck];refine W.draw 9 [0,0,2,6,0,16,62,0,128] Try.mixed (by kernel_rfl) (by kernel_rfl) ?_;simp only[go_sem,p2,p4,p5,k0,ai,v6,r0,jl,lr,u5,u2',xone];rw[fL (by omega)];have e:(xs.map ints).set k (ints (r.set j n))=(xs.set k (r.set j n)).map ints:=by rw[RY]
  rw[e]at hset';refine⟨by omega,fin _ _ _ cs (xs.set k (r.set j n)) (by rw[aC,aC];omega) (fun id h=>by rw[ag,Pt (by omega),ag,Pt (by omega)];exact oi.old id h) (own _ _ (by rw[aC,aC];omega) rfl (by rw[ag,Pt (by omega),ag,Pt (by omega)];exact gci)) (qu (ju hset' (by omega)).qt fun i hi=>by omega) ?_⟩;unfold dX;rw[Pt (by omega),Pv ⟨d,by omega⟩];simp only[hk,Q0,Int.toNat_natCast,bH hrr,hj]
 ·by_cases hxl:(xs.length:Int) > 0;rotate_left
  ·simp only[go_sem,p2,p4,p5,k0,k5,wm,d,hlen,hxl,xone,u2];refine nilC ?_;have:¬ 0<xs.length:=(by omega);unfold dX;rw[d,Pt (by decide),Pt (fun h=>this h.2),Pt (fun h=>this h.2),Pt (by decide),Pt (by decide)]
  have kr:=Qq a (show (0:Int)<xs.length by omega);have kn:=QA a (show (xs.length:Int)≠0 by omega);obtain⟨k,hk⟩:=PM kn;obtain⟨r,hrr⟩:=get_of_lt (l:=xs) (i:=k) (by omega);have rl:=hr r (Pq hrr);obtain⟨ocs,oG,oL,oC,oD⟩:=hD;have hri:(xs.map ints)[k]?=some (ints r):=by rw[List.getElem?_map,hrr];rfl
  obtain⟨ck,hck⟩:=get_of_lt (l:=ocs) (i:=k) (by rw[oL,Px];omega);have okR:=oC k _ ck hri hck;rcases oG with ⟨_,e⟩|⟨idt,gt,it1,it2,hxv,hgt⟩
  ·rw[e]at hck;cases hck
  rcases okR with ⟨_,e⟩|⟨idr,gr,ir1,ir2,hcr,hgr⟩
  ·have:=congrArg List.length e;rw[aS,List.length_nil]at this;omega
  rw[oL,Px]at hxv;rw[aS]at hcr;rw[hcr]at hck;have lt:=aj hgt;have cne:=aL hck;have v3:a.tmod (xs.length:Int)=k:=by rw[PP (by omega)];exact hk
  have v4:=Ps (k:Int) (by omega);have x0:¬ (xs.length:Int)=0:=by omega
  have kl':(k:Int)<xs.length:=by omega
  have r1:(1:Int)<=r.length:=by omega
  rw[hxv]at k5 hlen xone xcells;have u5:∀ b,(Hi.upd idt b).live Hq.next 0=_:=fun b=>(iq (by omega)).trans k5;have u2':∀ b,(Hi.upd idt b).live (H.next+2) 0=_:=fun b=>(iq (by omega)).trans k2;simp only[go_sem,p2,p5,k0,k5,wm,d,hlen,hxl,ai,v3,x0];refine W.draw 9 [0,1,0,0,8,0,56,120,248] Try.mixed (by kernel_rfl) (by kernel_rfl) ?_;have lr:=aj hgr;simp only[go_sem,p4,p5,k5,kl',lt,lr,hck,r1,u5,u2',xone];have hlt:Hi.next<=((Hi.upd idt (.arr gt 39 (setAt ocs k [.own idr gr 1 (r.length - 1) 1]))).upd (H.next+2) (eV (.own idc gc 0 cs.length 1) (.own idt gt 0 xs.length 1))).next:=by rw[aC,aC];exact Nat.le_refl _
  refine⟨by rw[oL,Px];omega,fin _ _ _ cs (xs.set k (r.drop 1)) (PY onext hlt) (fun id h=>by rw[ag,Pt (by omega),ag,Pt (by omega)];exact oi.old id h) (own _ _ (PE (show idc<Hi.next by omega) hlt) rfl (by rw[ag,Pt (by omega),ag,Pt (by omega)];exact gci)) ?_ ?_⟩
  ·have hne2:idr≠idt:=fun e=>by rw[e,hgt]at hgr;cases hgr
   refine Mm (lo:=Hs.next) (Hi:=Hi) (fun i h=>by omega) oL oC it1 (by rw[ag,Pt (by omega),ag,Pv rfl,gO (by rw[oL,Px];omega)]) (PE it2 hlt) ir1 (by rw[ag,Pt (by omega),ag,Pt hne2];exact hgr) (fun id g c h1 h2=>?_) hlt;rw[ag,Pt (by omega),ag,Pt];rintro rfl;rw[hgt]at h2;cases h2
  ·unfold dX;rw[Pt (by omega),Pt (fun h=>by omega),Pv ⟨d,by omega⟩];simp only[hk,Q0,Int.toNat_natCast,bH hrr]
 ·simp only[go_sem,p2,k0,wm,d];refine W.aN 1360963314184280739369385453844537802752 (by rfl) (fun ρ Hj=>∃ (m:Nat) (xv':AVal),m+xs.length<=41/\Hi.next<=Hj.next/\(∀ id,id<Hq.next->Hj.get id=Hi.get id)/\Hj.get Hq.next=some (eV (.own idc gc 0 cs.length 1) xv')/\dy Hs.next Hj 39 3 xv' ((xs++List.replicate m (List.replicate cs.length 0)).map ints)) (fun _ Hj=>match Hj.get Hq.next with|some (.arr _ _ [_,.own _ _ _ l _])=>41 - l|_=>42) ?_ ?_
  ·simp only[go_sem];exact⟨0,xv,by omega,hb5,by simpa using hD⟩
  rintro ρ Hj ⟨m,xv',hm,hnj,holdj,hbj,hDj⟩;refine W.vs ?_;have j2:=aj ((holdj _ (by omega)).trans ((hold _ (by omega)).trans c2));have j5:=aj hbj;obtain⟨yone,ycells⟩:=n9 hDj;have hlenj:lC (some (TypeDesc.slice 39)) Hj xv'=some (.lit (.int .i64 ((xs.length+m:Nat):Int))):=by
   obtain⟨ocs,oG,oL,_,_⟩:=hDj;have:=xe oG (d:=some (.slice 39)) rfl;rw[oL,Px,List.length_append,PZ]at this;exact this
  by_cases g1:((xs.length+m:Nat):Int)<41;rotate_left
  ·simp only[go_sem,p4,p5,j2,j5,hlenj,g1,yone];obtain rfl:m=41 - xs.length:=(by omega);refine fin _ _ _ cs (xs++List.replicate (41 - xs.length) (List.replicate cs.length 0)) (by rw[aC];omega) (fun id h=>by rw[ag,Pt (by omega),holdj id (by omega)];exact oi.old id h) (own _ _ (by rw[aC];omega) rfl (by rw[ag,Pt (by omega)];exact(holdj _ ic2).trans gci)) (qu (ju hDj (by omega)).qt fun i hi=>by omega) ?_;unfold dX;rw[d,Pt (by decide),Pt (fun h=>absurd h.1 (by decide)),Pt (fun h=>absurd h.1 (by decide)),Pv rfl]
  have zr:List.replicate cs.length (AVal.lit (.int .i64 0))=ints (List.replicate cs.length 0):=by simp [ints,aa]
  have zO:aA Hj.next (ext Hj [.arr 0 3 (ints (List.replicate cs.length 0))]) 3 (.own Hj.next 0 0 cs.length 1) (ints (List.replicate cs.length 0)):=by
   have:=aA.new (H:=Hj) (e:=3) (cs:=ints (List.replicate cs.length 0));rw[aS,PZ]at this;exact this
  have zn:(ext Hj [.arr 0 3 (ints (List.replicate cs.length 0))]).next=Hj.next+1:=rfl;obtain⟨xv2,H5,hA2,hD5,hn5,hp⟩:=dy.app (P:=Try.prog) (n:=Hj.next+1+1) (t:=40) Try.underlying40 Try.ma Try.me Try.md (by decide) (by rw[Px,List.length_append,PZ];omega) hDj (.ext _ _) (by omega) zO (by rw[zn]);rw[zn]at hA2 hn5 hp;have k5':H5.live Hq.next 0=_:=aj ((hp _ (by omega) (by omega)).trans ((bY _ _ _ (by omega)).trans hbj));obtain⟨xone2,xcells2⟩:=n9 hD5;have kcj:=aj ((holdj _ ic2).trans gci);simp only[go_sem,p5,j5,hlenj,g1];refine W.draw 7 [0,1,0,4,12,28,60] Try.mixed (by kernel_rfl) (by kernel_rfl) ?_;simp only[go_sem,p5,j5,kcj,zr,hA2,k5',xone2,xcells2];refine⟨⟨by omega,by omega⟩,⟨fun _ h=>by omega,fun _ h=>by omega⟩,⟨fun _ h=>by omega,fun _ h=>by omega⟩,by rw[aC];omega,⟨m+1,xv2,by omega,by rw[aC];omega,fun id h=>by rw[ag,Pt (by omega),hp id (by omega) (by omega),bY _ _ _ (by omega)];exact holdj id h,by rw[ag,Pv rfl],?_⟩,?_⟩
  ·rw[show List.replicate (m+1) (List.replicate cs.length (0:Int))=List.replicate m (List.replicate cs.length 0)++[List.replicate cs.length 0] from RM,<- List.append_assoc,Qj];exact ju hD5 (by omega)
  ·rw[ag,Pv rfl,hbj];have e2:∃ i2 g2,xv2=.own i2 g2 0 (xs.length+m+1) 1:=by
    obtain⟨ocs,oG,oL,_,_⟩:=hD5;rw[List.length_append,Px,List.length_append,PZ,QY]at oL;rcases oG with ⟨_,e⟩|⟨i2,g2,_,_,h,_⟩
    ·rw[e]at oL;simp at oL
    ·rw[oL]at h;exact⟨i2,g2,h⟩
   obtain⟨i2,g2,rfl⟩:=e2;have e1:xv'=.lit (.slice none 0 0)\/∃ i1 g1,xv'=.own i1 g1 0 (xs.length+m) 1:=by
    obtain⟨ocs,oG,oL,_,_⟩:=hDj;rw[Px,List.length_append,PZ]at oL;rcases oG with ⟨h,_⟩|⟨i1,g1,_,_,h,_⟩
    ·exact .inl h
    ·rw[oL]at h;exact .inr ⟨i1,g1,h⟩
   rcases e1 with rfl|⟨i1,g1',rfl⟩
   ·show 41 - (xs.length+m+1)<42;omega
   ·show 41 - (xs.length+m+1)<41 - (xs.length+m);omega
 ·simp only[go_sem,p2,p5,k0,wm,d];refine⟨by decide,by decide,by decide,by decide,by decide,by decide,?_⟩;have u5:∀ L,(ext Hi L).live Hq.next 0=_:=fun L=>(dF (by omega)).trans k5;have u2:∀ L b,((ext Hi L).upd Hq.next b).live (H.next+2) 0=_:=fun L b=>(iq (by omega)).trans ((dF (by omega)).trans k2);simp only[go_sem,p4,p5,u5,u2];refine fin _ _ _ [4,4,4,4,4,4] [] (by rw[aC,aC,bb];omega) (fun id h=>by rw[ag,Pt (by omega),ag,Pt (by omega),bY _ _ _ (by omega)];exact oi.old id h) (aA.ja (lo:=H.next) (l:=[4,4,4,4,4,4]) (.inr ⟨Hi.next,0,by omega,by rw[aC,aC,bb];simp,rfl,by rw[ag,Pt (by omega),ag,Pt (by omega)];exact cJ⟩) fun i h=>h) .nil ?_;unfold dX;rw[d,Pt (by decide),Pt (fun h=>absurd h.1 (by decide)),Pt (fun h=>absurd h.1 (by decide)),Pt (by decide),Pv rfl]
 ·simp only[go_sem,p2,p4,p5,k0,k5,wm,d,xone,u2];refine nilC ?_;unfold dX;rw[d,Pt (by decide),Pt (fun h=>absurd h.1 (by decide)),Pt (fun h=>absurd h.1 (by decide)),Pt (by decide),Pt (by decide)]
end Go.Proofs
namespace Go.Hx
variable {P:Program}
structure OwnM (lo:Nat)(H:AHeap)(e1 e0:TypeId)(v:AVal)(ids:List Nat)(rows:List (List AVal)):Prop where
 len:ids.length=rows.length
 nd:ids.Nodup
 rng:∀ i∈ids,lo<=i/\i<H.next
 top:aA lo H e1 v (List.zipWith (fun i n=>AVal.own i 0 0 n 1) ids (rows.map List.length))
 row:∀ (k id:Nat) (r:List AVal),ids[k]?=some id->rows[k]?=some r->H.get id=some (.arr 0 e0 r)
theorem OwnM.nil {lo:Nat}{H:AHeap}{e1 e0:TypeId}:OwnM lo H e1 e0 (.lit (.slice none 0 0)) [] [] :=
 ⟨rfl,.nil,fun i h=>(by cases h),.nil,fun k id r h=>(by simp at h)⟩
theorem OwnM.keep {lo:Nat}{H H':AHeap}{e1 e0:TypeId}{v:AVal}{ids:List Nat}{rows:List (List AVal)}(h:OwnM lo H e1 e0 v ids rows)(hn:H.next<=H'.next)(hk:∀ id,lo<=id->id<H.next->H'.get id=H.get id):OwnM lo H' e1 e0 v ids rows :=
 ⟨h.len,h.nd,fun i hi=>⟨(h.rng i hi).1,by have:=(h.rng i hi).2;omega⟩,h.top.keep (Nat.le_refl _) hn fun id _ h1 h2 _ _=>hk id h1 h2,fun k id r h1 h2=>by
  have:=h.rng id (Pq h1);rw[hk id this.1 this.2];exact h.row k id r h1 h2⟩
theorem OwnM.app {lo n:Nat}{H:AHeap}{e1 e0:TypeId}{v:AVal}{ids:List Nat}{rows:List (List AVal)}{r:List AVal}{t:TypeId}{z:List AVal}(ht:P.underlying t=some (.slice e1))(hz:P.cellsOf e1=1)(hzero:bM P e1=some z)(hby:P.bytesOf e1=24)(hne:e1≠e0)
  (hb:rows.length<2 ^ 40) (h:OwnM lo H e1 e0 v ids rows) (hlo:lo<=H.next) (hn:n=H.next+2):
  ∃ v' H',bC P (ext (ext H [.arr 0 e0 r]) [.arr 0 e1 [.own H.next 0 0 r.length 1]]) n t t v (.own (H.next+1) 0 0 1 1)=some (v',H')/\OwnM lo H' e1 e0 v' (ids++[H.next]) (rows++[r])/\H.next<=H'.next/\(∀ k,k<H.next->k<lo->H'.get k=H.get k):=by
 obtain⟨Hb,hHb⟩:∃ Hb,Hb=ext H [.arr 0 e0 r]:=⟨_,rfl⟩
 have nb:Hb.next=H.next+1:=by rw[hHb];rfl
 have ob:Over H Hb:=by rw[hHb];exact .ext _ _
 have gb:Hb.get H.next=some (.arr 0 e0 r):=by rw[hHb];exact cJ
 have htop:=h.top.over ob;obtain⟨v',H',hA,hO,hL,hp⟩:=jc (P:=P) (H:=Hb) (t:=t) (x:=.own H.next 0 0 r.length 1) (n:=n) ht hz hzero rfl (by rw[hby];simp [h.len];omega) htop (by omega) (by omega);rw[nb,hHb]at hA;have old:∀ id g,lo<=id->id<Hb.next->Hb.get id=some (.arr g e0 r)->H'.get id=Hb.get id:=fun id g h1 h2 h3=>hp id h2 fun g' m he=>by
  rcases htop with ⟨hv,_⟩|⟨i,g2,_,_,hv,h4⟩
  ·rw[hv]at he;cases he
  ·rw[hv]at he;obtain rfl:i=id:=(AVal.own.inj he).1;rw[h4]at h3;cases h3;exact hne rfl
 have oldr:∀ id g q,lo<=id->id<Hb.next->Hb.get id=some (.arr g e0 q)->H'.get id=Hb.get id:=fun id g q h1 h2 h3=>hp id h2 fun g' m he=>by
  rcases htop with ⟨hv,_⟩|⟨i,g2,_,_,hv,h4⟩
  ·rw[hv]at he;cases he
  ·rw[hv]at he;obtain rfl:i=id:=(AVal.own.inj he).1;rw[h4]at h3;cases h3;exact hne rfl
 refine⟨v',H',hA,⟨by simp [h.len],List.nodup_append.2 ⟨h.nd,by simp,fun a ha b hb=>by
  obtain rfl:=List.mem_singleton.1 hb;have:=(h.rng a ha).2;omega⟩,fun i hi=>?_,?_,fun k id q h1 h2=>?_⟩,by omega,fun k hk hkl=>?_⟩
 ·rcases PK.1 hi with h1|h1
  ·have:=h.rng i h1;omega
  ·obtain rfl:=List.mem_singleton.1 h1;omega
 ·rw[Qj,List.zipWith_append (by rw[Px];exact h.len)];exact hO
 ·have hk:=P4.1 h1;obtain⟨hk,_⟩:=hk;rw[List.length_append,QY]at hk;rcases PR k ids.length with hlt|hge
  ·rw[PN hlt]at h1;rw[PN (by rw[<- h.len];exact hlt)]at h2;have hr:=h.rng id (Pq h1);have hg:=h.row k id q h1 h2;rw[oldr id 0 q hr.1 (by omega) ((ob.old id hr.2).trans hg),ob.old id hr.2];exact hg
  ·obtain rfl:k=ids.length:=(by omega);rw[PI (Nat.le_refl _),Q7]at h1;rw[h.len,PI (Nat.le_refl _),Q7]at h2;cases h1;cases h2;rw[oldr H.next 0 r hlo (by omega) gb];exact gb
 ·rw[hp k (by omega) fun g m he=>?_,ob.old k hk];rcases htop with ⟨hv,_⟩|⟨i,g2,a1,_,hv,h4⟩
  ·rw[hv]at he;cases he
  ·rw[hv]at he;have:=(AVal.own.inj he).1;omega
theorem OwnM.CA {lo:Nat}{H:AHeap}{e1 e0:TypeId}{v:AVal}{ids:List Nat}{rows:List (List AVal)}(h:OwnM lo H e1 e0 v ids rows)(h0:rows≠[]):∃ id g,lo<=id/\id<H.next/\v=.own id g 0 rows.length 1/\H.get id=some (.arr g e1 (List.zipWith (fun i n=>AVal.own i 0 0 n 1) ids (rows.map List.length)))/\(e1≠e0->id ∉ ids):=by
 have hzl:(List.zipWith (fun i n=>AVal.own i 0 0 n 1) ids (rows.map List.length)).length=rows.length:=by simp [h.len]
 rcases h.top with ⟨hv,h4⟩|⟨i,g,a,b,hv,h4⟩
 ·rw[h4]at hzl;exact absurd (PG hzl.symm) h0
 ·refine⟨i,g,a,b,by rw[hv,hzl],h4,fun hne hm=>?_⟩;obtain⟨k,hk⟩:=PT.1 hm;have hkl:k<rows.length:=by rw[<- h.len];exact(P4.1 hk).1
  have:=h.row k i _ hk (Pr hkl);rw[h4]at this;exact hne (Blk.arr.inj (Option.some.inj this)).2.1
theorem OwnM.store {lo:Nat}{H:AHeap}{e1 e0:TypeId}{v:AVal}{ids:List Nat}{rows:List (List AVal)}(h:OwnM lo H e1 e0 v ids rows)(hne:e1≠e0){k id:Nat}{r r':List AVal}(hk:ids[k]?=some id)(hr:rows[k]?=some r)(hl:r'.length=r.length):OwnM lo (H.upd id (.arr 0 e0 r')) e1 e0 v ids (rows.set k r'):=by
 have hid:=h.rng id (Pq hk);have h0:rows≠[]:=fun e=>by rw[e]at hr;simp at hr
 refine⟨by rw[Py];exact h.len,h.nd,fun i hi=>by rw[aC];exact h.rng i hi,?_,fun j id' q h1 h2=>?_⟩
 ·have e:(rows.set k r').map List.length=rows.map List.length:=by
   rw[RY,hl];apply Qf;intro i;rw[Rp];split
   ·rename_i hi;subst hi;have hkl:=(P4.1 hr).1;rw[Pv (by rw[Px];exact hkl),List.getElem?_map,hr];rfl
   ·rfl
  rw[e];obtain⟨i,g,a,b,_,h4,h5⟩:=h.CA h0;refine h.top.keep (Nat.le_refl _) (by rw[aC];exact Nat.le_refl _) fun i2 g2 _ _ h3 _=>?_;rw[ag,Pt];rintro rfl;rw[h.row k i2 r hk hr]at h3;cases h3;exact hne rfl
 ·rw[ag];by_cases hj:j=k
  ·subst hj;rw[hk]at h1;cases h1;rw[PF (P4.1 hr).1]at h2;cases h2;rw[Pv rfl]
  ·rw[PO (fun e=>hj e.symm)]at h2;rw[Pt,h.row j id' q h1 h2];rintro rfl;exact hj ((Q5 (P4.1 h1).1 h.nd).1 (by rw[h1,hk]))
theorem OwnM.fz {S:Nat->Prop}{lo nx:Nat}{H:AHeap}{e1 e0:TypeId}{v:AVal}{ids:List Nat}{rows:List (List AVal)}(h:OwnM lo H e1 e0 v ids rows)(hS:∀ i,lo<=i->S i)(hr:∀ r∈rows,∀ c∈r,Fz S H nx c c):
  Fz S H nx v (.vec rows.length (rows.map fun r=>.vec r.length r)):=by
 have hz:(List.zipWith (fun i n=>AVal.own i 0 0 n 1) ids (rows.map List.length)).length=rows.length:=by simp [h.len]
 have:=h.top.fz (S:=S) (nx:=nx) (cs':=rows.map fun r=>.vec r.length r) hS (by simp [h.len]) fun i hi hi'=>by
  simp only[PB,SV];have hil:i<rows.length:=by omega
  have hii:i<ids.length:=by rw[h.len];exact hil
  refine .frz (hS _ (h.rng _ (Qe hii)).1) (h.row i _ _ (Pr hii) (Pr hil)) (by simp) fun j hj h2 h'=>?_;have e0:(0:Nat)+j=j:=Nat.zero_add j;have h3:=hr rows[i] (Qe hil) _ (Qe h');simpa only[e0] using h3
 rw[Px]at this;exact this
end Go.Hx
namespace Go.Hx
variable {P:Program} {G:Nat->Option (List AVal)}
def AHeap.fZ (H:AHeap)(n ob:Nat)(b:Blk):AHeap:=⟨fun id=>if id=ob then some b else if n<=id then none else H.get id,H.next⟩
theorem AS {H:AHeap}{n ob:Nat}{b:Blk}:(H.fZ n ob b).get ob=some b:=by simp [AHeap.fZ]
theorem AT {H:AHeap}{n ob id:Nat}{b:Blk}(h:id<n)(h2:id≠ob):(H.fZ n ob b).get id=H.get id:=by simp [AHeap.fZ,Nat.not_le.2 h,h2]
theorem Li {H:AHeap}(hc:Clo H){n ob g:Nat}{e:TypeId}{cells cells':List AVal}(hob:H.get ob=some (.arr g e cells))(hl:cells'.length=cells.length)
  (hcell:∀ i (h:i<cells.length) (h':i<cells'.length),Fz (fun id=>n<=id/\id≠ob) H H.next cells[i] cells'[i]):FzH (fun id=>n<=id/\id≠ob) H (H.fZ n ob (.arr g e cells')) where
 gone id hs:=by simp [AHeap.fZ,hs.1,hs.2]
 kept id b hs hb:=by
  have hbb:=hc.below id b hb;refine⟨hc.lt id b hb,?_⟩;by_cases h:id=ob
  ·subst h;rw[hob]at hb;cases hb;exact⟨.arr g e cells',AS,rfl,rfl,hl,hcell⟩
  ·have hn:¬ n<=id:=fun hn=>hs ⟨hn,h⟩;refine⟨b,by simp [AHeap.fZ,h,hn,hb],?_⟩;cases b with
   | rsv=>trivial
   | mp=>rfl
   | arr g e cells=>exact⟨rfl,rfl,rfl,fun i h _=>.dead (hbb i h)⟩
   | loop st pend n env ps asg body=>exact⟨rfl,rfl,rfl,rfl,rfl,rfl,rfl,fun t ht=>.dead (hbb t ht)⟩
 none id hs hb:=by
  by_cases h:id=ob
  ·subst h;rw[hob]at hb;cases hb
  ·have hn:¬ n<=id:=fun hn=>hs ⟨hn,h⟩;simp [AHeap.fZ,h,hn,hb]
theorem dh.fZ (hG:eD G){s:St}{n ob g:Nat}{e:TypeId}{cells cells':List AVal}(hob:s.H.get ob=some (.arr g e cells))(hl:cells'.length=cells.length)
  (hcell:(∀ c∈cells,Below s.H.next c)->∀ i (h:i<cells.length) (h':i<cells'.length),Fz (fun id=>n<=id/\id≠ob) s.H s.H.next cells[i] cells'[i]):dh P G s ⟨s.ρ,s.H.fZ n ob (.arr g e cells')⟩:=by
 intro n' wb Γ a w hs;exact dh.freeze (s:=s) (s':=⟨s.ρ,s.H.fZ n ob (.arr g e cells')⟩) hG (Li hs.heap.clo hob hl (hcell fun c hc=>by
  obtain⟨i,hi,rfl⟩:=List.mem_iff_getElem.1 hc;exact hs.heap.clo.below ob _ hob i hi)) (fun t=>.dead (hs.env t).px) n' wb Γ a w hs
theorem Lj {H:AHeap}{t e:TypeId}{n:Nat}{src:List AVal}{z:List AVal}(ht:P.underlying t=some (.slice e))(hz:P.cellsOf e=1)(hzero:bM P e=some z)(h0:0<src.length)
  (hb:src.length*P.bytesOf e<=2 ^ 46/\src.length<=2 ^ 46) (hn:n=H.next):bC P H n t t (.lit (.slice none 0 0)) (.vec src.length src)=some (.own n 0 0 src.length 1,ext H [.arr 0 e src]):=by
 have hsrc:ct H 1 (.vec src.length src)=some (src.length,src):=by
  unfold ct;simp
 unfold bC;rw[ht];simp only[hzero,hz,Option.bind_some];rw[hsrc];simp only[Option.bind_some];rw[Pt (by omega),Pv hb,rE hn];rfl
theorem OwnM.AU {lo n:Nat}{H:AHeap}{e1 e0:TypeId}{v:AVal}{ids:List Nat}{rows:List (List AVal)}{r:List AVal}{t:TypeId}{z:List AVal}(h:OwnM lo H e1 e0 v ids rows)(ht:P.underlying t=some (.slice e1))(hz:P.cellsOf e1=1)(hzero:bM P e1=some z)(hby:P.bytesOf e1=24)(hne:e1≠e0)
  (hb:rows.length<2 ^ 40) (hlo:lo<=H.next) (hn:n=H.next+2):
  ∃ v' H',bC P (ext (ext H [.arr 0 e0 r]) [.arr 0 e1 [.own H.next 0 0 r.length 1]]) n t t v (.own (H.next+1) 0 0 1 1)=some (v',H')/\OwnM lo H' e1 e0 v' (ids++[H.next]) (rows++[r])/\H.next<=H'.next/\(∀ k,k<H.next->(∀ g n,v≠.own k g 0 n 1)->H'.get k=H.get k):=by
 obtain⟨v',H',hA,hO,hn',_⟩:=h.app (P:=P) (r:=r) ht hz hzero hby hne hb hlo hn;have nb:(ext H [.arr 0 e0 r]).next=H.next+1:=rfl;obtain⟨v2,H2,hA2,_,_,hp⟩:=jc (P:=P) (H:=ext H [.arr 0 e0 r]) (t:=t) (x:=.own H.next 0 0 r.length 1) (n:=n) ht hz hzero rfl (by rw[hby];simp [h.len];omega) (h.top.over (.ext _ _)) (by rw[nb];omega) (by rw[nb];omega);rw[nb]at hA2;have e:(v2,H2)=(v',H'):=Option.some.inj (hA2.symm.trans hA);cases e;exact⟨_,_,hA,hO,hn',fun k hk hne=>(hp k (by rw[nb];omega) hne).trans (bY _ _ _ hk)⟩
theorem OwnM.ne {lo:Nat}{H:AHeap}{e1 e0:TypeId}{v:AVal}{ids:List Nat}{rows:List (List AVal)}(h:OwnM lo H e1 e0 v ids rows){k g':Nat}{e:TypeId}{c:List AVal}(hk:H.get k=some (.arr g' e c))(he:e≠e1):∀ g n,v≠.own k g 0 n 1:=fun g n hv=>by
 rcases h.top with ⟨h1,_⟩|⟨i,g2,_,_,h1,h2⟩
 ·rw[h1]at hv;cases hv
 ·rw[h1]at hv;obtain rfl:=(AVal.own.inj hv).1;rw[hk]at h2;cases h2;exact he rfl
theorem W.tf {n:Nat}{rd:Option Nat}{Q:AX->St->Prop}{s:St}{x y:Code}(Φ:St->Prop)(h:W P G n rd x (fun ax s'=>ax=.normal/\Φ s') s)(h2:∀ s',Φ s'->W P G n rd y Q s'):W P G n rd (.seq x y) Q s :=
 W.seq (h.mono fun ax s' ⟨e,hp⟩=>by subst e;exact h2 s' hp)
theorem dh.same {s:St}:dh P G s s:=by
 intro n wb Γ a w hs;exact⟨Γ,hs,.refl _ _ _,fun _ _ h _=>h⟩
end Go.Hx
namespace Go.Proofs
open Go.Hx
structure NodO (lo:Nat)(H:AHeap)(pv rv:AVal)(ids:List Nat)(x:NodeP):Prop where
 par:aA lo H 3 pv (ints x.parents)
 rows:OwnM lo H 39 3 rv ids (x.rows.map ints)
 dj:∀ id g n,pv=.own id g 0 n 1->id ∉ ids
 nil:x.rows=[]->rv=.lit (.slice none 0 0)
theorem NodO.keep {lo:Nat}{H H':AHeap}{pv rv:AVal}{ids:List Nat}{x:NodeP}(h:NodO lo H pv rv ids x)(hn:H.next<=H'.next)(hk:∀ id,lo<=id->id<H.next->H'.get id=H.get id):NodO lo H' pv rv ids x :=
 ⟨h.par.keep (Nat.le_refl _) hn fun id _ h1 h2 _ _=>hk id h1 h2,h.rows.keep hn hk,h.dj,h.nil⟩
theorem NodO.over {lo:Nat}{H H':AHeap}{pv rv:AVal}{ids:List Nat}{x:NodeP}(h:NodO lo H pv rv ids x)(o:Over H H'):NodO lo H' pv rv ids x:=h.keep o.next fun id _ h2=>o.old id h2
theorem NodO.keepE {lo:Nat}{H H':AHeap}{pv rv:AVal}{ids:List Nat}{x:NodeP}(h:NodO lo H pv rv ids x)(hn:H.next<=H'.next)(hk:∀ id g e c,lo<=id->id<H.next->H.get id=some (.arr g e c)->e≠69->H'.get id=H.get id):NodO lo H' pv rv ids x :=
 ⟨h.par.keep (Nat.le_refl _) hn fun id g h1 h2 h3 _=>hk id g _ _ h1 h2 h3 (by decide),⟨h.rows.len,h.rows.nd,fun i hi=>⟨(h.rows.rng i hi).1,by have:=(h.rows.rng i hi).2;omega⟩,h.rows.top.keep (Nat.le_refl _) hn fun id g h1 h2 h3 _=>hk id g _ _ h1 h2 h3 (by decide),fun k id r h1 h2=>by
  have h3:=h.rows.rng id (Pq h1);have h4:=h.rows.row k id r h1 h2;rw[hk id _ _ _ h3.1 h3.2 h4 (by decide)];exact h4⟩,h.dj,h.nil⟩
theorem tg {lo:Nat}{H:AHeap}{e1 e0:TypeId}{v:AVal}{ids:List Nat}{rows:List (List AVal)}(h:OwnM lo H e1 e0 v ids rows):v.one=true/\v.cells=[v]:=⟨h.top.one,h.top.cells⟩
theorem AV {S:Nat->Prop}{lo nx:Nat}{H:AHeap}{e:TypeId}{v:AVal}{cs cs':List AVal}(h:aA lo H e v cs)(hS:∀ i g,lo<=i->i<H.next->H.get i=some (.arr g e cs)->S i)(hl:cs'.length=cs.length)
  (hc:∀ i (h:i<cs.length) (h':i<cs'.length),Fz S H nx cs[i] cs'[i]):Fz S H nx v (.vec cs'.length cs'):=by
 rcases h with ⟨rfl,rfl⟩|⟨id,g,h1,h2,rfl,h4⟩
 ·obtain rfl:=PG hl;exact .nil
 ·rw[hl];refine .frz (hS id g h1 h2 h4) h4 (by omega) fun j hj h2 h'=>?_;simp only[Nat.zero_add]at h2 ⊢;exact hc j h2 h'
def pY (S:Nat->Prop)(lo:Nat)(H:AHeap):Prop:=∀ i g e c,lo<=i->i<H.next->H.get i=some (.arr g e c)->e≠69->S i
theorem NodO.pZ {S:Nat->Prop}{lo nx:Nat}{H:AHeap}{pv rv:AVal}{ids:List Nat}{x:NodeP}(h:NodO lo H pv rv ids x)(hS:pY S lo H):Fz S H nx pv (ae x.parents):=by
 have:=AV (S:=S) (nx:=nx) (cs':=ints x.parents) h.par (fun i g h1 h2 h3=>hS i g _ _ h1 h2 h3 (by decide)) rfl fun i hi _=>by simp only[ints,PB];exact .lit _
 rw[aS]at this;exact this
theorem NodO.Lk {S:Nat->Prop}{lo nx:Nat}{H:AHeap}{pv rv:AVal}{ids:List Nat}{x:NodeP}(h:NodO lo H pv rv ids x)(hS:pY S lo H):Fz S H nx rv (ay x.rows):=by
 have hl:=h.rows.len;rw[Px]at hl;have:=AV (S:=S) (nx:=nx) (cs':=x.rows.map ae) h.rows.top (fun i g h1 h2 h3=>hS i g _ _ h1 h2 h3 (by decide)) (by simp [hl]) fun i hi hi'=>by
  have hil:i<x.rows.length:=by simpa using hi'
  have hii:i<ids.length:=by omega
  simp only[PB,SV,aS];have hid:=h.rows.rng _ (Qe hii);have hrow:=h.rows.row i _ _ (Pr hii) (show (x.rows.map ints)[i]?=some (ints x.rows[i]) by rw[List.getElem?_map,Pr hil];rfl);refine .frz (hS _ _ _ _ hid.1 hid.2 hrow (by decide)) hrow (by simp [aS]) fun j hj h2 h'=>?_;simp only[ints,PB];have e0:0+j=j:=Nat.zero_add j;simp only[e0];exact .lit _
 rw[Px]at this;exact this
theorem NodO.lW {S:Nat->Prop}{lo nx:Nat}{H:AHeap}{pv rv:AVal}{ids:List Nat}{x:NodeP}(h:NodO lo H pv rv ids x)(hS:pY S lo H):Fz S H nx rv (bp x):=by
 unfold bp;split
 ·rename_i e;rw[h.nil e];exact .lit _
 ·exact h.Lk hS
theorem NodO.low {lo lo':Nat}{H:AHeap}{pv rv:AVal}{ids:List Nat}{x:NodeP}(h:NodO lo H pv rv ids x)(hl:lo'<=lo):NodO lo' H pv rv ids x :=
 ⟨h.par.keep hl (Nat.le_refl _) fun _ _ _ _ _ _=>rfl,⟨h.rows.len,h.rows.nd,fun i hi=>⟨by have:=(h.rows.rng i hi).1;omega,(h.rows.rng i hi).2⟩,h.rows.top.keep hl (Nat.le_refl _) fun _ _ _ _ _ _=>rfl,h.rows.row⟩,h.dj,h.nil⟩
end Go.Proofs
namespace Go.Hx
theorem OwnM.elem {lo:Nat}{H:AHeap}{e1 e0:TypeId}{v:AVal}{ids:List Nat}{rows:List (List AVal)}(h:OwnM lo H e1 e0 v ids rows){i:Nat}(hi:i∈ids):∃ r,H.get i=some (.arr 0 e0 r):=by
 obtain⟨k,hk⟩:=PT.1 hi;have hl:=(P4.1 hk).1;rw[h.len]at hl;exact⟨_,h.row k i _ hk (Pr hl)⟩
theorem OwnM.wC {lo:Nat}{H H':AHeap}{e1 e0:TypeId}{v:AVal}{ids:List Nat}{rows:List (List AVal)}(h:OwnM lo H e1 e0 v ids rows)(hn:H.next<=H'.next)
  (hk:∀ i g e c,lo<=i->i<H.next->H.get i=some (.arr g e c)->(e=e1\/i∈ids)->H'.get i=H.get i):OwnM lo H' e1 e0 v ids rows :=
 ⟨h.len,h.nd,fun i hi=>⟨(h.rng i hi).1,by have:=(h.rng i hi).2;omega⟩,h.top.keep (Nat.le_refl _) hn fun i g h1 h2 h3 _=>hk i g _ _ h1 h2 h3 (.inl rfl),fun k i r h1 h2=>by
  have h3:=h.rng i (Pq h1);have h4:=h.row k i r h1 h2;rw[hk i _ _ _ h3.1 h3.2 h4 (.inr (Pq h1))];exact h4⟩
end Go.Hx
namespace Go.Proofs
open Go.Hx
structure SmallN (m:Nat)(ns:List NodeP):Prop where
 len:ns.length<=m
 node:∀ x∈ns,x.parents.length<=m/\x.rows.length<=m/\∀ r∈x.rows,r≠[]/\r.length<=m
theorem SmallN.mono {m m':Nat}{ns:List NodeP}(h:SmallN m ns)(hm:m<=m'):SmallN m' ns :=
 ⟨PY h.len hm,fun x hx=>by
  obtain⟨a,b,c⟩:=h.node x hx;exact⟨by omega,by omega,fun r hr=>⟨(c r hr).1,by have:=(c r hr).2;omega⟩⟩⟩
theorem SmallN.set {m:Nat}{ns:List NodeP}{A:Nat}{y:NodeP}(h:SmallN m ns)(hy:y.parents.length<=m/\y.rows.length<=m/\∀ r∈y.rows,r≠[]/\r.length<=m):SmallN m (ns.set A y) :=
 ⟨by rw[Py];exact h.len,fun x hx=>by
  rcases P3 hx with h1|rfl
  ·exact h.node x h1
  ·exact hy⟩
def bg (ns:List NodeP)(A:Nat)(c pv rv:AVal):List AVal:=(((fJ ns).set (A*3) c).set (A*3+1) pv).set (A*3+2) rv
theorem hJ (ns:List NodeP)(A:Nat)(c pv rv:AVal):(bg ns A c pv rv).length=ns.length*3:=by unfold bg;simp [mq]
theorem wD {ns:List NodeP}{A:Nat}(h:A<ns.length)(c pv rv:AVal):(bg ns A c pv rv)[A*3]?=some c:=by
 unfold bg;rw[PO (by omega),PO (by omega),PF (by rw[mq];omega)]
theorem AY {ns:List NodeP}{A:Nat}(h:A<ns.length)(c pv rv:AVal):(bg ns A c pv rv)[A*3+1]?=some pv:=by
 unfold bg;rw[PO (by omega),PF (by rw[Py,mq];omega)]
theorem AZ {ns:List NodeP}{A:Nat}(h:A<ns.length)(c pv rv:AVal):(bg ns A c pv rv)[A*3+2]?=some rv:=by
 unfold bg;rw[PF (by rw[Py,Py,mq];omega)]
theorem wE {ns:List NodeP}{A i:Nat}(h0:i≠A*3)(h1:i≠A*3+1)(h2:i≠A*3+2)(c pv rv:AVal):(bg ns A c pv rv)[i]?=(fJ ns)[i]?:=by
 unfold bg;rw[PO (by omega),PO (by omega),PO (by omega)]
theorem Lp {ns:List NodeP}{A:Nat}(c c' pv rv:AVal):(bg ns A c pv rv).set (A*3) c'=bg ns A c' pv rv:=by
 unfold bg;rw[SJ _ _ (by omega),SJ (i:=A*3+1) _ _ (by omega),RF]
theorem A0 {ns:List NodeP}{A:Nat}(c pv pv' rv:AVal):(bg ns A c pv rv).set (A*3+1) pv'=bg ns A c pv' rv:=by
 unfold bg;rw[SJ _ _ (by omega),RF]
theorem A1 {ns:List NodeP}{A:Nat}(c pv rv rv':AVal):(bg ns A c pv rv).set (A*3+2) rv'=bg ns A c pv rv':=by
 unfold bg;rw[RF]
theorem Lq {ns:List NodeP}{A:Nat}(h:A<ns.length)(c pv rv:AVal):¬ bg ns A c pv rv=[]:=fun e=>by
 have:=wD h c pv rv;rw[e]at this;simp at this
theorem Lr {ns:List NodeP}{A:Nat}{x:NodeP}(h:ns[A]?=some x)(pv rv:AVal):((fJ ns).set (A*3+1) pv).set (A*3+2) rv=bg ns A (aa x.card) pv rv:=by
 unfold bg;rw[kX (BO h)]
theorem tj {e:Nat->Prop}{ns:List NodeP}{A:Nat}{x':NodeP}{rv:AVal}(hA:A<ns.length)(hr:rv=ay x'.rows\/rv=bp x')(he:e A->rv=bp x'):NodesQ e (ns.set A x') (bg ns A (aa x'.card) (ae x'.parents) rv):=by
 refine⟨by rw[hJ,Py],fun v x hx=>?_⟩;by_cases h:v=A
 ·subst h;rw[PF hA]at hx;cases hx;exact⟨rv,wD hA _ _ _,AY hA _ _ _,AZ hA _ _ _,hr,he⟩
 ·rw[PO (by omega)]at hx;refine⟨bp x,?_,?_,?_,.inr rfl,fun _=>rfl⟩
  ·rw[wE (by omega) (by omega) (by omega)];exact BO hx
  ·rw[wE (by omega) (by omega) (by omega)];exact NX hx
  ·rw[wE (by omega) (by omega) (by omega)];exact NY hx
theorem A2 {S:Nat->Prop}{lo nx z n:Nat}{H:AHeap}{e:TypeId}{v:AVal}{cs cs':List AVal}(h:dK lo H e z v n cs)(hS:∀ i,lo<=i->S i)(hl:cs'.length=cs.length)
  (hc:∀ i (h:i<cs.length) (h':i<cs'.length),Fz S H nx cs[i] cs'[i]):Fz S H nx v (.vec n cs'):=by
 rcases h with ⟨rfl,rfl,rfl⟩|⟨id,g,h1,_,rfl,h3,h4⟩
 ·obtain rfl:=PG hl;exact .nil
 ·refine .frz (hS id h1) h4 (by omega) fun j hj h2 h'=>?_;simp only[Nat.zero_add]at h2 ⊢;exact hc j h2 h'
theorem wG {S:Nat->Prop}{H:AHeap}{nx A:Nat}{ns:List NodeP}{c:Int}{pv rv pv' rv':AVal}(hp:Fz S H nx pv pv')(hr:Fz S H nx rv rv'):∀ i (h:i<(bg ns A (aa c) pv rv).length) (h':i<(bg ns A (aa c) pv' rv').length),Fz S H nx (bg ns A (aa c) pv rv)[i] (bg ns A (aa c) pv' rv')[i]:=by
 unfold bg;intro i h h';simp only[Re];by_cases h2:A*3+2=i
 ·rw[Pv h2,Pv h2];exact hr
 ·rw[Pt h2,Pt h2];by_cases h1:A*3+1=i
  ·rw[Pv h1,Pv h1];exact hp
  ·rw[Pt h1,Pt h1];by_cases h0:A*3=i
   ·rw[Pv h0];exact .lit _
   ·rw[Pt h0];exact N1 ns _ (Qe _)
theorem Ls {S:Nat->Prop}{lo nx:Nat}{H H':AHeap}{v:AVal}{ids:List Nat}{rows:List (List Int)}{R idt gt:Nat}{w:AVal}{r':List Int}{cells:List AVal}(h:OwnM lo H 39 3 v ids (rows.map ints))(hS:∀ i,lo<=i->S i)(hR:R<rows.length)(ht:lo<=idt)
  (hcell:cells.length=rows.length) (hsame:∀ (j id:Nat) (r:List Int),j≠R->ids[j]?=some id->rows[j]?=some r->cells[j]?=some (.own id 0 0 r.length 1)/\H'.get id=H.get id) (hw:cells[R]?=some w) (hg:H'.get idt=some (.arr gt 39 cells)) (hfw:Fz S H' nx w (ae r')):
  Fz S H' nx (.own idt gt 0 rows.length 1) (ay (rows.set R r')):=by
 have hl:=h.len;rw[Px]at hl;have:Fz S H' nx (.own idt gt 0 rows.length 1) (.vec rows.length ((rows.set R r').map ae)):=by
  refine .frz (hS idt ht) hg (by simp) fun j hj h2 h'=>?_;simp only[Nat.zero_add]at h2 ⊢;have hjr:j<rows.length:=by omega
  have e1:=Pr h2;generalize cells[j]=u at e1 ⊢;rw[PB,Re];split
  ·rename_i e;subst e;rw[hw]at e1;cases e1;exact hfw
  ·rename_i e;have hij:j<ids.length:=(by omega);obtain⟨c1,c2⟩:=hsame j _ _ (fun h=>e h.symm) (Pr hij) (Pr hjr);rw[c1]at e1;cases e1;have hid:=h.rng _ (Qe hij);have hrow:=h.row j _ _ (Pr hij) (show (rows.map ints)[j]?=some (ints rows[j]) by rw[List.getElem?_map,Pr hjr];rfl);rw[<- c2]at hrow;refine .frz (hS _ hid.1) hrow (by simp [aS]) fun i hi h3 h4=>?_;have e0:0+i=i:=Nat.zero_add i;simp only[e0,ints,PB];exact .lit _
 have e:ay (rows.set R r')=.vec rows.length ((rows.set R r').map ae):=by unfold ay;rw[Py]
 rw[e];exact this
structure RowAt (lo:Nat)(H:AHeap)(rv:AVal)(ids:List Nat)(rows:List (List Int))(R:Nat)(q:List Int)(idt gt:Nat)(cells:List AVal)(idr:Nat):Prop where
 rv:rv=.own idt gt 0 rows.length 1
 top:H.get idt=some (.arr gt 39 cells)
 tlo:lo<=idt/\idt<H.next
 len:cells.length=rows.length
 at':cells[R]?=some (.own idr 0 0 q.length 1)
 row:H.get idr=some (.arr 0 3 (ints q))
 rlo:lo<=idr/\idr<H.next
 ne:idt≠idr
 id:ids[R]?=some idr
 q:rows[R]?=some q
 cell:∀ (j i:Nat) (r:List Int),ids[j]?=some i->rows[j]?=some r->cells[j]?=some (.own i 0 0 r.length 1)
 nm:idt ∉ ids
theorem OwnM.rowAt {lo:Nat}{H:AHeap}{rv:AVal}{ids:List Nat}{rows:List (List Int)}(h:OwnM lo H 39 3 rv ids (rows.map ints)){R:Nat}{q:List Int}(hq:rows[R]?=some q):∃ idt gt cells idr,RowAt lo H rv ids rows R q idt gt cells idr:=by
 have hR:=get_lt hq;have hl:=h.len;rw[Px]at hl;have h0:rows.map ints≠[]:=by intro e;have:=congrArg List.length e;simp at this;rw[this]at hR;simp at hR
 obtain⟨idt,gt,a,b,c,d,f⟩:=h.CA h0;obtain⟨idr,hidr⟩:=get_of_lt (show R<ids.length by omega);have hrow:=h.row R idr (ints q) hidr (by rw[List.getElem?_map,hq];rfl);have hcell:∀ (j i:Nat) (r:List Int),ids[j]?=some i->rows[j]?=some r->(List.zipWith (fun i n=>AVal.own i 0 0 n 1) ids ((rows.map ints).map List.length))[j]?=some (.own i 0 0 r.length 1):=fun j i r h1 h2=>by
  rw[List.getElem?_zipWith,h1,List.getElem?_map,List.getElem?_map,h2];simp [aS]
 refine⟨idt,gt,_,idr,by rw[c,Px],d,⟨a,b⟩,by simp [hl],hcell R idr q hidr hq,hrow,h.rng _ (Pq hidr),?_,hidr,hq,hcell,f (by decide)⟩;rintro rfl;exact f (by decide) (Pq hidr)
theorem RowAt.Lt {S:Nat->Prop}{lo nx:Nat}{H H':AHeap}{rv:AVal}{ids:List Nat}{rows:List (List Int)}{R:Nat}{q:List Int}{idt gt:Nat}{cells:List AVal}{idr:Nat}(h:RowAt lo H rv ids rows R q idt gt cells idr)(hM:OwnM lo H' 39 3 rv ids (rows.map ints))(hS:∀ i,lo<=i->S i)(ht:H'.get idt=some (.arr gt 39 cells)):
  Fz S H' nx (.own idt gt 0 R 1) (ay (rows.take R)):=by
 have hR:=get_lt h.q;have hl:=hM.len;rw[Px]at hl;have:Fz S H' nx (.own idt gt 0 R 1) (.vec R ((rows.take R).map ae)):=by
  refine .frz (hS idt h.tlo.1) ht (by simp;omega) fun j hj h2 h'=>?_;simp only[Nat.zero_add]at h2 ⊢;have hjr:j<rows.length:=by omega
  have hij:j<ids.length:=by omega
  have e1:=Pr h2;generalize cells[j]=u at e1 ⊢;rw[h.cell j _ _ (Pr hij) (Pr hjr)]at e1;cases e1;rw[PB,Q3];have hid:=hM.rng _ (Qe hij);have hrow:=hM.row j _ _ (Pr hij) (show (rows.map ints)[j]?=some (ints rows[j]) by rw[List.getElem?_map,Pr hjr];rfl);refine .frz (hS _ hid.1) hrow (by simp [aS]) fun i hi h3 h4=>?_;have e0:0+i=i:=Nat.zero_add i;simp only[e0,ints,PB];exact .lit _
 have e:ay (rows.take R)=.vec R ((rows.take R).map ae):=by unfold ay;rw[PC,QR (by omega)]
 rw[e];exact this
theorem RowAt.Lu {S:Nat->Prop}{lo nx:Nat}{H H':AHeap}{rv:AVal}{ids:List Nat}{rows:List (List Int)}{R:Nat}{q:List Int}{idt gt:Nat}{cells:List AVal}{idr:Nat}(h:RowAt lo H rv ids rows R q idt gt cells idr)(hM:OwnM lo H 39 3 rv ids (rows.map ints))(hS:∀ i,lo<=i->S i){w:AVal}{q':List Int}
  (ht:H'.get idt=some (.arr gt 39 (cells.set R w))) (hk:∀ i∈ids,i≠idr->H'.get i=H.get i) (hw:Fz S H' nx w (ae q')):Fz S H' nx rv (ay (rows.set R q')):=by
 have hR:=get_lt h.q;rw[h.rv];refine Ls (gt:=gt) hM hS hR h.tlo.1 (by rw[Py];exact h.len) (fun j i r hj h1 h2=>⟨by rw[PO (fun e=>hj e.symm)];exact h.cell j i r h1 h2,hk i (Pq h1) ?_⟩) (by rw[PF (by rw[h.len];exact hR)]) ht hw;rintro rfl;exact hj ((Q5 (get_lt h1) hM.nd).1 (by rw[h1,h.id]))
theorem NodesQ.take {e:Nat->Prop}{ns:List NodeP}{cs:List AVal}(h:NodesQ e ns cs)(k:Nat):NodesQ e (ns.take k) (cs.take (k*3)):=by
 refine⟨by rw[PC,PC,h.len];omega,fun v x hx=>?_⟩;have hv:=get_lt hx;rw[PC]at hv;rw[Ql (by omega)]at hx;obtain⟨rv,a,b,c,d⟩:=h.node v x hx;exact⟨rv,by rw[Ql (by omega)];exact a,by rw[Ql (by omega)];exact b,by rw[Ql (by omega)];exact c,d⟩
theorem SmallN.take {m:Nat}{ns:List NodeP}(h:SmallN m ns)(k:Nat):SmallN m (ns.take k):=⟨by rw[PC];have:=h.len;omega,fun x hx=>h.node x (PW hx)⟩
def hT:Nat->Int->Int->List Int->List Int
 | 0,_,_,l=>l
 | f+1,i,k,l=>if i<k then hT f (i+1) (k - 1) ((l.set i.toNat (l.getD k.toNat 0)).set k.toNat (l.getD i.toNat 0)) else l
def gJ (c n g:Int)(q:List Int):List Int:=if c=6 then q.set 0 n else if c=7 then q++[0] else if c=8 then g :: List.replicate (q.length - 1) 0 else hT (q.length+1) 0 ((q.length:Int) - 1) q
def de (c r n g:Int)(x:NodeP):NodeP × AVal :=
 if c=1 then ({ x with card:=n },bp x) else if c=2 then ({ x with parents:=x.parents++[n] },bp x) else if c=3 then ({ x with parents:=[] },bp x)
 else if c=4 then ({ x with rows:=x.rows++[[n]] },bp { x with rows:=x.rows++[[n]] })
 else match x.rows[(r % (x.rows.length:Int)).toNat]? with
  | none=>(x,bp x)
  | some q=>if c=5 then ({ x with rows:=x.rows.take (r % (x.rows.length:Int)).toNat },ay (x.rows.take (r % (x.rows.length:Int)).toNat))
   else ({ x with rows:=x.rows.set (r % (x.rows.length:Int)).toNat (gJ c n g q) },ay (x.rows.set (r % (x.rows.length:Int)).toNat (gJ c n g q)))
def gK (c:Int)(A:Nat)(r n g:Int)(ns:List NodeP):Int × List NodeP × List AVal:=match ns[A]? with
 | none=>(g,[],[])
 | some x=>if c=0 then (n,ns,bg ns A (aa x.card) (ae x.parents) (bp x))
  else if c=10 then (g,ns++[⟨1,[],[[g]]⟩],bg ns A (aa x.card) (ae x.parents) (bp x)++[aa 1,ae [],bp ⟨1,[],[[g]]⟩])
  else if c=11 then (g,ns.take (ns.length - 1),(bg ns A (aa x.card) (ae x.parents) (bp x)).take ((ns.length - 1)*3))
  else (g,ns.set A (de c r n g x).1,bg ns A (aa (de c r n g x).1.card) (ae (de c r n g x).1.parents) (de c r n g x).2)
theorem qc {c r n g:Int}{x:NodeP}(hc:4<c)(hx:x.rows=[]):de c r n g x=(x,bp x):=by
 unfold de;rw[Pt (by omega),Pt (by omega),Pt (by omega),Pt (by omega),hx];rfl
theorem Lv {r n g:Int}{x:NodeP}{R:Nat}{q:List Int}(hq:x.rows[R]?=some q)(hR:R=(r % (x.rows.length:Int)).toNat):de 5 r n g x=({ x with rows:=x.rows.take R },ay (x.rows.take R)):=by
 subst hR;unfold de;rw[Pt (by omega),Pt (by omega),Pt (by omega),Pt (by omega),hq];rfl
theorem Lw {c r n g:Int}{x:NodeP}{R:Nat}{q:List Int}(hc:5<c)(hq:x.rows[R]?=some q)(hR:R=(r % (x.rows.length:Int)).toNat):de c r n g x=({ x with rows:=x.rows.set R (gJ c n g q) },ay (x.rows.set R (gJ c n g q))):=by
 subst hR;unfold de;rw[Pt (by omega),Pt (by omega),Pt (by omega),Pt (by omega),hq];simp only;rw[Pt (by omega)]
theorem Lx:∀ (f:Nat) (i k:Int) (l:List Int),(hT f i k l).length=l.length:=by
 intro f
 induction f with
 | zero=>intro i k l;rfl
 | succ f ih=>intro i k l;unfold hT;split<;>simp [ih]
theorem Ly {f:Nat}{i k:Int}{l:List Int}(h:¬ i<k):hT f i k l=l:=by
 cases f with
 | zero=>rfl
 | succ f=>unfold hT;rw[Pt h]
theorem Lz {f iN kN:Nat}{l:List Int}{qa qb:Int}(h:(iN:Int)<kN)(ha:l[iN]?=some qa)(hb:l[kN]?=some qb):hT f ((iN:Int)+1) ((kN:Int) - 1) ((l.set iN qb).set kN qa)=hT (f+1) iN kN l:=by
 conv=>rhs;unfold hT
 rw[Pv h];simp [List.getD,ha,hb]
end Go.Proofs
