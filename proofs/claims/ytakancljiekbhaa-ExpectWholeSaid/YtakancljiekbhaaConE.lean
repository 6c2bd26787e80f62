/- Own work: contracts. -/
import Derived.Test.YtakancljiekbhaaConB
import Derived.Test.YtakancljiekbhaaConD
import Derived.Test.YtakancljiekbhaaConA
import Derived.Test.YtakancljiekbhaaProg
import Derived.Test.YtakancljiekbhaaLibC
import Derived.Test.YtakancljiekbhaaRows
import Derived.ProofKit
import Derived.Test.YtakancljiekbhaaLibB
set_option linter.all false
set_option maxRecDepth 100000
namespace Go.Proofs
open Go.Hx
def tV (p:Int)(k:Nat):Bool:=decide (IntKind.u8.wrap (((BitVec.ofInt IntKind.u8.bits (p.fdiv (2 ^ (min ((k:Int)).toNat IntKind.u8.bits))) &&& BitVec.ofInt IntKind.u8.bits 1).toNat:Nat):Int)=1)
def jy (ms:List Int)(i v:Nat):Bool:=match ms[i]? with
 | some m=>tV m v
 | none=>false
def gR (ms:List Int)(i k:Nat)(vals:List Int):List Int:=(List.range vals.length).map fun v=>if v<k/\jy ms i v=true then -1 else vals.getD v 0
theorem lQ (ms:List Int)(i k:Nat)(vals:List Int):(gR ms i k vals).length=vals.length:=by simp [gR]
theorem MD (ms:List Int)(i:Nat)(vals:List Int):gR ms i 0 vals=vals:=by
 refine Sf fun j=>?_;unfold gR;rw[List.getElem?_map];rcases RP j vals.length with h|h
 ·obtain⟨x,hx⟩:=get_of_lt h;rw[Sm h,hx];show some (if j<0/\_ then _ else vals.getD j 0)=_;rw[RB (by omega),aO hx]
 ·rw[RF (by simpa using h),RF h];rfl
theorem oU {ms:List Int}{i k:Nat}{vals:List Int}{v:Nat}{x:Int}(h:vals[v]?=some x):(gR ms i k vals)[v]?=some (if v<k/\jy ms i v=true then -1 else x):=by
 unfold gR;rw[List.getElem?_map,Sm (get_lt h)];show some (if v<k/\jy ms i v=true then -1 else vals.getD v 0)=_;rw[aO h]
theorem ME {ms:List Int}{i k:Nat}{vals:List Int}(hk:k<vals.length):gR ms i (k+1) vals=if jy ms i k=true then (gR ms i k vals).set k (-1) else gR ms i k vals:=by
 refine Sf fun j=>?_;rcases RP j vals.length with h|h
 ·obtain⟨x,hx⟩:=get_of_lt h;rw[oU hx];by_cases hm:jy ms i k=true
  ·rw[RC hm,SQ];by_cases hj:k=j
   ·subst hj;rw[RC rfl,RC (⟨by omega,hm⟩:k<k+1/\jy ms i k=true),RC (by rw[lQ];exact h)]
   ·rw[RB hj,oU hx];by_cases hjk:j<k
    ·simp [hjk,show j<k+1 by omega]
    ·simp [hjk,show ¬ j<k+1 by omega]
  ·rw[RB hm,oU hx];by_cases hj:j=k
   ·subst hj;simp [hm]
   ·by_cases hjk:j<k
    ·simp [hjk,show j<k+1 by omega]
    ·simp [hjk,show ¬ j<k+1 by omega]
 ·rw[RF (by rw[lQ];exact h)];split
  ·rw[RF (by rw[RY,lQ];exact h)]
  ·rw[RF (by rw[lQ];exact h)]
def ef (l:List Int):List AVal:=l.map fun n=>.lit (.int .u16 n)
theorem MF {l:List Int}{k:Nat}{a:Int}(h:l[k]?=some a):(ef l)[k]?=some (.lit (.int .u16 a)):=by unfold ef;rw[List.getElem?_map,h];rfl
theorem MG (l:List Int):(ef l).length=l.length:=by simp [ef]
def fV (ns:List NodeP)(ws ms:List Int)(i:Nat):List Int:=gR ms i ns.length (dz (ah ns) (ws.getD i 0 % aw (ah ns)))
def fL (ns:List NodeP)(ws ms:List Int):List (List Int):=(List.range (min 12 ws.length)).map (fV ns ws ms)
def oV (ns:List NodeP)(ws ms:List Int)(k:Nat):List (List Int):=(List.range k).map (fV ns ws ms)
set_option maxHeartbeats 4000000 in
theorem BM (g:Int)(ns:List NodeP)(h8:1<=ns.length/\ns.length<=8)(hc:∀ y∈ns,1<=y.card/\y.card<=4)(hsz:aw (ah ns)<=1024)(ws ms:List Int)(hws:∀ x∈ws,0<=x/\x<65536)(hms:∀ x∈ms,0<=x/\x<256)
  (hwl:(ws.length:Int)<2 ^ 63) (hml:(ms.length:Int)<2 ^ 63) (H:AHeap) (K:ARes->AHeap->Prop) (hK:K (.ret (dM (ah ns) (fL ns ws ms))) H):
  ae Try.prog G0 27 [bP g ns,.vec ws.length (ef ws),.vec ms.length (aX ms)] H K:=by
 refine ae.clo ⟨_,Try.func27,rfl,rfl⟩ fun hcl=>?_;have hp:=jH (l:=ah ns) fun c hcm=>by obtain⟨y,hy,rfl⟩:=RI.1 hcm;exact(hc y hy).1
 have wll:=MG ws;have mll:=Nk ms;refine ae.bH (n:=64) (rs:=[.cell 6 42]) Try.func27 rfl rfl rfl (by decide) (by kernel_rfl) (by simp) ?_;simp only[go_sem,bP,de];refine az.clo (uG g ns (by omega) _ _ ⟨trivial,?_⟩);simp only[go_sem];obtain⟨cs,hcs⟩:∃ cs,cs=ah ns:=⟨_,rfl⟩
 rw[<- hcs];obtain⟨H1,hH1⟩:∃ H1,H1=ext H [.arr 0 35 [aa g,.vec ns.length (ar ns)],.arr 0 42 [.lit (.slice none 0 0),.lit (.slice none 0 0)],.arr 0 42 [.vec cs.length (ints cs),.lit (.slice none 0 0)]]:=⟨_,rfl⟩
 have n1:H1.next=H.next+3:=by rw[hH1];rfl
 have o1:Over H H1:=by rw[hH1];exact .ext _ _
 have g0:H1.get H.next=some (.arr 0 35 [aa g,.vec ns.length (ar ns)]):=by rw[hH1];exact dV ..
 have g1:H1.get (H.next+1)=some (.arr 0 42 [.lit (.slice none 0 0),.lit (.slice none 0 0)]):=by rw[hH1];exact bk H _ 1 (by simp)
 have g2:H1.get (H.next+2)=some (xM (ab cs) (.lit (.slice none 0 0))):=by rw[hH1];exact bk H _ 2 (by simp)
 refine W.en (fun E=>E 1=.vec ws.length (ef ws) /\ E 2=.vec ms.length (aX ms) /\ E 3=.ptr H.next 0 0 /\ E 6=.ptr (H.next+1) 0 0 /\ E 7=.ptr (H.next+2) 0 0 /\ E 8=aa 0) (by simp only[go_sem]) fun E ⟨e1,e2,e3,e6,e7,e8⟩=>?_
 show W _ _ _ _ _ _ ⟨E,ext H [.arr 0 35 [aa g,.vec ns.length (ar ns)],.arr 0 42 [.lit (.slice none 0 0),.lit (.slice none 0 0)],.arr 0 42 [.vec cs.length (ints cs),.lit (.slice none 0 0)]]⟩;rw[<- hH1];refine W.aI 9223372036854761216 (by rfl) (fun ρ Hi=>∃ (i:Nat) (xv:AVal),ρ 8=aa i/\i<=min 12 ws.length/\H1.next<=Hi.next/\(∀ id,id<H.next+2->Hi.get id=H1.get id)/\Hi.get (H.next+2)=some (xM (ab cs) xv)/\fb (H.next+3) Hi 39 3 xv ((oV ns ws ms i).map ints)) (fun ρ Hi=>12 - (iv (ρ 8)).toNat) ?_ ?_
 ·exact⟨0,_,e8,by omega,Nat.le_refl _,fun _ _=>rfl,g2,.nil⟩
 rintro ρ Hi ⟨i,xv,h8i,hi,hni,holdi,hbi,hD⟩;refine W.en (fun E1=>E1 1=.vec ws.length (ef ws) /\ E1 2=.vec ms.length (aX ms) /\ E1 3=.ptr H.next 0 0 /\ E1 6=.ptr (H.next+1) 0 0 /\ E1 7=.ptr (H.next+2) 0 0 /\ E1 8=aa i) (by simp only[go_sem,e1,e2,e3,e6,e7,h8i]) fun E1 ⟨a1,a2,a3,a6,a7,a8⟩=>?_
 have l0:=ao ((holdi _ (by omega)).trans g0);have l1:=ao ((holdi _ (by omega)).trans g1);have l2:=ao hbi;obtain⟨xone,xcells⟩:=B6 hD;have fin:i=min 12 ws.length->av Try.prog G0 H K (.agg [ab cs,xv]) (Hi.upd (H.next+1) (xM (ab cs) xv)):=fun hm=>by
  have hcl2:fL ns ws ms=oV ns ws ms i:=by rw[hm];rfl
  rw[hcl2,<- hcs]at hK;exact av.cK aZ hcl ⟨by rw[aL];omega,fun id h=>by rw[aj,RB (by omega),holdi id (by omega)];exact o1.old id h⟩ (Nw (.dT _) (P4 (B7 hD (by omega)).P2 fun i h=>by omega)) hK
 by_cases c1:(i:Int)<ws.length;rotate_left
 ·refine W.vs ?_;simp only[go_sem,a1,a6,a7,a8,l1,l2,c1,xone];exact fin (by omega)
 by_cases c2:(i:Int)<12;rotate_left
 ·refine W.vs ?_;simp only[go_sem,a1,a6,a7,a8,l1,l2,c1,c2,xone];exact fin (by omega)
 obtain⟨wd,hwd⟩:=get_of_lt (l:=ws) (i:=i) (by omega);have hwr:=hws wd (Ry hwd);have hwg:=MF hwd;have hwn:=aK hwg;have wu:=Rw wd (by omega);have wm:wd.tmod (aw cs)=wd % aw cs:=by rw[hcs];exact Sx hwr.1
 have wmr:=TA wd (show 0<aw cs by rw[hcs];omega);have wmn:=TZ wd (show aw cs≠0 by rw[hcs];omega);have wmw:=Rw (wd % aw cs) (by rw[hcs]at wmr wmn ⊢;omega);have hpz:¬ aw cs=0:=by rw[hcs];omega
 refine W.vs ?_;simp only[go_sem,a1,a8,c1,c2];refine W.draw 9 [0,0,0,6,14,30,0,64,254] Try.mixed (by kernel_rfl) (by kernel_rfl) ?_;simp only[go_sem,a1,a3,a8,l0,c1,hwg,hwn,wu];refine⟨aa (aw cs),[],ed.pure (fun H2=>Qt g ns h8.2 hc H2 _ ⟨by rw[hcs],rfl⟩),?_⟩;simp only[go_sem,hpz,wm];refine az.clo (MC g ns h8.2 hc (wd % aw cs) (by rw[hcs]at wmr wmn ⊢;omega) _ _ fun cv Hk ov hO=>⟨trivial,?_⟩);rw[<- hcs]at hO;obtain⟨vals,hvals⟩:∃ vals,vals=dz cs (wd % aw cs):=⟨_,rfl⟩
 have hvl:vals.length=ns.length:=by rw[hvals,nk,hcs,bA]
 rw[<- hvals]at hO;rcases hO with ⟨_,e⟩|⟨ic,gc,ic1,ic2,rfl,hgc⟩
 ·have:=congrArg List.length e;rw[bO,hvl,List.length_nil]at this;omega
 rw[bO,hvl];have ovn:=ov.next;simp only[go_sem];refine W.en (fun E2=>E2 1=.vec ws.length (ef ws) /\ E2 2=.vec ms.length (aX ms) /\ E2 3=.ptr H.next 0 0 /\ E2 6=.ptr (H.next+1) 0 0 /\ E2 7=.ptr (H.next+2) 0 0 /\ E2 8=aa i /\ E2 9=.own ic gc 0 ns.length 1 /\ E2 10=aa 0) (by simp only[go_sem,a1,a2,a3,a6,a7,a8]) fun E2 ⟨b1,b2,b3,b6,b7,b8,b9,b10⟩=>?_
 refine W.aI 144115170895987712 (by rfl) (fun ρ Hj=>∃ v:Nat,ρ 10=aa v/\v<=ns.length/\Hj.next=Hk.next/\(∀ id,id≠ic->Hj.get id=Hk.get id)/\Hj.get ic=some (.arr gc 3 (ints (gR ms i v vals)))) (fun ρ Hj=>ns.length - (iv (ρ 10)).toNat) ?_ ?_
 ·exact⟨0,b10,by omega,rfl,fun _ _=>rfl,by rw[MD];exact hgc⟩
 rintro ρ3 Hj ⟨v,h10,hv,nj,oj,gj⟩;refine W.en (fun E3=>E3 1=.vec ws.length (ef ws) /\ E3 2=.vec ms.length (aX ms) /\ E3 3=.ptr H.next 0 0 /\ E3 6=.ptr (H.next+1) 0 0 /\ E3 7=.ptr (H.next+2) 0 0 /\ E3 8=aa i /\ E3 9=.own ic gc 0 ns.length 1 /\ E3 10=aa v) (by simp only[go_sem,b1,b2,b3,b6,b7,b8,b9,h10]) fun E3 ⟨d1,d2,d3,d6,d7,d8,d9,d10⟩=>?_
 have ljc:=ao gj;have mrl:=lQ ms i v vals;by_cases c3:(v:Int)<ns.length;rotate_left
 ·have ev:v=ns.length:=by omega
  subst ev;have w1:=Rw ((i:Int)+1) (by omega);have hcase:fV ns ws ms i=gR ms i ns.length vals:=by unfold fV;rw[aO hwd,<- hcs,<- hvals]
  have ovj:Over Hi Hj:=⟨by omega,fun id h=>(oj id (by omega)).trans (ov.old id h)⟩
  have hOj:aB Hi.next Hj 3 (.own ic gc 0 ns.length 1) (ints (gR ms i ns.length vals)):=.inr ⟨ic,gc,ic1,by omega,by rw[bO,mrl,hvl],gj⟩;obtain⟨xv2,H5,hA,hD5,hn5,hp5⟩:=fb.app (P:=Try.prog) (n:=Hj.next+1) (t:=40) Try.underlying40 Try.ua Try.uc Try.ub (by decide) (by simp [oV];omega) hD ovj (by omega) hOj rfl;have k2:Hj.live (H.next+2) 0=some (42,[ab cs,xv]):=(ovj.live (g:=0) (by omega:H.next+2<Hi.next)).trans l2;have k2e:∀ L,(ext Hj L).live (H.next+2) 0=some (42,[ab cs,xv]):=fun L=>(jU (by omega)).trans k2;have k5:H5.live (H.next+2) 0=some (42,[ab cs,xv]):=ao ((hp5 _ (by omega) (by omega)).trans ((ovj.old _ (by omega)).trans hbi));obtain⟨xone2,xcells2⟩:=B6 hD5;refine W.vs ?_;simp only[go_sem,d7,d8,d9,d10,ljc,c3,k2,hA,k5,xone2,xcells2,w1];refine⟨by rw[aL];omega,⟨i+1,xv2,rfl,by omega,by rw[aL];omega,fun id h=>by rw[aj,RB (by omega),hp5 id (by omega) (by omega),ovj.old id (by omega)];exact holdi id h,by rw[aj,RC rfl],?_⟩,by rw[h8i];simp only[aa,aM];omega⟩;have eK:(oV ns ws ms (i+1)).map ints=(oV ns ws ms i).map ints++[ints (gR ms i ns.length vals)]:=by
   unfold oV;rw[SN,SW,SW,<- hcase];rfl
  rw[eK];exact B7 hD5 (by omega)
 have w2:=Rw ((v:Int)+1) (by omega);have msc:=ME (ms:=ms) (i:=i) (k:=v) (vals:=vals) (by omega);by_cases c4:(i:Int)<ms.length;rotate_left
 ·have hq:jy ms i v=false:=by unfold jy;rw[RF (by omega)]
  rw[hq,RB (by decide)]at msc;refine W.vs ?_;simp only[go_sem,d2,d8,d9,d10,ljc,c3,c4,w2];exact⟨by omega,⟨v+1,rfl,by omega,nj,oj,by rw[msc];exact gj⟩,by rw[h10];simp only[aa,aM];omega⟩
 obtain⟨m,hm⟩:=get_of_lt (l:=ms) (i:=i) (by omega);have hmg:=qU hm;have hmn:=aK hmg;have hq:jy ms i v=tV m v:=by unfold jy;rw[hm]
 obtain⟨r1,hr1⟩:∃ r1,m.fdiv (2 ^ (min ((v:Int)).toNat IntKind.u8.bits))=r1:=⟨_,rfl⟩
 obtain⟨r2,hr2⟩:∃ r2,IntKind.u8.wrap (((BitVec.ofInt IntKind.u8.bits r1 &&& BitVec.ofInt IntKind.u8.bits 1).toNat:Nat):Int)=r2:=⟨_,rfl⟩
 have s1:∀ t o1 o2,aV Try.prog .shr t o1 o2 (.lit (.int .u8 m)) (.lit (.int .i64 (v:Int)))=some (.lit (.int .u8 r1)):=fun t o1 o2=>by rw[rD (by omega),hr1]
 have s2:∀ t o1 o2,aV Try.prog .and t o1 o2 (.lit (.int .u8 r1)) (.lit (.int .u8 1))=some (.lit (.int .u8 r2)):=fun t o1 o2=>by rw[uH,hr2]
 have hb8:tV m v=decide (r2=1):=by unfold tV;rw[hr1,hr2]
 rw[hq,hb8]at msc;by_cases hr:r2=1
 ·rw[RN hr,RC rfl]at msc;refine W.vs ?_;simp only[go_sem,d2,d8,d9,d10,ljc,mrl,hvl,c3,c4,hmg,hmn,s1,s2,hr,w2];refine⟨by omega,by rw[aL];omega,⟨v+1,rfl,by omega,by rw[aL];exact nj,fun id h=>by rw[aj,RB h];exact oj id h,?_⟩,by rw[h10];simp only[aa,aM];omega⟩;rw[aj,RC rfl,fa (by omega),msc]
 ·rw[Sk hr,RB (by decide)]at msc;refine W.vs ?_;simp only[go_sem,d2,d8,d9,d10,ljc,c3,c4,hmg,hmn,s1,s2,hr,w2];exact⟨by omega,⟨v+1,rfl,by omega,nj,oj,by rw[msc];exact gj⟩,by rw[h10];simp only[aa,aM];omega⟩
def B8 (w a n:Int):List AVal:=[.lit (.int .u8 w),.lit (.int .u8 a),.lit (.int .i64 n)]
end Go.Proofs
namespace Go.Hx
variable {P:Program}
structure OwnM (lo:Nat)(H:AHeap)(e1 e0:TypeId)(v:AVal)(ids:List Nat)(rows:List (List AVal)):Prop where
 len:ids.length=rows.length
 nd:ids.Nodup
 rng:∀ i∈ids,lo<=i/\i<H.next
 top:aB lo H e1 v (List.zipWith (fun i n=>AVal.own i 0 0 n 1) ids (rows.map List.length))
 row:∀ (k id:Nat) (r:List AVal),ids[k]?=some id->rows[k]?=some r->H.get id=some (.arr 0 e0 r)
theorem OwnM.nil {lo:Nat}{H:AHeap}{e1 e0:TypeId}:OwnM lo H e1 e0 (.lit (.slice none 0 0)) [] [] :=
 ⟨rfl,.nil,fun i h=>(by cases h),.nil,fun k id r h=>(by simp at h)⟩
theorem OwnM.keep {lo:Nat}{H H':AHeap}{e1 e0:TypeId}{v:AVal}{ids:List Nat}{rows:List (List AVal)}(h:OwnM lo H e1 e0 v ids rows)(hn:H.next<=H'.next)(hk:∀ id,lo<=id->id<H.next->H'.get id=H.get id):OwnM lo H' e1 e0 v ids rows :=
 ⟨h.len,h.nd,fun i hi=>⟨(h.rng i hi).1,by have:=(h.rng i hi).2;omega⟩,h.top.keep (Nat.le_refl _) hn fun id _ h1 h2 _ _=>hk id h1 h2,fun k id r h1 h2=>by
  have:=h.rng id (Ry h1);rw[hk id this.1 this.2];exact h.row k id r h1 h2⟩
theorem OwnM.Ra {lo:Nat}{H:AHeap}{e1 e0:TypeId}{v:AVal}{ids:List Nat}{rows:List (List AVal)}(h:OwnM lo H e1 e0 v ids rows)(h0:rows≠[]):∃ id g,lo<=id/\id<H.next/\v=.own id g 0 rows.length 1/\H.get id=some (.arr g e1 (List.zipWith (fun i n=>AVal.own i 0 0 n 1) ids (rows.map List.length)))/\(e1≠e0->id ∉ ids):=by
 have hzl:(List.zipWith (fun i n=>AVal.own i 0 0 n 1) ids (rows.map List.length)).length=rows.length:=by simp [h.len]
 rcases h.top with ⟨hv,h4⟩|⟨i,g,a,b,hv,h4⟩
 ·rw[h4]at hzl;exact absurd (RT hzl.symm) h0
 ·refine⟨i,g,a,b,by rw[hv,hzl],h4,fun hne hm=>?_⟩;obtain⟨k,hk⟩:=RW.1 hm;have hkl:k<rows.length:=by rw[<- h.len];exact(SB.1 hk).1
  have:=h.row k i _ hk (Rz hkl);rw[h4]at this;exact hne (Blk.arr.inj (Option.some.inj this)).2.1
theorem OwnM.store {lo:Nat}{H:AHeap}{e1 e0:TypeId}{v:AVal}{ids:List Nat}{rows:List (List AVal)}(h:OwnM lo H e1 e0 v ids rows)(hne:e1≠e0){k id:Nat}{r r':List AVal}(hk:ids[k]?=some id)(hr:rows[k]?=some r)(hl:r'.length=r.length):OwnM lo (H.upd id (.arr 0 e0 r')) e1 e0 v ids (rows.set k r'):=by
 have hid:=h.rng id (Ry hk);have h0:rows≠[]:=fun e=>by rw[e]at hr;simp at hr
 refine⟨by rw[RY];exact h.len,h.nd,fun i hi=>by rw[aL];exact h.rng i hi,?_,fun j id' q h1 h2=>?_⟩
 ·have e:(rows.set k r').map List.length=rows.map List.length:=by
   rw[Uy,hl];apply Sf;intro i;rw[SQ];split
   ·rename_i hi;subst hi;have hkl:=(SB.1 hr).1;rw[RC (by rw[RJ];exact hkl),List.getElem?_map,hr];rfl
   ·rfl
  rw[e];obtain⟨i,g,a,b,_,h4,h5⟩:=h.Ra h0;refine h.top.keep (Nat.le_refl _) (by rw[aL];exact Nat.le_refl _) fun i2 g2 _ _ h3 _=>?_;rw[aj,RB];rintro rfl;rw[h.row k i2 r hk hr]at h3;cases h3;exact hne rfl
 ·rw[aj];by_cases hj:j=k
  ·subst hj;rw[hk]at h1;cases h1;rw[RO (SB.1 hr).1]at h2;cases h2;rw[RC rfl]
  ·rw[R9 (fun e=>hj e.symm)]at h2;rw[RB,h.row j id' q h1 h2];rintro rfl;exact hj ((Tq (SB.1 h1).1 h.nd).1 (by rw[h1,hk]))
theorem OwnM.fz {S:Nat->Prop}{lo nx:Nat}{H:AHeap}{e1 e0:TypeId}{v:AVal}{ids:List Nat}{rows:List (List AVal)}(h:OwnM lo H e1 e0 v ids rows)(hS:∀ i,lo<=i->S i)(hr:∀ r∈rows,∀ c∈r,Fz S H nx c c):
  Fz S H nx v (.vec rows.length (rows.map fun r=>.vec r.length r)):=by
 have hz:(List.zipWith (fun i n=>AVal.own i 0 0 n 1) ids (rows.map List.length)).length=rows.length:=by simp [h.len]
 have:=h.top.fz (S:=S) (nx:=nx) (cs':=rows.map fun r=>.vec r.length r) hS (by simp [h.len]) fun i hi hi'=>by
  simp only[RQ,List.getElem_zipWith];have hil:i<rows.length:=by omega
  have hii:i<ids.length:=by rw[h.len];exact hil
  refine .frz (hS _ (h.rng _ (Sv hii)).1) (h.row i _ _ (Rz hii) (Rz hil)) (by simp) fun j hj h2 h'=>?_;have e0:(0:Nat)+j=j:=Nat.zero_add j;have h3:=hr rows[i] (Sv hil) _ (Sv h');simpa only[e0] using h3
 rw[RJ]at this;exact this
end Go.Hx
namespace Go.Hx
variable {P:Program} {G:Nat->Option (List AVal)}
theorem OwnM.ne {lo:Nat}{H:AHeap}{e1 e0:TypeId}{v:AVal}{ids:List Nat}{rows:List (List AVal)}(h:OwnM lo H e1 e0 v ids rows){k g':Nat}{e:TypeId}{c:List AVal}(hk:H.get k=some (.arr g' e c))(he:e≠e1):∀ g n,v≠.own k g 0 n 1:=fun g n hv=>by
 rcases h.top with ⟨h1,_⟩|⟨i,g2,_,_,h1,h2⟩
 ·rw[h1]at hv;cases hv
 ·rw[h1]at hv;obtain rfl:=(AVal.own.inj hv).1;rw[hk]at h2;cases h2;exact he rfl
theorem dv.same {s:St}:dv P G s s:=by
 intro n wb Γ a w hs;exact⟨Γ,hs,.refl _ _ _,fun _ _ h _=>h⟩
end Go.Hx
namespace Go.Proofs
open Go.Hx
structure NodO (lo:Nat)(H:AHeap)(pv rv:AVal)(ids:List Nat)(x:NodeP):Prop where
 par:aB lo H 3 pv (ints x.parents)
 rows:OwnM lo H 39 3 rv ids (x.rows.map ints)
 dj:∀ id g n,pv=.own id g 0 n 1->id ∉ ids
 nil:x.rows=[]->rv=.lit (.slice none 0 0)
theorem NodO.keep {lo:Nat}{H H':AHeap}{pv rv:AVal}{ids:List Nat}{x:NodeP}(h:NodO lo H pv rv ids x)(hn:H.next<=H'.next)(hk:∀ id,lo<=id->id<H.next->H'.get id=H.get id):NodO lo H' pv rv ids x :=
 ⟨h.par.keep (Nat.le_refl _) hn fun id _ h1 h2 _ _=>hk id h1 h2,h.rows.keep hn hk,h.dj,h.nil⟩
theorem NodO.over {lo:Nat}{H H':AHeap}{pv rv:AVal}{ids:List Nat}{x:NodeP}(h:NodO lo H pv rv ids x)(o:Over H H'):NodO lo H' pv rv ids x:=h.keep o.next fun id _ h2=>o.old id h2
theorem NodO.low {lo lo':Nat}{H:AHeap}{pv rv:AVal}{ids:List Nat}{x:NodeP}(h:NodO lo H pv rv ids x)(hl:lo'<=lo):NodO lo' H pv rv ids x :=
 ⟨h.par.keep hl (Nat.le_refl _) fun _ _ _ _ _ _=>rfl,⟨h.rows.len,h.rows.nd,fun i hi=>⟨by have:=(h.rows.rng i hi).1;omega,(h.rows.rng i hi).2⟩,h.rows.top.keep hl (Nat.le_refl _) fun _ _ _ _ _ _=>rfl,h.rows.row⟩,h.dj,h.nil⟩
end Go.Proofs
namespace Go.Hx
theorem OwnM.elem {lo:Nat}{H:AHeap}{e1 e0:TypeId}{v:AVal}{ids:List Nat}{rows:List (List AVal)}(h:OwnM lo H e1 e0 v ids rows){i:Nat}(hi:i∈ids):∃ r,H.get i=some (.arr 0 e0 r):=by
 obtain⟨k,hk⟩:=RW.1 hi;have hl:=(SB.1 hk).1;rw[h.len]at hl;exact⟨_,h.row k i _ hk (Rz hl)⟩
end Go.Hx
namespace Go.Proofs
open Go.Hx
structure SmallN (m:Nat)(ns:List NodeP):Prop where
 len:ns.length<=m
 node:∀ x∈ns,x.parents.length<=m/\x.rows.length<=m/\∀ r∈x.rows,r≠[]/\r.length<=m
theorem SmallN.mono {m m':Nat}{ns:List NodeP}(h:SmallN m ns)(hm:m<=m'):SmallN m' ns :=
 ⟨So h.len hm,fun x hx=>by
  obtain⟨a,b,c⟩:=h.node x hx;exact⟨by omega,by omega,fun r hr=>⟨(c r hr).1,by have:=(c r hr).2;omega⟩⟩⟩
theorem SmallN.set {m:Nat}{ns:List NodeP}{A:Nat}{y:NodeP}(h:SmallN m ns)(hy:y.parents.length<=m/\y.rows.length<=m/\∀ r∈y.rows,r≠[]/\r.length<=m):SmallN m (ns.set A y) :=
 ⟨by rw[RY];exact h.len,fun x hx=>by
  rcases SO hx with h1|rfl
  ·exact h.node x h1
  ·exact hy⟩
structure RowAt (lo:Nat)(H:AHeap)(rv:AVal)(ids:List Nat)(rows:List (List Int))(R:Nat)(q:List Int)(idt gt:Nat)(cells:List AVal)(idr:Nat):Prop where
 rv:rv=.own idt gt 0 rows.length 1
 top:H.get idt=some (.arr gt 39 cells)
 tlo:lo<=idt/\idt<H.next
 len:cells.length=rows.length
 at':cells[R]?=some (.own idr 0 0 q.length 1)
 row:H.get idr=some (.arr 0 3 (ints q))
 rlo:lo<=idr/\idr<H.next
 ne:idt≠idr
 id:ids[R]?=some idr
 q:rows[R]?=some q
 cell:∀ (j i:Nat) (r:List Int),ids[j]?=some i->rows[j]?=some r->cells[j]?=some (.own i 0 0 r.length 1)
 nm:idt ∉ ids
theorem NodesQ.take {e:Nat->Prop}{ns:List NodeP}{cs:List AVal}(h:NodesQ e ns cs)(k:Nat):NodesQ e (ns.take k) (cs.take (k*3)):=by
 refine⟨by rw[RH,RH,h.len];omega,fun v x hx=>?_⟩;have hv:=get_lt hx;rw[RH]at hv;rw[SJ (by omega)]at hx;obtain⟨rv,a,b,c,d⟩:=h.node v x hx;exact⟨rv,by rw[SJ (by omega)];exact a,by rw[SJ (by omega)];exact b,by rw[SJ (by omega)];exact c,d⟩
theorem SmallN.take {m:Nat}{ns:List NodeP}(h:SmallN m ns)(k:Nat):SmallN m (ns.take k):=⟨by rw[RH];have:=h.len;omega,fun x hx=>h.node x (RS hx)⟩
def BU (w a r n:Int):List AVal:=[.lit (.int .u8 w),.lit (.int .u8 a),.lit (.int .u8 r),.lit (.int .i64 n)]
theorem SmallN.fit {m:Nat}{ns:List NodeP}(h:SmallN m ns)(hm:m<2 ^ 37):jd ns:=⟨by have:=h.len;omega,fun x hx=>by have:=h.node x hx;exact⟨by omega,by omega,fun r hr=>by have:=(h.node x hx).2.2 r hr;omega⟩⟩
theorem xO {cs:List Int}{xs:List (List Int)}(hc:cs.length<=64)(hx:xs.length<=41)(hr:∀ r∈xs,r.length<=64):j9 cs xs:=⟨by omega,by omega,fun r h=>by have:=hr r h;omega⟩
def kN (H1 H':AHeap)(N:Nat)(cs:List AVal):Prop:=H1.next<=H'.next/\(∀ id,id<H1.next->id≠N->H'.get id=H1.get id)/\H'.get N=some (.arr 0 69 cs)
theorem PW {l:List NodeP}{i:Nat}{x y:NodeP}(h:l[i]?=some x)(hr:x.rows=[])(hy:y.rows=[]):bh (l.set i y)=(bh l).set (i*3) (aa y.card):=by
 have hl:=get_lt h;have h1:=yi (f:=NodeP.bS) (z:=3) jI l i y hl;have h2:=pf (f:=NodeP.bS) (z:=3) jI l i x h;have e1:x.bS=[aa x.card,.lit (.slice none 0 0),.lit (.slice none 0 0)]:=RC hr;have e2:y.bS=[aa y.card,.lit (.slice none 0 0),.lit (.slice none 0 0)]:=RC hy;unfold bh;rw[h1,e2];rw[e1]at h2;have h3:(l.map NodeP.bS).flatten=((l.map NodeP.bS).flatten).take (i*3)++([aa x.card,.lit (.slice none 0 0),.lit (.slice none 0 0)]++((l.map NodeP.bS).flatten).drop (i*3+3)):=by
  rw[<- h2,<- TO,Sc,Sc]
 have hlen:(((l.map NodeP.bS).flatten).take (i*3)).length=i*3:=by
  rw[RH,nh (f:=NodeP.bS) (z:=3) jI];omega
 conv=>rhs;rw[h3]
 rw[S6 _ _ (by omega),hlen];simp
theorem rm (ord:List Int):∀ (n v:Nat),v<n->(v:Int)∈eo ord n
 | 0,v,h=>by omega
 | n+1,v,h=>by
  unfold eo;by_cases hv:v=n
  ·subst hv;simp
  ·have:=rm ord n v (by omega);rw[<- Sc (kM ord n) (eo ord n)]at this;rcases RX.1 this with h|h
   ·exact Tn _ h
   ·exact Ti _ (SE _ h)
def kO (ps:List DrP)(i:Nat):Int × List Int:=match ps[i]? with
 | some y=>(y.par,y.w)
 | none=>(0,[])
def Dk (p:Int)(k:Nat):Int:=IntKind.u8.wrap (((BitVec.ofInt IntKind.u8.bits (p.fdiv (2 ^ (min ((k:Int)).toNat IntKind.u8.bits))) &&& BitVec.ofInt IntKind.u8.bits 1).toNat:Nat):Int)
def nu (par:Int)(P:List Int)(u:Nat)(l:List Int)(k:Nat):List Int:=if P[k]?=some (u:Int)/\Dk par k=1/\l.length<3 then l++[(u:Int)] else l
def jJ (par:Int)(P:List Int)(i u k:Nat):List Int:=(List.range k).foldl (nu par P u) ((List.range u).foldl (fun l u=>(List.range i).foldl (nu par P u) l) [])
theorem uy (par:Int)(P:List Int)(i u k:Nat):jJ par P i u (k+1)=nu par P u (jJ par P i u k) k:=by unfold jJ;rw[SN,SZ];rfl
theorem PX (par:Int)(P:List Int)(i u:Nat):jJ par P i (u+1) 0=jJ par P i u i:=by unfold jJ;rw[SN,SZ];rfl
def pj (ps:List DrP)(i:Nat):Int:=match ps[i]? with
 | some y=>2+y.card % 2
 | none=>2
def iC (ps:List DrP)(n i:Nat)(W:Int):Int:=if IntKind.i64.wrap (W*pj ps i*2 ^ (min ((n:Int) - 1 - i).toNat IntKind.i64.bits)) > 100 then 2 else pj ps i
def jb (ps:List DrP)(n:Nat):Nat->Int
 | 0=>1
 | i+1=>jb ps n i*iC ps n i (jb ps n i)
def po (g c:Int)(bs:List Int)(R:Nat):List (List Int):=(List.range R).map fun (q:Nat)=>mg g c.toNat bs ((q:Int)*(c+1))
theorem PY (g c:Int)(bs:List Int)(R:Nat):po g c bs (R+1)=po g c bs R++[mg g c.toNat bs ((R:Int)*(c+1))]:=by unfold po;rw[SN,SW];rfl
def yj (g:Int)(ps:List DrP)(cs P:List Int)(n j:Nat):NodeP:=⟨iC ps n j (jb ps n j),jJ (kO ps j).1 P j n 0,po g (iC ps n j (jb ps n j)) (kO ps j).2 (aw (aA cs (jJ (kO ps j).1 P j n 0))).toNat⟩
structure DoneN (g:Int)(cs P:List Int)(n j:Nat)(x:NodeP):Prop where
 pl:dP x.parents n
 p3:x.parents.length<=3
 rk:∀ q∈x.parents,∃ k,k<j/\P[k]?=some q
 rl:(x.rows.length:Int)=aw (aA cs x.parents)
 ro:∀ r∈x.rows,kP g x.card r
 ne:x.rows≠[]
structure LoopN (g:Int)(ps:List DrP)(cs P:List Int)(n i:Nat)(ns:List NodeP):Prop where
 len:ns.length=n
 cards:ah ns=cs
 todo:∀ (j v:Nat) (x:NodeP),i<=j->P[j]?=some (v:Int)->ns[v]?=some x->x.rows=[]/\x.parents=[]
 done:∀ (j v:Nat) (x:NodeP),j<i->P[j]?=some (v:Int)->ns[v]?=some x->DoneN g cs P n j x
 eq:∀ (j v:Nat) (x:NodeP),j<i->P[j]?=some (v:Int)->ns[v]?=some x->x=yj g ps cs P n j
 cd:∀ (j v:Nat) (x:NodeP),P[j]?=some (v:Int)->ns[v]?=some x->x.card=iC ps n j (jb ps n j)
theorem PZ {l:List NodeP}{i:Nat}{x y:NodeP}(h:l[i]?=some x)(hy:y.card=x.card)(hr:y.rows≠[]):bh (l.set i y)=((bh l).set (i*3+1) (ab y.parents)).set (i*3+2) (aH y.rows):=by
 have hl:=get_lt h;have h1:=yi (f:=NodeP.bS) (z:=3) jI l i y hl;have h2:=pf (f:=NodeP.bS) (z:=3) jI l i x h;unfold bh;rw[h1];have h3:(l.map NodeP.bS).flatten=((l.map NodeP.bS).flatten).take (i*3)++(x.bS++((l.map NodeP.bS).flatten).drop (i*3+3)):=by
  rw[<- h2,<- TO,Sc,Sc]
 have hlen:(((l.map NodeP.bS).flatten).take (i*3)).length=i*3:=by
  rw[RH,nh (f:=NodeP.bS) (z:=3) jI];omega
 have ex:∃ b c,x.bS=[aa x.card,b,c]:=by unfold NodeP.bS;split<;>exact⟨_,_,rfl⟩
 obtain⟨b,c,ex⟩:=ex;have ey:y.bS=[aa y.card,ab y.parents,aH y.rows]:=RB hr
 conv=>rhs;rw[h3]
 rw[S6 _ _ (by omega),S6 _ _ (by omega),hlen,show i*3+1 - i*3=1 by omega,show i*3+2 - i*3=2 by omega,ex,ey];simp [hy]
structure ParU (P:List Int)(i u k:Nat)(l:List Int):Prop where
 pw:l.Pairwise (·<·)
 rng:∀ q∈l,0<=q/\(q<u\/(q=u/\∃ k',k'<k/\P[k']?=some q))
 p3:l.length<=3
 rk:∀ q∈l,∃ k',k'<i/\P[k']?=some q
theorem ParU.skip {P:List Int}{i u k:Nat}{l:List Int}(h:ParU P i u k l):ParU P i u (k+1) l:=⟨h.pw,fun q hq=>⟨(h.rng q hq).1,(h.rng q hq).2.imp id fun ⟨a,k',b,c⟩=>⟨a,k',by omega,c⟩⟩,h.p3,h.rk⟩
theorem ParU.next {P:List Int}{i u k:Nat}{l:List Int}(h:ParU P i u k l):ParU P i (u+1) 0 l:=⟨h.pw,fun q hq=>⟨(h.rng q hq).1,.inl (by rcases(h.rng q hq).2 with h1|h1<;>omega)⟩,h.p3,h.rk⟩
theorem ParU.add {P:List Int}{n i u k:Nat}{l:List Int}(hP:IsPerm n P)(h:ParU P i u k l)(hk:k<i)(hu:P[k]?=some (u:Int))(h3:l.length<3):ParU P i u (k+1) (l++[(u:Int)]):=by
 have lt:∀ q∈l,q<u:=fun q hq=>by
  rcases(h.rng q hq).2 with h1|⟨h1,k',h2,h4⟩
  ·exact h1
  ·exfalso;have e:P[k']?=P[k]?:=(by rw[h4,hu,h1]);have:=(Tq (get_lt h4) hP.nd).1 e;omega
 refine⟨Ua.2 ⟨h.pw,by simp,fun a ha b hb=>by obtain rfl:=List.mem_singleton.1 hb;exact lt a ha⟩,fun q hq=>?_,by simp;omega,fun q hq=>?_⟩
 ·rcases RX.1 hq with h1|h1
  ·exact⟨(h.rng q h1).1,.inl (lt q h1)⟩
  ·obtain rfl:=List.mem_singleton.1 h1;exact⟨by omega,.inr ⟨rfl,k,by omega,hu⟩⟩
 ·rcases RX.1 hq with h1|h1
  ·exact h.rk q h1
  ·obtain rfl:=List.mem_singleton.1 h1;exact⟨k,hk,hu⟩
def yk (Hz Hx:AHeap)(N at':Nat)(C:List AVal)(pv:AVal)(l:List Int):Prop:=kN Hz Hx N (C.set at' pv)/\aB Hz.next Hx 3 pv (ints l)
def uz (g:Int)(ps:List DrP)(ord:List Int)(ns:List NodeP):Prop:=ns.length=min (max ps.length 1) 5/\(∀ (j v:Nat) (x:NodeP),(eo ord ns.length)[j]?=some (v:Int)->ns[v]?=some x->x=yj g ps (ah ns) (eo ord ns.length) ns.length j)/\∀ (j v:Nat) (x:NodeP),(eo ord ns.length)[j]?=some (v:Int)->ns[v]?=some x->x.card=iC ps ns.length j (jb ps ns.length j)
theorem uz.unique {g:Int}{ps:List DrP}{ord:List Int}{ns ns':List NodeP}(h:uz g ps ord ns)(h':uz g ps ord ns'):ns=ns':=by
 obtain⟨l1,e1,c1⟩:=h;obtain⟨l2,e2,c2⟩:=h';have hl:ns'.length=ns.length:=by rw[l1,l2]
 rw[hl]at e2 c2;obtain⟨n,hn⟩:∃ n,n=ns.length:=⟨_,rfl⟩
 rw[<- hn]at e1 e2 c1 c2;have at':∀ v,v<n->∃ j:Nat,(eo ord n)[j]?=some (v:Int):=fun v hv=>RW.1 (rm ord n v hv);have hc:ah ns=ah ns':=by
  refine Sf fun v=>?_;rcases RP v n with h|h
  ·obtain⟨j,hj⟩:=at' v h;obtain⟨x,hx⟩:=get_of_lt (l:=ns) (i:=v) (by omega);obtain⟨y,hy⟩:=get_of_lt (l:=ns') (i:=v) (by omega);rw[bX hx,bX hy,c1 j v x hj hx,c2 j v y hj hy]
  ·rw[RF (by rw[bA];omega),RF (by rw[bA];omega)]
 refine Sf fun v=>?_;rcases RP v n with h|h
 ·obtain⟨j,hj⟩:=at' v h;obtain⟨x,hx⟩:=get_of_lt (l:=ns) (i:=v) (by omega);obtain⟨y,hy⟩:=get_of_lt (l:=ns') (i:=v) (by omega);rw[hx,hy,e1 j v x hj hx,e2 j v y hj hy,hc]
 ·rw[RF (by omega),RF (by omega)]
set_option maxHeartbeats 4000000 in
theorem P0 (g0:Int)(ps:List DrP)(ord:List Int)(hg0:U8 g0)(hps:∀ x∈ps,x.Ok)(hpl:(ps.length:Int)<2 ^ 63)(hol:(ord.length:Int)<2 ^ 63)(ho8:∀ x∈ord,U8 x)(H:AHeap)(K:ARes->AHeap->Prop)
  (hK:∀ g ns N H',Over H H'->H.next<=N->N<H'.next->H'.get N=some (.arr 0 69 (ar ns))->NetOk g ns->ns.length<=5->(∀ x∈ns,x.parents.length<=3)->(∀ x∈ns,2<=x.card)->(g=1+g0 % 60/\uz g ps ord ns)->K (.ret (.agg [aa g,.own N 0 0 ns.length 3])) H'):
  ae Try.prog G0 9 [yh g0 ps ord] H K:=by
 refine ae.bH (n:=187) (rs:=[.cell 2 35]) Try.func9 rfl rfl rfl (by decide) (by kernel_rfl) (by simp) ?_;obtain⟨n,hn⟩:∃ n:Nat,min (max ps.length 1) 5=n:=⟨_,rfl⟩
 have h51:1<=n/\n<=5:=by omega
 have hmn:(if 5<(if (1:Int) > ps.length then 1 else (ps.length:Int)) then 5 else (if (1:Int) > ps.length then 1 else (ps.length:Int)))=(n:Int):=by split<;>split<;>omega
 have t0:g0.tmod 60=g0 % 60:=Sx hg0.1;have w0:IntKind.u8.wrap (g0 % 60)=g0 % 60:=UJ _ (by omega);have w1:IntKind.i64.wrap (g0 % 60)=g0 % 60:=Rw _ (by omega);have w2:=Rw (1+g0 % 60) (by omega);obtain⟨g,hg⟩:∃ g,1+g0 % 60=g:=⟨_,rfl⟩
 have hg1:1<=g/\g<=60:=by omega
 rw[hg]at w2;simp only[go_sem,yh];refine W.draw 9 [0,1,3,7,15,0,32,127,0] Try.mixed (by kernel_rfl) (by kernel_rfl) ?_;simp only[go_sem,hmn,t0,w1,hg,w2];refine⟨by omega,⟨⟨by omega,by omega⟩,⟨by omega,by omega⟩,?_⟩⟩;obtain⟨H1,hH1⟩:∃ H1,H1=ext (ext H [.arr 0 25 [.lit (.int .u8 g0),.vec ps.length (eL ps),.vec ord.length (aX ord)],.arr 0 35 [.lit (.int .i64 0),.lit (.slice none 0 0)],.arr 0 69 (List.replicate n [AVal.lit (.int .i64 0),.lit (.slice none 0 0),.lit (.slice none 0 0)]).flatten]) [.arr 0 35 [.lit (.int .i64 g),.own (H.next+2) 0 0 n 3]]:=⟨_,rfl⟩
 refine W.en (fun E=>E 1=.ptr H.next 0 0 /\ E 2=.ptr (H.next+1) 0 0 /\ E 3=aa n /\ E 4=.ptr (H.next+3) 0 0) (by simp only[go_sem]) fun E ⟨e1,e2,e3,e4⟩=>?_
 show W _ _ _ _ _ _ ⟨E,ext (ext H [.arr 0 25 [.lit (.int .u8 g0),.vec ps.length (eL ps),.vec ord.length (aX ord)],.arr 0 35 [.lit (.int .i64 0),.lit (.slice none 0 0)],.arr 0 69 (List.replicate n [AVal.lit (.int .i64 0),.lit (.slice none 0 0),.lit (.slice none 0 0)]).flatten]) [.arr 0 35 [.lit (.int .i64 g),.own (H.next+2) 0 0 n 3]]⟩;rw[<- hH1];have n1:H1.next=H.next+4:=by rw[hH1];rfl
 have o1:Over H H1:=by rw[hH1];exact(Over.ext _ _).trans (.ext _ _)
 have g0':H1.get H.next=some (.arr 0 25 [.lit (.int .u8 g0),.vec ps.length (eL ps),.vec ord.length (aX ord)]):=by rw[hH1,kA];exact dV ..
 have g1':H1.get (H.next+1)=some (.arr 0 35 [.lit (.int .i64 0),.lit (.slice none 0 0)]):=by rw[hH1,kA];exact bk H _ 1 (by simp)
 have g2':H1.get (H.next+2)=some (.arr 0 69 (bh (List.replicate n ⟨0,[],[]⟩))):=by
  rw[hH1,kA,show bh (List.replicate n ⟨0,[],[]⟩)=(List.replicate n [AVal.lit (.int .i64 0),.lit (.slice none 0 0),.lit (.slice none 0 0)]).flatten by unfold bh;rw[UI];rfl];exact bk H _ 2 (by simp)
 have g3':H1.get (H.next+3)=some (.arr 0 35 [.lit (.int .i64 g),.own (H.next+2) 0 0 n 3]):=by rw[hH1,kA];exact bk H _ 3 (by simp)
 clear hH1;have l0:=ao g0';have l1:=ao (show (ext H1 [.arr 0 5 (List.replicate n (.lit (.int .u8 0)))]).get H.next=some (.arr 0 25 [.lit (.int .u8 g0),.vec ps.length (eL ps),.vec ord.length (aX ord)]) by rw[dI _ _ _ (by omega)];exact g0');refine W.draw 4 [0,1,0,4] Try.mixed (by kernel_rfl) (by kernel_rfl) ?_;simp only[go_sem,e1,e3,l1];refine⟨⟨by omega,by omega⟩,by omega,by omega,?_⟩;obtain⟨H2,hH2⟩:∃ H2,H2=ext H1 [.arr 0 5 (List.replicate n (.lit (.int .u8 0)))]:=⟨_,rfl⟩
 have gb:H2.get H1.next=some (.arr 0 5 (List.replicate n (.lit (.int .u8 0)))):=by rw[hH2];exact cq
 rw[<- hH2];refine az.clo ((ae.frame (H:=H2) (args:=[.agg [.own H1.next 0 0 n 1,.lit (.int .u16 0),.vec ord.length (aX ord)]]) (args':=[.agg [.vec n (aX (List.replicate n 0)),.lit (.int .u16 0),.vec ord.length (aX ord)]]) (v':=ab (eo ord n)) aZ rfl (fun i hi _=>?_) (PJ n h51.2 ord hol ho8 bU _ fun v H' _ ho=>⟨_,rfl,ho.pA⟩)).mono fun r H' hr=>?_)
 ·match i,hi with
  | 0,_ =>
   refine .agg rfl fun i hi _=>?_
   match i,hi with
   | 0,_ =>
    have:aX (List.replicate n 0)=List.replicate n (.lit (.int .u8 0)):=(by unfold aX;rw[UI]);rw[this];exact Fz.rA gb (by simp) fun c hc=>⟨_,S8 hc⟩
   | 1,_=>exact .lit _
   | 2,_=>exact .vec rfl fun i hi _=>by simp only[aX,RQ];exact .lit _
 obtain⟨rfl,rfl⟩:=hr;refine⟨trivial,?_⟩;have hperm:=yg ord n;obtain⟨P,hP⟩:∃ P,P=eo ord n:=⟨_,rfl⟩
 rw[<- hP]at hperm ⊢;have n2:H'.next=H1.next+1:=by rw[hH2];rfl
 have F0:kN H1 H' (H.next+2) (bh (List.replicate n ⟨0,[],[]⟩)):=by
  rw[hH2];exact⟨by simp [cJ],fun id h _=>dI _ _ _ h,by rw[dI _ _ _ (by omega)];exact g2'⟩
 clear hH2 gb;simp only[go_sem,e3];have bs:∀ k:Nat,k<=5->(3:Int) ^ k<=243:=fun k hk=>by
  have:(3:Nat) ^ k<=3 ^ 5:=R8 (by decide) hk;have h2:((3 ^ k:Nat):Int)<=((3 ^ 5:Nat):Int):=by exact_mod_cast this
  push_cast at h2
  exact h2
 refine W.aI 151115727451794287100864 (by rfl) (fun ρ Hx=>∃ (i:Nat) (ns:List NodeP) (Wd:Int),ρ 7=aa i/\i<=n/\ns.length=n/\(∀ x∈ns,x.rows=[]/\x.parents=[])/\(∀ j v:Nat,j<i->P[j]?=some (v:Int)->∃ x,ns[v]?=some x/\2<=x.card/\x.card<=3/\x.card=iC ps n j (jb ps n j))/\ρ 6=aa Wd/\Wd=jb ps n i/\1<=Wd/\Wd<=3 ^ i/\H'.next<=Hx.next/\kN H1 Hx (H.next+2) (bh ns)) (fun ρ H=>n - (iv (ρ 7)).toNat) ?_ ?_
 ·simp only[go_sem];exact⟨0,_,1,rfl,by omega,by simp,fun x hx=>by obtain rfl:=S8 hx;exact⟨rfl,rfl⟩,fun j v hj=>by omega,rfl,rfl,by omega,by simp,F0⟩
 rintro ρ Hx ⟨i,ns,Wd,h7,hi,hnl,hnz,hnc,h6,hWe,hW1,hW3,hnx,hF⟩;refine W.en (fun E2=>E2 1=.ptr H.next 0 0 /\ E2 2=.ptr (H.next+1) 0 0 /\ E2 3=aa n /\ E2 4=.ptr (H.next+3) 0 0 /\ E2 5=ab P /\ E2 6=aa Wd /\ E2 7=aa i) (by simp only[go_sem,e1,e2,e3,e4,h6,h7]) fun E2 ⟨f1,f2,f3,f4,f5,f6,f7⟩=>?_
 refine W.vs ?_;have hPl:=hperm.len;have hFn:=hF.1;have m0:=ao ((hF.2.1 H.next (by omega) (by omega)).trans g0');have m3:=ao ((hF.2.1 (H.next+3) (by omega) (by omega)).trans g3');have mN:=ao hF.2.2;have m0':∀ L,(ext Hx L).live H.next 0=some (25,[.lit (.int .u8 g0),.vec ps.length (eL ps),.vec ord.length (aX ord)]):=fun L=>(jU (by omega)).trans m0;have m3':∀ L,(ext Hx L).live (H.next+3) 0=some (35,[.lit (.int .i64 g),.own (H.next+2) 0 0 n 3]):=fun L=>(jU (by omega)).trans m3;have mN':∀ L,(ext Hx L).live (H.next+2) 0=some (69,bh ns):=fun L=>(jU (by omega)).trans mN;by_cases hb:(i:Int)<n
 ·obtain⟨pv,hpv⟩:=get_of_lt (l:=P) (i:=i) (by omega);have hpr:=hperm.rng pv (Ry hpv);obtain⟨v,rfl⟩:=R7 hpr.1;obtain⟨x,hx⟩:=get_of_lt (l:=ns) (i:=v) (by omega);have hpne:=aK hpv;have hz0:=Dh hx;have hzne:=aK hz0;have hzl:=Dg ns;have hv:(v:Int)<n:=hpr.2;have hv0:(v:Int) >= 0:=hpr.1;have hiP:(i:Int)<P.length:=by omega
  have w3:=bs i (by omega);have i1:=Rw ((i:Int)+1) (by omega);have i2:=Rw ((n:Int) - 1) (by omega);have i3:=Rw ((n:Int) - 1 - i) (by omega);have i4:=To ((n:Int) - 1 - i) (by omega);have fin:∀ (c:Int) (B:Blk),2<=c/\c<=3->c=iC ps n i Wd->v*3+1<=(bh ns).length/\H'.next<=((ext Hx [B]).upd (H.next+2) (.arr 0 69 (setAt (bh ns) (v*3) [.lit (.int .i64 c)]))).next /\
    (∃ (i_1:Nat) (ns_1:List NodeP) (Wd_1:Int),AVal.lit (.int .i64 ((i:Int)+1))=.lit (.int .i64 i_1)/\i_1<=n/\ns_1.length=n/\(∀ x∈ns_1,x.rows=[]/\x.parents=[])/\(∀ j v:Nat,j<i_1->P[j]?=some (v:Int)->∃ x,ns_1[v]?=some x/\2<=x.card/\x.card<=3/\x.card=iC ps n j (jb ps n j)) /\
     AVal.lit (.int .i64 (Wd*c))=.lit (.int .i64 Wd_1)/\Wd_1=jb ps n i_1/\1<=Wd_1/\Wd_1<=3 ^ i_1/\H'.next<=((ext Hx [B]).upd (H.next+2) (.arr 0 69 (setAt (bh ns) (v*3) [.lit (.int .i64 c)]))).next/\kN H1 ((ext Hx [B]).upd (H.next+2) (.arr 0 69 (setAt (bh ns) (v*3) [.lit (.int .i64 c)]))) (H.next+2) (bh ns_1)) /\
    n - ((i:Int)+1).toNat<n - (iv (ρ 7)).toNat:=by
   intro c B c23 hce;have p1:2<=Wd*c/\Wd*c<=3 ^ i*3:=by
    constructor
    ·have:=SX hW1 c23.1 (by omega) (by omega);omega
    ·exact SX hW3 c23.2 (by omega) (by omega)
   have nn:((ext Hx [B]).upd (H.next+2) (.arr 0 69 (setAt (bh ns) (v*3) [.lit (.int .i64 c)]))).next=Hx.next+1:=rfl;refine⟨by rw[hzl];have:=get_lt hx;omega,by rw[nn];omega,⟨i+1,ns.set v ⟨c,[],[]⟩,Wd*c,rfl,by omega,by simp [hnl],fun z hz=>?_,fun j u hj hu=>?_,rfl,by show Wd*c=jb ps n i*iC ps n i (jb ps n i);rw[<- hWe,<- hce],by omega,by rw[Vc];omega,by rw[nn];omega,?_⟩,by rw[h7];simp only[aa,aM];omega⟩
   ·rcases SO hz with h|h
    ·exact hnz z h
    ·rw[h];exact⟨rfl,rfl⟩
   ·by_cases huv:u=v
    ·subst huv;have hji:j=i:=(Tq (get_lt hu) hperm.nd).1 (by rw[hu,hpv]);exact⟨_,RO (get_lt hx),by dsimp only;omega,by dsimp only;omega,by dsimp only;rw[hji,<- hWe];exact hce⟩
    ·rw[R9 (by omega)];refine hnc j u ?_ hu;rcases RP j i with h|h
     ·exact h
     ·obtain rfl:j=i:=(by omega);rw[hpv]at hu;exact absurd (by have:=Option.some.inj hu;omega) huv
   ·refine⟨by rw[nn];omega,fun id h1 h2=>by rw[aj,RB h2,dI _ _ _ (by omega)];exact hF.2.1 id h1 h2,?_⟩;rw[aj,RC rfl,PW hx (hnz x (Ry hx)).1 rfl];congr 2;exact rC (by rw[hzl];have:=get_lt hx;omega)
  by_cases hp:(i:Int)<ps.length
  ·obtain⟨y,hy⟩:=get_of_lt (l:=ps) (i:=i) (by omega);have hyo:=hps y (Ry hy);have hc0:=De hy;have hc1:i*3+3<=(eL ps).length:=(by rw[Df];omega);have hcne:¬ eL ps=[]:=fun h=>by rw[h]at hc1;simp at hc1
   have c8:=hyo.1;have t1:y.card.tmod 2=y.card % 2:=Sx c8.1;have i5:=UJ (y.card % 2) (by omega);have i6:=Rw (y.card % 2) (by omega);have i7:=Rw (2+y.card % 2) (by omega);have c23:2<=(2+y.card % 2)/\(2+y.card % 2)<=3:=(by omega);have p1:2<=Wd*(2+y.card % 2)/\Wd*(2+y.card % 2)<=3 ^ i*3:=by
    constructor
    ·have:=SX hW1 c23.1 (by omega) (by omega);omega
    ·exact SX hW3 c23.2 (by omega) (by omega)
   have p2:2<=Wd*2/\Wd*2<=3 ^ i*3:=(by omega);have j1:=Rw (Wd*(2+y.card % 2)) (by omega);have j2:=Rw (Wd*2) (by omega);obtain⟨q,hq⟩:∃ q,IntKind.i64.wrap (Wd*(2+y.card % 2)*2 ^ (min ((n:Int) - 1 - i).toNat IntKind.i64.bits))=q:=⟨_,rfl⟩
   have cA:iC ps n i Wd=if q > 100 then 2 else 2+y.card % 2:=by
    have h0:pj ps i=2+y.card % 2:=(by unfold pj;rw[hy]);unfold iC;rw[h0,hq]
   have hsh:∀ t o1 o2,aV Try.prog .shl t o1 o2 (.lit (.int .i64 (Wd*(2+y.card % 2)))) (.lit (.int .u64 ((n:Int) - 1 - i)))=some (.lit (.int .i64 q)):=fun t o1 o2=>by rw[pB (by omega),hq]
   by_cases hq1:q > 100
   ·simp only[go_sem,f1,f3,f6,f7,m0',hb,hp,i2,i3,i4,j1,j2,hsh,hc0,hc1,hcne,t1,i6,i7,hq1];refine W.draw 7 [0,1,0,0,12,28,0] Try.mixed (by kernel_rfl) (by kernel_rfl) ?_;simp only[go_sem,f4,f5,f6,f7,m3',mN',i1,hpv,hpne,hv,hv0,hiP];exact fin 2 _ (by omega) (by rw[cA,RC hq1])
   ·simp only[go_sem,f1,f3,f6,f7,m0',hb,hp,i2,i3,i4,j1,hsh,hc0,hc1,hcne,t1,i6,i7,hq1];refine W.draw 7 [0,1,0,0,12,28,0] Try.mixed (by kernel_rfl) (by kernel_rfl) ?_;simp only[go_sem,f4,f5,f6,f7,m3',mN',i1,hpv,hpne,hv,hv0,hiP];exact fin (2+y.card % 2) _ c23 (by rw[cA,RB hq1])
  ·have p2:2<=Wd*2/\Wd*2<=3 ^ i*3:=(by omega);have i5:IntKind.i64.wrap (2+IntKind.i64.wrap (Int.tmod 0 2))=2:=(by decide);have j2:=Rw (Wd*2) (by omega);obtain⟨q,hq⟩:∃ q,IntKind.i64.wrap (Wd*2*2 ^ (min ((n:Int) - 1 - i).toNat IntKind.i64.bits))=q:=⟨_,rfl⟩
   have cA:iC ps n i Wd=2:=by
    have h0:pj ps i=2:=(by unfold pj;rw[RF (by omega)]);unfold iC;rw[h0];split<;>rfl
   have hsh:∀ t o1 o2,aV Try.prog .shl t o1 o2 (.lit (.int .i64 (Wd*2))) (.lit (.int .u64 ((n:Int) - 1 - i)))=some (.lit (.int .i64 q)):=fun t o1 o2=>by rw[pB (by omega),hq]
   by_cases hq1:q > 100
   ·simp only[go_sem,f1,f3,f6,f7,m0',hb,hp,i2,i3,i4,j2,hsh,i5,hq1];refine W.draw 7 [0,1,0,0,12,28,0] Try.mixed (by kernel_rfl) (by kernel_rfl) ?_;simp only[go_sem,f4,f5,f6,f7,m3',mN',i1,hpv,hpne,hv,hv0,hiP];exact fin 2 _ (by omega) cA.symm
   ·simp only[go_sem,f1,f3,f6,f7,m0',hb,hp,i2,i3,i4,j2,hsh,i5,hq1];refine W.draw 7 [0,1,0,0,12,28,0] Try.mixed (by kernel_rfl) (by kernel_rfl) ?_;simp only[go_sem,f4,f5,f6,f7,m3',mN',i1,hpv,hpne,hv,hv0,hiP];exact fin 2 _ (by omega) cA.symm
 ·obtain rfl:n=i:=by omega
  clear bs hW1 hW3 h6 f6;simp only[go_sem,f3,f7,hb];obtain⟨cs,hcs⟩:∃ cs,cs=ah ns:=⟨_,rfl⟩
  have csl:cs.length=n:=by rw[hcs,bA,hnl]
  have hc23:∀ c∈cs,2<=c/\c<=3:=fun c hc=>by
   obtain⟨v,hv⟩:=RW.1 hc;have hvn:=get_lt hv;have hm:=rm ord n v (by omega);rw[<- hP]at hm;obtain⟨j,hj⟩:=RW.1 hm;obtain⟨x,hx,h2,h3,_⟩:=hnc j v (by have:=get_lt hj;omega) hj;rw[hcs,bX hx]at hv;cases hv;exact⟨h2,h3⟩
  have L0:LoopN g ps cs P n 0 ns:=⟨hnl,hcs.symm,fun j v x _ _ hx=>hnz x (Ry hx),fun j v x h=>by omega,fun j v x h=>by omega,fun j v x hj hx=>by
   obtain⟨x',hx',_,_,h4⟩:=hnc j v (by have:=get_lt hj;omega) hj;rw[hx']at hx;rw[<- Option.some.inj hx];exact h4⟩
  clear hnc hnz h7;refine W.aI 98079714615416886934934209737619636635871851991103765504 (by rfl) (fun ρ Hy=>∃ (i:Nat) (ns:List NodeP),ρ 10=aa i/\i<=n/\LoopN g ps cs P n i ns/\Hx.next<=Hy.next/\kN H1 Hy (H.next+2) (bh ns)) (fun ρ H=>n - (iv (ρ 10)).toNat) ?_ ?_
  ·simp only[go_sem];exact⟨0,ns,rfl,by omega,L0,hF⟩
  clear L0 hF m0 m3 mN m0' m3' mN' hFn hnl hcs f7;rintro ρ Hy ⟨i,ns,h10,hi,L,hny,hF⟩;refine W.en (fun E=>E 1=.ptr H.next 0 0 /\ E 2=.ptr (H.next+1) 0 0 /\ E 3=aa n /\ E 4=.ptr (H.next+3) 0 0 /\ E 5=ab P /\ E 10=aa i) (by simp only[go_sem,f1,f2,f3,f4,f5,h10]) fun E ⟨e1,e2,e3,e4,e5,e10⟩=>?_
  refine W.vs ?_;have hFn:=hF.1;have m0:=ao ((hF.2.1 H.next (by omega) (by omega)).trans g0');have m1:=ao ((hF.2.1 (H.next+1) (by omega) (by omega)).trans g1');have m3:=ao ((hF.2.1 (H.next+3) (by omega) (by omega)).trans g3');have m0':∀ L,(ext Hy L).live H.next 0=some (25,[.lit (.int .u8 g0),.vec ps.length (eL ps),.vec ord.length (aX ord)]):=fun L=>(jU (by omega)).trans m0;by_cases hb:(i:Int)<n
  ·obtain⟨pv,hpv⟩:=get_of_lt (l:=P) (i:=i) (by omega);have hpr:=hperm.rng pv (Ry hpv);obtain⟨v,rfl⟩:=R7 hpr.1;have hnl:=L.len;obtain⟨x,hx⟩:=get_of_lt (l:=ns) (i:=v) (by omega);have hpne:=aK hpv;have hiP:(i:Int)<P.length:=(by omega);have hP1:∀ k:Nat,k<n->∃ u:Nat,P[k]?=some (u:Int)/\u<n:=fun k hk=>by
    obtain⟨q,hq⟩:=get_of_lt (l:=P) (i:=k) (by omega);have:=hperm.rng q (Ry hq);obtain⟨u,rfl⟩:=R7 this.1;exact⟨u,hq,by omega⟩
   have hpc:∀ (B:List AVal),B=(if (i:Int)<ps.length then (eL ps).drop (i*3) |>.take 3 else [.lit (.int .u8 0),.lit (.int .u8 0),.lit (.slice none 0 0)])->∃ (pc par:Int) (bs:List Int) (wv:AVal),B=[.lit (.int .u8 pc),.lit (.int .u8 par),wv]/\(par=(kO ps i).1/\bs=(kO ps i).2)/\U8 par/\(∀ b∈bs,U8 b)/\(bs.length:Int)<2 ^ 63/\wv.one=true/\wv.cells=[wv]/\∀ H0,Fz (fun _=>True) H0 0 wv (.vec bs.length (aX bs)):=by
    rintro B rfl;by_cases hp:(i:Int)<ps.length
    ·obtain⟨y,hy⟩:=get_of_lt (l:=ps) (i:=i) (by omega);have hyo:=hps y (Ry hy);rw[RC hp,De hy];exact⟨y.card,y.par,y.w,_,rfl,⟨by unfold kO;rw[hy],by unfold kO;rw[hy]⟩,hyo.2.1,hyo.2.2.2,hyo.2.2.1,rfl,rfl,fun H0=>.vec rfl fun i hi _=>by simp only[aX,RQ];exact .lit _⟩
    ·rw[RB hp];exact⟨0,0,[],_,rfl,⟨by unfold kO;rw[RF (by omega)],by unfold kO;rw[RF (by omega)]⟩,by unfold U8;omega,by simp,by simp,rfl,rfl,fun H0=>.nil⟩
   by_cases hp:(i:Int)<ps.length
   case' pos =>
    have hc1:i*3+3<=(eL ps).length:=(by rw[Df];omega);have hcne:¬ eL ps=[]:=fun h=>by rw[h]at hc1;simp at hc1
    rw[RC hp]at hpc;obtain⟨pc,par,bs,wv,hc0,hpw,hpar,hbs,hbl,hwo,hwc,hwf⟩:=hpc _ rfl;simp only[go_sem,e1,e3,e5,e10,m0',hb,hp,hc0,hc1,hcne,hpv,hpne,hiP,hwo,Bool.and_true];obtain⟨Hz,hHz⟩:∃ Hz,Hz=ext Hy [.arr 0 86 [.lit (.int .u8 pc),.lit (.int .u8 par),wv]]:=⟨_,rfl⟩
    clear hpc hc0 hc1 hcne hp
   case' neg =>
    rw[RB hp]at hpc;obtain⟨pc,par,bs,wv,hc0,hpw,hpar,hbs,hbl,hwo,hwc,hwf⟩:=hpc _ rfl;simp only[go_sem,e1,e3,e5,e10,m0',hb,hp,hpv,hpne,hiP];rw[hc0];obtain⟨Hz,hHz⟩:∃ Hz,Hz=ext Hy [.arr 0 86 [.lit (.int .u8 pc),.lit (.int .u8 par),wv]]:=⟨_,rfl⟩
    clear hpc hc0 hp
   all_goals
    rw[<- hHz];refine W.env fun E3 hE3=>?_;have k1:E3 1=.ptr H.next 0 0:=(by rw[hE3];simp only[go_sem,e1]);have k2:E3 2=.ptr (H.next+1) 0 0:=(by rw[hE3];simp only[go_sem,e2]);have k3:E3 3=aa n:=(by rw[hE3];simp only[go_sem,e3]);have k4:E3 4=.ptr (H.next+3) 0 0:=(by rw[hE3];simp only[go_sem,e4]);have k5:E3 5=ab P:=(by rw[hE3];simp only[go_sem,e5]);have k10:E3 10=aa i:=(by rw[hE3];simp only[go_sem,e10]);have k11:E3 11=.ptr Hy.next 0 0:=(by rw[hE3];simp only[go_sem]);have k12:E3 12=aa v:=(by rw[hE3];simp only[go_sem]);have k13:E3 13=aa 0:=(by rw[hE3];simp only[go_sem]);clear hE3;have nz:Hz.next=Hy.next+1:=(by rw[hHz];rfl);have z3:Hz.get (H.next+3)=some (.arr 0 35 [.lit (.int .i64 g),.own (H.next+2) 0 0 n 3]):=(by rw[hHz,dI _ _ _ (by omega)];exact(hF.2.1 (H.next+3) (by omega) (by omega)).trans g3');have zP:Hz.get Hy.next=some (.arr 0 86 [.lit (.int .u8 pc),.lit (.int .u8 par),wv]):=(by rw[hHz];exact cq);have zN:Hz.get (H.next+2)=some (.arr 0 69 (bh ns)):=(by rw[hHz,dI _ _ _ (by omega)];exact hF.2.2);have zO:∀ id,id<H1.next->id≠H.next+2->Hz.get id=H1.get id:=fun id h1 h2=>by rw[hHz,dI _ _ _ (by omega)];exact hF.2.1 id h1 h2
    obtain⟨xr,xp⟩:=L.todo i v x (Nat.le_refl _) hpv hx;have hzl:=Dg ns;have hvn:=get_lt hx;have hcx:(bh ns)[v*3+1]?=some (.lit (.slice none 0 0)):=by
     have:=ng (f:=NodeP.bS) (z:=3) jI ns v 1 x hx (by omega);rw[show (bh ns)[v*3+1]?=_ from this];unfold NodeP.bS;rw[RC xr];rfl
    clear hHz e1 e2 e3 e4 e5 e10 f1 f2 f3 f4 f5 m0' m0 m1 m3;have vlt:(v:Int)<n:=hpr.2;have v0:(v:Int) >= 0:=hpr.1;have hset:∀ pv pv',setAt ((bh ns).set (v*3+1) pv) (v*3+1) [pv']=(bh ns).set (v*3+1) pv':=fun pv pv'=>by rw[rC (by rw[RY];omega),UQ]
    have hgetc:∀ pv,((bh ns).set (v*3+1) pv)[v*3+1]?=some pv:=fun pv=>RO (by omega);refine W.rF (Q':=fun e s2=>e=.exit 4/\∃ pv l,s2.ρ 1=.ptr H.next 0 0/\s2.ρ 2=.ptr (H.next+1) 0 0/\s2.ρ 3=aa n/\s2.ρ 4=.ptr (H.next+3) 0 0/\s2.ρ 5=ab P/\s2.ρ 10=aa i/\s2.ρ 11=.ptr Hy.next 0 0/\s2.ρ 12=aa v/\yk Hz s2.H (H.next+2) (v*3+1) (bh ns) pv l/\ParU P i n 0 l/\l=jJ par P i n 0) ?_ ?_
    ·refine W.aI 44601490397061167054908922280959129468035072 (by rfl) (fun ρ Hu=>∃ (u:Nat) (pv:AVal) (l:List Int),ρ 13=aa u/\u<=n/\yk Hz Hu (H.next+2) (v*3+1) (bh ns) pv l/\ParU P i u 0 l/\l=jJ par P i u 0) (fun ρ H=>n - (iv (ρ 13)).toNat) ?_ ?_
     ·simp only[go_sem,k13];refine⟨0,.lit (.slice none 0 0),[],rfl,by omega,⟨⟨Nat.le_refl _,fun _ _ _=>rfl,?_⟩,.nil⟩,⟨by simp,by simp,by simp,by simp⟩,rfl⟩;rw[zN,uF hcx]
     rintro ρu Hu ⟨u,pv,l,h13,hu,hS,hL,hPk⟩;refine W.env fun E4 hE4=>?_;have q3:E4 3=aa n:=(by rw[hE4];simp only[go_sem,k3]);have q4:E4 4=.ptr (H.next+3) 0 0:=(by rw[hE4];simp only[go_sem,k4]);have q5:E4 5=ab P:=(by rw[hE4];simp only[go_sem,k5]);have q10:E4 10=aa i:=(by rw[hE4];simp only[go_sem,k10]);have q11:E4 11=.ptr Hy.next 0 0:=(by rw[hE4];simp only[go_sem,k11]);have q12:E4 12=aa v:=(by rw[hE4];simp only[go_sem,k12]);have q13:E4 13=aa u:=(by rw[hE4];simp only[go_sem,h13]);have q1:E4 1=.ptr H.next 0 0:=(by rw[hE4];simp only[go_sem,k1]);have q2:E4 2=.ptr (H.next+1) 0 0:=(by rw[hE4];simp only[go_sem,k2]);clear hE4;refine W.vs ?_;by_cases hub:(u:Int)<n
     ·have u1:=Rw ((u:Int)+1) (by omega);simp only[go_sem,q3,q13,hub];refine W.aI 44601490397058710981870980086493729605566464 (by rfl) (fun ρ Hk=>∃ (k:Nat) (pv:AVal) (l:List Int),ρ 14=aa k/\k<=i/\Hu.next<=Hk.next/\yk Hz Hk (H.next+2) (v*3+1) (bh ns) pv l/\ParU P i u k l/\l=jJ par P i u k) (fun ρ H=>i - (iv (ρ 14)).toNat) ?_ ?_
      ·simp only[go_sem];exact⟨0,pv,l,rfl,by omega,hS,hL,hPk⟩
      clear hS hL hPk;rintro ρk Hk ⟨k,pv,l,h14,hk,hnk,hS,hL,hPk⟩;refine W.env fun E5 hE5=>?_;have r4:E5 4=.ptr (H.next+3) 0 0:=(by rw[hE5];simp only[go_sem,q4]);have r5:E5 5=ab P:=(by rw[hE5];simp only[go_sem,q5]);have r10:E5 10=aa i:=(by rw[hE5];simp only[go_sem,q10]);have r11:E5 11=.ptr Hy.next 0 0:=(by rw[hE5];simp only[go_sem,q11]);have r12:E5 12=aa v:=(by rw[hE5];simp only[go_sem,q12]);have r13:E5 13=aa u:=(by rw[hE5];simp only[go_sem,q13]);have r14:E5 14=aa k:=(by rw[hE5];simp only[go_sem,h14]);clear hE5;refine W.vs ?_;by_cases hki:(k:Int)<i
      ·obtain⟨hFz,hOz⟩:=hS;have hFz1:=hFz.1;obtain⟨a,ha,han⟩:=hP1 k (by omega);have hane:=aK ha;have hkP:(k:Int)<P.length:=(by omega);have s1:=Rw ((k:Int)+1) (by omega);have s2:=To (k:Int) (by omega);have y3:=ao ((hFz.2.1 (H.next+3) (by omega) (by omega)).trans z3);have yP:=ao ((hFz.2.1 Hy.next (by omega) (by omega)).trans zP);have yN:=ao hFz.2.2;have hgc:=hgetc pv;have hcne2:=aK hgc;obtain⟨r2,hr2e⟩:∃ r2,r2=Dk par k:=⟨_,rfl⟩
       obtain⟨r1,hr1e⟩:∃ r1,r1=par.fdiv (2 ^ (min ((k:Int)).toNat IntKind.u8.bits)):=⟨_,rfl⟩
       have hr1:∀ t o1 o2,aV Try.prog .shr t o1 o2 (.lit (.int .u8 par)) (.lit (.int .u64 (k:Int)))=some (.lit (.int .u8 r1)):=fun _ _ _=>by rw[hr1e];exact rD (by omega)
       have hr2:∀ t o1 o2,aV Try.prog .and t o1 o2 (.lit (.int .u8 r1)) (.lit (.int .u8 1))=some (.lit (.int .u8 r2)):=fun _ _ _=>by rw[hr2e,hr1e];exact uH
       have hlen:=PS hOz (d:=some (.slice 3)) rfl;rw[vD,bO]at hlen;by_cases hau:(a:Int)=u
       ·have hau':a=u:=(by omega);by_cases hr:r2=1
        ·by_cases hl3:(l.length:Int)<3
         ·simp only[go_sem,r4,r5,r10,r11,r12,r13,r14,hki,ha,hane,hkP,s2,y3,yP,yN,hgc,hr1,hr2,hlen,hau,hr,hl3,vlt,v0];obtain⟨pv',Hj,hA,hO',hn',hpr'⟩:=mI (P:=Try.prog) (H:=Hk) (t:=39) (x:=aa u) (n:=Hk.next+1) Try.underlying39 Try.fX Try.iq rfl (by rw[Try.jC,bO];omega) hOz hFz1 rfl;simp only[aa]at hA;have keep:∀ id,id<Hz.next->Hj.get id=Hk.get id:=fun id h=>hpr' id (by omega) (hOz.ne h);have y3j:=ao ((keep _ (by omega)).trans ((hFz.2.1 (H.next+3) (by omega) (by omega)).trans z3));have yNj:=ao ((keep _ (by omega)).trans hFz.2.2);refine W.draw 12 [0,1,0,0,8,0,56,120,248,0,512,2040] Try.mixed (by kernel_rfl) (by kernel_rfl) ?_;simp only[go_sem,r4,r12,r13,r14,y3,yN,yNj,hgc,vlt,v0,hA,s1];have hdj:lk (if jR pv=true then { eff:=aF pv,rs:=aF pv++[Hk.next] } else { eff:=[Hk.next+1],rs:=[Hk.next] }) { eff:=[],rs:=[H.next+3] }:=by
           rcases hOz with ⟨hO1,_⟩|⟨id,gg,hO1,hO2,hO3,_⟩
           ·rw[hO1];show lk { eff:=[Hk.next+1],rs:=[Hk.next] } _;exact⟨fun a ha=>by (obtain rfl:a=Hk.next+1:=by simpa using ha);simp;omega,fun a ha=>by simp at ha⟩
           ·rw[hO3];show lk { eff:=[id],rs:=[id]++[Hk.next] } _;exact⟨fun a ha=>by (obtain rfl:a=id:=by simpa using ha);simp;omega,fun a ha=>by simp at ha⟩
          have hpc1:=hO'.cells;rw[hpc1];refine⟨⟨by omega,by omega,by omega,by omega,by omega,by omega,by omega⟩,⟨hdj,hdj⟩,⟨rfl,by simp [hO'.one],by rw[RY];simp;omega⟩,by rw[aL];omega,⟨k+1,pv',l++[(u:Int)],rfl,by omega,by rw[aL];omega,⟨⟨by rw[aL];omega,fun id h1 h2=>by rw[aj,RB h2,keep _ h1];exact hFz.2.1 id h1 h2,?_⟩,?_⟩,hL.add hperm (by omega) (by rw[ha,hau]) (by omega),by rw[uy,<- hPk];unfold nu;rw[RC ⟨by rw[ha,hau],by rw[<- hr2e];exact hr,by omega⟩]⟩,by rw[h14];simp only[aa,aM];omega⟩
          ·rw[aj,RC rfl,hset]
          ·have:=hO'.keep (lo':=Hz.next) (H':=Hj.upd (H.next+2) (.arr 0 69 (setAt ((bh ns).set (v*3+1) pv) (v*3+1) [pv']))) (Nat.le_refl _) (Nat.le_refl _) fun id _ h1 _ _ _=>by rw[aj,RB (by omega)]
           simpa [ints,aa] using this
         ·simp only[go_sem,r4,r5,r10,r11,r12,r13,r14,hki,ha,hane,hkP,s1,s2,y3,yP,yN,hgc,hr1,hr2,hlen,hau,hr,hl3,vlt,v0];exact⟨hnk,⟨k+1,pv,l,rfl,by omega,hnk,⟨hFz,hOz⟩,hL.skip,by rw[uy,<- hPk];unfold nu;rw[RB fun h=>hl3 (by have:=h.2.2;omega)]⟩,by rw[h14];simp only[aa,aM];omega⟩
        ·simp only[go_sem,r5,r10,r11,r13,r14,hki,ha,hane,hkP,s1,s2,yP,hr1,hr2,hau,hr];exact⟨hnk,⟨k+1,pv,l,rfl,by omega,hnk,⟨hFz,hOz⟩,hL.skip,by rw[uy,<- hPk];unfold nu;rw[RB fun h=>hr (by rw[hr2e];exact h.2.1)]⟩,by rw[h14];simp only[aa,aM];omega⟩
       ·simp only[go_sem,r5,r10,r13,r14,hki,ha,hane,hkP,s1,hau];exact⟨hnk,⟨k+1,pv,l,rfl,by omega,hnk,⟨hFz,hOz⟩,hL.skip,by rw[uy,<- hPk];unfold nu;rw[RB fun h=>hau (by have h1:=h.1;rw[ha]at h1;exact Option.some.inj h1)]⟩,by rw[h14];simp only[aa,aM];omega⟩
      ·obtain rfl:k=i:=(by omega);simp only[go_sem,r10,r13,r14,hki,u1];exact⟨by have:=hS.1.1;omega,⟨u+1,pv,l,rfl,by omega,hS,hL.next,by rw[PX];exact hPk⟩,by rw[h13];simp only[aa,aM];omega⟩
     ·obtain rfl:u=n:=(by omega);simp only[go_sem,q1,q2,q3,q4,q5,q10,q11,q12,q13,hub];exact⟨pv,l,hS,hL,hPk⟩
    ·rintro e s2 ⟨rfl,pv,l,a1,a2,a3,a4,a5,a10,a11,a12,⟨hFz,hOz⟩,hL,hPk⟩;have hFz1:=hFz.1;obtain⟨rk,hrk,hfz⟩:∃ rk,Hz.next<=rk/\Fz (fun id=>id=rk) s2.H s2.H.next pv (ab l):=by
      rcases hOz with ⟨hO1,hO2⟩|⟨id,gg,hO1,hO2,hO3,hO4⟩
      ·have:l=[]:=by cases l with
        | nil=>rfl
        | cons b l=>simp [ints]at hO2
       rw[hO1,this];exact⟨s2.H.next,hFz1,.nil⟩
      ·refine⟨id,hO1,?_⟩;rw[hO3,bO];refine .frz rfl hO4 (by rw[Nat.mul_one,bO]) fun j hj h2 h'=>?_;simp only[Nat.zero_add,ints,RQ];exact .lit _
     have hne2:H.next+2≠rk:=(by omega);refine⟨⟨s2.ρ,s2.H.eC rk (H.next+2) (.arr 0 69 ((bh ns).set (v*3+1) (ab l)))⟩,dv.eC aZ hFz.2.2 hne2 (by simp) (DR (Dj ns) hfz),Nat.le_refl _,trivial,?_⟩;obtain⟨Hm,hHm⟩:∃ Hm,Hm=s2.H.eC rk (H.next+2) (.arr 0 69 ((bh ns).set (v*3+1) (ab l))):=⟨_,rfl⟩
     rw[<- hHm];have hFm:kN Hz Hm (H.next+2) ((bh ns).set (v*3+1) (ab l)):=by
      rw[hHm];exact⟨hFz1,fun id h1 h2=>(yE (by omega) h2).trans (hFz.2.1 id h1 h2),yD hne2⟩
     clear hFz hOz hfz hHm hne2 hrk;simp only[go_sem];refine W.env fun E6 hE6=>?_;have y1:E6 1=.ptr H.next 0 0:=(by rw[hE6];simp only[go_sem,a1]);have y2:E6 2=.ptr (H.next+1) 0 0:=(by rw[hE6];simp only[go_sem,a2]);have y3:E6 3=aa n:=(by rw[hE6];simp only[go_sem,a3]);have y4:E6 4=.ptr (H.next+3) 0 0:=(by rw[hE6];simp only[go_sem,a4]);have y5:E6 5=ab P:=(by rw[hE6];simp only[go_sem,a5]);have y10:E6 10=aa i:=(by rw[hE6];simp only[go_sem,a10]);have y11:E6 11=.ptr Hy.next 0 0:=(by rw[hE6];simp only[go_sem,a11]);have y12:E6 12=aa v:=(by rw[hE6];simp only[go_sem,a12]);have y15:E6 15=aa 0:=(by rw[hE6];simp only[go_sem]);clear hE6 a1 a2 a3 a4 a5 a10 a11 a12;have lsm:ew (aA cs l):=ru (by rw[dQ];have:=hL.p3;omega) fun c hc=>by
      unfold aA at hc;obtain⟨q,hq,rfl⟩:=RI.1 hc;have hqr:=hL.rng q hq;obtain⟨c,hc⟩:=get_of_lt (l:=cs) (i:=q.toNat) (by rw[csl];rcases hqr.2 with h|⟨_,k',h,_⟩<;>omega);rw[aO hc];have:=hc23 c (Ry hc);omega
     have lpos:0<aw (aA cs l)/\aw (aA cs l)<=27:=by
      have c3:∀ c∈aA cs l,1<=c/\c<=3:=fun c hc=>by
       unfold aA at hc;obtain⟨q,hq,rfl⟩:=RI.1 hc;have hqr:=hL.rng q hq;obtain⟨c,hc⟩:=get_of_lt (l:=cs) (i:=q.toNat) (by rw[csl];rcases hqr.2 with h|⟨_,k',h,_⟩<;>omega);rw[aO hc];have:=hc23 c (Ry hc);omega
      have h1:=jH fun c hc=>(c3 c hc).1;have h2:=(ni (b:=3) (by omega) fun c hc=>⟨by have:=(c3 c hc).1;omega,(c3 c hc).2⟩).2;have h3:(3:Int) ^ (aA cs l).length<=3 ^ 3:=by
       have:(3:Nat) ^ (aA cs l).length<=3 ^ 3:=R8 (by decide) (by rw[dQ];exact hL.p3)
       exact_mod_cast this
      omega
     obtain⟨R,hR⟩:=R7 (show 0<=aw (aA cs l) by omega);have hxc:2<=x.card/\x.card<=3:=hc23 x.card (by rw[<- L.cards];exact Ry (bX hx));have hFm1:=hFm.1;have w3:Hm.get (H.next+3)=some (.arr 0 35 [.lit (.int .i64 g),.own (H.next+2) 0 0 n 3]):=(hFm.2.1 _ (by omega) (by omega)).trans z3;have wP:Hm.get Hy.next=some (.arr 0 86 [.lit (.int .u8 pc),.lit (.int .u8 par),wv]):=(hFm.2.1 _ (by omega) (by omega)).trans zP;obtain⟨C1,hC1⟩:∃ C1,C1=(bh ns).set (v*3+1) (ab l):=⟨_,rfl⟩
     have c1l:C1.length=ns.length*3:=(by rw[hC1,RY,hzl]);have hcx2:C1[v*3+2]?=some (.lit (.slice none 0 0)):=by
      have:=ng (f:=NodeP.bS) (z:=3) jI ns v 2 x hx (by omega);rw[hC1,R9 (by omega),show (bh ns)[v*3+2]?=_ from this];unfold NodeP.bS;rw[RC xr];rfl
     have hcx0:C1[v*3]?=some (aa x.card):=(by rw[hC1,R9 (by omega)];exact Dh hx);rw[<- hC1]at hFm;have hset2:∀ rv rv',setAt (C1.set (v*3+2) rv) (v*3+2) [rv']=C1.set (v*3+2) rv':=fun rv rv'=>by rw[rC (by rw[RY];omega),UQ]
     have hgc2:∀ rv,(C1.set (v*3+2) rv)[v*3+2]?=some rv:=fun rv=>RO (by omega);have hgc0:∀ rv,(C1.set (v*3+2) rv)[v*3]?=some (aa x.card):=fun rv=>by rw[R9 (by omega)];exact hcx0
     refine W.rF (Q':=fun e s2=>e=.exit 8/\∃ (rv:AVal) (rows:List (List Int)),s2.ρ 1=.ptr H.next 0 0/\s2.ρ 2=.ptr (H.next+1) 0 0/\s2.ρ 3=aa n/\s2.ρ 4=.ptr (H.next+3) 0 0/\s2.ρ 5=ab P/\s2.ρ 10=aa i/\rows.length=R/\rows=po g x.card bs R/\(∀ r∈rows,kP g x.card r)/\kN Hm s2.H (H.next+2) (C1.set (v*3+2) rv)/\aB Hm.next s2.H 39 rv (rows.map ab)) ?_ ?_
     ·refine W.aI 98079714615372285444537148491336716315054007096738611200 (by rfl) (fun ρ Hr=>∃ (r:Nat) (rv:AVal) (rows:List (List Int)),ρ 15=aa r/\r<=R/\rows.length=r/\rows=po g x.card bs r/\(∀ r∈rows,kP g x.card r)/\kN Hm Hr (H.next+2) (C1.set (v*3+2) rv)/\aB Hm.next Hr 39 rv (rows.map ab)) (fun ρ H=>R - (iv (ρ 15)).toNat) ?_ ?_
      ·simp only[go_sem,y15];refine⟨0,.lit (.slice none 0 0),[],rfl,by omega,rfl,rfl,by simp,⟨Nat.le_refl _,fun _ _ _=>rfl,?_⟩,.nil⟩;rw[hFm.2.2,uF hcx2]
      rintro ρr Hr ⟨r,rv,rows,h15,hr,hrl,hrD,hrows,hFr,hOr⟩;refine W.env fun E7 hE7=>?_;have b1:E7 1=.ptr H.next 0 0:=(by rw[hE7];simp only[go_sem,y1]);have b2:E7 2=.ptr (H.next+1) 0 0:=(by rw[hE7];simp only[go_sem,y2]);have b3:E7 3=aa n:=(by rw[hE7];simp only[go_sem,y3]);have b4:E7 4=.ptr (H.next+3) 0 0:=(by rw[hE7];simp only[go_sem,y4]);have b5:E7 5=ab P:=(by rw[hE7];simp only[go_sem,y5]);have b10:E7 10=aa i:=(by rw[hE7];simp only[go_sem,y10]);have b11:E7 11=.ptr Hy.next 0 0:=(by rw[hE7];simp only[go_sem,y11]);have b12:E7 12=aa v:=(by rw[hE7];simp only[go_sem,y12]);have b15:E7 15=aa r:=(by rw[hE7];simp only[go_sem,h15]);clear hE7;refine W.vs ?_;have hFr1:=hFr.1;have v3:=ao ((hFr.2.1 (H.next+3) (by omega) (by omega)).trans w3);have vP:=ao ((hFr.2.1 Hy.next (by omega) (by omega)).trans wP);have vN:=ao hFr.2.2;have hzp:∀ z∈ns,z.rows=[]->z.parents=[]:=fun z hz hz0=>by
       obtain⟨u,hu⟩:=RW.1 hz;have hm:=rm ord n u (by have:=get_lt hu;omega);rw[<- hP]at hm;obtain⟨j,hj⟩:=RW.1 hm;rcases RP j i with h|h
       ·exact absurd hz0 (L.done j u z h hj hu).ne
       ·exact(L.todo j u z h hj hu).2
      have hcard:ah (ns.set v ⟨x.card,l,rows⟩)=cs:=by
       have h1:ah (ns.set v ⟨x.card,l,rows⟩)=(ah ns).set v x.card:=(by unfold ah;rw[Uy]);rw[h1,uF (bX hx),L.cards]
      have hpar:aN (ns.set v ⟨x.card,l,rows⟩) ⟨x.card,l,rows⟩=aA cs l:=(by unfold aN;rw[hcard]);have fzN:Fz (fun _=>True) Hr 0 (.agg [aa g,.own (H.next+2) 0 0 n 3]) (bP g (ns.set v ⟨x.card,l,rows⟩)):=by
       refine .agg rfl fun i hi _=>?_
       match i,hi with
       | 0,_=>exact .lit _
       | 1,_ =>
        show Fz _ _ _ _ (.vec (ns.set v ⟨x.card,l,rows⟩).length (ar (ns.set v ⟨x.card,l,rows⟩)));rw[RY,hnl,PR (y:=⟨x.card,l,rows⟩) hx rfl];refine .frz trivial hFr.2.2 (by rw[RY,RY,fY];omega) fun j hj h2 h'=>?_;simp only[Nat.zero_add];refine Di (A:=C1) (B:=(ar ns).set (v*3+1) (ab l)) ?_ ?_ j _ _
        ·rw[hC1];exact Di (PQ ns hzp) (.dT _)
        ·have:=hOr.fz (S:=fun _=>True) (nx:=0) (cs':=rows.map ab) (fun _ _=>trivial) rfl fun i hi _=>by simp only[RQ];exact .dT _
         rw[RJ]at this;exact this
      simp only[go_sem,b4,b12,b15,v3];refine az.clo ((ae.frame (H:=Hr) (args:=[.agg [aa g,.own (H.next+2) 0 0 n 3],aa v]) (args':=[bP g (ns.set v ⟨x.card,l,rows⟩),aa v]) (v':=ab (aA cs l)) aZ rfl (fun i hi _=>?_) (PU g (ns.set v ⟨x.card,l,rows⟩) v ⟨x.card,l,rows⟩ (RO hvn) (by rw[RY];omega) (by show (l.length:Int)<_;have:=hL.p3;omega) (fun q hq=>by
        have hqr:=hL.rng q hq;rw[RY];rcases hqr.2 with h|⟨_,k',h,_⟩<;>omega) bU _ fun w Hq _ ho=>⟨_,rfl,by rw[hpar]at ho;exact ho.pA⟩)).mono fun r1 H1' hr1=>?_)
      ·match i,hi with
       | 0,_=>exact fzN
       | 1,_=>exact .lit _
      obtain⟨rfl,rfl⟩:=hr1;refine⟨trivial,?_⟩;simp only[go_sem];refine az.clo (DB (aA cs l) lsm _ _ ⟨trivial,?_⟩);rw[hR];by_cases hrR:(r:Int)<R
      ·simp only[go_sem,hrR];obtain⟨xn,hxn⟩:=R7 (show 0<=x.card by omega);have rc:0<=(r:Int)*(x.card+1)/\(r:Int)*(x.card+1)<=27*4:=⟨SD (by omega) (by omega),SX (by omega) (by omega) (by omega) (by omega)⟩
       have c1:=Rw (x.card+1) (by omega);have c2:=Rw ((r:Int)*(x.card+1)) (by omega);have c3:=Rw ((r:Int)+1) (by omega);have hg2:=hgc2 rv;have hg0':=hgc0 rv;have hg2n:=aK hg2;obtain⟨row,hrow⟩:∃ row,row=mg g xn bs ((r:Int)*(x.card+1)):=⟨_,rfl⟩
       have hrok:kP g x.card row:=(by rw[hrow,hxn];exact PM hg1.1 (by omega) _ _);have hpc84:∀ Hq,ed Try.prog G0 (.clo 38 [] []) [aa g,aa x.card,wv,aa ((r:Int)*(x.card+1))] Hq (ab row) []:=fun Hq=>by
        refine ed.mk (fun i hi=>by cases hi) fun H2 _ _=>?_;refine ae.frame (H:=H2) (args:=[aa g,aa x.card,wv,aa ((r:Int)*(x.card+1))]) (args':=[aa g,aa xn,.vec bs.length (aX bs),aa ((r:Int)*(x.card+1))]) (v':=ab row) aZ rfl (fun i hi _=>?_) (PN g xn hg1 (by omega) bs hbl hbs _ (by omega) bU _ fun w Hw _ ho=>⟨_,rfl,by rw[hrow];exact ho.pA⟩)
        match i,hi with
        | 0,_=>exact .lit _
        | 1,_=>rw[hxn];exact .lit _
        | 2,_=>exact hwf _
        | 3,_=>exact .lit _
       obtain⟨rv',Hj,hA,hO',hn',hpr'⟩:=mI (P:=Try.prog) (H:=H1') (t:=40) (x:=ab row) (n:=H1'.next+1) Try.underlying40 Try.ua Try.uc rfl (by rw[Try.ub,RJ];omega) hOr hFr1 rfl;have keep:∀ id,id<Hm.next->Hj.get id=H1'.get id:=fun id h=>hpr' id (by omega) (hOr.ne h);have v3j:=ao ((keep _ (by omega)).trans ((hFr.2.1 (H.next+3) (by omega) (by omega)).trans w3));have vNj:=ao ((keep _ (by omega)).trans hFr.2.2);have hA':bF Try.prog (ext H1' [.arr 0 39 [.vec row.length (ints row)]]) (H1'.next+1) 40 40 rv (.own H1'.next 0 0 1 1)=some (rv',Hj):=hA;refine W.draw 31 [0,1,0,0,8,0,56,120,248,0,512,0,2048,0,14336,30720,63488,0,131072,0,0,1048576,0,7340032,15728640,32505856,66060288,133693440,268434944,536870400,1073741816] Try.mixed (by kernel_rfl) (by kernel_rfl) ?_;simp only[go_sem,b4,b11,b12,b15,v3,vP,vN,hg2,hg0',vlt,v0,c1,c2];refine⟨ab row,[],hpc84 _,?_⟩;simp only[go_sem,b4,b11,b12,b15,vNj,vlt,v0,c3,hA'];have hdj:lk (if jR rv=true then { eff:=aF rv,rs:=aF rv++[H1'.next] } else { eff:=[H1'.next+1],rs:=[H1'.next] }) { eff:=[],rs:=[H.next+3] }:=by
        rcases hOr with ⟨hO1,_⟩|⟨id,gg,hO1,hO2,hO3,_⟩
        ·rw[hO1];show lk { eff:=[H1'.next+1],rs:=[H1'.next] } _;exact⟨fun a ha=>by (obtain rfl:a=H1'.next+1:=by simpa using ha);simp;omega,fun a ha=>by simp at ha⟩
        ·rw[hO3];show lk { eff:=[id],rs:=[id]++[H1'.next] } _;exact⟨fun a ha=>by (obtain rfl:a=id:=by simpa using ha);simp;omega,fun a ha=>by simp at ha⟩
       rw[hO'.cells];refine⟨⟨by omega,by omega,by omega,by omega,by omega,by omega,by omega⟩,⟨hdj,hdj⟩,⟨rfl,by simp [hO'.one],by rw[RY,c1l];simp;omega⟩,by rw[aL];omega,⟨r+1,rv',rows++[row],rfl,by omega,by simp [hrl],by rw[PY,<- hrD,hrow,show x.card.toNat=xn by omega],fun q hq=>?_,⟨by rw[aL];omega,fun id h1 h2=>by rw[aj,RB h2,keep _ h1];exact hFr.2.1 id h1 h2,?_⟩,?_⟩,by rw[h15];simp only[aa,aM];omega⟩
       ·rcases RX.1 hq with h|h
        ·exact hrows q h
        ·obtain rfl:=List.mem_singleton.1 h;exact hrok
       ·rw[aj,RC rfl,hset2]
       ·have:=hO'.keep (lo':=Hm.next) (H':=Hj.upd (H.next+2) (.arr 0 69 (setAt (C1.set (v*3+2) rv) (v*3+2) [rv']))) (Nat.le_refl _) (Nat.le_refl _) fun id _ h1 _ _ _=>by rw[aj,RB (by omega)]
        simpa using this
      ·simp only[go_sem,b1,b2,b3,b4,b5,b10,hrR];exact⟨rv,rows,by omega,by rw[hrD];congr 1;omega,hrows,hFr,hOr⟩
     ·rintro e s3 ⟨rfl,rv,rows,a1,a2,a3,a4,a5,a10,hrl,hrD,hrows,hFr,hOr⟩;have hFr1:=hFr.1;obtain⟨rk,hrk,hfz⟩:∃ rk,Hm.next<=rk/\Fz (fun id=>id=rk) s3.H s3.H.next rv (aH rows):=by
       rcases hOr with ⟨hO1,hO2⟩|⟨id,gg,hO1,hO2,hO3,hO4⟩
       ·have:rows=[]:=by cases rows with
         | nil=>rfl
         | cons b l=>simp at hO2
        rw[hO1,this];exact⟨s3.H.next,hFr1,.nil⟩
       ·refine⟨id,hO1,?_⟩;rw[hO3,RJ];refine .frz rfl hO4 (by rw[Nat.mul_one,RJ]) fun j hj h2 h'=>?_;simp only[Nat.zero_add,RQ];exact .dT _
      have hne2:H.next+2≠rk:=(by omega);have hC1z:∀ c∈C1,Fz (fun id=>id=rk) s3.H s3.H.next c c:=fun c hc=>by
       rw[hC1]at hc;rcases SO hc with h|h
       ·exact Dj ns c h
       ·rw[h];exact .dT _
      refine⟨⟨s3.ρ,s3.H.eC rk (H.next+2) (.arr 0 69 (C1.set (v*3+2) (aH rows)))⟩,dv.eC aZ hFr.2.2 hne2 (by simp) (DR hC1z hfz),Nat.le_refl _,trivial,?_⟩;obtain⟨He,hHe⟩:∃ He,He=s3.H.eC rk (H.next+2) (.arr 0 69 (C1.set (v*3+2) (aH rows))):=⟨_,rfl⟩
      rw[<- hHe];have hFe:kN Hm He (H.next+2) (C1.set (v*3+2) (aH rows)):=by
       rw[hHe];exact⟨hFr1,fun id h1 h2=>(yE (by omega) h2).trans (hFr.2.1 id h1 h2),yD hne2⟩
      clear hFr hOr hfz hHe hne2 hrk;have hFe1:=hFe.1;have i1:=Rw ((i:Int)+1) (by omega);simp only[go_sem,a10,i1];have hiv:∀ j u:Nat,P[j]?=some (u:Int)->u=v->j=i:=fun j u h1 h2=>by
       subst h2;exact(Tq (get_lt h1) hperm.nd).1 (by rw[h1,hpv])
      have hrne:rows≠[]:=fun h=>by rw[h]at hrl;simp at hrl;omega
      have hdone:DoneN g cs P n i ⟨x.card,l,rows⟩:=⟨⟨hL.pw,fun q hq=>⟨(hL.rng q hq).1,by rcases(hL.rng q hq).2 with h|⟨_,k',h,_⟩<;>omega⟩⟩,hL.p3,hL.rk,by show (rows.length:Int)=_;rw[hrl,hR],hrows,hrne⟩
      refine⟨by omega,⟨i+1,ns.set v ⟨x.card,l,rows⟩,rfl,by omega,⟨by rw[RY];exact hnl,?_,fun j u z hj hu hz=>?_,fun j u z hj hu hz=>?_,fun j u z hj hu hz=>?_,fun j u z hu hz=>?_⟩,by omega,by omega,fun id h1 h2=>?_,?_⟩,by rw[h10];simp only[aa,aM];omega⟩
      ·have h1:ah (ns.set v ⟨x.card,l,rows⟩)=(ah ns).set v x.card:=(by unfold ah;rw[Uy]);rw[h1,uF (bX hx),L.cards]
      ·have huv:¬ u=v:=fun h=>by have:=hiv j u hu h;omega
       rw[R9 (by omega)]at hz;exact L.todo j u z (by omega) hu hz
      ·by_cases huv:u=v
       ·obtain rfl:=hiv j u hu huv;rw[huv,RO hvn]at hz;cases hz;exact hdone
       ·rw[R9 (by omega)]at hz;have:j≠i:=fun h=>by
         rw[h,hpv]at hu;exact huv (by have:=Option.some.inj hu;omega)
        exact L.done j u z (by omega) hu hz
      ·by_cases huv:u=v
       ·obtain rfl:=hiv j u hu huv;rw[huv,RO hvn]at hz;rw[<- Option.some.inj hz];unfold yj;rw[<- L.cd j v x hpv hx,<- hpw.1,<- hpw.2,<- hPk,hR,hrD];rfl
       ·rw[R9 (by omega)]at hz;have:j≠i:=fun h=>by
         rw[h,hpv]at hu;exact huv (by have:=Option.some.inj hu;omega)
        exact L.eq j u z (by omega) hu hz
      ·by_cases huv:u=v
       ·obtain rfl:=hiv j u hu huv;rw[huv,RO hvn]at hz;rw[<- Option.some.inj hz];exact L.cd j v x hpv hx
       ·rw[R9 (by omega)]at hz;exact L.cd j u z hu hz
      ·rw[hFe.2.1 id (by omega) h2,hFm.2.1 id (by omega) h2];exact zO id h1 h2
      ·rw[hFe.2.2,PZ (y:=⟨x.card,l,rows⟩) hx rfl hrne,hC1]
  ·obtain rfl:i=n:=(by omega);simp only[go_sem,e2,e3,e4,e10,hb,m1,m3];have hnl:=L.len;have hall:∀ v:Nat,v<ns.length->(v:Int)∈P:=fun v hv=>by rw[hP];exact rm ord i v (by omega)
   have hdn:∀ (v:Nat) (x:NodeP),ns[v]?=some x->∃ j,DoneN g cs P i j x:=fun v x hx=>by
    obtain⟨j,hj⟩:=RW.1 (hall v (get_lt hx));exact⟨j,L.done j v x (by have:=get_lt hj;have:=hperm.len;omega) hj hx⟩
   have hdm:∀ x∈ns,∃ j,DoneN g cs P i j x:=fun x hx=>by
    obtain⟨v,hv⟩:=RW.1 hx;exact hdn v x hv
   have ov:Over H (Hy.upd (H.next+1) (.arr 0 35 [.lit (.int .i64 g),.own (H.next+2) 0 0 i 3])):=⟨by rw[aL];omega,fun id h=>by rw[aj,RB (by omega),hF.2.1 id (by omega) (by omega)];exact o1.old id h⟩
   have hz:bh ns=ar ns:=PO fun x hx=>(hdm x hx).elim fun j hj=>hj.ne;have hcl8:∀ x∈ns,2<=x.card/\x.card<=3:=fun x hx=>hc23 x.card (by rw[<- L.cards];exact RI.2 ⟨x,hx,rfl⟩);have hnet:NetOk g ns:=by
    refine⟨hg1,by omega,fun x hx=>?_,?_,PV (P:=P) (by rw[hnl];exact hperm) hall fun j v x hj hx q hq=>?_,fun x hx=>?_⟩
    ·obtain⟨j,hj⟩:=hdm x hx;have:=hcl8 x hx;exact⟨by omega,by rw[hnl];exact hj.pl⟩
    ·have h2:=(ni (b:=3) (by omega) (l:=ah ns) fun c hc=>by have:=hc23 c (by rw[<- L.cards];exact hc);omega).2;have h3:(3:Int) ^ (ah ns).length<=3 ^ 5:=by
      have:(3:Nat) ^ (ah ns).length<=3 ^ 5:=R8 (by decide) (by rw[bA];omega)
      exact_mod_cast this
     omega
    ·have hd:=L.done j v x (by have:=get_lt hj;have:=hperm.len;omega) hj hx;exact⟨(hd.pl.2 q hq).1,hd.rk q hq⟩
    ·obtain⟨j,hj⟩:=hdm x hx;unfold jc aN;rw[L.cards];exact⟨hj.rl,hj.ro⟩
   rw[<- hnl];rw[<- hnl]at ov;refine av.mk ov.next (hK g ns (H.next+2) _ ov (by omega) (by rw[aL];omega) ?_ hnet (by omega) (fun x hx=>?_) (fun x hx=>?_) ⟨hg.symm,by rw[hnl];exact hn.symm,by rw[L.cards,hnl,<- hP];exact fun j v x hj hx=>L.eq j v x (by have:=get_lt hj;have:=hperm.len;omega) hj hx,by rw[hnl,<- hP];exact L.cd⟩)
   ·rw[aj,RB (by omega),hF.2.2,hz]
   ·obtain⟨j,hj⟩:=hdm x hx;exact hj.p3
   ·have:=hc23 x.card (by rw[<- L.cards];unfold ah;exact List.mem_map_of_mem hx);omega
theorem P1 (g0:Int)(ps:List DrP)(ord:List Int)(hg0:U8 g0)(hps:∀ x∈ps,x.Ok)(hpl:(ps.length:Int)<2 ^ 63)(hol:(ord.length:Int)<2 ^ 63)(ho8:∀ x∈ord,U8 x)(H:AHeap)(K:ARes->AHeap->Prop)
  (hK:∀ g ns N H',Over H H'->H.next<=N->N<H'.next->H'.get N=some (.arr 0 69 (ar ns))->NetOk g ns->ns.length<=5->(∀ x∈ns,x.parents.length<=3)->(∀ x∈ns,2<=x.card)->K (.ret (.agg [aa g,.own N 0 0 ns.length 3])) H'):
  ae Try.prog G0 9 [yh g0 ps ord] H K:=P0 g0 ps ord hg0 hps hpl hol ho8 H K fun g ns N H' a b c d e f h i _=>hK g ns N H' a b c d e f h i
def DT (args:Array Value):Sem Value:=do
  let (x, y, c) ← Extern.MathBitsCarry.three "Add64" args
  pure (Extern.MathBitsCarry.pair ((x+y+c) % Extern.MathBitsCarry.m64) ((x+y+c) / Extern.MathBitsCarry.m64))
def dx:List AVal->Option AVal
  | [.lit (.int .u64 a),.lit (.int .u64 b),.lit (.int .u64 c)]=>bif Nat.ble c.toNat 1 then some (.tup [.lit (.int .u64 (Int.ofNat ((a.toNat+b.toNat+c.toNat) % 18446744073709551616))),.lit (.int .u64 (Int.ofNat ((a.toNat+b.toNat+c.toNat) / 18446744073709551616)))]) else none
  | _=>none
theorem Rb {P:Program}(a b:Nat)(Γ:au)(H:AHeap)(w:World):RelV P Γ H w (.tup [.lit (.int .u64 (Int.ofNat a)),.lit (.int .u64 (Int.ofNat b))]) (Extern.MathBitsCarry.pair a b):=by
  unfold Extern.MathBitsCarry.pair;refine RelV.tup (cs:=[.int .u64 (Int.ofNat a),.int .u64 (Int.ofNat b)]) rfl fun i h _=>?_
  match i,h with
  | 0,_=>exact .lit _
  | 1,_=>exact .lit _
theorem Rc {P:Program}(s:String)(w:World)(a b c:Int)(hc:¬ c.toNat > 1):(Extern.MathBitsCarry.three s #[.int .u64 a,.int .u64 b,.int .u64 c]).run P w=.ok (a.toNat,b.toNat,c.toNat) w:=by
  have h1:∀ x:Int,(asInt (.int .u64 x)).run P w=.ok x w:=fun x=>rfl;show (do
    let c:=(<- asInt (.int .u64 c)).toNat
    if c > 1 then unsupported _
    pure ((<- asInt (.int .u64 a)).toNat,(<- asInt (.int .u64 b)).toNat,c):Sem (Nat × Nat × Nat)).run P w=_
  rw[ak (h1 c)];simp only[hc,if_false];rfl
theorem Rd {a b c:Int}{r:AVal}(h:dx [.lit (.int .u64 a),.lit (.int .u64 b),.lit (.int .u64 c)]=some r){H:AHeap}{K:ARes->AHeap->Prop}(hK:K (.ret r) H):az Try.prog qI (.clo 78 [] []) [.lit (.int .u64 a),.lit (.int .u64 b),.lit (.int .u64 c)] H K:=by
  simp only[dx]at h;cases hb:Nat.ble c.toNat 1 with
  | false=>rw[hb]at h;cases h
  | true =>
    rw[hb]at h;have hc:¬ c.toNat > 1:=(by have:=SL hb;omega);cases h;refine az.ext (e:=DT) (vs:=[.int .u64 a,.int .u64 b,.int .u64 c]) Try.func78 rfl (by kernel_rfl) (by kernel_rfl) (by kernel_rfl) rfl (fun w=>?_) (fun Γ H w=>Rb _ _ Γ H w) hK;unfold DT;rw[ak (Rc _ w a b c hc)];rfl
theorem Re:∀ {args:List AVal} {r:AVal},dx args=some r->∃ a b c,args=[.lit (.int .u64 a),.lit (.int .u64 b),.lit (.int .u64 c)]:=by
  intro args r h;unfold dx at h;split at h
  · exact⟨_,_,_,rfl⟩
  · cases h
def yF:FuncId->Option (List AVal->Option AVal):=fun f=>bif Nat.beq f 78 then some dx else none
theorem Rf {E:EP}(hP:E.P=Try.prog)(hG:E.G=qI)(hx:E.ext=yF):oN E:=by
  intro f e h args r hr H K hK;rw[hx]at h;rw[hP,hG];unfold yF at h;cases h1:Nat.beq f 78 with
  | true =>
    rw[h1]at h;have e1:=RM h1;subst e1;cases h;obtain⟨a,b,c,rfl⟩:=Re hr;exact Rd hr hK
  | false=>rw[h1]at h;cases h
noncomputable def Try.DU:EP:={ P:=Try.prog,G:=G0,gd:=fun _=>none,known:=tJ [],ext:=yF }
theorem Try.Ri:EOk Try.DU:=.LK (l:=[]) rfl aZ Try.mixed (fun _ _ h=>by cases h) trivial (Rf rfl rfl rfl)
theorem Try.Rj:xt Try.DU 1000000 17 [] (.lit (.bool true))=true:=by kernel_rfl
theorem Rk (H:AHeap)(K:ARes->AHeap->Prop)(hK:K (.ret (.lit (.bool true))) H):ae Try.prog G0 17 [] H K :=
 (ae.frame (args':=[]) aZ rfl (fun i h _=>absurd h (RV _)) (LL Try.Ri Try.Rj)).mono fun r H' ⟨h1,h2⟩=>by rw[h1,h2];exact hK
end Go.Proofs
namespace Go.Hx
variable {P:Program} {G:Nat->Option (List AVal)}
theorem Rg {H:AHeap}(hc:Clo H):FzH (fun _=>False) H H where
 gone id hs:=hs.elim
 kept id b _ hb:=by
  have hbb:=hc.below id b hb;refine⟨hc.lt id b hb,b,hb,?_⟩;cases b with
  | rsv=>trivial
  | mp=>rfl
  | arr g e cells=>exact⟨rfl,rfl,rfl,fun i h _=>.dead (hbb i h)⟩
  | loop st pend n env ps asg body=>exact⟨rfl,rfl,rfl,rfl,rfl,rfl,rfl,fun t ht=>.dead (hbb t ht)⟩
 none id _ hb:=hb
theorem ae.Rh {H:AHeap}{f:FuncId}{args args':List AVal}{K:ARes->AHeap->Prop}(hG:fH G)(hl:args'.length=args.length)(hv:∀ i (h:i<args.length) (h':i<args'.length),Fz (fun _=>False) H H.next args[i] args'[i])
  (h:ae P G f args' H K):ae P G f args H K:=by
 refine⟨h.1,fun Γ w cargs R hr=>?_⟩;have F:=Rg R.clo;have R0:=F.rel hG R;have E0:Evo Γ H w (eV (fun _=>False) Γ) H w:=F.aU;refine(h.2 _ w cargs R0 ⟨by have:=hr.1;omega,fun i h1 h2=>(hv i (by omega) h1).sound R F (hr.2 i (by omega) h2)⟩).mono ?_;rintro e w' ⟨r,H',Γ',h1,h2,h3,h4,h5⟩;exact⟨r,H',Γ',h1,h2,h3,E0.trans (Nat.le_refl _) h4,h5⟩
end Go.Hx
namespace Go.Proofs
open Go.Hx
theorem MH {S:Nat->Prop}{H:AHeap}{nx:Nat}(l:List NodeP):∀ c∈ar l,Fz S H nx c c:=by
 intro c hc;unfold ar at hc;obtain⟨r,hr,hc⟩:=TS.1 hc;obtain⟨x,_,rfl⟩:=RI.1 hr;unfold NodeP.cells at hc;simp only[List.mem_cons,List.not_mem_nil,or_false]at hc;rcases hc with rfl|rfl|rfl
 ·exact .lit _
 ·exact .dT _
 ·exact ux _
noncomputable def oW (g:Int)(ns:List NodeP)(cs:List Int)(xs:List (List Int))(v:Int):Int:=if fA g ns cs xs≠0 then fA g ns cs xs else if v<0\/v >= ns.length then 2 else if eH ns xs=true then 0 else 7
noncomputable def oY (g:Int)(ns:List NodeP)(cs:List Int)(xs:List (List Int))(v:Int):List Int:=if fA g ns cs xs≠0 then [] else if v<0\/v >= ns.length then [] else if eH ns xs=true then bI ns (ns.getD v.toNat ⟨0,[],[]⟩) v.toNat xs else []
theorem BN (g:Int)(ns:List NodeP)(cs:List Int)(xs:List (List Int))(v:Int):tT g ns cs xs v=.tup [ab (oY g ns cs xs v),aa (oW g ns cs xs v)]:=by
 unfold tT oY oW;split
 ·rfl
 ·split
  ·rfl
  ·split<;>rfl
def qQ (g0:Int)(ps:List DrP)(ord:List Int)(cw ca cr cn:Int)(ws ms:List Int)(bw ba bn:Int):List AVal :=
 [.lit (.int .u8 g0),.vec ps.length (eL ps),.vec ord.length (aX ord),.lit (.int .u8 cw),.lit (.int .u8 ca),.lit (.int .u8 cr),.lit (.int .i64 cn),.vec ws.length (ef ws),.vec ms.length (aX ms),.lit (.int .u8 bw),.lit (.int .u8 ba),.lit (.int .i64 bn)]
theorem MI {g:Int}{ns:List NodeP}(hok:NetOk g ns)(hp3:∀ x∈ns,x.parents.length<=3):SmallN 600 ns:=by
 have nn8:=hok.n1.2;refine⟨by omega,fun x hx=>?_⟩;have hx3:=hp3 x hx;have hrow:=hok.rows x hx;have hin:iE x.parents ns.length:=fun q hq=>by have:=(hok.node x hx).2.2 q hq;omega
 have hpc:=DG hin fun y hy=>(hok.node y hy).1;have hpl3:(aN ns x).length<=3:=by rw[show (aN ns x).length=_ from dQ _ _];exact hx3
 have hp:=ni (b:=4) (by omega) (l:=aN ns x) fun c hc=>by have:=hpc c hc;omega
 have h4:(4:Nat) ^ (aN ns x).length<=4 ^ 3:=R8 (by decide) hpl3;have h5:((4:Int) ^ (aN ns x).length)<=4 ^ 3:=by exact_mod_cast h4
 have h6:(4:Int) ^ 3=64:=by decide
 have hcard:=(hok.node x hx).1;exact⟨by omega,by have:=hrow.1;omega,fun r hr=>by have:=(hrow.2 r hr).1;exact⟨fun e=>by rw[e]at this;simp at this;omega,by omega⟩⟩
structure StoryP where
 g0:Int
 ps:List DrP
 ord:List Int
 cw:Int
 ca:Int
 cr:Int
 cn:Int
 ws:List Int
 ms:List Int
 bw:Int
 ba:Int
 bn:Int
def StoryP.cells (s:StoryP):List AVal:=qQ s.g0 s.ps s.ord s.cw s.ca s.cr s.cn s.ws s.ms s.bw s.ba s.bn
structure StoryP.Ok (s:StoryP):Prop where
 g:U8 s.g0
 p:∀ x∈s.ps,x.Ok
 pl:(s.ps.length:Int)<2 ^ 63
 ol:(s.ord.length:Int)<2 ^ 63
 o8:∀ x∈s.ord,U8 x
 cw:U8 s.cw
 ca:U8 s.ca
 cr:U8 s.cr
 ws:∀ x∈s.ws,0<=x/\x<65536
 ms:∀ x∈s.ms,0<=x/\x<256
 wl:(s.ws.length:Int)<2 ^ 63
 ml:(s.ms.length:Int)<2 ^ 63
 bw:U8 s.bw
 ba:U8 s.ba
structure D05P where
 g:Int
 ps:List DrP
 ord:List Int
def D05P.cells (x:D05P):List AVal:=[.lit (.int .u8 x.g),.vec x.ps.length (eL x.ps),.vec x.ord.length (aX x.ord)]
structure D05P.Ok (x:D05P):Prop where
 g:U8 x.g
 p:∀ y∈x.ps,y.Ok
 pl:(x.ps.length:Int)<2 ^ 63
 ol:(x.ord.length:Int)<2 ^ 63
 o8:∀ y∈x.ord,U8 y
end Go.Proofs
namespace Go.Proofs.Ytakancljiekbhaa
open Go.ChangeShapes Go.WideShapes Go.ChangeAt Go.RowKit Go.Hx
theorem Try.own:ownKnob Try.prog.godebug=none:=by kernel_rfl
theorem Try.laidOut:laidOutB Try.prog=true:=by kernel_rfl
theorem Try.Nm:Try.prog.underlying 4=some .bool:=by kernel_rfl
section
variable {W:World} {H:Type} {enc:TypeId × Value->H} {spare:Nat->Bool} {held:Bool}
theorem qV {n:Nat}(h:n<=maxLen):(n:Int)<2 ^ 63:=by
 have:maxLen=9223372036854775807:=by decide
 omega
theorem j8 {n:Int}(h:(Lit.int .u8 n).wf=true):U8 n:=by
 have:=wf_u8 h;unfold U8;omega
theorem Nn {n:Int}(h:(Lit.int .u16 n).wf=true):0<=n/\n<65536:=by
 have:0<=n/\n<=65535:=by simpa [Lit.wf,IntKind.min,IntKind.max,IntKind.signed,IntKind.bits] using h
 omega
theorem No:eQ enc Try.prog W spare held 86 fun _ zs=>∃ x:DrP,zs=x.cells/\x.Ok:=by
 have hu:=Try.underlying86;have c1:=Try.o9;have c2:=Try.tZ;refine(p6 (φ:=fun i _ xs=>if i=2 then ∃ l:List Int,xs=[.vec l.length (qa .u8 l)]/\l.length<=maxLen/\∀ c,c∈l->(Lit.int .u8 c).wf=true else ∃ n,xs=[.lit (.int .u8 n)]/\(Lit.int .u8 n).wf=true) hu
  (fun cs hcs=>by
   have hc:Try.prog.cellsOf 86=3:=(by kernel_rfl);rw[hc]at hcs
   match cs,hcs with
   | [a,b,c],_=>simp [c1,c2])
  (fun i hi=>match i,hi with
   | 0,_=>(iP Try.underlying5).mono fun _ _ ⟨n,_,h,w⟩=>⟨n,h,w⟩
   | 1,_=>(iP Try.underlying5).mono fun _ _ ⟨n,_,h,w⟩=>⟨n,h,w⟩
   | 2,_=>(rW Try.underlying23 Try.underlying5 c1).mono fun _ _ h=>h)).mono fun d zs ⟨ds,rows,_,e,hl1,hl2,hall⟩=>?_
 match rows,ds,hl2,hl1,hall with
 | [x,y,z],[d0,d1,d2],_,_,hall =>
  obtain⟨n0,e0,w0⟩:=hall 0 (by simp) (by simp);obtain⟨n1,e1,w1⟩:=hall 1 (by simp) (by simp);obtain⟨l,e2,w2,w3⟩:=hall 2 (by simp) (by simp);simp only[Sl,Tf]at e0 e1 e2;subst e0;subst e1;subst e2;refine⟨⟨n0,n1,l⟩,by rw[e];rfl,?_⟩;exact⟨j8 w0,j8 w1,qV w2,fun c hc=>j8 (w3 c hc)⟩
theorem Np {α:Type}{t e:TypeId}{f:α->List AVal}{q:α->Prop}(ht:Try.prog.underlying t=some (.slice e))(hz:0<Try.prog.cellsOf e)(he:eQ enc Try.prog W spare held e fun _ zs=>∃ x:α,zs=f x/\q x):
  eQ enc Try.prog W spare held t fun _ zs=>∃ l:List α,zs=[.vec l.length (l.map f).flatten]/\l.length<=maxLen/\∀ x∈l,q x :=
 (zF ht hz he).mono fun d zs h=>by
  rcases h with ⟨_,rfl⟩|⟨ds,rest,rows,_,rfl,hr,_,hl⟩
  ·exact⟨[],rfl,Ud _,fun c h=>by cases h⟩
  ·obtain⟨l,rfl,hq⟩:=zG (f:=f) (q:=q) (fun d zs h=>h) hr;exact⟨l,by rw[RJ],by simpa using hl,hq⟩
theorem Nq:eQ enc Try.prog W spare held 25 fun _ zs=>∃ (g:Int) (ps:List DrP) (ord:List Int),zs=[.lit (.int .u8 g),.vec ps.length (eL ps),.vec ord.length (aX ord)]/\U8 g/\(∀ x∈ps,x.Ok)/\(ps.length:Int)<2 ^ 63/\(ord.length:Int)<2 ^ 63/\∀ x∈ord,U8 x:=by
 have hu:=Try.underlying25;have c1:=Try.o9;have c2:=Try.tZ;have c3:=Try.Ca;have c4:=Try.Cj;refine(p6 (φ:=fun i _ xs=>if i=2 then ∃ l:List Int,xs=[.vec l.length (qa .u8 l)]/\l.length<=maxLen/\∀ c,c∈l->(Lit.int .u8 c).wf=true else if i=1 then ∃ l:List DrP,xs=[.vec l.length (l.map DrP.cells).flatten]/\l.length<=maxLen/\∀ x∈l,x.Ok else ∃ n,xs=[.lit (.int .u8 n)]/\(Lit.int .u8 n).wf=true) hu
  (fun cs hcs=>by
   have hc:Try.prog.cellsOf 25=3:=(by kernel_rfl);rw[hc]at hcs
   match cs,hcs with
   | [a,b,c],_=>simp [c1,c2,c3])
  (fun i hi=>match i,hi with
   | 0,_=>(iP Try.underlying5).mono fun _ _ ⟨n,_,h,w⟩=>⟨n,h,w⟩
   | 1,_=>(Np Try.underlying22 (by rw[c4];decide) No).mono fun _ _ h=>h
   | 2,_=>(rW Try.underlying23 Try.underlying5 c1).mono fun _ _ h=>h)).mono fun d zs ⟨ds,rows,_,e,hl1,hl2,hall⟩=>?_
 match rows,ds,hl2,hl1,hall with
 | [x,y,z],[d0,d1,d2],_,_,hall =>
  obtain⟨n0,e0,w0⟩:=hall 0 (by simp) (by simp);obtain⟨ps,e1,w1,w1'⟩:=hall 1 (by simp) (by simp);obtain⟨l,e2,w2,w3⟩:=hall 2 (by simp) (by simp);simp only[Sl,Tf]at e0 e1 e2;subst e0;subst e1;subst e2;exact⟨n0,ps,l,by rw[e];rfl,j8 w0,w1',qV w1,qV w2,fun c hc=>j8 (w3 c hc)⟩
theorem xI {n:Int}(h:(Lit.int .u8 n).wf=true):0<=n/\n<=255:=by
 have:=j8 h;unfold U8 at this;omega
theorem Nr:eQ enc Try.prog W spare held 27 fun _ zs=>∃ w a r n:Int,zs=BU w a r n/\(0<=w/\w<=255)/\(0<=a/\a<=255)/\(0<=r/\r<=255):=by
 have hu:=Try.underlying27;have c1:=Try.o9;have c2:=Try.fX;refine(p6 (φ:=fun i _ xs=>if i=3 then ∃ n,xs=[.lit (.int .i64 n)] else ∃ n,xs=[.lit (.int .u8 n)]/\(Lit.int .u8 n).wf=true) hu
  (fun cs hcs=>by
   have hc:Try.prog.cellsOf 27=4:=(by kernel_rfl);rw[hc]at hcs
   match cs,hcs with
   | [a,b,c,d],_=>simp [c1,c2])
  (fun i hi=>match i,hi with
   | 0,_=>(iP Try.underlying5).mono fun _ _ ⟨n,_,h,w⟩=>⟨n,h,w⟩
   | 1,_=>(iP Try.underlying5).mono fun _ _ ⟨n,_,h,w⟩=>⟨n,h,w⟩
   | 2,_=>(iP Try.underlying5).mono fun _ _ ⟨n,_,h,w⟩=>⟨n,h,w⟩
   | 3,_=>(iP Try.underlying3).mono fun _ _ ⟨n,_,h,_⟩=>⟨n,h⟩)).mono fun d zs ⟨ds,rows,_,e,hl1,hl2,hall⟩=>?_
 match rows,ds,hl2,hl1,hall with
 | [x,y,z,u],[d0,d1,d2,d3],_,_,hall =>
  obtain⟨n0,e0,w0⟩:=hall 0 (by simp) (by simp);obtain⟨n1,e1,w1⟩:=hall 1 (by simp) (by simp);obtain⟨n2,e2,w2⟩:=hall 2 (by simp) (by simp);obtain⟨n3,e3⟩:=hall 3 (by simp) (by simp);simp only[Sl,Tf]at e0 e1 e2 e3;subst e0;subst e1;subst e2;subst e3;exact⟨n0,n1,n2,n3,by rw[e];rfl,xI w0,xI w1,xI w2⟩
theorem Ns:eQ enc Try.prog W spare held 30 fun _ zs=>∃ w a n:Int,zs=B8 w a n/\U8 w/\U8 a:=by
 have hu:=Try.underlying30;have c1:=Try.o9;have c2:=Try.fX;refine(p6 (φ:=fun i _ xs=>if i=2 then ∃ n,xs=[.lit (.int .i64 n)] else ∃ n,xs=[.lit (.int .u8 n)]/\(Lit.int .u8 n).wf=true) hu
  (fun cs hcs=>by
   have hc:Try.prog.cellsOf 30=3:=(by kernel_rfl);rw[hc]at hcs
   match cs,hcs with
   | [a,b,c],_=>simp [c1,c2])
  (fun i hi=>match i,hi with
   | 0,_=>(iP Try.underlying5).mono fun _ _ ⟨n,_,h,w⟩=>⟨n,h,w⟩
   | 1,_=>(iP Try.underlying5).mono fun _ _ ⟨n,_,h,w⟩=>⟨n,h,w⟩
   | 2,_=>(iP Try.underlying3).mono fun _ _ ⟨n,_,h,_⟩=>⟨n,h⟩)).mono fun d zs ⟨ds,rows,_,e,hl1,hl2,hall⟩=>?_
 match rows,ds,hl2,hl1,hall with
 | [x,y,z],[d0,d1,d2],_,_,hall =>
  obtain⟨n0,e0,w0⟩:=hall 0 (by simp) (by simp);obtain⟨n1,e1,w1⟩:=hall 1 (by simp) (by simp);obtain⟨n2,e2⟩:=hall 2 (by simp) (by simp);simp only[Sl,Tf]at e0 e1 e2;subst e0;subst e1;subst e2;exact⟨n0,n1,n2,by rw[e];rfl,j8 w0,j8 w1⟩
theorem Nt:eQ enc Try.prog W spare held 32 fun _ zs=>∃ s:StoryP,zs=s.cells/\s.Ok:=by
 have hu:=Try.underlying32;have c1:=Try.Cb;have c2:=Try.Cc;have c3:=Try.Cd;have c4:=Try.tZ;have c5:=Try.Ce;have c6:=Try.Ci;have c7:=Try.o9;refine(p6 (φ:=fun i _ xs=>if i=0 then ∃ (g:Int) (ps:List DrP) (ord:List Int),xs=[.lit (.int .u8 g),.vec ps.length (eL ps),.vec ord.length (aX ord)]/\U8 g/\(∀ x∈ps,x.Ok)/\(ps.length:Int)<2 ^ 63/\(ord.length:Int)<2 ^ 63/\∀ x∈ord,U8 x
   else if i=1 then ∃ w a r n:Int,xs=BU w a r n/\(0<=w/\w<=255)/\(0<=a/\a<=255)/\(0<=r/\r<=255)
   else if i=2 then ∃ l:List Int,xs=[.vec l.length (qa .u16 l)]/\l.length<=maxLen/\∀ c,c∈l->(Lit.int .u16 c).wf=true
   else if i=3 then ∃ l:List Int,xs=[.vec l.length (qa .u8 l)]/\l.length<=maxLen/\∀ c,c∈l->(Lit.int .u8 c).wf=true
   else ∃ w a n:Int,xs=B8 w a n/\U8 w/\U8 a) hu
  (fun cs hcs=>by
   have hc:Try.prog.cellsOf 32=12:=(by kernel_rfl);rw[hc]at hcs
   match cs,hcs with
   | [a,b,c,d,e,f,g,h,i,j,k,l],_=>simp [c1,c2,c3,c4,c5])
  (fun i hi=>match i,hi with
   | 0,_=>Nq.mono fun _ _ h=>h
   | 1,_=>Nr.mono fun _ _ h=>h
   | 2,_=>(rW Try.underlying28 Try.underlying81 c6).mono fun _ _ h=>h
   | 3,_=>(rW Try.underlying23 Try.underlying5 c7).mono fun _ _ h=>h
   | 4,_=>Ns.mono fun _ _ h=>h)).mono fun d zs ⟨ds,rows,_,e,hl1,hl2,hall⟩=>?_
 match rows,ds,hl2,hl1,hall with
 | [x,y,z,u,w],[d0,d1,d2,d3,d4],_,_,hall =>
  obtain⟨g,ps,ord,e0,w0,wa,wb,wc,wd⟩:=hall 0 (by simp) (by simp);obtain⟨cw,ca,cr,cn,e1,w1,wf,wg⟩:=hall 1 (by simp) (by simp);obtain⟨ws,e2,w2,wh⟩:=hall 2 (by simp) (by simp);obtain⟨ms,e3,w3,wi⟩:=hall 3 (by simp) (by simp);obtain⟨bw,ba,bn,e4,w4,wj⟩:=hall 4 (by simp) (by simp);simp only[Sl,Tf]at e0 e1 e2 e3 e4;subst e0;subst e1;subst e2;subst e3;subst e4;exact⟨⟨g,ps,ord,cw,ca,cr,cn,ws,ms,bw,ba,bn⟩,by rw[e];rfl,⟨w0,wa,wb,wc,wd,(by unfold U8;omega:U8 cw),(by unfold U8;omega:U8 ca),(by unfold U8;omega:U8 cr),fun c hc=>Nn (wh c hc),fun c hc=>by have:=j8 (wi c hc);unfold U8 at this;exact this,qV w2,qV w3,w4,wj⟩⟩
theorem Nu {r:Reach}{b:Nat}{v:Value}{d:DataW H}{ps:List MemPlace}(hval:Value.okWide Try.prog W r b 32 v)(hd:DataW.Trod enc Try.prog W 0 spare held 32 v d ps):
  ∃ x:StoryP,RelV Try.prog iI bU W (.agg x.cells) v/\x.Ok:=by
 obtain⟨xs,h1,x,rfl,h2⟩:=Fk Nt (.inl ⟨_,Try.underlying32⟩) hval hd;exact⟨x,h1,h2⟩
end
end Go.Proofs.Ytakancljiekbhaa
namespace Go.Proofs
open Go.Hx
theorem MJ:∀ {a b:List Int},a.length=b.length->(fw a b).sum=a.sum+b.sum:=by
 intro a
 induction a with
 | nil=>intro b h;cases b with
  | nil=>rfl
  | cons _ _=>simp at h
 | cons x a ih =>
  intro b h;cases b with
  | nil=>simp at h
  | cons y b =>
   have:=ih (b:=b) (by simpa using h);unfold fw at this ⊢;rw[List.zipWith_cons_cons,RZ,this,RZ,RZ];omega
theorem MK {g:Int}{ns:List NodeP}(h:NetOk g ns)(h6:ns.length<=6){v:Nat}{x:NodeP}(hx:ns[v]?=some x)(xs:List (List Int))(hr:∀ r∈xs,r.length=ns.length):(bI ns x v xs).sum=720*xs.length:=by
 have key:∀ k,k<=xs.length->(bI ns x v (xs.take k)).sum=720*k:=by
  intro k
  induction k with
  | zero =>
   intro _;show (List.replicate (x.rows.length*x.card.toNat) (0:Int)).sum=_;rw[T2];simp
  | succ k ih =>
   intro hk;obtain⟨r,hrk⟩:=get_of_lt (l:=xs) (i:=k) (by omega);have hrl:=hr r (Ry hrk);have hl:=(oS h h6 hx (xs.take k) fun q hq=>hr q (RS hq)).1;obtain⟨_,h4,h5,_⟩:=xF (xE h h6 hx hrl);obtain⟨a,_,_⟩:=qN h hx (cF (ah ns) r) fun w hw=>mU (gO h) (by rw[hrl,bA]) hw;have a':((iU ns x v r).length:Int)=x.rows.length*x.card:=a;rw[aP hrk,xD,MJ (by omega),ih (by omega),h5];omega
 have:=key xs.length (Nat.le_refl _);rw[TD]at this;exact this
theorem BO:∀ {cs r:List Int},bE cs r->cF cs r=[r]:=by
 intro cs
 induction cs with
 | nil=>intro r h;obtain rfl:=RT h.1;rfl
 | cons c cs ih =>
  intro r h;cases r with
  | nil=>have:=h.1;simp at this
  | cons x r =>
   have hx:=h.head;obtain⟨k,rfl⟩:=R7 hx.1;have hr:=ih h.tail;unfold cF;rw[List.tail_cons,hr];obtain⟨m,hm⟩:∃ m,c.toNat=k+(m+1):=⟨c.toNat - k - 1,by omega⟩
   rw[hm,UY,Uf,T3,List.map_cons,UM];have e1:((List.range k).flatMap fun (a:Nat)=>if ((k:Int) :: r).headD (-1)<0\/((k:Int) :: r).headD (-1)=(a:Int) then [r].map fun w=>(a:Int) :: w else [])=[]:=by
    rw[U3];intro a ha;have:=RK.1 ha;rw[RB (by simp;omega)]
   have e2:(((List.range m).map Nat.succ).map fun x=>k+x).flatMap (fun (a:Nat)=>if ((k:Int) :: r).headD (-1)<0\/((k:Int) :: r).headD (-1)=(a:Int) then [r].map fun w=>(a:Int) :: w else [])=[]:=by
    rw[U3];intro a ha;obtain⟨b,hb,rfl⟩:=RI.1 ha;obtain⟨d,_,rfl⟩:=RI.1 hb;rw[RB (by simp;omega)]
   rw[e1,e2];simp
theorem ML {L p:Nat}{w:Int}(hp:p<L)(hw:0<w):gQ ((List.replicate L 0).set p w)=(List.replicate L 0).set p 720:=by
 obtain⟨c,hc⟩:∃ c,c=(List.replicate L (0:Int)).set p w:=⟨_,rfl⟩
 have hl:c.length=L:=by rw[hc];simp
 have hsum:c.sum=w:=by
  have:=xC (l:=List.replicate L (0:Int)) (i:=p) (by simpa using hp) w;unfold dL at this;have e0:(List.replicate L (0:Int)).getD p 0=0:=by
   rw[RE,Sz,RC hp];rfl
  rw[e0,Ul]at this;have e1:(List.replicate L (0:Int)).sum=0:=by rw[T2];simp
  rw[hc,this,e1];omega
 have hE:eu c=c:=by unfold eu;rw[RC (by omega)]
 have hT:di c=w:=by unfold di;rw[RC (by omega),hsum]
 have hsp:bJ 720 0 c=720:=by unfold bJ;omega
 have hg:∀ i,i<L->c.getD i 0=if i=p then w else 0:=fun i hi=>by
  rw[hc,RE,SQ];by_cases h:p=i
  ·subst h;simp [hp]
  ·rw[RB h,Sz,RC hi,RB (fun e=>h e.symm)];rfl
 have hpa:∀ i,i<L->partAt 720 c i=if i=p then 720 else 0:=fun i hi=>by
  unfold partAt;rw[hE,hT,hg i hi];split
  ·exact Int.mul_ediv_cancel _ (by omega)
  ·simp
 have hs720:(List.range c.length).map (partAt 720 c)=(List.replicate L 0).set p 720:=by
  refine Sf fun i=>?_;rw[List.getElem?_map,hl];rcases RP i L with h|h
  ·rw[Sm h,SQ];show some (partAt 720 c i)=_;rw[hpa i h];by_cases e:p=i
   ·subst e;simp [h]
   ·rw[RB e,RB fun e2=>e e2.symm,Sz,RC h]
  ·rw[RF (by simpa using h),RF (by simpa using h)];rfl
 have hleft:fg 720 c=0:=by
  unfold fg;rw[hs720];have:=xC (l:=List.replicate L (0:Int)) (i:=p) (by simpa using hp) 720;unfold dL at this;have e0:(List.replicate L (0:Int)).getD p 0=0:=by
   rw[RE,Sz,RC hp];rfl
  rw[e0,Ul]at this;have e1:(List.replicate L (0:Int)).sum=0:=by rw[T2];simp
  rw[this,e1];omega
 have hok:eM 0 (bJ 720 0 c) c ((List.replicate L 0).set p 720):=by
  refine⟨fun _=>false,?_,?_⟩
  ·rw[hsp,hleft];exact Top.zero
  ·unfold dB;rw[hsp,<- hs720];refine Sa fun i _=>?_;simp
 rw[<- hc];exact(kI hok).symm
theorem MM {a:List Int}{L p:Nat}{w:Int}(hl:a.length=L)(hp:p<L):fw a ((List.replicate L 0).set p w)=dL a p w:=by
 refine Sf fun i=>?_;unfold fw dL;rw[Va,SQ,SQ];rcases RP i L with h|h
 ·obtain⟨y,hy⟩:=get_of_lt (l:=a) (i:=i) (by omega);rw[hy];by_cases e:p=i
  ·subst e;rw[RC rfl,RC rfl,RC (by simpa using hp),RC (by omega),aO hy]
  ·rw[RB e,RB e,Sz,RC h];simp
 ·rw[RF (show a.length<=i by omega)];by_cases e:p=i
  ·omega
  ·rw[RB e,RB e]
def fy (ns:List NodeP)(x:NodeP)(v:Nat)(xs:List (List Int)):List Int:=xs.foldl (fun s r=>dL s (dD ns x v r).toNat 720) (List.replicate (x.rows.length*x.card.toNat) 0)
theorem BP {g:Int}{ns:List NodeP}(h:NetOk g ns)(h6:ns.length<=6){v:Nat}{x:NodeP}(hx:ns[v]?=some x)(xs:List (List Int))(hr:∀ r∈xs,bE (ah ns) r)(hm:∀ r∈xs,dJ ns r≠0):bI ns x v xs=fy ns x v xs:=by
 have hc:=(h.node x (Ry hx)).1;obtain⟨L,hL⟩:∃ L,L=x.rows.length*x.card.toNat:=⟨_,rfl⟩
 have hLi:(L:Int)=x.rows.length*x.card:=by rw[hL,Tj,Sw (by omega)]
 have key:∀ (l:List (List Int)) (s:List Int),(∀ r∈l,r∈xs)->s.length=L->l.foldl (fun s r=>fw s (gQ (iU ns x v r))) s=l.foldl (fun s r=>dL s (dD ns x v r).toNat 720) s:=by
  intro l
  induction l with
  | nil=>intro s _ _;rfl
  | cons r l ih =>
   intro s hl hs;have hf:=hr r (hl r (by simp));have hp:=qM h hx hf;have hd:=BO hf;have hw0:=tP h hf;have hmr:=hm r (hl r (by simp));unfold dJ at hmr;rw[hd]at hmr;have hw:0<weight ns r:=by
    have:(([r]:List (List Int)).map (weight ns)).sum=weight ns r:=(by simp);omega
   have e0:(List.replicate L (0:Int)).getD (dD ns x v r).toNat 0=0:=by
    rw[RE,Sz,RC (by omega)];rfl
   have eP:iU ns x v r=(List.replicate L 0).set (dD ns x v r).toNat (weight ns r):=by
    unfold iU fu;rw[hd,<- hL];show dL _ _ _=_;unfold dL;rw[e0,Ul]
   rw[SK,SK,eP,ML (by omega) hw,MM hs (by omega)];exact ih _ (fun q hq=>hl q (by simp [hq])) (by rw[tS];exact hs)
 unfold bI fy;exact key xs _ (fun r h=>h) (by simp [hL])
def im (g:Int)(ns:List NodeP)(least:Int):Bool:=decide (∀ x∈ns,0<=least/\least<=60/\least*x.card<=g)
def iY (n:Nat):List AVal:=(List.replicate n [AVal.lit (.int .i64 0),.lit (.slice none 0 0),.lit (.slice none 0 0)]).flatten
theorem CG (n:Nat):iY (n+1)=[AVal.lit (.int .i64 0),.lit (.slice none 0 0),.lit (.slice none 0 0)]++iY n:=by unfold iY;rw[TU,List.flatten_cons]
theorem CH:∀ n:Nat,(iY n).length=n*3
 | 0=>rfl
 | n+1=>by rw[CG,List.length_append,CH n];simp;omega
def dE (n:Nat)(ns:List NodeP):List AVal:=ar ns++iY (n - ns.length)
theorem CI {n:Nat}{ns:List NodeP}(h:ns.length<=n):(dE n ns).length=n*3:=by unfold dE;rw[List.length_append,fY,CH,<- SM];congr 1;omega
theorem CJ {n:Nat}{ns:List NodeP}{x:NodeP}(h:ns.length<n):setAt (dE n ns) (ns.length*3) x.cells=dE n (ns++[x]):=by
 obtain⟨k,hk⟩:∃ k,n - ns.length=k+1:=⟨n - ns.length - 1,by omega⟩
 have hk2:n - (ns++[x]).length=k:=by simp;omega
 have hl:=fY ns;unfold dE setAt;rw[hk,hk2,CG,show ar (ns++[x])=ar ns++x.cells by unfold ar;simp];rw[List.take_append_of_le_length (by omega),RA (by omega),List.drop_append,T4 (by rw[hl];omega),List.nil_append];congr 1;rw[show ns.length*3+x.cells.length - (ar ns).length=3 by rw[hl];show ns.length*3+3 - _=3;omega];rfl
theorem pe {n:Nat}{ns:List NodeP}:∀ c∈dE n ns,∀ (S:Nat->Prop) (Hz:AHeap) (nx:Nat),Fz S Hz nx c c:=fun c hc S Hz nx=>by
 unfold dE at hc;rcases RX.1 hc with hc|hc
 ·unfold ar at hc;obtain⟨r,hr,hc⟩:=TS.1 hc;obtain⟨x,_,rfl⟩:=RI.1 hr;unfold NodeP.cells at hc;simp only[List.mem_cons,List.not_mem_nil,or_false]at hc;rcases hc with rfl|rfl|rfl
  ·exact .lit _
  ·exact .dT _
  ·exact ux _
 ·unfold iY at hc;obtain⟨r,hr,hc⟩:=TS.1 hc;obtain rfl:=S8 hr;simp only[List.mem_cons,List.not_mem_nil,or_false]at hc;rcases hc with rfl|rfl|rfl<;>exact .lit _
theorem qZ (ns:List NodeP):dE ns.length ns=ar ns:=by unfold dE;rw[Tx];exact List.append_nil _
theorem uf {S:Nat->Prop}{H:AHeap}{nx:Nat}{g e:Int}{nv:AVal}{ns:List NodeP}(h:Fz S H nx nv (de ns)):Fz S H nx (.tup [.agg [.lit (.int .i64 g),nv],.lit (.int .i64 e)]) (.tup [bP g ns,aa e]):=by
 refine .tup rfl fun i hi _=>?_
 match i,hi with
 | 0,_ =>
  refine .agg rfl fun i hi _=>?_
  match i,hi with
  | 0,_=>exact .lit _
  | 1,_=>exact h
 | 1,_=>exact .lit _
theorem fO.fzN {S:Nat->Prop}{lo nx:Nat}{H:AHeap}{v:AVal}{ns:List NodeP}(h:fO lo H 69 3 v ns.length (ar ns))(hS:∀ i,lo<=i->S i):Fz S H nx v (de ns):=by
 rcases h with ⟨rfl,h0,_⟩|⟨id,g,h1,_,rfl,h4,h5⟩
 ·obtain rfl:=List.length_eq_zero_iff.1 h0;exact .nil
 ·refine .frz (hS id h1) h5 (by rw[fY]) fun j hj h2 h'=>?_;have hm:∀ q∈ar ns,Fz S H nx q q:=fun q hq=>pe (n:=ns.length) (ns:=ns) q (by rw[qZ];exact hq) S H nx;simpa only[Nat.zero_add] using hm _ (Sv h')
def eY (l:List Int)(c j:Nat):List Int:=(l.drop (j*c)).take c
noncomputable def qS (g least:Int)(l:List Int)(c j:Nat):List Int:=jF least (bJ g least (eY l c j)) (eY l c j)
noncomputable def kE (g least:Int)(l:List Int)(x:NodeP):NodeP:=⟨x.card,x.parents,(List.range x.rows.length).map (qS g least l x.card.toNat)⟩
noncomputable def jz (g least:Int)(ns:List NodeP)(xs:List (List Int)):List NodeP:=(List.range ns.length).map fun v=>kE g least (bI ns (ns.getD v ⟨0,[],[]⟩) v xs) (ns.getD v ⟨0,[],[]⟩)
theorem xG (g least:Int)(ns:List NodeP)(xs:List (List Int)):(jz g least ns xs).length=ns.length:=by simp [jz]
theorem BQ {g least:Int}{ns:List NodeP}{xs:List (List Int)}{v:Nat}{x:NodeP}(hx:ns[v]?=some x):(jz g least ns xs)[v]?=some (kE g least (bI ns x v xs) x):=by
 unfold jz;rw[List.getElem?_map,Sm (get_lt hx)];show some (kE g least (bI ns (ns.getD v ⟨0,[],[]⟩) v xs) (ns.getD v ⟨0,[],[]⟩))=_;rw[aO hx]
theorem qT {l:List Int}{c j m:Nat}(hl:l.length=m*c)(hj:j<m):(eY l c j).length=c:=by
 unfold eY;have h1:j*c+c<=m*c:=by have:=Sy c (show j+1<=m by omega);rw[SM]at this;omega
 rw[RH,Sr,hl];omega
theorem MO {l:List Int}{c j:Nat}:∀ x∈eY l c j,x∈l:=fun _ h=>SR (RS h)
theorem tW {g:Int}{ns:List NodeP}(h:NetOk g ns)(h6:ns.length<=6){v:Nat}{x:NodeP}(hx:ns[v]?=some x)(xs:List (List Int))(hr:∀ r∈xs,r.length=ns.length):(bI ns x v xs).length=x.rows.length*x.card.toNat:=by
 have:=(oS h h6 hx xs hr).1;have hc:=(h.node x (Ry hx)).1;have e:((x.rows.length*x.card.toNat:Nat):Int)=x.rows.length*x.card:=by rw[Tj,Sw (by omega)]
 omega
def mW (g:Int)(ns:List NodeP)(least:Int):Prop:=0<=least/\∀ x∈ns,least*x.card<=g
theorem BR {g least:Int}{ns:List NodeP}(h:NetOk g ns)(h6:ns.length<=6)(hf:mW g ns least){v:Nat}{x:NodeP}(hx:ns[v]?=some x){xs:List (List Int)}(hx40:xs.length<=64)(hr:∀ r∈xs,r.length=ns.length){j:Nat}(hj:j<x.rows.length):
  gY (eY (bI ns x v xs) x.card.toNat j) g least:=by
 have hxm:=Ry hx;have hc:=(h.node x hxm).1;have hg:=h.g1;have hl:=qT (tW h h6 hx xs hr) hj;have hb:=(oS h h6 hx xs hr).2;refine⟨by omega,fun y hy=>?_,by omega,hf.1,?_⟩
 ·have:=hb y (MO y hy);omega
 ·rw[hl,Sw (by omega)];exact hf.2 x hxm
theorem mX {g:Int}{ns:List NodeP}(h:NetOk g ns){least:Int}:im g ns least=true↔mW g ns least:=by
 have hg:=h.g1;have hn:=h.n1;obtain⟨y,hy⟩:=get_of_lt (l:=ns) (i:=0) (by omega);have hym:=Ry hy;unfold im;rw[Su];constructor
 ·intro hh;exact⟨(hh y hym).1,fun x hx=>(hh x hx).2.2⟩
 ·intro hh x hx;have hc:=(h.node x hx).1;have h1:=hh.2 x hx;have h3:least*1<=least*x.card:=Sd (by omega) hh.1;exact⟨hh.1,by omega,h1⟩
theorem BS {g c least:Int}(hc:1<=c):least<=g / c↔least*c<=g:=Tw (by omega)
noncomputable def jA (g:Int)(ns:List NodeP)(cs:List Int)(xs:List (List Int))(least:Int):Int:=if fA g ns cs xs≠0 then fA g ns cs xs else if im g ns least=true then if eH ns xs=true then 0 else 7 else 2
noncomputable def mY (g:Int)(ns:List NodeP)(cs:List Int)(xs:List (List Int))(least:Int):Int × List NodeP:=if jA g ns cs xs least=0 then (g,jz g least ns xs) else (0,[])
theorem MP {c:List Int}{g least:Int}(h:gY c g least):(jF least (bJ g least c) c).length=c.length:=by
 obtain⟨s,hs⟩:=qY least (bJ g least c) (c:=c) (by have:=h.1;omega);rw[<- kI hs];obtain⟨M,_,rfl⟩:=hs;simp [dB]
theorem MQ {g least:Int}{ns:List NodeP}(h:NetOk g ns)(h6:ns.length<=6)(hf:mW g ns least){xs:List (List Int)}(hx40:xs.length<=64)(hr:∀ r∈xs,r.length=ns.length)(hn:jd ns):jd (jz g least ns xs):=by
 refine⟨by rw[xG];exact hn.1,fun y hy=>?_⟩;obtain⟨v,hv,rfl⟩:=RI.1 hy;obtain⟨x,hx⟩:=get_of_lt (RK.1 hv);rw[aO hx];have hxm:=Ry hx;obtain⟨a,b,c⟩:=hn.2 x hxm;refine⟨a,by show (((List.range x.rows.length).map _).length:Int)<_;simpa using b,fun r hr'=>?_⟩;obtain⟨j,hj,rfl⟩:=RI.1 hr';have hj:=RK.1 hj;have hc:=(h.node x hxm).1;unfold qS;rw[MP (BR h h6 hf hx hx40 hr hj),qT (tW h h6 hx xs hr) hj];omega
end Go.Proofs
namespace Go.Hx
variable {P:Program} {t:TypeId} {x y:Operand} {k k':IntKind} {a b:Int}
end Go.Hx
namespace Go.Proofs
open Go.Hx
def MN (l:List Nat):Prop := ∀ d, l.getLast? = some d -> d ≠ 0
structure NormD (B:Nat)(l:List Nat):Prop where
  lt:∀ d ∈ l, d < B
  top:MN l
theorem NormD.nil (B:Nat):NormD B [] := ⟨fun d h => (by cases h), fun d h => (by cases h)⟩
theorem NormD.tail {B d:Nat}{l:List Nat}(h:NormD B (d :: l)):NormD B l := ⟨fun e he => h.lt e (by simp [he]), fun e he => h.top e (by
  cases l with
  | nil => cases he
  | cons x l => rw[List.getLast?_cons_cons]; exact he)⟩
end Go.Proofs
namespace Go.Hx
variable {P:Program} {G:Nat->Option (List AVal)} {Γ Γ':au} {H H':AHeap} {w w':World}
inductive Ids (K:Nat->Prop):AVal->Prop
 | lit (v:Value):Ids K (.lit v)
 | vec {n:Nat} {c:List AVal} (h:∀ i (h:i<c.length),Ids K c[i]):Ids K (.vec n c)
 | vptr {n:Nat} {c:List AVal} (h:∀ i (h:i<c.length),Ids K c[i]):Ids K (.vptr c n)
 | agg {c:List AVal} (h:∀ i (h:i<c.length),Ids K c[i]):Ids K (.agg c)
 | tup {c:List AVal} (h:∀ i (h:i<c.length),Ids K c[i]):Ids K (.tup c)
 | clo {f:FuncId} {a b:List AVal} (h1:∀ i (h:i<a.length),Ids K a[i]) (h2:∀ i (h:i<b.length),Ids K b[i]):Ids K (.clo f a b)
 | own {id g o l z:Nat} (h:K id):Ids K (.own id g o l z)
 | ptr {id g o:Nat} (h:K id):Ids K (.ptr id g o)
 | yld {id:Nat} (h:K id):Ids K (.yld id)
theorem Ids.sound {K:Nat->Prop}{Γ₁ Γ₂:au}{H₁ H₂:AHeap}(hK:∀ id,K id->H₂.get id=H₁.get id/\Γ₂ id=Γ₁ id/\id<H₂.next)(ho:∀ b,Γ₂.eD b->Γ₁.eD b){v:AVal}(h:Ids K v):
  ∀ {cv:Value},RelV P Γ₁ H₁ w v cv->RelV P Γ₂ H₂ w v cv:=by
 induction h with
 | lit v=>intro cv h;cases h;exact .lit _
 | vec _ ih =>
  intro cv h;cases h with
  | vec0 a cap=>exact .vec0 a cap
  | vec hb hlt hlen hcs hcell hrel=>exact .vec (fun h=>hb (ho _ h)) hlt hlen hcs hcell fun i h1 h2=>ih i h1 (hrel i h1 h2)
 | vptr _ ih=>intro cv h;cases h with|vptr hb hlt hcs hcell hrel=>exact .vptr (fun h=>hb (ho _ h)) hlt hcs hcell fun i h1 h2=>ih i h1 (hrel i h1 h2)
 | agg _ ih=>intro cv h;cases h with|agg hcs hrel=>exact .agg hcs fun i h1 h2=>ih i h1 (hrel i h1 h2)
 | tup _ ih=>intro cv h;cases h with|tup hcs hrel=>exact .tup hcs fun i h1 h2=>ih i h1 (hrel i h1 h2)
 | clo _ _ ih1 ih2=>intro cv h;cases h with|clo hfs hcs hf hc=>exact .clo hfs hcs (fun i h1 h2=>ih1 i h1 (hf i h1 h2)) fun i h1 h2=>ih2 i h1 (hc i h1 h2)
 | own h =>
  intro cv hv;cases hv with
  | own hv =>
   obtain⟨a,b,c,d⟩:=hv;obtain⟨e1,e2,e3⟩:=hK _ h;refine .own ⟨e3,b,by rw[e1];exact c,fun g e cells hg=>?_⟩;rw[e1]at hg;rw[e2];exact d g e cells hg
 | ptr h =>
  intro cv hv;cases hv with
  | ptr hv =>
   obtain⟨a,b,c,d⟩:=hv;obtain⟨e1,e2,e3⟩:=hK _ h;refine .ptr ⟨e3,b,by rw[e1];exact c,fun g e cells hg=>?_⟩;rw[e1]at hg;rw[e2];exact d g e cells hg
 | yld h =>
  intro cv hv;cases hv with
  | yld hv =>
   obtain⟨a,b,c,d,e⟩:=hv;obtain⟨e1,e2,e3⟩:=hK _ h;refine .yld ⟨e3,b,by rw[e1];exact c,fun st pend n env ps asg body hg=>?_,fun es hg=>?_⟩
   ·rw[e1]at hg;rw[e2];exact d st pend n env ps asg body hg
   ·rw[e1]at hg;rw[e2];exact e es hg
end Go.Hx
namespace Go.Hx
variable {P:Program} {G:Nat->Option (List AVal)} {Γ Γ':au} {H H':AHeap} {w w':World}
theorem Ids.mono {K K':Nat->Prop}(h:∀ id,K id->K' id){v:AVal}(hv:Ids K v):Ids K' v:=by
 induction hv with
 | lit v=>exact .lit v
 | vec _ ih=>exact .vec ih
 | vptr _ ih=>exact .vptr ih
 | agg _ ih=>exact .agg ih
 | tup _ ih=>exact .tup ih
 | clo _ _ i1 i2=>exact .clo i1 i2
 | own h'=>exact .own (h _ h')
 | ptr h'=>exact .ptr (h _ h')
 | yld h'=>exact .yld (h _ h')
end Go.Hx
namespace Go.Hx
variable {P:Program} {G:Nat->Option (List AVal)} {all:Array Oper} {tail:St->Prop} {b i:Nat} {bs:List Nat} {acc:List (Nat × FP)} {K:FP->St->Prop} {s:St} {d:Option Tmp} {ty:TypeId} {pos:String} {aft:Array Edge} {g:Option (Nat × Bool)}
end Go.Hx
namespace Go.Hx
end Go.Hx
namespace Go.Proofs
open Go.Hx
theorem MU {g:Int}{ns:List NodeP}(h:NetOk g ns)(h5:ns.length<=5)(h2:∀ x∈ns,2<=x.card)(ws ms:List Int):DataOk (ah ns) (fL ns ws ms):=by
 have hc:∀ c∈ah ns,2<=c/\c<=4:=fun c hcm=>by
  obtain⟨y,hy,rfl⟩:=RI.1 hcm;exact⟨h2 y hy,(h.node y hy).1.2⟩
 refine⟨by rw[bA];have:=h.n1;omega,by unfold fL;rw[RJ,Sn];omega,hc,h.size,fun r hr=>?_⟩;unfold fL at hr;obtain⟨i,_,rfl⟩:=RI.1 hr;unfold fV;have hf:=uj (gO h) (ws.getD i 0 % aw (ah ns));refine⟨by rw[lQ,nk],fun v c b hcv hbv=>?_⟩;have hc2:=hc c (Ry hcv);obtain⟨q,hq⟩:=get_of_lt (l:=dz (ah ns) (ws.getD i 0 % aw (ah ns))) (i:=v) (by rw[nk];exact get_lt hcv);have hqr:=hf.2 v c q hcv hq;rw[oU hq]at hbv;cases hbv;split<;>omega
theorem BV {g:Int}{ns:List NodeP}(h:NetOk g ns)(h5:ns.length<=5)(h2:∀ x∈ns,2<=x.card)(ws ms:List Int):fA g ns (ah ns) (fL ns ws ms)=0:=by
 unfold fA;rw[RC (DE h),RC (tY (MU h h5 h2 ws ms)),RC rfl]
end Go.Proofs
