/- Own work: contracts. -/
import Derived.Test.YtcccmbeolcjacaaConF
import Derived.Test.YtcccmbeolcjacaaConE
import Derived.Test.YtcccmbeolcjacaaLibC
import Derived.Test.YtcccmbeolcjacaaConD
import Derived.Test.YtcccmbeolcjacaaLibB
import Derived.Test.YtcccmbeolcjacaaConB
import Derived.Test.YtcccmbeolcjacaaConC
set_option linter.all false
set_option maxHeartbeats 8000000
set_option maxRecDepth 100000
namespace Go.Proofs
open Go.Hx Try
def Cq (ns:List TA)(h8:ns.length <= 8)(hc:∀y ∈ ns,1 <= y.J /\ y.J <= 4)(u:TI)(f1:(u.vars.length:Int) < 2 ^ 38)(f2:(u.w.length:Int) < 2 ^ 38)(H:Tz)(K:TF -> Tz -> Prop)(hK:K (.ret (.lit (.bool (iS (TY ns u))))) H):
    af prog G0 55 [.agg u.cells,ag (aA ns)] H K := by
  refine af.nl ⟨_,func55,rfl,rfl⟩ fun hcl => ?_;have hcl':(aA ns).length=ns.length := by simp[aA]
  refine af.sw (n := 44) (rs := [.tmp 4]) func55 ?_;refine W.sq ?_;simp only[go_sem,TI.cells,db];obtain⟨R,hR⟩:∃R,R=ext H [.L 0 85 [.M u.vars.length (ints u.vars),.M u.w.length (ints u.w)]] := ⟨_,rfl⟩
  have oR:TC H R:=hR▸.ext _ _
  have l0:R.Z H.C 0=some (85,[.M u.vars.length (ints u.vars),.M u.w.length (ints u.w)]) := by rw[hR];exact ae (cW ..)
  rw[<- hR];have no:¬TY ns u -> aw prog G0 H K (.lit (.bool false)) R := fun h => aw.bJ aT hcl oR (.lit _) (by rw[fR h]at hK;exact hK);refine W.env fun E hE => ?_;have e1:E 1=ag (aA ns) := by rw[hE];simp only[go_sem,db]
  have e2:E 2 = .Y H.C 0 0 := by rw[hE];simp only[go_sem,db]
  clear hE;obtain⟨b,hb⟩:∃b:Bool,(b=true ↔ ¬(bI u.vars ns.length /\ (u.w.length:Int)=au (bc (aA ns) u.vars))) := by
    classical exact⟨decide _,Rt⟩
  refine W.seq (W.eO (fun s' => s'.H=R /\ s'.ρ 2 = .Y H.C 0 0 /\ s'.ρ 22 = .lit (.bool b)) ?_ ?_)
  · refine W.dr 15 [0,1,0,4,15,31,63,127,255,511,127,127,2175,7295,15487] mixed ?_;simp only[go_sem,e1,e2,l0,hcl',db];refine⟨_,[],cF.pure fun H2 => B2 u.vars ns.length U H2 _ ⟨rfl,rfl⟩,?_⟩;by_cases c1:bI u.vars ns.length
    · have sm := tF h8 c1 hc;have wl := PW (u.w.length:Int) U;simp only[go_sem,e1,e2,c1,l0,db];refine⟨_,[],cF.pure fun H2 => B5 (aA ns) u.vars U U (fun q hq => by have := c1.2 q hq;omega) H2 _ ⟨rfl,rfl⟩,?_⟩;simp only[go_sem,db];refine⟨_,[],cF.pure fun H2 => xe _ sm H2 _ ⟨rfl,rfl⟩,?_⟩;by_cases c2:(u.w.length:Int)=au (bc (aA ns) u.vars)
      · have:b=false :=(by rw[<- Sy,hb];exact fun h => h ⟨c1,c2⟩);simp only[go_sem,c2,db];exact⟨e2,by rw[this]⟩
      · have:b=true := hb.2 fun h => c2 h.2;simp only[go_sem,c2,db];exact⟨e2,by rw[this]⟩
    · have:b=true := hb.2 fun h => c1 h.1;simp only[go_sem,e1,e2,c1,l0,db];rw[this]
  rintro⟨ρ3,H3⟩ ⟨hH,m2,m22⟩;simp only at hH m2 m22;rw[hH];clear hH H3;refine W.vs ?_;cases hbb:b;rotate_left
  · simp only[go_sem,m22,hbb,db];exact no fun h => hb.1 hbb ⟨h.vars,h.size⟩
  have h12:bI u.vars ns.length /\ (u.w.length:Int)=au (bc (aA ns) u.vars) := by
    apply QA;intro h;rw[hb.2 h]at hbb;cases hbb
  simp only[go_sem,m22,hbb,db];refine W.seq ?_;refine W.sq ?_;simp only[go_sem,db];refine W.block ?_;refine W.env fun E1 hE1 => ?_;have g2:E1 2 = .Y H.C 0 0 := by rw[hE1];simp only[go_sem,m2,db]
  have g5:E1 5=aa 0 := by rw[hE1];simp only[go_sem,db]
  clear hE1;refine W.aM 17592177655856 (by rfl) (fun ρ Hx => Hx=R /\ ∃k:Nat,ρ 5=aa k /\ k <= u.w.length /\ ∀x ∈ u.w.take k,-100 <= x /\ x <= 100) (fun ρ H => u.w.length-(iv (ρ 5)).toNat) ?_ ?_
  · simp only[go_sem,g5,db];exact⟨0,rfl,U,Tu⟩
  rintro ρ Hx ⟨rfl,k,h5,hk,hall⟩;refine W.env fun E2 hE2 => ?_;have a2:E2 2 = .Y H.C 0 0 := by rw[hE2];simp only[go_sem,g2,db]
  have a5:E2 5=aa k := by rw[hE2];simp only[go_sem,h5,db]
  clear hE2;refine W.vs ?_;by_cases hbk:(k:Int) < u.w.length;rotate_left
  · simp only[go_sem,a2,a5,l0,hbk,db];refine W.vs ?_;simp only[go_sem,db];rw[PY U]at hall;rw[fG (⟨h12.1,h12.2,hall⟩:TY ns u)]at hK;exact aw.bJ aT hcl oR (.lit _) hK
  obtain⟨x,hx⟩ := az (l := u.w) (i := k) U;have hne := bb hx;have w1 := PW ((k:Int) + 1) U;by_cases c1:x < -100
  · simp only[go_sem,a2,a5,l0,hbk,hx,hne,c1,db];exact no fun h => by have := h.w x (an hx);omega
  by_cases c2:100 < x
  · simp only[go_sem,a2,a5,l0,hbk,hx,hne,c1,c2,db];exact no fun h => by have := h.w x (an hx);omega
  simp only[go_sem,a2,a5,l0,hbk,hx,hne,c1,c2,w1,db];refine⟨⟨k + 1,rfl,U,fun y hy => ?_⟩,by rw[h5];simp only[aa,aK];omega⟩;rw[aO hx]at hy;rcases Qe.1 hy with h |h
  · exact hall y h
  · obtain rfl := List.mem_singleton.1 h;omega
def tR {d:TD}{u:TI}:TY (bq d) u↔TY d.I u:=by
 constructor
 ·rintro⟨a,b,c⟩;rw[fE]at a;rw[xC]at b;exact⟨a,b,c⟩
 ·rintro⟨a,b,c⟩;exact⟨by rw[fE];exact a,by rw[xC];exact b,c⟩
def Pr (d:TD)(cs:List Ty)(hq:TH (fun v=>d.nn.testBit v=true) d.I cs)(hf:TO d)(H:Tz)(K:TF->Tz->Prop)(hK:K (.ret (.lit (.bool (iS (TR d))))) H):af prog G0 13 [bO d cs] H K:=by
 refine af.nl ⟨_,func13,rfl,rfl⟩ fun hcl=>?_;have hl:=hf.I.1;have hul:=hf.Q.1;refine af.sw (n:=73) (rs:=[.tmp 2]) func13 ?_;refine W.sq ?_;simp only[go_sem,fQ,fF];obtain⟨R,hR⟩:∃R,R=ext H [.L 0 39 [.lit (.int .i64 d.X),.M d.I.length cs,.lit (.int .u64 (d.nn:Int)),.M d.Q.length (aL d.Q)]]:=⟨_,rfl⟩
 have oR:TC H R:=hR▸.ext _ _
 have nR:R.C=H.C+1:=hR▸rfl
 have l0:R.Z H.C 0=some (39,[.lit (.int .i64 d.X),.M d.I.length cs,.lit (.int .u64 (d.nn:Int)),.M d.Q.length (aL d.Q)]):=by rw[hR];exact ae (cW ..)
 rw[<- hR];clear hR;have no:¬TR d->∀H',TC R H'->aw prog G0 H K (.lit (.bool false)) H':=fun h H' o=>aw.bJ aT hcl (oR.trans o) (.lit _) (by rw[fR h]at hK;exact hK);refine W.en (fun E=>E 1=.Y H.C 0 0) (by simp only[go_sem]) fun E e1=>?_
 have s1:=fun t x y=>mg (P:=prog) (t:=t) (x:=x) (y:=y) (k':=.i64) (s:=d.I.length) hf.nn;refine W.seq (W.eO (fun s'=>s'.H=R/\s'.ρ 1=.Y H.C 0 0/\∃b:Bool,s'.ρ 30=.lit (.bool b)/\(b=false↔RightA d)) ?_ ?_)
 ·refine W.vs ?_;by_cases c1:(d.I.length:Int)<1
  ·simp only[go_sem,e1,l0,c1];exact⟨_,rfl,by simp;intro h;have:=h.n1;omega⟩
  by_cases c2:(d.I.length:Int) > 8
  ·simp only[go_sem,e1,l0,c1,c2];exact⟨_,rfl,by simp;intro h;have:=h.n1;omega⟩
  by_cases c3:d.nn >>> d.I.length=0;rotate_left
  ·have c3':¬((d.nn >>> d.I.length:Nat):Int)=0:=U;simp only[go_sem,e1,l0,c1,c2,c3',s1];exact⟨_,rfl,by simp;intro h;exact c3 h.nn⟩
  have c3':((d.nn >>> d.I.length:Nat):Int)=0:=U
  by_cases c4:(d.Q.length:Int) > 4
  ·simp only[go_sem,e1,l0,c1,c2,c3',c4,s1];exact⟨_,rfl,by simp;intro h;have:=h.ul;omega⟩
  ·simp only[go_sem,e1,l0,c1,c2,c3',c4,s1];exact⟨_,rfl,by simp;exact⟨U,c3,U⟩⟩
 rintro⟨ρ3,H3⟩ ⟨hH,m1,b,m30,hb⟩;simp only at hH m1 m30;rw[hH];clear hH H3;refine W.vs ?_;cases hbb:b;rotate_left
 ·simp only[go_sem,m30,hbb];exact no (fun h=>by rw[hb.2 (jx.1 h).1]at hbb;cases hbb) _ (.refl _)
 have hA:=hb.1 hbb;have n8:=hA.n1.2;simp only[go_sem,m30,hbb];refine W.en (fun E1=>E1 1=.Y H.C 0 0) (by simp only[go_sem,m1]) fun E1 f1=>?_
 clear m30 hbb hb;refine W.seq ?_;refine W.sq ?_;simp only[go_sem];refine W.block ?_;refine W.env fun E2 hE2=>?_;have g1:E2 1=.Y H.C 0 0:=by rw[hE2];simp only[go_sem,f1]
 have g3:E2 3=aa 0:=by rw[hE2];simp only[go_sem]
 clear hE2;refine W.aM 4503597479886860 (by rfl) (fun ρ Hx=>Hx=R/\∃k:Nat,ρ 3=aa k/\k<=d.I.length/\xD d k) (fun ρ H=>d.I.length-(iv (ρ 3)).toNat) ?_ ?_
 ·simp only[go_sem,g3];exact⟨0,rfl,U,fun v x h=>absurd h (Qf _)⟩
 rintro ρ Hx ⟨rfl,k,h3,hk,hD⟩;refine W.en (fun E2=>E2 1=.Y H.C 0 0 /\ E2 3=aa k) (by simp only[go_sem,g1,h3]) fun E2 ⟨a1,a3⟩=>?_
 refine W.vs ?_;by_cases hbk:(k:Int)<d.I.length
 ·obtain⟨x,hx⟩:=az (l:=d.I) (i:=k) U;have hne:=hq.ne hx;obtain⟨rv,q0,q1,q2,hdis,_⟩:=hq.node k x hx;have rvl:∀H,dK H rv=some (.lit (.int .i64 x.O.length)):=fun H=>by
   rcases hdis with h|h<;>rw[h]
   ·rfl
   ·unfold aS;split
    ·rename_i h;rw[h];rfl
    ·rfl
  have w1:=PW ((k:Int)+1) U;simp only[go_sem,a1,a3,l0,hbk];refine aE.nl (nV d.nn k hf.nn _ _ ⟨trivial,?_⟩);cases hbit:d.nn.testBit k
  ·simp only[go_sem,a3,w1];refine⟨⟨k+1,rfl,U,fun v y hv hy hb=>?_⟩,by rw[h3];simp only[aa,aK];omega⟩;rcases Ql v k with h|h
   ·exact hD v y h hy hb
   ·obtain rfl:v=k:=U;rw[hbit]at hb;cases hb
  ·by_cases hr0:x.O=[]
   ·have hr0':(x.O.length:Int)=0:=(by rw[hr0];rfl);simp only[go_sem,a1,a3,l0,w1,hbk,hne,q2,rvl,hr0'];refine⟨⟨k+1,rfl,U,fun v y hv hy hb=>?_⟩,by rw[h3];simp only[aa,aK];omega⟩;rcases Ql v k with h|h
    ·exact hD v y h hy hb
    ·obtain rfl:v=k:=U;rw[hx]at hy;cases hy;exact hr0
   ·have hr1:(0:Int)<x.O.length:=(by have:=QT.2 hr0;omega);have hr1':0<x.O.length:=QT.2 hr0;simp only[go_sem,a1,a3,l0,hbk,hne,q2,rvl,hr1];exact no (fun h=>hr0 ((jx.1 h).2.1 k x U hx hbit)) _ (.refl _)
 have hke:k=d.I.length:=U
 rw[hke]at hD;simp only[go_sem,a1,a3,l0,hbk];refine W.sq ?_;simp only[go_sem,a1,l0];refine aE.nl (Bz d cs hq hf _ _ ⟨trivial,?_⟩);simp only[go_sem,bR,cz];obtain⟨R2,hR2⟩:∃R2,R2=ext Hx [.L 0 64 [.lit (.int .i64 d.X),.M (bq d).length (aI (bq d))]]:=⟨_,rfl⟩
 have o2:TC Hx R2:=hR2▸.ext _ _
 have n2:R2.C=H.C+2:=by rw[hR2,bh];simp;omega
 have l2:R2.Z (H.C+1) 0=some (64,[.lit (.int .i64 d.X),.M (bq d).length (aI (bq d))]):=by rw[hR2,<- nR];exact ae bX
 have k0:R2.Z H.C 0=_:=(o2.Z U).trans l0;rw[<- hR2];clear hR2;refine W.en (fun E3=>E3 1=.Y H.C 0 0 /\ E3 4=.Y (H.C+1) 0 0) (by simp only[go_sem,a1,nR]) fun E3 ⟨b1,b4⟩=>?_
 refine W.seq (W.seq (oS _ _ _ (by rfl) ?_));simp only[go_sem,b4,l2];refine aE.nl (B9 d.X (bq d) (Cp hf) _ _ ⟨trivial,?_⟩);by_cases hnet:TX d.X (bq d);rotate_left
 ·have hnb:=qu hnet;simp only[go_sem,hnb];refine W.vs ?_;simp only[go_sem];exact no (fun h=>hnet (jx.1 h).2.2.1) _ o2
 have hnb:=qt hnet;simp only[go_sem,hnb];refine W.vs ?_;simp only[go_sem];refine W.en (fun E4=>E4 1=.Y H.C 0 0 /\ E4 4=.Y (H.C+1) 0 0) (by simp only[go_sem,b1,b4]) fun E4 ⟨c1,c4⟩=>?_
 have hc4:∀y∈bq d,1<=y.J/\y.J<=4:=fun y hy=>(hnet.node y hy).1;have h8:(bq d).length<=8:=hnet.n1.2;refine W.seq ?_;refine W.sq ?_;simp only[go_sem];refine W.block ?_;refine W.env fun E5 hE5=>?_;have d1:E5 1=.Y H.C 0 0:=by rw[hE5];simp only[go_sem,c1]
 have d4:E5 4=.Y (H.C+1) 0 0:=by rw[hE5];simp only[go_sem,c4]
 have d5:E5 5=aa 0:=by rw[hE5];simp only[go_sem]
 clear hE5;refine W.aM 9444588850551214571556 (by rfl) (fun ρ Hy=>Hy=R2/\∃j:Nat,ρ 5=aa j/\j<=d.Q.length/\∀u∈d.Q.take j,TY d.I u) (fun ρ H=>d.Q.length-(iv (ρ 5)).toNat) ?_ ?_
 ·simp only[go_sem,d5];exact⟨0,rfl,U,Tu⟩
 rintro ρ2 Hy ⟨rfl,j,h5,hj,hall⟩;refine W.en (fun E6=>E6 1=.Y H.C 0 0 /\ E6 4=.Y (H.C+1) 0 0 /\ E6 5=aa j) (by simp only[go_sem,d1,d4,h5]) fun E6 ⟨q1,q4,q5⟩=>?_
 by_cases hbj:(j:Int)<d.Q.length;rotate_left
 ·refine W.vs ?_;simp only[go_sem,q1,q5,k0,hbj];refine W.vs ?_;simp only[go_sem];rw[PY U]at hall;rw[fG (jx.2 ⟨hA,hD,hnet,hall⟩)]at hK;exact aw.bJ aT hcl (oR.trans o2) (.lit _) hK
 obtain⟨u,hu⟩:=az (l:=d.Q) (i:=j) U;obtain⟨f1',f2'⟩:=hf.Q.2 u (an hu);have hne:=s8 hu;have p0:=wJ hu;have p1:j*2+2<=(aL d.Q).length:=by rw[jU];omega
 have w1:=PW ((j:Int)+1) U;refine W.sq ?_;simp only[go_sem,q1,q5,k0,hbj];refine W.seq (W.block (W.seq ?_));refine W.dr 7 [0,1,0,7,15,0,32] mixed ?_;simp only[go_sem,q1,q4,q5,k0,l2,hbj,hne,p0,p1];refine⟨_,[],cF.pure fun H2=>tG d.X (bq d) U H2 _ ⟨rfl,rfl⟩,?_⟩;simp only[go_sem];refine aE.nl (Cq (bq d) h8 hc4 u f1' f2' _ _ ⟨trivial,?_⟩);by_cases hu1:TY (bq d) u
 ·have hub:=fG hu1;simp only[go_sem,hub];refine W.vs ?_;simp only[go_sem];refine W.vs ?_;simp only[go_sem,q5,w1];refine⟨⟨j+1,rfl,U,fun y hy=>?_⟩,by rw[h5];simp only[aa,aK];omega⟩;rw[aO hu]at hy;rcases Qe.1 hy with h|h
  ·exact hall y h
  ·obtain rfl:=List.mem_singleton.1 h;exact tR.1 hu1
 ·have hub:=fR hu1;simp only[go_sem,hub];refine W.vs ?_;simp only[go_sem];exact no (fun h=>hu1 (tR.2 ((jx.1 h).2.2.2 u (an hu)))) _ o2
end Go.Proofs
namespace Go.Hx
variable {P:Program} {G:Nat->Option (List Ty)}
variable {hid n ob:Nat}{b:TE}{e:TypeId}
def Tz.jn (H:Tz)(hid:Nat):Tz:=⟨fun j=>if j<H.C/\j≠hid then H.get j else none,H.C⟩
variable {H:Tz}
def xa {j:Nat}(h:j<H.C)(h2:j≠hid):(H.jn hid).get j=H.get j:=PZ ⟨h,h2⟩
theorem aw.jn {H2:Tz}(hG:dJ G)(hc:Ue H)(nb:∀j,j<H.C->j≠hid->H2.get j=H.get j){K:TF->Tz->Prop}{v v':Ty}(hv:Fz (fun j=>H.C<=j\/j=hid) H2 H.C v v')(hk:K (.ret v') (H.jn hid)):aw P G H K v H2:=by
 refine⟨v',H.jn hid,.freeze hG (S:=fun j=>H.C<=j\/j=hid) ⟨fun j hj=>?_,fun j b hj hb=>?_,fun j hj hn=>?_⟩ hv,Tx,hk⟩
 ·exact PX fun h=>hj.elim (fun h2=>U) h.2
 ·have h1:j<H.C:=RZ fun h=>hj (.inl h);have h2:j≠hid:=fun h=>hj (.inr h);rw[nb j h1 h2]at hb;have hbb:=hc.below j b hb;refine⟨h1,b,(xa h1 h2).trans hb,?_⟩;cases b with
  |ni=>trivial
  |mp=>rfl
  |L g e cells=>exact⟨rfl,rfl,rfl,fun i h _=>.dead (hbb i h)⟩
  |loop st pend n env ps asg body=>exact⟨rfl,rfl,rfl,rfl,rfl,rfl,rfl,fun t ht=>.dead (hbb t ht)⟩
 ·show (if j<H.C/\j≠hid then H.get j else none)=none;split
  ·rename_i h;rw[<- nb j h.1 h.2];exact hn
  ·rfl
def Tz.gi (H:Tz)(n hid ob:Nat)(b:TE):Tz:=⟨fun id=>if n<=id\/id=hid then none else if id=ob then some b else H.get id,H.C⟩
def Og (h:ob<n)(h2:ob≠hid):(H.gi n hid ob b).get ob=some b:=by simp[Tz.gi,SM.2 h,h2]
def Oh {id:Nat}(h:id<n)(h1:id≠hid)(h2:id≠ob):(H.gi n hid ob b).get id=H.get id:=by simp[Tz.gi,SM.2 h,h1,h2]
theorem cq.gi (hG:dJ G){s:St}{g:Nat}{cells cells':List Ty}(hob:s.H.get ob=some (.L g e cells))(hlt:ob<n)(hl:cells'.length=cells.length)
  (hcell:∀i (h:i<cells.length) (h':i<cells'.length),Fz (fun id=>n<=id\/id=hid) s.H s.H.C cells[i] cells'[i]):cq P G s ⟨s.ρ,s.H.gi n hid ob (.L g e cells')⟩:=by
 intro n' wb Γ a w hs;have hc:=hs.heap.nl;refine cq.freeze (s:=s) (s':=⟨s.ρ,s.H.gi n hid ob (.L g e cells')⟩) (S:=fun id=>n<=id\/id=hid) hG ⟨fun id hs=>?_,fun id b hs hb=>?_,fun id hs hb=>?_⟩ (fun t=>.dead (hs.env t).mU) n' wb Γ a w hs
 ·simp[Tz.gi,hs]
 ·have hbb:=hc.below id b hb;refine⟨hc.lt id b hb,?_⟩;by_cases h:id=ob
  ·subst h;rw[hob]at hb;cases hb;exact⟨.L g e cells',by simp[Tz.gi,hs],rfl,rfl,hl,hcell⟩
  ·refine⟨b,by simp[Tz.gi,hs,h,hb],?_⟩;cases b with
   |ni=>trivial
   |mp=>rfl
   |L g e cells=>exact⟨rfl,rfl,rfl,fun i h _=>.dead (hbb i h)⟩
   |loop st pend n env ps asg body=>exact⟨rfl,rfl,rfl,rfl,rfl,rfl,rfl,fun t ht=>.dead (hbb t ht)⟩
 ·by_cases h:id=ob
  ·subst h;rw[hob]at hb;cases hb
  ·simp[Tz.gi,hs,h,hb]
def Oi {t:TypeId}{i g len:Nat}{x:Ty}{cs:List Ty}{z:List Ty}(ht:P.underlying t=some (.slice e))(hz:P.cellsOf e=1)(hzero:bC P e=some z)(hx:x.one=true)
  (hb:(len+1)*P.bytesOf e<=2 ^ 47/\len+1<=2 ^ 47) (hi:i<H.C) (hg:H.get i=some (.L g e cs)) (hl:len=cs.length):
  bd P (ext H [.L 0 e [x]]) n t t (.V i g 0 len 1) (.V H.C 0 0 1 1)=some (.V i (g+1) 0 (len+1) 1,(ext H [.L 0 e [x]]).upd i (.L (g+1) e (cs++[x]))):=by
 subst hl;have hsrc:bW (ext H [.L 0 e [x]]) 1 (.V H.C 0 0 1 1)=some (1,[x]):=by
  unfold bW;have:=ae (H:=ext H [.L 0 e [x]]) (g:=0) (bX (b:=.L 0 e [x]));simp[this]
 have h4':(ext H [.L 0 e [x]]).get i=some (.L g e cs):=by rw[bK hi];exact hg
 unfold bd;rw[ht];have hl:=ae h4';simp only[hzero,hz,Option.bind_some,hsrc,hl];rw[PZ ⟨trivial,trivial,U,hb.1,hb.2,by simp[hx]⟩];simp
end Go.Hx
namespace Go.Proofs
open Go.Hx Try
variable {a c g n r:Int}{ns:List TA}{cs:List Ty}{A id m:Nat}{x x' xh:TA}{d:TD}{H:Tz}
def BR (d:TD)(A hid hg:Nat)(xh:TA)(hxh:d.I[A]?=some xh)(hrh:xh.O=[])(hbA:d.nn.testBit A=true)(cs:List Ty)(hcs:cs=aJ d.I A (aa xh.J) (ag xh.F) (.V hid hg 0 0 1))(hf:TO d)(H:Tz)(hch:1<=xh.J/\xh.J<=4)(hidl:hid<H.C)(hgh:H.get hid=some (.L hg 59 []))(K:TF->Tz->Prop)(hK:K (.ret (bR d.X (bq d))) (H.jn hid)):af prog G0 54 [bO d cs] H K:=by
 refine af.nl ⟨_,func54,rfl,rfl⟩ fun hcl=>?_;have hl:=hf.I.1;have hAl:=aG hxh;have hneC:¬cs=[]:=by rw[hcs];exact wu hAl _ _ _
 have hlenC:cs.length=d.I.length*3:=by rw[hcs];exact de ..
 have cC:∀(v:Nat) (x:TA),d.I[v]?=some x->∃rv,cs[v*3]?=some (aa x.J)/\cs[v*3+1]?=some (ag x.F)/\cs[v*3+2]?=some rv/\(v≠A->rv=aS x)/\(v=A->rv=.V hid hg 0 0 1):=fun v x hx=>by
  by_cases hv:v=A
  ·subst hv;rw[hxh]at hx;cases hx;exact⟨_,by rw[hcs];exact lM hAl _ _ _,by rw[hcs];exact nE hAl _ _ _,by rw[hcs];exact jO hAl _ _ _,fun h=>absurd rfl h,fun _=>rfl⟩
  ·exact⟨_,by rw[hcs,ji U U U];exact gR hx,by rw[hcs,ji U U U];exact ie hx,by rw[hcs,ji U U U];exact iO hx,fun _=>rfl,fun h=>absurd h hv⟩
 have pC:∀(v:Nat) (x:TA),d.I[v]?=some x->∃rv,(cs.drop (v*3)).take 3=[aa x.J,ag x.F,rv]/\(v≠A->rv=aS x)/\(v=A->rv=.V hid hg 0 0 1):=fun v x hx=>by
  obtain⟨rv,a,b,c,d,f⟩:=cC v x hx;refine⟨rv,?_,d,f⟩;have h3:=aG c;rw[Qw U,Qw U,Qw U];simp only[List.take_succ_cons,List.take_zero];rw[PV U]at a b c;rw[Option.some.inj a,Option.some.inj b,Option.some.inj c]
 clear hcs;refine af.st (n:=106) (rs:=[.cell 2 64]) func54 ?_;simp only[go_sem,fQ,fF];obtain⟨Hb,hHb⟩:∃Hb,Hb=ext H [.L 0 39 [.lit (.int .i64 d.X),.M d.I.length cs,.lit (.int .u64 (d.nn:Int)),.M d.Q.length (aL d.Q)],.L 0 64 [.lit (.int .i64 0),.lit (.slice none 0 0)],.L 0 64 [.lit (.int .i64 d.X),.lit (.slice none 0 0)]]:=⟨_,rfl⟩
 rw[<- hHb];have g0:=dA hHb
 have g1:=gE hHb 1 rfl
 have g2:=gE hHb 2 rfl
 have nb:Hb.C=H.C+3:=hHb▸rfl
 have ob:TC H Hb:=hHb▸.ext _ _
 clear hHb;refine W.aM 40564819207303340847894502557680 (by rfl) (fun ρ Hx=>∃(k:Nat) (nh:Ty) (ks:List Ty),ρ 4=aa k/\k<=d.I.length/\Hb.C<=Hx.C/\(∀id,id<H.C+2->id≠hid->Hx.get id=Hb.get id)/\(k<=A->Hx.get hid=some (.L hg 59 []))/\Hx.get (H.C+2)=some (.L 0 64 [.lit (.int .i64 d.X),nh])/\bE (H.C+3) Hx 83 3 nh k ks/\TH (fun _=>False) ((bq d).take k) ks) (fun ρ H=>d.I.length-(iv (ρ 4)).toNat) ?_ ?_
 ·simp only[go_sem];exact⟨0,_,[],rfl,U,fun _=>(ob.nb hid hidl).trans hgh,g2,.nil,.nil⟩
 rintro ρ Hx ⟨k,nh,ks,h4,hk,hnx,hold,hhol,hbn,hO,hQ⟩;refine W.en (fun E=>E 1=.Y H.C 0 0 /\ E 2=.Y (H.C+1) 0 0 /\ E 3=.Y (H.C+2) 0 0 /\ E 4=aa k) (by simp only[go_sem,h4]) fun E ⟨e1,e2,e3,e4⟩=>?_
 refine W.vs ?_;have l0:=ae ((hold H.C U U).trans g0);by_cases hb:(k:Int)<d.I.length
 ·obtain⟨x,hx⟩:=az (l:=d.I) (i:=k) U;obtain⟨f1,f2,f3⟩:=hf.I.2 x (an hx);have hne:=hneC;obtain⟨rv,c0,hdE,hdA⟩:=pC k x hx;have c1:k*3+3<=cs.length:=by rw[hlenC];omega
  have w1:=PW ((k:Int)+1) U;have rvo:rv.one=true:=by
   by_cases h:k=A
   ·rw[hdA h];rfl
   ·rw[hdE h];unfold aS;split<;>rfl
  have rvc:rv.cells=[rv]:=by
   by_cases h:k=A
   ·rw[hdA h];rfl
   ·rw[hdE h];unfold aS;split<;>rfl
  have w1:=PW ((k:Int)+1) U;have step:∀(Hq:Tz) (rq:Ty) (y:TA),fh d k x=y->y.J=x.J->y.F=x.F->(rq=av y.O\/rq=aS y)->Hx.C<Hq.C->(∀id,id<Hx.C->id≠hid->Hq.get id=Hx.get id)->(k+1<=A->Hq.get hid=some (.L hg 59 [])) ->
    ∃nh2 H3,bd prog (ext Hq [.L 0 83 [.lit (.int .i64 x.J),.M x.F.length (ints x.F),rq]]) (Hq.C+1) 35 35 nh (.V Hq.C 0 0 1 3)=some (nh2,H3)/\nh2.cells=[nh2]/\nh2.one=true/\H3.Z (H.C+2) 0=some (64,[.lit (.int .i64 d.X),nh]) /\
     ∀b,b=.L 0 64 [.lit (.int .i64 d.X),nh2]->Hb.C<=(H3.upd (H.C+2) b).C/\(∀id,id<H.C+2->id≠hid->(H3.upd (H.C+2) b).get id=Hb.get id)/\(k+1<=A->(H3.upd (H.C+2) b).get hid=some (.L hg 59 []))/\(H3.upd (H.C+2) b).get (H.C+2)=some (.L 0 64 [.lit (.int .i64 d.X),nh2])/\bE (H.C+3) (H3.upd (H.C+2) b) 83 3 nh2 (k+1) (ks++[.lit (.int .i64 x.J),.M x.F.length (ints x.F),rq])/\TH (fun _=>False) ((bq d).take (k+1)) (ks++[.lit (.int .i64 x.J),.M x.F.length (ints x.F),rq]):=by
   intro Hq rq y hy y1 y2 hrq hqn hqo hqh;have hOq:bE (H.C+3) Hq 83 3 nh k ks:=hO.na U fun id g _ h _=>hqo id h U;have rqo:rq.one=true:=by rcases hrq with h|h<;>rw[h]<;>first|rfl|(unfold aS;split<;>rfl)
   obtain⟨nh2,H3,hA,hO3,hn3,hp3⟩:=jv (P:=prog) (xs:=[.lit (.int .i64 x.J),.M x.F.length (ints x.F),rq]) Try.underlying35 Try.nJ Try.nL (by simp only[List.all_cons,List.all_nil,rqo];rfl) rfl (by rw[Try.nK];omega) hOq U rfl;have na:∀id,id<H.C+3->id≠hid->H3.get id=Hx.get id:=fun id h h'=>(hp3 id U (hOq.ne h)).trans (hqo id U h');refine⟨nh2,H3,hA,hO3.cells,hO3.one,ae ((na _ U U).trans hbn),fun b hb=>⟨by rw[aq];omega,fun id h h'=>by rw[ab,PX U,na id U h'];exact hold id h h',fun h=>by rw[ab,PX U,hp3 hid U (hOq.ne U)];exact hqh h,by rw[ab,PZ rfl,hb],?_⟩⟩;have e:TH (fun _=>False) ((bq d).take (k+1)) (ks++[.lit (.int .i64 x.J),.M x.F.length (ints x.F),rq]):=by
    rw[aO (l8 hx),hy];have:=hQ.snoc (x:=y) (rv:=rq) hrq fun h=>h.elim;rw[y1,y2]at this;exact this
   refine⟨?_,e⟩;exact hO3.na (by rw[aq];omega) fun id g h1 _ _=>by rw[ab,PX U]
  obtain⟨Hp,hHp⟩:∃Hp,Hp=ext Hx [.L 0 83 [.lit (.int .i64 x.J),.M x.F.length (ints x.F),rv]]:=⟨_,rfl⟩
  have np:Hp.C=Hx.C+1:=hHp▸rfl
  have gP:=dA hHp
  have pold:∀id,id<Hx.C->Hp.get id=Hx.get id:=fun id h=>by rw[hHp];exact bK h
  have m0:=ae ((pold H.C U).trans ((hold H.C U U).trans g0));have m2:=ae ((pold (H.C+2) U).trans hbn);have mP:=ae gP;simp only[go_sem,e1,e4,l0,hb,hne,c0,c1,rvo];rw[<- hHp];simp only[go_sem,m0,e4];refine aE.nl (nV d.nn k hf.nn _ _ ⟨trivial,?_⟩);have lrv:dK Hp rv=some (.lit (.int .i64 x.O.length)):=by
   by_cases h:k=A
   ·obtain rfl:x=xh:=(by rw[h,hxh]at hx;exact(Option.some.inj hx).symm);rw[hdA h,hrh];have hlv:=ae ((pold hid U).trans (hhol U));unfold dK;simp[hlv]
   ·rw[hdE h];unfold aS;split
    ·rename_i h;rw[h];rfl
    ·rfl
  have no : ¬ (d.nn.testBit k=true∧x.O=[]∧1≤x.J∧x.J≤4)→∃ nh2 H3,bd prog (ext Hp [.L 0 83 [.lit (.int .i64 x.J),.M x.F.length (ints x.F),rv]]) (Hp.C+1) 35 35 nh (.V Hp.C 0 0 1 3)=some (nh2,H3)∧nh2.cells=[nh2]∧nh2.one=true∧H3.Z (H.C+2) 0=some (64,[.lit (.int .i64 d.X),nh]) ∧
     ∀b,b=.L 0 64 [.lit (.int .i64 d.X),nh2]->Hb.C<=(H3.upd (H.C+2) b).C/\(∀id,id<H.C+2->id≠hid->(H3.upd (H.C+2) b).get id=Hb.get id)/\(k+1<=A->(H3.upd (H.C+2) b).get hid=some (.L hg 59 []))/\(H3.upd (H.C+2) b).get (H.C+2)=some (.L 0 64 [.lit (.int .i64 d.X),nh2])/\bE (H.C+3) (H3.upd (H.C+2) b) 83 3 nh2 (k+1) (ks++[.lit (.int .i64 x.J),.M x.F.length (ints x.F),rv])/\TH (fun _=>False) ((bq d).take (k+1)) (ks++[.lit (.int .i64 x.J),.M x.F.length (ints x.F),rv]):=fun h =>
   step Hp rv x (PX h) rfl rfl (.inr (hdE fun hk=>h (by
    obtain rfl:x=xh:=(by rw[hk,hxh]at hx;exact(Option.some.inj hx).symm);exact⟨by rw[hk];exact hbA,hrh,hch.1,hch.2⟩))) U (fun id h _=>pold id h) fun h=>(pold hid U).trans (hhol U)
  cases hbit:d.nn.testBit k
  ·obtain⟨nh2,H3,hA,nc,no1,ln,st⟩:=no fun h=>by rw[hbit]at h;cases h.1
   simp only[go_sem,e3,e4,m2,mP,hA,nc,no1,ln,w1];exact⟨(st _ rfl).1,⟨k+1,nh2,_,rfl,U,(st _ rfl).1,(st _ rfl).2.1,(st _ rfl).2.2.1,(st _ rfl).2.2.2.1,(st _ rfl).2.2.2.2.1,(st _ rfl).2.2.2.2.2⟩,by rw[h4];simp only[aa,aK];omega⟩
  by_cases hr0:x.O=[]
  rotate_left
  ·obtain⟨nh2,H3,hA,nc,no1,ln,st⟩:=no fun h=>hr0 h.2.1;have hr0':¬(x.O.length:Int)=0:=fun h=>hr0 (P1 U);simp only[go_sem,e3,e4,m2,mP,lrv,hr0',hA,nc,no1,ln,w1];exact⟨(st _ rfl).1,⟨k+1,nh2,_,rfl,U,(st _ rfl).1,(st _ rfl).2.1,(st _ rfl).2.2.1,(st _ rfl).2.2.2.1,(st _ rfl).2.2.2.2.1,(st _ rfl).2.2.2.2.2⟩,by rw[h4];simp only[aa,aK];omega⟩
  have hr0':(x.O.length:Int)=0:=by rw[hr0];rfl
  by_cases hc1:x.J >= 1;rotate_left
  ·obtain⟨nh2,H3,hA,nc,no1,ln,st⟩:=no fun h=>hc1 h.2.2.1;simp only[go_sem,e3,e4,m2,mP,lrv,hr0',hc1,hA,nc,no1,ln,w1];exact⟨(st _ rfl).1,⟨k+1,nh2,_,rfl,U,(st _ rfl).1,(st _ rfl).2.1,(st _ rfl).2.2.1,(st _ rfl).2.2.2.1,(st _ rfl).2.2.2.2.1,(st _ rfl).2.2.2.2.2⟩,by rw[h4];simp only[aa,aK];omega⟩
  by_cases hc4:x.J<=4;rotate_left
  ·obtain⟨nh2,H3,hA,nc,no1,ln,st⟩:=no fun h=>hc4 h.2.2.2;simp only[go_sem,e3,e4,m2,mP,lrv,hr0',hc1,hc4,hA,nc,no1,ln,w1];exact⟨(st _ rfl).1,⟨k+1,nh2,_,rfl,U,(st _ rfl).1,(st _ rfl).2.1,(st _ rfl).2.2.1,(st _ rfl).2.2.2.1,(st _ rfl).2.2.2.2.1,(st _ rfl).2.2.2.2.2⟩,by rw[h4];simp only[aa,aK];omega⟩
  clear no;simp only[go_sem,mP,lrv,hr0',hc1,hc4];refine W.aM 2417851639158889605235136 (by rfl) (fun ρ2 Hq=>Hq=Hp/\∃j:Nat,ρ2 7=aa j/\j<=x.F.length/\ρ2 6=aa (dE d.I (x.F.take j))) (fun ρ2 H=>x.F.length-(iv (ρ2 7)).toNat) ?_ ?_
  ·simp only[go_sem];exact⟨0,rfl,U,rfl⟩
  rintro ρ2 Hq ⟨hHq,j,h7,hj,h6⟩;subst hHq;refine W.en (fun E2=>E2 1=.Y H.C 0 0 /\ E2 2=.Y (H.C+1) 0 0 /\ E2 3=.Y (H.C+2) 0 0 /\ E2 4=aa k /\ E2 5=.Y Hx.C 0 0 /\ E2 6=aa (dE d.I (x.F.take j)) /\ E2 7=aa j) (by simp only[go_sem,e1,e2,e3,e4,h6,h7]) fun E2 ⟨f1,f2,f3,f4,f5,f6,f7⟩=>?_
  refine W.vs ?_;by_cases hb2:(j:Int)<x.F.length
  ·obtain⟨q,hq⟩:=az (l:=x.F) (i:=j) U;have hqne:=bb hq;have hs:=wW d.I (x.F.take j) q;rw[<- aO hq]at hs;have hrr:=pZ d.I (x.F.take j);have w2:=PW ((j:Int)+1) U;unfold jm at hs;by_cases q0:q >= 0;rotate_left
   ·rw[PX (fun h=>q0 h.1)]at hs;simp only[go_sem,f5,f6,f7,mP,hb2,hq,hqne,q0,w2];exact⟨⟨j+1,rfl,U,by rw[hs]⟩,by rw[h7];simp only[aa,aK];omega⟩
   by_cases q1:q<d.I.length;rotate_left
   ·rw[PX (fun h=>q1 h.2.1)]at hs;simp only[go_sem,f1,f5,f6,f7,mP,m0,hb2,hq,hqne,q0,q1,w2];exact⟨⟨j+1,rfl,U,by rw[hs]⟩,by rw[h7];simp only[aa,aK];omega⟩
   by_cases q2:dE d.I (x.F.take j)<=1024;rotate_left
   ·rw[PX (fun h=>q2 h.2.2)]at hs;simp only[go_sem,f1,f5,f6,f7,mP,m0,hb2,hq,hqne,q0,q1,q2,w2];exact⟨⟨j+1,rfl,U,by rw[hs]⟩,by rw[h7];simp only[aa,aK];omega⟩
   rw[PZ ⟨q0,q1,q2⟩]at hs;obtain⟨u,rfl⟩:=Qb q0;obtain⟨z,hz⟩:=az (l:=d.I) (i:=u) U;obtain⟨_,z0,_⟩:=cC u z hz;have zne:=hneC;rw[Int.toNat_natCast,cB (dk hz)]at hs;have hm4:1<=max 1 (min z.J 4)/\max 1 (min z.J 4)<=4:=U;have hmm:(if (if 4<z.J then 4 else z.J) > 1 then if 4<z.J then 4 else z.J else 1)=max 1 (min z.J 4):=(by split<;>split<;>omega);generalize max 1 (min z.J 4)=m at hs hm4 hmm;have hp1:dE d.I (x.F.take j)*m<=1024*4:=QI q2 hm4.2 U U;have hp0:0<=dE d.I (x.F.take j)*m:=Ry U U;have w3:=PW (dE d.I (x.F.take j)*m) U;simp only[go_sem,f1,f5,f6,f7,mP,m0,hb2,hq,hqne,q0,q1,q2,w2,zne,z0,hmm,w3];exact⟨⟨j+1,rfl,U,by rw[hs]⟩,by rw[h7];simp only[aa,aK];omega⟩
  ·have hje:j=x.F.length:=U;rw[hje,PY Tx]at f6;have hRr:=pZ d.I x.F;obtain⟨R,hR⟩:=Qb (show 0<=dE d.I x.F by omega);rw[hR]at f6;obtain⟨cn,hcn⟩:=Qb (show 0<=x.J by omega);have hcn0:(0:Int)<cn:=U;have hcn1:1<=cn:=U;have hcn2:(cn:Int) >= 0:=U;have ury:fh d k x={ x with O:=List.replicate R (aQ d.X x.J 0) }:=by
    unfold fh;rw[PZ ⟨hbit,hr0,hc1,hc4⟩,hR,Int.toNat_natCast]
   simp only[go_sem,f4,f5,f7,mP,hb2];have hun:(Ty.lit (.int .i64 d.X) :: List.drop 1 (List.replicate cn (.lit (.int .i64 0))))=ints (aQ d.X x.J 0):=by
    unfold aQ;rw[hcn,Int.toNat_natCast];obtain⟨m,rfl⟩:∃m,cn=m+1:=⟨cn-1,U⟩
    simp[QM,ints,aa]
   have hul:(aQ d.X x.J 0).length=cn:=(by rw[qo,hcn];rfl);have hidx:hid<Hx.C:=U;obtain⟨hx',Q,hxd,Q0,Qapp,Qupd,Qfz,Qone⟩:∃(hx':Nat) (Q:Nat->Tz->Ty->Prop),(k=A/\hx'=hid\/Hx.C<hx')/\Q 0 Hq rv /\
     (∀i Hy rq,Q i Hy rq->i<4096->Hq.C<=Hy.C->∃rq' Hj,bd prog (ext (ext Hy [.L 0 3 (ints (aQ d.X x.J 0))]) [.L 0 59 [.V Hy.C 0 0 cn 1]]) (Hy.C+2) 48 48 rq (.V (Hy.C+1) 0 0 1 1)=some (rq',Hj)/\Q (i+1) Hj rq'/\Hy.C<=Hj.C/\∀id,id<Hq.C->id≠hx'->Hj.get id=Hy.get id) /\
     (∀i Hy rq bl,Q i Hy rq->Q i (Hy.upd Hx.C bl) rq) /\
     (∀i Hy rq,Q i Hy rq->Fz (fun id=>Hq.C<=id\/id=hx') Hy Hy.C rq (av (List.replicate i (aQ d.X x.J 0))))/\(∀i Hy rq,Q i Hy rq->rq.one=true/\rq.cells=[rq]):=by
    by_cases hkA:k=A
    ·refine⟨hid,fun i H v=>∃(ids:List Nat) (g':Nat),v=.V hid g' 0 i 1/\hid<H.C/\H.get hid=some (.L g' 59 (ids.map fun j=>.V j 0 0 cn 1))/\ids.length=i/\∀j∈ids,Hq.C<=j/\j<H.C/\H.get j=some (.L 0 3 (ints (aQ d.X x.J 0))),.inl ⟨hkA,rfl⟩,⟨[],hg,hdA hkA,U,(pold hid hidx).trans (hhol U),rfl,fun j h=>by cases h⟩,?_,?_,?_,?_⟩
     ·rintro i Hy rq ⟨ids,g',rfl,q1,q2,q3,q4⟩ hi hny;have hA:=Oi (P:=prog) (H:=ext Hy [.L 0 3 (ints (aQ d.X x.J 0))]) (t:=48) (n:=Hy.C+2) (i:=hid) (g:=g') (len:=i) (x:=.V Hy.C 0 0 cn 1) (cs:=ids.map fun j=>.V j 0 0 cn 1) Try.underlying48 Try.jQ Try.jS rfl (by rw[Try.jR];omega) (by rw[bh];simp;omega) ((bK q1).trans q2) (by rw[P8,q3]);refine⟨_,_,hA,⟨ids++[Hy.C],g'+1,rfl,by rw[aq,bh,bh];simp;omega,by rw[ab,PZ rfl,Q2];rfl,by simp[q3],fun j hj=>?_⟩,by rw[aq,bh,bh];simp;omega,fun id h h'=>?_⟩
      ·have e1:(ext Hy [TE.L 0 3 (ints (aQ d.X x.J 0))]).C=Hy.C+1:=rfl;rcases Qe.1 hj with h|h
       ·obtain⟨a1,a2,a3⟩:=q4 j h;exact⟨a1,by rw[aq,bh,bh];simp;omega,by rw[ab,PX U,bK U,bK a2];exact a3⟩
       ·obtain rfl:=List.mem_singleton.1 h;exact⟨hny,by rw[aq,bh,bh];simp;omega,by rw[ab,PX U,bK U];exact bX⟩
      ·have e1:(ext Hy [TE.L 0 3 (ints (aQ d.X x.J 0))]).C=Hy.C+1:=rfl;rw[ab,PX h',bK U,bK U]
     ·rintro i Hy rq bl ⟨ids,g',rfl,q1,q2,q3,q4⟩;exact⟨ids,g',rfl,by rw[aq];exact q1,by rw[ab,PX U];exact q2,q3,fun j hj=>⟨(q4 j hj).1,by rw[aq];exact(q4 j hj).2.1,by rw[ab,PX (by have:=(q4 j hj).1;omega)];exact(q4 j hj).2.2⟩⟩
     ·rintro i Hy rq ⟨ids,g',rfl,q1,q2,q3,q4⟩;unfold av;rw[Qi];refine .np (.inr rfl) q2 Tu fun j hj h2 h'=>?_;simp only[Nat.zero_add,P4,List.getElem_replicate]at h2 ⊢;rw[P8]at h2;obtain⟨a1,a2,a3⟩:=q4 _ (Qn h2);have:=Fz.ints (S:=fun id=>Hq.C<=id\/id=hid) (nx:=Hy.C) (o:=0) (x:=(aQ d.X x.J 0)) (n:=cn) (.inl a1) a3 hul.symm fun i hi=>by rw[Nat.zero_add,gF,PV hi];rfl
      exact this
     ·rintro i Hy rq ⟨ids,g',rfl,_⟩;exact⟨rfl,rfl⟩
    ·refine⟨Hx.C+1,fun i H v=>dL Hq.C H 59 3 v (List.replicate i (ints (aQ d.X x.J 0))),.inr U,?_,?_,?_,?_,?_⟩
     ·rw[hdE hkA];unfold aS;rw[PZ hr0];show dL Hq.C Hq 59 3 (.lit (.slice none 0 0)) (List.replicate 0 (ints (aQ d.X x.J 0)));exact dL.nil
     ·intro i Hy rq hO' hi hny;have hwn:(ext Hy [TE.L 0 3 (ints (aQ d.X x.J 0))]).C=Hy.C+1:=rfl;obtain⟨rq',Hj,hA,hO2,hnj,hpj⟩:=dL.app (P:=prog) (H:=ext Hy [.L 0 3 (ints (aQ d.X x.J 0))]) (n:=Hy.C+2) (t:=48) (x:=.V Hy.C 0 0 cn 1) (r:=ints (aQ d.X x.J 0)) Try.underlying48 Try.jQ Try.jS Try.jR Tv (by rw[Qi];omega) (hO'.over (.ext _ _)) U (.inr ⟨Hy.C,0,U,U,by rw[aR,hul],bX⟩) U;exact⟨rq',Hj,hA,(show dL Hq.C Hj 59 3 rq' (List.replicate (i+1) (ints (aQ d.X x.J 0))) from by rw[RX];exact hO2),U,fun id h _=>(hpj id U h).trans (bK U)⟩
     ·intro i Hy rq bl hO';exact hO'.upd (U)
     ·intro i Hy rq hO';have hv:=hO'.fz (S:=fun id=>Hq.C<=id\/id=Hx.C+1) (nx:=Hy.C) (rows':=List.replicate i (ints (aQ d.X x.J 0))) (fun _ h=>.inl h) rfl fun j r r' h1 h2=>by
       rw[h1]at h2;cases h2;refine⟨rfl,fun i hi _=>?_⟩;have hr:=Qv (an h1);subst hr;have e0:(ints (aQ d.X x.J 0))[i]?=some (ints (aQ d.X x.J 0))[i]:=PV hi;generalize (ints (aQ d.X x.J 0))[i]=a at e0 ⊢;rw[gF]at e0;obtain⟨b,_,rfl⟩:=PU.1 e0;exact .lit _
      rw[Qi,RK]at hv;have hvv:(Ty.M i (List.replicate i (.M (ints (aQ d.X x.J 0)).length (ints (aQ d.X x.J 0)))))=av (List.replicate i (aQ d.X x.J 0)):=by
       unfold av ag;rw[Qi,RK,aR]
      rw[hvv]at hv;exact hv
     ·intro i Hy rq ⟨cs',hcs',_⟩;exact⟨hcs'.one,hcs'.cells⟩
   refine W.kj (Q':=fun e s2=>e=.exit 4/\∃rq,s2.ρ 1=.Y H.C 0 0/\s2.ρ 2=.Y (H.C+1) 0 0/\s2.ρ 3=.Y (H.C+2) 0 0/\s2.ρ 4=aa k/\s2.ρ 5=.Y Hx.C 0 0/\Hq.C<=s2.H.C/\(∀id,id<Hx.C->id≠hx'->s2.H.get id=Hx.get id)/\s2.H.get Hx.C=some (.L 0 83 [.lit (.int .i64 x.J),.M x.F.length (ints x.F),rq])/\Q R s2.H rq) ?_ ?_;rotate_left
   ·rintro e s2 ⟨rfl,rq,a1,a2,a3,a4,a5,hn2,ho2,hP2,hO2⟩;have hv:=Qfz _ _ _ hO2;refine⟨⟨s2.ρ,s2.H.gi Hq.C hx' Hx.C (.L 0 83 [.lit (.int .i64 x.J),.M x.F.length (ints x.F),av (List.replicate R (aQ d.X x.J 0))])⟩,cq.gi aT hP2 U rfl (fun i hi _=>?_),Tx,trivial,?_⟩
    ·match i,hi with
     |0,_=>exact .lit _
     |1,_=>exact .cK _
     |2,_=>exact hv
    obtain⟨He,hHe⟩:∃He,He=s2.H.gi Hq.C hx' Hx.C (.L 0 83 [.lit (.int .i64 x.J),.M x.F.length (ints x.F),av (List.replicate R (aQ d.X x.J 0))]):=⟨_,rfl⟩
    rw[<- hHe];have gPe:He.get Hx.C=some (.L 0 83 [.lit (.int .i64 x.J),.M x.F.length (ints x.F),av (List.replicate R (aQ d.X x.J 0))]):=(by rw[hHe];exact Og U U);have hoe:∀id,id<Hx.C->id≠hx'->He.get id=Hx.get id:=fun id h h'=>by rw[hHe,Oh U h' U];exact ho2 id h h'
    have hne':He.C=s2.H.C:=(by rw[hHe];rfl);clear hHe hv hP2 hO2;have lPe:=ae gPe;have l2e:=ae ((hoe (H.C+2) U U).trans hbn);obtain⟨nh2,H3,hA,nc,no1,ln,st⟩:=step He (av (List.replicate R (aQ d.X x.J 0))) _ ury rfl rfl (.inl rfl) U (fun id h h'=>hoe id h U) fun h=>(hoe hid U U).trans (hhol U);simp only[go_sem,a2,a3,a4,a5,lPe,l2e,hA,nc,no1,ln,w1];exact⟨(st _ rfl).1,⟨k+1,nh2,_,rfl,U,(st _ rfl).1,(st _ rfl).2.1,(st _ rfl).2.2.1,(st _ rfl).2.2.2.1,(st _ rfl).2.2.2.2.1,(st _ rfl).2.2.2.2.2⟩,by rw[h4];simp only[aa,aK];omega⟩
   refine W.aM 633822882262475471490002191872 (by rfl) (fun ρ3 Hy=>∃(i:Nat) (rq:Ty),ρ3 9=aa i/\i<=R/\Hq.C<=Hy.C/\(∀id,id<Hx.C->id≠hx'->Hy.get id=Hx.get id)/\Hy.get Hx.C=some (.L 0 83 [.lit (.int .i64 x.J),.M x.F.length (ints x.F),rq])/\Q i Hy rq) (fun ρ3 H=>R-(iv (ρ3 9)).toNat) ?_ ?_
   ·simp only[go_sem];exact⟨0,_,rfl,U,fun id h _=>pold id h,gP,Q0⟩
   rintro ρ3 Hy ⟨i,rq,h9,hi,hny,hyo,hyP,hOy⟩;refine W.env fun E3 hE3=>?_;have a1:E3 1=.Y H.C 0 0:=(by rw[hE3];simp only[go_sem,f1]);have a2:E3 2=.Y (H.C+1) 0 0:=(by rw[hE3];simp only[go_sem,f2]);have a3:E3 3=.Y (H.C+2) 0 0:=(by rw[hE3];simp only[go_sem,f3]);have a4:E3 4=aa k:=(by rw[hE3];simp only[go_sem,f4]);have a5:E3 5=.Y Hx.C 0 0:=(by rw[hE3];simp only[go_sem,f5]);have a6:E3 6=aa R:=(by rw[hE3];simp only[go_sem,f6]);have a9:E3 9=aa i:=(by rw[hE3];simp only[go_sem,h9]);clear hE3;refine W.vs ?_;by_cases hb3:(i:Int)<R
   ·have w3:=PW ((i:Int)+1) U;have yP:=ae hyP;have y0:=ae ((hyo H.C U U).trans ((hold H.C U U).trans g0));rw[hcn]at yP;have y0e:∀L,(ext Hy L).Z H.C 0=_:=fun L=>(dB U).trans y0;have yPe:∀L,(ext Hy L).Z Hx.C 0=_:=fun L=>(dB U).trans yP;obtain⟨Hw,hHw⟩:∃Hw,Hw=ext Hy [.L 0 3 (ints (aQ d.X x.J 0))]:=⟨_,rfl⟩
    have hwn:Hw.C=Hy.C+1:=(by rw[hHw];rfl);have hwo:TC Hy Hw:=(by rw[hHw];exact .ext _ _);have hwg:Hw.get Hy.C=some (.L 0 3 (ints (aQ d.X x.J 0))):=(by rw[hHw];exact bX);have wP:Hw.Z Hx.C 0=_:=(hwo.Z U).trans yP;obtain⟨rq',Hj,hA,hO',hnj,hpj⟩:=Qapp i Hy rq hOy U hny;have na:∀id,id<Hq.C->id≠hx'->Hj.get id=Hy.get id:=hpj;have jP:Hj.Z Hx.C 0=_:=ae ((na _ U U).trans hyP);obtain⟨ro,rc⟩:=Qone _ _ _ hO';rw[jL]at hA;simp only[List.cons_append,List.nil_append,Rv,Nat.reduceAdd]at hA;simp only[go_sem,a1,a5,a6,a9,hb3,yP,y0e,yPe,hcn0,hcn2,hun,hA,jP,rc,ro,w3];refine⟨U,by simp;omega,by rw[aq];omega,⟨i+1,rq',rfl,U,by rw[aq];omega,fun id h h'=>by rw[ab,PX U,na id U h'];exact hyo id h h',by rw[ab,PZ rfl],Qupd _ _ _ _ hO'⟩,by rw[h9];simp only[aa,aK];omega⟩
   ·simp only[go_sem,a1,a2,a3,a4,a5,a6,a9,hb3];have:i=R:=U;subst this;exact⟨rq,hny,hyo,hyP,hOy⟩
 ·have hke:k=d.I.length:=U
  have l2:=ae hbn;have l1:=ae ((hold (H.C+1) U U).trans g1);have nc:=hO.cells;have no:=hO.one;simp only[go_sem,e1,e2,e3,e4,l0,l1,l2,hb,no];rw[hke]at hO hQ;rw[PY (by rw[fE];exact Nat.le_refl _)]at hQ;refine aw.jn (v':=bR d.X (bq d)) aT hcl (hid:=hid) (fun j h h'=>by rw[ab,PX U,hold j U h'];exact ob.nb j h) (.agg rfl fun i hi _=>?_) hK
  match i,hi with
  |0,_=>exact .lit _
  |1,_ =>
   show Fz _ _ _ nh (cz (bq d));unfold cz;rw[fE];rcases hO with ⟨h,hz,hc⟩|⟨id,gg,k1,k2,h,k4,k5⟩
   ·have:bq d=[]:=P1 (by rw[fE];exact hz);rw[h,hz,this];exact .nil
   ·rw[h];refine .np (.inl U) (by rw[ab,PX U];exact k5) (by rw[gM,fE]) fun j hj h2 h'=>?_;have e0:(0:Nat)+j=j:=Nat.zero_add j;have h3:j<ks.length:=U;have:=fun Hq=>hQ.tj (S:=fun id=>H.C<=id\/id=hid) (H:=Hq) (nx:=H.C) j h3 h';simpa only[e0] using this _
def Ps (d:TD)(A hid hg:Nat)(xh:TA)(hxh:d.I[A]?=some xh)(hrh:xh.O=[])(hbA:d.nn.testBit A=true)(cs:List Ty)(hcs:cs=aJ d.I A (aa xh.J) (ag xh.F) (.V hid hg 0 0 1))(hf:TO d)(H:Tz)(hch:1<=xh.J/\xh.J<=4)(hidl:hid<H.C)(hgh:H.get hid=some (.L hg 59 []))(K:TF->Tz->Prop)(hK:∀H',K (.ret (.lit (.bool (iS (TR d))))) H'):af prog G0 13 [bO d cs] H K:=by
 refine af.nl ⟨_,func13,rfl,rfl⟩ fun hcl=>?_;have hl:=hf.I.1;have hul:=hf.Q.1;refine af.sw (n:=73) (rs:=[.tmp 2]) func13 ?_;refine W.sq ?_;simp only[go_sem,fQ,fF];obtain⟨R,hR⟩:∃R,R=ext H [.L 0 39 [.lit (.int .i64 d.X),.M d.I.length cs,.lit (.int .u64 (d.nn:Int)),.M d.Q.length (aL d.Q)]]:=⟨_,rfl⟩
 have oR:TC H R:=hR▸.ext _ _
 have nR:R.C=H.C+1:=hR▸rfl
 have g00:=dA hR
 have l0:R.Z H.C 0=some (39,[.lit (.int .i64 d.X),.M d.I.length cs,.lit (.int .u64 (d.nn:Int)),.M d.Q.length (aL d.Q)]):=by rw[hR];exact ae (cW ..)
 have hidR:R.get hid=some (.L hg 59 []):=(oR.nb hid hidl).trans hgh;rw[<- hR];clear hR;have no:¬TR d->∀H',R.C<=H'.C->aw prog G0 H K (.lit (.bool false)) H':=fun h H' o=>aw.mk U (by have:=hK H';rw[fR h]at this;exact this);refine W.en (fun E=>E 1=.Y H.C 0 0) (by simp only[go_sem]) fun E e1=>?_
 have s1:=fun t x y=>mg (P:=prog) (t:=t) (x:=x) (y:=y) (k':=.i64) (s:=d.I.length) hf.nn;refine W.seq (W.eO (fun s'=>s'.H=R/\s'.ρ 1=.Y H.C 0 0/\∃b:Bool,s'.ρ 30=.lit (.bool b)/\(b=false↔RightA d)) ?_ ?_)
 ·refine W.vs ?_;by_cases c1:(d.I.length:Int)<1
  ·simp only[go_sem,e1,l0,c1];exact⟨_,rfl,by simp;intro h;have:=h.n1;omega⟩
  by_cases c2:(d.I.length:Int) > 8
  ·simp only[go_sem,e1,l0,c1,c2];exact⟨_,rfl,by simp;intro h;have:=h.n1;omega⟩
  by_cases c3:d.nn >>> d.I.length=0;rotate_left
  ·have c3':¬((d.nn >>> d.I.length:Nat):Int)=0:=U;simp only[go_sem,e1,l0,c1,c2,c3',s1];exact⟨_,rfl,by simp;intro h;exact c3 h.nn⟩
  have c3':((d.nn >>> d.I.length:Nat):Int)=0:=U
  by_cases c4:(d.Q.length:Int) > 4
  ·simp only[go_sem,e1,l0,c1,c2,c3',c4,s1];exact⟨_,rfl,by simp;intro h;have:=h.ul;omega⟩
  ·simp only[go_sem,e1,l0,c1,c2,c3',c4,s1];exact⟨_,rfl,by simp;exact⟨U,c3,U⟩⟩
 rintro⟨ρ3,H3⟩ ⟨hH,m1,b,m30,hb⟩;simp only at hH m1 m30;rw[hH];clear hH H3;refine W.vs ?_;cases hbb:b;rotate_left
 ·simp only[go_sem,m30,hbb];exact no (fun h=>by rw[hb.2 (jx.1 h).1]at hbb;cases hbb) _ (Nat.le_refl _)
 have hA:=hb.1 hbb;have n8:=hA.n1.2;simp only[go_sem,m30,hbb];refine W.en (fun E1=>E1 1=.Y H.C 0 0) (by simp only[go_sem,m1]) fun E1 f1=>?_
 clear m30 hbb hb;refine W.seq ?_;refine W.sq ?_;simp only[go_sem];refine W.block ?_;refine W.env fun E2 hE2=>?_;have g1:E2 1=.Y H.C 0 0:=by rw[hE2];simp only[go_sem,f1]
 have g3:E2 3=aa 0:=by rw[hE2];simp only[go_sem]
 clear hE2;refine W.aM 4503597479886860 (by rfl) (fun ρ Hx=>Hx=R/\∃k:Nat,ρ 3=aa k/\k<=d.I.length/\xD d k) (fun ρ H=>d.I.length-(iv (ρ 3)).toNat) ?_ ?_
 ·simp only[go_sem,g3];exact⟨0,rfl,U,fun v x h=>absurd h (Qf _)⟩
 rintro ρ Hx ⟨rfl,k,h3,hk,hD⟩;refine W.en (fun E2=>E2 1=.Y H.C 0 0 /\ E2 3=aa k) (by simp only[go_sem,g1,h3]) fun E2 ⟨a1,a3⟩=>?_
 refine W.vs ?_;by_cases hbk:(k:Int)<d.I.length
 ·obtain⟨x,hx⟩:=az (l:=d.I) (i:=k) U;have hne:¬cs=[]:=by rw[hcs];exact wu (aG hxh) _ _ _
  obtain⟨rv,q2,rvl⟩:∃rv,cs[k*3+2]?=some rv/\dK Hx rv=some (.lit (.int .i64 x.O.length)):=by
   by_cases hv:k=A
   ·obtain rfl:x=xh:=(by rw[hv,hxh]at hx;exact(Option.some.inj hx).symm);refine⟨_,by rw[hcs,hv];exact jO (aG hxh) _ _ _,?_⟩;have hlv:=ae hidR;rw[hrh];unfold dK;simp[hlv]
   ·refine⟨_,by rw[hcs,ji U U U];exact iO hx,?_⟩;unfold aS;split
    ·rename_i h;rw[h];rfl
    ·rfl
  have w1:=PW ((k:Int)+1) U;simp only[go_sem,a1,a3,l0,hbk];refine aE.nl (nV d.nn k hf.nn _ _ ⟨trivial,?_⟩);cases hbit:d.nn.testBit k
  ·simp only[go_sem,a3,w1];refine⟨⟨k+1,rfl,U,fun v y hv hy hb=>?_⟩,by rw[h3];simp only[aa,aK];omega⟩;rcases Ql v k with h|h
   ·exact hD v y h hy hb
   ·obtain rfl:v=k:=U;rw[hbit]at hb;cases hb
  ·by_cases hr0:x.O=[]
   ·have hr0':(x.O.length:Int)=0:=(by rw[hr0];rfl);simp only[go_sem,a1,a3,l0,w1,hbk,hne,q2,rvl,hr0'];refine⟨⟨k+1,rfl,U,fun v y hv hy hb=>?_⟩,by rw[h3];simp only[aa,aK];omega⟩;rcases Ql v k with h|h
    ·exact hD v y h hy hb
    ·obtain rfl:v=k:=U;rw[hx]at hy;cases hy;exact hr0
   ·have hr1:(0:Int)<x.O.length:=(by have:=QT.2 hr0;omega);have hr1':0<x.O.length:=QT.2 hr0;simp only[go_sem,a1,a3,l0,hbk,hne,q2,rvl,hr1];exact no (fun h=>hr0 ((jx.1 h).2.1 k x U hx hbit)) _ (Nat.le_refl _)
 have hke:k=d.I.length:=U
 rw[hke]at hD;simp only[go_sem,a1,a3,l0,hbk];refine W.sq ?_;simp only[go_sem,a1,l0];refine aE.nl (BR d A hid hg xh hxh hrh hbA cs hcs hf Hx hch U hidR _ ⟨trivial,?_⟩);simp only[go_sem,bR,cz];obtain⟨R2,hR2⟩:∃R2,R2=ext (Hx.jn hid) [.L 0 64 [.lit (.int .i64 d.X),.M (bq d).length (aI (bq d))]]:=⟨_,rfl⟩
 have dn:(Hx.jn hid).C=Hx.C:=rfl;have n2:R2.C=H.C+2:=by rw[hR2,bh,dn];simp;omega
 have l2:R2.Z (H.C+1) 0=some (64,[.lit (.int .i64 d.X),.M (bq d).length (aI (bq d))]):=by rw[hR2,<- nR,<- dn];exact ae bX
 have k0:R2.Z H.C 0=some (39,[.lit (.int .i64 d.X),.M d.I.length cs,.lit (.int .u64 (d.nn:Int)),.M d.Q.length (aL d.Q)]):=by rw[hR2,dB (by rw[dn];omega)];exact ae ((xa U U).trans g00)
 rw[<- hR2];clear hR2;refine W.en (fun E3=>E3 1=.Y H.C 0 0 /\ E3 4=.Y (H.C+1) 0 0) (by simp only[go_sem,a1,nR,dn]) fun E3 ⟨b1,b4⟩=>?_
 refine W.seq (W.seq (oS _ _ _ (by rfl) ?_));simp only[go_sem,b4,l2];refine aE.nl (B9 d.X (bq d) (Cp hf) _ _ ⟨trivial,?_⟩);by_cases hnet:TX d.X (bq d);rotate_left
 ·have hnb:=qu hnet;simp only[go_sem,hnb];refine W.vs ?_;simp only[go_sem];exact no (fun h=>hnet (jx.1 h).2.2.1) _ (U)
 have hnb:=qt hnet;simp only[go_sem,hnb];refine W.vs ?_;simp only[go_sem];refine W.en (fun E4=>E4 1=.Y H.C 0 0 /\ E4 4=.Y (H.C+1) 0 0) (by simp only[go_sem,b1,b4]) fun E4 ⟨c1,c4⟩=>?_
 have hc4:∀y∈bq d,1<=y.J/\y.J<=4:=fun y hy=>(hnet.node y hy).1;have h8:(bq d).length<=8:=hnet.n1.2;refine W.seq ?_;refine W.sq ?_;simp only[go_sem];refine W.block ?_;refine W.env fun E5 hE5=>?_;have d1:E5 1=.Y H.C 0 0:=by rw[hE5];simp only[go_sem,c1]
 have d4:E5 4=.Y (H.C+1) 0 0:=by rw[hE5];simp only[go_sem,c4]
 have d5:E5 5=aa 0:=by rw[hE5];simp only[go_sem]
 clear hE5;refine W.aM 9444588850551214571556 (by rfl) (fun ρ Hy=>Hy=R2/\∃j:Nat,ρ 5=aa j/\j<=d.Q.length/\∀u∈d.Q.take j,TY d.I u) (fun ρ H=>d.Q.length-(iv (ρ 5)).toNat) ?_ ?_
 ·simp only[go_sem,d5];exact⟨0,rfl,U,Tu⟩
 rintro ρ2 Hy ⟨rfl,j,h5,hj,hall⟩;refine W.en (fun E6=>E6 1=.Y H.C 0 0 /\ E6 4=.Y (H.C+1) 0 0 /\ E6 5=aa j) (by simp only[go_sem,d1,d4,h5]) fun E6 ⟨q1,q4,q5⟩=>?_
 by_cases hbj:(j:Int)<d.Q.length;rotate_left
 ·refine W.vs ?_;simp only[go_sem,q1,q5,k0,hbj];refine W.vs ?_;simp only[go_sem];rw[PY U]at hall;exact aw.mk U (by have:=hK Hy;rw[fG (jx.2 ⟨hA,hD,hnet,hall⟩)]at this;exact this)
 obtain⟨u,hu⟩:=az (l:=d.Q) (i:=j) U;obtain⟨f1',f2'⟩:=hf.Q.2 u (an hu);have hne:=s8 hu;have p0:=wJ hu;have p1:j*2+2<=(aL d.Q).length:=by rw[jU];omega
 have w1:=PW ((j:Int)+1) U;refine W.sq ?_;simp only[go_sem,q1,q5,k0,hbj];refine W.seq (W.block (W.seq ?_));refine W.dr 7 [0,1,0,7,15,0,32] mixed ?_;simp only[go_sem,q1,q4,q5,k0,l2,hbj,hne,p0,p1];refine⟨_,[],cF.pure fun H2=>tG d.X (bq d) U H2 _ ⟨rfl,rfl⟩,?_⟩;simp only[go_sem];refine aE.nl (Cq (bq d) h8 hc4 u f1' f2' _ _ ⟨trivial,?_⟩);by_cases hu1:TY (bq d) u
 ·have hub:=fG hu1;simp only[go_sem,hub];refine W.vs ?_;simp only[go_sem];refine W.vs ?_;simp only[go_sem,q5,w1];refine⟨⟨j+1,rfl,U,fun y hy=>?_⟩,by rw[h5];simp only[aa,aK];omega⟩;rw[aO hu]at hy;rcases Qe.1 hy with h|h
  ·exact hall y h
  ·obtain rfl:=List.mem_singleton.1 h;exact tR.1 hu1
 ·have hub:=fR hu1;simp only[go_sem,hub];refine W.vs ?_;simp only[go_sem];exact no (fun h=>hu1 (tR.2 ((jx.1 h).2.2.2 u (an hu)))) _ (U)
def Om {i:Nat}(h0:i≠A*3)(h1:i≠A*3+1)(h2:i≠A*3+2):(aH (ns.set A x'))[i]?=(aH ns)[i]?:=by
 have hp:i=(i / 3)*3+i % 3:=U
 have hA:i / 3≠A:=U
 have hg:(ns.set A x')[i / 3]?=ns[i / 3]?:=Qh fun h=>hA h.symm;cases hn:ns[i / 3]? with
 |none =>
  have h3:ns.length<=i / 3:=by
   rcases Ql (i / 3) ns.length with h|h
   ·rw[PV h]at hn;cases hn
   ·exact h
  rw[P7 (by rw[eg,P2];omega),P7 (by rw[eg];omega)]
 |some x =>
  rw[hn]at hg;have c3:i % 3=0\/i % 3=1\/i % 3=2:=U
  rcases c3 with c|c|c
  ·rw[hp,c,Nat.add_zero,gR hg,gR hn]
  ·rw[hp,c,ie hg,ie hn]
  ·rw[hp,c,iO hg,iO hn]
def On (h:A<ns.length)(c pv rv:Ty):aJ (ns.set A x') A c pv rv=aJ ns A c pv rv:=by
 have hs:A<(ns.set A x').length:=by rw[P2];exact h
 apply QC;intro i;by_cases h0:i=A*3
 ·rw[h0,lM hs,lM h]
 by_cases h1:i=A*3+1
 ·rw[h1,nE hs,nE h]
 by_cases h2:i=A*3+2
 ·rw[h2,jO hs,jO h]
 rw[ji h0 h1 h2,ji h0 h1 h2,Om h0 h1 h2]
def Oo {w w5 n5:Int}{y:TD}(hy:(y,cs)=eE w w5 a r n5 n d)(hc:∀x∈d.I,1<=x.J/\x.J<=4)(hd:∀v x,d.I[v]?=some x->d.nn.testBit v=true->x.O=[])(hb:∀v,d.nn.testBit v=true->v<d.I.length)
    (hx:y.I[A]?=some xh) (hne:xh.O≠[]) (hA:y.nn.testBit A=true):1<=xh.J/\xh.J<=4:=by
 unfold eE at hy;split at hy
 ·cases hy;simp only at hx hA;have hAl:=hb A hA;obtain⟨x,hxd⟩:=az hAl;have hr:=hd A x hxd hA;have hcx:=hc x (an hxd);generalize w5 % 12=c at hx;generalize (a % (d.I.length:Int)).toNat=B at hx;unfold df at hx;have same:d.I[A]?=some xh->1<=xh.J/\xh.J<=4:=fun h=>hc xh (an h);cases hB:d.I[B]? with
  |none=>rw[hB]at hx;simp at hx
  |some z =>
   rw[hB]at hx;simp only at hx;split at hx
   ·exact same hx
   split at hx
   ·rw[P3 hAl]at hx;exact same hx
   split at hx
   ·rw[List.getElem?_take]at hx;split at hx
    ·exact same hx
    ·cases hx
   by_cases hAB:A=B
   ·subst hAB;rw[hxd]at hB;cases hB;rw[Qa hAl]at hx;have hxx:=Option.some.inj hx;unfold cR at hxx;split at hxx
    ·rw[<- hxx]at hne;exact absurd hr hne
    split at hxx
    ·rw[<- hxx]at hne;exact absurd hr hne
    split at hxx
    ·rw[<- hxx]at hne;exact absurd hr hne
    split at hxx
    ·rw[<- hxx];exact hcx
    ·rw[hr]at hxx;simp at hxx;rw[<- hxx];exact hcx
   ·rw[Qh fun h=>hAB h.symm]at hx;exact same hx
 ·cases hy;exact hc xh (an hx)
structure HolY (id:Nat)(d:TD)(cs:List Ty)(A:Nat)(xh:TA):Prop where
 at':d.I[A]?=some xh
 O:xh.O=[]
 dec:d.nn.testBit A=true
 J:1<=xh.J/\xh.J<=4
 cs:cs=aJ d.I A (aa xh.J) (ag xh.F) (.V id 0 0 0 1)
def gj (id:Nat)(d:TD)(cs:List Ty)(H:Tz):Prop :=
 TO d/\(TH (fun v=>d.nn.testBit v=true) d.I cs\/(∃A xh,HolY id d cs A xh)/\id<H.C/\H.get id=some (.L 0 59 []))
def BS (h:HolY id d cs A xh)(hg:H.get id=some (.L 0 59 [])):
  ∃cs',TH (fun _=>False) d.I cs'/\cs'.length=cs.length/\∀i (h:i<cs.length) (h':i<cs'.length),Uf H cs[i] cs'[i]:=by
 have hA:=aG h.at';refine⟨aJ d.I A (aa xh.J) (ag xh.F) (av []),?_,by rw[h.cs,de,de],fun i h1 h2=>?_⟩
 ·have:=pO (e:=fun _=>False) (x':=xh) (rv:=av []) hA (.inl (by rw[h.O])) fun h=>h.elim;rw[gU h.at']at this;exact this
 ·have hcs:=h.cs;subst hcs;have e:aJ d.I A (aa xh.J) (ag xh.F) (av [])=(aJ d.I A (aa xh.J) (ag xh.F) (.V id 0 0 0 1)).set (A*3+2) (av []):=(pN _ _ _ _).symm;simp only[e,Rk];split
  ·rename_i hi;subst hi;have h3:=PV h1;rw[jO hA]at h3;rw[<- Option.some.inj h3];exact .V hg
  ·exact .same _
def BU {cs':List Ty}(hl:cs'.length=cs.length)(h:∀i (h:i<cs.length) (h':i<cs'.length),Uf H cs[i] cs'[i]):∀i (_:i<[bO d cs].length) (_:i<[bO d cs'].length),Uf H [bO d cs][i] [bO d cs'][i]:=fun i hi _=>by
 match i,hi with
 |0,_ =>
  refine .agg rfl fun j hj _=>?_
  match j,hj with
  |0,_=>exact .same _
  |1,_=>exact .M hl h
  |2,_=>exact .same _
  |3,_=>exact .same _
def xb {e:Nat->Prop}(hq:TH e d.I cs){S:Nat->Prop}{nx:Nat}:Fz S H nx (bO d cs) (gh d):=by
 refine .agg rfl fun i hi _=>?_
 match i,hi with
 |0,_=>exact .lit _
 |1,_=>exact .M (by rw[hq.len,gM]) fun i h h'=>hq.tj i h h'
 |2,_=>exact .lit _
 |3,_=>exact .M rfl fun j h h'=>pY d.Q _ (Qn h)
def gj.read (h:gj id d cs H){f:FuncId}{K:TF->Tz->Prop}(hc:af prog G0 f [gh d] H K):af prog G0 f [bO d cs] H K:=by
 obtain⟨_,h|⟨⟨A,xh,h⟩,_,hg⟩⟩:=h
 ·exact af.qy aT (args':=[gh d]) rfl (fun i hi _=>match i,hi with|0,_=>xb h) hc
 ·obtain⟨cs',h1,h2,h3⟩:=BS h hg;exact af.emp (args':=[bO d cs']) rfl (BU h2 h3) (af.qy aT (args':=[gh d]) rfl (fun i hi _=>match i,hi with|0,_=>xb h1) hc)
def Oq (h:gj id d cs H)(K:TF->Tz->Prop)(hK:K (.ret (.lit (.bool (iS (TR d))))) H):af prog G0 13 [bO d cs] H K:=by
 obtain⟨hf,h|⟨⟨A,xh,h⟩,hlt,hg⟩⟩:=h
 ·exact Pr d cs h hf H K hK
 ·have hh:=af.hole (P:=prog) (f:=13) (args:=[bO d cs]) (args':=[bO d cs]) (v':=.lit (.bool (iS (TR d)))) aT hg hlt rfl (fun i hi _=>?_) (Ps d A id 0 xh h.at' h.O h.dec cs h.cs hf (ly H id) h.J hlt ((qK H id).trans hg) _ fun H'=>⟨_,rfl,.lit _⟩)
  ·exact hh.mono fun r H' ⟨h1,h2⟩=>by subst h1;subst h2;exact hK
  ·match i,hi with
   |0,_ =>
    refine .agg rfl fun j hj _=>?_
    match j,hj with
    |0,_=>exact .lit _
    |1,_ =>
     rw[h.cs];refine .M rfl fun k h1 h2=>lO (.cK _) (.V hlt fun h=>h rfl) k h1 h2
    |2,_=>exact .lit _
    |3,_=>exact .M rfl fun j h h'=>pY d.Q _ (Qn h)
def Le {q:List Int}(hq:q≠[]):gL c n g q≠[]/\(gL c n g q).length<=q.length+1:=by
 have hl:0<q.length:=QT.2 hq;have:0<(gL c n g q).length/\(gL c n g q).length<=q.length+1:=by
  unfold gL;split
  ·rw[P2];omega
  ·split
   ·simp
   ·split
    ·rw[List.length_cons,Qi];omega
    ·rw[K0];omega
 exact⟨QT.1 this.1,this.2⟩
def Lf (hx:x.F.length<=m/\x.O.length<=m/\∀r∈x.O,r≠[]/\r.length<=m):
  ((cR c r n g x).1.F.length<=m+1/\(cR c r n g x).1.O.length<=m+1/\∀r'∈(cR c r n g x).1.O,r'≠[]/\r'.length<=m+1)/\((cR c r n g x).2=av (cR c r n g x).1.O\/(cR c r n g x).2=aS (cR c r n g x).1)/\((c=5->x.O≠[]->¬r % (x.O.length:Int)=0)->(cR c r n g x).2=aS (cR c r n g x).1):=by
 obtain⟨h1,h2,h3⟩:=hx;have h3':∀r∈x.O,r≠[]/\r.length<=m+1:=fun r hr=>⟨(h3 r hr).1,by have:=(h3 r hr).2;omega⟩
 unfold cR;split
 ·exact⟨⟨by show x.F.length<=_;omega,by show x.O.length<=_;omega,h3'⟩,.inr rfl,fun _=>rfl⟩
 ·split
  ·exact⟨⟨by simp;omega,by show x.O.length<=_;omega,h3'⟩,.inr rfl,fun _=>rfl⟩
  ·split
   ·exact⟨⟨Tu,by show x.O.length<=_;omega,h3'⟩,.inr rfl,fun _=>rfl⟩
   ·split
    ·refine⟨⟨by show x.F.length<=_;omega,by simp;omega,fun r hr=>?_⟩,.inr rfl,fun _=>rfl⟩;rcases Qe.1 hr with h|h
     ·exact h3' r h
     ·obtain rfl:=List.mem_singleton.1 h;exact⟨Tu,Tu⟩
    ·split
     ·exact⟨⟨by show x.F.length<=_;omega,by show x.O.length<=_;omega,h3'⟩,.inr rfl,fun _=>rfl⟩
     ·rename_i q hq;have hql:=aG hq;split
      ·rename_i c5;refine⟨⟨by show x.F.length<=_;omega,by simp;omega,fun r hr=>h3' r (Qk hr)⟩,.inl rfl,fun h=>?_⟩;have hx0:x.O≠[]:=fun h=>by rw[h]at hql;simp at hql
       have h9:=h c5 hx0;have h8:=QY r (show (x.O.length:Int)≠0 by omega);refine(nQ (x:={ x with O:=x.O.take (r % (x.O.length:Int)).toNat }) fun h=>?_).symm;have:=congrArg List.length h;simp only[P9,List.length_nil]at this;omega
      ·have hq2:=h3 q (an hq);have hrb:=Le (c:=c) (n:=n) (g:=g) hq2.1;have hne:x.O.set (r % (x.O.length:Int)).toNat (gL c n g q)≠[]:=fun h=>by
        have:=congrArg List.length h;rw[P2]at this;simp at this;rw[this]at hql;simp at hql
       refine⟨⟨by show x.F.length<=_;omega,by show (x.O.set _ _).length<=_;rw[P2];omega,fun r' hr=>?_⟩,.inl rfl,fun _=>(nQ (x:={ x with O:=x.O.set (r % (x.O.length:Int)).toNat (gL c n g q) }) hne).symm⟩;rcases Qr hr with h|rfl
       ·exact h3' r' h
       ·exact⟨hrb.1,U⟩
def Lg (hx:ns[A]?=some x)(e:Nat->Prop):TH e ns (aJ ns A (aa x.J) (ag x.F) (aS x)):=by
 have:=pO (e:=e) (x':=x) (rv:=aS x) (aG hx) (.inr rfl) fun _=>rfl;rw[gU hx]at this;exact this
def AE (hs:TM m ns):TM (m+1) (df c A r n g ns).2.1/\TH (fun v=>c=5->v=A->∀x,ns[v]?=some x->x.O≠[]->¬r % (x.O.length:Int)=0) (df c A r n g ns).2.1 (df c A r n g ns).2.2/\(df c A r n g ns).2.1.length<=ns.length+1:=by
 have hs1:=hs.mono (Rc m);unfold df;split
 ·exact⟨⟨Tu,fun x hx=>by simp at hx⟩,⟨rfl,fun v x hx=>by simp at hx⟩,Tu⟩
 ·rename_i x hx;have hA:=aG hx;have hxm:=hs.node x (an hx);have nq:=Lg hx (fun v=>c=5->v=A->∀x,ns[v]?=some x->x.O≠[]->¬r % (x.O.length:Int)=0);split
  ·exact⟨hs1,nq,Rc _⟩
  ·split
   ·refine⟨⟨by have:=hs.len;simp;omega,fun y hy=>?_⟩,nq.snoc (x:=⟨1,[],[[g]]⟩) (.inr rfl) fun _=>rfl,Tu⟩;rcases Qe.1 hy with hy|hy
    ·exact hs1.node y hy
    ·obtain rfl:=List.mem_singleton.1 hy;exact⟨Tu,Tu,fun r hr=>by simp at hr;subst hr;exact⟨Tu,Tu⟩⟩
   ·split
    ·exact⟨hs1.take _,nq.take _,by simp;omega⟩
    ·obtain⟨b1,b2,b3⟩:=Lf (c:=c) (r:=r) (n:=n) (g:=g) hxm;refine⟨hs1.set b1,pO hA b2 fun he=>b3 fun h5=>he h5 rfl x hx,by rw[P2];exact Rc _⟩
def Lb {us:List TI}(hu:TZ m us):TZ (m+5) (lQ c a n us):=by
 have hu5:∀u∈us,u.vars.length<=m+5/\u.w.length<=m+5:=fun u h=>by have:=hu.nq u h;omega
 have hl:=hu.len;unfold lQ;split
 ·exact⟨Tu,fun u h=>by rw[Qv h];exact⟨Tu,Tu⟩⟩
 ·rename_i u hu0;have h0:=hu.nq u (an hu0);split
  ·refine⟨by rw[P2];omega,fun u' h=>?_⟩;rcases Qr h with h|rfl
   ·exact hu5 u' h
   ·exact⟨by simp;omega,by show u.w.length<=_;omega⟩
  ·split
   ·refine⟨by rw[P2];omega,fun u' h=>?_⟩;rcases Qr h with h|rfl
    ·exact hu5 u' h
    ·exact⟨by show u.vars.length<=_;omega,by show (u.w.set _ _).length<=_;rw[P2];omega⟩
   ·refine⟨by simp;omega,fun u' h=>?_⟩;rcases Qe.1 (Qk h) with h|h
    ·exact hu5 u' h
    ·rw[Qv h];exact⟨Tu,Tu⟩
def Lc {w w5 n5:Int}(hm:m<2 ^ 29)(hs:TM m d.I)(hu:TZ m d.Q)(hd:d.nn<2 ^ 64)(hdec:w % 8<4->w5 % 12=5->d.nn.testBit (a % (d.I.length:Int)).toNat=true->∀x,d.I[(a % (d.I.length:Int)).toNat]?=some x->x.O≠[]->¬r % (x.O.length:Int)=0):
  TO (eE w w5 a r n5 n d).1/\TH (fun v=>(eE w w5 a r n5 n d).1.nn.testBit v=true) (eE w w5 a r n5 n d).1.I (eE w w5 a r n5 n d).2/\(eE w w5 a r n5 n d).1.I.length<=d.I.length+1/\TM (m+1) (eE w w5 a r n5 n d).1.I/\TZ (m+5) (eE w w5 a r n5 n d).1.Q:=by
 have fit:∀(g:Int) (ns:List TA) (D:Nat) (us:List TI),TM (m+1) ns->TZ (m+5) us->D<2 ^ 64->TO ⟨g,ns,D,us⟩:=fun g ns D us h1 h2 h3=>by
  refine⟨⟨by have:=h1.len;show (ns.length:Int)<_;omega,fun x hx=>?_⟩,h3,by have:=h2.len;show (us.length:Int)<_;omega,fun u hu=>?_⟩
  ·obtain⟨h1,h2,h3⟩:=h1.node x hx;exact⟨U,U,fun r hr=>by have:=(h3 r hr).2;omega⟩
  ·obtain⟨h1,h2⟩:=h2.nq u hu;exact⟨U,U⟩
 have hu5:TZ (m+5) d.Q:=⟨by have:=hu.len;omega,fun u h=>by have:=hu.nq u h;omega⟩
 unfold eE;split
 ·rename_i hw4;obtain⟨b1,b2,b3⟩:=AE (m:=m) (A:=(a % (d.I.length:Int)).toNat) (c:=w5 % 12) (r:=r) (n:=n5) (g:=d.X) hs;exact⟨fit _ _ _ _ b1 hu5 hd,b2.mono (fun v hv h5 h6 x hx hne=>by subst h6;exact hdec hw4 h5 hv x hx hne),b3,b1,hu5⟩
 ·obtain⟨b1,b2,b3⟩:=AE (m:=m) (A:=0) (c:=0) (r:=0) (n:=d.X) (g:=d.X) hs;have hbn:(df 0 0 0 d.X d.X d.I).2.1=d.I:=by
   unfold df;split
   ·rename_i h;exact(P1 (by have:=Q3.1 h;omega)).symm
   ·rfl
  rw[hbn]at b2;have hU:TZ (m+5) (if w % 8=4 then d.Q else lQ (w % 8) a n d.Q):=by
   split
   ·exact hu5
   ·exact Lb hu
  refine⟨fit _ _ _ _ (hs.mono (Rc m)) hU ?_,b2.mono fun v _ h5=>absurd h5 Tv,Rc _,hs.mono (Rc m),hU⟩
  ·split
   ·exact SH hd (U)
   ·exact hd
def Ld (h:TR d):TM 1024 d.I/\TZ 1024 d.Q/\∀v x,d.I[v]?=some x->d.nn.testBit v=true->x.O=[]:=by
 have n8:=h.n.n1;have hsz:=h.net.size;rw[qj]at hsz;refine⟨⟨U,fun x hx=>?_⟩,⟨by have:=h.Q.1;omega,fun u hu=>?_⟩,fun v x hx hb=>(h.n.dec v x hx hb).1⟩
 ·obtain⟨v,hv⟩:=Qd.1 hx;have hn:=h.net.node _ (an (kf (c:=fun _ _=>0) hv));have hr:=h.net.O _ (an (kf (c:=fun _ _=>0) hv));rw[(lY ..).1,(lY ..).2,ke]at hn;unfold fk at hr;rw[xc]at hr;have hpl:=tq n8.2 hn.2 h.n.J;refine⟨U,?_⟩;by_cases hb:d.nn.testBit v=true
  ·rw[(h.n.dec v x hv hb).1];exact⟨Tu,fun r hr=>by cases hr⟩
  ·rw[qm hb]at hr;have:=qc hn.2 h.n.J;refine⟨U,fun r hr'=>?_⟩;have:=(hr.2 r hr').1;exact⟨fun e=>by rw[e]at this;simp at this;omega,U⟩
 ·have hu':=h.Q.2 u hu;have:=tq n8.2 hu'.vars h.n.J;have h2:=qc (x:=⟨0,u.vars,[]⟩) hu'.vars h.n.J;have h3:=hu'.size;have e:aY d.I ⟨0,u.vars,[]⟩=bc (aA d.I) u.vars:=rfl;rw[e]at h2;omega
end Go.Proofs
namespace Go.Hx
variable {P:Program} {G:Nat->Option (List Ty)} {Γ Γ':ar} {H H':Tz} {w w':World}
variable {v:Ty}
inductive T3 (K:Nat->Prop):Ty->Prop
 |lit (v:Value):T3 K (.lit v)
 |M {n:Nat} {c:List Ty} (h:∀i (h:i<c.length),T3 K c[i]):T3 K (.M n c)
 |nc {n:Nat} {c:List Ty} (h:∀i (h:i<c.length),T3 K c[i]):T3 K (.nc c n)
 |agg {c:List Ty} (h:∀i (h:i<c.length),T3 K c[i]):T3 K (.agg c)
 |nf {c:List Ty} (h:∀i (h:i<c.length),T3 K c[i]):T3 K (.nf c)
 |nl {f:FuncId} {a b:List Ty} (h1:∀i (h:i<a.length),T3 K a[i]) (h2:∀i (h:i<b.length),T3 K b[i]):T3 K (.nl f a b)
 |V {id g o l z:Nat} (h:K id):T3 K (.V id g o l z)
 |Y {id g o:Nat} (h:K id):T3 K (.Y id g o)
 |ng {id:Nat} (h:K id):T3 K (.ng id)
def T3.A3 {cv:Value}(h:TB P Γ H w v cv):T3 (fun id=>id<H.C/\H.get id≠some .ni) v:=by
 induction h with
 |lit v=>exact .lit v
 |nj a cap=>exact .M fun i h=>absurd h (Qf _)
 |M hb hlt hlen hcs hcell hrel ih=>exact .M fun i h=>ih i h (U)
 |V h=>exact .V ⟨h.1,h.2.2.1⟩
 |Y h=>exact .Y ⟨h.1,h.2.2.1⟩
 |nc hb hlt hcs hcell hrel ih=>exact .nc fun i h=>ih i h (U)
 |agg hcs hrel ih=>exact .agg fun i h=>ih i h (U)
 |nf hcs hrel ih=>exact .nf fun i h=>ih i h (U)
 |nl hfs hcs hf hc ih1 ih2=>exact .nl (fun i h=>ih1 i h U) fun i h=>ih2 i h (U)
 |ng h=>exact .ng ⟨h.1,h.2.2.1⟩
def T3.sound {K:Nat->Prop}{Γ₁ Γ₂:ar}{H₁ H₂:Tz}(hK:∀id,K id->H₂.get id=H₁.get id/\Γ₂ id=Γ₁ id/\id<H₂.C)(ho:∀b,Γ₂.c9 b->Γ₁.c9 b)(h:T3 K v):
  ∀ {cv:Value},TB P Γ₁ H₁ w v cv->TB P Γ₂ H₂ w v cv:=by
 induction h with
 |lit v=>intro cv h;cases h;exact .lit _
 |M _ ih =>
  intro cv h;cases h with
  |nj a cap=>exact .nj a cap
  |M hb hlt hlen hcs hcell hrel=>exact .M (fun h=>hb (ho _ h)) hlt hlen hcs hcell fun i h1 h2=>ih i h1 (hrel i h1 h2)
 |nc _ ih=>intro cv h;cases h with|nc hb hlt hcs hcell hrel=>exact .nc (fun h=>hb (ho _ h)) hlt hcs hcell fun i h1 h2=>ih i h1 (hrel i h1 h2)
 |agg _ ih=>intro cv h;cases h with|agg hcs hrel=>exact .agg hcs fun i h1 h2=>ih i h1 (hrel i h1 h2)
 |nf _ ih=>intro cv h;cases h with|nf hcs hrel=>exact .nf hcs fun i h1 h2=>ih i h1 (hrel i h1 h2)
 |nl _ _ ih1 ih2=>intro cv h;cases h with|nl hfs hcs hf hc=>exact .nl hfs hcs (fun i h1 h2=>ih1 i h1 (hf i h1 h2)) fun i h1 h2=>ih2 i h1 (hc i h1 h2)
 |V h =>
  intro cv hv;cases hv with
  |V hv =>
   obtain⟨a,b,c,d⟩:=hv;obtain⟨e1,e2,e3⟩:=hK _ h;refine .V ⟨e3,b,by rw[e1];exact c,fun g e cells hg=>?_⟩;rw[e1]at hg;rw[e2];exact d g e cells hg
 |Y h =>
  intro cv hv;cases hv with
  |Y hv =>
   obtain⟨a,b,c,d⟩:=hv;obtain⟨e1,e2,e3⟩:=hK _ h;refine .Y ⟨e3,b,by rw[e1];exact c,fun g e cells hg=>?_⟩;rw[e1]at hg;rw[e2];exact d g e cells hg
 |ng h =>
  intro cv hv;cases hv with
  |ng hv =>
   obtain⟨a,b,c,d,e⟩:=hv;obtain⟨e1,e2,e3⟩:=hK _ h;refine .ng ⟨e3,b,by rw[e1];exact c,fun st pend n env ps asg body hg=>?_,fun es hg=>?_⟩
   ·rw[e1]at hg;rw[e2];exact d st pend n env ps asg body hg
   ·rw[e1]at hg;rw[e2];exact e es hg
end Go.Hx
namespace Go.Hx
variable {P:Program} {G:Nat->Option (List Ty)} {Γ Γ':ar} {H H':Tz} {w w':World}
variable {e:TypeId}
inductive Ub (id g id' g':Nat):Ty->Ty->Prop
 |same {v:Ty} (h:T3 (fun _=>False) v):Ub id g id' g' v v
 |hole:Ub id g id' g' (.V id g 0 0 1) (.V id' g' 0 0 1)
 |M {len:Nat} {c c':List Ty} (hl:c'.length=c.length) (h:∀i (h:i<c.length) (h':i<c'.length),Ub id g id' g' c[i] c'[i]):Ub id g id' g' (.M len c) (.M len c')
 |agg {c c':List Ty} (hl:c'.length=c.length) (h:∀i (h:i<c.length) (h':i<c'.length),Ub id g id' g' c[i] c'[i]):Ub id g id' g' (.agg c) (.agg c')
theorem Ub.sound {id g id' g':Nat}{Γ₁ Γ₂:ar}{H₁ H₂:Tz}(h1:H₁.get id=some (.L g e []))(h2:H₂.get id'=some (.L g' e []))(hΓ:Γ₂ id'=Γ₁ id)(hlt:id'<H₂.C)(ho:∀b,Γ₂.c9 b->Γ₁.c9 b){v v':Ty}(h:Ub id g id' g' v v'):
  ∀ {cv:Value},TB P Γ₁ H₁ w v cv->TB P Γ₂ H₂ w v' cv:=by
 induction h with
 |same h=>exact fun hv=>h.sound (fun _ h=>h.elim) ho hv
 |hole =>
  intro cv hv;cases hv with
  |V hv =>
   obtain⟨_,b,_,d⟩:=hv;have h4:=(d _ _ _ h1).2 rfl;refine .V ⟨hlt,b,by rw[h2];simp,fun g0 e0 c0 hg=>?_⟩;rw[h2]at hg;cases hg;exact⟨Tx,fun _=>by rw[hΓ];exact h4⟩
 |M hl _ ih =>
  intro cv h;cases h with
  |nj a cap =>
   rename_i c' _;obtain rfl:=P1 (l:=c') (by simpa using hl);exact .nj a cap
  |M hb hlt' hlen hcs hcell hrel=>exact .M (fun h=>hb (ho _ h)) hlt' hlen U hcell fun i a b=>ih i U a (hrel i U b)
 |agg hl _ ih =>
  intro cv h;cases h with
  |agg hcs hrel=>exact .agg U fun i a b=>ih i U a (hrel i U b)
def MT {f:FuncId}{args:List Ty}{rs:List Nat}(V:Nat->Nat->Ty)(hV:∀id g,Ub id g H.C 0 (V id g) (V H.C 0))(hrs:∀r,r∈rs->r<H.C)
  (hcall:∀H2:Tz,(∀r,r∈rs->H2.get r=H.get r)->af P G f args H2 fun r H'=>∃id g,r=.ret (V id g)/\H2.C<=id/\id<H'.C/\(∀j,j<H2.C->H'.get j=H2.get j)/\H'.get id=some (.L g e [])):
  Ev.iW P G (.nl f [] []) args H (V H.C 0) (Ev.eo H.C (H.C+1) (fun _=>true) (ext ⟨fun _=>none,H.C⟩ [.L 0 e []]).get) 1 ⟨Ev.lu H.C (H.C+1),rs⟩:=by
 have hnew:Ev.eo H.C (H.C+1) (fun _=>true) (ext ⟨fun _=>none,H.C⟩ [.L 0 e []]).get H.C=some (.L 0 e []):=by
  unfold Ev.eo;rw[PZ ⟨Tx,Rq _⟩,PZ rfl];exact bX (H:=⟨fun _=>none,H.C⟩)
 have hout:∀r,r≠H.C->Ev.eo H.C (H.C+1) (fun _=>true) (ext ⟨fun _=>none,H.C⟩ [.L 0 e []]).get r=none:=fun r hr=>by
  unfold Ev.eo;rw[PX U]
 refine⟨hrs,fun r hr=>?_,fun c hc=>?_,fun H2 hag hres hn2=>aE.nl ⟨?_,fun Γ w cargs R hr=>?_⟩⟩
 ·have:r=H.C:=QA fun h=>by rw[hout r h]at hr;cases hr
  subst this;exact⟨Ev.xQ Tx (Rq _),.inr ⟨Tx,Rq _⟩⟩
 ·obtain rfl:c=0:=U
  rw[show H.C+0=H.C from rfl,hnew];rfl
 ·exact(hcall H2 hag).1
 have hrid:H2.get H.C=some .ni:=hres 0 U;rw[List.nil_append,List.append_nil]at hr;refine((hcall H2 hag).2 Γ w cargs R hr).mono ?_;rintro x w' ⟨r,H',Γ',hend,⟨id,g,rfl,q1,q2,q3,q4⟩,R',E,hn⟩;obtain⟨H3,hH3⟩:∃H3:Tz,H3=⟨Ev.bP (Ev.eo H.C (H.C+1) (fun _=>true) (ext ⟨fun _=>none,H.C⟩ [.L 0 e []]).get) H2.get,H2.C⟩:=⟨_,rfl⟩
 have h3n:H3.C=H2.C:=by rw[hH3]
 have h3r:H3.get H.C=some (.L 0 e []):=by rw[hH3];show Ev.bP _ _ _=_;unfold Ev.bP;rw[hnew]
 have h3o:∀r,r≠H.C->H3.get r=H2.get r:=fun r h=>by rw[hH3];show Ev.bP _ _ _=_;unfold Ev.bP;rw[hout r h]
 obtain⟨Γ3,hΓ3⟩:∃ Γ3:ar,Γ3=fun j=>if j=H.C then Γ' id else if H2.C<=j then none else Γ' j:=⟨_,rfl⟩
 have g3r:Γ3 H.C=Γ' id:=by rw[hΓ3];exact PZ rfl
 have g3n:∀j,j≠H.C->H2.C<=j->Γ3 j=none:=fun j h1 h2=>by rw[hΓ3];show (if _ then _ else if _ then _ else _)=_;rw[PX h1,PZ h2]
 have g3o:∀j,j≠H.C->j<H2.C->Γ3 j=Γ' j:=fun j h1 h2=>by rw[hΓ3];show (if _ then _ else if _ then _ else _)=_;rw[PX h1,PX U]
 have back:∀j x,Γ3 j=some x->∃j',Γ' j'=some x/\((j=H.C/\j'=id)\/(j≠H.C/\j<H2.C/\j'=j)):=fun j x h=>by
  by_cases h1:j=H.C
  ·subst h1;rw[g3r]at h;exact⟨_,h,.inl ⟨rfl,rfl⟩⟩
  ·rcases Ql j H2.C with h2|h2
   ·rw[g3o j h1 h2]at h;exact⟨_,h,.inr ⟨h1,h2,rfl⟩⟩
   ·rw[g3n j h1 h2]at h;cases h
 have ho:∀b,Γ3.c9 b->Γ'.c9 b:=fun b ⟨j,base,m,h⟩=>let ⟨j',h',_⟩:=back _ _ h;⟨j',base,m,h'⟩
 have hKs:∀j,(j<H2.C/\H2.get j≠some .ni)->H3.get j=H'.get j/\Γ3 j=Γ' j/\j<H3.C:=fun j ⟨h1,h2⟩=>by
  have hne:j≠H.C:=fun h=>h2 (h ▸ hrid);exact⟨(h3o j hne).trans (q3 j h1).symm,g3o j hne h1,U⟩
 have hEE:TJ Γ H2 w Γ3 H3 w':=by
  refine⟨E.os,E.tape,E.output,E.size,fun b hb hno=>⟨(E.na b hb hno).1,fun h=>(E.na b hb hno).2 (ho b h)⟩,fun j h1 h2 x' hx'=>?_,E.np,E.kind,fun j b x y hb hlt=>?_⟩;rotate_left
  ·obtain⟨j',h',hor⟩:=back _ _ hb;obtain⟨x',y',h''⟩:=E.newb j' b x y h' hlt;rcases hor with ⟨_,rfl⟩|⟨_,_,rfl⟩
   ·obtain⟨z,hz⟩:=R.nt _ _ h'';have:=R.C _ _ hz;omega
   ·exact⟨x',y',h''⟩
  by_cases hid:j=H.C
  ·subst hid;exact⟨.ni,hrid,trivial⟩
  ·rw[h3o j hid]at hx';obtain⟨x,hx,hle⟩:=E.Z j h1 U x' (by rw[q3 j h1];exact hx');refine⟨x,hx,?_⟩;have:=g3o j hid h1;cases x<;>cases x'<;>simp only[TE.le,this]at hle ⊢<;>exact hle
 have oldIds:∀j g0 e0 c0,H2.get j=some (.L g0 e0 c0)->∀i (h:i<c0.length),T3 (fun id=>id<H2.C/\H2.get id≠some .ni) c0[i]:=fun j g0 e0 c0 hg i hi=>by
  have h1:=R.L j g0 e0 c0 hg;cases hΓ:Γ j with
  |none=>rw[hΓ]at h1;rw[h1]at hi;exact absurd hi (Qf _)
  |some y =>
   obtain⟨b,base,m⟩:=y;rw[hΓ]at h1;obtain⟨c,a1,a2,a3,a4⟩:=h1;obtain⟨cv,_,b2⟩:=a4 i hi;exact .A3 b2
 have R3:TG P G Γ3 H3 w':=by
  refine⟨fun j g0 e0 c0 hg=>?_,fun j st pend m env ps asg body hg=>?_,fun j es hg=>?_,fun j hg=>?_,fun j j2 b base m base' m' h h'=>?_,fun j y h=>?_,fun j b base m h=>?_,fun j y h=>?_,fun g0 c0 h=>?_,R'.gsz⟩
  ·by_cases hid:j=H.C
   ·subst hid;rw[h3r]at hg;cases hg;have h1:=R'.L id g e [] q4;rw[g3r];cases hΓ':Γ' id with
    |none=>rfl
    |some y =>
     obtain⟨b,base,m⟩:=y;rw[hΓ']at h1;obtain⟨c,a1,a2,a3,_⟩:=h1;exact⟨c,a1,a2,a3,fun i hi=>absurd hi (Qf _)⟩
   ·rw[h3o j hid]at hg;have hlt:=R.C j _ hg;have h1:=R'.L j g0 e0 c0 (by rw[q3 j hlt];exact hg);rw[g3o j hid hlt];cases hΓ':Γ' j with
    |none=>rw[hΓ']at h1;exact h1
    |some y =>
     obtain⟨b,base,m⟩:=y;rw[hΓ']at h1;obtain⟨c,a1,a2,a3,a4⟩:=h1;exact⟨c,a1,a2,a3,fun i hi=>let ⟨cv,b1,b2⟩:=a4 i hi;⟨cv,b1,(oldIds j g0 e0 c0 hg i hi).sound hKs ho b2⟩⟩
  ·have hid:j≠H.C:=fun h=>by subst h;rw[h3r]at hg;cases hg
   rw[h3o j hid]at hg;have hlt:=R.C j _ hg;obtain⟨b0,r0,p1,p2,p3,p4,p5,p6,p7,p8,p9⟩:=R.loop j st pend m env ps asg body hg;obtain⟨b,r,a1,a2,a3,a4,a5,a6,a7,a8,a9⟩:=R'.loop j st pend m env ps asg body (by rw[q3 j hlt];exact hg);exact⟨b,r,by rw[g3o j hid hlt];exact a1,a2,a3,a4,a5,a6,a7,a8,fun t ht=>(T3.A3 (p9 t U)).sound hKs ho (a9 t ht)⟩
  ·have hid:j≠H.C:=fun h=>by subst h;rw[h3r]at hg;cases hg
   rw[h3o j hid]at hg;have hlt:=R.C j _ hg;obtain⟨b,a1,a2⟩:=R'.mp j es (by rw[q3 j hlt];exact hg);exact⟨b,by rw[g3o j hid hlt];exact a1,a2⟩
  ·have hid:j≠H.C:=fun h=>by subst h;rw[h3r]at hg;cases hg
   rw[h3o j hid]at hg;have hlt:=R.C j _ hg;rw[g3o j hid hlt];exact R'.ni j (by rw[q3 j hlt];exact hg)
  ·obtain⟨i1,k1,c1⟩:=back _ _ h;obtain⟨i2,k2,c2⟩:=back _ _ h';have:=R'.inj _ _ _ _ _ _ _ k1 k2;omega
  ·obtain⟨i1,k1,c1⟩:=back _ _ h;rcases c1 with ⟨rfl,_⟩|⟨h1,h2,rfl⟩
   ·exact⟨_,h3r⟩
   ·obtain⟨y',hy⟩:=R'.nt _ _ k1;exact⟨y',by rw[h3o _ h1,<- q3 _ h2];exact hy⟩
  ·obtain⟨i1,k1,c1⟩:=back _ _ h;exact R'.lt _ _ _ _ k1
  ·by_cases hid:j=H.C
   ·omega
   ·rw[h3o j hid]at h;have:=R.C j _ h;omega
  ·exact(R.nr g0 c0 h).aU hEE (U)
 refine⟨.ret (V H.C 0),H3,Γ3,?_,⟨rfl,hH3⟩,R3,hEE,U⟩;cases x with
 |returned cv=>exact(hV id g).sound q4 h3r g3r U ho hend
 |_=>exact hend.elim
end Go.Hx
namespace Go.Hx
variable {P:Program} {G:Nat->Option (List Ty)} {all:Array Oper} {tail:St->Prop} {b i:Nat} {bs:List Nat} {acc:List (Nat × FP)} {K:FP->St->Prop} {s:St} {d:Option Tmp} {ty:TypeId} {pos:String} {aft:Array Edge} {g:Option (Nat × Bool)}
def Lz (bs:List Nat):Ev.cD P G all tail bs i acc [] s=tail s:=by cases bs<;>rfl
def LA (op:Op)(rest:List Oper):Ev.cD P G all tail (b :: bs) i acc (⟨d,op,ty,pos,aft,none⟩ :: rest) s =
  Ev.bA P G ⟨d,op,ty,pos,aft,none⟩ (fun f s'=>eY b f acc/\Ev.cD P G all tail bs (i+1) (dU i f acc) rest s') s:=by
 simp[Ev.cD,dG,ba]
def LB (fv:Operand)(args:Array Operand)(ats:Array TypeId):Ev.bA P G ⟨d,.call ⟨.value fv,args,ats⟩,ty,pos,aft,g⟩ K s =
  ∃v e k f,Ev.iW P G (aj G s.ρ fv) (args.toList.map (aj G s.ρ)) s.H v e k f/\K f ⟨aD s.ρ d v,⟨Ev.bP e s.H.get,s.H.C+k⟩⟩:=rfl
def LC (x:Operand):Ev.bA P G ⟨d,.move x,ty,pos,aft,g⟩ K s=bA P G ⟨d,.move x,ty,pos,aft,g⟩ K s:=rfl
def LD (t:TypeId)(x:Operand):Ev.bA P G ⟨d,.load t x,ty,pos,aft,g⟩ K s=bA P G ⟨d,.load t x,ty,pos,aft,g⟩ K s:=rfl
def LF (t:TypeId)(p:Array (Nat × Operand)):Ev.bA P G ⟨d,.build t p,ty,pos,aft,g⟩ K s=bA P G ⟨d,.build t p,ty,pos,aft,g⟩ K s:=rfl
def LG (a:Nat):Ev.lu a (a+1)=[a]:=by
 unfold Ev.lu;rw[Sf];simp[Rg]
def LH {H:Tz}{bk:TE}:(⟨Ev.bP (Ev.eo H.C (H.C+1) (fun _=>true) (ext ⟨fun _=>none,H.C⟩ [bk]).get) H.get,H.C+1⟩:Tz)=ext H [bk]:=by
 unfold ext;simp only[RP];congr 1
 funext j
 unfold Ev.bP Ev.eo;by_cases h:H.C<=j/\j<H.C+1
 ·have:j=H.C:=U
  subst this;simp
 ·simp[h]
end Go.Hx
namespace Go.Hx
variable {P:Program} {G:Nat->Option (List Ty)} {all:Array Oper} {tail:St->Prop} {b i:Nat} {bs:List Nat} {acc:List (Nat × FP)} {K:FP->St->Prop} {s:St} {d:Option Tmp} {ty:TypeId} {pos:String} {aft:Array Edge} {g:Option (Nat × Bool)}
def Ot (t:TypeId)(x y:Operand):Ev.bA P G ⟨d,.indexAddr t x y,ty,pos,aft,g⟩ K s=bA P G ⟨d,.indexAddr t x y,ty,pos,aft,g⟩ K s:=rfl
end Go.Hx
namespace Go.Proofs
open Go.Hx Try
variable {c:Int}{cs:List Ty}{id k:Nat}{d:TD}{α:Type}{H:Tz}
def BV (w w5 a r:Int)(d:TD)(x:TA):Prop:=w % 8<4/\HoleAt w5 r d.I (a % (d.I.length:Int)).toNat x/\d.nn.testBit (a % (d.I.length:Int)).toNat=true
def qd (a:Int)(d:TD)(x:TA)(id g:Nat):Ty:=bO d (aJ d.I (a % (d.I.length:Int)).toNat (aa x.J) (ag x.F) (.V id g 0 0 1))
def tD (l:List Int):T3 (fun _=>False) (ag l):=by
 refine .M fun i h=>?_;simp only[ints,P4,aa];exact .lit _
def Ou (x:TA):T3 (fun _=>False) (aS x):=by
 unfold aS;split
 ·exact .lit _
 ·refine .M fun i h=>?_;simp only[P4];exact tD _
def Ov (ns:List TA)(i:Nat)(h:i<(aH ns).length):T3 (fun _=>False) (aH ns)[i]:=by
 have hb:i / 3<ns.length:=by rw[eg]at h;omega
 obtain⟨x,hx⟩:=az hb;have hp:i=(i / 3)*3+i % 3:=U
 have g1:(aH ns)[i]?=some (aH ns)[i]:=PV h;generalize (aH ns)[i]=u at g1 ⊢;have c3:i % 3=0\/i % 3=1\/i % 3=2:=U
 rcases c3 with c|c|c
 ·rw[hp,c,Nat.add_zero,gR hx]at g1;cases g1;exact .lit _
 ·rw[hp,c,ie hx]at g1;cases g1;exact tD _
 ·rw[hp,c,iO hx]at g1;cases g1;exact Ou _
def Ow (a:Int)(d:TD)(x:TA)(hA:(a % (d.I.length:Int)).toNat<d.I.length)(id g id' g':Nat):Ub id g id' g' (qd a d x id g) (qd a d x id' g'):=by
 refine .agg rfl fun i hi _=>?_
 match i,hi with
 |0,_=>exact .same (.lit _)
 |1,_ =>
  refine .M (by rw[de,de]) fun j h1 h2=>?_;generalize (a % (d.I.length:Int)).toNat=A at hA h1 h2 ⊢;have e1:=PV h1;have e2:=PV h2;generalize (aJ d.I A (aa x.J) (ag x.F) (.V id g 0 0 1))[j]=u at e1 ⊢;generalize (aJ d.I A (aa x.J) (ag x.F) (.V id' g' 0 0 1))[j]=v at e2 ⊢;by_cases c0:j=A*3
  ·rw[c0,lM hA]at e1 e2;cases e1;cases e2;exact .same (.lit _)
  by_cases c1:j=A*3+1
  ·rw[c1,nE hA]at e1 e2;cases e1;cases e2;exact .same (tD _)
  by_cases c2:j=A*3+2
  ·rw[c2,jO hA]at e1 e2;cases e1;cases e2;exact .hole
  rw[ji c0 c1 c2]at e1 e2;rw[e1]at e2;cases e2;have hl:j<(aH d.I).length:=by rw[eg];rw[de]at h1;exact h1
  rw[PV hl]at e1;cases e1;exact .same (Ov _ _ hl)
 |2,_=>exact .same (.lit _)
 |3,_ =>
  refine .same (.M fun j h=>?_);have hm:=Qn h;generalize (aL d.Q)[j]=c at hm;unfold aL at hm;obtain⟨r,hr,hc⟩:=Rj.1 hm;obtain⟨x,_,rfl⟩:=Qm.1 hr;unfold TI.cells at hc;simp only[List.mem_cons,List.not_mem_nil,or_false]at hc;rcases hc with rfl|rfl<;>exact tD _
def qf (a:Int)(d:TD)(x:TA):TD:=⟨d.X,d.I.set (a % (d.I.length:Int)).toNat { x with O:=[] },d.nn,d.Q⟩
def Ox (a:Int)(d:TD)(x:TA)(id g:Nat):qd a d x id g=bO (qf a d x) (aJ d.I (a % (d.I.length:Int)).toNat (aa x.J) (ag x.F) (.V id g 0 0 1)):=by
 have e:(qf a d x).I.length=d.I.length:=P2 ..;unfold qd;rw[fQ,fQ];unfold fF;rw[e];rfl
def Oy {w w5 a r:Int}{x:TA}(h:BV w w5 a r d x)(hf:TO d)(hc:1<=x.J/\x.J<=4)(id:Nat):
  TO (qf a d x)/\HolY id (qf a d x) (aJ d.I (a % (d.I.length:Int)).toNat (aa x.J) (ag x.F) (.V id 0 0 0 1)) (a % (d.I.length:Int)).toNat { x with O:=[] }:=by
 have hA:=aG h.2.1.at';refine⟨⟨⟨by show ((d.I.set _ _).length:Int)<_;rw[P2];exact hf.I.1,fun z hz=>?_⟩,hf.nn,hf.Q⟩,⟨Qa hA,rfl,h.2.2,hc,?_⟩⟩
 ·rcases Qr hz with h1|rfl
  ·exact hf.I.2 z h1
  ·obtain⟨h1,h2,h3⟩:=hf.I.2 x (an h.2.1.at');exact⟨h1,by show ((([]:List (List Int)).length:Nat):Int)<_;simp,fun r hr=>by cases hr⟩
 ·exact(On hA _ _ _).symm
def Oj (l:List (Int × Int)):∀c∈dh l,∃v,c=.lit v:=fun c hc=>by
 unfold dh at hc;obtain⟨r,hr,hp⟩:=Rj.1 hc;obtain⟨p,_,rfl⟩:=Qm.1 hr;rcases List.mem_cons.1 hp with rfl|hp
 ·exact⟨_,rfl⟩
 ·rcases List.mem_cons.1 hp with rfl|hp
  ·exact⟨_,rfl⟩
  ·cases hp
def Ol (d:TD)(A hid hg:Nat)(xh:TA)(hxh:d.I[A]?=some xh)(hrh:xh.O=[])(hbA:d.nn.testBit A=true)(cs:List Ty)(hcs:cs=aJ d.I A (aa xh.J) (ag xh.F) (.V hid hg 0 0 1))(hf:TO d)(hok:TR d)(H:Tz)(hch:1<=xh.J/\xh.J<=4)(hidl:hid<H.C)(hgh:H.get hid=some (.L hg 59 []))(K:TF->Tz->Prop)(hK:∀v H',TW H.C H' v (.M (bt d).length (dh (bt d)))->K (.ret v) H'):af prog G0 57 [bO d cs] H K:=by
 refine af.nl ⟨_,func57,rfl,rfl⟩ fun hcl=>?_;have hl:=hf.I.1;have hn8:=hok.n.n1.2;refine af.st (n:=41) (rs:=[.tmp 2]) func57 ?_;simp only[go_sem,fQ,fF];obtain⟨H1,hH1⟩:∃H1,H1=ext H [.L 0 39 [.lit (.int .i64 d.X),.M d.I.length cs,.lit (.int .u64 (d.nn:Int)),.M d.Q.length (aL d.Q)]]:=⟨_,rfl⟩
 have g0:=dA hH1
 have n1:H1.C=H.C+1:=hH1▸rfl
 have o1:TC H H1:=hH1▸.ext _ _
 have hidR:H1.get hid=some (.L hg 59 []):=(o1.nb hid hidl).trans hgh;rw[<- hH1];clear hH1;have m0:=ae g0;refine aE.nl (BR d A hid hg xh hxh hrh hbA cs hcs hf H1 hch U hidR _ ⟨trivial,?_⟩);rw[wX hok];simp only[go_sem,bR,cz];obtain⟨H2,hH2⟩:∃H2,H2=ext (H1.jn hid) [.L 0 64 [.lit (.int .i64 d.X),.M (cP d fun _ _=>0).length (aI (cP d fun _ _=>0))]]:=⟨_,rfl⟩
 have dn:(H1.jn hid).C=H1.C:=rfl;have g1:H2.get H1.C=some (.L 0 64 [.lit (.int .i64 d.X),.M (cP d fun _ _=>0).length (aI (cP d fun _ _=>0))]):=by rw[hH2,<- dn];exact bX
 have o2:∀j,j<H1.C->j≠hid->H2.get j=H1.get j:=fun j h h'=>by rw[hH2,bK (by rw[dn];exact h)];exact xa h h'
 have n2:H2.C=H1.C+1:=by rw[hH2];rfl
 have k0:=ae ((o2 H.C U U).trans g0);have k1:=ae g1;rw[<- hH2];clear hH2;simp only[go_sem,k0,dn];refine aE.nl (BQ d cs hf.nn U _ _ ⟨trivial,?_⟩);simp only[go_sem];have dl:(bf (aV d)).length=(aV d).length:=by simp[bf]
 have dl8:(aV d).length<=d.I.length:=kY;refine W.aM 1099511625800 (by rfl) (fun ρ Hx=>∃(k:Nat) (ov:Ty),ρ 6=aa k/\k<=(aV d).length/\TC H2 Hx/\ρ 3=ov/\bE H2.C Hx 118 2 ov k (dh ((bt d).take k))) (fun ρ H=>(aV d).length-(iv (ρ 6)).toNat) ?_ ?_
 ·simp only[go_sem];exact⟨0,_,rfl,U,.refl _,rfl,.nil⟩
 rintro ρ Hx ⟨k,ov,h6,hk,hov,h3,hO⟩;refine W.en (fun E=>E 3=ov /\ E 4=.Y H1.C 0 0 /\ E 5=ag (bf (aV d)) /\ E 6=aa k) (by simp only[go_sem,h3,h6]) fun E ⟨e3,e4,e5,e6⟩=>?_
 refine W.vs ?_;have x1:=(hov.Z (g:=0) (by omega:H1.C<H2.C)).trans k1;have onx:=hov.C;by_cases hb:(k:Int)<(aV d).length
 ·obtain⟨v,hv⟩:=az (l:=aV d) (i:=k) U;obtain⟨v1,v2,_⟩:=jk hv;obtain⟨x,hx⟩:=az v1;have hvi:(bf (aV d))[k]?=some (v:Int):=by unfold bf;rw[List.getElem?_map,hv];rfl
  have hvne:=bb hvi;have hfx:=kf (c:=fun _ _=>0) hx;have f0:=gO hfx;have f2:=nM hfx;have fne:=dN hfx;have hvl:(v:Int)<(cP d fun _ _=>0).length:=by rw[ke];omega
  have w1:=PW ((k:Int)+1) U;have hrc:dy d v=(((dP d (fun _ _=>0) (aV d).length v x).O.length:Int),(dP d (fun _ _=>0) (aV d).length v x).J):=by
   rw[qk hx v2];unfold dy;rw[hx];have:=(hok.n.dec v x hx v2).1;simp[this,ef]
  generalize dP d (fun _ _=>0) (aV d).length v x=y at f0 f2 hrc;obtain⟨ov',Hj,hA,hO',hnj,hpj⟩:=jv (P:=prog) (t:=116) (xs:=[aa y.O.length,aa y.J]) Try.underlying116 Try.wG Try.wI rfl rfl (by rw[Try.wH];omega) hO onx rfl;simp only[aa]at hA;simp only[go_sem,e5,e6,dl,hb];refine W.dr 22 [0,0,2,0,0,24,56,126,254,510,1022,0,2048,0,0,24576,57344,129024,260096,522240,1048574,2097150] mixed ?_;simp only[go_sem,e3,e4,e5,e6,dl,hb,hvi,hvne,x1,f0,f2,fne,hvl,w1,hA,av];have hrg:(bt d)[k]?=some (dy d v):=by unfold bt;rw[List.getElem?_map,hv];rfl
  refine⟨U,⟨k+1,ov',rfl,U,⟨U,fun id h=>(hpj id U (hO.ne h)).trans (hov.nb id h)⟩,rfl,?_⟩,by rw[h6];simp only[aa,aK];omega⟩;rw[aO hrg,BC,hrc];exact hO'
 ·have hke:k=(aV d).length:=U
  simp only[go_sem,e3,e5,e6,dl,hb];have hrl:(bt d).length=(aV d).length:=by simp[bt]
  rw[hke,PY U]at hO;rcases hO with ⟨h,hz,hc⟩|⟨id,gg,k1,k2,h,k4,k5⟩
  ·refine aw.mk (by have:=o1.C;omega) (hK _ _ ?_);rw[h,hrl,hz,hc];exact .nil
  ·refine aw.mk (by have:=o1.C;omega) (hK _ _ ?_);rw[h,hrl];refine .V (by have:=o1.C;omega) k5 k4 fun j hj h2 h'=>?_;have e0:(0:Nat)+j=j:=Nat.zero_add j;have h3:j<(dh (bt d)).length:=U;obtain⟨v,hv⟩:=Oj _ _ (Qn h3);have:TW H.C Hx (dh (bt d))[j] (dh (bt d))[j]:=(by rw[hv];exact .lit _);simpa only[e0] using this
def gj.mono {H':Tz}(h:gj id d cs H)(hn:H.C<=H'.C)(ho:∀i,i<H.C->H'.get i=H.get i):gj id d cs H' :=
 ⟨h.1,h.2.imp (fun x=>x) fun ⟨h3,h4,h5⟩=>⟨h3,U,(ho _ h4).trans h5⟩⟩
def gj.Cg (h:gj id d cs H){f:FuncId}{K:TF->Tz->Prop}{rest:List Ty}(hr:∀a∈rest,∀(S:Nat->Prop) (H:Tz) (nx:Nat),Fz S H nx a a)(hc:af prog G0 f (gh d :: rest) H K):af prog G0 f (bO d cs :: rest) H K:=by
 have wk:∀ {e:Nat->Prop} {cs':List Ty},TH e d.I cs'->af prog G0 f (bO d cs' :: rest) H K:=fun {e cs'} hq=>af.qy aT (args':=gh d :: rest) rfl (fun i hi _=>match i,hi with|0,_=>xb hq|i+1,hi=>hr _ (Qn (l:=rest) (by simpa using hi)) _ _ _) hc;obtain⟨_,h|⟨⟨A,xh,h⟩,_,hg⟩⟩:=h
 ·exact wk h
 ·obtain⟨cs',h1,h2,h3⟩:=BS h hg;exact af.emp (args':=bO d cs' :: rest) rfl (fun i hi _=>match i,hi with|0,_=>BU h2 h3 0 Tu Tu|i+1,hi=>.same _) (wk h1)
def HolY.fz {A:Nat}{xh:TA}(h:HolY id d cs A xh)(hlt:id<H.C):∀i (_:i<[bO d cs].length) (_:i<[bO d cs].length),Fz (fun j=>j≠id) H H.C [bO d cs][i] [bO d cs][i]:=fun i hi _=>by
 match i,hi with
 |0,_ =>
  refine .agg rfl fun j hj _=>?_
  match j,hj with
  |0,_=>exact .lit _
  |1,_ =>
   rw[h.cs];refine .M rfl fun k h1 h2=>lO (.cK _) (.V hlt fun h=>h rfl) k h1 h2
  |2,_=>exact .lit _
  |3,_=>exact .M rfl fun j h h'=>pY d.Q _ (Qn h)
def Ci (h:gj id d cs H)(hok:TR d)(K:TF->Tz->Prop)(hK:K (.ret (.M (bt d).length (dh (bt d)))) H):af prog G0 57 [bO d cs] H K:=by
 obtain⟨hf,h|⟨⟨A,xh,h⟩,hlt,hg⟩⟩:=h
 ·exact NQ d cs h hf hok H K hK
 ·have hh:=af.hole (P:=prog) (f:=57) (args:=[bO d cs]) (args':=[bO d cs]) (v':=.M (bt d).length (dh (bt d))) aT hg hlt rfl (h.fz hlt) (Ol d A id 0 xh h.at' h.O h.dec cs h.cs hf hok (ly H id) h.J hlt ((qK H id).trans hg) _ fun v H' hv=>⟨v,rfl,hv⟩);exact hh.mono fun r H' ⟨h1,h2⟩=>by subst h1;subst h2;exact hK
def xt (hc:1<=c):∀k:Nat,1<=c ^ k:=fun k=>by
 induction k with
 |zero=>simp
 |succ k ih=>rw[Sp];have:=QI ih hc U U;omega
def O8 {p:Int}(hc:1<=c):min 4097 (min 4097 p*c)=min 4097 (p*c):=by
 rcases Int.le_total p 4097 with h|h
 ·rw[Int.min_eq_right h]
 ·rw[S6 h];have h1:4097*1<=4097*c:=Qx hc Tv;have h2:p*1<=p*c:=Qx hc U;rw[S6 U,S6 U]
def O9 (h:gj id d cs H)(hok:TR d)(K:TF->Tz->Prop)(hK:K (.ret (aa (min 4097 (dZ d)))) H):af prog G0 15 [bO d cs] H K:=by
 refine af.nl ⟨_,func15,rfl,rfl⟩ fun hcl=>?_;have n8:=hok.n.n1;refine af.st (n:=33) (rs:=[.tmp 2]) func15 ?_;simp only[go_sem,fQ,fF];obtain⟨H1,hH1⟩:∃H1,H1=ext H [.L 0 39 [.lit (.int .i64 d.X),.M d.I.length cs,.lit (.int .u64 (d.nn:Int)),.M d.Q.length (aL d.Q)]]:=⟨_,rfl⟩
 have o1:TC H H1:=hH1▸.ext _ _
 rw[<- hH1];clear hH1;refine aE.nl (Ci (h.mono o1.C o1.nb) hok _ ⟨trivial,?_⟩);have rr:=nG hok;have rl:=pT d;have dl8:(aV d).length<=d.I.length:=kY;unfold dZ wz at hK;generalize bt d=L at rr rl hK;have rpos:∀l:List (Int × Int),(∀p∈l,p∈L)->∀c∈bx l,1<=c:=fun l hl=>lS fun p hp=>(rr p (hl p hp)).2.2.1;simp only[go_sem];refine W.aM 4294966888 (by rfl) (fun ρ Hx=>Hx=H1/\∃k:Nat,ρ 5=aa k/\k<=L.length/\ρ 3=aa (min 4097 (au (bx (L.take k))))) (fun ρ H=>L.length-(iv (ρ 5)).toNat) ?_ ?_
 ·simp only[go_sem];exact⟨0,rfl,U,rfl⟩
 rintro ρ Hx ⟨rfl,k,h5,hk,h3⟩;obtain⟨m,hm⟩:∃m,m=au (bx (L.take k)):=⟨_,rfl⟩
 have hm1:1<=m:=by rw[hm];exact fB (rpos _ fun p hp=>Qk hp)
 rw[<- hm]at h3;refine W.en (fun E=>E 3=aa (min 4097 m) /\ E 4=.M L.length (dh L) /\ E 5=aa k) (by simp only[go_sem,h3,h5]) fun E ⟨e3,e4,e5⟩=>?_
 refine W.vs ?_;by_cases hb:(k:Int)<L.length
 ·obtain⟨⟨c1,c2⟩,hp⟩:=az (l:=L) (i:=k) U;obtain⟨r1,r2,r3,r4⟩:=rr _ (an hp);dsimp only at r1 r2 r3 r4;have p0:=wY hp;have p1:=BA hp;have pne:=BB hp;have w1:=PW ((k:Int)+1) U;simp only[go_sem,e4,e5,hb];refine W.aM 4294934600 (by rfl) (fun ρ2 Hy=>Hy=Hx/\∃j:Nat,ρ2 6=aa j/\(j:Int)<=c1/\ρ2 3=aa (min 4097 (m*c2 ^ j))) (fun ρ2 H=>c1.toNat-(iv (ρ2 6)).toNat) ?_ ?_
  ·simp only[go_sem,e3];exact⟨0,rfl,U,by rw[SW,Su]⟩
  rintro ρ2 Hy ⟨rfl,j,h6,hj,h3'⟩;obtain⟨q,hq⟩:∃q,q=m*c2 ^ j:=⟨_,rfl⟩
  have hq1:1<=q:=by rw[hq];have:=Qx (xt r3 j) (show 0<=m by omega);omega
  rw[<- hq]at h3';refine W.en (fun E2=>E2 3=aa (min 4097 q) /\ E2 4=.M L.length (dh L) /\ E2 5=aa k /\ E2 6=aa j) (by simp only[go_sem,h3',e4,e5,h6]) fun E2 ⟨f3,f4,f5,f6⟩=>?_
  refine W.vs ?_;by_cases hb2:(j:Int)<c1
  ·have w2:=PW ((j:Int)+1) U;have hmin:1<=min 4097 q/\min 4097 q<=4097:=U;have hmc:0<=min 4097 q*c2/\min 4097 q*c2<=4097*4:=⟨Ry U U,QI hmin.2 r4 U U⟩
   have w3:=PW (min 4097 q*c2) U;have hst:(if min 4097 q*c2<4097 then min 4097 q*c2 else 4097)=min 4097 (m*c2 ^ (j+1)):=by
    rw[Sp,<- Sv,<- hq,<- O8 r3];omega
   simp only[go_sem,f3,f4,f5,f6,p0,p1,pne,hb,hb2,w2,w3,hst];exact⟨⟨j+1,rfl,U,rfl⟩,by rw[h6];simp only[aa,aK];omega⟩
  ·have hjc:(j:Int)=c1:=U;simp only[go_sem,f3,f4,f5,f6,p0,pne,hb,hb2,w1];refine⟨⟨k+1,rfl,U,?_⟩,by rw[h5];simp only[aa,aK];omega⟩;rw[aO hp,AG,kV,wB,<- hm,hq,show c1.toNat=j by omega]
 ·simp only[go_sem,e3,e4,e5,hb];rw[hm,show k=L.length by omega,PY Tx];exact aw.bJ (v':=aa (min 4097 (au (bx L)))) aT hcl o1 (.lit _) hK
def O6 {l:List (Int × Int)}{p:Int × Int}(h:l[k]?=some p)(i:Int):(eP l i).drop k=((ic (bx (l.drop k)) i).take p.1.toNat) :: (eP l i).drop (k+1):=pV (sV i h)
def O7 (h:gj id d cs H)(hok:TR d)(i0:Int)(hi0:0<=i0/\i0<9223372036854775808)(K:TF->Tz->Prop)(hK:K (.ret (av (eP (bt d) i0))) H):af prog G0 16 [bO d cs,aa i0] H K:=by
 refine af.nl ⟨_,func16,rfl,rfl⟩ fun hcl=>?_;have n8:=hok.n.n1;refine af.st (n:=61) (rs:=[.tmp 4]) func16 ?_;simp only[go_sem,fQ,fF];obtain⟨H1,hH1⟩:∃H1,H1=ext H [.L 0 39 [.lit (.int .i64 d.X),.M d.I.length cs,.lit (.int .u64 (d.nn:Int)),.M d.Q.length (aL d.Q)]]:=⟨_,rfl⟩
 have o1:TC H H1:=hH1▸.ext _ _
 have n1:H1.C=H.C+1:=hH1▸rfl
 rw[<- hH1];clear hH1;refine aE.nl (Ci (h.mono o1.C o1.nb) hok _ ⟨trivial,?_⟩);have rr:=nG hok;have rl:=pT d;have dl8:(aV d).length<=d.I.length:=kY;have hpl:=wD (bt d) i0;generalize bt d=L at rr rl hK hpl;have rpos:∀l:List (Int × Int),(∀p∈l,p∈L)->∀c∈bx l,1<=c:=fun l hl=>lS fun p hp=>(rr p (hl p hp)).2.2.1;have hLb:(L.length:Int)*24<=2 ^ 46/\(L.length:Int)<=2 ^ 46:=U
 have w0:=PW ((L.length:Int)-1) U;simp only[go_sem,hLb,w0];obtain⟨R,hR⟩:∃R,R=ext H1 [.L 0 59 (List.replicate L.length (.lit (.slice none 0 0)))]:=⟨_,rfl⟩
 have nR:R.C=H1.C+1:=hR▸rfl
 have oR:TC H1 R:=hR▸.ext _ _
 have kR:=dA hR
 rw[<- hR];clear hR;obtain⟨V,hV⟩:∃V,V=eP L i0:=⟨_,rfl⟩
 rw[<- hV]at hpl hK
 let pv:Nat->List Ty:=fun k=>List.replicate k (.lit (.slice none 0 0))++(V.drop k).map ag
 have pvl:∀k,k<=L.length->(pv k).length=L.length:=fun k hk=>by show (_++_:List Ty).length=_;simp;omega
 have hdv:∀l:List (Int × Int),(∀p∈l,p∈L)->1<=au (bx l):=fun l hl=>fB (rpos l hl);refine W.aM 1152921504606716290 (by rfl) (fun ρ Hx=>∃k:Nat,ρ 7=.lit (.int .i64 ((k:Int)-1))/\k<=L.length/\ρ 1=aa (i0 / au (bx (L.drop k)))/\R.C<=Hx.C/\(∀id,id<H1.C->Hx.get id=H1.get id)/\Hx.get H1.C=some (.L 0 59 (pv k))) (fun ρ H=>(iv (ρ 7)+1).toNat) ?_ ?_
 ·simp only[go_sem];refine⟨L.length,rfl,Tx,?_,oR.nb,?_⟩
  ·rw[List.drop_length];show aa i0=aa (i0 / 1);rw[Int.ediv_one]
  ·rw[kR];show _=some (TE.L 0 _ (_++_));rw[SA U];simp
 rintro ρ Hx ⟨k,h7,hk,h1,hnx,hold,htop⟩;refine W.en (fun E=>E 1=aa (i0 / au (bx (L.drop k))) /\ E 5=.M L.length (dh L) /\ E 6=.V H1.C 0 0 L.length 1 /\ E 7=.lit (.int .i64 ((k:Int)-1))) (by simp only[go_sem,h1,h7]) fun E ⟨e1,e5,e6,e7⟩=>?_
 refine W.vs ?_;rcases k with _|m
 ·simp only[go_sem,e6,e7];have hp0:pv 0=V.map ag:=rfl;rw[hp0]at htop;refine aw.bJ (v':=av V) aT hcl ⟨U,fun id h=>by rw[hold id U];exact o1.nb id h⟩ ?_ hK;have hO:ay H.C Hx 59 (.V H1.C 0 0 L.length 1) (V.map ag):=.inr ⟨H1.C,0,U,U,by rw[P8,hpl],htop⟩;have:=hO.fz (S:=fun id=>H.C<=id) (nx:=H.C) (cs':=V.map ag) (fun i h=>h) rfl fun i hi _=>by simp only[P4];exact .cK _
  rw[P8]at this;exact this
 ·obtain⟨⟨c1,c2⟩,hp⟩:=az (l:=L) (i:=m) U;obtain⟨r1,r2,r3,r4⟩:=rr _ (an hp);dsimp only at r1 r2 r3 r4;have p0:=wY hp;have p1:=BA hp;have pne:=BB hp;have hm1:((m+1:Nat):Int)-1=m:=U
  rw[hm1]at e7;have hmL:(m:Int)<L.length:=U
  have hm0:(m:Int) >= 0:=U
  obtain⟨n,hn⟩:∃n:Nat,c1=n:=⟨c1.toNat,U⟩
  subst hn;have hcb:(n:Int)*8<=2 ^ 46/\(n:Int)<=2 ^ 46:=U
  have hrep:List.replicate n (Ty.lit (.int .i64 0))=ints (List.replicate n 0):=by simp[ints,aa]
  have w1:=PW ((n:Int)-1) U;have w2:=PW ((m:Int)-1) U;have l6:=ae htop;have l6e:∀L,(ext Hx L).Z H1.C 0=_:=fun L=>(dB U).trans l6;have hcl':=pvl (m+1) hk;have hspl:pv (m+1)=List.replicate m (.lit (.slice none 0 0))++.lit (.slice none 0 0) :: (V.drop (m+1)).map ag:=by show _++_=_;rw[RX,List.append_assoc];rfl
  have hset:∀v,setAt (pv (m+1)) m [v]=List.replicate m (.lit (.slice none 0 0))++v :: (V.drop (m+1)).map ag:=fun v=>by rw[hspl,Po Tu]
  simp only[go_sem,e5,e6,e7,p0,pne,hmL,hm0,hcb,hrep,w1,l6e,hset,hcl'];refine⟨hk,?_⟩;obtain⟨Rr,hRr⟩:∃Rr,Rr=bx (L.drop (m+1)):=⟨_,rfl⟩
  have hck:bx (L.drop m)=List.replicate n c2++Rr:=by rw[pV hp,sU,hRr];rfl
  obtain⟨pw,hpw⟩:∃pw,pw=(ic (bx (L.drop m)) i0).take n:=⟨_,rfl⟩
  have hVm:V.drop m=pw :: V.drop (m+1):=by
   have:=O6 hp i0;rw[<- hV]at this;rw[this,hpw];rfl
  have hpwl:pw.length=n:=by rw[hpw,P9,A6,hck,List.length_append,Qi];omega
  have hRpos:1<=au Rr:=by rw[hRr];exact hdv _ fun p hp=>QV hp
  obtain⟨tc,htc⟩:∃tc:List Ty,tc=List.replicate m (.lit (.slice none 0 0))++.V Hx.C 0 0 n 1 :: (V.drop (m+1)).map ag:=⟨_,rfl⟩
  have tg:tc[m]?=some (.V Hx.C 0 0 n 1):=by rw[htc,Qc Tu,Qi,RN];rfl
  have tne:=bb tg;have tcl:tc.length=L.length:=by rw[htc];simp;omega
  obtain⟨Hz,hHz⟩:∃Hz,Hz=(ext Hx [.L 0 3 (ints (List.replicate n 0))]).upd H1.C (.L 0 59 tc):=⟨_,rfl⟩
  rw[<- htc,<- hHz];have z1:Hz.C=Hx.C+1:=by rw[hHz,aq,bh];rfl
  have z2:∀id,id<H1.C->Hz.get id=H1.get id:=fun id h=>by rw[hHz,ab,PX U,bK U];exact hold id h
  have z3:Hz.get H1.C=some (.L 0 59 tc):=by rw[hHz,ab,PZ rfl]
  have z4:Hz.get Hx.C=some (.L 0 3 (ints (List.replicate n 0))):=by rw[hHz,ab,PX U];exact bX
  clear hHz;refine W.aM 1152921435887370498 (by rfl) (fun ρ2 Hy=>∃j:Nat,ρ2 8=.lit (.int .i64 ((j:Int)-1))/\j<=n/\ρ2 1=aa (i0 / au (List.replicate (n-j) c2++Rr))/\Hy.C=Hx.C+1/\(∀id,id<H1.C->Hy.get id=H1.get id)/\Hy.get H1.C=some (.L 0 59 tc)/\Hy.get Hx.C=some (.L 0 3 (ints (List.replicate j 0++pw.drop j)))) (fun ρ2 H=>(iv (ρ2 8)+1).toNat) ?_ ?_
  ·simp only[go_sem,e1];exact⟨n,rfl,Tx,by rw[RN,hRr];rfl,z1,z2,z3,by rw[z4,SA U,List.append_nil]⟩
  clear z2 z3 z4;rintro ρ2 Hy ⟨j,h8,hj,h1',y1,y2,y3,y4⟩;refine W.en (fun E2=>E2 1=aa (i0 / au (List.replicate (n-j) c2++Rr)) /\ E2 5=.M L.length (dh L) /\ E2 6=.V H1.C 0 0 L.length 1 /\ E2 7=.lit (.int .i64 (m:Int)) /\ E2 8=.lit (.int .i64 ((j:Int)-1))) (by simp only[go_sem,h1',e5,e6,e7,h8]) fun E2 ⟨f1,f5,f6,f7,f8⟩=>?_
  rcases j with _|u
  ·rw[Nat.sub_zero,<- hck]at f1;obtain⟨Hm,hHm⟩:∃Hm,Hm=Hy.eM Hx.C H1.C (.L 0 59 (pv m)):=⟨_,rfl⟩
   have hpm:pv m=List.replicate m (.lit (.slice none 0 0))++ag pw :: (V.drop (m+1)).map ag:=(by show _++_=_;rw[hVm];rfl);refine W.yw (s:=⟨E2,Hy⟩) (s':=⟨E2,Hm⟩) (hHm ▸ cq.eM aT (n:=Hx.C) (ob:=H1.C) (cells':=pv m) y3 (by rw[tcl,pvl m U]) (fun _=>?_)) (by rw[hHm];exact Nat.le_refl _) trivial ?_
   ·rw[htc,hpm];have hO:ay Hx.C Hy 3 (.V Hx.C 0 0 n 1) (ints pw):=.inr ⟨Hx.C,0,Tx,U,by rw[aR,hpwl],by rw[y4];rfl⟩;refine Co (fun v hv=>?_) (hO.dW fun i hi=>⟨hi,U⟩) fun v hv=>?_
    ·rw[Qv hv];exact .lit _
    ·obtain⟨z,_,rfl⟩:=Qm.1 hv;exact .cK _
   refine W.vs ?_;simp only[go_sem,f1,f6,f7,f8,w2];have hmn:Hm.C=Hy.C:=(by rw[hHm];rfl);exact⟨U,⟨m,rfl,U,rfl,U,fun id h=>by rw[hHm,sM U U];exact y2 id h,by rw[hHm,sL]⟩,by rw[h7];simp only[aK];omega⟩
  ·have hu1:((u+1:Nat):Int)-1=u:=U;rw[hu1]at f8;have hu0:(u:Int) >= 0:=U;have hul:(u:Int)<n:=U;obtain⟨q,hq⟩:∃q,q=au (List.replicate (n-(u+1)) c2++Rr):=⟨_,rfl⟩
   have hq1:1<=q:=by
    rw[hq,kV,wB];have:=QI (xt r3 (n-(u+1))) hRpos U (by have:=xt r3 (n-(u+1));omega);omega
   rw[<- hq]at f1;obtain⟨X,hX⟩:∃X,X=i0 / q:=⟨_,rfl⟩
   rw[<- hX]at f1;have X0:0<=X:=(by rw[hX];exact SE hi0.1 U);have X1:X<=i0:=(by rw[hX];exact S1 _ hi0.1);have c20:¬c2=0:=U;have t1:X.tmod c2=X % c2:=Qp X0;have t2:X.tdiv c2=X / c2:=Sn X0;have d0:=QY X c20;have d1:=QS X (show 0<c2 by omega);have d2:0<=X / c2:=SE X0 U;have d3:X / c2<=X:=S1 _ X0;have w3:=PW (X % c2) U;have w4:=PW (X / c2) U;have w5:=PW ((u:Int)-1) U;have hdr:pw.drop u=X % c2 :: pw.drop (u+1):=by
    refine pV ?_;rw[hpw,Qz U,hck,AJ (c:=c2) (by rw[P3 (by simp;omega),RH,PZ U]),S0 (by simp;omega),Ts,<- hq,<- hX]
   have hrw:setAt (ints (List.replicate (u+1) 0++pw.drop (u+1))) u [.lit (.int .i64 (X % c2))]=ints (List.replicate u 0++pw.drop u):=by
    rw[ij (by simp;omega),hdr,RX,List.append_assoc];congr 1;rw[QL _ _ Tu];simp
   have hrl:(List.replicate (u+1) (0:Int)++pw.drop (u+1)).length=n:=(by simp;omega);have hrn:¬ints (List.replicate (u+1) 0++pw.drop (u+1))=[]:=fun h=>by have:=congrArg List.length h;rw[aR,hrl]at this;simp at this;omega
   have k6:=ae y3;have kr:=ae y4;have hq2:au (List.replicate (n-u) c2++Rr)=q*c2:=by
    rw[show n-u=(n-(u+1))+1 by omega,QM,List.cons_append,lW,<- hq,Sa]
   refine W.vs ?_;simp only[go_sem,f8,hu0];refine W.dr 12 [0,0,3,7,0,0,0,0,192,448,960,2016] mixed ?_;simp only[go_sem,f1,f5,f6,f7,f8,p1,pne,hmL,hm0,hul,hu0,k6,kr,tg,t1,t2,w4,w5,c20,hrw,hrl,aR];refine⟨U,by rw[aq];omega,⟨u,rfl,U,by rw[hq2,hX,Td U],by rw[aq];exact y1,fun id h=>by rw[ab,PX U];exact y2 id h,by rw[ab,PX U];exact y3,by rw[ab,PZ rfl]⟩,by rw[h8];simp only[aK];omega⟩
def Cj {a b:List α}{x:α}(h:a.take k=b.take k)(ha:a[k]?=some x)(hb:b[k]?=some x):a.take (k+1)=b.take (k+1):=by
 rw[aO ha,aO hb,h]
def Ck {a b:List α}(h:a.take k=b.take k)(ha:a.length<=k)(hb:b.length<=k):a=b:=by
 rw[PY ha,PY hb]at h;exact h
def Pa (a b:List (List Int))(ha:(a.length:Int)<2 ^ 62)(har:∀r∈a,(r.length:Int)<2 ^ 62)(H:Tz)(K:TF->Tz->Prop)(hK:K (.ret (.lit (.bool (decide (a=b))))) H):af prog G0 17 [av a,av b] H K:=by
 refine af.st (n:=53) (rs:=[.tmp 4]) func17 ?_;have no:a≠b->aw prog G0 H K (.lit (.bool false)) H:=fun h=>by
  rw[RM h]at hK;exact aw.mk Tx hK
 by_cases hl:(a.length:Int)=b.length;rotate_left
 ·simp only[go_sem,av,hl];exact no fun h=>hl (by rw[h])
 simp only[go_sem,av,hl];refine W.aM 9007199254737008 (by rfl) (fun ρ Hx=>Hx=H/\∃k:Nat,ρ 5=aa k/\k<=a.length/\a.take k=b.take k) (fun ρ H=>a.length-(iv (ρ 5)).toNat) ?_ ?_
 ·simp only[go_sem];exact⟨0,rfl,U,rfl⟩
 rintro ρ Hx ⟨rfl,k,h5,hk,he⟩;refine W.vs ?_;by_cases hb:(k:Int)<a.length;rotate_left
 ·simp only[go_sem,h5,hl];have hab:a=b:=Ck he U U;rw[Rx hab]at hK;have hb2:¬(k:Int)<b.length:=U
  simp only[go_sem,hb2];exact aw.mk Tx hK
 obtain⟨x,hx⟩:=az (l:=a) (i:=k) U;obtain⟨y,hy⟩:=az (l:=b) (i:=k) U;have hx':(a.map ag)[k]?=some (ag x):=by rw[List.getElem?_map,hx];rfl
 have hy':(b.map ag)[k]?=some (ag y):=by rw[List.getElem?_map,hy];rfl
 have hxn:=bb hx;have hyn:=bb hy;have hb2:(k:Int)<b.length:=U
 have hxr:=har x (an hx);have w1:=PW ((k:Int)+1) U;have nxy:x≠y->a≠b:=fun h e=>h (by subst e;rw[hx]at hy;exact Option.some.inj hy);simp only[go_sem,h5,hl,hb2];refine W.dr 10 [0,0,3,7,15,0,0,96,224,480] mixed ?_;by_cases hxy:(x.length:Int)=y.length;rotate_left
 ·simp only[go_sem,h5,hb,hb2,hx',hy',hxn,hyn,hxy];exact no (nxy fun e=>hxy (by rw[e]))
 simp only[go_sem,h5,hb,hb2,hx',hy',hxn,hyn,hxy];refine W.aM 9007198717870160 (by rfl) (fun ρ2 Hz=>Hz=Hx/\∃j:Nat,ρ2 6=aa j/\j<=x.length/\x.take j=y.take j) (fun ρ2 H=>x.length-(iv (ρ2 6)).toNat) ?_ ?_
 ·simp only[go_sem];exact⟨0,rfl,U,rfl⟩
 rintro ρ2 Hz ⟨rfl,j,h6,hj,he2⟩;refine W.vs ?_;by_cases hc:(j:Int)<y.length;rotate_left
 ·simp only[go_sem,h5,h6,hb,hx',hxn,hxy,hc,w1];have hxy2:x=y:=Ck he2 U U;exact⟨⟨k+1,Tu,U,Cj he hx (by rw[hxy2];exact hy)⟩,U⟩
 obtain⟨u,hu⟩:=az (l:=x) (i:=j) U;obtain⟨v,hv⟩:=az (l:=y) (i:=j) U;have hun:=bb hu;have hvn:=bb hv;have hc2:(j:Int)<x.length:=U
 have w2:=PW ((j:Int)+1) U;simp only[go_sem,h5,h6,hb,hx',hxn,hxy,hc];refine W.dr 14 [0,0,3,7,0,31,63,0,0,384,896,0,3968,8064] mixed ?_;by_cases huv:u=v
 ·subst huv;simp only[go_sem,h5,h6,hb,hb2,hx',hy',hxn,hyn,hxy,hc,hu,hv,hun,hvn,w2];exact⟨⟨j+1,Tu,U,Cj he2 hu hv⟩,U⟩
 ·simp only[go_sem,h5,h6,hb,hb2,hx',hy',hxn,hyn,hxy,hc,hu,hv,hun,hvn,huv];exact no (nxy fun e=>huv (by subst e;rw[hu]at hv;exact Option.some.inj hv))
end Go.Proofs
