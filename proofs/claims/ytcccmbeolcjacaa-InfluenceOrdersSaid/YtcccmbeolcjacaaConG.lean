/- Own work: contracts. -/
import Derived.Test.YtcccmbeolcjacaaConE
import Derived.Test.YtcccmbeolcjacaaConF
import Derived.Test.YtcccmbeolcjacaaLibC
import Derived.Test.YtcccmbeolcjacaaConD
import Derived.Test.YtcccmbeolcjacaaLibB
import Derived.Test.YtcccmbeolcjacaaConB
import Derived.Test.YtcccmbeolcjacaaProg
import Derived.Test.YtcccmbeolcjacaaConA
set_option linter.all false
set_option maxHeartbeats 8000000
set_option maxRecDepth 100000
namespace Go.Proofs
open Go.Hx
variable {d:S5}
def OU (hn:Te d)(hsz:aK (ay d.I)<=1024):bt d=dY d fun _ _=>0:=by
 apply Qn;intro v;rcases PZ v d.I.length with hv|hv
 ·obtain⟨x,hx⟩:=aw hv;rw[lS hx,lX hx];unfold eY;by_cases hb:d.Z.testBit v=true
  ·obtain⟨x1,x2⟩:=hn.dec v x hx hb;have hc:=hn.J x (PA hx);rw[PG ⟨hb,x1,hc.1,hc.2⟩,w7 hx hb];have hle:=te x2 hn.J;rw[Bl (fun q hq=>by have:=x2.2 q hq;omega) hn.J U,x1,List.nil_append];congr 2;unfold eL cZ;rw[List.map_const',Rf]
  ·rw[PC fun h=>hb h.1,pP hb]
 ·rw[PN (by rw[fA];exact hv),PN (by rw[lW];exact hv)]
def xw (d:S5)(v:Nat)(x:S3):(eY d v x).J=x.J/\(eY d v x).F=x.F:=by
 unfold eY;split<;>exact⟨rfl,rfl⟩
def xx (d:S5):ay (bt d)=ay d.I:=by
 apply Qn;intro v;unfold ay;rw[List.getElem?_map,List.getElem?_map];rcases PZ v d.I.length with hv|hv
 ·obtain⟨x,hx⟩:=aw hv;rw[lS hx,hx];simp[(xw d v x).1]
 ·rw[PN (by rw[fA];exact hv),PN hv]
structure RightA (d:S5):Prop where
 n1:1<=d.I.length/\d.I.length<=8
 Z:d.Z >>> d.I.length=0
 ul:d.Q.length<=4
def xy (d:S5)(k:Nat):Prop:=∀v x,v<k->d.I[v]?=some x->d.Z.testBit v=true->x.O=[]
def jq :Tj d↔RightA d/\xy d d.I.length/\To d.X (bt d)/\∀u∈d.Q,Tp d.I u:=by
 constructor
 ·intro h;refine⟨⟨h.n.n1,h.n.Z,h.Q.1⟩,fun v x _ hx hb=>(h.n.dec v x hx hb).1,?_,h.Q.2⟩;rw[Nk h];exact h.net
 ·rintro⟨ha,hd,hn,hu⟩;have hg:∀x∈d.I,(1<=x.J/\x.J<=4)/\bG x.F d.I.length:=fun x hx=>by
   obtain⟨v,hv⟩:=PU.1 hx;have h1:=hn.node _ (PA (lS hv));rw[(xw d v x).1,(xw d v x).2,fA]at h1;exact h1
  have hR:Te d:=⟨ha.n1,ha.Z,fun x hx=>(hg x hx).1,fun v x hx hb=>⟨hd v x (aI hx) hx hb,(hg x (PA hx)).2⟩⟩
  have hs:=hn.size;rw[xx]at hs;exact⟨hR,by rw[<- OU hR hs];exact hn,ha.ul,hu⟩
def OV (hf:Th d){v:Nat}{x:S3}(hx:x∈d.I):((eY d v x).F.length:Int)<2 ^ 38/\((eY d v x).O.length:Int)<2 ^ 38/\∀r∈(eY d v x).O,(r.length:Int)<2 ^ 38:=by
 obtain⟨h1,h2,h3⟩:=hf.I.2 x hx;unfold eY;split
 ·rename_i hc;have hr:=pL d.I x.F;refine⟨h1,by simp;omega,fun r hr=>?_⟩;rw[Qf hr,pQ];omega
 ·exact⟨h1,h2,h3⟩
def B3 (hf:Th d):nM (bt d):=by
 refine⟨by rw[fA];exact hf.I.1,fun y hy=>?_⟩;obtain⟨v,hv⟩:=PU.1 hy;have hl:=aI hv;rw[fA]at hl;obtain⟨x,hx⟩:=aw hl;rw[lS hx]at hv;cases hv;exact OV hf (PA hx)
def B4 (ns:List S3)(h8:ns.length <= 8)(hc:∀y ∈ ns,1 <= y.J /\ y.J <= 4)(u:Tl)(f1:(u.vars.length:Int) < 2 ^ 38)(f2:(u.w.length:Int) < 2 ^ 38)(H:S2)(K:S8 -> S2 -> Prop)(hK:K (.ret (.lit (.bool (iP (Tp ns u))))) H):
    ae Try.prog G0 55 [.agg u.cells,af (ay ns)] H K := by
  refine ae.nl ⟨_,Try.func55,rfl,rfl⟩ fun hcl => ?_;have hcl':(ay ns).length=ns.length := by simp[ay]
  refine ae.sw (n := 44) (rs := [.tmp 4]) Try.func55 ?_;refine W.sq ?_;simp only[go_sem,Tl.cells,de];obtain⟨R,hR⟩:∃R,R=ext H [.L 0 85 [.M u.vars.length (ints u.vars),.M u.w.length (ints u.w)]] := ⟨_,rfl⟩
  have oR:S6 H R:=hR▸.ext _ _
  have l0:R.nn H.C 0=some (85,[.M u.vars.length (ints u.vars),.M u.w.length (ints u.w)]) := by rw[hR];exact ag (cS ..)
  rw[<- hR];have no:¬Tp ns u -> av Try.prog G0 H K (.lit (.bool false)) R := fun h => av.bQ aZ hcl oR (.lit _) (by rw[ga h]at hK;exact hK);refine W.env fun E hE => ?_;have e1:E 1=af (ay ns) := by rw[hE];simp only[go_sem,de]
  have e2:E 2 = .Y H.C 0 0 := by rw[hE];simp only[go_sem,de]
  clear hE;obtain⟨b,hb⟩:∃b:Bool,(b=true ↔ ¬(bG u.vars ns.length /\ (u.w.length:Int)=aK (bd (ay ns) u.vars))) := by
    classical exact⟨decide _,Qz⟩
  refine W.seq (W.eJ (fun s' => s'.H=R /\ s'.ρ 2 = .Y H.C 0 0 /\ s'.ρ 22 = .lit (.bool b)) ?_ ?_)
  · refine W.dr 15 [0,1,0,4,15,31,63,127,255,511,127,127,2175,7295,15487] Try.mixed ?_;simp only[go_sem,e1,e2,l0,hcl',de];refine⟨_,[],cD.pure fun H2 => BJ u.vars ns.length U H2 _ ⟨rfl,rfl⟩,?_⟩;by_cases c1:bG u.vars ns.length
    · have sm := tB h8 c1 hc;have wl := PD (u.w.length:Int) U;simp only[go_sem,e1,e2,c1,l0,de];refine⟨_,[],cD.pure fun H2 => BM (ay ns) u.vars U U (fun q hq => by have := c1.2 q hq;omega) H2 _ ⟨rfl,rfl⟩,?_⟩;simp only[go_sem,de];refine⟨_,[],cD.pure fun H2 => xb _ sm H2 _ ⟨rfl,rfl⟩,?_⟩;by_cases c2:(u.w.length:Int)=aK (bd (ay ns) u.vars)
      · have:b=false :=(by rw[<- R8,hb];exact fun h => h ⟨c1,c2⟩);simp only[go_sem,c2,de];exact⟨e2,by rw[this]⟩
      · have:b=true := hb.2 fun h => c2 h.2;simp only[go_sem,c2,de];exact⟨e2,by rw[this]⟩
    · have:b=true := hb.2 fun h => c1 h.1;simp only[go_sem,e1,e2,c1,l0,de];rw[this]
  rintro⟨ρ3,H3⟩ ⟨hH,m2,m22⟩;simp only at hH m2 m22;rw[hH];clear hH H3;refine W.vs ?_;cases hbb:b;rotate_left
  · simp only[go_sem,m22,hbb,de];exact no fun h => hb.1 hbb ⟨h.vars,h.size⟩
  have h12:bG u.vars ns.length /\ (u.w.length:Int)=aK (bd (ay ns) u.vars) := by
    apply Qa;intro h;rw[hb.2 h]at hbb;cases hbb
  simp only[go_sem,m22,hbb,de];refine W.seq ?_;refine W.sq ?_;simp only[go_sem,de];refine W.block ?_;refine W.env fun E1 hE1 => ?_;have g2:E1 2 = .Y H.C 0 0 := by rw[hE1];simp only[go_sem,m2,de]
  have g5:E1 5=aa 0 := by rw[hE1];simp only[go_sem,de]
  clear hE1;refine W.aS 17592177655856 (by rfl) (fun ρ Hx => Hx=R /\ ∃k:Nat,ρ 5=aa k /\ k <= u.w.length /\ ∀x ∈ u.w.take k,-100 <= x /\ x <= 100) (fun ρ H => u.w.length-(iv (ρ 5)).toNat) ?_ ?_
  · simp only[go_sem,g5,de];exact⟨0,rfl,U,SX⟩
  rintro ρ Hx ⟨rfl,k,h5,hk,hall⟩;refine W.env fun E2 hE2 => ?_;have a2:E2 2 = .Y H.C 0 0 := by rw[hE2];simp only[go_sem,g2,de]
  have a5:E2 5=aa k := by rw[hE2];simp only[go_sem,h5,de]
  clear hE2;refine W.vs ?_;by_cases hbk:(k:Int) < u.w.length;rotate_left
  · simp only[go_sem,a2,a5,l0,hbk,de];refine W.vs ?_;simp only[go_sem,de];rw[PF U]at hall;rw[fB (⟨h12.1,h12.2,hall⟩:Tp ns u)]at hK;exact av.bQ aZ hcl oR (.lit _) hK
  obtain⟨x,hx⟩ := aw (l := u.w) (i := k) U;have hne := bg hx;have w1 := PD ((k:Int) + 1) U;by_cases c1:x < -100
  · simp only[go_sem,a2,a5,l0,hbk,hx,hne,c1,de];exact no fun h => by have := h.w x (PA hx);omega
  by_cases c2:100 < x
  · simp only[go_sem,a2,a5,l0,hbk,hx,hne,c1,c2,de];exact no fun h => by have := h.w x (PA hx);omega
  simp only[go_sem,a2,a5,l0,hbk,hx,hne,c1,c2,w1,de];refine⟨⟨k + 1,rfl,U,fun y hy => ?_⟩,by rw[h5];simp only[aa,aM];omega⟩;rw[aT hx]at hy;rcases PT.1 hy with h |h
  · exact hall y h
  · obtain rfl := List.mem_singleton.1 h;omega
def tL {u:Tl}:Tp (bt d) u↔Tp d.I u:=by
 constructor
 ·rintro⟨a,b,c⟩;rw[fA]at a;rw[xx]at b;exact⟨a,b,c⟩
 ·rintro⟨a,b,c⟩;exact⟨by rw[fA];exact a,by rw[xx];exact b,c⟩
def OW (d:S5)(cs:List S1)(hq:Tn (fun v=>d.Z.testBit v=true) d.I cs)(hf:Th d)(H:S2)(K:S8->S2->Prop)(hK:K (.ret (.lit (.bool (iP (Tj d))))) H):ae Try.prog G0 13 [ct d cs] H K:=by
 refine ae.nl ⟨_,Try.func13,rfl,rfl⟩ fun hcl=>?_;have hl:=hf.I.1;have hul:=hf.Q.1;refine ae.sw (n:=73) (rs:=[.tmp 2]) Try.func13 ?_;refine W.sq ?_;simp only[go_sem,gL,fY];obtain⟨R,hR⟩:∃R,R=ext H [.L 0 39 [.lit (.int .i64 d.X),.M d.I.length cs,.lit (.int .u64 (d.Z:Int)),.M d.Q.length (aP d.Q)]]:=⟨_,rfl⟩
 have oR:S6 H R:=hR▸.ext _ _
 have nR:R.C=H.C+1:=hR▸rfl
 have l0:R.nn H.C 0=some (39,[.lit (.int .i64 d.X),.M d.I.length cs,.lit (.int .u64 (d.Z:Int)),.M d.Q.length (aP d.Q)]):=by rw[hR];exact ag (cS ..)
 rw[<- hR];clear hR;have no:¬Tj d->∀H',S6 R H'->av Try.prog G0 H K (.lit (.bool false)) H':=fun h H' o=>av.bQ aZ hcl (oR.trans o) (.lit _) (by rw[ga h]at hK;exact hK);refine W.en (fun E=>E 1=.Y H.C 0 0) (by simp only[go_sem]) fun E e1=>?_
 have s1:=fun t x y=>kW (P:=Try.prog) (t:=t) (x:=x) (y:=y) (k':=.i64) (s:=d.I.length) hf.Z;refine W.seq (W.eJ (fun s'=>s'.H=R/\s'.ρ 1=.Y H.C 0 0/\∃b:Bool,s'.ρ 30=.lit (.bool b)/\(b=false↔RightA d)) ?_ ?_)
 ·refine W.vs ?_;by_cases c1:(d.I.length:Int)<1
  ·simp only[go_sem,e1,l0,c1];exact⟨_,rfl,by simp;intro h;have:=h.n1;omega⟩
  by_cases c2:(d.I.length:Int) > 8
  ·simp only[go_sem,e1,l0,c1,c2];exact⟨_,rfl,by simp;intro h;have:=h.n1;omega⟩
  by_cases c3:d.Z >>> d.I.length=0;rotate_left
  ·have c3':¬((d.Z >>> d.I.length:Nat):Int)=0:=U;simp only[go_sem,e1,l0,c1,c2,c3',s1];exact⟨_,rfl,by simp;intro h;exact c3 h.Z⟩
  have c3':((d.Z >>> d.I.length:Nat):Int)=0:=U
  by_cases c4:(d.Q.length:Int) > 4
  ·simp only[go_sem,e1,l0,c1,c2,c3',c4,s1];exact⟨_,rfl,by simp;intro h;have:=h.ul;omega⟩
  ·simp only[go_sem,e1,l0,c1,c2,c3',c4,s1];exact⟨_,rfl,by simp;exact⟨U,c3,U⟩⟩
 rintro⟨ρ3,H3⟩ ⟨hH,m1,b,m30,hb⟩;simp only at hH m1 m30;rw[hH];clear hH H3;refine W.vs ?_;cases hbb:b;rotate_left
 ·simp only[go_sem,m30,hbb];exact no (fun h=>by rw[hb.2 (jq.1 h).1]at hbb;cases hbb) _ (.refl _)
 have hA:=hb.1 hbb;have n8:=hA.n1.2;simp only[go_sem,m30,hbb];refine W.en (fun E1=>E1 1=.Y H.C 0 0) (by simp only[go_sem,m1]) fun E1 f1=>?_
 clear m30 hbb hb;refine W.seq ?_;refine W.sq ?_;simp only[go_sem];refine W.block ?_;refine W.env fun E2 hE2=>?_;have g1:E2 1=.Y H.C 0 0:=by rw[hE2];simp only[go_sem,f1]
 have g3:E2 3=aa 0:=by rw[hE2];simp only[go_sem]
 clear hE2;refine W.aS 4503597479886860 (by rfl) (fun ρ Hx=>Hx=R/\∃k:Nat,ρ 3=aa k/\k<=d.I.length/\xy d k) (fun ρ H=>d.I.length-(iv (ρ 3)).toNat) ?_ ?_
 ·simp only[go_sem,g3];exact⟨0,rfl,U,fun v x h=>absurd h (PS _)⟩
 rintro ρ Hx ⟨rfl,k,h3,hk,hD⟩;refine W.en (fun E2=>E2 1=.Y H.C 0 0 /\ E2 3=aa k) (by simp only[go_sem,g1,h3]) fun E2 ⟨a1,a3⟩=>?_
 refine W.vs ?_;by_cases hbk:(k:Int)<d.I.length
 ·obtain⟨x,hx⟩:=aw (l:=d.I) (i:=k) U;have hne:=hq.ne hx;obtain⟨rv,q0,q1,q2,hdis,_⟩:=hq.node k x hx;have rvl:∀H,dH H rv=some (.lit (.int .i64 x.O.length)):=fun H=>by
   rcases hdis with h|h<;>rw[h]
   ·rfl
   ·unfold aU;split
    ·rename_i h;rw[h];rfl
    ·rfl
  have w1:=PD ((k:Int)+1) U;simp only[go_sem,a1,a3,l0,hbk];refine aH.nl (jS d.Z k hf.Z _ _ ⟨trivial,?_⟩);cases hbit:d.Z.testBit k
  ·simp only[go_sem,a3,w1];refine⟨⟨k+1,rfl,U,fun v y hv hy hb=>?_⟩,by rw[h3];simp only[aa,aM];omega⟩;rcases PZ v k with h|h
   ·exact hD v y h hy hb
   ·obtain rfl:v=k:=U;rw[hbit]at hb;cases hb
  ·by_cases hr0:x.O=[]
   ·have hr0':(x.O.length:Int)=0:=(by rw[hr0];rfl);simp only[go_sem,a1,a3,l0,w1,hbk,hne,q2,rvl,hr0'];refine⟨⟨k+1,rfl,U,fun v y hv hy hb=>?_⟩,by rw[h3];simp only[aa,aM];omega⟩;rcases PZ v k with h|h
    ·exact hD v y h hy hb
    ·obtain rfl:v=k:=U;rw[hx]at hy;cases hy;exact hr0
   ·have hr1:(0:Int)<x.O.length:=(by have:=Qv.2 hr0;omega);have hr1':0<x.O.length:=Qv.2 hr0;simp only[go_sem,a1,a3,l0,hbk,hne,q2,rvl,hr1];exact no (fun h=>hr0 ((jq.1 h).2.1 k x U hx hbit)) _ (.refl _)
 have hke:k=d.I.length:=U
 rw[hke]at hD;simp only[go_sem,a1,a3,l0,hbk];refine W.sq ?_;simp only[go_sem,a1,l0];refine aH.nl (Ni d cs hq hf _ _ ⟨trivial,?_⟩);simp only[go_sem,bS,cG];obtain⟨R2,hR2⟩:∃R2,R2=ext Hx [.L 0 64 [.lit (.int .i64 d.X),.M (bt d).length (aL (bt d))]]:=⟨_,rfl⟩
 have o2:S6 Hx R2:=hR2▸.ext _ _
 have n2:R2.C=H.C+2:=by rw[hR2,bB];simp;omega
 have l2:R2.nn (H.C+1) 0=some (64,[.lit (.int .i64 d.X),.M (bt d).length (aL (bt d))]):=by rw[hR2,<- nR];exact ag cf
 have k0:R2.nn H.C 0=_:=(o2.nn U).trans l0;rw[<- hR2];clear hR2;refine W.en (fun E3=>E3 1=.Y H.C 0 0 /\ E3 4=.Y (H.C+1) 0 0) (by simp only[go_sem,a1,nR]) fun E3 ⟨b1,b4⟩=>?_
 refine W.seq (W.seq (oE _ _ _ (by rfl) ?_));simp only[go_sem,b4,l2];refine aH.nl (BQ d.X (bt d) (B3 hf) _ _ ⟨trivial,?_⟩);by_cases hnet:To d.X (bt d);rotate_left
 ·have hnb:=pU hnet;simp only[go_sem,hnb];refine W.vs ?_;simp only[go_sem];exact no (fun h=>hnet (jq.1 h).2.2.1) _ o2
 have hnb:=pT hnet;simp only[go_sem,hnb];refine W.vs ?_;simp only[go_sem];refine W.en (fun E4=>E4 1=.Y H.C 0 0 /\ E4 4=.Y (H.C+1) 0 0) (by simp only[go_sem,b1,b4]) fun E4 ⟨c1,c4⟩=>?_
 have hc4:∀y∈bt d,1<=y.J/\y.J<=4:=fun y hy=>(hnet.node y hy).1;have h8:(bt d).length<=8:=hnet.n1.2;refine W.seq ?_;refine W.sq ?_;simp only[go_sem];refine W.block ?_;refine W.env fun E5 hE5=>?_;have d1:E5 1=.Y H.C 0 0:=by rw[hE5];simp only[go_sem,c1]
 have d4:E5 4=.Y (H.C+1) 0 0:=by rw[hE5];simp only[go_sem,c4]
 have d5:E5 5=aa 0:=by rw[hE5];simp only[go_sem]
 clear hE5;refine W.aS 9444588850551214571556 (by rfl) (fun ρ Hy=>Hy=R2/\∃j:Nat,ρ 5=aa j/\j<=d.Q.length/\∀u∈d.Q.take j,Tp d.I u) (fun ρ H=>d.Q.length-(iv (ρ 5)).toNat) ?_ ?_
 ·simp only[go_sem,d5];exact⟨0,rfl,U,SX⟩
 rintro ρ2 Hy ⟨rfl,j,h5,hj,hall⟩;refine W.en (fun E6=>E6 1=.Y H.C 0 0 /\ E6 4=.Y (H.C+1) 0 0 /\ E6 5=aa j) (by simp only[go_sem,d1,d4,h5]) fun E6 ⟨q1,q4,q5⟩=>?_
 by_cases hbj:(j:Int)<d.Q.length;rotate_left
 ·refine W.vs ?_;simp only[go_sem,q1,q5,k0,hbj];refine W.vs ?_;simp only[go_sem];rw[PF U]at hall;rw[fB (jq.2 ⟨hA,hD,hnet,hall⟩)]at hK;exact av.bQ aZ hcl (oR.trans o2) (.lit _) hK
 obtain⟨u,hu⟩:=aw (l:=d.Q) (i:=j) U;obtain⟨f1',f2'⟩:=hf.Q.2 u (PA hu);have hne:=sT hu;have p0:=wD hu;have p1:j*2+2<=(aP d.Q).length:=by rw[jL];omega
 have w1:=PD ((j:Int)+1) U;refine W.sq ?_;simp only[go_sem,q1,q5,k0,hbj];refine W.seq (W.block (W.seq ?_));refine W.dr 7 [0,1,0,7,15,0,32] Try.mixed ?_;simp only[go_sem,q1,q4,q5,k0,l2,hbj,hne,p0,p1];refine⟨_,[],cD.pure fun H2=>tC d.X (bt d) U H2 _ ⟨rfl,rfl⟩,?_⟩;simp only[go_sem];refine aH.nl (B4 (bt d) h8 hc4 u f1' f2' _ _ ⟨trivial,?_⟩);by_cases hu1:Tp (bt d) u
 ·have hub:=fB hu1;simp only[go_sem,hub];refine W.vs ?_;simp only[go_sem];refine W.vs ?_;simp only[go_sem,q5,w1];refine⟨⟨j+1,rfl,U,fun y hy=>?_⟩,by rw[h5];simp only[aa,aM];omega⟩;rw[aT hu]at hy;rcases PT.1 hy with h|h
  ·exact hall y h
  ·obtain rfl:=List.mem_singleton.1 h;exact tL.1 hu1
 ·have hub:=ga hu1;simp only[go_sem,hub];refine W.vs ?_;simp only[go_sem];exact no (fun h=>hu1 (tL.2 ((jq.1 h).2.2.2 u (PA hu)))) _ o2
end Go.Proofs
namespace Go.Hx
variable {P:Program} {G:Nat->Option (List S1)}
variable {hid n ob:Nat}{b:S7}{e:TypeId}
def S2.kQ (H:S2)(hid:Nat):S2:=⟨fun j=>if j<H.C/\j≠hid then H.get j else none,H.C⟩
variable {H:S2}
def Bz {j:Nat}(h:j<H.C)(h2:j≠hid):(H.kQ hid).get j=H.get j:=PG ⟨h,h2⟩
theorem av.kQ {H2:S2}(hG:dG G)(hc:TI H)(nf:∀j,j<H.C->j≠hid->H2.get j=H.get j){K:S8->S2->Prop}{v v':S1}(hv:Fz (fun j=>H.C<=j\/j=hid) H2 H.C v v')(hk:K (.ret v') (H.kQ hid)):av P G H K v H2:=by
 refine⟨v',H.kQ hid,.freeze hG (S:=fun j=>H.C<=j\/j=hid) ⟨fun j hj=>?_,fun j b hj hb=>?_,fun j hj hn=>?_⟩ hv,S0,hk⟩
 ·exact PC fun h=>hj.elim (fun h2=>U) h.2
 ·have h1:j<H.C:=Rz fun h=>hj (.inl h);have h2:j≠hid:=fun h=>hj (.inr h);rw[nf j h1 h2]at hb;have hbb:=hc.below j b hb;refine⟨h1,b,(Bz h1 h2).trans hb,?_⟩;cases b with
  |ni=>trivial
  |mp=>rfl
  |L g e cells=>exact⟨rfl,rfl,rfl,fun i h _=>.dead (hbb i h)⟩
  |loop st pend n env ps asg body=>exact⟨rfl,rfl,rfl,rfl,rfl,rfl,rfl,fun t ht=>.dead (hbb t ht)⟩
 ·show (if j<H.C/\j≠hid then H.get j else none)=none;split
  ·rename_i h;rw[<- nf j h.1 h.2];exact hn
  ·rfl
def S2.fZ (H:S2)(n hid ob:Nat)(b:S7):S2:=⟨fun id=>if n<=id\/id=hid then none else if id=ob then some b else H.get id,H.C⟩
def NM (h:ob<n)(h2:ob≠hid):(H.fZ n hid ob b).get ob=some b:=by simp[S2.fZ,Sk.2 h,h2]
def NN {id:Nat}(h:id<n)(h1:id≠hid)(h2:id≠ob):(H.fZ n hid ob b).get id=H.get id:=by simp[S2.fZ,Sk.2 h,h1,h2]
theorem bY.fZ (hG:dG G){s:St}{g:Nat}{cells cells':List S1}(hob:s.H.get ob=some (.L g e cells))(hlt:ob<n)(hl:cells'.length=cells.length)
  (hcell:∀i (h:i<cells.length) (h':i<cells'.length),Fz (fun id=>n<=id\/id=hid) s.H s.H.C cells[i] cells'[i]):bY P G s ⟨s.ρ,s.H.fZ n hid ob (.L g e cells')⟩:=by
 intro n' wb Γ a w hs;have hc:=hs.heap.nl;refine bY.freeze (s:=s) (s':=⟨s.ρ,s.H.fZ n hid ob (.L g e cells')⟩) (S:=fun id=>n<=id\/id=hid) hG ⟨fun id hs=>?_,fun id b hs hb=>?_,fun id hs hb=>?_⟩ (fun t=>.dead (hs.env t).mK) n' wb Γ a w hs
 ·simp[S2.fZ,hs]
 ·have hbb:=hc.below id b hb;refine⟨hc.lt id b hb,?_⟩;by_cases h:id=ob
  ·subst h;rw[hob]at hb;cases hb;exact⟨.L g e cells',by simp[S2.fZ,hs],rfl,rfl,hl,hcell⟩
  ·refine⟨b,by simp[S2.fZ,hs,h,hb],?_⟩;cases b with
   |ni=>trivial
   |mp=>rfl
   |L g e cells=>exact⟨rfl,rfl,rfl,fun i h _=>.dead (hbb i h)⟩
   |loop st pend n env ps asg body=>exact⟨rfl,rfl,rfl,rfl,rfl,rfl,rfl,fun t ht=>.dead (hbb t ht)⟩
 ·by_cases h:id=ob
  ·subst h;rw[hob]at hb;cases hb
  ·simp[S2.fZ,hs,h,hb]
def NO {t:TypeId}{i g len:Nat}{x:S1}{cs:List S1}{z:List S1}(ht:P.underlying t=some (.slice e))(hz:P.cellsOf e=1)(hzero:bH P e=some z)(hx:x.one=true)
  (hb:(len+1)*P.bytesOf e<=2 ^ 47/\len+1<=2 ^ 47) (hi:i<H.C) (hg:H.get i=some (.L g e cs)) (hl:len=cs.length):
  bf P (ext H [.L 0 e [x]]) n t t (.V i g 0 len 1) (.V H.C 0 0 1 1)=some (.V i (g+1) 0 (len+1) 1,(ext H [.L 0 e [x]]).upd i (.L (g+1) e (cs++[x]))):=by
 subst hl;have hsrc:bR (ext H [.L 0 e [x]]) 1 (.V H.C 0 0 1 1)=some (1,[x]):=by
  unfold bR;have:=ag (H:=ext H [.L 0 e [x]]) (g:=0) (cf (b:=.L 0 e [x]));simp[this]
 have h4':(ext H [.L 0 e [x]]).get i=some (.L g e cs):=by rw[cE hi];exact hg
 unfold bf;rw[ht];have hl:=ag h4';simp only[hzero,hz,Option.bind_some,hsrc,hl];rw[PG ⟨trivial,trivial,U,hb.1,hb.2,by simp[hx]⟩];simp
end Go.Hx
namespace Go.Proofs
open Go.Hx
variable {a c g n r:Int}{cs:List S1}{ns:List S3}{A id m:Nat}{H:S2}{x x' xh:S3}{d:S5}
def NP (d:S5)(A hid hg:Nat)(xh:S3)(hxh:d.I[A]?=some xh)(hrh:xh.O=[])(hbA:d.Z.testBit A=true)(cs:List S1)(hcs:cs=aN d.I A (aa xh.J) (af xh.F) (.V hid hg 0 0 1))(hf:Th d)(H:S2)(hch:1<=xh.J/\xh.J<=4)(hidl:hid<H.C)(hgh:H.get hid=some (.L hg 59 []))(K:S8->S2->Prop)(hK:K (.ret (bS d.X (bt d))) (H.kQ hid)):ae Try.prog G0 54 [ct d cs] H K:=by
 refine ae.nl ⟨_,Try.func54,rfl,rfl⟩ fun hcl=>?_;have hl:=hf.I.1;have hAl:=aI hxh;have hneC:¬cs=[]:=by rw[hcs];exact wy hAl _ _ _
 have hlenC:cs.length=d.I.length*3:=by rw[hcs];exact dh ..
 have cC:∀(v:Nat) (x:S3),d.I[v]?=some x->∃rv,cs[v*3]?=some (aa x.J)/\cs[v*3+1]?=some (af x.F)/\cs[v*3+2]?=some rv/\(v≠A->rv=aU x)/\(v=A->rv=.V hid hg 0 0 1):=fun v x hx=>by
  by_cases hv:v=A
  ·subst hv;rw[hxh]at hx;cases hx;exact⟨_,by rw[hcs];exact lH hAl _ _ _,by rw[hcs];exact nj hAl _ _ _,by rw[hcs];exact jJ hAl _ _ _,fun h=>absurd rfl h,fun _=>rfl⟩
  ·exact⟨_,by rw[hcs,jg U U U];exact gI hx,by rw[hcs,jg U U U];exact hJ hx,by rw[hcs,jg U U U];exact iL hx,fun _=>rfl,fun h=>absurd h hv⟩
 have pC:∀(v:Nat) (x:S3),d.I[v]?=some x->∃rv,(cs.drop (v*3)).take 3=[aa x.J,af x.F,rv]/\(v≠A->rv=aU x)/\(v=A->rv=.V hid hg 0 0 1):=fun v x hx=>by
  obtain⟨rv,a,b,c,d,f⟩:=cC v x hx;refine⟨rv,?_,d,f⟩;have h3:=aI c;rw[Qd U,Qd U,Qd U];simp only[List.take_succ_cons,List.take_zero];rw[PB U]at a b c;rw[Option.some.inj a,Option.some.inj b,Option.some.inj c]
 clear hcs;refine ae.st (n:=106) (rs:=[.cell 2 64]) Try.func54 ?_;simp only[go_sem,gL,fY];obtain⟨Hb,hHb⟩:∃Hb,Hb=ext H [.L 0 39 [.lit (.int .i64 d.X),.M d.I.length cs,.lit (.int .u64 (d.Z:Int)),.M d.Q.length (aP d.Q)],.L 0 64 [.lit (.int .i64 0),.lit (.slice none 0 0)],.L 0 64 [.lit (.int .i64 d.X),.lit (.slice none 0 0)]]:=⟨_,rfl⟩
 rw[<- hHb];have g0:=eS hHb
 have g1:=gE hHb 1 rfl
 have g2:=gE hHb 2 rfl
 have nb:Hb.C=H.C+3:=hHb▸rfl
 have ob:S6 H Hb:=hHb▸.ext _ _
 clear hHb;refine W.aS 40564819207303340847894502557680 (by rfl) (fun ρ Hx=>∃(k:Nat) (nh:S1) (ks:List S1),ρ 4=aa k/\k<=d.I.length/\Hb.C<=Hx.C/\(∀id,id<H.C+2->id≠hid->Hx.get id=Hb.get id)/\(k<=A->Hx.get hid=some (.L hg 59 []))/\Hx.get (H.C+2)=some (.L 0 64 [.lit (.int .i64 d.X),nh])/\bE (H.C+3) Hx 83 3 nh k ks/\Tn (fun _=>False) ((bt d).take k) ks) (fun ρ H=>d.I.length-(iv (ρ 4)).toNat) ?_ ?_
 ·simp only[go_sem];exact⟨0,_,[],rfl,U,fun _=>(ob.nf hid hidl).trans hgh,g2,.nil,.nil⟩
 rintro ρ Hx ⟨k,nh,ks,h4,hk,hnx,hold,hhol,hbn,hO,hQ⟩;refine W.en (fun E=>E 1=.Y H.C 0 0 /\ E 2=.Y (H.C+1) 0 0 /\ E 3=.Y (H.C+2) 0 0 /\ E 4=aa k) (by simp only[go_sem,h4]) fun E ⟨e1,e2,e3,e4⟩=>?_
 refine W.vs ?_;have l0:=ag ((hold H.C U U).trans g0);by_cases hb:(k:Int)<d.I.length
 ·obtain⟨x,hx⟩:=aw (l:=d.I) (i:=k) U;obtain⟨f1,f2,f3⟩:=hf.I.2 x (PA hx);have hne:=hneC;obtain⟨rv,c0,hdE,hdA⟩:=pC k x hx;have c1:k*3+3<=cs.length:=by rw[hlenC];omega
  have w1:=PD ((k:Int)+1) U;have rvo:rv.one=true:=by
   by_cases h:k=A
   ·rw[hdA h];rfl
   ·rw[hdE h];unfold aU;split<;>rfl
  have rvc:rv.cells=[rv]:=by
   by_cases h:k=A
   ·rw[hdA h];rfl
   ·rw[hdE h];unfold aU;split<;>rfl
  have w1:=PD ((k:Int)+1) U;have step:∀(Hq:S2) (rq:S1) (y:S3),eY d k x=y->y.J=x.J->y.F=x.F->(rq=az y.O\/rq=aU y)->Hx.C<Hq.C->(∀id,id<Hx.C->id≠hid->Hq.get id=Hx.get id)->(k+1<=A->Hq.get hid=some (.L hg 59 [])) ->
    ∃nh2 H3,bf Try.prog (ext Hq [.L 0 83 [.lit (.int .i64 x.J),.M x.F.length (ints x.F),rq]]) (Hq.C+1) 35 35 nh (.V Hq.C 0 0 1 3)=some (nh2,H3)/\nh2.cells=[nh2]/\nh2.one=true/\H3.nn (H.C+2) 0=some (64,[.lit (.int .i64 d.X),nh]) /\
     ∀b,b=.L 0 64 [.lit (.int .i64 d.X),nh2]->Hb.C<=(H3.upd (H.C+2) b).C/\(∀id,id<H.C+2->id≠hid->(H3.upd (H.C+2) b).get id=Hb.get id)/\(k+1<=A->(H3.upd (H.C+2) b).get hid=some (.L hg 59 []))/\(H3.upd (H.C+2) b).get (H.C+2)=some (.L 0 64 [.lit (.int .i64 d.X),nh2])/\bE (H.C+3) (H3.upd (H.C+2) b) 83 3 nh2 (k+1) (ks++[.lit (.int .i64 x.J),.M x.F.length (ints x.F),rq])/\Tn (fun _=>False) ((bt d).take (k+1)) (ks++[.lit (.int .i64 x.J),.M x.F.length (ints x.F),rq]):=by
   intro Hq rq y hy y1 y2 hrq hqn hqo hqh;have hOq:bE (H.C+3) Hq 83 3 nh k ks:=hO.na U fun id g _ h _=>hqo id h U;have rqo:rq.one=true:=by rcases hrq with h|h<;>rw[h]<;>first|rfl|(unfold aU;split<;>rfl)
   obtain⟨nh2,H3,hA,hO3,hn3,hp3⟩:=kX (P:=Try.prog) (xs:=[.lit (.int .i64 x.J),.M x.F.length (ints x.F),rq]) Try.underlying35 Try.nu Try.nC (by simp only[List.all_cons,List.all_nil,rqo];rfl) rfl (by rw[Try.nA];omega) hOq U rfl;have na:∀id,id<H.C+3->id≠hid->H3.get id=Hx.get id:=fun id h h'=>(hp3 id U (hOq.ne h)).trans (hqo id U h');refine⟨nh2,H3,hA,hO3.cells,hO3.one,ag ((na _ U U).trans hbn),fun b hb=>⟨by rw[ar];omega,fun id h h'=>by rw[ab,PC U,na id U h'];exact hold id h h',fun h=>by rw[ab,PC U,hp3 hid U (hOq.ne U)];exact hqh h,by rw[ab,PG rfl,hb],?_⟩⟩;have e:Tn (fun _=>False) ((bt d).take (k+1)) (ks++[.lit (.int .i64 x.J),.M x.F.length (ints x.F),rq]):=by
    rw[aT (lS hx),hy];have:=hQ.snoc (x:=y) (rv:=rq) hrq fun h=>h.elim;rw[y1,y2]at this;exact this
   refine⟨?_,e⟩;exact hO3.na (by rw[ar];omega) fun id g h1 _ _=>by rw[ab,PC U]
  obtain⟨Hp,hHp⟩:∃Hp,Hp=ext Hx [.L 0 83 [.lit (.int .i64 x.J),.M x.F.length (ints x.F),rv]]:=⟨_,rfl⟩
  have np:Hp.C=Hx.C+1:=hHp▸rfl
  have gP:=eS hHp
  have pold:∀id,id<Hx.C->Hp.get id=Hx.get id:=fun id h=>by rw[hHp];exact cE h
  have m0:=ag ((pold H.C U).trans ((hold H.C U U).trans g0));have m2:=ag ((pold (H.C+2) U).trans hbn);have mP:=ag gP;simp only[go_sem,e1,e4,l0,hb,hne,c0,c1,rvo];rw[<- hHp];simp only[go_sem,m0,e4];refine aH.nl (jS d.Z k hf.Z _ _ ⟨trivial,?_⟩);have lrv:dH Hp rv=some (.lit (.int .i64 x.O.length)):=by
   by_cases h:k=A
   ·obtain rfl:x=xh:=(by rw[h,hxh]at hx;exact(Option.some.inj hx).symm);rw[hdA h,hrh];have hlv:=ag ((pold hid U).trans (hhol U));unfold dH;simp[hlv]
   ·rw[hdE h];unfold aU;split
    ·rename_i h;rw[h];rfl
    ·rfl
  have no : ¬ (d.Z.testBit k=true∧x.O=[]∧1≤x.J∧x.J≤4)→∃ nh2 H3,bf Try.prog (ext Hp [.L 0 83 [.lit (.int .i64 x.J),.M x.F.length (ints x.F),rv]]) (Hp.C+1) 35 35 nh (.V Hp.C 0 0 1 3)=some (nh2,H3)∧nh2.cells=[nh2]∧nh2.one=true∧H3.nn (H.C+2) 0=some (64,[.lit (.int .i64 d.X),nh]) ∧
     ∀b,b=.L 0 64 [.lit (.int .i64 d.X),nh2]->Hb.C<=(H3.upd (H.C+2) b).C/\(∀id,id<H.C+2->id≠hid->(H3.upd (H.C+2) b).get id=Hb.get id)/\(k+1<=A->(H3.upd (H.C+2) b).get hid=some (.L hg 59 []))/\(H3.upd (H.C+2) b).get (H.C+2)=some (.L 0 64 [.lit (.int .i64 d.X),nh2])/\bE (H.C+3) (H3.upd (H.C+2) b) 83 3 nh2 (k+1) (ks++[.lit (.int .i64 x.J),.M x.F.length (ints x.F),rv])/\Tn (fun _=>False) ((bt d).take (k+1)) (ks++[.lit (.int .i64 x.J),.M x.F.length (ints x.F),rv]):=fun h =>
   step Hp rv x (PC h) rfl rfl (.inr (hdE fun hk=>h (by
    obtain rfl:x=xh:=(by rw[hk,hxh]at hx;exact(Option.some.inj hx).symm);exact⟨by rw[hk];exact hbA,hrh,hch.1,hch.2⟩))) U (fun id h _=>pold id h) fun h=>(pold hid U).trans (hhol U)
  cases hbit:d.Z.testBit k
  ·obtain⟨nh2,H3,hA,nc,no1,ln,st⟩:=no fun h=>by rw[hbit]at h;cases h.1
   simp only[go_sem,e3,e4,m2,mP,hA,nc,no1,ln,w1];exact⟨(st _ rfl).1,⟨k+1,nh2,_,rfl,U,(st _ rfl).1,(st _ rfl).2.1,(st _ rfl).2.2.1,(st _ rfl).2.2.2.1,(st _ rfl).2.2.2.2.1,(st _ rfl).2.2.2.2.2⟩,by rw[h4];simp only[aa,aM];omega⟩
  by_cases hr0:x.O=[]
  rotate_left
  ·obtain⟨nh2,H3,hA,nc,no1,ln,st⟩:=no fun h=>hr0 h.2.1;have hr0':¬(x.O.length:Int)=0:=fun h=>hr0 (PH U);simp only[go_sem,e3,e4,m2,mP,lrv,hr0',hA,nc,no1,ln,w1];exact⟨(st _ rfl).1,⟨k+1,nh2,_,rfl,U,(st _ rfl).1,(st _ rfl).2.1,(st _ rfl).2.2.1,(st _ rfl).2.2.2.1,(st _ rfl).2.2.2.2.1,(st _ rfl).2.2.2.2.2⟩,by rw[h4];simp only[aa,aM];omega⟩
  have hr0':(x.O.length:Int)=0:=by rw[hr0];rfl
  by_cases hc1:x.J >= 1;rotate_left
  ·obtain⟨nh2,H3,hA,nc,no1,ln,st⟩:=no fun h=>hc1 h.2.2.1;simp only[go_sem,e3,e4,m2,mP,lrv,hr0',hc1,hA,nc,no1,ln,w1];exact⟨(st _ rfl).1,⟨k+1,nh2,_,rfl,U,(st _ rfl).1,(st _ rfl).2.1,(st _ rfl).2.2.1,(st _ rfl).2.2.2.1,(st _ rfl).2.2.2.2.1,(st _ rfl).2.2.2.2.2⟩,by rw[h4];simp only[aa,aM];omega⟩
  by_cases hc4:x.J<=4;rotate_left
  ·obtain⟨nh2,H3,hA,nc,no1,ln,st⟩:=no fun h=>hc4 h.2.2.2;simp only[go_sem,e3,e4,m2,mP,lrv,hr0',hc1,hc4,hA,nc,no1,ln,w1];exact⟨(st _ rfl).1,⟨k+1,nh2,_,rfl,U,(st _ rfl).1,(st _ rfl).2.1,(st _ rfl).2.2.1,(st _ rfl).2.2.2.1,(st _ rfl).2.2.2.2.1,(st _ rfl).2.2.2.2.2⟩,by rw[h4];simp only[aa,aM];omega⟩
  clear no;simp only[go_sem,mP,lrv,hr0',hc1,hc4];refine W.aS 2417851639158889605235136 (by rfl) (fun ρ2 Hq=>Hq=Hp/\∃j:Nat,ρ2 7=aa j/\j<=x.F.length/\ρ2 6=aa (dB d.I (x.F.take j))) (fun ρ2 H=>x.F.length-(iv (ρ2 7)).toNat) ?_ ?_
  ·simp only[go_sem];exact⟨0,rfl,U,rfl⟩
  rintro ρ2 Hq ⟨hHq,j,h7,hj,h6⟩;subst hHq;refine W.en (fun E2=>E2 1=.Y H.C 0 0 /\ E2 2=.Y (H.C+1) 0 0 /\ E2 3=.Y (H.C+2) 0 0 /\ E2 4=aa k /\ E2 5=.Y Hx.C 0 0 /\ E2 6=aa (dB d.I (x.F.take j)) /\ E2 7=aa j) (by simp only[go_sem,e1,e2,e3,e4,h6,h7]) fun E2 ⟨f1,f2,f3,f4,f5,f6,f7⟩=>?_
  refine W.vs ?_;by_cases hb2:(j:Int)<x.F.length
  ·obtain⟨q,hq⟩:=aw (l:=x.F) (i:=j) U;have hqne:=bg hq;have hs:=wS d.I (x.F.take j) q;rw[<- aT hq]at hs;have hrr:=pL d.I (x.F.take j);have w2:=PD ((j:Int)+1) U;unfold jk at hs;by_cases q0:q >= 0;rotate_left
   ·rw[PC (fun h=>q0 h.1)]at hs;simp only[go_sem,f5,f6,f7,mP,hb2,hq,hqne,q0,w2];exact⟨⟨j+1,rfl,U,by rw[hs]⟩,by rw[h7];simp only[aa,aM];omega⟩
   by_cases q1:q<d.I.length;rotate_left
   ·rw[PC (fun h=>q1 h.2.1)]at hs;simp only[go_sem,f1,f5,f6,f7,mP,m0,hb2,hq,hqne,q0,q1,w2];exact⟨⟨j+1,rfl,U,by rw[hs]⟩,by rw[h7];simp only[aa,aM];omega⟩
   by_cases q2:dB d.I (x.F.take j)<=1024;rotate_left
   ·rw[PC (fun h=>q2 h.2.2)]at hs;simp only[go_sem,f1,f5,f6,f7,mP,m0,hb2,hq,hqne,q0,q1,q2,w2];exact⟨⟨j+1,rfl,U,by rw[hs]⟩,by rw[h7];simp only[aa,aM];omega⟩
   rw[PG ⟨q0,q1,q2⟩]at hs;obtain⟨u,rfl⟩:=PP q0;obtain⟨z,hz⟩:=aw (l:=d.I) (i:=u) U;obtain⟨_,z0,_⟩:=cC u z hz;have zne:=hneC;rw[Int.toNat_natCast,cw (dp hz)]at hs;have hm4:1<=max 1 (min z.J 4)/\max 1 (min z.J 4)<=4:=U;have hmm:(if (if 4<z.J then 4 else z.J) > 1 then if 4<z.J then 4 else z.J else 1)=max 1 (min z.J 4):=(by split<;>split<;>omega);generalize max 1 (min z.J 4)=m at hs hm4 hmm;have hp1:dB d.I (x.F.take j)*m<=1024*4:=QM q2 hm4.2 U U;have hp0:0<=dB d.I (x.F.take j)*m:=RJ U U;have w3:=PD (dB d.I (x.F.take j)*m) U;simp only[go_sem,f1,f5,f6,f7,mP,m0,hb2,hq,hqne,q0,q1,q2,w2,zne,z0,hmm,w3];exact⟨⟨j+1,rfl,U,by rw[hs]⟩,by rw[h7];simp only[aa,aM];omega⟩
  ·have hje:j=x.F.length:=U;rw[hje,PF S0]at f6;have hRr:=pL d.I x.F;obtain⟨R,hR⟩:=PP (show 0<=dB d.I x.F by omega);rw[hR]at f6;obtain⟨cn,hcn⟩:=PP (show 0<=x.J by omega);have hcn0:(0:Int)<cn:=U;have hcn1:1<=cn:=U;have hcn2:(cn:Int) >= 0:=U;have ury:eY d k x={ x with O:=List.replicate R (aR d.X x.J 0) }:=by
    unfold eY;rw[PG ⟨hbit,hr0,hc1,hc4⟩,hR,Int.toNat_natCast]
   simp only[go_sem,f4,f5,f7,mP,hb2];have hun:(S1.lit (.int .i64 d.X) :: List.drop 1 (List.replicate cn (.lit (.int .i64 0))))=ints (aR d.X x.J 0):=by
    unfold aR;rw[hcn,Int.toNat_natCast];obtain⟨m,rfl⟩:∃m,cn=m+1:=⟨cn-1,U⟩
    simp[QT,ints,aa]
   have hul:(aR d.X x.J 0).length=cn:=(by rw[pQ,hcn];rfl);have hidx:hid<Hx.C:=U;obtain⟨hx',Q,hxd,Q0,Qapp,Qupd,Qfz,Qone⟩:∃(hx':Nat) (Q:Nat->S2->S1->Prop),(k=A/\hx'=hid\/Hx.C<hx')/\Q 0 Hq rv /\
     (∀i Hy rq,Q i Hy rq->i<4096->Hq.C<=Hy.C->∃rq' Hj,bf Try.prog (ext (ext Hy [.L 0 3 (ints (aR d.X x.J 0))]) [.L 0 59 [.V Hy.C 0 0 cn 1]]) (Hy.C+2) 48 48 rq (.V (Hy.C+1) 0 0 1 1)=some (rq',Hj)/\Q (i+1) Hj rq'/\Hy.C<=Hj.C/\∀id,id<Hq.C->id≠hx'->Hj.get id=Hy.get id) /\
     (∀i Hy rq bl,Q i Hy rq->Q i (Hy.upd Hx.C bl) rq) /\
     (∀i Hy rq,Q i Hy rq->Fz (fun id=>Hq.C<=id\/id=hx') Hy Hy.C rq (az (List.replicate i (aR d.X x.J 0))))/\(∀i Hy rq,Q i Hy rq->rq.one=true/\rq.cells=[rq]):=by
    by_cases hkA:k=A
    ·refine⟨hid,fun i H v=>∃(ids:List Nat) (g':Nat),v=.V hid g' 0 i 1/\hid<H.C/\H.get hid=some (.L g' 59 (ids.map fun j=>.V j 0 0 cn 1))/\ids.length=i/\∀j∈ids,Hq.C<=j/\j<H.C/\H.get j=some (.L 0 3 (ints (aR d.X x.J 0))),.inl ⟨hkA,rfl⟩,⟨[],hg,hdA hkA,U,(pold hid hidx).trans (hhol U),rfl,fun j h=>by cases h⟩,?_,?_,?_,?_⟩
     ·rintro i Hy rq ⟨ids,g',rfl,q1,q2,q3,q4⟩ hi hny;have hA:=NO (P:=Try.prog) (H:=ext Hy [.L 0 3 (ints (aR d.X x.J 0))]) (t:=48) (n:=Hy.C+2) (i:=hid) (g:=g') (len:=i) (x:=.V Hy.C 0 0 cn 1) (cs:=ids.map fun j=>.V j 0 0 cn 1) Try.underlying48 Try.kF Try.kH rfl (by rw[Try.kG];omega) (by rw[bB];simp;omega) ((cE q1).trans q2) (by rw[PR,q3]);refine⟨_,_,hA,⟨ids++[Hy.C],g'+1,rfl,by rw[ar,bB,bB];simp;omega,by rw[ab,PG rfl,QQ];rfl,by simp[q3],fun j hj=>?_⟩,by rw[ar,bB,bB];simp;omega,fun id h h'=>?_⟩
      ·have e1:(ext Hy [S7.L 0 3 (ints (aR d.X x.J 0))]).C=Hy.C+1:=rfl;rcases PT.1 hj with h|h
       ·obtain⟨a1,a2,a3⟩:=q4 j h;exact⟨a1,by rw[ar,bB,bB];simp;omega,by rw[ab,PC U,cE U,cE a2];exact a3⟩
       ·obtain rfl:=List.mem_singleton.1 h;exact⟨hny,by rw[ar,bB,bB];simp;omega,by rw[ab,PC U,cE U];exact cf⟩
      ·have e1:(ext Hy [S7.L 0 3 (ints (aR d.X x.J 0))]).C=Hy.C+1:=rfl;rw[ab,PC h',cE U,cE U]
     ·rintro i Hy rq bl ⟨ids,g',rfl,q1,q2,q3,q4⟩;exact⟨ids,g',rfl,by rw[ar];exact q1,by rw[ab,PC U];exact q2,q3,fun j hj=>⟨(q4 j hj).1,by rw[ar];exact(q4 j hj).2.1,by rw[ab,PC (by have:=(q4 j hj).1;omega)];exact(q4 j hj).2.2⟩⟩
     ·rintro i Hy rq ⟨ids,g',rfl,q1,q2,q3,q4⟩;unfold az;rw[P5];refine .np (.inr rfl) q2 SX fun j hj h2 h'=>?_;simp only[Nat.zero_add,PK,List.getElem_replicate]at h2 ⊢;rw[PR]at h2;obtain⟨a1,a2,a3⟩:=q4 _ (P4 h2);have:=Fz.ints (S:=fun id=>Hq.C<=id\/id=hid) (nx:=Hy.C) (o:=0) (x:=(aR d.X x.J 0)) (n:=cn) (.inl a1) a3 hul.symm fun i hi=>by rw[Nat.zero_add,fS,PB hi];rfl
      exact this
     ·rintro i Hy rq ⟨ids,g',rfl,_⟩;exact⟨rfl,rfl⟩
    ·refine⟨Hx.C+1,fun i H v=>dJ Hq.C H 59 3 v (List.replicate i (ints (aR d.X x.J 0))),.inr U,?_,?_,?_,?_,?_⟩
     ·rw[hdE hkA];unfold aU;rw[PG hr0];show dJ Hq.C Hq 59 3 (.lit (.slice none 0 0)) (List.replicate 0 (ints (aR d.X x.J 0)));exact dJ.nil
     ·intro i Hy rq hO' hi hny;have hwn:(ext Hy [S7.L 0 3 (ints (aR d.X x.J 0))]).C=Hy.C+1:=rfl;obtain⟨rq',Hj,hA,hO2,hnj,hpj⟩:=dJ.app (P:=Try.prog) (H:=ext Hy [.L 0 3 (ints (aR d.X x.J 0))]) (n:=Hy.C+2) (t:=48) (x:=.V Hy.C 0 0 cn 1) (r:=ints (aR d.X x.J 0)) Try.underlying48 Try.kF Try.kH Try.kG SY (by rw[P5];omega) (hO'.over (.ext _ _)) U (.inr ⟨Hy.C,0,U,U,by rw[aY,hul],cf⟩) U;exact⟨rq',Hj,hA,(show dJ Hq.C Hj 59 3 rq' (List.replicate (i+1) (ints (aR d.X x.J 0))) from by rw[Sc];exact hO2),U,fun id h _=>(hpj id U h).trans (cE U)⟩
     ·intro i Hy rq bl hO';exact hO'.upd (U)
     ·intro i Hy rq hO';have hv:=hO'.fz (S:=fun id=>Hq.C<=id\/id=Hx.C+1) (nx:=Hy.C) (rows':=List.replicate i (ints (aR d.X x.J 0))) (fun _ h=>.inl h) rfl fun j r r' h1 h2=>by
       rw[h1]at h2;cases h2;refine⟨rfl,fun i hi _=>?_⟩;have hr:=Qf (PA h1);subst hr;have e0:(ints (aR d.X x.J 0))[i]?=some (ints (aR d.X x.J 0))[i]:=PB hi;generalize (ints (aR d.X x.J 0))[i]=a at e0 ⊢;rw[fS]at e0;obtain⟨b,_,rfl⟩:=an.1 e0;exact .lit _
      rw[P5,Rl]at hv;have hvv:(S1.M i (List.replicate i (.M (ints (aR d.X x.J 0)).length (ints (aR d.X x.J 0)))))=az (List.replicate i (aR d.X x.J 0)):=by
       unfold az af;rw[P5,Rl,aY]
      rw[hvv]at hv;exact hv
     ·intro i Hy rq ⟨cs',hcs',_⟩;exact⟨hcs'.one,hcs'.cells⟩
   refine W.jX (Q':=fun e s2=>e=.exit 4/\∃rq,s2.ρ 1=.Y H.C 0 0/\s2.ρ 2=.Y (H.C+1) 0 0/\s2.ρ 3=.Y (H.C+2) 0 0/\s2.ρ 4=aa k/\s2.ρ 5=.Y Hx.C 0 0/\Hq.C<=s2.H.C/\(∀id,id<Hx.C->id≠hx'->s2.H.get id=Hx.get id)/\s2.H.get Hx.C=some (.L 0 83 [.lit (.int .i64 x.J),.M x.F.length (ints x.F),rq])/\Q R s2.H rq) ?_ ?_;rotate_left
   ·rintro e s2 ⟨rfl,rq,a1,a2,a3,a4,a5,hn2,ho2,hP2,hO2⟩;have hv:=Qfz _ _ _ hO2;refine⟨⟨s2.ρ,s2.H.fZ Hq.C hx' Hx.C (.L 0 83 [.lit (.int .i64 x.J),.M x.F.length (ints x.F),az (List.replicate R (aR d.X x.J 0))])⟩,bY.fZ aZ hP2 U rfl (fun i hi _=>?_),S0,trivial,?_⟩
    ·match i,hi with
     |0,_=>exact .lit _
     |1,_=>exact .cO _
     |2,_=>exact hv
    obtain⟨He,hHe⟩:∃He,He=s2.H.fZ Hq.C hx' Hx.C (.L 0 83 [.lit (.int .i64 x.J),.M x.F.length (ints x.F),az (List.replicate R (aR d.X x.J 0))]):=⟨_,rfl⟩
    rw[<- hHe];have gPe:He.get Hx.C=some (.L 0 83 [.lit (.int .i64 x.J),.M x.F.length (ints x.F),az (List.replicate R (aR d.X x.J 0))]):=(by rw[hHe];exact NM U U);have hoe:∀id,id<Hx.C->id≠hx'->He.get id=Hx.get id:=fun id h h'=>by rw[hHe,NN U h' U];exact ho2 id h h'
    have hne':He.C=s2.H.C:=(by rw[hHe];rfl);clear hHe hv hP2 hO2;have lPe:=ag gPe;have l2e:=ag ((hoe (H.C+2) U U).trans hbn);obtain⟨nh2,H3,hA,nc,no1,ln,st⟩:=step He (az (List.replicate R (aR d.X x.J 0))) _ ury rfl rfl (.inl rfl) U (fun id h h'=>hoe id h U) fun h=>(hoe hid U U).trans (hhol U);simp only[go_sem,a2,a3,a4,a5,lPe,l2e,hA,nc,no1,ln,w1];exact⟨(st _ rfl).1,⟨k+1,nh2,_,rfl,U,(st _ rfl).1,(st _ rfl).2.1,(st _ rfl).2.2.1,(st _ rfl).2.2.2.1,(st _ rfl).2.2.2.2.1,(st _ rfl).2.2.2.2.2⟩,by rw[h4];simp only[aa,aM];omega⟩
   refine W.aS 633822882262475471490002191872 (by rfl) (fun ρ3 Hy=>∃(i:Nat) (rq:S1),ρ3 9=aa i/\i<=R/\Hq.C<=Hy.C/\(∀id,id<Hx.C->id≠hx'->Hy.get id=Hx.get id)/\Hy.get Hx.C=some (.L 0 83 [.lit (.int .i64 x.J),.M x.F.length (ints x.F),rq])/\Q i Hy rq) (fun ρ3 H=>R-(iv (ρ3 9)).toNat) ?_ ?_
   ·simp only[go_sem];exact⟨0,_,rfl,U,fun id h _=>pold id h,gP,Q0⟩
   rintro ρ3 Hy ⟨i,rq,h9,hi,hny,hyo,hyP,hOy⟩;refine W.env fun E3 hE3=>?_;have a1:E3 1=.Y H.C 0 0:=(by rw[hE3];simp only[go_sem,f1]);have a2:E3 2=.Y (H.C+1) 0 0:=(by rw[hE3];simp only[go_sem,f2]);have a3:E3 3=.Y (H.C+2) 0 0:=(by rw[hE3];simp only[go_sem,f3]);have a4:E3 4=aa k:=(by rw[hE3];simp only[go_sem,f4]);have a5:E3 5=.Y Hx.C 0 0:=(by rw[hE3];simp only[go_sem,f5]);have a6:E3 6=aa R:=(by rw[hE3];simp only[go_sem,f6]);have a9:E3 9=aa i:=(by rw[hE3];simp only[go_sem,h9]);clear hE3;refine W.vs ?_;by_cases hb3:(i:Int)<R
   ·have w3:=PD ((i:Int)+1) U;have yP:=ag hyP;have y0:=ag ((hyo H.C U U).trans ((hold H.C U U).trans g0));rw[hcn]at yP;have y0e:∀L,(ext Hy L).nn H.C 0=_:=fun L=>(dU U).trans y0;have yPe:∀L,(ext Hy L).nn Hx.C 0=_:=fun L=>(dU U).trans yP;obtain⟨Hw,hHw⟩:∃Hw,Hw=ext Hy [.L 0 3 (ints (aR d.X x.J 0))]:=⟨_,rfl⟩
    have hwn:Hw.C=Hy.C+1:=(by rw[hHw];rfl);have hwo:S6 Hy Hw:=(by rw[hHw];exact .ext _ _);have hwg:Hw.get Hy.C=some (.L 0 3 (ints (aR d.X x.J 0))):=(by rw[hHw];exact cf);have wP:Hw.nn Hx.C 0=_:=(hwo.nn U).trans yP;obtain⟨rq',Hj,hA,hO',hnj,hpj⟩:=Qapp i Hy rq hOy U hny;have na:∀id,id<Hq.C->id≠hx'->Hj.get id=Hy.get id:=hpj;have jP:Hj.nn Hx.C 0=_:=ag ((na _ U U).trans hyP);obtain⟨ro,rc⟩:=Qone _ _ _ hO';rw[jG]at hA;simp only[List.cons_append,List.nil_append,Rb,Nat.reduceAdd]at hA;simp only[go_sem,a1,a5,a6,a9,hb3,yP,y0e,yPe,hcn0,hcn2,hun,hA,jP,rc,ro,w3];refine⟨U,by simp;omega,by rw[ar];omega,⟨i+1,rq',rfl,U,by rw[ar];omega,fun id h h'=>by rw[ab,PC U,na id U h'];exact hyo id h h',by rw[ab,PG rfl],Qupd _ _ _ _ hO'⟩,by rw[h9];simp only[aa,aM];omega⟩
   ·simp only[go_sem,a1,a2,a3,a4,a5,a6,a9,hb3];have:i=R:=U;subst this;exact⟨rq,hny,hyo,hyP,hOy⟩
 ·have hke:k=d.I.length:=U
  have l2:=ag hbn;have l1:=ag ((hold (H.C+1) U U).trans g1);have nc:=hO.cells;have no:=hO.one;simp only[go_sem,e1,e2,e3,e4,l0,l1,l2,hb,no];rw[hke]at hO hQ;rw[PF (by rw[fA];exact Nat.le_refl _)]at hQ;refine av.kQ (v':=bS d.X (bt d)) aZ hcl (hid:=hid) (fun j h h'=>by rw[ab,PC U,hold j U h'];exact ob.nf j h) (.agg rfl fun i hi _=>?_) hK
  match i,hi with
  |0,_=>exact .lit _
  |1,_ =>
   show Fz _ _ _ nh (cG (bt d));unfold cG;rw[fA];rcases hO with ⟨h,hz,hc⟩|⟨id,gg,k1,k2,h,k4,k5⟩
   ·have:bt d=[]:=PH (by rw[fA];exact hz);rw[h,hz,this];exact .nil
   ·rw[h];refine .np (.inl U) (by rw[ab,PC U];exact k5) (by rw[gG,fA]) fun j hj h2 h'=>?_;have e0:(0:Nat)+j=j:=Nat.zero_add j;have h3:j<ks.length:=U;have:=fun Hq=>hQ.s9 (S:=fun id=>H.C<=id\/id=hid) (H:=Hq) (nx:=H.C) j h3 h';simpa only[e0] using this _
def OX (d:S5)(A hid hg:Nat)(xh:S3)(hxh:d.I[A]?=some xh)(hrh:xh.O=[])(hbA:d.Z.testBit A=true)(cs:List S1)(hcs:cs=aN d.I A (aa xh.J) (af xh.F) (.V hid hg 0 0 1))(hf:Th d)(H:S2)(hch:1<=xh.J/\xh.J<=4)(hidl:hid<H.C)(hgh:H.get hid=some (.L hg 59 []))(K:S8->S2->Prop)(hK:∀H',K (.ret (.lit (.bool (iP (Tj d))))) H'):ae Try.prog G0 13 [ct d cs] H K:=by
 refine ae.nl ⟨_,Try.func13,rfl,rfl⟩ fun hcl=>?_;have hl:=hf.I.1;have hul:=hf.Q.1;refine ae.sw (n:=73) (rs:=[.tmp 2]) Try.func13 ?_;refine W.sq ?_;simp only[go_sem,gL,fY];obtain⟨R,hR⟩:∃R,R=ext H [.L 0 39 [.lit (.int .i64 d.X),.M d.I.length cs,.lit (.int .u64 (d.Z:Int)),.M d.Q.length (aP d.Q)]]:=⟨_,rfl⟩
 have oR:S6 H R:=hR▸.ext _ _
 have nR:R.C=H.C+1:=hR▸rfl
 have g00:=eS hR
 have l0:R.nn H.C 0=some (39,[.lit (.int .i64 d.X),.M d.I.length cs,.lit (.int .u64 (d.Z:Int)),.M d.Q.length (aP d.Q)]):=by rw[hR];exact ag (cS ..)
 have hidR:R.get hid=some (.L hg 59 []):=(oR.nf hid hidl).trans hgh;rw[<- hR];clear hR;have no:¬Tj d->∀H',R.C<=H'.C->av Try.prog G0 H K (.lit (.bool false)) H':=fun h H' o=>av.mk U (by have:=hK H';rw[ga h]at this;exact this);refine W.en (fun E=>E 1=.Y H.C 0 0) (by simp only[go_sem]) fun E e1=>?_
 have s1:=fun t x y=>kW (P:=Try.prog) (t:=t) (x:=x) (y:=y) (k':=.i64) (s:=d.I.length) hf.Z;refine W.seq (W.eJ (fun s'=>s'.H=R/\s'.ρ 1=.Y H.C 0 0/\∃b:Bool,s'.ρ 30=.lit (.bool b)/\(b=false↔RightA d)) ?_ ?_)
 ·refine W.vs ?_;by_cases c1:(d.I.length:Int)<1
  ·simp only[go_sem,e1,l0,c1];exact⟨_,rfl,by simp;intro h;have:=h.n1;omega⟩
  by_cases c2:(d.I.length:Int) > 8
  ·simp only[go_sem,e1,l0,c1,c2];exact⟨_,rfl,by simp;intro h;have:=h.n1;omega⟩
  by_cases c3:d.Z >>> d.I.length=0;rotate_left
  ·have c3':¬((d.Z >>> d.I.length:Nat):Int)=0:=U;simp only[go_sem,e1,l0,c1,c2,c3',s1];exact⟨_,rfl,by simp;intro h;exact c3 h.Z⟩
  have c3':((d.Z >>> d.I.length:Nat):Int)=0:=U
  by_cases c4:(d.Q.length:Int) > 4
  ·simp only[go_sem,e1,l0,c1,c2,c3',c4,s1];exact⟨_,rfl,by simp;intro h;have:=h.ul;omega⟩
  ·simp only[go_sem,e1,l0,c1,c2,c3',c4,s1];exact⟨_,rfl,by simp;exact⟨U,c3,U⟩⟩
 rintro⟨ρ3,H3⟩ ⟨hH,m1,b,m30,hb⟩;simp only at hH m1 m30;rw[hH];clear hH H3;refine W.vs ?_;cases hbb:b;rotate_left
 ·simp only[go_sem,m30,hbb];exact no (fun h=>by rw[hb.2 (jq.1 h).1]at hbb;cases hbb) _ (Nat.le_refl _)
 have hA:=hb.1 hbb;have n8:=hA.n1.2;simp only[go_sem,m30,hbb];refine W.en (fun E1=>E1 1=.Y H.C 0 0) (by simp only[go_sem,m1]) fun E1 f1=>?_
 clear m30 hbb hb;refine W.seq ?_;refine W.sq ?_;simp only[go_sem];refine W.block ?_;refine W.env fun E2 hE2=>?_;have g1:E2 1=.Y H.C 0 0:=by rw[hE2];simp only[go_sem,f1]
 have g3:E2 3=aa 0:=by rw[hE2];simp only[go_sem]
 clear hE2;refine W.aS 4503597479886860 (by rfl) (fun ρ Hx=>Hx=R/\∃k:Nat,ρ 3=aa k/\k<=d.I.length/\xy d k) (fun ρ H=>d.I.length-(iv (ρ 3)).toNat) ?_ ?_
 ·simp only[go_sem,g3];exact⟨0,rfl,U,fun v x h=>absurd h (PS _)⟩
 rintro ρ Hx ⟨rfl,k,h3,hk,hD⟩;refine W.en (fun E2=>E2 1=.Y H.C 0 0 /\ E2 3=aa k) (by simp only[go_sem,g1,h3]) fun E2 ⟨a1,a3⟩=>?_
 refine W.vs ?_;by_cases hbk:(k:Int)<d.I.length
 ·obtain⟨x,hx⟩:=aw (l:=d.I) (i:=k) U;have hne:¬cs=[]:=by rw[hcs];exact wy (aI hxh) _ _ _
  obtain⟨rv,q2,rvl⟩:∃rv,cs[k*3+2]?=some rv/\dH Hx rv=some (.lit (.int .i64 x.O.length)):=by
   by_cases hv:k=A
   ·obtain rfl:x=xh:=(by rw[hv,hxh]at hx;exact(Option.some.inj hx).symm);refine⟨_,by rw[hcs,hv];exact jJ (aI hxh) _ _ _,?_⟩;have hlv:=ag hidR;rw[hrh];unfold dH;simp[hlv]
   ·refine⟨_,by rw[hcs,jg U U U];exact iL hx,?_⟩;unfold aU;split
    ·rename_i h;rw[h];rfl
    ·rfl
  have w1:=PD ((k:Int)+1) U;simp only[go_sem,a1,a3,l0,hbk];refine aH.nl (jS d.Z k hf.Z _ _ ⟨trivial,?_⟩);cases hbit:d.Z.testBit k
  ·simp only[go_sem,a3,w1];refine⟨⟨k+1,rfl,U,fun v y hv hy hb=>?_⟩,by rw[h3];simp only[aa,aM];omega⟩;rcases PZ v k with h|h
   ·exact hD v y h hy hb
   ·obtain rfl:v=k:=U;rw[hbit]at hb;cases hb
  ·by_cases hr0:x.O=[]
   ·have hr0':(x.O.length:Int)=0:=(by rw[hr0];rfl);simp only[go_sem,a1,a3,l0,w1,hbk,hne,q2,rvl,hr0'];refine⟨⟨k+1,rfl,U,fun v y hv hy hb=>?_⟩,by rw[h3];simp only[aa,aM];omega⟩;rcases PZ v k with h|h
    ·exact hD v y h hy hb
    ·obtain rfl:v=k:=U;rw[hx]at hy;cases hy;exact hr0
   ·have hr1:(0:Int)<x.O.length:=(by have:=Qv.2 hr0;omega);have hr1':0<x.O.length:=Qv.2 hr0;simp only[go_sem,a1,a3,l0,hbk,hne,q2,rvl,hr1];exact no (fun h=>hr0 ((jq.1 h).2.1 k x U hx hbit)) _ (Nat.le_refl _)
 have hke:k=d.I.length:=U
 rw[hke]at hD;simp only[go_sem,a1,a3,l0,hbk];refine W.sq ?_;simp only[go_sem,a1,l0];refine aH.nl (NP d A hid hg xh hxh hrh hbA cs hcs hf Hx hch U hidR _ ⟨trivial,?_⟩);simp only[go_sem,bS,cG];obtain⟨R2,hR2⟩:∃R2,R2=ext (Hx.kQ hid) [.L 0 64 [.lit (.int .i64 d.X),.M (bt d).length (aL (bt d))]]:=⟨_,rfl⟩
 have dn:(Hx.kQ hid).C=Hx.C:=rfl;have n2:R2.C=H.C+2:=by rw[hR2,bB,dn];simp;omega
 have l2:R2.nn (H.C+1) 0=some (64,[.lit (.int .i64 d.X),.M (bt d).length (aL (bt d))]):=by rw[hR2,<- nR,<- dn];exact ag cf
 have k0:R2.nn H.C 0=some (39,[.lit (.int .i64 d.X),.M d.I.length cs,.lit (.int .u64 (d.Z:Int)),.M d.Q.length (aP d.Q)]):=by rw[hR2,dU (by rw[dn];omega)];exact ag ((Bz U U).trans g00)
 rw[<- hR2];clear hR2;refine W.en (fun E3=>E3 1=.Y H.C 0 0 /\ E3 4=.Y (H.C+1) 0 0) (by simp only[go_sem,a1,nR,dn]) fun E3 ⟨b1,b4⟩=>?_
 refine W.seq (W.seq (oE _ _ _ (by rfl) ?_));simp only[go_sem,b4,l2];refine aH.nl (BQ d.X (bt d) (B3 hf) _ _ ⟨trivial,?_⟩);by_cases hnet:To d.X (bt d);rotate_left
 ·have hnb:=pU hnet;simp only[go_sem,hnb];refine W.vs ?_;simp only[go_sem];exact no (fun h=>hnet (jq.1 h).2.2.1) _ (U)
 have hnb:=pT hnet;simp only[go_sem,hnb];refine W.vs ?_;simp only[go_sem];refine W.en (fun E4=>E4 1=.Y H.C 0 0 /\ E4 4=.Y (H.C+1) 0 0) (by simp only[go_sem,b1,b4]) fun E4 ⟨c1,c4⟩=>?_
 have hc4:∀y∈bt d,1<=y.J/\y.J<=4:=fun y hy=>(hnet.node y hy).1;have h8:(bt d).length<=8:=hnet.n1.2;refine W.seq ?_;refine W.sq ?_;simp only[go_sem];refine W.block ?_;refine W.env fun E5 hE5=>?_;have d1:E5 1=.Y H.C 0 0:=by rw[hE5];simp only[go_sem,c1]
 have d4:E5 4=.Y (H.C+1) 0 0:=by rw[hE5];simp only[go_sem,c4]
 have d5:E5 5=aa 0:=by rw[hE5];simp only[go_sem]
 clear hE5;refine W.aS 9444588850551214571556 (by rfl) (fun ρ Hy=>Hy=R2/\∃j:Nat,ρ 5=aa j/\j<=d.Q.length/\∀u∈d.Q.take j,Tp d.I u) (fun ρ H=>d.Q.length-(iv (ρ 5)).toNat) ?_ ?_
 ·simp only[go_sem,d5];exact⟨0,rfl,U,SX⟩
 rintro ρ2 Hy ⟨rfl,j,h5,hj,hall⟩;refine W.en (fun E6=>E6 1=.Y H.C 0 0 /\ E6 4=.Y (H.C+1) 0 0 /\ E6 5=aa j) (by simp only[go_sem,d1,d4,h5]) fun E6 ⟨q1,q4,q5⟩=>?_
 by_cases hbj:(j:Int)<d.Q.length;rotate_left
 ·refine W.vs ?_;simp only[go_sem,q1,q5,k0,hbj];refine W.vs ?_;simp only[go_sem];rw[PF U]at hall;exact av.mk U (by have:=hK Hy;rw[fB (jq.2 ⟨hA,hD,hnet,hall⟩)]at this;exact this)
 obtain⟨u,hu⟩:=aw (l:=d.Q) (i:=j) U;obtain⟨f1',f2'⟩:=hf.Q.2 u (PA hu);have hne:=sT hu;have p0:=wD hu;have p1:j*2+2<=(aP d.Q).length:=by rw[jL];omega
 have w1:=PD ((j:Int)+1) U;refine W.sq ?_;simp only[go_sem,q1,q5,k0,hbj];refine W.seq (W.block (W.seq ?_));refine W.dr 7 [0,1,0,7,15,0,32] Try.mixed ?_;simp only[go_sem,q1,q4,q5,k0,l2,hbj,hne,p0,p1];refine⟨_,[],cD.pure fun H2=>tC d.X (bt d) U H2 _ ⟨rfl,rfl⟩,?_⟩;simp only[go_sem];refine aH.nl (B4 (bt d) h8 hc4 u f1' f2' _ _ ⟨trivial,?_⟩);by_cases hu1:Tp (bt d) u
 ·have hub:=fB hu1;simp only[go_sem,hub];refine W.vs ?_;simp only[go_sem];refine W.vs ?_;simp only[go_sem,q5,w1];refine⟨⟨j+1,rfl,U,fun y hy=>?_⟩,by rw[h5];simp only[aa,aM];omega⟩;rw[aT hu]at hy;rcases PT.1 hy with h|h
  ·exact hall y h
  ·obtain rfl:=List.mem_singleton.1 h;exact tL.1 hu1
 ·have hub:=ga hu1;simp only[go_sem,hub];refine W.vs ?_;simp only[go_sem];exact no (fun h=>hu1 (tL.2 ((jq.1 h).2.2.2 u (PA hu)))) _ (U)
def NQ {i:Nat}(h0:i≠A*3)(h1:i≠A*3+1)(h2:i≠A*3+2):(aJ (ns.set A x'))[i]?=(aJ ns)[i]?:=by
 have hp:i=(i / 3)*3+i % 3:=U
 have hA:i / 3≠A:=U
 have hg:(ns.set A x')[i / 3]?=ns[i / 3]?:=PY fun h=>hA h.symm;cases hn:ns[i / 3]? with
 |none =>
  have h3:ns.length<=i / 3:=by
   rcases PZ (i / 3) ns.length with h|h
   ·rw[PB h]at hn;cases hn
   ·exact h
  rw[PN (by rw[dZ,PI];omega),PN (by rw[dZ];omega)]
 |some x =>
  rw[hn]at hg;have c3:i % 3=0\/i % 3=1\/i % 3=2:=U
  rcases c3 with c|c|c
  ·rw[hp,c,Nat.add_zero,gI hg,gI hn]
  ·rw[hp,c,hJ hg,hJ hn]
  ·rw[hp,c,iL hg,iL hn]
def NR (h:A<ns.length)(c pv rv:S1):aN (ns.set A x') A c pv rv=aN ns A c pv rv:=by
 have hs:A<(ns.set A x').length:=by rw[PI];exact h
 apply Qn;intro i;by_cases h0:i=A*3
 ·rw[h0,lH hs,lH h]
 by_cases h1:i=A*3+1
 ·rw[h1,nj hs,nj h]
 by_cases h2:i=A*3+2
 ·rw[h2,jJ hs,jJ h]
 rw[jg h0 h1 h2,jg h0 h1 h2,NQ h0 h1 h2]
def NS {w w5 n5:Int}{y:S5}(hy:(y,cs)=eh w w5 a r n5 n d)(hc:∀x∈d.I,1<=x.J/\x.J<=4)(hd:∀v x,d.I[v]?=some x->d.Z.testBit v=true->x.O=[])(hb:∀v,d.Z.testBit v=true->v<d.I.length)
    (hx:y.I[A]?=some xh) (hne:xh.O≠[]) (hA:y.Z.testBit A=true):1<=xh.J/\xh.J<=4:=by
 unfold eh at hy;split at hy
 ·cases hy;simp only at hx hA;have hAl:=hb A hA;obtain⟨x,hxd⟩:=aw hAl;have hr:=hd A x hxd hA;have hcx:=hc x (PA hxd);generalize w5 % 12=c at hx;generalize (a % (d.I.length:Int)).toNat=B at hx;unfold di at hx;have same:d.I[A]?=some xh->1<=xh.J/\xh.J<=4:=fun h=>hc xh (PA h);cases hB:d.I[B]? with
  |none=>rw[hB]at hx;simp at hx
  |some z =>
   rw[hB]at hx;simp only at hx;split at hx
   ·exact same hx
   split at hx
   ·rw[PJ hAl]at hx;exact same hx
   split at hx
   ·rw[List.getElem?_take]at hx;split at hx
    ·exact same hx
    ·cases hx
   by_cases hAB:A=B
   ·subst hAB;rw[hxd]at hB;cases hB;rw[PO hAl]at hx;have hxx:=Option.some.inj hx;unfold cQ at hxx;split at hxx
    ·rw[<- hxx]at hne;exact absurd hr hne
    split at hxx
    ·rw[<- hxx]at hne;exact absurd hr hne
    split at hxx
    ·rw[<- hxx]at hne;exact absurd hr hne
    split at hxx
    ·rw[<- hxx];exact hcx
    ·rw[hr]at hxx;simp at hxx;rw[<- hxx];exact hcx
   ·rw[PY fun h=>hAB h.symm]at hx;exact same hx
 ·cases hy;exact hc xh (PA hx)
structure HolY (id:Nat)(d:S5)(cs:List S1)(A:Nat)(xh:S3):Prop where
 at':d.I[A]?=some xh
 O:xh.O=[]
 dec:d.Z.testBit A=true
 J:1<=xh.J/\xh.J<=4
 cs:cs=aN d.I A (aa xh.J) (af xh.F) (.V id 0 0 0 1)
def kR (id:Nat)(d:S5)(cs:List S1)(H:S2):Prop :=
 Th d/\(Tn (fun v=>d.Z.testBit v=true) d.I cs\/(∃A xh,HolY id d cs A xh)/\id<H.C/\H.get id=some (.L 0 59 []))
def BA (h:HolY id d cs A xh)(hg:H.get id=some (.L 0 59 [])):
  ∃cs',Tn (fun _=>False) d.I cs'/\cs'.length=cs.length/\∀i (h:i<cs.length) (h':i<cs'.length),TJ H cs[i] cs'[i]:=by
 have hA:=aI h.at';refine⟨aN d.I A (aa xh.J) (af xh.F) (az []),?_,by rw[h.cs,dh,dh],fun i h1 h2=>?_⟩
 ·have:=pD (e:=fun _=>False) (x':=xh) (rv:=az []) hA (.inl (by rw[h.O])) fun h=>h.elim;rw[gM h.at']at this;exact this
 ·have hcs:=h.cs;subst hcs;have e:aN d.I A (aa xh.J) (af xh.F) (az [])=(aN d.I A (aa xh.J) (af xh.F) (.V id 0 0 0 1)).set (A*3+2) (az []):=(pB _ _ _ _).symm;simp only[e,QY];split
  ·rename_i hi;subst hi;have h3:=PB h1;rw[jJ hA]at h3;rw[<- Option.some.inj h3];exact .V hg
  ·exact .same _
def BB {cs':List S1}(hl:cs'.length=cs.length)(h:∀i (h:i<cs.length) (h':i<cs'.length),TJ H cs[i] cs'[i]):∀i (_:i<[ct d cs].length) (_:i<[ct d cs'].length),TJ H [ct d cs][i] [ct d cs'][i]:=fun i hi _=>by
 match i,hi with
 |0,_ =>
  refine .agg rfl fun j hj _=>?_
  match j,hj with
  |0,_=>exact .same _
  |1,_=>exact .M hl h
  |2,_=>exact .same _
  |3,_=>exact .same _
def BC {e:Nat->Prop}(hq:Tn e d.I cs){S:Nat->Prop}{nx:Nat}:Fz S H nx (ct d cs) (iH d):=by
 refine .agg rfl fun i hi _=>?_
 match i,hi with
 |0,_=>exact .lit _
 |1,_=>exact .M (by rw[hq.len,gG]) fun i h h'=>hq.s9 i h h'
 |2,_=>exact .lit _
 |3,_=>exact .M rfl fun j h h'=>td d.Q _ (P4 h)
def kR.read (h:kR id d cs H){f:FuncId}{K:S8->S2->Prop}(hc:ae Try.prog G0 f [iH d] H K):ae Try.prog G0 f [ct d cs] H K:=by
 obtain⟨_,h|⟨⟨A,xh,h⟩,_,hg⟩⟩:=h
 ·exact ae.qg aZ (args':=[iH d]) rfl (fun i hi _=>match i,hi with|0,_=>BC h) hc
 ·obtain⟨cs',h1,h2,h3⟩:=BA h hg;exact ae.emp (args':=[ct d cs']) rfl (BB h2 h3) (ae.qg aZ (args':=[iH d]) rfl (fun i hi _=>match i,hi with|0,_=>BC h1) hc)
def NV (h:kR id d cs H)(K:S8->S2->Prop)(hK:K (.ret (.nc [af (aF (fX d)),aa (eW d)])) H):ae Try.prog G0 28 [ct d cs] H K :=
 h.read (La d h.1 H K hK)
def NW (h:kR id d cs H)(hn:Te d)(K:S8->S2->Prop)
  (hN:gD d=none->K (.ret (.nc [.lit (.slice none 0 0),.lit (.bool false)])) H) (hS:∀r,gD d=some r->K (.ret (.nc [af (aF r),.lit (.bool true)])) H):ae Try.prog G0 29 [ct d cs] H K:=by
 obtain⟨hf,h|⟨⟨A,xh,h⟩,_,hg⟩⟩:=h
 ·exact CL d cs h hf.Z hn H K hN hS
 ·obtain⟨cs',h1,h2,h3⟩:=BA h hg;exact ae.emp (args':=[ct d cs']) rfl (BB h2 h3) (CL d cs' h1 hf.Z hn H K hN hS)
def NX (h:kR id d cs H)(K:S8->S2->Prop)(hK:K (.ret (.lit (.bool (iP (Tj d))))) H):ae Try.prog G0 13 [ct d cs] H K:=by
 obtain⟨hf,h|⟨⟨A,xh,h⟩,hlt,hg⟩⟩:=h
 ·exact OW d cs h hf H K hK
 ·have hh:=ae.hole (P:=Try.prog) (f:=13) (args:=[ct d cs]) (args':=[ct d cs]) (v':=.lit (.bool (iP (Tj d)))) aZ hg hlt rfl (fun i hi _=>?_) (OX d A id 0 xh h.at' h.O h.dec cs h.cs hf (mu H id) h.J hlt ((uu H id).trans hg) _ fun H'=>⟨_,rfl,.lit _⟩)
  ·exact hh.mono fun r H' ⟨h1,h2⟩=>by subst h1;subst h2;exact hK
  ·match i,hi with
   |0,_ =>
    refine .agg rfl fun j hj _=>?_
    match j,hj with
    |0,_=>exact .lit _
    |1,_ =>
     rw[h.cs];refine .M rfl fun k h1 h2=>nk (.cO _) (.V hlt fun h=>h rfl) k h1 h2
    |2,_=>exact .lit _
    |3,_=>exact .M rfl fun j h h'=>td d.Q _ (P4 h)
def KU {q:List Int}(hq:q≠[]):gC c n g q≠[]/\(gC c n g q).length<=q.length+1:=by
 have hl:0<q.length:=Qv.2 hq;have:0<(gC c n g q).length/\(gC c n g q).length<=q.length+1:=by
  unfold gC;split
  ·rw[PI];omega
  ·split
   ·simp
   ·split
    ·rw[List.length_cons,P5];omega
    ·rw[KG];omega
 exact⟨Qv.1 this.1,this.2⟩
def KV (hx:x.F.length<=m/\x.O.length<=m/\∀r∈x.O,r≠[]/\r.length<=m):
  ((cQ c r n g x).1.F.length<=m+1/\(cQ c r n g x).1.O.length<=m+1/\∀r'∈(cQ c r n g x).1.O,r'≠[]/\r'.length<=m+1)/\((cQ c r n g x).2=az (cQ c r n g x).1.O\/(cQ c r n g x).2=aU (cQ c r n g x).1)/\((c=5->x.O≠[]->¬r % (x.O.length:Int)=0)->(cQ c r n g x).2=aU (cQ c r n g x).1):=by
 obtain⟨h1,h2,h3⟩:=hx;have h3':∀r∈x.O,r≠[]/\r.length<=m+1:=fun r hr=>⟨(h3 r hr).1,by have:=(h3 r hr).2;omega⟩
 unfold cQ;split
 ·exact⟨⟨by show x.F.length<=_;omega,by show x.O.length<=_;omega,h3'⟩,.inr rfl,fun _=>rfl⟩
 ·split
  ·exact⟨⟨by simp;omega,by show x.O.length<=_;omega,h3'⟩,.inr rfl,fun _=>rfl⟩
  ·split
   ·exact⟨⟨SX,by show x.O.length<=_;omega,h3'⟩,.inr rfl,fun _=>rfl⟩
   ·split
    ·refine⟨⟨by show x.F.length<=_;omega,by simp;omega,fun r hr=>?_⟩,.inr rfl,fun _=>rfl⟩;rcases PT.1 hr with h|h
     ·exact h3' r h
     ·obtain rfl:=List.mem_singleton.1 h;exact⟨SX,SX⟩
    ·split
     ·exact⟨⟨by show x.F.length<=_;omega,by show x.O.length<=_;omega,h3'⟩,.inr rfl,fun _=>rfl⟩
     ·rename_i q hq;have hql:=aI hq;split
      ·rename_i c5;refine⟨⟨by show x.F.length<=_;omega,by simp;omega,fun r hr=>h3' r (P0 hr)⟩,.inl rfl,fun h=>?_⟩;have hx0:x.O≠[]:=fun h=>by rw[h]at hql;simp at hql
       have h9:=h c5 hx0;have h8:=Rr r (show (x.O.length:Int)≠0 by omega);refine(nG (x:={ x with O:=x.O.take (r % (x.O.length:Int)).toNat }) fun h=>?_).symm;have:=congrArg List.length h;simp only[PQ,List.length_nil]at this;omega
      ·have hq2:=h3 q (PA hq);have hrb:=KU (c:=c) (n:=n) (g:=g) hq2.1;have hne:x.O.set (r % (x.O.length:Int)).toNat (gC c n g q)≠[]:=fun h=>by
        have:=congrArg List.length h;rw[PI]at this;simp at this;rw[this]at hql;simp at hql
       refine⟨⟨by show x.F.length<=_;omega,by show (x.O.set _ _).length<=_;rw[PI];omega,fun r' hr=>?_⟩,.inl rfl,fun _=>(nG (x:={ x with O:=x.O.set (r % (x.O.length:Int)).toNat (gC c n g q) }) hne).symm⟩;rcases P1 hr with h|rfl
       ·exact h3' r' h
       ·exact⟨hrb.1,U⟩
def KW (hx:ns[A]?=some x)(e:Nat->Prop):Tn e ns (aN ns A (aa x.J) (af x.F) (aU x)):=by
 have:=pD (e:=e) (x':=x) (rv:=aU x) (aI hx) (.inr rfl) fun _=>rfl;rw[gM hx]at this;exact this
def Aw (hs:Td m ns):Td (m+1) (di c A r n g ns).2.1/\Tn (fun v=>c=5->v=A->∀x,ns[v]?=some x->x.O≠[]->¬r % (x.O.length:Int)=0) (di c A r n g ns).2.1 (di c A r n g ns).2.2/\(di c A r n g ns).2.1.length<=ns.length+1:=by
 have hs1:=hs.mono (QS m);unfold di;split
 ·exact⟨⟨SX,fun x hx=>by simp at hx⟩,⟨rfl,fun v x hx=>by simp at hx⟩,SX⟩
 ·rename_i x hx;have hA:=aI hx;have hxm:=hs.node x (PA hx);have nq:=KW hx (fun v=>c=5->v=A->∀x,ns[v]?=some x->x.O≠[]->¬r % (x.O.length:Int)=0);split
  ·exact⟨hs1,nq,QS _⟩
  ·split
   ·refine⟨⟨by have:=hs.len;simp;omega,fun y hy=>?_⟩,nq.snoc (x:=⟨1,[],[[g]]⟩) (.inr rfl) fun _=>rfl,SX⟩;rcases PT.1 hy with hy|hy
    ·exact hs1.node y hy
    ·obtain rfl:=List.mem_singleton.1 hy;exact⟨SX,SX,fun r hr=>by simp at hr;subst hr;exact⟨SX,SX⟩⟩
   ·split
    ·exact⟨hs1.take _,nq.take _,by simp;omega⟩
    ·obtain⟨b1,b2,b3⟩:=KV (c:=c) (r:=r) (n:=n) (g:=g) hxm;refine⟨hs1.set b1,pD hA b2 fun he=>b3 fun h5=>he h5 rfl x hx,by rw[PI];exact QS _⟩
def KR {us:List Tl}(hu:Tr m us):Tr (m+5) (lI c a n us):=by
 have hu5:∀u∈us,u.vars.length<=m+5/\u.w.length<=m+5:=fun u h=>by have:=hu.nq u h;omega
 have hl:=hu.len;unfold lI;split
 ·exact⟨SX,fun u h=>by rw[Qf h];exact⟨SX,SX⟩⟩
 ·rename_i u hu0;have h0:=hu.nq u (PA hu0);split
  ·refine⟨by rw[PI];omega,fun u' h=>?_⟩;rcases P1 h with h|rfl
   ·exact hu5 u' h
   ·exact⟨by simp;omega,by show u.w.length<=_;omega⟩
  ·split
   ·refine⟨by rw[PI];omega,fun u' h=>?_⟩;rcases P1 h with h|rfl
    ·exact hu5 u' h
    ·exact⟨by show u.vars.length<=_;omega,by show (u.w.set _ _).length<=_;rw[PI];omega⟩
   ·refine⟨by simp;omega,fun u' h=>?_⟩;rcases PT.1 (P0 h) with h|h
    ·exact hu5 u' h
    ·rw[Qf h];exact⟨SX,SX⟩
def KS {w w5 n5:Int}(hm:m<2 ^ 29)(hs:Td m d.I)(hu:Tr m d.Q)(hd:d.Z<2 ^ 64)(hdec:w % 8<4->w5 % 12=5->d.Z.testBit (a % (d.I.length:Int)).toNat=true->∀x,d.I[(a % (d.I.length:Int)).toNat]?=some x->x.O≠[]->¬r % (x.O.length:Int)=0):
  Th (eh w w5 a r n5 n d).1/\Tn (fun v=>(eh w w5 a r n5 n d).1.Z.testBit v=true) (eh w w5 a r n5 n d).1.I (eh w w5 a r n5 n d).2/\(eh w w5 a r n5 n d).1.I.length<=d.I.length+1/\Td (m+1) (eh w w5 a r n5 n d).1.I/\Tr (m+5) (eh w w5 a r n5 n d).1.Q:=by
 have fit:∀(g:Int) (ns:List S3) (D:Nat) (us:List Tl),Td (m+1) ns->Tr (m+5) us->D<2 ^ 64->Th ⟨g,ns,D,us⟩:=fun g ns D us h1 h2 h3=>by
  refine⟨⟨by have:=h1.len;show (ns.length:Int)<_;omega,fun x hx=>?_⟩,h3,by have:=h2.len;show (us.length:Int)<_;omega,fun u hu=>?_⟩
  ·obtain⟨h1,h2,h3⟩:=h1.node x hx;exact⟨U,U,fun r hr=>by have:=(h3 r hr).2;omega⟩
  ·obtain⟨h1,h2⟩:=h2.nq u hu;exact⟨U,U⟩
 have hu5:Tr (m+5) d.Q:=⟨by have:=hu.len;omega,fun u h=>by have:=hu.nq u h;omega⟩
 unfold eh;split
 ·rename_i hw4;obtain⟨b1,b2,b3⟩:=Aw (m:=m) (A:=(a % (d.I.length:Int)).toNat) (c:=w5 % 12) (r:=r) (n:=n5) (g:=d.X) hs;exact⟨fit _ _ _ _ b1 hu5 hd,b2.mono (fun v hv h5 h6 x hx hne=>by subst h6;exact hdec hw4 h5 hv x hx hne),b3,b1,hu5⟩
 ·obtain⟨b1,b2,b3⟩:=Aw (m:=m) (A:=0) (c:=0) (r:=0) (n:=d.X) (g:=d.X) hs;have hbn:(di 0 0 0 d.X d.X d.I).2.1=d.I:=by
   unfold di;split
   ·rename_i h;exact(PH (by have:=QU.1 h;omega)).symm
   ·rfl
  rw[hbn]at b2;have hU:Tr (m+5) (if w % 8=4 then d.Q else lI (w % 8) a n d.Q):=by
   split
   ·exact hu5
   ·exact KR hu
  refine⟨fit _ _ _ _ (hs.mono (QS m)) hU ?_,b2.mono fun v _ h5=>absurd h5 SY,QS _,hs.mono (QS m),hU⟩
  ·split
   ·exact Sg hd (U)
   ·exact hd
def KT (h:Tj d):Td 1024 d.I/\Tr 1024 d.Q/\∀v x,d.I[v]?=some x->d.Z.testBit v=true->x.O=[]:=by
 have n8:=h.n.n1;have hsz:=h.net.size;rw[tz]at hsz;refine⟨⟨U,fun x hx=>?_⟩,⟨by have:=h.Q.1;omega,fun u hu=>?_⟩,fun v x hx hb=>(h.n.dec v x hx hb).1⟩
 ·obtain⟨v,hv⟩:=PU.1 hx;have hn:=h.net.node _ (PA (lX (c:=fun _ _=>0) hv));have hr:=h.net.O _ (PA (lX (c:=fun _ _=>0) hv));rw[(lO ..).1,(lO ..).2,lW]at hn;unfold fa at hr;rw[w6]at hr;have hpl:=pM n8.2 hn.2 h.n.J;refine⟨U,?_⟩;by_cases hb:d.Z.testBit v=true
  ·rw[(h.n.dec v x hv hb).1];exact⟨SX,fun r hr=>by cases hr⟩
  ·rw[pP hb]at hr;have:=te hn.2 h.n.J;refine⟨U,fun r hr'=>?_⟩;have:=(hr.2 r hr').1;exact⟨fun e=>by rw[e]at this;simp at this;omega,U⟩
 ·have hu':=h.Q.2 u hu;have:=pM n8.2 hu'.vars h.n.J;have h2:=te (x:=⟨0,u.vars,[]⟩) hu'.vars h.n.J;have h3:=hu'.size;have e:bc d.I ⟨0,u.vars,[]⟩=bd (ay d.I) u.vars:=rfl;rw[e]at h2;omega
end Go.Proofs
namespace Go.Hx
variable {P:Program} {G:Nat->Option (List S1)} {Γ Γ':aq} {H H':S2} {w w':World}
variable {v:S1}
inductive Tv (K:Nat->Prop):S1->Prop
 |lit (v:Value):Tv K (.lit v)
 |M {n:Nat} {c:List S1} (h:∀i (h:i<c.length),Tv K c[i]):Tv K (.M n c)
 |nb {n:Nat} {c:List S1} (h:∀i (h:i<c.length),Tv K c[i]):Tv K (.nb c n)
 |agg {c:List S1} (h:∀i (h:i<c.length),Tv K c[i]):Tv K (.agg c)
 |nc {c:List S1} (h:∀i (h:i<c.length),Tv K c[i]):Tv K (.nc c)
 |nl {f:FuncId} {a b:List S1} (h1:∀i (h:i<a.length),Tv K a[i]) (h2:∀i (h:i<b.length),Tv K b[i]):Tv K (.nl f a b)
 |V {id g o l z:Nat} (h:K id):Tv K (.V id g o l z)
 |Y {id g o:Nat} (h:K id):Tv K (.Y id g o)
 |ng {id:Nat} (h:K id):Tv K (.ng id)
def Tv.AQ {cv:Value}(h:S4 P Γ H w v cv):Tv (fun id=>id<H.C/\H.get id≠some .ni) v:=by
 induction h with
 |lit v=>exact .lit v
 |nj a cap=>exact .M fun i h=>absurd h (PS _)
 |M hb hlt hlen hcs hcell hrel ih=>exact .M fun i h=>ih i h (U)
 |V h=>exact .V ⟨h.1,h.2.2.1⟩
 |Y h=>exact .Y ⟨h.1,h.2.2.1⟩
 |nb hb hlt hcs hcell hrel ih=>exact .nb fun i h=>ih i h (U)
 |agg hcs hrel ih=>exact .agg fun i h=>ih i h (U)
 |nc hcs hrel ih=>exact .nc fun i h=>ih i h (U)
 |nl hfs hcs hf hc ih1 ih2=>exact .nl (fun i h=>ih1 i h U) fun i h=>ih2 i h (U)
 |ng h=>exact .ng ⟨h.1,h.2.2.1⟩
def Tv.sound {K:Nat->Prop}{Γ₁ Γ₂:aq}{H₁ H₂:S2}(hK:∀id,K id->H₂.get id=H₁.get id/\Γ₂ id=Γ₁ id/\id<H₂.C)(ho:∀b,Γ₂.da b->Γ₁.da b)(h:Tv K v):
  ∀ {cv:Value},S4 P Γ₁ H₁ w v cv->S4 P Γ₂ H₂ w v cv:=by
 induction h with
 |lit v=>intro cv h;cases h;exact .lit _
 |M _ ih =>
  intro cv h;cases h with
  |nj a cap=>exact .nj a cap
  |M hb hlt hlen hcs hcell hrel=>exact .M (fun h=>hb (ho _ h)) hlt hlen hcs hcell fun i h1 h2=>ih i h1 (hrel i h1 h2)
 |nb _ ih=>intro cv h;cases h with|nb hb hlt hcs hcell hrel=>exact .nb (fun h=>hb (ho _ h)) hlt hcs hcell fun i h1 h2=>ih i h1 (hrel i h1 h2)
 |agg _ ih=>intro cv h;cases h with|agg hcs hrel=>exact .agg hcs fun i h1 h2=>ih i h1 (hrel i h1 h2)
 |nc _ ih=>intro cv h;cases h with|nc hcs hrel=>exact .nc hcs fun i h1 h2=>ih i h1 (hrel i h1 h2)
 |nl _ _ ih1 ih2=>intro cv h;cases h with|nl hfs hcs hf hc=>exact .nl hfs hcs (fun i h1 h2=>ih1 i h1 (hf i h1 h2)) fun i h1 h2=>ih2 i h1 (hc i h1 h2)
 |V h =>
  intro cv hv;cases hv with
  |V hv =>
   obtain⟨a,b,c,d⟩:=hv;obtain⟨e1,e2,e3⟩:=hK _ h;refine .V ⟨e3,b,by rw[e1];exact c,fun g e cells hg=>?_⟩;rw[e1]at hg;rw[e2];exact d g e cells hg
 |Y h =>
  intro cv hv;cases hv with
  |Y hv =>
   obtain⟨a,b,c,d⟩:=hv;obtain⟨e1,e2,e3⟩:=hK _ h;refine .Y ⟨e3,b,by rw[e1];exact c,fun g e cells hg=>?_⟩;rw[e1]at hg;rw[e2];exact d g e cells hg
 |ng h =>
  intro cv hv;cases hv with
  |ng hv =>
   obtain⟨a,b,c,d,e⟩:=hv;obtain⟨e1,e2,e3⟩:=hK _ h;refine .ng ⟨e3,b,by rw[e1];exact c,fun st pend n env ps asg body hg=>?_,fun es hg=>?_⟩
   ·rw[e1]at hg;rw[e2];exact d st pend n env ps asg body hg
   ·rw[e1]at hg;rw[e2];exact e es hg
end Go.Hx
namespace Go.Hx
variable {P:Program} {G:Nat->Option (List S1)} {Γ Γ':aq} {H H':S2} {w w':World}
variable {e:TypeId}
inductive TF (id g id' g':Nat):S1->S1->Prop
 |same {v:S1} (h:Tv (fun _=>False) v):TF id g id' g' v v
 |hole:TF id g id' g' (.V id g 0 0 1) (.V id' g' 0 0 1)
 |M {len:Nat} {c c':List S1} (hl:c'.length=c.length) (h:∀i (h:i<c.length) (h':i<c'.length),TF id g id' g' c[i] c'[i]):TF id g id' g' (.M len c) (.M len c')
 |agg {c c':List S1} (hl:c'.length=c.length) (h:∀i (h:i<c.length) (h':i<c'.length),TF id g id' g' c[i] c'[i]):TF id g id' g' (.agg c) (.agg c')
theorem TF.sound {id g id' g':Nat}{Γ₁ Γ₂:aq}{H₁ H₂:S2}(h1:H₁.get id=some (.L g e []))(h2:H₂.get id'=some (.L g' e []))(hΓ:Γ₂ id'=Γ₁ id)(hlt:id'<H₂.C)(ho:∀b,Γ₂.da b->Γ₁.da b){v v':S1}(h:TF id g id' g' v v'):
  ∀ {cv:Value},S4 P Γ₁ H₁ w v cv->S4 P Γ₂ H₂ w v' cv:=by
 induction h with
 |same h=>exact fun hv=>h.sound (fun _ h=>h.elim) ho hv
 |hole =>
  intro cv hv;cases hv with
  |V hv =>
   obtain⟨_,b,_,d⟩:=hv;have h4:=(d _ _ _ h1).2 rfl;refine .V ⟨hlt,b,by rw[h2];simp,fun g0 e0 c0 hg=>?_⟩;rw[h2]at hg;cases hg;exact⟨S0,fun _=>by rw[hΓ];exact h4⟩
 |M hl _ ih =>
  intro cv h;cases h with
  |nj a cap =>
   rename_i c' _;obtain rfl:=PH (l:=c') (by simpa using hl);exact .nj a cap
  |M hb hlt' hlen hcs hcell hrel=>exact .M (fun h=>hb (ho _ h)) hlt' hlen U hcell fun i a b=>ih i U a (hrel i U b)
 |agg hl _ ih =>
  intro cv h;cases h with
  |agg hcs hrel=>exact .agg U fun i a b=>ih i U a (hrel i U b)
def Mr {f:FuncId}{args:List S1}{rs:List Nat}(V:Nat->Nat->S1)(hV:∀id g,TF id g H.C 0 (V id g) (V H.C 0))(hrs:∀r,r∈rs->r<H.C)
  (hcall:∀H2:S2,(∀r,r∈rs->H2.get r=H.get r)->ae P G f args H2 fun r H'=>∃id g,r=.ret (V id g)/\H2.C<=id/\id<H'.C/\(∀j,j<H2.C->H'.get j=H2.get j)/\H'.get id=some (.L g e [])):
  Ev.iU P G (.nl f [] []) args H (V H.C 0) (Ev.ed H.C (H.C+1) (fun _=>true) (ext ⟨fun _=>none,H.C⟩ [.L 0 e []]).get) 1 ⟨Ev.lk H.C (H.C+1),rs⟩:=by
 have hnew:Ev.ed H.C (H.C+1) (fun _=>true) (ext ⟨fun _=>none,H.C⟩ [.L 0 e []]).get H.C=some (.L 0 e []):=by
  unfold Ev.ed;rw[PG ⟨S0,Q8 _⟩,PG rfl];exact cf (H:=⟨fun _=>none,H.C⟩)
 have hout:∀r,r≠H.C->Ev.ed H.C (H.C+1) (fun _=>true) (ext ⟨fun _=>none,H.C⟩ [.L 0 e []]).get r=none:=fun r hr=>by
  unfold Ev.ed;rw[PC U]
 refine⟨hrs,fun r hr=>?_,fun c hc=>?_,fun H2 hag hres hn2=>aH.nl ⟨?_,fun Γ w cargs R hr=>?_⟩⟩
 ·have:r=H.C:=Qa fun h=>by rw[hout r h]at hr;cases hr
  subst this;exact⟨Ev.xL S0 (Q8 _),.inr ⟨S0,Q8 _⟩⟩
 ·obtain rfl:c=0:=U
  rw[show H.C+0=H.C from rfl,hnew];rfl
 ·exact(hcall H2 hag).1
 have hrid:H2.get H.C=some .ni:=hres 0 U;rw[List.nil_append,List.append_nil]at hr;refine((hcall H2 hag).2 Γ w cargs R hr).mono ?_;rintro x w' ⟨r,H',Γ',hend,⟨id,g,rfl,q1,q2,q3,q4⟩,R',E,hn⟩;obtain⟨H3,hH3⟩:∃H3:S2,H3=⟨Ev.bK (Ev.ed H.C (H.C+1) (fun _=>true) (ext ⟨fun _=>none,H.C⟩ [.L 0 e []]).get) H2.get,H2.C⟩:=⟨_,rfl⟩
 have h3n:H3.C=H2.C:=by rw[hH3]
 have h3r:H3.get H.C=some (.L 0 e []):=by rw[hH3];show Ev.bK _ _ _=_;unfold Ev.bK;rw[hnew]
 have h3o:∀r,r≠H.C->H3.get r=H2.get r:=fun r h=>by rw[hH3];show Ev.bK _ _ _=_;unfold Ev.bK;rw[hout r h]
 obtain⟨Γ3,hΓ3⟩:∃ Γ3:aq,Γ3=fun j=>if j=H.C then Γ' id else if H2.C<=j then none else Γ' j:=⟨_,rfl⟩
 have g3r:Γ3 H.C=Γ' id:=by rw[hΓ3];exact PG rfl
 have g3n:∀j,j≠H.C->H2.C<=j->Γ3 j=none:=fun j h1 h2=>by rw[hΓ3];show (if _ then _ else if _ then _ else _)=_;rw[PC h1,PG h2]
 have g3o:∀j,j≠H.C->j<H2.C->Γ3 j=Γ' j:=fun j h1 h2=>by rw[hΓ3];show (if _ then _ else if _ then _ else _)=_;rw[PC h1,PC U]
 have back:∀j x,Γ3 j=some x->∃j',Γ' j'=some x/\((j=H.C/\j'=id)\/(j≠H.C/\j<H2.C/\j'=j)):=fun j x h=>by
  by_cases h1:j=H.C
  ·subst h1;rw[g3r]at h;exact⟨_,h,.inl ⟨rfl,rfl⟩⟩
  ·rcases PZ j H2.C with h2|h2
   ·rw[g3o j h1 h2]at h;exact⟨_,h,.inr ⟨h1,h2,rfl⟩⟩
   ·rw[g3n j h1 h2]at h;cases h
 have ho:∀b,Γ3.da b->Γ'.da b:=fun b ⟨j,base,m,h⟩=>let ⟨j',h',_⟩:=back _ _ h;⟨j',base,m,h'⟩
 have hKs:∀j,(j<H2.C/\H2.get j≠some .ni)->H3.get j=H'.get j/\Γ3 j=Γ' j/\j<H3.C:=fun j ⟨h1,h2⟩=>by
  have hne:j≠H.C:=fun h=>h2 (h ▸ hrid);exact⟨(h3o j hne).trans (q3 j h1).symm,g3o j hne h1,U⟩
 have hEE:Ta Γ H2 w Γ3 H3 w':=by
  refine⟨E.os,E.tape,E.output,E.size,fun b hb hno=>⟨(E.na b hb hno).1,fun h=>(E.na b hb hno).2 (ho b h)⟩,fun j h1 h2 x' hx'=>?_,E.np,E.kind,fun j b x y hb hlt=>?_⟩;rotate_left
  ·obtain⟨j',h',hor⟩:=back _ _ hb;obtain⟨x',y',h''⟩:=E.newb j' b x y h' hlt;rcases hor with ⟨_,rfl⟩|⟨_,_,rfl⟩
   ·obtain⟨z,hz⟩:=R.nv _ _ h'';have:=R.C _ _ hz;omega
   ·exact⟨x',y',h''⟩
  by_cases hid:j=H.C
  ·subst hid;exact⟨.ni,hrid,trivial⟩
  ·rw[h3o j hid]at hx';obtain⟨x,hx,hle⟩:=E.nn j h1 U x' (by rw[q3 j h1];exact hx');refine⟨x,hx,?_⟩;have:=g3o j hid h1;cases x<;>cases x'<;>simp only[S7.le,this]at hle ⊢<;>exact hle
 have oldIds:∀j g0 e0 c0,H2.get j=some (.L g0 e0 c0)->∀i (h:i<c0.length),Tv (fun id=>id<H2.C/\H2.get id≠some .ni) c0[i]:=fun j g0 e0 c0 hg i hi=>by
  have h1:=R.L j g0 e0 c0 hg;cases hΓ:Γ j with
  |none=>rw[hΓ]at h1;rw[h1]at hi;exact absurd hi (PS _)
  |some y =>
   obtain⟨b,base,m⟩:=y;rw[hΓ]at h1;obtain⟨c,a1,a2,a3,a4⟩:=h1;obtain⟨cv,_,b2⟩:=a4 i hi;exact .AQ b2
 have R3:S9 P G Γ3 H3 w':=by
  refine⟨fun j g0 e0 c0 hg=>?_,fun j st pend m env ps asg body hg=>?_,fun j es hg=>?_,fun j hg=>?_,fun j j2 b base m base' m' h h'=>?_,fun j y h=>?_,fun j b base m h=>?_,fun j y h=>?_,fun g0 c0 h=>?_,R'.gsz⟩
  ·by_cases hid:j=H.C
   ·subst hid;rw[h3r]at hg;cases hg;have h1:=R'.L id g e [] q4;rw[g3r];cases hΓ':Γ' id with
    |none=>rfl
    |some y =>
     obtain⟨b,base,m⟩:=y;rw[hΓ']at h1;obtain⟨c,a1,a2,a3,_⟩:=h1;exact⟨c,a1,a2,a3,fun i hi=>absurd hi (PS _)⟩
   ·rw[h3o j hid]at hg;have hlt:=R.C j _ hg;have h1:=R'.L j g0 e0 c0 (by rw[q3 j hlt];exact hg);rw[g3o j hid hlt];cases hΓ':Γ' j with
    |none=>rw[hΓ']at h1;exact h1
    |some y =>
     obtain⟨b,base,m⟩:=y;rw[hΓ']at h1;obtain⟨c,a1,a2,a3,a4⟩:=h1;exact⟨c,a1,a2,a3,fun i hi=>let ⟨cv,b1,b2⟩:=a4 i hi;⟨cv,b1,(oldIds j g0 e0 c0 hg i hi).sound hKs ho b2⟩⟩
  ·have hid:j≠H.C:=fun h=>by subst h;rw[h3r]at hg;cases hg
   rw[h3o j hid]at hg;have hlt:=R.C j _ hg;obtain⟨b0,r0,p1,p2,p3,p4,p5,p6,p7,p8,p9⟩:=R.loop j st pend m env ps asg body hg;obtain⟨b,r,a1,a2,a3,a4,a5,a6,a7,a8,a9⟩:=R'.loop j st pend m env ps asg body (by rw[q3 j hlt];exact hg);exact⟨b,r,by rw[g3o j hid hlt];exact a1,a2,a3,a4,a5,a6,a7,a8,fun t ht=>(Tv.AQ (p9 t U)).sound hKs ho (a9 t ht)⟩
  ·have hid:j≠H.C:=fun h=>by subst h;rw[h3r]at hg;cases hg
   rw[h3o j hid]at hg;have hlt:=R.C j _ hg;obtain⟨b,a1,a2⟩:=R'.mp j es (by rw[q3 j hlt];exact hg);exact⟨b,by rw[g3o j hid hlt];exact a1,a2⟩
  ·have hid:j≠H.C:=fun h=>by subst h;rw[h3r]at hg;cases hg
   rw[h3o j hid]at hg;have hlt:=R.C j _ hg;rw[g3o j hid hlt];exact R'.ni j (by rw[q3 j hlt];exact hg)
  ·obtain⟨i1,k1,c1⟩:=back _ _ h;obtain⟨i2,k2,c2⟩:=back _ _ h';have:=R'.inj _ _ _ _ _ _ _ k1 k2;omega
  ·obtain⟨i1,k1,c1⟩:=back _ _ h;rcases c1 with ⟨rfl,_⟩|⟨h1,h2,rfl⟩
   ·exact⟨_,h3r⟩
   ·obtain⟨y',hy⟩:=R'.nv _ _ k1;exact⟨y',by rw[h3o _ h1,<- q3 _ h2];exact hy⟩
  ·obtain⟨i1,k1,c1⟩:=back _ _ h;exact R'.lt _ _ _ _ k1
  ·by_cases hid:j=H.C
   ·omega
   ·rw[h3o j hid]at h;have:=R.C j _ h;omega
  ·exact(R.nr g0 c0 h).aV hEE (U)
 refine⟨.ret (V H.C 0),H3,Γ3,?_,⟨rfl,hH3⟩,R3,hEE,U⟩;cases x with
 |returned cv=>exact(hV id g).sound q4 h3r g3r U ho hend
 |_=>exact hend.elim
end Go.Hx
namespace Go.Hx
variable {P:Program} {G:Nat->Option (List S1)} {all:Array Oper} {tail:St->Prop} {b i:Nat} {bs:List Nat} {acc:List (Nat × FP)} {K:FP->St->Prop} {s:St} {d:Option Tmp} {ty:TypeId} {pos:String} {aft:Array Edge} {g:Option (Nat × Bool)}
def Lc (bs:List Nat):Ev.cz P G all tail bs i acc [] s=tail s:=by cases bs<;>rfl
def Ld (op:Op)(rest:List Oper):Ev.cz P G all tail (b :: bs) i acc (⟨d,op,ty,pos,aft,none⟩ :: rest) s =
  Ev.bz P G ⟨d,op,ty,pos,aft,none⟩ (fun f s'=>eR b f acc/\Ev.cz P G all tail bs (i+1) (dS i f acc) rest s') s:=by
 simp[Ev.cz,dD,bb]
def Le (fv:Operand)(args:Array Operand)(ats:Array TypeId):Ev.bz P G ⟨d,.call ⟨.value fv,args,ats⟩,ty,pos,aft,g⟩ K s =
  ∃v e k f,Ev.iU P G (aj G s.ρ fv) (args.toList.map (aj G s.ρ)) s.H v e k f/\K f ⟨aD s.ρ d v,⟨Ev.bK e s.H.get,s.H.C+k⟩⟩:=rfl
def Lf (x:Operand):Ev.bz P G ⟨d,.move x,ty,pos,aft,g⟩ K s=bz P G ⟨d,.move x,ty,pos,aft,g⟩ K s:=rfl
def Lg (t:TypeId)(x:Operand):Ev.bz P G ⟨d,.load t x,ty,pos,aft,g⟩ K s=bz P G ⟨d,.load t x,ty,pos,aft,g⟩ K s:=rfl
def Lh (t:TypeId)(p:Array (Nat × Operand)):Ev.bz P G ⟨d,.build t p,ty,pos,aft,g⟩ K s=bz P G ⟨d,.build t p,ty,pos,aft,g⟩ K s:=rfl
def Li (a:Nat):Ev.lk a (a+1)=[a]:=by
 unfold Ev.lk;rw[RH];simp[QV]
def Lj {H:S2}{bk:S7}:(⟨Ev.bK (Ev.ed H.C (H.C+1) (fun _=>true) (ext ⟨fun _=>none,H.C⟩ [bk]).get) H.get,H.C+1⟩:S2)=ext H [bk]:=by
 unfold ext;simp only[QK];congr 1
 funext j
 unfold Ev.bK Ev.ed;by_cases h:H.C<=j/\j<H.C+1
 ·have:j=H.C:=U
  subst this;simp
 ·simp[h]
end Go.Hx
namespace Go.Hx
variable {P:Program} {G:Nat->Option (List S1)} {all:Array Oper} {tail:St->Prop} {b i:Nat} {bs:List Nat} {acc:List (Nat × FP)} {K:FP->St->Prop} {s:St} {d:Option Tmp} {ty:TypeId} {pos:String} {aft:Array Edge} {g:Option (Nat × Bool)}
def NY (t:TypeId)(x y:Operand):Ev.bz P G ⟨d,.indexAddr t x y,ty,pos,aft,g⟩ K s=bz P G ⟨d,.indexAddr t x y,ty,pos,aft,g⟩ K s:=rfl
end Go.Hx
namespace Go.Proofs
open Go.Hx
variable {d:S5}
def BD (w w5 a r:Int)(d:S5)(x:S3):Prop:=w % 8<4/\HoleAt w5 r d.I (a % (d.I.length:Int)).toNat x/\d.Z.testBit (a % (d.I.length:Int)).toNat=true
def pN (a:Int)(d:S5)(x:S3)(id g:Nat):S1:=ct d (aN d.I (a % (d.I.length:Int)).toNat (aa x.J) (af x.F) (.V id g 0 0 1))
def tv (l:List Int):Tv (fun _=>False) (af l):=by
 refine .M fun i h=>?_;simp only[ints,PK,aa];exact .lit _
def NZ (x:S3):Tv (fun _=>False) (aU x):=by
 unfold aU;split
 ·exact .lit _
 ·refine .M fun i h=>?_;simp only[PK];exact tv _
def N0 (ns:List S3)(i:Nat)(h:i<(aJ ns).length):Tv (fun _=>False) (aJ ns)[i]:=by
 have hb:i / 3<ns.length:=by rw[dZ]at h;omega
 obtain⟨x,hx⟩:=aw hb;have hp:i=(i / 3)*3+i % 3:=U
 have g1:(aJ ns)[i]?=some (aJ ns)[i]:=PB h;generalize (aJ ns)[i]=u at g1 ⊢;have c3:i % 3=0\/i % 3=1\/i % 3=2:=U
 rcases c3 with c|c|c
 ·rw[hp,c,Nat.add_zero,gI hx]at g1;cases g1;exact .lit _
 ·rw[hp,c,hJ hx]at g1;cases g1;exact tv _
 ·rw[hp,c,iL hx]at g1;cases g1;exact NZ _
def N1 (a:Int)(d:S5)(x:S3)(hA:(a % (d.I.length:Int)).toNat<d.I.length)(id g id' g':Nat):TF id g id' g' (pN a d x id g) (pN a d x id' g'):=by
 refine .agg rfl fun i hi _=>?_
 match i,hi with
 |0,_=>exact .same (.lit _)
 |1,_ =>
  refine .M (by rw[dh,dh]) fun j h1 h2=>?_;generalize (a % (d.I.length:Int)).toNat=A at hA h1 h2 ⊢;have e1:=PB h1;have e2:=PB h2;generalize (aN d.I A (aa x.J) (af x.F) (.V id g 0 0 1))[j]=u at e1 ⊢;generalize (aN d.I A (aa x.J) (af x.F) (.V id' g' 0 0 1))[j]=v at e2 ⊢;by_cases c0:j=A*3
  ·rw[c0,lH hA]at e1 e2;cases e1;cases e2;exact .same (.lit _)
  by_cases c1:j=A*3+1
  ·rw[c1,nj hA]at e1 e2;cases e1;cases e2;exact .same (tv _)
  by_cases c2:j=A*3+2
  ·rw[c2,jJ hA]at e1 e2;cases e1;cases e2;exact .hole
  rw[jg c0 c1 c2]at e1 e2;rw[e1]at e2;cases e2;have hl:j<(aJ d.I).length:=by rw[dZ];rw[dh]at h1;exact h1
  rw[PB hl]at e1;cases e1;exact .same (N0 _ _ hl)
 |2,_=>exact .same (.lit _)
 |3,_ =>
  refine .same (.M fun j h=>?_);have hm:=P4 h;generalize (aP d.Q)[j]=c at hm;unfold aP at hm;obtain⟨r,hr,hc⟩:=RA.1 hm;obtain⟨x,_,rfl⟩:=P3.1 hr;unfold Tl.cells at hc;simp only[List.mem_cons,List.not_mem_nil,or_false]at hc;rcases hc with rfl|rfl<;>exact tv _
def pO (a:Int)(d:S5)(x:S3):S5:=⟨d.X,d.I.set (a % (d.I.length:Int)).toNat { x with O:=[] },d.Z,d.Q⟩
def N2 (a:Int)(d:S5)(x:S3)(id g:Nat):pN a d x id g=ct (pO a d x) (aN d.I (a % (d.I.length:Int)).toNat (aa x.J) (af x.F) (.V id g 0 0 1)):=by
 have e:(pO a d x).I.length=d.I.length:=PI ..;unfold pN;rw[gL,gL];unfold fY;rw[e];rfl
def N3 {w w5 a r:Int}{x:S3}(h:BD w w5 a r d x)(hf:Th d)(hc:1<=x.J/\x.J<=4)(id:Nat):
  Th (pO a d x)/\HolY id (pO a d x) (aN d.I (a % (d.I.length:Int)).toNat (aa x.J) (af x.F) (.V id 0 0 0 1)) (a % (d.I.length:Int)).toNat { x with O:=[] }:=by
 have hA:=aI h.2.1.at';refine⟨⟨⟨by show ((d.I.set _ _).length:Int)<_;rw[PI];exact hf.I.1,fun z hz=>?_⟩,hf.Z,hf.Q⟩,⟨PO hA,rfl,h.2.2,hc,?_⟩⟩
 ·rcases P1 hz with h1|rfl
  ·exact hf.I.2 z h1
  ·obtain⟨h1,h2,h3⟩:=hf.I.2 x (PA h.2.1.at');exact⟨h1,by show ((([]:List (List Int)).length:Nat):Int)<_;simp,fun r hr=>by cases hr⟩
 ·exact(NR hA _ _ _).symm
def Try.B5:Try.prog.follows .mixedOrders=true:=SZ
noncomputable def Try.eM:EP:={ P:=Try.prog,G:=ng,gd:=fun _=>none,known:=pt [] }
def Try.fg:TE Try.eM:=.Am (l:=[]) rfl wj Try.B5 (fun _ _ h=>by cases h) trivial
def Try.B6:List S1:=[.agg [.lit (.int .i64 1),.M 6 [.lit (.int .i64 2),.lit (.slice none 0 0),.M 1 [.M 2 [.lit (.int .i64 1),.lit (.int .i64 0)]],.lit (.int .i64 2),.lit (.slice none 0 0),.M 1 [.M 2 [.lit (.int .i64 1),.lit (.int .i64 0)]],.lit (.int .i64 2),.lit (.slice none 0 0),.M 1 [.M 2 [.lit (.int .i64 1),.lit (.int .i64 0)]],.lit (.int .i64 2),.M 3 [.lit (.int .i64 0),.lit (.int .i64 1),.lit (.int .i64 2)],.lit (.slice none 0 0),.lit (.int .i64 2),.M 1 [.lit (.int .i64 0)],.lit (.slice none 0 0),.lit (.int .i64 2),.M 1 [.lit (.int .i64 1)],.lit (.slice none 0 0)],.lit (.int .u64 56),.lit (.slice none 0 0)]]
def Try.B7:S1:=.lit (.int .i64 0)
def Try.OY:dW Try.eM 1000000 11 Try.B6 Try.B7=true:=SZ
def Try.B8:List S1:=[.agg [.lit (.int .i64 1),.M 7 [.lit (.int .i64 2),.lit (.slice none 0 0),.M 1 [.M 2 [.lit (.int .i64 1),.lit (.int .i64 0)]],.lit (.int .i64 2),.lit (.slice none 0 0),.M 1 [.M 2 [.lit (.int .i64 1),.lit (.int .i64 0)]],.lit (.int .i64 2),.lit (.slice none 0 0),.M 1 [.M 2 [.lit (.int .i64 1),.lit (.int .i64 0)]],.lit (.int .i64 2),.M 3 [.lit (.int .i64 0),.lit (.int .i64 1),.lit (.int .i64 2)],.lit (.slice none 0 0),.lit (.int .i64 2),.M 1 [.lit (.int .i64 0)],.lit (.slice none 0 0),.lit (.int .i64 2),.M 1 [.lit (.int .i64 1)],.lit (.slice none 0 0),.lit (.int .i64 2),.lit (.slice none 0 0),.lit (.slice none 0 0)],.lit (.int .u64 120),.lit (.slice none 0 0)]]
def Try.B9:S1:=.lit (.int .i64 0)
def Try.OZ:dW Try.eM 1000000 11 Try.B8 Try.B9=true:=SZ
def Try.Ca:List S1:=[.agg [.lit (.int .i64 60),.M 1 [.lit (.int .i64 1),.lit (.slice none 0 0),.M 1 [.M 1 [.lit (.int .i64 60)]]],.lit (.int .u64 0),.lit (.slice none 0 0)]]
def Try.Cb:S1:=.lit (.int .i64 0)
def Try.O0:dW Try.eM 1000000 11 Try.Ca Try.Cb=true:=SZ
def Try.Cc:List S1:=[.agg [.lit (.int .i64 60),.M 1 [.lit (.int .i64 1),.lit (.slice none 0 0),.M 1 [.M 1 [.lit (.int .i64 60)]]],.lit (.int .u64 0),.M 4 [.lit (.slice none 0 0),.M 1 [.lit (.int .i64 100)],.lit (.slice none 0 0),.M 1 [.lit (.int .i64 100)],.lit (.slice none 0 0),.M 1 [.lit (.int .i64 100)],.lit (.slice none 0 0),.M 1 [.lit (.int .i64 100)]]]]
def Try.Cd:S1:=.lit (.int .i64 0)
def Try.O1:dW Try.eM 1000000 11 Try.Cc Try.Cd=true:=SZ
def Try.Ce:List S1:=[.agg [.lit (.int .i64 0),.lit (.slice none 0 0),.lit (.int .u64 0),.lit (.slice none 0 0)]]
def Try.Cf:S1:=.lit (.int .i64 200)
def Try.O2:dW Try.eM 1000000 11 Try.Ce Try.Cf=true:=SZ
def Try.Cg:List S1:=[.agg [.lit (.int .i64 4),.M 3 [.lit (.int .i64 2),.lit (.slice none 0 0),.M 1 [.M 2 [.lit (.int .i64 1),.lit (.int .i64 3)]],.lit (.int .i64 2),.M 1 [.lit (.int .i64 0)],.lit (.slice none 0 0),.lit (.int .i64 2),.M 2 [.lit (.int .i64 0),.lit (.int .i64 1)],.M 4 [.M 2 [.lit (.int .i64 4),.lit (.int .i64 0)],.M 2 [.lit (.int .i64 2),.lit (.int .i64 2)],.M 2 [.lit (.int .i64 0),.lit (.int .i64 4)],.M 2 [.lit (.int .i64 1),.lit (.int .i64 3)]]],.lit (.int .u64 2),.M 1 [.M 2 [.lit (.int .i64 1),.lit (.int .i64 2)],.M 4 [.lit (.int .i64 0),.lit (.int .i64 10),.lit (.int .i64 (-2)),.lit (.int .i64 8)]]]]
def Try.Ci:S1:=.lit (.int .i64 0)
def Try.O3:dW Try.eM 1000000 11 Try.Cg Try.Ci=true:=SZ
def Try.Cj:List S1:=[.agg [.lit (.int .i64 4),.M 3 [.lit (.int .i64 2),.lit (.slice none 0 0),.M 1 [.M 2 [.lit (.int .i64 1),.lit (.int .i64 3)]],.lit (.int .i64 2),.M 1 [.lit (.int .i64 0)],.M 2 [.M 2 [.lit (.int .i64 4),.lit (.int .i64 0)],.M 2 [.lit (.int .i64 4),.lit (.int .i64 0)]],.lit (.int .i64 2),.M 2 [.lit (.int .i64 0),.lit (.int .i64 1)],.M 4 [.M 2 [.lit (.int .i64 4),.lit (.int .i64 0)],.M 2 [.lit (.int .i64 2),.lit (.int .i64 2)],.M 2 [.lit (.int .i64 0),.lit (.int .i64 4)],.M 2 [.lit (.int .i64 1),.lit (.int .i64 3)]]],.lit (.int .u64 2),.M 1 [.M 2 [.lit (.int .i64 1),.lit (.int .i64 2)],.M 4 [.lit (.int .i64 0),.lit (.int .i64 10),.lit (.int .i64 (-2)),.lit (.int .i64 8)]]]]
def Try.Ck:S1:=.lit (.int .i64 200)
def Try.O4:dW Try.eM 1000000 11 Try.Cj Try.Ck=true:=SZ
def Try.Cl:List S1:=[.agg [.lit (.int .i64 4),.M 3 [.lit (.int .i64 2),.lit (.slice none 0 0),.M 1 [.M 2 [.lit (.int .i64 1),.lit (.int .i64 3)]],.lit (.int .i64 2),.M 1 [.lit (.int .i64 0)],.lit (.slice none 0 0),.lit (.int .i64 2),.M 2 [.lit (.int .i64 0),.lit (.int .i64 1)],.M 4 [.M 2 [.lit (.int .i64 4),.lit (.int .i64 0)],.M 2 [.lit (.int .i64 2),.lit (.int .i64 2)],.M 2 [.lit (.int .i64 0),.lit (.int .i64 4)],.M 2 [.lit (.int .i64 1),.lit (.int .i64 3)]]],.lit (.int .u64 2),.M 1 [.M 2 [.lit (.int .i64 1),.lit (.int .i64 2)],.M 3 [.lit (.int .i64 0),.lit (.int .i64 10),.lit (.int .i64 (-2))]]]]
def Try.Cm:S1:=.lit (.int .i64 200)
def Try.O5:dW Try.eM 1000000 11 Try.Cl Try.Cm=true:=SZ
def Try.Cn:List S1:=[.agg [.lit (.int .i64 4),.M 3 [.lit (.int .i64 2),.lit (.slice none 0 0),.M 1 [.M 2 [.lit (.int .i64 1),.lit (.int .i64 3)]],.lit (.int .i64 2),.M 1 [.lit (.int .i64 0)],.lit (.slice none 0 0),.lit (.int .i64 2),.M 2 [.lit (.int .i64 0),.lit (.int .i64 1)],.M 4 [.M 2 [.lit (.int .i64 4),.lit (.int .i64 0)],.M 2 [.lit (.int .i64 2),.lit (.int .i64 2)],.M 2 [.lit (.int .i64 0),.lit (.int .i64 4)],.M 2 [.lit (.int .i64 1),.lit (.int .i64 3)]]],.lit (.int .u64 2),.M 1 [.M 2 [.lit (.int .i64 1),.lit (.int .i64 2)],.M 4 [.lit (.int .i64 101),.lit (.int .i64 10),.lit (.int .i64 (-2)),.lit (.int .i64 8)]]]]
def Try.Co:S1:=.lit (.int .i64 200)
def Try.O6:dW Try.eM 1000000 11 Try.Cn Try.Co=true:=SZ
def Try.Cp:List S1:=[.agg [.lit (.int .i64 4),.M 3 [.lit (.int .i64 2),.lit (.slice none 0 0),.M 1 [.M 2 [.lit (.int .i64 1),.lit (.int .i64 3)]],.lit (.int .i64 2),.M 1 [.lit (.int .i64 0)],.lit (.slice none 0 0),.lit (.int .i64 2),.M 2 [.lit (.int .i64 0),.lit (.int .i64 1)],.M 4 [.M 2 [.lit (.int .i64 4),.lit (.int .i64 0)],.M 2 [.lit (.int .i64 2),.lit (.int .i64 2)],.M 2 [.lit (.int .i64 0),.lit (.int .i64 4)],.M 2 [.lit (.int .i64 1),.lit (.int .i64 3)]]],.lit (.int .u64 2),.M 1 [.M 2 [.lit (.int .i64 2),.lit (.int .i64 1)],.M 4 [.lit (.int .i64 0),.lit (.int .i64 10),.lit (.int .i64 (-2)),.lit (.int .i64 8)]]]]
def Try.Cq:S1:=.lit (.int .i64 200)
def Try.O7:dW Try.eM 1000000 11 Try.Cp Try.Cq=true:=SZ
def Try.Cr:List S1:=[.agg [.lit (.int .i64 60),.M 1 [.lit (.int .i64 1),.lit (.slice none 0 0),.M 1 [.M 1 [.lit (.int .i64 60)]]],.lit (.int .u64 0),.M 5 [.lit (.slice none 0 0),.M 1 [.lit (.int .i64 100)],.lit (.slice none 0 0),.M 1 [.lit (.int .i64 100)],.lit (.slice none 0 0),.M 1 [.lit (.int .i64 100)],.lit (.slice none 0 0),.M 1 [.lit (.int .i64 100)],.lit (.slice none 0 0),.M 1 [.lit (.int .i64 0)]]]]
def Try.Cs:S1:=.lit (.int .i64 200)
def Try.O8:dW Try.eM 1000000 11 Try.Cr Try.Cs=true:=SZ
def Try.Ct:List S1:=[.agg [.lit (.int .i64 1),.M 2 [.lit (.int .i64 2),.M 1 [.lit (.int .i64 1)],.lit (.slice none 0 0),.lit (.int .i64 2),.M 1 [.lit (.int .i64 0)],.lit (.slice none 0 0)],.lit (.int .u64 3),.lit (.slice none 0 0)]]
def Try.Cu:S1:=.lit (.int .i64 200)
def Try.O9:dW Try.eM 1000000 11 Try.Ct Try.Cu=true:=SZ
def Try.Cv:List S1:=[.agg [.lit (.int .i64 1),.M 1 [.lit (.int .i64 2),.lit (.slice none 0 0),.lit (.slice none 0 0)],.lit (.int .u64 3),.lit (.slice none 0 0)]]
def Try.Cw:S1:=.lit (.int .i64 200)
def Try.Pa:dW Try.eM 1000000 11 Try.Cv Try.Cw=true:=SZ
def Try.Cx:List S1:=[.agg [.lit (.int .i64 61),.M 1 [.lit (.int .i64 2),.lit (.slice none 0 0),.lit (.slice none 0 0)],.lit (.int .u64 1),.lit (.slice none 0 0)]]
def Try.Cy:S1:=.lit (.int .i64 200)
def Try.Pb:dW Try.eM 1000000 11 Try.Cx Try.Cy=true:=SZ
def Try.Cz:List S1:=[.agg [.lit (.int .i64 1),.M 1 [.lit (.int .i64 5),.lit (.slice none 0 0),.lit (.slice none 0 0)],.lit (.int .u64 1),.lit (.slice none 0 0)]]
def Try.CA:S1:=.lit (.int .i64 200)
def Try.Pc:dW Try.eM 1000000 11 Try.Cz Try.CA=true:=SZ
def Try.CB:List S1:=[.agg [.lit (.int .i64 1),.M 1 [.lit (.int .i64 4),.lit (.slice none 0 0),.lit (.slice none 0 0)],.lit (.int .u64 1),.lit (.slice none 0 0)]]
def Try.CC:S1:=.lit (.int .i64 0)
def Try.Pd:dW Try.eM 1000000 11 Try.CB Try.CC=true:=SZ
def Try.CD:List S1:=[.agg [.lit (.int .i64 1),.M 1 [.lit (.int .i64 2),.lit (.slice none 0 0),.lit (.slice none 0 0)],.lit (.int .u64 0),.lit (.slice none 0 0)]]
def Try.CE:S1:=.lit (.int .i64 200)
def Try.Pe:dW Try.eM 1000000 11 Try.CD Try.CE=true:=SZ
def Try.xz:iE:=[(Try.B6,Try.B7),(Try.B8,Try.B9),(Try.Ca,Try.Cb),(Try.Cc,Try.Cd),(Try.Ce,Try.Cf),(Try.Cg,Try.Ci),(Try.Cj,Try.Ck),(Try.Cl,Try.Cm),(Try.Cn,Try.Co),(Try.Cp,Try.Cq),(Try.Cr,Try.Cs),(Try.Ct,Try.Cu),(Try.Cv,Try.Cw),(Try.Cx,Try.Cy),(Try.Cz,Try.CA),(Try.CB,Try.CC),(Try.CD,Try.CE)]
def Try.Pf:kC Try.prog ng 11 Try.xz:=.cons (eI Try.fg Try.OY) (.cons (eI Try.fg Try.OZ) (.cons (eI Try.fg Try.O0) (.cons (eI Try.fg Try.O1) (.cons (eI Try.fg Try.O2) (.cons (eI Try.fg Try.O3) (.cons (eI Try.fg Try.O4) (.cons (eI Try.fg Try.O5) (.cons (eI Try.fg Try.O6) (.cons (eI Try.fg Try.O7) (.cons (eI Try.fg Try.O8) (.cons (eI Try.fg Try.O9) (.cons (eI Try.fg Try.Pa) (.cons (eI Try.fg Try.Pb) (.cons (eI Try.fg Try.Pc) (.cons (eI Try.fg Try.Pd) (.cons (eI Try.fg Try.Pe) .nil))))))))))))))))
noncomputable def Try.CG:EP:={ P:=Try.prog,G:=ng,gd:=fun _=>none,known:=pt [(11,Try.xz)] }
def Try.Pg:TE Try.CG:=.Am (l:=[(11,Try.xz)]) rfl wj Try.B5 (fun _ _ h=>by cases h) ⟨Try.Pf,trivial⟩
def Try.Ph:List S1:=[]
def Try.Pi:S1:=.lit (.bool true)
def Try.Pj:dW Try.CG 1000000 18 Try.Ph Try.Pi=true:=SZ
def Pk (H:S2)(K:S8->S2->Prop)(hK:K (.ret (.lit (.bool true))) H):ae Try.prog G0 18 [] H K :=
 (ae.frame (args':=[]) aZ rfl (fun i h _=>absurd h (PS _)) (eI Try.Pg Try.Pj)).mono fun r H' ⟨h1,h2⟩=>by rw[h1,h2];exact hK
def NT :∀(f need:Nat) (out r:List Nat),eV d f need out=some r->r.length<=out.length+f:=by
 intro f
 induction f with
 |zero =>
  intro need out r h;unfold eV at h;split at h
  ·cases h;omega
  ·cases h
 |succ f ih =>
  intro need out r h;unfold eV at h;split at h
  ·cases h;omega
  ·split at h
   ·cases h
   ·have:=ih _ _ r h;rw[List.length_append,QK]at this;omega
def NU (d:D20)(hd:d.Ok)(w w5 a r n5 n v v5 b s m5 m:Int)(hw:0<=w/\w<=255)(hw5:0<=w5/\w5<=255)(ha:0<=a/\a<=255)(hr:0<=r/\r<=255)(hv:0<=v/\v<=255)(hv5:0<=v5/\v5<=255)(hb:0<=b/\b<=255)(hs:0<=s/\s<=255)(H:S2)(K:S8->S2->Prop)(hK:∀H',H.C<=H'.C->K (.ret (.lit (.bool true))) H'):
  ae Try.prog G0 5 [.agg d.cells,.agg (nr w (gz w5 a r n5) n++nr v (gz v5 b s m5) m)] H K:=by
 refine ae.sw (n:=56) (rs:=[.tmp 4]) Try.func5 ?_;refine W.sq ?_;simp only[go_sem,D20.cells,nr,gz];obtain⟨L1,hL1⟩:∃L:List S1,L=[.lit (.int .u8 w),.lit (.int .u8 w5),.lit (.int .u8 a),.lit (.int .u8 r),.lit (.int .i64 n5),.lit (.int .i64 n),.lit (.int .u8 v),.lit (.int .u8 v5),.lit (.int .u8 b),.lit (.int .u8 s),.lit (.int .i64 m5),.lit (.int .i64 m)]:=⟨_,rfl⟩
 obtain⟨H1,hH1⟩:∃H1,H1=ext H [.L 0 28 [.lit (.int .u8 d.g),.M d.ps.length (ea d.ps),.M d.ord.length (bJ d.ord),.lit (.int .u8 d.Z),.lit (.bool d.rem),.M d.us.length (jO d.us)],.L 0 33 L1]:=⟨_,rfl⟩
 have g0:=eS hH1
 have g1:=gE hH1 1 rfl
 have n1:H1.C=H.C+2:=hH1▸rfl
 rw[hL1]at hH1;rw[<- hH1];rw[hL1]at g1;clear hH1 hL1 L1;have l0:=ag g0;have l1:=ag g1;refine W.en (fun E=>E 2=.Y H.C 0 0 /\ E 3=.Y (H.C+1) 0 0) (by simp only[go_sem]) fun E ⟨e2,e3⟩=>?_
 refine W.sq ?_;simp only[go_sem,e2,l0];refine aH.nl (Nf d hd _ _ fun x hx=>⟨trivial,?_⟩);have hok:=hx.ok;have hf:=Nl hok;have n8:=hok.n.n1;have h6:x.I.length<=6:=by have:=hx.n5;omega
 obtain⟨hsx,hub,hdx⟩:=KT hok;simp only[go_sem,NC,wW];obtain⟨H2,hH2⟩:∃H2,H2=ext H1 [.L 0 39 [.lit (.int .i64 x.X),.M x.I.length (aJ x.I),.lit (.int .u64 (x.Z:Int)),.M x.Q.length (aP x.Q)]]:=⟨_,rfl⟩
 have k2:H2.get (H.C+2)=some (.L 0 39 [.lit (.int .i64 x.X),.M x.I.length (aJ x.I),.lit (.int .u64 (x.Z:Int)),.M x.Q.length (aP x.Q)]):=by rw[hH2,<- n1];exact cf
 have k1:H2.get (H.C+1)=_:=(by rw[hH2];exact cE U:H2.get (H.C+1)=H1.get (H.C+1)).trans g1;have n2:H2.C=H.C+3:=by rw[hH2,bB];simp;omega
 rw[<- hH2];clear hH2 g0 l0 l1 g1;have l1:=ag k1;have l2:=ag k2;refine W.sq ?_;simp only[go_sem,e3,n1,l1,l2];refine aH.nl (wB w w5 a r n5 n hw hw5 ha hr x (aJ x.I) (A5 (fun _=>True) x.I) 1024 U hsx hub hf.Z False ⟨0,[],[]⟩ False.elim (fun _ _ _ h z hz hne=>absurd (hdx _ z hz h) hne) _ _ (fun _ one c1 ho of oq ol osm=>⟨trivial,?_⟩) False.elim);obtain⟨os,ou⟩:=osm;simp only[go_sem,gL,fY];obtain⟨H3,hH3⟩:∃H3,H3=ext H2 [.L 0 39 [.lit (.int .i64 one.X),.M one.I.length c1,.lit (.int .u64 (one.Z:Int)),.M one.Q.length (aP one.Q)]]:=⟨_,rfl⟩
 have o3:H3.get (H.C+3)=some (.L 0 39 [.lit (.int .i64 one.X),.M one.I.length c1,.lit (.int .u64 (one.Z:Int)),.M one.Q.length (aP one.Q)]):=by rw[hH3,<- n2];exact cf
 have o2:H3.get (H.C+2)=_:=(by rw[hH3];exact cE U:H3.get (H.C+2)=H2.get (H.C+2)).trans k2;have o1:H3.get (H.C+1)=_:=(by rw[hH3];exact cE U:H3.get (H.C+1)=H2.get (H.C+1)).trans k1;have n3:H3.C=H.C+4:=by rw[hH3,bB];simp;omega
 rw[<- hH3];clear hH3 l1 l2 k1 k2;have m1:=ag o1;have m2:=ag o2;have m3:=ag o3;refine W.en (fun E1=>E1 3=.Y (H.C+1) 0 0 /\ E1 5=.Y (H.C+2) 0 0 /\ E1 6=.Y (H.C+3) 0 0) (by simp only[go_sem,e3,n2]) fun E1 ⟨f3,f5,f6⟩=>?_
 clear e2 e3;obtain⟨C0,hC0⟩:∃C:List S1,C=[.lit (.int .i64 x.X),.M x.I.length (aJ x.I),.lit (.int .u64 (x.Z:Int)),.M x.Q.length (aP x.Q)]:=⟨_,rfl⟩
 obtain⟨C1,hC1⟩:∃C:List S1,C=[.lit (.int .i64 one.X),.M one.I.length c1,.lit (.int .u64 (one.Z:Int)),.M one.Q.length (aP one.Q)]:=⟨_,rfl⟩
 refine W.seq (W.eJ (fun s'=>∃(y:S5) (c3:List S1),s'.ρ 27=.agg [.lit (.int .i64 x.X),.M x.I.length (aJ x.I),.lit (.int .u64 (x.Z:Int)),.M x.Q.length (aP x.Q),.lit (.int .i64 one.X),.M one.I.length c1,.lit (.int .u64 (one.Z:Int)),.M one.Q.length (aP one.Q),.lit (.int .i64 y.X),.M y.I.length c3,.lit (.int .u64 (y.Z:Int)),.M y.Q.length (aP y.Q)]/\s'.ρ 28=aa 0/\H3.C<=s'.H.C/\kR H3.C y c3 s'.H/\y.I.length<=8) ?_ ?_)
 ·by_cases hh:∃z,BD v v5 b s one z
  ·obtain⟨z,hz⟩:=hh;have hzA:(b % (one.I.length:Int)).toNat<one.I.length:=aI hz.2.1.at';have hdl:∀v,x.Z.testBit v=true->v<x.I.length:=fun v hv=>by
    rcases PZ v x.I.length with h|h
    ·exact h
    ·have h0:=hok.n.Z;have:=Nat.testBit_shiftRight x.Z (i:=x.I.length) (j:=v-x.I.length);rw[h0,QJ]at this;rw[show x.I.length+(v-x.I.length)=v by omega,hv]at this;cases this
   have hzc:=NS ho hok.n.J hdx hdl hz.2.1.at' hz.2.1.ne hz.2.2;obtain⟨yf,yh⟩:=N3 hz of hzc H3.C;refine Ev.W.xK 8 [0,0,0,4,0,28,63,0] Try.mixed SZ SZ ?_;simp only[go_sem,f3,f5,f6,m1,m2,m3,Lc,Ld,Le,Lf,Lg,Lh,NY];refine⟨_,_,_,_,Mr (rs:=[]) (e:=59) (pN b one z) (fun id g=>N1 b one z hzA id g _ _) (fun r h=>by cases h) (fun H9 _=>wB v v5 b s m5 m hv hv5 hb hs one c1 oq 1029 U (os.mono U) ou of.Z True z (fun _=>⟨hz.1,hz.2.1⟩) (fun h=>absurd trivial h) H9 _ (fun h=>absurd trivial h) fun _ id g H' q1 q2 q3 q4=>⟨id,g,rfl,q1,q2,q3,q4⟩),?_⟩;rw[N2];simp only[go_sem,Lj,Li,gL,fY];refine⟨⟨fun _ h=>U,fun _ h=>U⟩,pO b one z,_,rfl,QS _,⟨yf,.inr ⟨⟨_,_,yh⟩,Q8 _,cf⟩⟩,?_⟩;show (one.I.set _ _).length<=8;rw[PI];omega
  ·obtain⟨y,c3,hB⟩:∃y c3,(y,c3)=eh v v5 b s m5 m one:=⟨_,_,rfl⟩
   have hdec2:v % 8<4->v5 % 12=5->one.Z.testBit (b % (one.I.length:Int)).toNat=true->∀x,one.I[(b % (one.I.length:Int)).toNat]?=some x->x.O≠[]->¬s % (x.O.length:Int)=0:=fun h1 h2 h3 x h4 h5 h6=>hh ⟨x,h1,⟨h2,h4,h5,h6⟩,h3⟩;obtain⟨yf,yq,yl,_⟩:=KS (w:=v) (w5:=v5) (a:=b) (r:=s) (n5:=m5) (n:=m) (m:=1029) U (os.mono U) ou of.Z hdec2;rw[<- hB]at yf yq yl;simp only at yf yq yl;refine W.dr 8 [0,0,0,4,0,28,63,0] Try.mixed ?_;simp only[go_sem,f3,f5,f6,m1,m2,m3];refine⟨ct y c3,[],cD.pure fun H9=>wB v v5 b s m5 m hv hv5 hb hs one c1 oq 1029 U (os.mono U) ou of.Z False ⟨0,[],[]⟩ False.elim (fun _=>hdec2) H9 _ (fun _ y' cs hy _ _ _ _=>by rw[<- hB]at hy;cases hy;exact⟨rfl,rfl⟩) False.elim,?_⟩;simp only[go_sem,gL,fY];exact⟨y,c3,rfl,⟨yf,.inl yq⟩,U⟩
 rintro⟨ρ2,H4⟩ ⟨y,c3,h31,h32,nx4,hY,hyl⟩;simp only at h31 h32 nx4 hY;refine W.block ?_;refine W.env fun E2 hE2=>?_;have t31:E2 27=ρ2 27:=by rw[hE2]
 rw[h31]at t31;have t32:E2 28=aa 0:=by rw[hE2];exact h32
 clear hE2 h31 h32;have hYk:∀Hk:S2,H4.C<=Hk.C->(∀i,i<H4.C->Hk.get i=H4.get i)->kR H3.C y c3 Hk:=fun Hk h1 h2=>⟨hY.1,hY.2.imp id fun ⟨h3,h4,h5⟩=>⟨h3,U,(h2 _ h4).trans h5⟩⟩
 refine W.aS 36028796750561040 (by rfl) (fun ρ Hx=>∃k:Nat,ρ 28=aa k/\k<=3/\H4.C<=Hx.C/\∀i,i<H4.C->Hx.get i=H4.get i) (fun ρ Hx=>3-(iv (ρ 28)).toNat) ?_ ?_
 ·simp only[go_sem,t32];exact⟨0,rfl,U⟩
 rintro ρ5 Hx ⟨k,hk,hk3,nx,hold⟩;refine W.env fun E5 hE5=>?_;have i31:=(show E5 27=E2 27 by rw[hE5];simp only[go_sem]).trans t31;have i32:E5 28=aa k:=by rw[hE5];simp only[go_sem,hk]
 clear hE5;by_cases hkb:(k:Int)<3;rotate_left
 ·refine W.vs ?_;simp only[go_sem,i32,hkb];refine W.vs ?_;simp only[go_sem];refine aH.nl (Pk _ _ ⟨trivial,?_⟩);simp only[go_sem];exact av.mk U (hK _ U)
 refine W.sq ?_;simp only[go_sem,i32,hkb];refine W.sq ?_;simp only[go_sem];refine W.seq (W.block ?_);refine W.eJ (fun s'=>s'.ρ 27=E5 27/\s'.ρ 28=aa k/\s'.ρ 8=.Y Hx.C 0 0/\s'.H.C=Hx.C+1/\(∀i,i<Hx.C->s'.H.get i=Hx.get i)/\∃(z:S5) (cs:List S1),kR H3.C z cs s'.H/\z.I.length<=8/\s'.H.get Hx.C=some (.L 0 39 [.lit (.int .i64 z.X),.M z.I.length cs,.lit (.int .u64 (z.Z:Int)),.M z.Q.length (aP z.Q)])) ?_ ?_
 ·have hk012:k=0\/k=1\/k=2:=U
  refine W.vs ?_;rcases hk012 with rfl|rfl|rfl
  ·simp only[go_sem,i31,i32];exact⟨fun i h=>cE h,x,_,⟨hf,.inl (A5 _ _)⟩,U,cf⟩
  ·simp only[go_sem,i31,i32];exact⟨fun i h=>cE h,one,_,⟨of,.inl oq⟩,U,cf⟩
  ·simp only[go_sem,i31,i32];exact⟨fun i h=>cE h,y,_,hYk _ (by rw[bB];simp;omega) (fun i h=>(cE U).trans (hold i h)),hyl,cf⟩
 rintro⟨ρ6,H6⟩ ⟨j27,j28,j8,n6,o6,z,cs,hz,hzl,g6⟩;simp only at j27 j28 j8 n6 o6 hz g6;have l6:=ag g6;have w1:=PD ((k:Int)+1) U;have rl:((aF (fX z)).length:Int)<2 ^ 62:=by
  unfold fX;split
  ·cases hr:gD z with
   |none=>simp[aF]
   |some r =>
    have h1:=NT _ _ _ _ hr;have h2:(aC z).length<=z.I.length:=pK;simp[aF]at h1 ⊢;omega
  ·simp[aF]
  -- what the round ends in: both sides equal
 have eqs:(¬Tj z->eW z=200/\fX z=[])/\(Tj z->gD z=none->eW z=4/\fX z=[])/\(Tj z->∀r,gD z=some r->eW z=0/\fX z=r):=by
  refine⟨fun h=>?_,fun h h1=>?_,fun h r h1=>?_⟩
  ·have e:eW z=200:=(by unfold eW;rw[ga h];rfl);exact⟨e,by unfold fX;rw[PC (by rw[e];decide)]⟩
  ·have e:eW z=4:=(by unfold eW;rw[fB h,h1];rfl);exact⟨e,by unfold fX;rw[PC (by rw[e];decide)]⟩
  ·have e:eW z=0:=(by unfold eW;rw[fB h,h1];rfl);exact⟨e,by unfold fX;rw[PG e,h1];rfl⟩
 refine W.sq ?_;simp only[go_sem,j8,l6];refine aH.nl (NV hz _ ⟨trivial,?_⟩);simp only[go_sem];refine W.sq ?_;simp only[go_sem];refine W.sq ?_;simp only[go_sem];refine W.sq ?_;simp only[go_sem,j8,l6];refine aH.nl (NX hz _ ⟨trivial,?_⟩);have nx6:H4.C<=H6.C/\∀i,i<H4.C->H6.get i=H4.get i:=⟨U,fun i h=>(o6 i U).trans (hold i h)⟩
 have fin:H4.C<=H6.C/\(∃k',S1.lit (.int .i64 ((k:Int)+1))=.lit (.int .i64 (k':Nat))/\k'<=3/\H4.C<=H6.C/\∀i,i<H4.C->H6.get i=H4.get i)/\3-(iv (.lit (.int .i64 ((k:Int)+1)))).toNat<3-(iv (ρ5 28)).toNat:=⟨nx6.1,⟨k+1,rfl,U,nx6.1,nx6.2⟩,by rw[hk];simp only[aa,aM];omega⟩
 by_cases hzo:Tj z;rotate_left
 ·obtain⟨q1,q2⟩:=eqs.1 hzo;rw[ga hzo];simp only[go_sem,q1,q2];refine W.vs ?_;simp only[go_sem];refine aH.nl (ae.qg (args':=[af [],af []]) aZ rfl (fun i hi _=>?_) (xc [] [] SY _ _ ⟨trivial,?_⟩))
  ·match i,hi with
   |0,_=>exact .cO _
   |1,_=>exact .nil
  simp only[go_sem];refine W.vs ?_;simp only[go_sem,j28,w1];exact fin
 rw[fB hzo];simp only[go_sem,j8,l6];refine aH.nl (NW hz hzo.n _ (fun h=>⟨trivial,?_⟩) fun r h=>⟨trivial,?_⟩)
 ·obtain⟨q1,q2⟩:=eqs.2.1 hzo h;simp only[go_sem];refine W.vs ?_;simp only[go_sem,q1,q2];refine aH.nl (ae.qg (args':=[af [],af []]) aZ rfl (fun i hi _=>?_) (xc [] [] SY _ _ ⟨trivial,?_⟩))
  ·match i,hi with
   |0,_=>exact .cO _
   |1,_=>exact .nil
  simp only[go_sem];refine W.vs ?_;simp only[go_sem,j28,w1];exact fin
 ·obtain⟨q1,q2⟩:=eqs.2.2 hzo r h;rw[q2]at rl;simp only[go_sem];refine W.vs ?_;simp only[go_sem,q1,q2];refine aH.nl (xc _ _ rl _ _ ⟨trivial,?_⟩);simp only[go_sem];refine W.vs ?_;simp only[go_sem,j28,w1];exact fin
end Go.Proofs
