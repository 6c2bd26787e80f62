/- Own work: contracts. -/
import Derived.Test.YtcccmbeolcjacaaConC
import Derived.Test.YtcccmbeolcjacaaConB
import Derived.Test.YtcccmbeolcjacaaProg
import Derived.Test.YtcccmbeolcjacaaLibC
import Derived.Test.YtcccmbeolcjacaaConA
set_option linter.all false
set_option maxRecDepth 100000
namespace Go.Proofs
open Go.Hx
set_option maxHeartbeats 2000000 in
theorem RT (ns : List NodeP) (h8 : ns.length ≤ 8) (hc : ∀ y ∈ ns, 1 ≤ y.card ∧ y.card ≤ 4) (u : UtilP) (f1 : (u.vars.length : Int) < 2 ^ 38) (f2 : (u.w.length : Int) < 2 ^ 38) (H : AHeap) (K : ARes → AHeap → Prop) (hK : K (.ret (.lit (.bool (kh (UtilOk ns u))))) H) :
    ae Try.prog G0 55 [.agg u.cells, ab (aq ns)] H K := by
  refine ae.clo ⟨_, Try.func55, rfl, rfl⟩ fun hcl => ?_;have hcl':(aq ns).length = ns.length := by simp [aq]
  refine ae.jK (n := 44) (rs := [.tmp 4]) Try.func55 rfl rfl rfl (by decide) (by simp) ?_;refine W.seq (ag _ _ _ (by rfl) ?_);simp only[go_sem, UtilP.cells, bK];obtain⟨R, hR⟩:∃ R, R = ext H [.arr 0 85 [.vec u.vars.length (ints u.vars), .vec u.w.length (ints u.w)]] := ⟨_, rfl⟩
  have oR:Over H R := by rw[hR]; exact .ext _ _
  have l0:R.live H.next 0 = some (85, [.vec u.vars.length (ints u.vars), .vec u.w.length (ints u.w)]) := by rw[hR]; exact ah (br ..)
  rw[<- hR];have no:¬ UtilOk ns u -> aw Try.prog G0 H K (.lit (.bool false)) R := fun h => aw.bk aF hcl oR (.lit _) (by rw[fD h]at hK; exact hK);refine W.env fun E hE => ?_;have e1:E 1 = ab (aq ns) := by rw[hE]; simp only[go_sem, bK]
  have e2:E 2 = .ptr H.next 0 0 := by rw[hE]; simp only[go_sem, bK]
  clear hE;obtain⟨b, hb⟩:∃ b:Bool, (b = true ↔ ¬ (bT u.vars ns.length /\ (u.w.length:Int) = au (aL (aq ns) u.vars))) := by
    classical exact⟨decide _, decide_eq_true_iff⟩
  refine W.seq (W.iG (fun s' => s'.H = R /\ s'.ρ 2 = .ptr H.next 0 0 /\ s'.ρ 22 = .lit (.bool b)) ?_ ?_)
  · refine W.draw 15 [0, 1, 0, 4, 15, 31, 63, 127, 255, 511, 127, 127, 2175, 7295, 15487] Try.mixed (by kernel_rfl) (by kernel_rfl) ?_;simp only[go_sem, e1, e2, l0, hcl', bK];refine⟨_, [], bD.pure fun H2 => DT u.vars ns.length (by omega) H2 _ ⟨rfl, rfl⟩, ?_⟩;by_cases c1:bT u.vars ns.length
    · have sm := pA h8 c1 hc;have wl := IntWalk.i64_in (u.w.length:Int) (by omega);simp only[go_sem, e1, e2, c1, l0, bK];refine⟨_, [], bD.pure fun H2 => rN (aq ns) u.vars (by omega) (by omega) (fun q hq => by have := c1.2 q hq; omega) H2 _ ⟨rfl, rfl⟩, ?_⟩;simp only[go_sem, bK];refine⟨_, [], bD.pure fun H2 => uZ _ sm H2 _ ⟨rfl, rfl⟩, ?_⟩;by_cases c2:(u.w.length:Int) = au (aL (aq ns) u.vars)
      · have:b = false :=(by rw[<- Bool.not_eq_true, hb]; exact fun h => h ⟨c1, c2⟩);simp only[go_sem, c2, bK];exact⟨e2, by rw[this]⟩
      · have:b = true := hb.2 fun h => c2 h.2;simp only[go_sem, c2, bK];exact⟨e2, by rw[this]⟩
    · have:b = true := hb.2 fun h => c1 h.1;simp only[go_sem, e1, e2, c1, l0, bK];rw[this]
  rintro⟨ρ3, H3⟩ ⟨hH, m2, m22⟩;simp only at hH m2 m22;rw[hH];clear hH H3;refine ag _ _ _ (by rfl) ?_;cases hbb:b;rotate_left
  · simp only[go_sem, m22, hbb, bK];exact no fun h => hb.1 hbb ⟨h.vars, h.size⟩
  have h12:bT u.vars ns.length /\ (u.w.length:Int) = au (aL (aq ns) u.vars) := by
    apply Classical.byContradiction;intro h;rw[hb.2 h]at hbb;cases hbb
  simp only[go_sem, m22, hbb, bK];refine W.seq ?_;refine W.seq (ag _ _ _ (by rfl) ?_);simp only[go_sem, bK];refine W.block ?_;refine W.env fun E1 hE1 => ?_;have g2:E1 2 = .ptr H.next 0 0 := by rw[hE1]; simp only[go_sem, m2, bK]
  have g5:E1 5 = aa 0 := by rw[hE1]; simp only[go_sem, bK]
  clear hE1;refine W.aK 17592177655856 (by rfl) (fun ρ Hx => Hx = R /\ ∃ k:Nat, ρ 5 = aa k /\ k <= u.w.length /\ ∀ x ∈ u.w.take k, -100 <= x /\ x <= 100) (fun ρ H => u.w.length - (iv (ρ 5)).toNat) ?_ ?_
  · simp only[go_sem, g5, bK];exact⟨0, rfl, by omega, by simp⟩
  rintro ρ Hx ⟨rfl, k, h5, hk, hall⟩;refine W.env fun E2 hE2 => ?_;have a2:E2 2 = .ptr H.next 0 0 := by rw[hE2]; simp only[go_sem, g2, bK]
  have a5:E2 5 = aa k := by rw[hE2]; simp only[go_sem, h5, bK]
  clear hE2;refine ag _ _ _ (by rfl) ?_;by_cases hbk:(k:Int) < u.w.length;rotate_left
  · simp only[go_sem, a2, a5, l0, hbk, bK];refine ag _ _ _ (by rfl) ?_;simp only[go_sem, bK];rw[List.take_of_length_le (by omega)]at hall;rw[eF (⟨h12.1, h12.2, hall⟩:UtilOk ns u)]at hK;exact aw.bk aF hcl oR (.lit _) hK
  obtain⟨x, hx⟩ := ay (l := u.w) (i := k) (by omega);have hne := aR hx;have w1 := IntWalk.i64_in ((k:Int) + 1) (by omega);by_cases c1:x < -100
  · simp only[go_sem, a2, a5, l0, hbk, hx, hne, c1, bK];exact no fun h => by have := h.w x (List.mem_of_getElem? hx); omega
  by_cases c2:100 < x
  · simp only[go_sem, a2, a5, l0, hbk, hx, hne, c1, c2, bK];exact no fun h => by have := h.w x (List.mem_of_getElem? hx); omega
  simp only[go_sem, a2, a5, l0, hbk, hx, hne, c1, c2, w1, bK];refine⟨⟨k + 1, rfl, by omega, fun y hy => ?_⟩, by rw[h5]; simp only[aa, aU]; omega⟩;rw[aP hx]at hy;rcases List.mem_append.1 hy with h | h
  · exact hall y h
  · obtain rfl := List.mem_singleton.1 h;omega
end Go.Proofs
namespace Go.Proofs
open Go.Hx
theorem Ef {d:InfP}{u:UtilP}:UtilOk (cU d) u↔UtilOk d.nodes u:=by
 constructor
 ·rintro⟨a,b,c⟩;rw[ja]at a;rw[zm]at b;exact⟨a,b,c⟩
 ·rintro⟨a,b,c⟩;exact⟨by rw[ja];exact a,by rw[zm];exact b,c⟩
set_option maxHeartbeats 4000000 in
theorem Eg (d:InfP)(cs:List AVal)(hq:NodesQ (fun v=>d.decs.testBit v=true) d.nodes cs)(hf:InfFit d)(H:AHeap)(K:ARes->AHeap->Prop)(hK:K (.ret (.lit (.bool (kh (InfOk d))))) H):ae Try.prog G0 13 [fC d cs] H K:=by
 refine ae.clo ⟨_,Try.func13,rfl,rfl⟩ fun hcl=>?_;have hl:=hf.nodes.1;have hul:=hf.utils.1;refine ae.jK (n:=73) (rs:=[.tmp 2]) Try.func13 rfl rfl rfl (by decide) (by simp) ?_;refine W.seq (ag _ _ _ (by rfl) ?_);simp only[go_sem,jb,il];obtain⟨R,hR⟩:∃ R,R=ext H [.arr 0 39 [.lit (.int .i64 d.grain),.vec d.nodes.length cs,.lit (.int .u64 (d.decs:Int)),.vec d.utils.length (aO d.utils)]]:=⟨_,rfl⟩
 have oR:Over H R:=by rw[hR];exact .ext _ _
 have nR:R.next=H.next+1:=by rw[hR];rfl
 have l0:R.live H.next 0=some (39,[.lit (.int .i64 d.grain),.vec d.nodes.length cs,.lit (.int .u64 (d.decs:Int)),.vec d.utils.length (aO d.utils)]):=by rw[hR];exact ah (br ..)
 rw[<- hR];clear hR;have no:¬ InfOk d->∀ H',Over R H'->aw Try.prog G0 H K (.lit (.bool false)) H':=fun h H' o=>aw.bk aF hcl (oR.trans o) (.lit _) (by rw[fD h]at hK;exact hK);refine W.env fun E hE=>?_;have e1:E 1=.ptr H.next 0 0:=by rw[hE];simp only[go_sem]
 clear hE;have s1:=fun t x y=>pG (P:=Try.prog) (t:=t) (x:=x) (y:=y) (k':=.i64) (s:=d.nodes.length) hf.decs;refine W.seq (W.iG (fun s'=>s'.H=R/\s'.ρ 1=.ptr H.next 0 0/\∃ b:Bool,s'.ρ 30=.lit (.bool b)/\(b=false↔RightA d)) ?_ ?_)
 ·refine ag _ _ _ (by rfl) ?_;by_cases c1:(d.nodes.length:Int)<1
  ·simp only[go_sem,e1,l0,c1];exact⟨_,rfl,by simp;intro h;have:=h.n1;omega⟩
  by_cases c2:(d.nodes.length:Int) > 8
  ·simp only[go_sem,e1,l0,c1,c2];exact⟨_,rfl,by simp;intro h;have:=h.n1;omega⟩
  by_cases c3:d.decs >>> d.nodes.length=0;rotate_left
  ·have c3':¬ ((d.decs >>> d.nodes.length:Nat):Int)=0:=(by omega);simp only[go_sem,e1,l0,c1,c2,c3',s1];exact⟨_,rfl,by simp;intro h;exact c3 h.decs⟩
  have c3':((d.decs >>> d.nodes.length:Nat):Int)=0:=by omega
  by_cases c4:(d.utils.length:Int) > 4
  ·simp only[go_sem,e1,l0,c1,c2,c3',c4,s1];exact⟨_,rfl,by simp;intro h;have:=h.ul;omega⟩
  ·simp only[go_sem,e1,l0,c1,c2,c3',c4,s1];exact⟨_,rfl,by simp;exact⟨by omega,c3,by omega⟩⟩
 rintro⟨ρ3,H3⟩ ⟨hH,m1,b,m30,hb⟩;simp only at hH m1 m30;rw[hH];clear hH H3;refine ag _ _ _ (by rfl) ?_;cases hbb:b;rotate_left
 ·simp only[go_sem,m30,hbb];exact no (fun h=>by rw[hb.2 (rR.1 h).1]at hbb;cases hbb) _ (.refl _)
 have hA:=hb.1 hbb;have n8:=hA.n1.2;simp only[go_sem,m30,hbb];refine W.env fun E1 hE1=>?_;have f1:E1 1=.ptr H.next 0 0:=by rw[hE1];simp only[go_sem,m1]
 clear hE1 m30 hbb hb;refine W.seq ?_;refine W.seq (ag _ _ _ (by rfl) ?_);simp only[go_sem];refine W.block ?_;refine W.env fun E2 hE2=>?_;have g1:E2 1=.ptr H.next 0 0:=by rw[hE2];simp only[go_sem,f1]
 have g3:E2 3=aa 0:=by rw[hE2];simp only[go_sem]
 clear hE2;refine W.aK 4503597479886860 (by rfl) (fun ρ Hx=>Hx=R/\∃ k:Nat,ρ 3=aa k/\k<=d.nodes.length/\Ee d k) (fun ρ H=>d.nodes.length - (iv (ρ 3)).toNat) ?_ ?_
 ·simp only[go_sem,g3];exact⟨0,rfl,by omega,fun v x h=>absurd h (Nat.not_lt_zero _)⟩
 rintro ρ Hx ⟨rfl,k,h3,hk,hD⟩;refine W.env fun E2 hE2=>?_;have a1:E2 1=.ptr H.next 0 0:=by rw[hE2];simp only[go_sem,g1]
 have a3:E2 3=aa k:=by rw[hE2];simp only[go_sem,h3]
 clear hE2;refine ag _ _ _ (by rfl) ?_;by_cases hbk:(k:Int)<d.nodes.length
 ·obtain⟨x,hx⟩:=ay (l:=d.nodes) (i:=k) (by omega);have hne:=hq.ne hx;obtain⟨rv,q0,q1,q2,hdis,_⟩:=hq.node k x hx;have rvl:∀ H,eY H rv=some (.lit (.int .i64 x.rows.length)):=fun H=>by
   rcases hdis with h|h<;>rw[h]
   ·rfl
   ·unfold bc;split
    ·rename_i h;rw[h];rfl
    ·rfl
  have w1:=IntWalk.i64_in ((k:Int)+1) (by omega);simp only[go_sem,a1,a3,l0,hbk];refine aA.clo (uL d.decs k hf.decs _ _ ⟨trivial,?_⟩);cases hbit:d.decs.testBit k
  ·simp only[go_sem,a3,w1];refine⟨⟨k+1,rfl,by omega,fun v y hv hy hb=>?_⟩,by rw[h3];simp only[aa,aU];omega⟩;rcases Nat.lt_or_ge v k with h|h
   ·exact hD v y h hy hb
   ·obtain rfl:v=k:=(by omega);rw[hbit]at hb;cases hb
  ·by_cases hr0:x.rows=[]
   ·have hr0':(x.rows.length:Int)=0:=(by rw[hr0];rfl);simp only[go_sem,a1,a3,l0,w1,hbk,hne,q2,rvl,hr0'];refine⟨⟨k+1,rfl,by omega,fun v y hv hy hb=>?_⟩,by rw[h3];simp only[aa,aU];omega⟩;rcases Nat.lt_or_ge v k with h|h
    ·exact hD v y h hy hb
    ·obtain rfl:v=k:=(by omega);rw[hx]at hy;cases hy;exact hr0
   ·have hr1:(0:Int)<x.rows.length:=(by have:=List.length_pos_iff.2 hr0;omega);have hr1':0<x.rows.length:=List.length_pos_iff.2 hr0;simp only[go_sem,a1,a3,l0,hbk,hne,q2,rvl,hr1];exact no (fun h=>hr0 ((rR.1 h).2.1 k x (by omega) hx hbit)) _ (.refl _)
 have hke:k=d.nodes.length:=by omega
 rw[hke]at hD;simp only[go_sem,a1,a3,l0,hbk];refine W.seq (ag _ _ _ (by rfl) ?_);simp only[go_sem,a1,l0];refine aA.clo (CU d cs hq hf _ _ ⟨trivial,?_⟩);simp only[go_sem,bj,bO];obtain⟨R2,hR2⟩:∃ R2,R2=ext Hx [.arr 0 64 [.lit (.int .i64 d.grain),.vec (cU d).length (aD (cU d))]]:=⟨_,rfl⟩
 have o2:Over Hx R2:=by rw[hR2];exact .ext _ _
 have n2:R2.next=H.next+2:=by rw[hR2,bn];simp;omega
 have l2:R2.live (H.next+1) 0=some (64,[.lit (.int .i64 d.grain),.vec (cU d).length (aD (cU d))]):=by rw[hR2,<- nR];exact ah bY
 have k0:R2.live H.next 0=_:=(o2.live (by omega)).trans l0;rw[<- hR2];clear hR2;refine W.env fun E3 hE3=>?_;have b1:E3 1=.ptr H.next 0 0:=by rw[hE3];simp only[go_sem,a1]
 have b4:E3 4=.ptr (H.next+1) 0 0:=by rw[hE3];simp only[go_sem,nR]
 clear hE3;refine W.seq (W.seq (ag _ _ _ (by rfl) ?_));simp only[go_sem,b4,l2];refine aA.clo (Rj d.grain (cU d) (RS hf) _ _ ⟨trivial,?_⟩);by_cases hnet:NetOk d.grain (cU d);rotate_left
 ·have hnb:=u9 hnet;simp only[go_sem,hnb];refine ag _ _ _ (by rfl) ?_;simp only[go_sem];exact no (fun h=>hnet (rR.1 h).2.2.1) _ o2
 have hnb:=u7 hnet;simp only[go_sem,hnb];refine ag _ _ _ (by rfl) ?_;simp only[go_sem];refine W.env fun E4 hE4=>?_;have c1:E4 1=.ptr H.next 0 0:=by rw[hE4];simp only[go_sem,b1]
 have c4:E4 4=.ptr (H.next+1) 0 0:=by rw[hE4];simp only[go_sem,b4]
 clear hE4;have hc4:∀ y∈cU d,1<=y.card/\y.card<=4:=fun y hy=>(hnet.node y hy).1;have h8:(cU d).length<=8:=hnet.n1.2;refine W.seq ?_;refine W.seq (ag _ _ _ (by rfl) ?_);simp only[go_sem];refine W.block ?_;refine W.env fun E5 hE5=>?_;have d1:E5 1=.ptr H.next 0 0:=by rw[hE5];simp only[go_sem,c1]
 have d4:E5 4=.ptr (H.next+1) 0 0:=by rw[hE5];simp only[go_sem,c4]
 have d5:E5 5=aa 0:=by rw[hE5];simp only[go_sem]
 clear hE5;refine W.aK 9444588850551214571556 (by rfl) (fun ρ Hy=>Hy=R2/\∃ j:Nat,ρ 5=aa j/\j<=d.utils.length/\∀ u∈d.utils.take j,UtilOk d.nodes u) (fun ρ H=>d.utils.length - (iv (ρ 5)).toNat) ?_ ?_
 ·simp only[go_sem,d5];exact⟨0,rfl,by omega,by simp⟩
 rintro ρ2 Hy ⟨rfl,j,h5,hj,hall⟩;refine W.env fun E6 hE6=>?_;have q1:E6 1=.ptr H.next 0 0:=by rw[hE6];simp only[go_sem,d1]
 have q4:E6 4=.ptr (H.next+1) 0 0:=by rw[hE6];simp only[go_sem,d4]
 have q5:E6 5=aa j:=by rw[hE6];simp only[go_sem,h5]
 clear hE6;by_cases hbj:(j:Int)<d.utils.length;rotate_left
 ·refine ag _ _ _ (by rfl) ?_;simp only[go_sem,q1,q5,k0,hbj];refine ag _ _ _ (by rfl) ?_;simp only[go_sem];rw[List.take_of_length_le (by omega)]at hall;rw[eF (rR.2 ⟨hA,hD,hnet,hall⟩)]at hK;exact aw.bk aF hcl (oR.trans o2) (.lit _) hK
 obtain⟨u,hu⟩:=ay (l:=d.utils) (i:=j) (by omega);obtain⟨f1',f2'⟩:=hf.utils.2 u (List.mem_of_getElem? hu);have hne:=qZ hu;have p0:=ur hu;have p1:j*2+2<=(aO d.utils).length:=by rw[j7];omega
 have w1:=IntWalk.i64_in ((j:Int)+1) (by omega);refine W.seq (ag _ _ _ (by rfl) ?_);simp only[go_sem,q1,q5,k0,hbj];refine W.seq (W.block (W.seq ?_));refine W.draw 7 [0,1,0,7,15,0,32] Try.mixed (by kernel_rfl) (by kernel_rfl) ?_;simp only[go_sem,q1,q4,q5,k0,l2,hbj,hne,p0,p1];refine⟨_,[],bD.pure fun H2=>pD d.grain (cU d) (by omega) H2 _ ⟨rfl,rfl⟩,?_⟩;simp only[go_sem];refine aA.clo (RT (cU d) h8 hc4 u f1' f2' _ _ ⟨trivial,?_⟩);by_cases hu1:UtilOk (cU d) u
 ·have hub:=eF hu1;simp only[go_sem,hub];refine ag _ _ _ (by rfl) ?_;simp only[go_sem];refine ag _ _ _ (by rfl) ?_;simp only[go_sem,q5,w1];refine⟨⟨j+1,rfl,by omega,fun y hy=>?_⟩,by rw[h5];simp only[aa,aU];omega⟩;rw[aP hu]at hy;rcases List.mem_append.1 hy with h|h
  ·exact hall y h
  ·obtain rfl:=List.mem_singleton.1 h;exact Ef.1 hu1
 ·have hub:=fD hu1;simp only[go_sem,hub];refine ag _ _ _ (by rfl) ?_;simp only[go_sem];exact no (fun h=>hu1 (Ef.2 ((rR.1 h).2.2.2 u (List.mem_of_getElem? hu)))) _ o2
end Go.Proofs
namespace Go.Proofs
open Go.Hx
theorem PW {d:InfP}(h:RightN d):d.decs<2 ^ d.nodes.length:=by
 have h1:=h.decs;rw[Nat.shiftRight_eq_div_pow]at h1;exact(Nat.div_eq_zero_iff_lt (Nat.two_pow_pos _)).1 h1
theorem uH {ns:List NodeP}{vars:List Int}(h8:ns.length<=8)(hp:bT vars ns.length)(hc:∀ y∈ns,1<=y.card/\y.card<=4):vars.length<=12:=by
 have:=(pA h8 hp hc).1
 rwa [fU]at this
theorem PX {d:InfP}(h:InfOk d):InfFit d:=by
 have n8:=h.n.n1;refine⟨⟨by omega,fun x hx=>?_⟩,?_,by have:=h.utils.1;omega,fun u hu=>?_⟩
 ·obtain⟨v,hv⟩:=List.mem_iff_getElem?.1 hx;have hn:=h.net.node _ (List.mem_of_getElem? (gT (c:=fun _ _=>0) hv));have hr:=h.net.rows _ (List.mem_of_getElem? (gT (c:=fun _ _=>0) hv));rw[(j9 ..).1,(j9 ..).2,dV]at hn;unfold fE at hr;rw[uU]at hr;have hpl:=uH n8.2 hn.2 h.n.card;refine⟨by omega,?_⟩;by_cases hb:d.decs.testBit v=true
  ·rw[(h.n.dec v x hv hb).1];exact⟨by simp,fun r hr=>by cases hr⟩
  ·rw[kj hb]at hr;have:=(km n8.2 hn.2 h.n.card).prod;refine⟨by omega,fun r hr'=>?_⟩;have:=(hr.2 r hr').1;omega
 ·exact Nat.lt_of_lt_of_le (PW h.n) (Nat.pow_le_pow_right (by decide) (by omega))
 ·have hu':=h.utils.2 u hu;have:=uH n8.2 hu'.vars h.n.card;have:=(pA n8.2 hu'.vars h.n.card).prod;have:=hu'.size;omega
theorem CZ {d:InfP}(h:InfOk d){p:List (List Int)}(hp:PolOk d p):pB p:=by
 have n8:=h.n.n1;have:=kV (D:=d.decs) (n:=d.nodes.length);have hl:=hp.len;refine⟨by unfold ba at hl;omega,fun r hr=>?_⟩;obtain⟨k,hk⟩:=List.mem_iff_getElem?.1 hr;obtain⟨v,hv⟩:=ay (l:=ba d) (i:=k) (by have:=aG hk;omega);obtain⟨v1,v2,_⟩:=j8 hv;obtain⟨x,hx⟩:=ay v1;have h1:=(hp.row k v x r hv hx hk).1;have h2:=yA h v1 v2;unfold gR at h2;rw[hx]at h2;dsimp only at h2;omega
theorem C0 {d:InfP}(h:InfOk d){p:List (List Int)}(hp:PolOk d p):dI d p=0:=by
 unfold dI;rw[eF h,eF hp];rfl
theorem PY (k:Nat)(h:k<=6):(60:Int) ^ k<=46656000000:=by
 have h1:(60:Nat) ^ k<=60 ^ 6:=Nat.pow_le_pow_right (by decide) h;have h2:(60:Nat) ^ 6=46656000000:=by decide
 rw[h2]at h1;have h3:=Int.ofNat_le.2 h1;rw[Int.natCast_pow]at h3;exact h3
theorem C2 {g:Int}{ns:List NodeP}(h:NetOk g ns)(h6:ns.length<=6){vals:List Int}(hf:cr (aq ns) vals):0<=weight ns vals/\weight ns vals<=46656000000:=by
 have hb:∀ w∈eE ns vals,0<=w/\w<=60:=fun w hw=>by
  obtain⟨v,hv,rfl⟩:=List.mem_map.1 hw;obtain⟨x,hx⟩:=ay (List.mem_range.1 hv);obtain⟨i,r,a,w,hR⟩:=rJ h hx hf;rw[hR.eq];have:=hR.wb;have:=h.g1;omega
 have h1:=q6 (b:=60) (by omega) hb;have h2:=PY (eE ns vals).length (by rw[rp];omega);exact⟨h1.1,Int.le_trans h1.2 h2⟩
theorem C3 {g:Int}{ns:List NodeP}(h:NetOk g ns):cS ns<=1024/\(cS ns:Int)=au (aq ns):=by
 have h1:=h.size;have h2:=fg (l:=aq ns) fun c hc=>by
  obtain⟨x,hx,rfl⟩:=List.mem_map.1 hc;exact(h.node x hx).1.1
 unfold cS;omega
theorem C4 {g:Int}{ns:List NodeP}{us:List UtilP}(h:NetOk g ns)(h6:ns.length<=6)(hu:∀ u∈us,UtilOk ns u)(h4:us.length<=4){vals:List Int}(hf:cr (aq ns) vals)(j:Nat):
  -18662400000000<=weight ns vals*cz ns (us.take j) vals/\weight ns vals*cz ns (us.take j) vals<=18662400000000:=by
 obtain⟨a,b⟩:=C2 h h6 hf;obtain⟨c,d⟩:=pC hu h4 vals j;generalize weight ns vals=w at *
 generalize cz ns (us.take j) vals=u at *
 constructor
 ·have h1:w*(-400)<=w*u:=Int.mul_le_mul_of_nonneg_left c a;omega
 ·have h1:w*u<=w*400:=Int.mul_le_mul_of_nonneg_left d a;omega
theorem C5 {g:Int}{ns:List NodeP}{us:List UtilP}(h:NetOk g ns)(h6:ns.length<=6)(hu:∀ u∈us,UtilOk ns u)(h4:us.length<=4):∀ k:Nat,-(18662400000000*k:Int)<=eP ns us k/\eP ns us k<=18662400000000*k:=by
 intro k
 induction k with
 | zero=>simp [eP]
 | succ k ih =>
  rw[yt];have h1:∀ c∈aq ns,1<=c:=fun c hc=>by
   obtain⟨x,hx,rfl⟩:=List.mem_map.1 hc;exact(h.node x hx).1.1
  have:=C4 h h6 hu h4 (o7 h1 k) us.length;rw[List.take_of_length_le (Nat.le_refl _)]at this
  push_cast
  omega
theorem C6 {d:InfP}(h6:d.nodes.length<=6)(p:List (List Int)):DF d p:=by
 intro hok hp k hk;have hn:=yM hok (yR hp);have:=C5 hn (by rw[dV];exact h6) (us:=d.utils) (fun u hu=>yQ (hok.utils.2 u hu)) hok.utils.1 k;have hw:=(C3 hn).1;rw[yS]at hw;omega
theorem PZ {d:InfP}{q:List (List Int)}(hok:InfOk d)(hq:PolOk d q):im d q=iq (jE d q) (d.grain ^ d.nodes.length):=by
 unfold im;rw[if_pos (C0 hok hq)]
end Go.Proofs
/-
  What worlds are worth, whatever the policy; the sum of a policy; expectations of a decision. Plain: no program stands in this text. No conditions.
-/
namespace Go.Proofs
open Go.Hx
def SS (n:Nat)(f:Nat->Int):Int:=((List.range n).map f).sum
def Pm (d:InfP)(vals:List Int)(v:Nat):Int:=if d.decs.testBit v=true then d.grain else rm d.nodes vals v
def Pn (d:InfP)(vals:List Int):Int:=au ((List.range d.nodes.length).map (Pm d vals))
def Po (d:InfP)(vals:List Int):Int:=Pn d vals*cz d.nodes d.utils vals
def CD (ns:List NodeP)(v:Nat)(vals:List Int):Nat:=match ns[v]? with
 | some x=>(bE (aQ ns x) (aL vals x.parents)).toNat
 | none=>0
def Pp (d:InfP)(c:Nat->Nat->Int)(vals:List Int)(v:Nat):Bool:=decide (c (cL d.decs v) (CD d.nodes v vals)=vals.getD v 0)
def Pq (d:InfP)(c:Nat->Nat->Int)(v0:Nat)(vals:List Int):Bool:=(ba d).all fun v=>decide (v=v0) || Pp d c vals v
def wv (d:InfP)(w:Nat):List Int:=bp (aq d.nodes) w
def CE (d:InfP)(c:Nat->Nat->Int)(v0 r:Nat)(x:Int):Int :=
 SS (cS d.nodes) fun w=>if Pq d c v0 (wv d w)=true/\CD d.nodes v0 (wv d w)=r/\(wv d w).getD v0 0=x then Po d (wv d w) else 0
end Go.Proofs
/-
  Best lists of a decision; rounds of improving. Plain: no program stands in this text. No conditions.
-/
namespace Go.Proofs
open Go.Hx
def Pr:List Int->Int
 | []=>0
 | a :: l=>l.foldl max a
def Ps (d:InfP)(c:Nat->Nat->Int)(v0 r:Nat)(n:Nat):List Int:=(List.range n).map fun (x:Nat)=>CE d c v0 r (x:Int)
def Pt (d:InfP)(v:Nat):Nat:=(gR d v).1.toNat
def Pu (d:InfP)(v:Nat):Nat:=(gR d v).2.toNat
def Pv (d:InfP)(c:Nat->Nat->Int)(v r:Nat):Int:=Pr (Ps d c v r (Pu d v))
def yu (d:InfP)(p:List (List Int))(v:Nat):Prop:=∀ r,r<Pt d v->CE d (fixC p) v r (fixC p (cL d.decs v) r)=Pv d (fixC p) v r
instance (d:InfP)(p:List (List Int))(v:Nat):Decidable (yu d p v):=by unfold yu;infer_instance
def isLocal (d:InfP)(p:List (List Int)):Prop:=∀ v∈ba d,yu d p v
instance (d:InfP)(p:List (List Int)):Decidable (isLocal d p):=by unfold isLocal;infer_instance
end Go.Proofs
namespace Go.Proofs
open Go.Hx
theorem NH {d:InfP}{k v:Nat}(hv:(ba d)[k]?=some v):(dm d)[k]?=some (gR d v):=by unfold dm;rw[List.getElem?_map,hv];rfl
theorem NI (d:InfP):(dm d).length=(ba d).length:=by simp [dm]
theorem B9 {d:InfP}(h:InfOk d):∀ p∈dm d,1<=p.1/\p.1<=1024/\1<=p.2/\p.2<=4:=fun p hp=>by
 unfold dm at hp;obtain⟨v,hv,rfl⟩:=List.mem_map.1 hp;obtain⟨v1,v2⟩:=uA.1 hv;exact yA h v1 v2
end Go.Proofs
namespace Go.Proofs
open Go.Hx
set_option maxHeartbeats 2000000 in
theorem RU (d:InfP)(cs0:List AVal)(ns:List NodeP)(hnl:d.nodes.length=ns.length)(vals:List Int)(h8:ns.length<=8)(hc:∀ y∈ns,1<=y.card/\y.card<=4)(hu:∀ u∈d.utils,UtilOk ns u)(h4:d.utils.length<=4)(hf:cr (aq ns) vals)(H:AHeap)(K:ARes->AHeap->Prop)
  (hK:K (.ret (aa (cz ns d.utils vals))) H):ae Try.prog G0 94 [fC d cs0,ab (aq ns),ab vals] H K:=by
 refine ae.clo ⟨_,Try.func94,rfl,rfl⟩ fun hcl=>?_;have hfl:vals.length=ns.length:=by rw[hf.1,cP]
 have hcl':(aq ns).length=ns.length:=by simp [aq]
 refine ae.aS (n:=38) (rs:=[.tmp 6]) Try.func94 rfl rfl rfl (by decide) (by kernel_rfl) (by simp) ?_;simp only[go_sem,jb,il];obtain⟨R,hR⟩:∃ R,R=ext H [.arr 0 39 [.lit (.int .i64 d.grain),.vec d.nodes.length cs0,.lit (.int .u64 (d.decs:Int)),.vec d.utils.length (aO d.utils)]]:=⟨_,rfl⟩
 have oR:Over H R:=by rw[hR];exact .ext _ _
 have l0:R.live H.next 0=some (39,[.lit (.int .i64 d.grain),.vec d.nodes.length cs0,.lit (.int .u64 (d.decs:Int)),.vec d.utils.length (aO d.utils)]):=by rw[hR];exact ah (br ..)
 have nR:R.next=H.next+1:=by rw[hR];rfl
 rw[<- hR];clear hR;refine W.aK 137438953344 (by rfl) (fun ρ Hx=>∃ k:Nat,ρ 8=aa k/\k<=d.utils.length/\Over R Hx/\ρ 7=aa (cz ns (d.utils.take k) vals)) (fun ρ H=>d.utils.length - (iv (ρ 8)).toNat) ?_ ?_
 ·simp only[go_sem];exact⟨0,rfl,by omega,.refl _,by simp [cz]⟩
 rintro ρ Hx ⟨k,h8',hk,ov,h7⟩;refine W.env fun E hE=>?_;have e1:E 1=ab (aq ns):=by rw[hE];simp only[go_sem]
 have e2:E 2=ab vals:=by rw[hE];simp only[go_sem]
 have e3:E 3=.ptr H.next 0 0:=by rw[hE];simp only[go_sem]
 have e7:E 7=aa (cz ns (d.utils.take k) vals):=by rw[hE];simp only[go_sem,h7]
 have e8:E 8=aa k:=by rw[hE];simp only[go_sem,h8']
 clear hE;have lx:=(ov.live (g:=0) (by omega:H.next<R.next)).trans l0;by_cases hb:(k:Int)<d.utils.length;rotate_left
 ·refine ag _ _ _ (by rfl) ?_;simp only[go_sem,e3,e7,e8,lx,hb];rw[List.take_of_length_le (by omega)];exact aw.bk aF hcl (oR.trans ov) (.lit _) hK
 obtain⟨u,hku⟩:=ay (l:=d.utils) (i:=k) (by omega);have hum:=List.mem_of_getElem? hku;obtain⟨u1,u2,u3⟩:=hu u hum;have hne:=qZ hku;have p0:=ur hku;have p1:k*2+2<=(aO d.utils).length:=by rw[j7];omega
 have v8:=u1.len;have sm:=pA h8 u1 hc;have hin:fT u.vars ns.length:=fun q hq=>by have:=u1.2 q hq;omega
 have fp:cr (aL (aq ns) u.vars) (aL vals u.vars):=uY (x:=⟨0,u.vars,[]⟩) hin hf;have hir:=kT fp;obtain⟨iN,hiN⟩:=Int.eq_ofNat_of_zero_le hir.1;have hil:iN<u.w.length:=by omega
 obtain⟨a,ha⟩:=ay hil;have har:=u3 a (List.mem_of_getElem? ha);have hwne:=aR ha;have hili:(iN:Int)<u.w.length:=by omega
 obtain⟨H2,hH2⟩:∃ H2,H2=ext Hx [.arr 0 85 [.vec u.vars.length (ints u.vars),.vec u.w.length (ints u.w)]]:=⟨_,rfl⟩
 have m1:=ah (show H2.get Hx.next=some (.arr 0 85 [.vec u.vars.length (ints u.vars),.vec u.w.length (ints u.w)]) by rw[hH2];exact bY);have o2:Over Hx H2:=by rw[hH2];exact .ext _ _
 have hub:=pC hu h4 vals k;have hsum:cz ns (d.utils.take (k+1)) vals=cz ns (d.utils.take k) vals+a:=by
  rw[aP hku];unfold cz;rw[List.map_append,List.sum_append];simp only[List.map_cons,List.map_nil,List.sum_cons,List.sum_nil,Int.add_zero];congr 1;unfold nj;rw[hiN,Int.toNat_natCast,List.getD_eq_getElem?_getD,ha];rfl
 have ws:=IntWalk.i64_in (cz ns (d.utils.take k) vals+a) (by omega);have w1:=IntWalk.i64_in ((k:Int)+1) (by omega);refine W.seq (ag _ _ _ (by rfl) ?_);simp only[go_sem,e3,e8,lx,hb];refine W.seq (W.block ?_);refine W.seq (ag _ _ _ (by rfl) ?_);simp only[go_sem,e3,e8,lx,hb,hne,p0,p1];rw[<- hH2];refine W.draw 14 [0,0,2,0,0,16,56,0,0,256,1016,2040,4094,8190] Try.mixed (by kernel_rfl) (by kernel_rfl) ?_;simp only[go_sem,e1,e2,e7,m1];refine⟨_,[],bD.pure fun H3=>rN (aq ns) u.vars (by omega) (by omega) (fun q hq=>by have:=u1.2 q hq;omega) H3 _ ⟨rfl,rfl⟩,?_⟩;simp only[go_sem];refine⟨_,[],bD.pure fun H3=>rN vals u.vars (by omega) (by omega) (fun q hq=>by have:=u1.2 q hq;omega) H3 _ ⟨rfl,rfl⟩,?_⟩;simp only[go_sem];refine⟨_,[],bD.pure fun H3=>DQ _ _ sm fp H3 _ ⟨rfl,rfl⟩,?_⟩;simp only[go_sem,e1,e2,e7,hiN,hili,ha,hwne,ws];refine ag _ _ _ (by rfl) ?_;simp only[go_sem,e8,w1];exact⟨Nat.le_trans ov.next o2.next,⟨k+1,rfl,by omega,ov.trans o2,by rw[hsum]⟩,by rw[h8'];simp only[aa,aU];omega⟩
theorem Eh {g:Int}(hg:1<=g/\g<=60)(k:Nat)(hk:k<=8):1<=g ^ k/\g ^ k<=167961600000000:=by
 have h0:0<=g:=by omega
 have h1:∀ k:Nat,1<=g ^ k:=fun k=>by
  induction k with
  | zero=>simp
  | succ k ih=>rw[Int.pow_succ];have:=Int.mul_le_mul ih hg.1 (by omega) (by omega);omega
 have h2:∀ k:Nat,g ^ k<=60 ^ k:=fun k=>by
  induction k with
  | zero=>simp
  | succ k ih=>rw[Int.pow_succ,Int.pow_succ];exact Int.mul_le_mul ih hg.2 (by omega) (by have:=h1 k;have:(0:Int)<=60 ^ k:=Int.pow_nonneg (by omega);omega)
 have h3:(60:Int) ^ k<=60 ^ 8:=by
  have a1:∀ j:Nat,(1:Int)<=60 ^ j:=fun j=>by
   induction j with
   | zero=>simp
   | succ j ih=>rw[Int.pow_succ];omega
  have a2:(0:Int)<=60 ^ k:=Int.pow_nonneg (by omega);have e:(60:Int) ^ 8=60 ^ k*60 ^ (8 - k):=by rw[<- Int.pow_add];congr 1;omega
  rw[e];have:=Int.mul_le_mul_of_nonneg_left (a1 (8 - k)) a2;omega
 exact⟨h1 k,by have:=h2 k;omega⟩
set_option maxHeartbeats 2000000 in
theorem RV (d:InfP)(cs0:List AVal)(hg:1<=d.grain/\d.grain<=60)(h8:d.nodes.length<=8)(H:AHeap)(K:ARes->AHeap->Prop)(hK:K (.ret (aa (d.grain ^ d.nodes.length))) H):ae Try.prog G0 70 [fC d cs0] H K:=by
 refine ae.clo ⟨_,Try.func70,rfl,rfl⟩ fun hcl=>?_;refine ae.aS (n:=17) (rs:=[.tmp 2]) Try.func70 rfl rfl rfl (by decide) (by kernel_rfl) (by simp) ?_;simp only[go_sem,jb,il];obtain⟨R,hR⟩:∃ R,R=ext H [.arr 0 39 [.lit (.int .i64 d.grain),.vec d.nodes.length cs0,.lit (.int .u64 (d.decs:Int)),.vec d.utils.length (aO d.utils)]]:=⟨_,rfl⟩
 have oR:Over H R:=by rw[hR];exact .ext _ _
 have l0:R.live H.next 0=some (39,[.lit (.int .i64 d.grain),.vec d.nodes.length cs0,.lit (.int .u64 (d.decs:Int)),.vec d.utils.length (aO d.utils)]):=by rw[hR];exact ah (br ..)
 rw[<- hR];clear hR;refine W.aK 65528 (by rfl) (fun ρ Hx=>Hx=R/\∃ k:Nat,ρ 4=aa k/\k<=d.nodes.length/\ρ 3=aa (d.grain ^ k)) (fun ρ H=>d.nodes.length - (iv (ρ 4)).toNat) ?_ ?_
 ·simp only[go_sem];exact⟨0,rfl,by omega,by simp⟩
 rintro ρ Hx ⟨rfl,k,h4,hk,h3⟩;refine W.env fun E hE=>?_;have e1:E 1=.ptr H.next 0 0:=by rw[hE];simp only[go_sem]
 have e3:E 3=aa (d.grain ^ k):=by rw[hE];simp only[go_sem,h3]
 have e4:E 4=aa k:=by rw[hE];simp only[go_sem,h4]
 clear hE;refine ag _ _ _ (by rfl) ?_;by_cases hb:(k:Int)<d.nodes.length
 ·have w1:=IntWalk.i64_in ((k:Int)+1) (by omega);have hp:=Eh hg (k+1) (by omega);rw[Int.pow_succ]at hp;have w2:=IntWalk.i64_in (d.grain ^ k*d.grain) (by omega);simp only[go_sem,e1,e3,e4,l0,hb,w1,w2];exact⟨⟨k+1,rfl,by omega,by rw[Int.pow_succ]⟩,by rw[h4];simp only[aa,aU];omega⟩
 ·obtain rfl:k=d.nodes.length:=by omega
  simp only[go_sem,e1,e3,e4,l0,hb];exact aw.bk aF hcl oR (.lit _) hK
set_option maxHeartbeats 4000000 in
theorem Ei (d:InfP)(cs:List AVal)(hq:NodesQ (fun v=>d.decs.testBit v=true) d.nodes cs)(hf:InfFit d)(hok:InfOk d)(p:List (List Int))(hp:pB p)(H:AHeap)(K:ARes->AHeap->Prop)(hK:K (.ret (.lit (.bool (kh (PolOk d p))))) H):ae Try.prog G0 24 [fC d cs,ao p] H K:=by
 refine ae.clo ⟨_,Try.func24,rfl,rfl⟩ fun hcl=>?_;refine ae.aS (n:=64) (rs:=[.tmp 4]) Try.func24 rfl rfl rfl (by decide) (by kernel_rfl) (by simp) ?_;simp only[go_sem,jb,il];refine aA.clo (CX d cs hq hf hok _ _ ⟨trivial,?_⟩);obtain⟨L,hL⟩:∃ L,L=dm d:=⟨_,rfl⟩
 have hrng:=B9 hok;rw[<- hL]at hrng;have hLl:L.length=(ba d).length:=by rw[hL];exact NI d
 have dl8:(ba d).length<=d.nodes.length:=kV;have hn8:=hok.n.n1.2;have hp1:=hp.1;rw[CY,<- hL]at hK;rw[<- hL];obtain⟨R,hR⟩:∃ R,R=ext H [.arr 0 39 [.lit (.int .i64 d.grain),.vec d.nodes.length cs,.lit (.int .u64 (d.decs:Int)),.vec d.utils.length (aO d.utils)]]:=⟨_,rfl⟩
 have oR:Over H R:=by rw[hR];exact .ext _ _
 rw[<- hR];have no:¬ uG L p->aw Try.prog G0 H K (.lit (.bool false)) R:=fun h=>aw.bk aF hcl oR (.lit _) (by rw[fD h]at hK;exact hK);by_cases hpl:(p.length:Int)=L.length;rotate_left
 ·simp only[go_sem,ao,hpl];exact no fun h=>hpl (by rw[h.1])
 simp only[go_sem,ao,hpl];refine W.env fun E hE=>?_;have e1:E 1=ao p:=by rw[hE];simp only[go_sem,ao]
 have e5:E 5=.vec L.length (fB L):=by rw[hE];simp only[go_sem]
 have e6:E 6=aa 0:=by rw[hE];simp only[go_sem]
 clear hE;refine W.aK 18446744073709519056 (by rfl) (fun ρ Hx=>Hx=R/\∃ k:Nat,ρ 6=aa k/\k<=L.length/\∀ (j:Nat) (q:Int × Int) (r:List Int),j<k->L[j]?=some q->p[j]?=some r->(r.length:Int)=q.1/\∀ a∈r,0<=a/\a<q.2) (fun ρ H=>L.length - (iv (ρ 6)).toNat) ?_ ?_
 ·simp only[go_sem,e6];exact⟨0,rfl,by omega,fun j _ _ h=>absurd h (Nat.not_lt_zero _)⟩
 rintro ρ Hx ⟨rfl,k,h6,hk,hall⟩;refine W.env fun E2 hE2=>?_;have f1:E2 1=ao p:=by rw[hE2];simp only[go_sem,e1]
 have f5:E2 5=.vec L.length (fB L):=by rw[hE2];simp only[go_sem,e5]
 have f6:E2 6=aa k:=by rw[hE2];simp only[go_sem,h6]
 clear hE2;refine ag _ _ _ (by rfl) ?_;by_cases hb:(k:Int)<L.length;rotate_left
 ·simp only[go_sem,f5,f6,hb];have hrf:uG L p:=⟨by omega,fun j q r h1 h2=>hall j q r (by have:=aG h1;omega) h1 h2⟩
  rw[eF hrf]at hK;exact aw.bk aF hcl oR (.lit _) hK
 obtain⟨⟨q1,q2⟩,hrk⟩:=ay (l:=L) (i:=k) (by omega);obtain⟨l,hl⟩:=ay (l:=p) (i:=k) (by omega);have p0:=yz hrk;have p1:=CV hrk;have pne:=CW hrk;have hlg:(p.map ab)[k]?=some (ab l):=by rw[List.getElem?_map,hl];rfl
 have hln:=aR hl;have hbp:(k:Int)<p.length:=by omega
 have w1:=IntWalk.i64_in ((k:Int)+1) (by omega);have hl38:=hp.2 l (List.mem_of_getElem? hl);simp only[go_sem,f5,f6,hb];refine W.draw 10 [0,0,3,7,15,0,0,96,224,480] Try.mixed (by kernel_rfl) (by kernel_rfl) ?_;by_cases hll:(l.length:Int)=q1;rotate_left
 ·simp only[go_sem,f1,f5,f6,hb,hbp,ao,hlg,hln,p0,pne,hll];exact no fun h=>hll (h.2 k _ l hrk hl).1
 simp only[go_sem,f1,f5,f6,hb,hbp,ao,hlg,hln,p0,pne,hll];refine W.env fun E3 hE3=>?_;have r1:E3 1=ao p:=by rw[hE3];simp only[go_sem,f1]
 have r5:E3 5=.vec L.length (fB L):=by rw[hE3];simp only[go_sem,f5]
 have r6:E3 6=aa k:=by rw[hE3];simp only[go_sem,f6]
 have r7:E3 7=aa 0:=by rw[hE3];simp only[go_sem]
 clear hE3;refine W.aK 18446744069414584464 (by rfl) (fun ρ2 Hz=>Hz=Hx/\∃ j:Nat,ρ2 7=aa j/\j<=l.length/\∀ a∈l.take j,0<=a/\a<q2) (fun ρ2 H=>l.length - (iv (ρ2 7)).toNat) ?_ ?_
 ·simp only[go_sem,r7];exact⟨0,rfl,by omega,by simp⟩
 rintro ρ2 Hz ⟨rfl,j,h7,hj,hin⟩;refine W.env fun E4 hE4=>?_;have s1:E4 1=ao p:=by rw[hE4];simp only[go_sem,r1]
 have s5:E4 5=.vec L.length (fB L):=by rw[hE4];simp only[go_sem,r5]
 have s6:E4 6=aa k:=by rw[hE4];simp only[go_sem,r6]
 have s7:E4 7=aa j:=by rw[hE4];simp only[go_sem,h7]
 clear hE4;refine ag _ _ _ (by rfl) ?_;by_cases hc:(j:Int)<l.length
 ·obtain⟨a,ha⟩:=ay (l:=l) (i:=j) (by omega);have han:=aR ha;have w2:=IntWalk.i64_in ((j:Int)+1) (by omega);simp only[go_sem,s1,s6,s7,ao,hlg,hln,hbp,hc];refine W.draw 21 [0,0,3,7,0,31,63,127,255,511,511,2047,4095,511,16383,32767,511,511,197119,459263,983551] Try.mixed (by kernel_rfl) (by kernel_rfl) ?_;by_cases c1:a<0
  ·simp only[go_sem,s1,s6,s7,ao,hlg,hln,hbp,hc,ha,han,c1];exact no fun h=>by have:=(h.2 k _ l hrk hl).2 a (List.mem_of_getElem? ha);omega
  by_cases c2:a >= q2
  ·simp only[go_sem,s1,s5,s6,s7,ao,hlg,hln,hbp,hb,hc,ha,han,p1,pne,c1,c2];exact no fun h=>by have:=(h.2 k _ l hrk hl).2 a (List.mem_of_getElem? ha);omega
  simp only[go_sem,s1,s5,s6,s7,ao,hlg,hln,hbp,hb,hc,ha,han,p1,pne,c1,c2,w2];refine⟨⟨j+1,by simp,by omega,fun y hy=>?_⟩,by first|omega|(rw[h7];simp only[aa,aU];omega)⟩;rw[aP ha]at hy;rcases List.mem_append.1 hy with h|h
  ·exact hin y h
  ·obtain rfl:=List.mem_singleton.1 h;omega
 ·simp only[go_sem,s1,s6,s7,ao,hlg,hln,hbp,hc,w1];rw[List.take_of_length_le (by omega)]at hin;refine⟨⟨k+1,by simp,by omega,fun i q r h1 h2 h3=>?_⟩,by first|omega|(rw[h6];simp only[aa,aU];omega)⟩;rcases Nat.lt_or_ge i k with h|h
  ·exact hall i q r h h2 h3
  ·obtain rfl:i=k:=(by omega);rw[hrk]at h2;rw[hl]at h3;cases h2;cases h3;exact⟨hll,hin⟩
end Go.Proofs
namespace Go.Proofs
open Go.Hx
def kz (p:List (List Int))(k:Nat)(i r:Nat):Int:=if i<k then fixC p i r else 0
theorem RW (p:List (List Int)):kz p 0=fun _ _=>0:=by funext i r;unfold kz;rw[if_neg (Nat.not_lt_zero _)]
theorem RX {d:InfP}{p:List (List Int)}{k:Nat}(hk:(ba d).length<=k):bF d (kz p k)=bF d (fixC p):=by
 apply List.ext_getElem?;intro v;rcases Nat.lt_or_ge v d.nodes.length with hv|hv
 ·obtain⟨x,hx⟩:=ay hv;rw[gT hx,gT hx];by_cases hb:d.decs.testBit v=true
  ·rw[ki hx hb,ki hx hb];have hpl:=aG (o9 hv hb);congr 2;unfold cM;congr 1;refine List.map_congr_left fun r _=>?_;unfold kz;rw[if_pos (by have h2:(dB d.decs d.nodes.length).length=(ba d).length:=rfl;omega)]
  ·rw[kj hb,kj hb]
 ·rw[List.getElem?_eq_none (by rw[dV];exact hv),List.getElem?_eq_none (by rw[dV];exact hv)]
theorem RY {d:InfP}(hok:InfOk d){p:List (List Int)}{k v:Nat}{x:NodeP}(hv:(ba d)[k]?=some v)(hx:d.nodes[v]?=some x):bF d (kz p (k+1))=(bF d (kz p k)).set v { x with rows:=cM d.grain d.nodes (fixC p) k x }:=by
 obtain⟨v1,v2,v3⟩:=j8 hv;apply List.ext_getElem?;intro w;rcases Nat.lt_or_ge w d.nodes.length with hw|hw
 ·obtain⟨y,hy⟩:=ay hw;rw[gT hy];by_cases hwv:w=v
  ·subst hwv;rw[hx]at hy;cases hy;rw[List.getElem?_set_self (by rw[dV];exact hw),ki hx v2,(hok.n.dec w x hx v2).1,List.nil_append,v3];congr 2;unfold cM;refine List.map_congr_left fun r _=>?_;unfold kz;rw[if_pos (by omega)]
  ·rw[List.getElem?_set_ne (fun h=>hwv h.symm),gT hy];by_cases hb:d.decs.testBit w=true
   ·rw[ki hy hb,ki hy hb];have hpw:cL d.decs w≠k:=fun h=>hwv (by
     have:=o9 hw hb;rw[h,show (dB d.decs d.nodes.length)[k]?=some v from hv]at this;exact(Option.some.inj this).symm)
    congr 2;unfold cM;congr 1;refine List.map_congr_left fun r _=>?_;unfold kz;by_cases hlt:cL d.decs w<k
    ·rw[if_pos hlt,if_pos (by omega)]
    ·rw[if_neg hlt,if_neg (by omega)]
   ·rw[kj hb,kj hb]
 ·rw[List.getElem?_eq_none (by rw[dV];exact hw),List.getElem?_eq_none (by rw[List.length_set,dV];exact hw)]
theorem NodesQ.set {e:Nat->Prop}{ns:List NodeP}{cs:List AVal}(h:NodesQ e ns cs){v:Nat}{y:NodeP}{rv:AVal}(hv:v<ns.length)(hr:rv=ao y.rows\/rv=bc y)(he:e v->rv=bc y):NodesQ e (ns.set v y) (setAt cs (v*3) [aa y.card,ab y.parents,rv]):=by
 have hl:=h.len;have hlen:(setAt cs (v*3) [aa y.card,ab y.parents,rv]).length=cs.length:=by unfold setAt;simp;omega
 refine⟨by rw[hlen,List.length_set];exact hl,fun w x hx=>?_⟩;have get:∀ i,(setAt cs (v*3) [aa y.card,ab y.parents,rv])[i]?=if i<v*3 then cs[i]? else if i<v*3+3 then [aa y.card,ab y.parents,rv][i - v*3]? else cs[i]?:=fun i=>by
  unfold setAt;by_cases h1:i<v*3
  ·rw[if_pos h1,List.append_assoc,List.getElem?_append_left (by rw[List.length_take];omega),List.getElem?_take_of_lt h1]
  ·rw[if_neg h1,List.append_assoc,List.getElem?_append_right (by rw[List.length_take];omega),List.length_take,Nat.min_eq_left (by omega)];by_cases h2:i<v*3+3
   ·rw[if_pos h2,List.getElem?_append_left (by simp;omega)]
   ·rw[if_neg h2,List.getElem?_append_right (by simp;omega),List.getElem?_drop];simp only[List.length_cons,List.length_nil];congr 1;omega
 by_cases hw:w=v
 ·subst hw;rw[List.getElem?_set_self hv]at hx;cases hx;refine⟨rv,?_,?_,?_,hr,he⟩
  ·rw[get,if_neg (by omega),if_pos (by omega),Nat.sub_self];rfl
  ·rw[get,if_neg (by omega),if_pos (by omega),show w*3+1 - w*3=1 by omega];rfl
  ·rw[get,if_neg (by omega),if_pos (by omega),show w*3+2 - w*3=2 by omega];rfl
 ·rw[List.getElem?_set_ne (fun h=>hw h.symm)]at hx;obtain⟨r,a,b,c,d⟩:=h.node w x hx;have:w<v\/v<w:=by omega
  refine⟨r,?_,?_,?_,d⟩
  ·rw[get];split<;>first|exact a|(rw[if_neg (by omega)];exact a)
  ·rw[get];split<;>first|exact b|(rw[if_neg (by omega)];exact b)
  ·rw[get];split<;>first|exact c|(rw[if_neg (by omega)];exact c)
theorem RZ {g card:Int}{cn aN:Nat}(hc:card=cn)(ha:aN<cn):setAt (List.replicate cn (AVal.lit (.int .i64 0))) aN [.lit (.int .i64 g)]=ints (bw g card aN):=by
 have e:List.replicate cn (AVal.lit (.int .i64 0))=ints (List.replicate cn 0):=by simp [ints,aa]
 rw[e,fS (by rw[List.length_replicate];exact ha)];unfold bw;rw[hc,Int.toNat_natCast,Int.toNat_natCast]
set_option maxHeartbeats 4000000 in
theorem Ej (d:InfP)(cs:List AVal)(hq:NodesQ (fun v=>d.decs.testBit v=true) d.nodes cs)(hf:InfFit d)(hok:InfOk d)(p:List (List Int))(hp:PolOk d p)(H:AHeap)(K:ARes->AHeap->Prop)(hK:K (.ret (bj d.grain (bF d (fixC p)))) H):
  ae Try.prog G0 25 [fC d cs,ao p] H K:=by
 refine ae.clo ⟨_,Try.func25,rfl,rfl⟩ fun hcl=>?_;have hn8:=hok.n.n1;have dl8:(ba d).length<=d.nodes.length:=kV;have hpf:=CZ hok hp;refine ae.jK (n:=68) (rs:=[.cell 4 64]) Try.func25 rfl rfl rfl (by decide) (by simp) ?_;refine W.seq (ag _ _ _ (by rfl) ?_);simp only[go_sem,jb,il];obtain⟨Hb,hHb⟩:∃ Hb,Hb=ext H [.arr 0 39 [.lit (.int .i64 d.grain),.vec d.nodes.length cs,.lit (.int .u64 (d.decs:Int)),.vec d.utils.length (aO d.utils)],.arr 0 64 [.lit (.int .i64 0),.lit (.slice none 0 0)]]:=⟨_,rfl⟩
 have b0:Hb.get H.next=some (.arr 0 39 [.lit (.int .i64 d.grain),.vec d.nodes.length cs,.lit (.int .u64 (d.decs:Int)),.vec d.utils.length (aO d.utils)]):=by rw[hHb];exact br ..
 have b1:Hb.get (H.next+1)=some (.arr 0 64 [.lit (.int .i64 0),.lit (.slice none 0 0)]):=by rw[hHb];exact bu H _ 1 (by simp)
 have nb:Hb.next=H.next+2:=by rw[hHb];rfl
 have ob:Over H Hb:=by rw[hHb];exact .ext _ _
 rw[<- hHb];clear hHb;have l0:=ah b0;refine W.env fun E hE=>?_;have e1:E 1=ao p:=by rw[hE];simp only[go_sem]
 have e2:E 2=.ptr H.next 0 0:=by rw[hE];simp only[go_sem]
 have e4:E 4=.ptr (H.next+1) 0 0:=by rw[hE];simp only[go_sem]
 clear hE;refine W.seq (ag _ _ _ (by rfl) ?_);simp only[go_sem,e2,l0];refine aA.clo (PP d cs hq hf _ _ fun nh ks Hf of hO hQ=>⟨trivial,?_⟩);rcases hO with ⟨_,z2,_⟩|⟨id,gg,z1,z2,z3,z4,z5⟩
 ·omega
 subst z3;simp only[go_sem];obtain⟨Hd,hHd⟩:∃ Hd,Hd=ext Hf [.arr 0 64 [.lit (.int .i64 d.grain),.own id gg 0 d.nodes.length 3]]:=⟨_,rfl⟩
 have od:Over Hf Hd:=by rw[hHd];exact .ext _ _
 have nd:Hd.next=Hf.next+1:=by rw[hHd];rfl
 have dN:Hd.get Hf.next=some (.arr 0 64 [.lit (.int .i64 d.grain),.own id gg 0 d.nodes.length 3]):=by rw[hHd];exact bY
 rw[<- hHd];clear hHd;have nf:=of.next;have d0:Hd.get H.next=_:=(od.old _ (by omega)).trans ((of.old _ (by omega)).trans b0);have d1:Hd.get (H.next+1)=_:=(od.old _ (by omega)).trans ((of.old _ (by omega)).trans b1);have did:Hd.get id=_:=(od.old _ (by omega)).trans z5;have dold:∀ i,i<H.next->Hd.get i=H.get i:=fun i h=>(od.old i (by omega)).trans ((of.old i (by omega)).trans (ob.old i h));have k0:=ah d0;refine W.env fun E1 hE1=>?_;have f1:E1 1=ao p:=by rw[hE1];simp only[go_sem,e1]
 have f2:E1 2=.ptr H.next 0 0:=by rw[hE1];simp only[go_sem,e2]
 have f4:E1 4=.ptr (H.next+1) 0 0:=by rw[hE1];simp only[go_sem,e4]
 have f5:E1 5=.ptr Hf.next 0 0:=by rw[hE1];simp only[go_sem]
 clear hE1;refine W.seq (ag _ _ _ (by rfl) ?_);simp only[go_sem,f2,k0];refine aA.clo (Dl d cs hf.decs (by omega) _ _ ⟨trivial,?_⟩);simp only[go_sem];refine W.env fun E2 hE2=>?_;have g1:E2 1=ao p:=by rw[hE2];simp only[go_sem,f1]
 have g2:E2 2=.ptr H.next 0 0:=by rw[hE2];simp only[go_sem,f2]
 have g4:E2 4=.ptr (H.next+1) 0 0:=by rw[hE2];simp only[go_sem,f4]
 have g5:E2 5=.ptr Hf.next 0 0:=by rw[hE2];simp only[go_sem,f5]
 have g6:E2 6=ab (bf (ba d)):=by rw[hE2];simp only[go_sem]
 clear hE2;refine W.seq ?_;refine W.seq (ag _ _ _ (by rfl) ?_);simp only[go_sem];refine W.block ?_;refine W.env fun E3 hE3=>?_;have h1:E3 1=ao p:=by rw[hE3];simp only[go_sem,g1]
 have h2:E3 2=.ptr H.next 0 0:=by rw[hE3];simp only[go_sem,g2]
 have h4:E3 4=.ptr (H.next+1) 0 0:=by rw[hE3];simp only[go_sem,g4]
 have h5:E3 5=.ptr Hf.next 0 0:=by rw[hE3];simp only[go_sem,g5]
 have h6:E3 6=ab (bf (ba d)):=by rw[hE3];simp only[go_sem,g6]
 have h7:E3 7=aa 0:=by rw[hE3];simp only[go_sem]
 clear hE3;refine W.aK 147573952589676382080 (by rfl) (fun ρ Hx=>∃ (k:Nat) (ks:List AVal),ρ 7=aa k/\k<=(ba d).length/\Hd.next<=Hx.next/\(∀ i,i<Hd.next->i≠id->Hx.get i=Hd.get i)/\Hx.get id=some (.arr gg 83 ks)/\NodesQ (fun _=>False) (bF d (kz p k)) ks) (fun ρ H=>(ba d).length - (iv (ρ 7)).toNat) ?_ ?_
 ·simp only[go_sem,h7];exact⟨0,ks,rfl,by omega,did,by rw[RW,<- yy hok];exact hQ⟩
 rintro ρ Hx ⟨k,kx,q7,hk,nx,hold,xid,xQ⟩;refine W.env fun E4 hE4=>?_;have a1:E4 1=ao p:=by rw[hE4];simp only[go_sem,h1]
 have a2:E4 2=.ptr H.next 0 0:=by rw[hE4];simp only[go_sem,h2]
 have a4:E4 4=.ptr (H.next+1) 0 0:=by rw[hE4];simp only[go_sem,h4]
 have a5:E4 5=.ptr Hf.next 0 0:=by rw[hE4];simp only[go_sem,h5]
 have a6:E4 6=ab (bf (ba d)):=by rw[hE4];simp only[go_sem,h6]
 have a7:E4 7=aa k:=by rw[hE4];simp only[go_sem,q7]
 clear hE4;have hkx:=xQ.len;rw[dV]at hkx;have x0:=ah ((hold H.next (by omega) (by omega)).trans d0);have x1:=ah ((hold (H.next+1) (by omega) (by omega)).trans d1);have xN:=ah ((hold Hf.next (by omega) (by omega)).trans dN);have xl:=ah xid;have hdl:(bf (ba d)).length=(ba d).length:=by simp [bf]
 by_cases hb:(k:Int)<(ba d).length;rotate_left
 ·refine ag _ _ _ (by rfl) ?_;simp only[go_sem,a6,a7,hb,hdl];refine ag _ _ _ (by rfl) ?_;simp only[go_sem,a4,a5,xN,x1];rw[RX (by omega)]at xQ;have hnl:=dV d (fixC p);refine aw.bk (v':=bj d.grain (bF d (fixC p))) aF hcl ⟨by rw[aC];omega,fun i h=>by rw[af,if_neg (by omega),hold i (by omega) (by omega)];exact dold i h⟩ (.agg rfl fun i hi _=>?_) hK
  match i,hi with
  | 0,_=>exact .lit _
  | 1,_ =>
   show Fz _ _ _ (.own id gg 0 d.nodes.length 3) (bO (bF d (fixC p)));unfold bO;rw[hnl];refine .frz (show H.next<=id by omega) (by rw[af,if_neg (by omega)];exact xid) (by rw[gv,hnl]) fun j hj h2 h'=>?_;have e0:(0:Nat)+j=j:=Nat.zero_add j;have:=fun Hq=>xQ.uC (S:=fun i=>H.next<=i) (H:=Hq) (nx:=H.next) j (by omega) h';simpa only[e0] using this _
 obtain⟨v,hv⟩:=ay (l:=ba d) (i:=k) (by omega);obtain⟨v1,v2,v3⟩:=j8 hv;obtain⟨x,hx⟩:=ay (l:=d.nodes) (i:=v) v1;obtain⟨l,hl⟩:=ay (l:=p) (i:=k) (by rw[hp.len];omega);obtain⟨ll,lr⟩:=hp.row k v x l hv hx hl;refine W.seq (ag _ _ _ (by rfl) ?_);simp only[go_sem,a6,a7,hb,hdl];have hdk:(ints (bf (ba d)))[k]?=some (aa v):=by rw[g9];unfold bf;rw[List.getElem?_map,hv];rfl
 have hdne:=aR hdk;obtain⟨y,hy⟩:=ay (l:=bF d (kz p k)) (i:=v) (by rw[dV];exact v1);have hyx:y.card=x.card/\y.parents=x.parents:=by
  rw[gT hx]at hy;cases hy;exact j9 ..
 obtain⟨yr,y3,_,ydis,_⟩:=xQ.part hy;have yro:yr.one=true:=by rcases ydis with h|h<;>rw[h]<;>first|rfl|(unfold bc;split<;>rfl)
 have yrc:yr.cells=[yr]:=by rcases ydis with h|h<;>rw[h]<;>first|rfl|(unfold bc;split<;>rfl)
 rw[hyx.1,hyx.2]at y3;have yne:=xQ.ne hy;have hvb:(v:Int)<d.nodes.length:=by omega
 have hv3:v*3+3<=kx.length:=by omega
 refine W.seq (W.block (W.seq ?_));refine W.draw 9 [0,1,0,0,12,28,63,127,0] Try.mixed (by kernel_rfl) (by kernel_rfl) ?_;simp only[go_sem,a5,a6,a7,xN,xl,hb,hdl,hdk,hdne,hvb,y3,hv3];refine⟨by repeat' (first|refine And.intro ?_ ?_|(intro x hx;omega)),by rw[yro];rfl,?_⟩;obtain⟨Hp,hHp⟩:∃ Hp,Hp=ext Hx [.arr 0 83 [.lit (.int .i64 x.card),.vec x.parents.length (ints x.parents),yr]]:=⟨_,rfl⟩
 have np:Hp.next=Hx.next+1:=by rw[hHp];rfl
 have op:Over Hx Hp:=by rw[hHp];exact .ext _ _
 have pP:Hp.live Hx.next 0=some (83,[.lit (.int .i64 x.card),.vec x.parents.length (ints x.parents),yr]):=by rw[hHp];exact ah bY
 refine W.env fun E5 hE5=>?_;have c1:E5 1=ao p:=by rw[hE5];simp only[go_sem,a1]
 have c2:E5 2=.ptr H.next 0 0:=by rw[hE5];simp only[go_sem,a2]
 have c4:E5 4=.ptr (H.next+1) 0 0:=by rw[hE5];simp only[go_sem,a4]
 have c5:E5 5=.ptr Hf.next 0 0:=by rw[hE5];simp only[go_sem,a5]
 have c6:E5 6=ab (bf (ba d)):=by rw[hE5];simp only[go_sem,a6]
 have c7:E5 7=aa k:=by rw[hE5];simp only[go_sem,a7]
 have c8:E5 8=.ptr Hx.next 0 0:=by rw[hE5];simp only[go_sem]
 clear hE5;rw[<- hHp];clear hHp;refine W.seq (ag _ _ _ (by rfl) ?_);simp only[go_sem,c8,pP];obtain⟨Hq,hHq⟩:∃ Hq,Hq=Hp.upd Hx.next (.arr 0 83 [.lit (.int .i64 x.card),.vec x.parents.length (ints x.parents),.lit (.slice none 0 0)]):=⟨_,rfl⟩
 have nq:Hq.next=Hx.next+1:=by rw[hHq,aC];exact np
 have qo:∀ i,i<Hx.next->Hq.get i=Hx.get i:=fun i h=>by rw[hHq,af,if_neg (by omega)];exact op.old i h
 have qP:Hq.get Hx.next=some (.arr 0 83 [.lit (.int .i64 x.card),.vec x.parents.length (ints x.parents),.lit (.slice none 0 0)]):=by rw[hHq,af,if_pos rfl]
 rw[<- hHq];clear hHq;have hcx:=hok.n.card x (List.mem_of_getElem? hx);obtain⟨cn,hcn⟩:=Int.eq_ofNat_of_zero_le (show 0<=x.card by omega);have hlg:(p.map ab)[k]?=some (ab l):=by rw[List.getElem?_map,hl];rfl
 have hpne:=aR hl;have hpk:(k:Int)<p.length:=by have:=aG hl;omega
 have hl38:=hpf.2 l (List.mem_of_getElem? hl);obtain⟨rws,hrws⟩:∃ rws:List (List AVal),rws=l.map fun a=>ints (bw d.grain x.card a):=⟨_,rfl⟩
 refine W.seq ?_;refine W.kv (Q':=fun e s2=>e=.normal/\∃ rq,s2.ρ 1=ao p/\s2.ρ 2=.ptr H.next 0 0/\s2.ρ 4=.ptr (H.next+1) 0 0/\s2.ρ 5=.ptr Hf.next 0 0/\s2.ρ 6=ab (bf (ba d))/\s2.ρ 7=aa k/\s2.ρ 8=.ptr Hx.next 0 0/\Hq.next<=s2.H.next/\(∀ i,i<Hx.next->s2.H.get i=Hx.get i)/\s2.H.get Hx.next=some (.arr 0 83 [.lit (.int .i64 x.card),.vec x.parents.length (ints x.parents),rq])/\ep Hq.next s2.H 59 3 rq rws) ?_ ?_;rotate_left
 ·rintro e s2 ⟨rfl,rq,r1,r2,r4,r5,r6,r7,r8,hn2,ho2,hP2,hO2⟩;obtain⟨x',hx'⟩:∃ x':NodeP,x'={ x with rows:=cM d.grain d.nodes (fixC p) k x }:=⟨_,rfl⟩
  have hrx:rws=x'.rows.map ints:=by
   rw[hrws,hx'];show _=(cM d.grain d.nodes (fixC p) k x).map ints;unfold cM;rw[List.map_map,<- ll];apply List.ext_getElem?;intro i;rcases Nat.lt_or_ge i l.length with h|h
   ·obtain⟨b,hb'⟩:=ay h;rw[List.getElem?_map,List.getElem?_map,hb',List.getElem?_range h];have:fixC p k i=b:=(by unfold fixC;simp [List.getD_eq_getElem?_getD,hl,hb']);simp [this]
   ·rw[List.getElem?_eq_none (by simpa using h),List.getElem?_eq_none (by simpa using h)]
  have hv':=hO2.fz (S:=fun i=>Hq.next<=i) (nx:=s2.H.next) (rows':=rws) (fun _ h=>h) rfl fun j r r' h1 h2=>by
   rw[h1]at h2;cases h2;refine⟨rfl,fun i hi _=>?_⟩;have hrm:=List.mem_of_getElem? h1;rw[hrws]at hrm;obtain⟨b,_,rfl⟩:=List.mem_map.1 hrm;simp only[ints,List.getElem_map];exact .lit _
  have hvv:(AVal.vec rws.length (rws.map fun r=>.vec r.length r))=ao x'.rows:=by
   rw[hrx];unfold ao ab;rw[List.length_map,List.map_map];congr 1;refine List.map_congr_left fun r _=>?_;show AVal.vec (ints r).length (ints r)=_;rw[aT]
  rw[hvv]at hv';refine⟨⟨s2.ρ,s2.H.fA Hq.next Hx.next (.arr 0 83 [.lit (.int .i64 x.card),.vec x.parents.length (ints x.parents),ao x'.rows])⟩,cK.fA aF hP2 (by omega) rfl (fun i hi _=>?_),Nat.le_refl _,trivial,?_⟩
  ·match i,hi with
   | 0,_=>exact .lit _
   | 1,_=>exact .cB _
   | 2,_=>exact hv'
  obtain⟨He,hHe⟩:∃ He,He=s2.H.fA Hq.next Hx.next (.arr 0 83 [.lit (.int .i64 x.card),.vec x.parents.length (ints x.parents),ao x'.rows]):=⟨_,rfl⟩
  rw[<- hHe];have gPe:He.get Hx.next=some (.arr 0 83 [.lit (.int .i64 x.card),.vec x.parents.length (ints x.parents),ao x'.rows]):=by rw[hHe];exact CP (by omega)
  have hoe:∀ i,i<Hx.next->He.get i=Hx.get i:=fun i h=>by rw[hHe,CQ (by omega) (by omega)];exact ho2 i h
  have hne':He.next=s2.H.next:=by rw[hHe];rfl
  clear hHe hv' hP2 hO2;have lPe:=ah gPe;have lNe:=ah ((hoe Hf.next (by omega)).trans ((hold Hf.next (by omega) (by omega)).trans dN));have lxe:=ah ((hoe id (by omega)).trans xid);simp only[go_sem];refine W.draw 7 [0,1,0,0,12,28,0] Try.mixed (by kernel_rfl) (by kernel_rfl) ?_;simp only[go_sem,r5,r6,r7,r8,lPe,lNe,lxe,hdl,hdk,hdne,hb,hvb,hv3];have w1:=IntWalk.i64_in ((k:Int)+1) (by omega);refine ag _ _ _ (by rfl) ?_;simp only[go_sem,r7,w1];refine⟨by rw[aC];omega,⟨k+1,_,rfl,by omega,by rw[aC];omega,fun i h1 h2=>by rw[af,if_neg h2,hoe i (by omega)];exact hold i h1 h2,by rw[af,if_pos rfl],?_⟩,by rw[q7];simp only[aa,aU];omega⟩;rw[RY hok hv hx,<- hx'];have e1:x'.card=x.card:=by rw[hx']
  have e2:x'.parents=x.parents:=by rw[hx']
  have:=xQ.set (v:=v) (y:=x') (rv:=ao x'.rows) (by rw[dV];exact v1) (.inl rfl) fun h=>h.elim;rw[e1,e2]at this;exact this
 refine W.seq (ag _ _ _ (by rfl) ?_);simp only[go_sem];refine W.block ?_;refine W.env fun E6 hE6=>?_;have d1':E6 1=ao p:=by rw[hE6];simp only[go_sem,c1]
 have d2':E6 2=.ptr H.next 0 0:=by rw[hE6];simp only[go_sem,c2]
 have d4':E6 4=.ptr (H.next+1) 0 0:=by rw[hE6];simp only[go_sem,c4]
 have d5':E6 5=.ptr Hf.next 0 0:=by rw[hE6];simp only[go_sem,c5]
 have d6':E6 6=ab (bf (ba d)):=by rw[hE6];simp only[go_sem,c6]
 have d7':E6 7=aa k:=by rw[hE6];simp only[go_sem,c7]
 have d8':E6 8=.ptr Hx.next 0 0:=by rw[hE6];simp only[go_sem,c8]
 have d9':E6 9=aa 0:=by rw[hE6];simp only[go_sem]
 clear hE6;refine W.aK 576460751229683200 (by rfl) (fun ρ3 Hy=>∃ (j:Nat) (rq:AVal),ρ3 9=aa j/\j<=l.length/\Hq.next<=Hy.next/\(∀ i,i<Hx.next->Hy.get i=Hx.get i)/\Hy.get Hx.next=some (.arr 0 83 [.lit (.int .i64 x.card),.vec x.parents.length (ints x.parents),rq])/\ep Hq.next Hy 59 3 rq (rws.take j)) (fun ρ3 H=>l.length - (iv (ρ3 9)).toNat) ?_ ?_
 ·simp only[go_sem,d9'];exact⟨0,_,rfl,by omega,qo,qP,.nil⟩
 rintro ρ3 Hy ⟨j,rq,t9,hj,hny,hyo,hyP,hOy⟩;refine W.env fun E7 hE7=>?_;have v1':E7 1=ao p:=by rw[hE7];simp only[go_sem,d1']
 have v2':E7 2=.ptr H.next 0 0:=by rw[hE7];simp only[go_sem,d2']
 have v4':E7 4=.ptr (H.next+1) 0 0:=by rw[hE7];simp only[go_sem,d4']
 have v5':E7 5=.ptr Hf.next 0 0:=by rw[hE7];simp only[go_sem,d5']
 have v6':E7 6=ab (bf (ba d)):=by rw[hE7];simp only[go_sem,d6']
 have v7':E7 7=aa k:=by rw[hE7];simp only[go_sem,d7']
 have v8':E7 8=.ptr Hx.next 0 0:=by rw[hE7];simp only[go_sem,d8']
 have v9':E7 9=aa j:=by rw[hE7];simp only[go_sem,t9]
 clear hE7;by_cases hc:(j:Int)<l.length;rotate_left
 ·refine ag _ _ _ (by rfl) ?_;simp only[go_sem,v1',v2',v4',v5',v6',v7',v8',v9',ao,hlg,hpne,hpk,hc];rw[List.take_of_length_le (by rw[hrws,List.length_map];omega)]at hOy;exact⟨rq,hny,hyo,hyP,hOy⟩
 obtain⟨a,ha⟩:=ay (l:=l) (i:=j) (by omega);have har:=lr a (List.mem_of_getElem? ha);obtain⟨aN,haN⟩:=Int.eq_ofNat_of_zero_le har.1;have hlne:=aR ha;have yP:=ah hyP;rw[hcn]at yP;have y0:=ah ((hyo H.next (by omega)).trans ((hold H.next (by omega) (by omega)).trans d0));have y0e:∀ L,(ext Hy L).live H.next 0=_:=fun L=>(dS (by omega)).trans y0;have yPe:∀ L,(ext Hy L).live Hx.next 0=_:=fun L=>(dS (by omega)).trans yP;have hcn0:(0:Int)<cn:=by omega
 have hcn2:(cn:Int) >= 0:=by omega
 refine W.seq (ag _ _ _ (by rfl) ?_);simp only[go_sem,v1',v7',v9',ao,hlg,hpne,hpk,hc];refine W.seq (W.block ?_);refine W.seq (ag _ _ _ (by rfl) ?_);simp only[go_sem,v8',yP,hcn2];refine⟨by omega,?_⟩;have haN':aN<cn:=by omega
 have hun:=RZ (g:=d.grain) hcn haN';have hul:(bw d.grain x.card aN).length=cn:=by rw[rF,hcn];rfl
 have zl:(List.replicate cn (AVal.lit (.int .i64 0))).length=cn:=List.length_replicate;have zne:¬ List.replicate cn (AVal.lit (.int .i64 0))=[]:=fun h=>by rw[h]at zl;simp at zl;omega
 have hab:(aN:Int)<cn:=by omega
 obtain⟨Hu,hHu⟩:∃ Hu,Hu=ext Hy [.arr 0 3 (List.replicate cn (.lit (.int .i64 0)))]:=⟨_,rfl⟩
 have nu:Hu.next=Hy.next+1:=by rw[hHu];rfl
 have uo:∀ i,i<Hy.next->Hu.get i=Hy.get i:=fun i h=>by rw[hHu];exact c9 _ _ _ h
 have uP:=ah ((uo Hx.next (by omega)).trans hyP);have u0:=ah ((uo H.next (by omega)).trans ((hyo H.next (by omega)).trans ((hold H.next (by omega) (by omega)).trans d0)));have uR:Hu.live Hy.next 0=some (3,List.replicate cn (.lit (.int .i64 0))):=by rw[hHu];exact ah bY
 rw[<- hHu];refine W.seq ?_;refine W.draw 10 [0,0,0,6,14,0,62,126,0,256] Try.mixed (by kernel_rfl) (by kernel_rfl) ?_;simp only[go_sem,v1',v2',v7',v9',u0,uR,ao,hlg,hpne,hpk,ha,haN,hlne,hc,zl,hab,hun];refine⟨by omega,?_⟩;obtain⟨Hw,hHw⟩:∃ Hw,Hw=Hu.upd Hy.next (.arr 0 3 (ints (bw d.grain x.card aN))):=⟨_,rfl⟩
 have hwn:Hw.next=Hy.next+1:=by rw[hHw,aC];exact nu
 have hwo:Over Hy Hw:=⟨by omega,fun i h=>by rw[hHw,af,if_neg (by omega)];exact uo i h⟩
 have hwg:Hw.get Hy.next=some (.arr 0 3 (ints (bw d.grain x.card aN))):=by rw[hHw,af,if_pos rfl]
 have wP:=ah ((hwo.old Hx.next (by omega)).trans hyP);obtain⟨rq',Hj,hA,hO',hnj,hpj⟩:=ep.app (P:=Try.prog) (H:=Hw) (n:=Hw.next+1) (t:=48) (x:=.own Hy.next 0 0 cn 1) (r:=ints (bw d.grain x.card aN)) Try.underlying48 Try.jY Try.kQ Try.kP (by decide) (by rw[List.length_take];omega) (hOy.over hwo) (by omega) (.inr ⟨Hy.next,0,by omega,by omega,by rw[aT,hul],hwg⟩) rfl;have keep:∀ id,id<Hq.next->Hj.get id=Hy.get id:=fun id h=>(hpj id (by omega) h).trans (hwo.old id (by omega));have jP:=ah ((keep _ (by omega)).trans hyP);have hO'2:=hO';obtain⟨cs',hcs'⟩:=hO'2;have rc:=hcs'.1.cells;have ro:=hcs'.1.one;rw[<- hHw];have w3:=IntWalk.i64_in ((j:Int)+1) (by omega);refine ag _ _ _ (by rfl) ?_;simp only[go_sem,v8',wP,hA,jP,rc,ro];refine ag _ _ _ (by rfl) ?_;simp only[go_sem,v9',w3];refine⟨by rw[aC];omega,⟨j+1,rq',rfl,by omega,by rw[aC];omega,fun id h=>by rw[af,if_neg (by omega),keep id (by omega)];exact hyo id h,by rw[af,if_pos rfl],?_⟩,by rw[t9];simp only[aa,aU];omega⟩;have hr1:rws[j]?=some (ints (bw d.grain x.card aN)):=by rw[hrws,List.getElem?_map,ha,haN];rfl
 rw[aP hr1];exact hO'.upd (by omega)
end Go.Proofs
namespace Go.Proofs
open Go.Hx
set_option maxHeartbeats 4000000 in
theorem R7 (d:InfP)(cs:List AVal)(hq:NodesQ (fun v=>d.decs.testBit v=true) d.nodes cs)(hf:InfFit d)(hok:InfOk d)(h6:d.nodes.length<=6)(p:List (List Int))(hp:PolOk d p)(H:AHeap)(K:ARes->AHeap->Prop)(hK:K (.ret (aa (jE d p))) H):
  ae Try.prog G0 69 [fC d cs,ao p] H K:=by
 refine ae.clo ⟨_,Try.func69,rfl,rfl⟩ fun hcl=>?_;obtain⟨ns,hns⟩:∃ ns,ns=bF d (fixC p):=⟨_,rfl⟩
 have hn:NetOk d.grain ns:=by rw[hns];exact yM hok (yR hp)
 have hnl:d.nodes.length=ns.length:=by rw[hns,dV]
 have h8:ns.length<=8:=hn.n1.2;have hc4:∀ y∈ns,1<=y.card/\y.card<=4:=fun y hy=>(hn.node y hy).1;have hc1:∀ c∈aq ns,1<=c:=fun c hc=>by
  obtain⟨x,hx,rfl⟩:=List.mem_map.1 hc;exact(hn.node x hx).1.1
 have hu:∀ u∈d.utils,UtilOk ns u:=by rw[hns];exact fun u hu=>yQ (hok.utils.2 u hu)
 have hu4:=hok.utils.1;obtain⟨hw1,hw2⟩:=C3 hn;have hbd:=C5 hn (by omega) hu hu4;have hsum:jE d p=eP ns d.utils (cS ns):=by rw[hns];unfold jE;rw[yS]
 rw[hsum]at hK;refine ae.jK (n:=33) (rs:=[.tmp 4]) Try.func69 rfl rfl rfl (by decide) (by simp) ?_;refine W.seq (ag _ _ _ (by rfl) ?_);simp only[go_sem,jb,il];obtain⟨R,hR⟩:∃ R,R=ext H [.arr 0 39 [.lit (.int .i64 d.grain),.vec d.nodes.length cs,.lit (.int .u64 (d.decs:Int)),.vec d.utils.length (aO d.utils)]]:=⟨_,rfl⟩
 have oR:Over H R:=by rw[hR];exact .ext _ _
 have nR:R.next=H.next+1:=by rw[hR];rfl
 have l0:R.live H.next 0=some (39,[.lit (.int .i64 d.grain),.vec d.nodes.length cs,.lit (.int .u64 (d.decs:Int)),.vec d.utils.length (aO d.utils)]):=by rw[hR];exact ah (br ..)
 rw[<- hR];clear hR;refine W.env fun E hE=>?_;have e1:E 1=ao p:=by rw[hE];simp only[go_sem]
 have e2:E 2=.ptr H.next 0 0:=by rw[hE];simp only[go_sem]
 clear hE;refine W.seq (ag _ _ _ (by rfl) ?_);simp only[go_sem,e1,e2,l0];refine aA.clo (Ej d cs hq hf hok p hp _ _ ⟨trivial,?_⟩);rw[<- hns];simp only[go_sem,bj,bO];obtain⟨R2,hR2⟩:∃ R2,R2=ext R [.arr 0 64 [.lit (.int .i64 d.grain),.vec ns.length (aD ns)]]:=⟨_,rfl⟩
 have o2:Over R R2:=by rw[hR2];exact .ext _ _
 have l2:R2.live (H.next+1) 0=some (64,[.lit (.int .i64 d.grain),.vec ns.length (aD ns)]):=by rw[hR2,<- nR];exact ah bY
 have k0:R2.live H.next 0=_:=(o2.live (by omega)).trans l0;rw[<- hR2];clear hR2;refine W.env fun E2 hE2=>?_;have f2:E2 2=.ptr H.next 0 0:=by rw[hE2];simp only[go_sem,e2]
 have f5:E2 5=.ptr (H.next+1) 0 0:=by rw[hE2];simp only[go_sem,nR]
 clear hE2;refine W.seq (ag _ _ _ (by rfl) ?_);simp only[go_sem,f5,l2];refine aA.clo (pD d.grain ns (by omega) _ _ ⟨trivial,?_⟩);simp only[go_sem];refine W.seq (ag _ _ _ (by rfl) ?_);simp only[go_sem];refine W.seq ?_;refine W.seq (ag _ _ _ (by rfl) ?_);simp only[go_sem];refine W.block ?_;refine W.env fun E3 hE3=>?_;have g2:E3 2=.ptr H.next 0 0:=by rw[hE3];simp only[go_sem,f2]
 have g5:E3 5=.ptr (H.next+1) 0 0:=by rw[hE3];simp only[go_sem,f5]
 have g6:E3 6=ab (aq ns):=by rw[hE3];simp only[go_sem]
 have g7:E3 7=aa 0:=by rw[hE3];simp only[go_sem]
 have g8:E3 8=aa 0:=by rw[hE3];simp only[go_sem]
 clear hE3;refine W.aK 4294951296 (by rfl) (fun ρ Hx=>Hx=R2/\∃ k:Nat,ρ 8=aa k/\k<=cS ns/\ρ 7=aa (eP ns d.utils k)) (fun ρ H=>cS ns - (iv (ρ 8)).toNat) ?_ ?_
 ·simp only[go_sem,g7,g8];exact⟨0,rfl,by omega,by simp [eP]⟩
 rintro ρ Hx ⟨rfl,k,h8',hk,h7⟩;refine W.env fun E4 hE4=>?_;have a2:E4 2=.ptr H.next 0 0:=by rw[hE4];simp only[go_sem,g2]
 have a5:E4 5=.ptr (H.next+1) 0 0:=by rw[hE4];simp only[go_sem,g5]
 have a6:E4 6=ab (aq ns):=by rw[hE4];simp only[go_sem,g6]
 have a7:E4 7=aa (eP ns d.utils k):=by rw[hE4];simp only[go_sem,h7]
 have a8:E4 8=aa k:=by rw[hE4];simp only[go_sem,h8']
 clear hE4;have hwi:au (aq ns)=(cS ns:Int):=hw2.symm;by_cases hb:(k:Int)<cS ns;rotate_left
 ·obtain rfl:k=cS ns:=by omega
  refine ag _ _ _ (by rfl) ?_;simp only[go_sem,a5,a8,l2];refine aA.clo (DH d.grain ns h8 hc4 _ _ ⟨trivial,?_⟩);simp only[go_sem,hwi,hb];refine ag _ _ _ (by rfl) ?_;simp only[go_sem,a7];exact aw.bk aF hcl (oR.trans o2) (.lit _) hK
 have hfv:=o7 hc1 (k:Int);have wb:=C2 hn (by omega) hfv;have ub:=pC hu hu4 (bp (aq ns) k) d.utils.length;rw[List.take_of_length_le (Nat.le_refl _)]at ub;have tb:=C4 hn (by omega) hu hu4 hfv d.utils.length;rw[List.take_of_length_le (Nat.le_refl _)]at tb;have b0:=hbd k;have b1:=hbd (k+1);have ss:=yt ns d.utils k;rw[Int.mul_comm]at tb ss;obtain⟨t,ht⟩:∃ t,t=cz ns d.utils (bp (aq ns) k)*weight ns (bp (aq ns) k):=⟨_,rfl⟩
 rw[<- ht]at tb ss;have wt:=IntWalk.i64_in t (by omega);have ws:=IntWalk.i64_in (eP ns d.utils k+t) (by omega);have w1:=IntWalk.i64_in ((k:Int)+1) (by omega);refine W.seq (ag _ _ _ (by rfl) ?_);simp only[go_sem,a5,a8,l2];refine aA.clo (DH d.grain ns h8 hc4 _ _ ⟨trivial,?_⟩);simp only[go_sem,hwi,hb];refine W.seq (W.block ?_);refine W.draw 11 [0,0,0,0,0,24,62,0,0,510,1022] Try.mixed (by kernel_rfl) (by kernel_rfl) ?_;simp only[go_sem,a2,a5,a6,a7,a8,k0,l2];refine⟨_,[],bD.pure fun H3=>DG d.grain ns h8 hc4 k (by omega) H3 _ ⟨rfl,rfl⟩,?_⟩;simp only[go_sem];refine⟨_,[],bD.pure fun H3=>RU d cs ns hnl (bp (aq ns) k) h8 hc4 hu hu4 hfv H3 _ ⟨rfl,rfl⟩,?_⟩;simp only[go_sem];refine⟨_,[],bD.pure fun H3=>QZ d.grain ns hn k (by omega) H3 _ ⟨rfl,rfl⟩,?_⟩;simp only[go_sem,a2,a5,a6,a7,a8,<- ht,wt,ws];refine ag _ _ _ (by rfl) ?_;simp only[go_sem,a8,w1];exact⟨⟨k+1,rfl,by omega,by rw[ss]⟩,by rw[h8'];simp only[aa,aU];omega⟩
set_option maxHeartbeats 1000000 in
theorem R8 (d:InfP)(cs:List AVal)(hq:NodesQ (fun v=>d.decs.testBit v=true) d.nodes cs)(hf:InfFit d)(hok:InfOk d)(h6:d.nodes.length<=6)(p:List (List Int))(hp:PolOk d p)(H:AHeap)(K:ARes->AHeap->Prop)(hK:K (.ret (im d p)) H):
  ae Try.prog G0 26 [fC d cs,ao p] H K:=by
 refine ae.clo ⟨_,Try.func26,rfl,rfl⟩ fun hcl=>?_;have hg:=hok.net.g1;have h8:=hok.n.n1.2;have hpw:=Eh hg d.nodes.length h8;have hsb:=C6 h6 p hok hp (cS d.nodes) (Nat.le_refl _);have hs:eP (bF d (fixC p)) d.utils (cS d.nodes)=jE d p:=rfl;rw[hs]at hsb;rw[PZ hok hp]at hK;refine ae.aS (n:=11) (rs:=[.cell 4 68]) Try.func26 rfl rfl rfl (by decide) (by kernel_rfl) (by simp) ?_;simp only[go_sem,jb,il];obtain⟨R,hR⟩:∃ R,R=ext H [.arr 0 39 [.lit (.int .i64 d.grain),.vec d.nodes.length cs,.lit (.int .u64 (d.decs:Int)),.vec d.utils.length (aO d.utils)],.arr 0 68 [.lit (.int .i64 0),.lit (.int .i64 0)]]:=⟨_,rfl⟩
 have oR:Over H R:=by rw[hR];exact .ext _ _
 have l0:R.live H.next 0=some (39,[.lit (.int .i64 d.grain),.vec d.nodes.length cs,.lit (.int .u64 (d.decs:Int)),.vec d.utils.length (aO d.utils)]):=by rw[hR];exact ah (br ..)
 have l1:R.live (H.next+1) 0=some (68,[.lit (.int .i64 0),.lit (.int .i64 0)]):=by rw[hR];exact ah (bu H _ 1 (by simp))
 rw[<- hR];clear hR;have hra:∃ a b:Int,iq (jE d p) (d.grain ^ d.nodes.length)=.agg [.lit (.int .i64 a),.lit (.int .i64 b)]:=⟨_,_,rfl⟩
 obtain⟨ra,rb,hrr⟩:=hra;refine W.draw 4 [0,0,3,0] Try.mixed (by kernel_rfl) (by kernel_rfl) ?_;simp only[go_sem,l0];refine⟨_,[],bD.pure fun H3=>R7 d cs hq hf hok h6 p hp H3 _ ⟨rfl,rfl⟩,?_⟩;simp only[go_sem];refine aA.clo (RV d cs hg h8 _ _ ⟨trivial,?_⟩);simp only[go_sem];refine aA.clo (R01.QD (jE d p) (d.grain ^ d.nodes.length) (by omega) (by omega) _ _ ⟨trivial,?_⟩);rw[hrr]at hK ⊢;simp only[go_sem,l1];refine aw.bk aF hcl (oR.upd (by omega) _) (.agg rfl fun i hi _=>?_) hK
 match i,hi with
 | 0,_=>exact .lit _
 | 1,_=>exact .lit _
end Go.Proofs
namespace Go.Proofs
open Go.Hx
theorem R9 (x:List Int)(hx:(x.length:Int)<2 ^ 40)(H:AHeap)(K:ARes->AHeap->Prop)(hK:K (.ret (ab x)) H):ae Try.prog G0 61 [ab x] H K:=by
 refine ae.clo ⟨_,Try.func61,rfl,rfl⟩ fun hc=>?_;refine ae.aS (n:=8) (rs:=[.tmp 2]) Try.func61 rfl rfl rfl (by decide) (by kernel_rfl) (by simp) ?_;simp only[go_sem];intro b hlen;cases b with
 | true =>
  have hx0:x=[]:=List.eq_nil_of_length_eq_zero (by
   by_cases h:0<x.length
   ·have:=hlen (by simpa using h);cases this
   ·omega)
  simp only[go_sem];subst hx0;exact aw.AT aF hc .sL hK
 | false =>
  by_cases h0:x.length=0
  ·have hx0:x=[]:=List.eq_nil_of_length_eq_zero h0;subst hx0;simp only[go_sem,bK];refine⟨⟨rfl,rfl⟩,aw.drop (v':=ab []) aF hc ?_ hK⟩;exact .ints (Nat.le_refl _) (br ..) rfl fun i hi=>absurd hi (Nat.not_lt_zero _)
  ·simp only[go_sem,h0,bK];refine⟨⟨rfl,by omega,by omega,gZ x⟩,aw.drop aF hc ?_ hK⟩;exact .ints (Nat.le_refl _) (br ..) rfl fun i hi=>by simp [g9,hi]
theorem Sa (t:List Int)(ht:(t.length:Int)<2 ^ 40)(h0:0<t.length)(H:AHeap)(K:ARes->AHeap->Prop)(hK:∀ v H',Over H H'->aB H.next H' 3 v (ints t)->K (.ret v) H'):ae Try.prog G0 61 [ab t] H K:=by
 refine ae.aS (n:=8) (rs:=[.tmp 2]) Try.func61 rfl rfl rfl (by decide) (by kernel_rfl) (by simp) ?_;simp only[go_sem];intro b hlen;cases b with
 | true=>exact absurd (hlen (by simpa using h0)) (by decide)
 | false =>
  have hn:¬ t.length=0:=by omega
  simp only[go_sem,hn,bK];refine⟨⟨by simp,by omega,by omega,gZ _⟩,aw.mk (by simp [bn]) ?_⟩;refine hK _ _ (Over.ext _ _) (.inr ⟨H.next,_,Nat.le_refl _,by simp [bn],by rw[aT],?_⟩);rw[br];simp
def bJ (p:List (List Int)):List (List Int):=(p.take 4).map fun l=>l.take 70
theorem rS (p:List (List Int)):(bJ p).length<=4/\∀ r∈bJ p,r.length<=70:=by
 unfold bJ;refine⟨by simp;omega,fun r hr=>?_⟩;obtain⟨l,_,rfl⟩:=List.mem_map.1 hr;rw[List.length_take];omega
def fF (p:List (List Int))(A k:Nat)(w:AVal):List AVal:=(((bJ p).take k).map ab).set A w
theorem Sb {p:List (List Int)}{k:Nat}{l:List Int}(h:p[k]?=some l)(h4:k<4):(bJ p)[k]?=some (l.take 70):=by
 unfold bJ;rw[List.getElem?_map,List.getElem?_take_of_lt h4,h];rfl
theorem zn (p:List (List Int)):(bJ p).length=min p.length 4:=by unfold bJ;simp [Nat.min_comm]
theorem Sc {p:List (List Int)}{A k:Nat}{l:List Int}(h:(bJ p)[k]?=some l)(w:AVal):fF p A (k+1) w=if A=k then ((bJ p).take k).map ab++[w] else fF p A k w++[ab l]:=by
 have hl:=aG h;unfold fF;rw[aP h,List.map_append];by_cases hA:A=k
 ·rw[if_pos hA,List.set_append_right _ _ (by simp;omega),hA];simp [List.length_take,Nat.min_eq_left (Nat.le_of_lt hl)]
 ·rw[if_neg hA];rcases Nat.lt_or_ge A k with h'|h'
  ·rw[List.set_append_left _ _ (by simp;omega)];rfl
  ·rw[List.set_eq_of_length_le (by simp;omega),List.set_eq_of_length_le (by simp;omega)];rfl
set_option maxHeartbeats 2000000 in
theorem Ek (p:List (List Int))(hp:(p.length:Int)<2 ^ 63)(hr:∀ r∈p,(r.length:Int)<2 ^ 63)(A:Nat)(hA:∀ r,A<4->p[A]?=some r->0<r.length)(H:AHeap)(K:ARes->AHeap->Prop)
  (hK:Clo H->∀ v w H',Over H H'->aB H.next H' 59 v (fF p A (bJ p).length w)->(∀ r,(bJ p)[A]?=some r->aB H.next H' 3 w (ints r))->aw Try.prog G0 H K v H'):ae Try.prog G0 20 [ao p] H K:=by
 refine ae.clo ⟨_,Try.func20,rfl,rfl⟩ fun hcl=>?_;obtain⟨n,hn⟩:∃ n,n=min p.length 4:=⟨_,rfl⟩
 have hn4:(if (4:Int)<p.length then (4:Int) else p.length)=(n:Int):=by split<;>omega
 have hfl:=zn p;rw[<- hn]at hfl;refine ae.aS (n:=27) (rs:=[.tmp 2]) Try.func20 rfl rfl rfl (by decide) (by kernel_rfl) (by simp) ?_;simp only[go_sem,ao,hn4];refine⟨by simp,by omega,?_⟩;refine W.aK 67104808 (by rfl) (fun ρ Hx=>∃ (k:Nat) (w:AVal),ρ 12=aa k/\k<=n/\Over H Hx/\aB H.next Hx 59 (ρ 3) (fF p A k w)/\(∀ r,A<k->(bJ p)[A]?=some r->aB H.next Hx 3 w (ints r))) (fun ρ H=>n - (iv (ρ 12)).toNat) ?_ ?_
 ·simp only[go_sem];exact⟨0,.lit (.slice none 0 0),rfl,by omega,.refl _,by unfold fF;simp;exact .nil,fun r h=>absurd h (Nat.not_lt_zero _)⟩
 rintro ρ Hx ⟨k,w,h12,hk,ov,hO,hW⟩;obtain⟨v,h3⟩:∃ v,ρ 3=v:=⟨_,rfl⟩
 rw[h3]at hO;refine W.env fun E hE=>?_;have e0:E 0=ao p:=by rw[hE];simp only[go_sem,ao]
 have e3:E 3=v:=by rw[hE];simp only[go_sem,h3]
 have e10:E 10=.vec n ((p.map ab).take n):=by rw[hE];simp only[go_sem]
 have e11:E 11=aa n:=by rw[hE];simp only[go_sem]
 have e12:E 12=aa k:=by rw[hE];simp only[go_sem,h12]
 clear hE;by_cases hb:(k:Int)<n;rotate_left
 ·refine ag _ _ _ (by rfl) ?_;simp only[go_sem,e3,e11,e12,hb];have hkn:k=(bJ p).length:=by omega
  rw[hkn]at hO;exact hK hcl v w Hx ov hO fun r h=>hW r (by have:=aG h;omega) h
 obtain⟨l,hl⟩:=ay (l:=p) (i:=k) (by omega);have hlm:=hr l (List.mem_of_getElem? hl);have hf:=Sb hl (by omega);have hg:((p.map ab).take n)[k]?=some (ab l):=by rw[List.getElem?_take_of_lt (by omega),List.getElem?_map,hl];rfl
 have hgn:=aR hg;obtain⟨m,hm⟩:∃ m,m=(l.take 70).length:=⟨_,rfl⟩
 have hm':m=min l.length 70:=by rw[hm,List.length_take,Nat.min_comm]
 have hm70:(if (70:Int)<l.length then (70:Int) else l.length)=(m:Int):=by split<;>omega
 have htk:(ints l).take m=ints (l.take 70):=by
  unfold ints;rw[<- List.map_take];congr 1;rw[hm'];rcases Nat.le_total l.length 70 with h|h
  ·rw[Nat.min_eq_left h,List.take_of_length_le (Nat.le_refl _),List.take_of_length_le h]
  ·rw[Nat.min_eq_right h]
 have hfl2:(fF p A k w).length=k:=by unfold fF;rw[List.length_set,List.length_map,List.length_take,hfl];omega
 have w1:=IntWalk.i64_in ((k:Int)+1) (by omega);have hsuc:=fun w=>Sc (A:=A) hf w;refine W.seq (ag _ _ _ (by rfl) ?_);simp only[go_sem,e11,e12,hb];refine W.seq (ag _ _ _ (by rfl) ?_);simp only[go_sem];refine W.seq (W.block ?_);refine W.seq (ag _ _ _ (by rfl) ?_);simp only[go_sem,e10,e12,hb,hg,hgn];refine ag _ _ _ (by rfl) ?_;simp only[go_sem,e3,hm70,htk];refine⟨by omega,?_⟩;have hmv:AVal.vec m (ints (l.take 70))=ab (l.take 70):=by unfold ab;rw[hm]
 rw[hmv];by_cases hA':A=k
 ·have hl0:0<(l.take 70).length:=by rw[<- hm,hm'];have:=hA l (by omega) (by rw[hA'];exact hl);omega
  refine aA.clo (Sa (l.take 70) (by omega) hl0 _ _ fun w2 H2 ov2 hW2=>⟨trivial,?_⟩);obtain⟨v',H3,hA3,ov3,hO3,n3,hp3⟩:=D9 w2 hW2.one (ov.trans ov2) (hO.over ov2) (by omega);have h31:=hO3.one;have h3c:=hO3.cells;have w21:=hW2.one;have w2c:=hW2.cells;simp only[go_sem,hA3,w2c];refine ag _ _ _ (by rfl) ?_;simp only[go_sem,e12,w1];refine⟨by have:=ov3.next;omega,⟨k+1,w2,rfl,by omega,ov3,?_,fun r h1 h2=>?_⟩,by rw[h12];simp only[aa,aU];omega⟩
  ·have:=hsuc w2;rw[if_pos hA']at this;rw[this];have e:fF p A k w=((bJ p).take k).map ab:=(by unfold fF;rw[hA',List.set_eq_of_length_le (by simp [List.length_take];omega)]);rw[e]at hO3;exact hO3
  ·rw[hA',hf]at h2;cases h2;refine hW2.keep ov.next (by omega) fun i g _ h4 h5 _=>hp3 i h4 fun g' n' hv=>?_;rcases hO with ⟨h6,_⟩|⟨i2,g2,_,a2,h6,_⟩
   ·rw[h6]at hv;cases hv
   ·rw[h6]at hv;have:=(AVal.own.inj hv).1;omega
 ·refine aA.clo (R9 (l.take 70) (by omega) _ _ ⟨trivial,?_⟩);obtain⟨v',H3,hA3,ov3,hO3,n3,hp3⟩:=D9 (ab (l.take 70)) rfl ov hO (by omega);have h31:=hO3.one;have h3c:=hO3.cells;simp only[ab]at hA3;simp only[go_sem,hA3];refine ag _ _ _ (by rfl) ?_;simp only[go_sem,e12,w1];refine⟨by have:=ov3.next;omega,⟨k+1,w,rfl,by omega,ov3,?_,fun r h1 h2=>?_⟩,by rw[h12];simp only[aa,aU];omega⟩
  ·have:=hsuc w;rw[if_neg hA']at this;rw[this];exact hO3
  ·refine(hW r (by omega) h2).keep (Nat.le_refl _) n3 fun i g _ h4 h5 _=>hp3 i h4 fun g' n' hv=>?_;rcases hO with ⟨h6,_⟩|⟨i2,g2,_,a2,h6,h7⟩
   ·rw[h6]at hv;cases hv
   ·rw[h6]at hv;obtain rfl:=(AVal.own.inj hv).1;rw[h7]at h5;cases h5
theorem Sd (p:List (List Int))(hp:(p.length:Int)<2 ^ 63)(hr:∀ r∈p,(r.length:Int)<2 ^ 63)(H:AHeap)(K:ARes->AHeap->Prop)(hK:K (.ret (ao (bJ p))) H):ae Try.prog G0 20 [ao p] H K:=by
 refine Ek p hp hr 4 (fun r h=>absurd h (Nat.lt_irrefl _)) H K fun hcl v w H' ov hO _=>?_;have e:fF p 4 (bJ p).length w=(bJ p).map ab:=by unfold fF;rw[List.take_length,List.set_eq_of_length_le (by rw[List.length_map,zn];omega)]
 rw[e]at hO;refine aw.bk (v':=ao (bJ p)) aF hcl ov ?_ hK;have:=qM (S:=fun i=>H.next<=i) (nx:=H.next) (cs':=(bJ p).map ab) hO (fun i _ h _ _=>h) rfl fun i hi _=>by
  simp only[List.getElem_map];exact .cB _
 rw[List.length_map]at this;exact this
theorem Se (p:List (List Int))(hp:(p.length:Int)<2 ^ 63)(hr:∀ r∈p,(r.length:Int)<2 ^ 63)(A:Nat)(hA:∀ r,A<4->p[A]?=some r->0<r.length)(H:AHeap)(K:ARes->AHeap->Prop)
  (hK:∀ v w H',Over H H'->aB H.next H' 59 v (fF p A (bJ p).length w)->(∀ r,(bJ p)[A]?=some r->aB H.next H' 3 w (ints r))->K (.ret v) H'):ae Try.prog G0 20 [ao p] H K :=
 Ek p hp hr A hA H K fun _ v w H' ov hO hW=>aw.mk ov.next (hK v w H' ov hO hW)
end Go.Proofs
/-
  Calls of this seat's program, reckoned out by the evaluator: what each of them gives. Laid by a program of ours.
-/
namespace Go.Proofs
open Go.Hx
theorem Try.El:Try.prog.follows .mixedOrders=true:=by kernel_rfl
noncomputable def Try.fG:EP:={ P:=Try.prog,G:=oU,gd:=fun _=>none,known:=qK [] }
theorem Try.fW:EOk Try.fG:=.BU (l:=[]) rfl xY Try.El (fun _ _ h=>by cases h) trivial
def Try.Em:List AVal:=[.agg [.lit (.int .i64 1),.vec 6 [.lit (.int .i64 2),.lit (.slice none 0 0),.vec 1 [.vec 2 [.lit (.int .i64 1),.lit (.int .i64 0)]],.lit (.int .i64 2),.lit (.slice none 0 0),.vec 1 [.vec 2 [.lit (.int .i64 1),.lit (.int .i64 0)]],.lit (.int .i64 2),.lit (.slice none 0 0),.vec 1 [.vec 2 [.lit (.int .i64 1),.lit (.int .i64 0)]],.lit (.int .i64 2),.vec 3 [.lit (.int .i64 0),.lit (.int .i64 1),.lit (.int .i64 2)],.lit (.slice none 0 0),.lit (.int .i64 2),.vec 1 [.lit (.int .i64 0)],.lit (.slice none 0 0),.lit (.int .i64 2),.vec 1 [.lit (.int .i64 1)],.lit (.slice none 0 0)],.lit (.int .u64 56),.lit (.slice none 0 0)]]
def Try.En:AVal:=.lit (.int .i64 0)
theorem Try.Sj:eM Try.fG 1000000 11 Try.Em Try.En=true:=by kernel_rfl
def Try.Eo:List AVal:=[.agg [.lit (.int .i64 1),.vec 7 [.lit (.int .i64 2),.lit (.slice none 0 0),.vec 1 [.vec 2 [.lit (.int .i64 1),.lit (.int .i64 0)]],.lit (.int .i64 2),.lit (.slice none 0 0),.vec 1 [.vec 2 [.lit (.int .i64 1),.lit (.int .i64 0)]],.lit (.int .i64 2),.lit (.slice none 0 0),.vec 1 [.vec 2 [.lit (.int .i64 1),.lit (.int .i64 0)]],.lit (.int .i64 2),.vec 3 [.lit (.int .i64 0),.lit (.int .i64 1),.lit (.int .i64 2)],.lit (.slice none 0 0),.lit (.int .i64 2),.vec 1 [.lit (.int .i64 0)],.lit (.slice none 0 0),.lit (.int .i64 2),.vec 1 [.lit (.int .i64 1)],.lit (.slice none 0 0),.lit (.int .i64 2),.lit (.slice none 0 0),.lit (.slice none 0 0)],.lit (.int .u64 120),.lit (.slice none 0 0)]]
def Try.Ep:AVal:=.lit (.int .i64 0)
theorem Try.Sk:eM Try.fG 1000000 11 Try.Eo Try.Ep=true:=by kernel_rfl
def Try.Er:List AVal:=[.agg [.lit (.int .i64 60),.vec 1 [.lit (.int .i64 1),.lit (.slice none 0 0),.vec 1 [.vec 1 [.lit (.int .i64 60)]]],.lit (.int .u64 0),.lit (.slice none 0 0)]]
def Try.Es:AVal:=.lit (.int .i64 0)
theorem Try.Sl:eM Try.fG 1000000 11 Try.Er Try.Es=true:=by kernel_rfl
def Try.Et:List AVal:=[.agg [.lit (.int .i64 60),.vec 1 [.lit (.int .i64 1),.lit (.slice none 0 0),.vec 1 [.vec 1 [.lit (.int .i64 60)]]],.lit (.int .u64 0),.vec 4 [.lit (.slice none 0 0),.vec 1 [.lit (.int .i64 100)],.lit (.slice none 0 0),.vec 1 [.lit (.int .i64 100)],.lit (.slice none 0 0),.vec 1 [.lit (.int .i64 100)],.lit (.slice none 0 0),.vec 1 [.lit (.int .i64 100)]]]]
def Try.Eu:AVal:=.lit (.int .i64 0)
theorem Try.Sm:eM Try.fG 1000000 11 Try.Et Try.Eu=true:=by kernel_rfl
def Try.Ew:List AVal:=[.agg [.lit (.int .i64 0),.lit (.slice none 0 0),.lit (.int .u64 0),.lit (.slice none 0 0)]]
def Try.Ex:AVal:=.lit (.int .i64 200)
theorem Try.Sn:eM Try.fG 1000000 11 Try.Ew Try.Ex=true:=by kernel_rfl
def Try.Ey:List AVal:=[.agg [.lit (.int .i64 4),.vec 3 [.lit (.int .i64 2),.lit (.slice none 0 0),.vec 1 [.vec 2 [.lit (.int .i64 1),.lit (.int .i64 3)]],.lit (.int .i64 2),.vec 1 [.lit (.int .i64 0)],.lit (.slice none 0 0),.lit (.int .i64 2),.vec 2 [.lit (.int .i64 0),.lit (.int .i64 1)],.vec 4 [.vec 2 [.lit (.int .i64 4),.lit (.int .i64 0)],.vec 2 [.lit (.int .i64 2),.lit (.int .i64 2)],.vec 2 [.lit (.int .i64 0),.lit (.int .i64 4)],.vec 2 [.lit (.int .i64 1),.lit (.int .i64 3)]]],.lit (.int .u64 2),.vec 1 [.vec 2 [.lit (.int .i64 1),.lit (.int .i64 2)],.vec 4 [.lit (.int .i64 0),.lit (.int .i64 10),.lit (.int .i64 (-2)),.lit (.int .i64 8)]]]]
def Try.Ez:AVal:=.lit (.int .i64 0)
theorem Try.So:eM Try.fG 1000000 11 Try.Ey Try.Ez=true:=by kernel_rfl
def Try.EA:List AVal:=[.agg [.lit (.int .i64 4),.vec 3 [.lit (.int .i64 2),.lit (.slice none 0 0),.vec 1 [.vec 2 [.lit (.int .i64 1),.lit (.int .i64 3)]],.lit (.int .i64 2),.vec 1 [.lit (.int .i64 0)],.vec 2 [.vec 2 [.lit (.int .i64 4),.lit (.int .i64 0)],.vec 2 [.lit (.int .i64 4),.lit (.int .i64 0)]],.lit (.int .i64 2),.vec 2 [.lit (.int .i64 0),.lit (.int .i64 1)],.vec 4 [.vec 2 [.lit (.int .i64 4),.lit (.int .i64 0)],.vec 2 [.lit (.int .i64 2),.lit (.int .i64 2)],.vec 2 [.lit (.int .i64 0),.lit (.int .i64 4)],.vec 2 [.lit (.int .i64 1),.lit (.int .i64 3)]]],.lit (.int .u64 2),.vec 1 [.vec 2 [.lit (.int .i64 1),.lit (.int .i64 2)],.vec 4 [.lit (.int .i64 0),.lit (.int .i64 10),.lit (.int .i64 (-2)),.lit (.int .i64 8)]]]]
def Try.EB:AVal:=.lit (.int .i64 200)
theorem Try.Sp:eM Try.fG 1000000 11 Try.EA Try.EB=true:=by kernel_rfl
def Try.EC:List AVal:=[.agg [.lit (.int .i64 4),.vec 3 [.lit (.int .i64 2),.lit (.slice none 0 0),.vec 1 [.vec 2 [.lit (.int .i64 1),.lit (.int .i64 3)]],.lit (.int .i64 2),.vec 1 [.lit (.int .i64 0)],.lit (.slice none 0 0),.lit (.int .i64 2),.vec 2 [.lit (.int .i64 0),.lit (.int .i64 1)],.vec 4 [.vec 2 [.lit (.int .i64 4),.lit (.int .i64 0)],.vec 2 [.lit (.int .i64 2),.lit (.int .i64 2)],.vec 2 [.lit (.int .i64 0),.lit (.int .i64 4)],.vec 2 [.lit (.int .i64 1),.lit (.int .i64 3)]]],.lit (.int .u64 2),.vec 1 [.vec 2 [.lit (.int .i64 1),.lit (.int .i64 2)],.vec 3 [.lit (.int .i64 0),.lit (.int .i64 10),.lit (.int .i64 (-2))]]]]
def Try.ED:AVal:=.lit (.int .i64 200)
theorem Try.Sq:eM Try.fG 1000000 11 Try.EC Try.ED=true:=by kernel_rfl
def Try.EF:List AVal:=[.agg [.lit (.int .i64 4),.vec 3 [.lit (.int .i64 2),.lit (.slice none 0 0),.vec 1 [.vec 2 [.lit (.int .i64 1),.lit (.int .i64 3)]],.lit (.int .i64 2),.vec 1 [.lit (.int .i64 0)],.lit (.slice none 0 0),.lit (.int .i64 2),.vec 2 [.lit (.int .i64 0),.lit (.int .i64 1)],.vec 4 [.vec 2 [.lit (.int .i64 4),.lit (.int .i64 0)],.vec 2 [.lit (.int .i64 2),.lit (.int .i64 2)],.vec 2 [.lit (.int .i64 0),.lit (.int .i64 4)],.vec 2 [.lit (.int .i64 1),.lit (.int .i64 3)]]],.lit (.int .u64 2),.vec 1 [.vec 2 [.lit (.int .i64 1),.lit (.int .i64 2)],.vec 4 [.lit (.int .i64 101),.lit (.int .i64 10),.lit (.int .i64 (-2)),.lit (.int .i64 8)]]]]
def Try.EG:AVal:=.lit (.int .i64 200)
theorem Try.Sr:eM Try.fG 1000000 11 Try.EF Try.EG=true:=by kernel_rfl
def Try.EI:List AVal:=[.agg [.lit (.int .i64 4),.vec 3 [.lit (.int .i64 2),.lit (.slice none 0 0),.vec 1 [.vec 2 [.lit (.int .i64 1),.lit (.int .i64 3)]],.lit (.int .i64 2),.vec 1 [.lit (.int .i64 0)],.lit (.slice none 0 0),.lit (.int .i64 2),.vec 2 [.lit (.int .i64 0),.lit (.int .i64 1)],.vec 4 [.vec 2 [.lit (.int .i64 4),.lit (.int .i64 0)],.vec 2 [.lit (.int .i64 2),.lit (.int .i64 2)],.vec 2 [.lit (.int .i64 0),.lit (.int .i64 4)],.vec 2 [.lit (.int .i64 1),.lit (.int .i64 3)]]],.lit (.int .u64 2),.vec 1 [.vec 2 [.lit (.int .i64 2),.lit (.int .i64 1)],.vec 4 [.lit (.int .i64 0),.lit (.int .i64 10),.lit (.int .i64 (-2)),.lit (.int .i64 8)]]]]
def Try.EJ:AVal:=.lit (.int .i64 200)
theorem Try.Ss:eM Try.fG 1000000 11 Try.EI Try.EJ=true:=by kernel_rfl
def Try.EK:List AVal:=[.agg [.lit (.int .i64 60),.vec 1 [.lit (.int .i64 1),.lit (.slice none 0 0),.vec 1 [.vec 1 [.lit (.int .i64 60)]]],.lit (.int .u64 0),.vec 5 [.lit (.slice none 0 0),.vec 1 [.lit (.int .i64 100)],.lit (.slice none 0 0),.vec 1 [.lit (.int .i64 100)],.lit (.slice none 0 0),.vec 1 [.lit (.int .i64 100)],.lit (.slice none 0 0),.vec 1 [.lit (.int .i64 100)],.lit (.slice none 0 0),.vec 1 [.lit (.int .i64 0)]]]]
def Try.EL:AVal:=.lit (.int .i64 200)
theorem Try.Su:eM Try.fG 1000000 11 Try.EK Try.EL=true:=by kernel_rfl
def Try.EM:List AVal:=[.agg [.lit (.int .i64 1),.vec 2 [.lit (.int .i64 2),.vec 1 [.lit (.int .i64 1)],.lit (.slice none 0 0),.lit (.int .i64 2),.vec 1 [.lit (.int .i64 0)],.lit (.slice none 0 0)],.lit (.int .u64 3),.lit (.slice none 0 0)]]
def Try.EN:AVal:=.lit (.int .i64 200)
theorem Try.Sv:eM Try.fG 1000000 11 Try.EM Try.EN=true:=by kernel_rfl
def Try.EO:List AVal:=[.agg [.lit (.int .i64 1),.vec 1 [.lit (.int .i64 2),.lit (.slice none 0 0),.lit (.slice none 0 0)],.lit (.int .u64 3),.lit (.slice none 0 0)]]
def Try.ER:AVal:=.lit (.int .i64 200)
theorem Try.Sw:eM Try.fG 1000000 11 Try.EO Try.ER=true:=by kernel_rfl
def Try.ES:List AVal:=[.agg [.lit (.int .i64 61),.vec 1 [.lit (.int .i64 2),.lit (.slice none 0 0),.lit (.slice none 0 0)],.lit (.int .u64 1),.lit (.slice none 0 0)]]
def Try.ET:AVal:=.lit (.int .i64 200)
theorem Try.Sx:eM Try.fG 1000000 11 Try.ES Try.ET=true:=by kernel_rfl
def Try.EU:List AVal:=[.agg [.lit (.int .i64 1),.vec 1 [.lit (.int .i64 5),.lit (.slice none 0 0),.lit (.slice none 0 0)],.lit (.int .u64 1),.lit (.slice none 0 0)]]
def Try.EV:AVal:=.lit (.int .i64 200)
theorem Try.Sy:eM Try.fG 1000000 11 Try.EU Try.EV=true:=by kernel_rfl
def Try.EW:List AVal:=[.agg [.lit (.int .i64 1),.vec 1 [.lit (.int .i64 4),.lit (.slice none 0 0),.lit (.slice none 0 0)],.lit (.int .u64 1),.lit (.slice none 0 0)]]
def Try.EX:AVal:=.lit (.int .i64 0)
theorem Try.Sz:eM Try.fG 1000000 11 Try.EW Try.EX=true:=by kernel_rfl
def Try.EY:List AVal:=[.agg [.lit (.int .i64 1),.vec 1 [.lit (.int .i64 2),.lit (.slice none 0 0),.lit (.slice none 0 0)],.lit (.int .u64 0),.lit (.slice none 0 0)]]
def Try.EZ:AVal:=.lit (.int .i64 200)
theorem Try.SA:eM Try.fG 1000000 11 Try.EY Try.EZ=true:=by kernel_rfl
def Try.zq:iX:=[(Try.Em,Try.En),(Try.Eo,Try.Ep),(Try.Er,Try.Es),(Try.Et,Try.Eu),(Try.Ew,Try.Ex),(Try.Ey,Try.Ez),(Try.EA,Try.EB),(Try.EC,Try.ED),(Try.EF,Try.EG),(Try.EI,Try.EJ),(Try.EK,Try.EL),(Try.EM,Try.EN),(Try.EO,Try.ER),(Try.ES,Try.ET),(Try.EU,Try.EV),(Try.EW,Try.EX),(Try.EY,Try.EZ)]
theorem Try.SB:iY Try.prog oU 11 Try.zq:=.cons (fw Try.fW Try.Sj) (.cons (fw Try.fW Try.Sk) (.cons (fw Try.fW Try.Sl) (.cons (fw Try.fW Try.Sm) (.cons (fw Try.fW Try.Sn) (.cons (fw Try.fW Try.So) (.cons (fw Try.fW Try.Sp) (.cons (fw Try.fW Try.Sq) (.cons (fw Try.fW Try.Sr) (.cons (fw Try.fW Try.Ss) (.cons (fw Try.fW Try.Su) (.cons (fw Try.fW Try.Sv) (.cons (fw Try.fW Try.Sw) (.cons (fw Try.fW Try.Sx) (.cons (fw Try.fW Try.Sy) (.cons (fw Try.fW Try.Sz) (.cons (fw Try.fW Try.SA) .nil))))))))))))))))
noncomputable def Try.Fa:EP:={ P:=Try.prog,G:=oU,gd:=fun _=>none,known:=qK [(11,Try.zq)] }
theorem Try.SC:EOk Try.Fa:=.BU (l:=[(11,Try.zq)]) rfl xY Try.El (fun _ _ h=>by cases h) ⟨Try.SB,trivial⟩
def Try.SD:List AVal:=[]
def Try.SE:AVal:=.lit (.bool true)
theorem Try.SF:eM Try.Fa 1000000 18 Try.SD Try.SE=true:=by kernel_rfl
theorem SG (H:AHeap)(K:ARes->AHeap->Prop)(hK:K (.ret (.lit (.bool true))) H):ae Try.prog G0 18 [] H K :=
 (ae.frame (args':=[]) aF rfl (fun i h _=>absurd h (Nat.not_lt_zero _)) (fw Try.SC Try.SF)).mono fun r H' ⟨h1,h2⟩=>by rw[h1,h2];exact hK
end Go.Proofs
namespace Go.Proofs
open Go.Hx
set_option maxHeartbeats 2000000 in
theorem Sf (g:Int)(ns:List NodeP)(hf:mu ns)(H:AHeap)(K:ARes->AHeap->Prop)(hK:K (.ret (.lit (.bool true))) H):ae Try.prog G0 27 [bj g ns,bj g ns] H K:=by
 refine ae.clo ⟨_,Try.func27,rfl,rfl⟩ fun hcl=>?_;have hl:=hf.1;refine ae.jK (n:=81) (rs:=[.tmp 4]) Try.func27 rfl rfl rfl (by decide) (by simp) ?_;refine W.seq (ag _ _ _ (by rfl) ?_);simp only[go_sem,bj,bO];obtain⟨R,hR⟩:∃ R,R=ext H [.arr 0 64 [.lit (.int .i64 g),.vec ns.length (aD ns)],.arr 0 64 [.lit (.int .i64 g),.vec ns.length (aD ns)]]:=⟨_,rfl⟩
 have oR:Over H R:=by rw[hR];exact .ext _ _
 have nR:R.next=H.next+2:=by rw[hR];rfl
 have l0:R.live H.next 0=some (64,[.lit (.int .i64 g),.vec ns.length (aD ns)]):=by rw[hR];exact ah (br ..)
 have l1:R.live (H.next+1) 0=some (64,[.lit (.int .i64 g),.vec ns.length (aD ns)]):=by rw[hR];exact ah (bu H _ 1 (by simp))
 rw[<- hR];clear hR;refine W.env fun E hE=>?_;have e2:E 2=.ptr H.next 0 0:=by rw[hE];simp only[go_sem]
 have e3:E 3=.ptr (H.next+1) 0 0:=by rw[hE];simp only[go_sem]
 clear hE;refine W.seq (ag _ _ _ (by rfl) ?_);simp only[go_sem,e2,e3,l0,l1];refine W.seq ?_;refine W.seq (ag _ _ _ (by rfl) ?_);simp only[go_sem];refine W.block ?_;refine W.env fun E1 hE1=>?_;have f2:E1 2=.ptr H.next 0 0:=by rw[hE1];simp only[go_sem,e2]
 have f3:E1 3=.ptr (H.next+1) 0 0:=by rw[hE1];simp only[go_sem,e3]
 have f5:E1 5=aa 0:=by rw[hE1];simp only[go_sem]
 clear hE1;refine W.aK 2417851639229258341024240 (by rfl) (fun ρ Hx=>∃ k:Nat,ρ 5=aa k/\k<=ns.length/\Over R Hx) (fun ρ H=>ns.length - (iv (ρ 5)).toNat) ?_ ?_
 ·simp only[go_sem,f5];exact⟨0,rfl,by omega,.refl _⟩
 rintro ρ Hx ⟨k,h5,hk,ov⟩;refine W.env fun E2 hE2=>?_;have a2:E2 2=.ptr H.next 0 0:=by rw[hE2];simp only[go_sem,f2]
 have a3:E2 3=.ptr (H.next+1) 0 0:=by rw[hE2];simp only[go_sem,f3]
 have a5:E2 5=aa k:=by rw[hE2];simp only[go_sem,h5]
 clear hE2;have x0:=(ov.live (g:=0) (by omega:H.next<R.next)).trans l0;have x1:=(ov.live (g:=0) (by omega:H.next+1<R.next)).trans l1;by_cases hb:(k:Int)<ns.length;rotate_left
 ·refine ag _ _ _ (by rfl) ?_;simp only[go_sem,a2,a5,x0,hb];refine ag _ _ _ (by rfl) ?_;simp only[go_sem];exact aw.bk aF hcl (oR.trans ov) (.lit _) hK
 obtain⟨x,hx⟩:=ay (l:=ns) (i:=k) (by omega);obtain⟨g1,g2,g3⟩:=hf.2 x (List.mem_of_getElem? hx);have p0:=kR hx;have pne:=dH hx;have p1:k*3+3<=(aD ns).length:=by rw[gv];omega
 have w1:=IntWalk.i64_in ((k:Int)+1) (by omega);refine W.seq (ag _ _ _ (by rfl) ?_);simp only[go_sem,a2,a5,x0,hb];refine W.seq (W.block (W.seq ?_));obtain⟨zb,hzb⟩:∃ zb:Blk,zb=.arr 0 83 [.lit (.int .i64 0),.lit (.slice none 0 0),.lit (.slice none 0 0)]:=⟨_,rfl⟩
 have z0:(ext (ext Hx [.arr 0 83 [.lit (.int .i64 0),.lit (.slice none 0 0),.lit (.slice none 0 0)]]) [.arr 0 83 [.lit (.int .i64 0),.lit (.slice none 0 0),.lit (.slice none 0 0)]]).live Hx.next 0=some (83,[.lit (.int .i64 0),.lit (.slice none 0 0),.lit (.slice none 0 0)]):=by rw[fa];exact ah (bu Hx _ 0 (by simp))
 have z1:∀ b,((ext (ext Hx [.arr 0 83 [.lit (.int .i64 0),.lit (.slice none 0 0),.lit (.slice none 0 0)]]) [.arr 0 83 [.lit (.int .i64 0),.lit (.slice none 0 0),.lit (.slice none 0 0)]]).upd Hx.next b).live (Hx.next+1) 0=some (83,[.lit (.int .i64 0),.lit (.slice none 0 0),.lit (.slice none 0 0)]):=fun b=>by rw[my (by omega),fa];exact ah (bu Hx _ 1 (by simp))
 have hnx:=ov.next;refine W.draw 13 [0,1,0,7,15,0,32,0,224,480,0,0,3103] Try.mixed (by kernel_rfl) (by kernel_rfl) ?_;simp only[go_sem,a2,a3,a5,x0,x1,hb,p0,p1,pne,ao,z0,z1];refine⟨by repeat' (first|refine And.intro ?_ ?_|(intro x hx;omega)),by repeat' (first|refine And.intro ?_ ?_|(intro x hx;omega)),?_⟩;refine⟨by repeat' (first|refine And.intro ?_ ?_|(intro x hx;omega)),?_⟩;obtain⟨H2,hH2⟩:∃ H2,H2=((ext (ext Hx [.arr 0 83 [.lit (.int .i64 0),.lit (.slice none 0 0),.lit (.slice none 0 0)]]) [.arr 0 83 [.lit (.int .i64 0),.lit (.slice none 0 0),.lit (.slice none 0 0)]]).upd Hx.next (.arr 0 83 [.lit (.int .i64 x.card),.vec x.parents.length (ints x.parents),.vec x.rows.length (x.rows.map ab)])).upd (Hx.next+1) (.arr 0 83 [.lit (.int .i64 x.card),.vec x.parents.length (ints x.parents),.vec x.rows.length (x.rows.map ab)]):=⟨_,rfl⟩
 have o2:Over Hx H2:=⟨by rw[hH2,aC,aC,fa,bn];omega,fun i h=>by rw[hH2,af,if_neg (by omega),af,if_neg (by omega),fa];exact c9 _ _ _ h⟩
 have q0:H2.live Hx.next 0=some (83,[.lit (.int .i64 x.card),.vec x.parents.length (ints x.parents),.vec x.rows.length (x.rows.map ab)]):=by rw[hH2,my (by omega)];exact vg
 have q1:H2.live (Hx.next+1) 0=some (83,[.lit (.int .i64 x.card),.vec x.parents.length (ints x.parents),.vec x.rows.length (x.rows.map ab)]):=by rw[hH2];exact vg
 refine W.env fun E3 hE3=>?_;have b2:E3 2=.ptr H.next 0 0:=by rw[hE3];simp only[go_sem,a2]
 have b3:E3 3=.ptr (H.next+1) 0 0:=by rw[hE3];simp only[go_sem,a3]
 have b5:E3 5=aa k:=by rw[hE3];simp only[go_sem,a5]
 have b6:E3 6=.ptr Hx.next 0 0:=by rw[hE3];simp only[go_sem]
 have b7:E3 7=.ptr (Hx.next+1) 0 0:=by rw[hE3];simp only[go_sem]
 clear hE3;rw[<- hH2];clear hH2;refine W.seq ?_;refine W.seq (ag _ _ _ (by rfl) ?_);simp only[go_sem,b6,b7,q0,q1];refine aA.clo (DR x.parents x.parents (by omega) _ _ ⟨trivial,?_⟩);simp only[go_sem,b6,b7,q0,q1];refine ag _ _ _ (by rfl) ?_;simp only[go_sem];refine W.seq (ag _ _ _ (by rfl) ?_);simp only[go_sem];refine W.block ?_;refine W.env fun E4 hE4=>?_;have c2:E4 2=.ptr H.next 0 0:=by rw[hE4];simp only[go_sem,b2]
 have c3:E4 3=.ptr (H.next+1) 0 0:=by rw[hE4];simp only[go_sem,b3]
 have c5:E4 5=aa k:=by rw[hE4];simp only[go_sem,b5]
 have c6:E4 6=.ptr Hx.next 0 0:=by rw[hE4];simp only[go_sem,b6]
 have c7:E4 7=.ptr (Hx.next+1) 0 0:=by rw[hE4];simp only[go_sem,b7]
 have c8:E4 8=aa 0:=by rw[hE4];simp only[go_sem]
 clear hE4;refine W.aK 2417847027543239922024720 (by rfl) (fun ρ2 Hy=>Hy=H2/\∃ j:Nat,ρ2 8=aa j/\j<=x.rows.length) (fun ρ2 H=>x.rows.length - (iv (ρ2 8)).toNat) ?_ ?_
 ·simp only[go_sem,c8];exact⟨0,rfl,by omega⟩
 rintro ρ2 Hy ⟨rfl,j,h8,hj⟩;refine W.env fun E5 hE5=>?_;have d5:E5 5=aa k:=by rw[hE5];simp only[go_sem,c5]
 have d6:E5 6=.ptr Hx.next 0 0:=by rw[hE5];simp only[go_sem,c6]
 have d7:E5 7=.ptr (Hx.next+1) 0 0:=by rw[hE5];simp only[go_sem,c7]
 have d8:E5 8=aa j:=by rw[hE5];simp only[go_sem,h8]
 clear hE5;by_cases hc:(j:Int)<x.rows.length;rotate_left
 ·refine ag _ _ _ (by rfl) ?_;simp only[go_sem,d6,d8,q0,hc];refine ag _ _ _ (by rfl) ?_;simp only[go_sem,d5,w1];exact⟨Nat.le_trans ov.next o2.next,⟨k+1,rfl,by omega,ov.trans o2⟩,by rw[h5];simp only[aa,aU];omega⟩
 obtain⟨l,hl⟩:=ay (l:=x.rows) (i:=j) (by omega);have hll:=g3 l (List.mem_of_getElem? hl);have hlg:(x.rows.map ab)[j]?=some (ab l):=by rw[List.getElem?_map,hl];rfl
 have hln:=aR hl;have w2:=IntWalk.i64_in ((j:Int)+1) (by omega);refine W.seq (ag _ _ _ (by rfl) ?_);simp only[go_sem,d6,d8,q0,hc];refine W.seq (W.block (W.seq ?_));refine W.draw 10 [0,1,0,7,15,0,32,0,224,480] Try.mixed (by kernel_rfl) (by kernel_rfl) ?_;simp only[go_sem,d6,d7,d8,q0,q1,hc,hlg,hln];refine aA.clo (DR l l (by omega) _ _ ⟨trivial,?_⟩);simp only[go_sem];refine ag _ _ _ (by rfl) ?_;simp only[go_sem];refine ag _ _ _ (by rfl) ?_;simp only[go_sem,d8,w2];exact⟨⟨j+1,rfl,by omega⟩,by rw[h8];simp only[aa,aU];omega⟩
end Go.Proofs
namespace Go.Proofs
open Go.Hx
theorem Nk {c n g:Int}{q:List Int}(hq:q≠[]):iH c n g q≠[]/\(iH c n g q).length<=q.length+1:=by
 have hl:0<q.length:=List.length_pos_iff.2 hq;have:0<(iH c n g q).length/\(iH c n g q).length<=q.length+1:=by
  unfold iH;split
  ·rw[List.length_set];omega
  ·split
   ·simp
   ·split
    ·rw[List.length_cons,List.length_replicate];omega
    ·rw[M9];omega
 exact⟨List.length_pos_iff.1 this.1,this.2⟩
theorem Nm {m:Nat}{c r n g:Int}{x:NodeP}(hx:x.parents.length<=m/\x.rows.length<=m/\∀ r∈x.rows,r≠[]/\r.length<=m):
  ((dA c r n g x).1.parents.length<=m+1/\(dA c r n g x).1.rows.length<=m+1/\∀ r'∈(dA c r n g x).1.rows,r'≠[]/\r'.length<=m+1)/\((dA c r n g x).2=ao (dA c r n g x).1.rows\/(dA c r n g x).2=bc (dA c r n g x).1)/\((¬ c=5\/x.rows=[])->(dA c r n g x).2=bc (dA c r n g x).1):=by
 obtain⟨h1,h2,h3⟩:=hx;have h3':∀ r∈x.rows,r≠[]/\r.length<=m+1:=fun r hr=>⟨(h3 r hr).1,by have:=(h3 r hr).2;omega⟩
 unfold dA;split
 ·exact⟨⟨by show x.parents.length<=_;omega,by show x.rows.length<=_;omega,h3'⟩,.inr rfl,fun _=>rfl⟩
 ·split
  ·exact⟨⟨by simp;omega,by show x.rows.length<=_;omega,h3'⟩,.inr rfl,fun _=>rfl⟩
  ·split
   ·exact⟨⟨by simp,by show x.rows.length<=_;omega,h3'⟩,.inr rfl,fun _=>rfl⟩
   ·split
    ·refine⟨⟨by show x.parents.length<=_;omega,by simp;omega,fun r hr=>?_⟩,.inr rfl,fun _=>rfl⟩;rcases List.mem_append.1 hr with h|h
     ·exact h3' r h
     ·obtain rfl:=List.mem_singleton.1 h;exact⟨by simp,by simp⟩
    ·split
     ·exact⟨⟨by show x.parents.length<=_;omega,by show x.rows.length<=_;omega,h3'⟩,.inr rfl,fun _=>rfl⟩
     ·rename_i q hq;have hql:=aG hq;split
      ·rename_i c5;refine⟨⟨by show x.parents.length<=_;omega,by simp;omega,fun r hr=>h3' r (List.mem_of_mem_take hr)⟩,.inl rfl,fun h=>?_⟩;rcases h with h|h
       ·exact absurd c5 h
       ·rw[h]at hql;simp at hql
      ·have hq2:=h3 q (List.mem_of_getElem? hq);have hrb:=Nk (c:=c) (n:=n) (g:=g) hq2.1;have hne:x.rows.set (r % (x.rows.length:Int)).toNat (iH c n g q)≠[]:=fun h=>by
        have:=congrArg List.length h;rw[List.length_set]at this;simp at this;rw[this]at hql;simp at hql
       refine⟨⟨by show x.parents.length<=_;omega,by show (x.rows.set _ _).length<=_;rw[List.length_set];omega,fun r' hr=>?_⟩,.inl rfl,fun _=>(rf (x:={ x with rows:=x.rows.set (r % (x.rows.length:Int)).toNat (iH c n g q) }) hne).symm⟩;rcases List.mem_or_eq_of_mem_set hr with h|rfl
       ·exact h3' r' h
       ·exact⟨hrb.1,by omega⟩
theorem No {ns:List NodeP}{A:Nat}{x:NodeP}(hx:ns[A]?=some x)(e:Nat->Prop):NodesQ e ns (bB ns A (aa x.card) (ab x.parents) (bc x)):=by
 have:=ud (e:=e) (x':=x) (rv:=bc x) (aG hx) (.inr rfl) fun _=>rfl;rw[jF hx]at this;exact this
theorem B7 {m A:Nat}{c r n g:Int}{ns:List NodeP}(hs:SmallN m ns):SmallN (m+1) (dX c A r n g ns).2.1/\NodesQ (fun v=>¬ c=5\/∀ x,ns[v]?=some x->x.rows=[]) (dX c A r n g ns).2.1 (dX c A r n g ns).2.2/\(dX c A r n g ns).2.1.length<=ns.length+1:=by
 have hs1:=hs.mono (Nat.le_succ m);unfold dX;split
 ·exact⟨⟨by simp,fun x hx=>by simp at hx⟩,⟨rfl,fun v x hx=>by simp at hx⟩,by simp⟩
 ·rename_i x hx;have hA:=aG hx;have hxm:=hs.node x (List.mem_of_getElem? hx);have nq:=No hx (fun v=>¬ c=5\/∀ x,ns[v]?=some x->x.rows=[]);split
  ·exact⟨hs1,nq,Nat.le_succ _⟩
  ·split
   ·refine⟨⟨by have:=hs.len;simp;omega,fun y hy=>?_⟩,nq.snoc (x:=⟨1,[],[[g]]⟩) (.inr rfl) fun _=>rfl,by simp⟩;rcases List.mem_append.1 hy with hy|hy
    ·exact hs1.node y hy
    ·obtain rfl:=List.mem_singleton.1 hy;exact⟨by simp,by simp,fun r hr=>by simp at hr;subst hr;exact⟨by simp,by simp⟩⟩
   ·split
    ·exact⟨hs1.take _,nq.take _,by simp;omega⟩
    ·obtain⟨b1,b2,b3⟩:=Nm (c:=c) (r:=r) (n:=n) (g:=g) hxm;refine⟨hs1.set b1,ud hA b2 fun he=>b3 ?_,by rw[List.length_set];exact Nat.le_succ _⟩;rcases he with he|he
     ·exact .inl he
     ·exact .inr (he x hx)
theorem Np {m:Nat}{c a n:Int}{us:List UtilP}(hu:UtilsS m us):UtilsS (m+5) (oX c a n us):=by
 have hu5:∀ u∈us,u.vars.length<=m+5/\u.w.length<=m+5:=fun u h=>by have:=hu.util u h;omega
 have hl:=hu.len;unfold oX;split
 ·exact⟨by simp,fun u h=>by rw[List.eq_of_mem_replicate h];exact⟨by simp,by simp⟩⟩
 ·rename_i u hu0;have h0:=hu.util u (List.mem_of_getElem? hu0);split
  ·refine⟨by rw[List.length_set];omega,fun u' h=>?_⟩;rcases List.mem_or_eq_of_mem_set h with h|rfl
   ·exact hu5 u' h
   ·exact⟨by simp;omega,by show u.w.length<=_;omega⟩
  ·split
   ·refine⟨by rw[List.length_set];omega,fun u' h=>?_⟩;rcases List.mem_or_eq_of_mem_set h with h|rfl
    ·exact hu5 u' h
    ·exact⟨by show u.vars.length<=_;omega,by show (u.w.set _ _).length<=_;rw[List.length_set];omega⟩
   ·refine⟨by simp;omega,fun u' h=>?_⟩;rcases List.mem_append.1 (List.mem_of_mem_take h) with h|h
    ·exact hu5 u' h
    ·rw[List.eq_of_mem_replicate h];exact⟨by simp,by simp⟩
theorem Nq {m:Nat}{w w5 a r n5 n:Int}{d:InfP}(hm:m<2 ^ 29)(hs:SmallN m d.nodes)(hu:UtilsS m d.utils)(hd:d.decs<2 ^ 64)(hdec:∀ v x,d.nodes[v]?=some x->d.decs.testBit v=true->x.rows=[]):
  InfFit (gM w w5 a r n5 n d).1/\NodesQ (fun v=>(gM w w5 a r n5 n d).1.decs.testBit v=true) (gM w w5 a r n5 n d).1.nodes (gM w w5 a r n5 n d).2/\(gM w w5 a r n5 n d).1.nodes.length<=d.nodes.length+1:=by
 have fit:∀ (g:Int) (ns:List NodeP) (D:Nat) (us:List UtilP),SmallN (m+1) ns->UtilsS (m+5) us->D<2 ^ 64->InfFit ⟨g,ns,D,us⟩:=fun g ns D us h1 h2 h3=>by
  refine⟨⟨by have:=h1.len;show (ns.length:Int)<_;omega,fun x hx=>?_⟩,h3,by have:=h2.len;show (us.length:Int)<_;omega,fun u hu=>?_⟩
  ·obtain⟨h1,h2,h3⟩:=h1.node x hx;exact⟨by omega,by omega,fun r hr=>by have:=(h3 r hr).2;omega⟩
  ·obtain⟨h1,h2⟩:=h2.util u hu;exact⟨by omega,by omega⟩
 have hu5:UtilsS (m+5) d.utils:=⟨by have:=hu.len;omega,fun u h=>by have:=hu.util u h;omega⟩
 unfold gM;split
 ·obtain⟨b1,b2,b3⟩:=B7 (m:=m) (A:=(a % (d.nodes.length:Int)).toNat) (c:=w5 % 12) (r:=r) (n:=n5) (g:=d.grain) hs;exact⟨fit _ _ _ _ b1 hu5 hd,b2.mono fun v hv=>.inr fun x hx=>hdec v x hx hv,b3⟩
 ·obtain⟨b1,b2,b3⟩:=B7 (m:=m) (A:=0) (c:=0) (r:=0) (n:=d.grain) (g:=d.grain) hs;have hbn:(dX 0 0 0 d.grain d.grain d.nodes).2.1=d.nodes:=by
   unfold dX;split
   ·rename_i h;exact(List.eq_nil_of_length_eq_zero (by have:=List.getElem?_eq_none_iff.1 h;omega)).symm
   ·rfl
  rw[hbn]at b2;refine⟨fit _ _ _ _ (hs.mono (Nat.le_succ m)) ?_ ?_,b2.mono fun v _=>.inl (by decide),Nat.le_succ _⟩
  ·split
   ·exact hu5
   ·exact Np hu
  ·split
   ·exact Nat.xor_lt_two_pow hd (by omega)
   ·exact hd
theorem Nr {d:InfP}(h:InfOk d):SmallN 1024 d.nodes/\UtilsS 1024 d.utils/\∀ v x,d.nodes[v]?=some x->d.decs.testBit v=true->x.rows=[]:=by
 have n8:=h.n.n1;have hsz:=h.net.size;rw[mo]at hsz;refine⟨⟨by omega,fun x hx=>?_⟩,⟨by have:=h.utils.1;omega,fun u hu=>?_⟩,fun v x hx hb=>(h.n.dec v x hx hb).1⟩
 ·obtain⟨v,hv⟩:=List.mem_iff_getElem?.1 hx;have hn:=h.net.node _ (List.mem_of_getElem? (gT (c:=fun _ _=>0) hv));have hr:=h.net.rows _ (List.mem_of_getElem? (gT (c:=fun _ _=>0) hv));rw[(j9 ..).1,(j9 ..).2,dV]at hn;unfold fE at hr;rw[uU]at hr;have hpl:=uH n8.2 hn.2 h.n.card;refine⟨by omega,?_⟩;by_cases hb:d.decs.testBit v=true
  ·rw[(h.n.dec v x hv hb).1];exact⟨by simp,fun r hr=>by cases hr⟩
  ·rw[kj hb]at hr;have:=ry hn.2 h.n.card;refine⟨by omega,fun r hr'=>?_⟩;have:=(hr.2 r hr').1;exact⟨fun e=>by rw[e]at this;simp at this;omega,by omega⟩
 ·have hu':=h.utils.2 u hu;have:=uH n8.2 hu'.vars h.n.card;have h2:=ry (x:=⟨0,u.vars,[]⟩) hu'.vars h.n.card;have h3:=hu'.size;have e:aQ d.nodes ⟨0,u.vars,[]⟩=aL (aq d.nodes) u.vars:=rfl;rw[e]at h2;omega
end Go.Proofs
namespace Go.Hx
variable {P:Program} {G:Nat->Option (List AVal)}
def AHeap.mB (H:AHeap)(n:Nat):AHeap:=⟨fun id=>if n<=id then none else H.get id,H.next⟩
theorem Sg {H:AHeap}{n id:Nat}(h:id<n):(H.mB n).get id=H.get id:=by simp [AHeap.mB,Nat.not_le.2 h]
theorem cK.Sh (hG:eo G){s:St}{n t0:Nat}{v':AVal}(h:Fz (fun id=>n<=id) s.H s.H.next (s.ρ t0) v'):cK P G s ⟨fun t=>if t=t0 then v' else s.ρ t,s.H.mB n⟩:=by
 intro n' wb Γ a w hs;have hc:=hs.heap.clo;refine cK.freeze (s:=s) (s':=⟨fun t=>if t=t0 then v' else s.ρ t,s.H.mB n⟩) (S:=fun id=>n<=id) hG ⟨fun id hs=>by simp [AHeap.mB,hs],fun id b hs hb=>⟨hc.lt id b hb,b,by simp [AHeap.mB,hs,hb],?_⟩,fun id hs hb=>by simp [AHeap.mB,hs,hb]⟩ (fun t=>?_) n' wb Γ a w hs
 ·have hbb:=hc.below id b hb;cases b with
  | rsv=>trivial
  | mp=>rfl
  | arr g e cells=>exact⟨rfl,rfl,rfl,fun i h _=>.dead (hbb i h)⟩
  | loop st pend n env ps asg body=>exact⟨rfl,rfl,rfl,rfl,rfl,rfl,rfl,fun t ht=>.dead (hbb t ht)⟩
 ·by_cases e:t=t0
  ·subst e;simp only[if_true];exact h
  ·simp only[if_neg e];exact .dead (hs.env t).mR
end Go.Hx
namespace Go.Proofs
open Go.Hx
theorem zp {f:FuncId}{H:AHeap}{K:ARes->AHeap->Prop}(d:InfP)(cs:List AVal){e:Nat->Prop}(hq:NodesQ e d.nodes cs)(p:List (List Int))(h:ae Try.prog G0 f [jv d,ao p] H K):ae Try.prog G0 f [fC d cs,ao p] H K :=
 ae.yB (args':=[jv d,ao p]) aF rfl (fun i hi _=>match i,hi with
  | 0,_=>.agg rfl fun j hj _=>match j,hj with
   | 0,_=>.lit _
   | 1,_=>.vec (by rw[hq.len,gv]) fun i h h'=>hq.uC i h h'
   | 2,_=>.lit _
   | 3,_=>.vec rfl fun i h _=>CO _ _ (List.getElem_mem h)
  | 1,_=>yC p) h
structure Small4 (p:List (List Int)):Prop where
 len:p.length<=8
 row:∀ r∈p,r.length<=1024
theorem Small4.fit {p:List (List Int)}(h:Small4 p):pB p:=⟨by have:=h.len;omega,fun r hr=>by have:=h.row r hr;omega⟩
set_option maxHeartbeats 8000000 in
theorem Si (d:D20)(hd:d.Ok)(w w5 a r n5 n0:Int)(hw:0<=w/\w<=255)(hw5:0<=w5/\w5<=255)(ha:0<=a/\a<=255)(hr:0<=r/\r<=255)(bs:List Int)(hbl:(bs.length:Int)<2 ^ 63)(hb8:∀ x∈bs,U8 x)(at' n:Int)(hat:0<=at'/\at'<=255)
  (raw:List (List Int)) (hraw:(raw.length:Int)<2 ^ 63) (hrr:∀ r∈raw,(r.length:Int)<2 ^ 63) (H:AHeap) (K:ARes->AHeap->Prop) (hK:∀ H',H.next<=H'.next->K (.ret (.lit (.bool true))) H'):
  ae Try.prog G0 4 [.agg d.cells,.agg (qR w (jt w5 a r n5) n0),.vec bs.length (bC bs),.lit (.int .u8 at'),.lit (.int .i64 n),ao raw] H K:=by
 refine ae.jK (n:=141) (rs:=[.tmp 12]) Try.func4 rfl rfl rfl (by decide) (by simp) ?_;refine W.seq (ag _ _ _ (by rfl) ?_);simp only[go_sem,D20.cells,qR,jt];obtain⟨H1,hH1⟩:∃ H1,H1=ext H [.arr 0 28 [.lit (.int .u8 d.g),.vec d.ps.length (d9 d.ps),.vec d.ord.length (bC d.ord),.lit (.int .u8 d.decs),.lit (.bool d.rem),.vec d.us.length (jC d.us)],.arr 0 32 [.lit (.int .u8 w),.lit (.int .u8 w5),.lit (.int .u8 a),.lit (.int .u8 r),.lit (.int .i64 n5),.lit (.int .i64 n0)]]:=⟨_,rfl⟩
 have g0:H1.get H.next=some (.arr 0 28 [.lit (.int .u8 d.g),.vec d.ps.length (d9 d.ps),.vec d.ord.length (bC d.ord),.lit (.int .u8 d.decs),.lit (.bool d.rem),.vec d.us.length (jC d.us)]):=by rw[hH1];exact br ..
 have g1:H1.get (H.next+1)=some (.arr 0 32 [.lit (.int .u8 w),.lit (.int .u8 w5),.lit (.int .u8 a),.lit (.int .u8 r),.lit (.int .i64 n5),.lit (.int .i64 n0)]):=by rw[hH1];exact bu H _ 1 (by simp)
 have n1:H1.next=H.next+2:=by rw[hH1];rfl
 rw[<- hH1];clear hH1;have l0:=ah g0;have l1:=ah g1;refine W.env fun E hE=>?_;have e2:E 2=.vec bs.length (bC bs):=by rw[hE];simp only[go_sem]
 have e3:E 3=.lit (.int .u8 at'):=by rw[hE];simp only[go_sem]
 have e4:E 4=.lit (.int .i64 n):=by rw[hE];simp only[go_sem]
 have e5:E 5=ao raw:=by rw[hE];simp only[go_sem]
 have e6:E 6=.ptr H.next 0 0:=by rw[hE];simp only[go_sem]
 have e7:E 7=.ptr (H.next+1) 0 0:=by rw[hE];simp only[go_sem]
 clear hE;refine W.seq (ag _ _ _ (by rfl) ?_);simp only[go_sem,e6,l0];refine aA.clo (PM d hd _ _ fun x hx=>⟨trivial,?_⟩);have hok:=hx.ok;have hf:=PX hok;have n8:=hok.n.n1;have h6:x.nodes.length<=6:=by have:=hx.n5;omega
 simp only[go_sem,Dk,uM];obtain⟨H2,hH2⟩:∃ H2,H2=ext H1 [.arr 0 39 [.lit (.int .i64 x.grain),.vec x.nodes.length (aV x.nodes),.lit (.int .u64 (x.decs:Int)),.vec x.utils.length (aO x.utils)]]:=⟨_,rfl⟩
 have k2:H2.get (H.next+2)=some (.arr 0 39 [.lit (.int .i64 x.grain),.vec x.nodes.length (aV x.nodes),.lit (.int .u64 (x.decs:Int)),.vec x.utils.length (aO x.utils)]):=by rw[hH2,<- n1];exact bY
 have k1:H2.get (H.next+1)=_:=(by rw[hH2];exact dz (by omega):H2.get (H.next+1)=H1.get (H.next+1)).trans g1;have n2:H2.next=H.next+3:=by rw[hH2,bn];simp;omega
 rw[<- hH2];clear hH2 g0 l0 l1 g1;have l2:=ah k2;refine W.seq (ag _ _ _ (by rfl) ?_);simp only[go_sem,e2,n1,l2];refine aA.clo (PU x hf hok bs hbl hb8 _ _ fun p hp=>⟨trivial,?_⟩);have hpf:=CZ hok hp;have hpe:=C0 hok hp;simp only[go_sem];refine W.env fun E1 hE1=>?_;have f3:E1 3=.lit (.int .u8 at'):=by rw[hE1];simp only[go_sem,e3]
 have f4:E1 4=.lit (.int .i64 n):=by rw[hE1];simp only[go_sem,e4]
 have f5:E1 5=ao raw:=by rw[hE1];simp only[go_sem,e5]
 have f7:E1 7=.ptr (H.next+1) 0 0:=by rw[hE1];simp only[go_sem,e7]
 have f13:E1 13=.ptr (H.next+2) 0 0:=by rw[hE1];simp only[go_sem]
 have f14:E1 14=ao p:=by rw[hE1];simp only[go_sem]
 clear hE1 e2 e3 e4 e5 e6 e7
  -- the policy with one number replaced
 have hp8:p.length<=8:=by rw[hp.len];have:(ba x).length<=x.nodes.length:=kV;omega
 have hprow:∀ r∈p,0<r.length/\r.length<=1024:=fun r hr=>by
  obtain⟨k,hk⟩:=List.mem_iff_getElem?.1 hr;have h1:=aG hk;rw[hp.len]at h1;obtain⟨v,hv⟩:=ay h1;obtain⟨v1,v2,v3⟩:=j8 hv;obtain⟨y,hy⟩:=ay (l:=x.nodes) (i:=v) v1;have h2:=(hp.row k v y r hv hy hk).1;have h3:=B9 hok _ (List.mem_of_getElem? (NH hv));unfold gR at h3;rw[hy]at h3;simp only at h3;omega
 obtain⟨A,hA⟩:∃ A:Nat,A=(at' % ((bJ p).length:Int)).toNat:=⟨_,rfl⟩
 have hfl:=zn p;have hrl:∀ r∈p,(r.length:Int)<2 ^ 63:=fun r hr=>by have:=(hprow r hr).2;omega
 refine W.seq (ag _ _ _ (by rfl) ?_);simp only[go_sem,f14];refine aA.clo (Se p (by omega) hrl A (fun r _ h=>(hprow r (List.mem_of_getElem? h)).1) _ _ fun bv wv H3 o3 hO hW=>⟨trivial,?_⟩);have n3:=o3.next;have bv1:=hO.one;have bvc:=hO.cells;simp only[go_sem];refine W.env fun E3 hE3=>?_;have g3:E3 3=.lit (.int .u8 at'):=by rw[hE3];simp only[go_sem,f3]
 have g4:E3 4=.lit (.int .i64 n):=by rw[hE3];simp only[go_sem,f4]
 have g5:E3 5=ao raw:=by rw[hE3];simp only[go_sem,f5]
 have g7:E3 7=.ptr (H.next+1) 0 0:=by rw[hE3];simp only[go_sem,f7]
 have g13:E3 13=.ptr (H.next+2) 0 0:=by rw[hE3];simp only[go_sem,f13]
 have g14:E3 14=ao p:=by rw[hE3];simp only[go_sem,f14]
 have g15:E3 15=bv:=by rw[hE3];simp only[go_sem]
 clear hE3 f3 f4 f5 f7 f13 f14;refine W.seq ?_;refine W.kv (Q':=fun e s2=>e=.normal/\∃ q,Small4 q/\Fz (fun id=>H2.next<=id) s2.H s2.H.next (s2.ρ 15) (ao q)/\s2.ρ 5=ao raw/\s2.ρ 7=.ptr (H.next+1) 0 0/\s2.ρ 13=.ptr (H.next+2) 0 0/\s2.ρ 14=ao p/\H2.next<=s2.H.next/\∀ i,i<H2.next->s2.H.get i=H2.get i) ?_ ?_;rotate_left
 ·rintro e s2 ⟨rfl,q,hq,hfz,b5,b7,b13,b14,b1,b2⟩;refine⟨_,cK.Sh aF hfz,Nat.le_refl _,trivial,?_⟩;obtain⟨Hr,hHr⟩:∃ Hr,Hr=s2.H.mB H2.next:=⟨_,rfl⟩
  have nr:H2.next<=Hr.next:=by rw[hHr];exact b1
  have ro:∀ i,i<H2.next->Hr.get i=H2.get i:=fun i h=>by rw[hHr,Sg h];exact b2 i h
  refine W.env fun E2 hE2=>?_;have c5:E2 5=ao raw:=by rw[hE2];simpa using b5
  have c7:E2 7=.ptr (H.next+1) 0 0:=by rw[hE2];simpa using b7
  have c13:E2 13=.ptr (H.next+2) 0 0:=by rw[hE2];simpa using b13
  have c14:E2 14=ao p:=by rw[hE2];simpa using b14
  have c15:E2 15=ao q:=by rw[hE2];simp
  clear hE2 hfz b5 b7 b13 b14;rw[<- hHr];clear hHr;have m1:=ah ((ro (H.next+1) (by omega)).trans k1);have m2:=ah ((ro (H.next+2) (by omega)).trans k2);obtain⟨hsx,hub,hdx⟩:=Nr hok;obtain⟨y0,cs0,hB⟩:∃ y0 cs0,(y0,cs0)=gM w w5 a r n5 n0 x:=⟨_,_,rfl⟩
  obtain⟨yf,yq,yl⟩:=Nq (w:=w) (w5:=w5) (a:=a) (r:=r) (n5:=n5) (n:=n0) (m:=1024) (by omega) hsx hub hf.decs hdx;rw[<- hB]at yf yq yl;simp only at yf yq yl;refine W.seq (W.seq ?_);refine W.draw 6 [0,0,0,6,15,0] Try.mixed (by kernel_rfl) (by kernel_rfl) ?_;simp only[go_sem,c7,c13,m1,m2];refine⟨fC y0 cs0,[],bD.pure fun H9=>Nj w w5 a r n5 n0 hw hw5 ha hr x (aV x.nodes) (yp (fun _=>True) x.nodes) 1024 (by omega) hsx hub hf.decs hdx H9 _ fun y cs hy _ _ _=>by rw[<- hB]at hy;cases hy;exact⟨rfl,rfl⟩,?_⟩;simp only[go_sem,jb,il];have hsr:Small4 (bJ raw):=⟨by have:=(rS raw).1;omega,fun r hr=>by have:=(rS raw).2 r hr;omega⟩
  have hsp:Small4 p:=⟨hp8,fun r hr=>(hprow r hr).2⟩
  refine W.env fun E4 hE4=>?_;have h5:E4 5=ao raw:=by rw[hE4];simp only[go_sem,c5]
  have h14:E4 14=ao p:=by rw[hE4];simp only[go_sem,c14]
  have h15:E4 15=ao q:=by rw[hE4];simp only[go_sem,c15]
  have h72:E4 72=.agg [.lit (.int .i64 x.grain),.vec x.nodes.length (aV x.nodes),.lit (.int .u64 (x.decs:Int)),.vec x.utils.length (aO x.utils),.lit (.int .i64 y0.grain),.vec y0.nodes.length cs0,.lit (.int .u64 (y0.decs:Int)),.vec y0.utils.length (aO y0.utils)]:=by rw[hE4];simp only[go_sem]
  have h73:E4 73=aa 0:=by rw[hE4];simp only[go_sem]
  clear hE4 c5 c7 c13 c14 c15;refine W.block ?_;refine W.aK 1393796574908163946336537659074783839784960 (by rfl) (fun ρ Hx=>∃ k:Nat,ρ 73=aa k/\k<=2/\Hr.next<=Hx.next) (fun ρ Hx=>2 - (iv (ρ 73)).toNat) ?_ ?_
  ·simp only[go_sem,h73];exact⟨0,rfl,by omega⟩
  rintro ρ5 Hx ⟨k,hk,hk2,nx⟩;refine W.env fun E5 hE5=>?_;have i5:E5 5=ao raw:=by rw[hE5];simp only[go_sem,h5]
  have i14:E5 14=ao p:=by rw[hE5];simp only[go_sem,h14]
  have i15:E5 15=ao q:=by rw[hE5];simp only[go_sem,h15]
  have i72:=(show E5 72=E4 72 by rw[hE5];simp only[go_sem]).trans h72;have i73:E5 73=aa k:=by rw[hE5];simp only[go_sem,hk]
  clear hE5;by_cases hkb:(k:Int)<2;rotate_left
  ·refine ag _ _ _ (by rfl) ?_;simp only[go_sem,i73,hkb];refine ag _ _ _ (by rfl) ?_;simp only[go_sem];refine aA.clo (SG _ _ ⟨trivial,?_⟩);simp only[go_sem];exact aw.mk (by omega) (hK _ (by omega))
  refine W.seq (ag _ _ _ (by rfl) ?_);simp only[go_sem,i73,hkb];refine W.seq (ag _ _ _ (by rfl) ?_);simp only[go_sem];refine W.seq (W.block ?_);refine W.iG (fun s'=>s'.ρ 5=ao raw/\s'.ρ 14=ao p/\s'.ρ 15=ao q/\s'.ρ 72=E5 72/\s'.ρ 73=aa k/\s'.ρ 18=.ptr Hx.next 0 0/\s'.H.next=Hx.next+1/\∃ (y:InfP) (cs:List AVal),InfFit y/\NodesQ (fun v=>y.decs.testBit v=true) y.nodes cs/\y.nodes.length<=6/\s'.H.get Hx.next=some (.arr 0 39 [.lit (.int .i64 y.grain),.vec y.nodes.length cs,.lit (.int .u64 (y.decs:Int)),.vec y.utils.length (aO y.utils)])) ?_ ?_
  ·have hk01:k=0\/k=1:=(by omega);refine ag _ _ _ (by rfl) ?_;rcases hk01 with rfl|rfl
   ·simp only[go_sem,i5,i14,i15,i72,i73];exact⟨x,aV x.nodes,hf,yp _ _,h6,bY⟩
   ·simp only[go_sem,i5,i14,i15,i72,i73];exact⟨y0,cs0,yf,yq,by have:=hx.n5;omega,bY⟩
  rintro⟨ρ6,Ha⟩ ⟨j5,j14,j15,j72,j73,j18,na,y,cs,hyf,hyq,hy6,ga⟩;simp only at j5 j14 j15 j72 j73 j18 na ga;clear i5 i14 i15 i72 i73 h72;refine W.seq (ag _ _ _ (by rfl) ?_);simp only[go_sem,j5,j14,j15];refine aA.clo (Sd raw hraw hrr _ _ ⟨trivial,?_⟩);simp only[go_sem];refine W.env fun E6 hE6=>?_;have a18:E6 18=.ptr Hx.next 0 0:=by rw[hE6];simp only[go_sem,j18]
  have a73:E6 73=aa k:=by rw[hE6];simp only[go_sem,j73]
  have a80:E6 80=.agg [ao p,ao q,ao (bJ raw)]:=by rw[hE6];simp only[go_sem]
  have a81:E6 81=aa 0:=by rw[hE6];simp only[go_sem]
  clear hE6;refine W.block ?_;refine W.aK 696898287454081970755139556791003483475968 (by rfl) (fun ρ Hy=>∃ m:Nat,ρ 81=aa m/\m<=3/\Ha.next<=Hy.next/\Hy.get Hx.next=Ha.get Hx.next) (fun ρ Hx=>3 - (iv (ρ 81)).toNat) ?_ ?_
  ·simp only[go_sem,a81];exact⟨0,rfl,by omega⟩
  rintro ρ7 Hy ⟨m,hm,hm3,ny,gy⟩;rw[ga]at gy;refine W.env fun E7 hE7=>?_;have b18:E7 18=.ptr Hx.next 0 0:=by rw[hE7];simp only[go_sem,a18]
  have b73:E7 73=aa k:=by rw[hE7];simp only[go_sem,a73]
  have b80:=(show E7 80=E6 80 by rw[hE7];simp only[go_sem]).trans a80;have b81:E7 81=aa m:=by rw[hE7];simp only[go_sem,hm]
  clear hE7;by_cases hmb:(m:Int)<3;rotate_left
  ·refine ag _ _ _ (by rfl) ?_;simp only[go_sem,b81,hmb];have wk:=IntWalk.i64_in ((k:Int)+1) (by omega);refine ag _ _ _ (by rfl) ?_;simp only[go_sem,b73,wk];exact⟨by omega,⟨k+1,rfl,by omega,by omega⟩,by rw[hk];simp only[aa,aU];omega⟩
  refine W.seq (ag _ _ _ (by rfl) ?_);simp only[go_sem,b81,hmb];refine W.seq (ag _ _ _ (by rfl) ?_);simp only[go_sem];refine W.seq (W.block ?_);refine W.iG (fun s'=>s'.H=Hy/\s'.ρ 18=.ptr Hx.next 0 0/\s'.ρ 73=aa k/\s'.ρ 80=E7 80/\s'.ρ 81=aa m/\∃ pp,Small4 pp/\s'.ρ 20=ao pp) ?_ ?_
  ·have hm012:m=0\/m=1\/m=2:=(by omega);refine ag _ _ _ (by rfl) ?_;rcases hm012 with rfl|rfl|rfl
   ·simp only[go_sem,b18,b73,b80,b81];exact⟨p,hsp,rfl⟩
   ·simp only[go_sem,b18,b73,b80,b81];exact⟨q,hq,rfl⟩
   ·simp only[go_sem,b18,b73,b80,b81];exact⟨bJ raw,hsr,rfl⟩
  rintro⟨ρ8,Hq⟩ ⟨hH,d18,d73,d80,d81,pp,hpp,d20⟩;simp only at hH d18 d73 d80 d81 d20;rw[hH];clear hH Hq b18 b73 b80 b81;have hppf:=hpp.fit;have ly:=ah gy;obtain⟨pe,hpe2⟩:∃ pe,pe=dI y pp:=⟨_,rfl⟩
  refine W.seq (ag _ _ _ (by rfl) ?_);simp only[go_sem,d18,d20,ly];refine aA.clo (zp y cs hyq pp (DL y hyf pp hppf _ _ ⟨trivial,?_⟩));rw[<- hpe2];simp only[go_sem];obtain⟨g1,ns1,hfx,hnf,hz0,hz1⟩:∃ g1 ns1,nC y pp=bj g1 ns1/\mu ns1/\(pe=0->g1=y.grain/\ns1=bF y (fixC pp))/\(¬ pe=0->g1=0/\ns1=[]):=by
   unfold nC;rw[hpe2];by_cases hz:dI y pp=0
   ·rw[if_pos hz];exact⟨_,_,rfl,DK hyf (uW.1 hz).1.n _,fun _=>⟨rfl,rfl⟩,fun h=>absurd hz h⟩
   ·rw[if_neg hz];exact⟨0,[],rfl,⟨by simp,fun x hx=>by simp at hx⟩,fun h=>absurd h hz,fun _=>⟨rfl,rfl⟩⟩
  obtain⟨q1,q2,hvx,hq1⟩:∃ q1 q2,im y pp=.agg [.lit (.int .i64 q1),.lit (.int .i64 q2)]/\(¬ pe=0->q1=0/\q2=0):=by
   unfold im;rw[hpe2];by_cases hz:dI y pp=0
   ·rw[if_pos hz];exact⟨_,_,rfl,fun h=>absurd hz h⟩
   ·rw[if_neg hz];exact⟨_,_,rfl,fun _=>⟨rfl,rfl⟩⟩
  refine W.env fun E8 hE8=>?_;have k18:E8 18=.ptr Hx.next 0 0:=by rw[hE8];simp only[go_sem,d18]
  have k20:E8 20=ao pp:=by rw[hE8];simp only[go_sem,d20]
  have k21:E8 21=aa pe:=by rw[hE8];simp only[go_sem]
  have k73:E8 73=aa k:=by rw[hE8];simp only[go_sem,d73]
  have k80:=(show E8 80=ρ8 80 by rw[hE8];simp only[go_sem]).trans d80;have k81:E8 81=aa m:=by rw[hE8];simp only[go_sem,d81]
  clear hE8 d18 d20 d73 d80 d81;refine W.seq (ag _ _ _ (by rfl) ?_);simp only[go_sem,k18,k20,ly];refine aA.clo (zp y cs hyq pp (DN y hyf pp hppf _ _ ⟨trivial,?_⟩));rw[<- hpe2,hfx];simp only[go_sem,bj,bO];obtain⟨Hc,hHc⟩:∃ Hc,Hc=ext Hy [.arr 0 64 [.lit (.int .i64 g1),.vec ns1.length (aD ns1)]]:=⟨_,rfl⟩
  have gc1:Hc.get Hy.next=some (.arr 0 64 [.lit (.int .i64 g1),.vec ns1.length (aD ns1)]):=by rw[hHc];exact bY
  have gc0:Hc.get Hx.next=_:=(by rw[hHc];exact dz (by omega):Hc.get Hx.next=Hy.get Hx.next).trans gy;have nc:Hc.next=Hy.next+1:=by rw[hHc];rfl
  rw[<- hHc];clear hHc;have lc:=ah gc0;refine W.seq (ag _ _ _ (by rfl) ?_);simp only[go_sem,k18,k20,lc];refine aA.clo (zp y cs hyq pp (rC y hyf pp hppf (C6 hy6 pp) _ _ ⟨trivial,?_⟩));rw[<- hpe2,hvx];simp only[go_sem];refine W.seq (ag _ _ _ (by rfl) ?_);simp only[go_sem];refine W.seq (ag _ _ _ (by rfl) ?_);simp only[go_sem];refine W.seq (ag _ _ _ (by rfl) ?_);simp only[go_sem];obtain⟨Hd,hHd⟩:∃ Hd,Hd=ext Hc [.arr 0 68 [.lit (.int .i64 q1),.lit (.int .i64 q2)],.arr 0 64 [.lit (.int .i64 0),.lit (.slice none 0 0)],.arr 0 68 [.lit (.int .i64 0),.lit (.int .i64 0)]]:=⟨_,rfl⟩
  have gd2:Hd.get Hc.next=some (.arr 0 68 [.lit (.int .i64 q1),.lit (.int .i64 q2)]):=by rw[hHd];exact br ..
  have gd3:Hd.get (Hc.next+1)=some (.arr 0 64 [.lit (.int .i64 0),.lit (.slice none 0 0)]):=by rw[hHd];exact bu Hc _ 1 (by simp)
  have gd4:Hd.get (Hc.next+2)=some (.arr 0 68 [.lit (.int .i64 0),.lit (.int .i64 0)]):=by rw[hHd];exact bu Hc _ 2 (by simp)
  have od:Over Hc Hd:=by rw[hHd];exact .ext _ _
  have nd:Hd.next=Hy.next+4:=by rw[hHd,bn];simp;omega
  have gd0:=(od.old _ (by omega)).trans gc0;have gd1:=(od.old _ (by omega)).trans gc1;rw[<- hHd];clear hHd od gc0 gc1 lc;have ld0:=ah gd0;have ld3:=ah gd3;have ld4:=ah gd4;refine W.env fun E9 hE9=>?_;have o18:E9 18=.ptr Hx.next 0 0:=by rw[hE9];simp only[go_sem,k18]
  have o20:E9 20=ao pp:=by rw[hE9];simp only[go_sem,k20]
  have o21:E9 21=aa pe:=by rw[hE9];simp only[go_sem,k21]
  have o22:E9 22=.ptr Hy.next 0 0:=by rw[hE9];simp only[go_sem]
  have o23:E9 23=aa pe:=by rw[hE9];simp only[go_sem]
  have o24:E9 24=.ptr Hc.next 0 0:=by rw[hE9];simp only[go_sem]
  have o25:E9 25=aa pe:=by rw[hE9];simp only[go_sem]
  have o26:E9 26=.ptr (Hc.next+1) 0 0:=by rw[hE9];simp only[go_sem]
  have o27:E9 27=.ptr (Hc.next+2) 0 0:=by rw[hE9];simp only[go_sem]
  have o28:E9 28=aa 0:=by rw[hE9];simp only[go_sem]
  have o73:E9 73=aa k:=by rw[hE9];simp only[go_sem,k73]
  have o81:E9 81=aa m:=by rw[hE9];simp only[go_sem,k81]
  clear hE9 k18 k20 k21 k73 k81;refine W.iG (fun s'=>s'.ρ 18=.ptr Hx.next 0 0/\s'.ρ 21=aa pe/\s'.ρ 22=.ptr Hy.next 0 0/\s'.ρ 23=aa pe/\s'.ρ 24=.ptr Hc.next 0 0/\s'.ρ 25=aa pe/\s'.ρ 26=.ptr (Hc.next+1) 0 0/\s'.ρ 27=.ptr (Hc.next+2) 0 0/\s'.ρ 28=aa pe/\s'.ρ 73=aa k/\s'.ρ 81=aa m/\s'.H.next=Hd.next/\(∀ i,i<Hc.next+1->s'.H.get i=Hd.get i)/\(∃ nv,s'.H.get (Hc.next+1)=some (.arr 0 64 [.lit (.int .i64 g1),nv])/\(nv=.vec ns1.length (aD ns1)\/nv=.lit (.slice none 0 0)/\ns1=[]))/\s'.H.get (Hc.next+2)=some (.arr 0 68 [.lit (.int .i64 q1),.lit (.int .i64 q2)])) ?_ ?_
  ·refine W.block ?_;by_cases hok1:InfOk y;rotate_left
   ·have hp200:pe=200:=(by rw[hpe2];unfold dI;rw[fD hok1];rfl);obtain⟨z1,z2⟩:=hz1 (by omega);obtain⟨z3,z4⟩:=hq1 (by omega);refine W.seq (ag _ _ _ (by rfl) ?_);simp only[go_sem,o18,ld0];refine aA.clo (Eg y cs hyq hyf _ _ ⟨trivial,?_⟩);rw[fD hok1];simp only[go_sem];refine W.cond (t:=true) rfl ?_;refine ag _ _ _ (by rfl) ?_;simp only[go_sem,o18,o21,o22,o23,o24,o25,o26,o27,o73,o81,hp200];exact⟨⟨_,by rw[z1];exact gd3,.inr ⟨rfl,z2⟩⟩,by rw[z3,z4];exact gd4⟩
   refine W.seq (ag _ _ _ (by rfl) ?_);simp only[go_sem,o18,ld0];refine aA.clo (Eg y cs hyq hyf _ _ ⟨trivial,?_⟩);rw[eF hok1];simp only[go_sem];refine W.cond (t:=false) rfl ?_;by_cases hok2:PolOk y pp;rotate_left
   ·have hp201:pe=201:=(by rw[hpe2];unfold dI;rw[eF hok1,fD hok2];rfl);obtain⟨z1,z2⟩:=hz1 (by omega);obtain⟨z3,z4⟩:=hq1 (by omega);refine W.seq (ag _ _ _ (by rfl) ?_);simp only[go_sem,o18,o20,ld0];refine aA.clo (Ei y cs hyq hyf hok1 pp hppf _ _ ⟨trivial,?_⟩);rw[fD hok2];simp only[go_sem];refine W.cond (t:=true) rfl ?_;refine ag _ _ _ (by rfl) ?_;simp only[go_sem,o18,o21,o22,o23,o24,o25,o26,o27,o73,o81,hp201];exact⟨⟨_,by rw[z1];exact gd3,.inr ⟨rfl,z2⟩⟩,by rw[z3,z4];exact gd4⟩
   have hp0:pe=0:=(by rw[hpe2];exact uW.2 ⟨hok1,hok2⟩);obtain⟨z1,z2⟩:=hz0 hp0;refine W.seq (ag _ _ _ (by rfl) ?_);simp only[go_sem,o18,o20,ld0];refine aA.clo (Ei y cs hyq hyf hok1 pp hppf _ _ ⟨trivial,?_⟩);rw[eF hok2];simp only[go_sem];refine W.cond (t:=false) rfl ?_;refine W.draw 5 [0,0,3,0,0] Try.mixed (by kernel_rfl) (by kernel_rfl) ?_;simp only[go_sem,o18,o20,ld0];refine⟨bj y.grain (bF y (fixC pp)),[],bD.pure fun H9=>Ej y cs hyq hyf hok1 pp hok2 H9 _ ⟨rfl,rfl⟩,?_⟩;simp only[go_sem,bj,bO];refine aA.clo (R8 y cs hyq hyf hok1 hy6 pp hok2 _ _ ⟨trivial,?_⟩);rw[hvx];have ld5:∀ b,(Hd.upd (Hc.next+1) b).live (Hc.next+2) 0=_:=fun b=>ah ((show (Hd.upd (Hc.next+1) b).get (Hc.next+2)=Hd.get (Hc.next+2) by rw[af,if_neg (by omega)]).trans gd4);simp only[go_sem,ld5,o18,o20,o21,o22,o23,o24,o25,o26,o27,o28,o73,o81,ld3];refine⟨by rw[hp0],by rw[aC,aC],fun i hi=>by rw[af,if_neg (by omega),af,if_neg (by omega)],⟨.vec ns1.length (aD ns1),by rw[af,if_neg (by omega),af,if_pos rfl,z1,z2],.inl rfl⟩,by rw[af,if_pos rfl]⟩
  rintro⟨ρ9,Hf⟩ ⟨p18,p21,p22,p23,p24,p25,p26,p27,p28,p73,p81,nf,of,⟨nv,gf3,hnv⟩,gf4⟩;simp only at p18 p21 p22 p23 p24 p25 p26 p27 p28 p73 p81 nf of gf3 gf4;clear o18 o20 o21 o22 o23 o24 o25 o26 o27 o28 o73 o81;have lf1:=ah ((of Hy.next (by omega)).trans gd1);have lf2:=ah ((of Hc.next (by omega)).trans gd2);have lf3:=ah gf3;have lf4:=ah gf4;have nq:∀ o1 o2,bh Try.prog .neq 68 o1 o2 (.agg [.lit (.int .i64 q1),.lit (.int .i64 q2)]) (.agg [.lit (.int .i64 q1),.lit (.int .i64 q2)])=some (.lit (.bool false)):=fun o1 o2=>by rw[NG];simp
  refine W.seq (ag _ _ _ (by rfl) ?_);simp only[go_sem,p21,p22,p23,p24,p25,p26,p27,p28,lf1,lf2,lf3,lf4,nq];refine aA.clo (ae.yB (args':=[bj g1 ns1,bj g1 ns1]) aF rfl (fun i hi _=>?_) (Sf g1 ns1 hnf _ _ ⟨trivial,?_⟩))
  ·match i,hi with
   | 0,_ =>
    refine .agg rfl fun j hj _=>?_
    match j,hj with
    | 0,_=>exact .lit _
    | 1,_=>exact nE ns1
   | 1,_ =>
    refine .agg rfl fun j hj _=>?_
    match j,hj with
    | 0,_=>exact .lit _
    | 1,_ =>
     rcases hnv with rfl|⟨rfl,rfl⟩
     ·exact nE ns1
     ·exact .nil
  simp only[go_sem];refine W.cond (t:=false) rfl ?_;have wm:=IntWalk.i64_in ((m:Int)+1) (by omega);refine ag _ _ _ (by rfl) ?_;simp only[go_sem];refine ag _ _ _ (by rfl) ?_;simp only[go_sem,p81,wm];exact⟨by omega,⟨m+1,rfl,by omega,by omega,by rw[of _ (by omega),gd0,ga]⟩,by rw[hm];simp only[aa,aU];omega⟩
 have hsm:Small4 (bJ p):=⟨by rw[hfl];omega,fun r hr=>by have:=(rS p).2 r hr;omega⟩
 have hcln:(fF p A (bJ p).length wv).length=(bJ p).length:=by unfold fF;rw[List.length_set,List.take_length,List.length_map]
 have hbl0:eY H3 bv=some (aa (bJ p).length):=by
  rcases hO with ⟨h1,h2⟩|⟨i,g',_,_,h1,h2⟩
  ·have:(bJ p).length=0:=(by rw[<- hcln,h2];rfl);rw[h1,this];rfl
  ·rw[h1];unfold eY;simp [ah h2,hcln,aa]
 by_cases hl0:(bJ p).length=0
 ·have hli:((bJ p).length:Int)=0:=by omega
  refine W.seq (ag _ _ _ (by rfl) ?_);simp only[go_sem,g15,hbl0,hl0];refine ag _ _ _ (by rfl) ?_;simp only[go_sem];refine⟨bJ p,hsm,?_,g5,g7,g13,g14,n3,o3.old⟩;have e0:bJ p=[]:=List.eq_nil_of_length_eq_zero hl0;have:=qM (S:=fun i=>H2.next<=i) (nx:=H3.next) (cs':=[]) hO (fun i _ h _ _=>h) (by rw[hcln,e0];rfl) fun i hi _=>absurd hi (by rw[hcln];omega);rw[e0,g15];exact this
 have hl1:0<(bJ p).length:=by omega
 have hl1i:(0:Int)<(bJ p).length:=by omega
 have hl1n:¬ ((bJ p).length:Int)=0:=by omega
 have hAe:Int.tmod at' (bJ p).length=A:=by rw[Int.tmod_eq_emod_of_nonneg hat.1];have:=Int.emod_nonneg at' hl1n;omega
 have hAl:A<(bJ p).length:=by have:=Int.emod_lt_of_pos at' hl1i;have:=Int.emod_nonneg at' hl1n;omega
 have hAi:(A:Int)<(bJ p).length:=by omega
 obtain⟨q0,hq0⟩:=ay hAl;have hq0l:0<q0.length/\q0.length<=70:=by
  refine⟨?_,(rS p).2 q0 (List.mem_of_getElem? hq0)⟩;unfold bJ at hq0;rw[List.getElem?_map]at hq0;obtain⟨l,hl,rfl⟩:=Option.map_eq_some_iff.1 hq0;have h1:=aG hl;rw[List.length_take]at h1;rw[List.getElem?_take_of_lt (by omega)]at hl;have:=hprow l (List.mem_of_getElem? hl);rw[List.length_take];omega
 have hWr:=hW q0 hq0;rcases hO with ⟨_,h2⟩|⟨ib,gb,i1,i2,i3,i4⟩
 ·rw[h2]at hcln;simp at hcln;omega
 rcases hWr with ⟨_,h2⟩|⟨iw,gw,j1,j2,j3,j4⟩
 ·have:=congrArg List.length h2;rw[aT,List.length_nil]at this;omega
 rw[hcln]at i3;rw[aT]at j3;obtain⟨cb,hcb⟩:∃ cb,cb=fF p A (bJ p).length wv:=⟨_,rfl⟩
 rw[<- hcb]at i4 hcln;have lb:=ah i4;have lw:=ah j4;have cA:cb[A]?=some (.own iw gw 0 q0.length 1):=by rw[hcb];unfold fF;rw[List.getElem?_set_self (by rw[List.take_length,List.length_map];exact hAl),j3]
 have cne:=aR cA;have wat:=IntWalk.i64_in at' (by omega);have wA:=IntWalk.i64_in (A:Int) (by omega);have hq0i:(0:Int)<q0.length:=by omega
 have hq0n:¬ (q0.length:Int)=0:=by omega
 have hd4:Int.tdiv at' 4=at' / 4:=Int.tdiv_eq_ediv_of_nonneg hat.1;have wd8:IntKind.u8.wrap (at' / 4)=at' / 4:=by have h1:IntKind.u8.wrap (at' / 4)=(at' / 4) % 256:=rfl;omega
 have wd:=IntWalk.i64_in (at' / 4) (by omega);obtain⟨J,hJ⟩:∃ J:Nat,J=((at' / 4) % (q0.length:Int)).toNat:=⟨_,rfl⟩
 have hJe:Int.tmod (at' / 4) q0.length=J:=by rw[Int.tmod_eq_emod_of_nonneg (by omega)];have:=Int.emod_nonneg (at' / 4) hq0n;omega
 have hJl:J<q0.length:=by have:=Int.emod_lt_of_pos (at' / 4) hq0i;have:=Int.emod_nonneg (at' / 4) hq0n;omega
 have hJi:(J:Int)<q0.length:=by omega
 have wJ:=IntWalk.i64_in (J:Int) (by omega);have qne:¬ ints q0=[]:=fun h=>by have:=congrArg List.length h;rw[aT,List.length_nil]at this;omega
 have e1:setAt (ints q0) J [.lit (.int .i64 n)]=ints (q0.set J n):=fS hJl;refine W.seq (ag _ _ _ (by rfl) ?_);simp only[go_sem,g3,g15,i3,lb,cA,hl1i,hl1n,hAe,hAi,wat,lw,hq0i];refine W.cond (t:=true) rfl ?_;refine ag _ _ _ (by rfl) ?_;simp only[go_sem,g3,g4,g15,i3,lb,cA,hl1n,hAe,hAi,wat,lw,hq0n,hd4,wd8,wd,hJe,hJi,e1];refine⟨by omega,(bJ p).set A (q0.set J n),⟨by rw[List.length_set,hfl];omega,fun r hr=>?_⟩,?_,g5,g7,g13,g14,by rw[aC];exact n3,fun i h=>by rw[af,if_neg (by omega)];exact o3.old i h⟩
 ·rcases List.mem_or_eq_of_mem_set hr with h|rfl
  ·have:=(rS p).2 r h;omega
  ·rw[List.length_set];omega
 ·have hne:ib≠iw:=fun h=>by
   rw[h,j4]at i4;cases i4
  have e:ao ((bJ p).set A (q0.set J n))=.vec (bJ p).length (((bJ p).set A (q0.set J n)).map ab):=by unfold ao;rw[List.length_set]
  rw[e];refine .frz (show H2.next<=ib from i1) (by rw[af,if_neg hne];exact i4) (by simp) fun j hj h2 h'=>?_;simp only[Nat.zero_add]at h2 ⊢;have e1:=List.getElem?_eq_getElem h2;generalize cb[j]=u at e1 ⊢;rw[List.getElem_map,List.getElem_set];split
  ·rename_i e;subst e;rw[cA]at e1;cases e1;unfold ab;rw[List.length_set];refine .frz (show H2.next<=iw from j1) (by rw[af,if_pos rfl]) (by rw[aT,List.length_set,Nat.mul_one]) fun i hi h3 h4=>?_;simp only[Nat.zero_add,ints,List.getElem_map];exact .lit _
  ·rename_i e;rw[hcb]at e1;unfold fF at e1;rw[List.getElem?_set_ne e,List.take_length,List.getElem?_map,List.getElem?_eq_getElem (by rw[List.length_map,List.length_set]at h';exact h')]at e1;cases e1;exact .cB _
end Go.Proofs
