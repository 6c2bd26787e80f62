/-
  Sets of parents without a cycle: placing them round by round. Plain: no program stands in this text. No conditions.
-/
import Derived.Test.YtakancljiekbhaaConA
import Derived.Test.YtakancljiekbhaaConD
import Derived.Test.YtakancljiekbhaaConB
import Derived.Test.YtakancljiekbhaaConE
set_option linter.all false
namespace Go.Proofs
open Go.Hx
def eZ (ps:List Nat)(pl v:Nat):Nat:=if iG (ps.getD v 0) pl=0 then pl ||| 2 ^ v else pl
def lT (ps:List Nat)(pl:Nat):Nat:=(List.range ps.length).foldl (eZ ps) pl
def gU (ps:List Nat):Nat->Nat->Nat
 | 0,pl=>pl
 | k+1,pl=>gU ps k (lT ps pl)
theorem Ck (ps:List Nat):∀ (k pl:Nat),gU ps (k+1) pl=lT ps (gU ps k pl)
 | 0,_=>rfl
 | k+1,pl=>Ck ps k (lT ps pl)
theorem Cl {ps:List Nat}{b:Nat}(hb:0<b)(hp:∀ p∈ps,p<b)(v:Nat):ps.getD v 0<b:=by
 rw[RE];cases h:ps[v]? with
 | none=>exact hb
 | some p=>exact hp p (Ry h)
theorem Cm (ps:List Nat)(pl v:Nat):Sub pl (eZ ps pl v):=by unfold eZ;split;exact .left _ _;exact .refl _
theorem xP (ps:List Nat)(l:List Nat):∀ pl,Sub pl (l.foldl (eZ ps) pl):=by
 induction l with
 | nil=>exact fun pl=>.refl pl
 | cons v l ih=>exact fun pl=>(Cm ps pl v).trans (ih _)
theorem OE {ps:List Nat}{n pl v:Nat}(h:pl<2 ^ n)(hv:v<n):eZ ps pl v<2 ^ n:=by
 unfold eZ;split
 ·refine ya fun i hi=>?_;rw[fB]at hi;rcases UE.1 hi with hi|hi
  ·exact md h hi
  ·obtain rfl:=of_decide_eq_true hi;exact hv
 ·exact h
theorem Cn {ps:List Nat}{n:Nat}(l:List Nat)(hl:∀ v∈l,v<n):∀ pl,pl<2 ^ n->l.foldl (eZ ps) pl<2 ^ n:=by
 induction l with
 | nil=>exact fun pl h=>h
 | cons v l ih=>exact fun pl h=>ih (fun w hw=>hl w (by simp [hw])) _ (OE h (hl v (by simp)))
theorem OF {ps:List Nat}{pl:Nat}(h:pl<2 ^ ps.length):lT ps pl<2 ^ ps.length:=Cn _ (fun v hv=>RK.1 hv) pl h
theorem xQ {ps:List Nat}:∀ (k:Nat) {pl:Nat},pl<2 ^ ps.length->gU ps k pl<2 ^ ps.length
 | 0,_,h=>h
 | k+1,_,h=>xQ k (OF h)
def iV (ps:List Nat)(pl:Nat):Prop:=kL ps pl/\∀ v,v<ps.length->pl.testBit v=true->(g9 ps (ps.getD v 0)).testBit v=false
theorem iV.step {ps:List Nat}(hp:∀ p∈ps,p<2 ^ 64){pl v:Nat}(h:iV ps pl)(hv:v<ps.length):iV ps (eZ ps pl v):=by
 unfold eZ;split
 ·rename_i hs;have hsub:=(um (Cl (by decide) hp v)).1 hs;rcases Sh (pl.testBit v) with hb|hb
  ·have e:pl ||| 2 ^ v=pl:=T9 fun i=>by
    rw[fB];by_cases hi:v=i
    ·subst hi;rw[hb];rfl
    ·simp [hi]
   rw[e];exact h
  ·refine⟨fun w hw hwb=>?_,fun w hw hwb=>?_⟩
   ·rw[fB]at hwb;rcases UE.1 hwb with hwb|hwb
    ·exact(h.1 w hw hwb).trans (.left _ _)
    ·obtain rfl:=of_decide_eq_true hwb;exact hsub.trans (.left _ _)
   ·rw[fB]at hwb;rcases UE.1 hwb with hwb|hwb
    ·exact h.2 w hw hwb
    ·obtain rfl:=of_decide_eq_true hwb;have hu:=rj h.1 ps.length hsub;rcases Sh ((g9 ps (ps.getD v 0)).testBit v) with e|e
     ·have:=hu v e;rw[hb]at this;cases this
     ·exact e
 ·exact h
theorem iV.fold {ps:List Nat}(hp:∀ p∈ps,p<2 ^ 64)(l:List Nat)(hl:∀ v∈l,v<ps.length):∀ pl,iV ps pl->iV ps (l.foldl (eZ ps) pl):=by
 induction l with
 | nil=>exact fun pl h=>h
 | cons v l ih=>exact fun pl h=>ih (fun w hw=>hl w (by simp [hw])) _ (h.step hp (hl v (by simp)))
theorem iV.rounds {ps:List Nat}(hp:∀ p∈ps,p<2 ^ 64):∀ (k:Nat) {pl:Nat},iV ps pl->iV ps (gU ps k pl)
 | 0,_,h=>h
 | k+1,_,h=>iV.rounds hp k (iV.fold hp _ (fun v hv=>RK.1 hv) _ h)
theorem OG {ps:List Nat}(hp:∀ p∈ps,p<2 ^ 64){v:Nat}(l:List Nat):∀ pl,v∈l->Sub (ps.getD v 0) pl->(l.foldl (eZ ps) pl).testBit v=true:=by
 induction l with
 | nil=>intro pl h;cases h
 | cons w l ih =>
  intro pl h hs;by_cases hw:v=w
  ·subst hw;refine xP ps l _ v ?_;unfold eZ;rw[RC ((um (Cl (by decide) hp v)).2 hs),fB];simp
  ·exact ih _ (by simpa [hw] using h) (hs.trans (Cm ps pl w))
theorem Co {n s:Nat}(h:n<=bQ n s):∀ i,i<n->s.testBit i=true:=by
 have h1:(List.range n).countP (fun i=>s.testBit i)=(List.range n).length:=by
  have:=uq n s;unfold bQ at this h;rw[Sn];omega
 intro i hi;exact Ty.1 h1 i (RK.2 hi)
theorem OH {ps:List Nat}(hp:∀ p∈ps,p<2 ^ ps.length)(h64:ps.length<=64)(ha:kK ps):∀ (k pl:Nat),ps.length<=bQ ps.length pl+k->∀ i,i<ps.length->(gU ps k pl).testBit i=true:=by
 have hp64:∀ p∈ps,p<2 ^ 64:=fun p h=>RL (hp p h) (R8 (by decide) h64);intro k
 induction k with
 | zero=>exact fun pl h=>Co h
 | succ k ih =>
  intro pl h;refine ih (lT ps pl) ?_;by_cases hf:ps.length<=bQ ps.length pl
  ·have h1:=Co hf;have:ps.length<=bQ ps.length (lT ps pl):=by
    have h2:(List.range ps.length).countP (fun i=>(lT ps pl).testBit i)=(List.range ps.length).length:=Ty.2 fun i hi=>xP ps _ pl i (h1 i (RK.1 hi));unfold bQ;rw[h2,Sn];exact Nat.le_refl _
   omega
  ·obtain⟨q,hq⟩:∃ q,q+1+bQ ps.length pl=ps.length:=⟨ps.length - bQ ps.length pl - 1,by omega⟩
   obtain⟨r,hr⟩:=CZ hp h64 ha (q+1) [] pl hq;unfold ja at hr;cases hn:kj ps pl with
   | none=>rw[hn]at hr;cases hr
   | some v =>
    obtain⟨v1,v2,v3⟩:=ur hp64 hn;have:=nq (xP ps (List.range ps.length) pl) v1 v2 (OG hp64 _ pl (RK.2 v1) v3);unfold lT;omega
theorem OI {ps:List Nat}(hp:∀ p∈ps,p<2 ^ ps.length)(h64:ps.length<=64):gU ps ps.length 0=2 ^ ps.length - 1↔kK ps:=by
 have hp64:∀ p∈ps,p<2 ^ 64:=fun p h=>RL (hp p h) (R8 (by decide) h64);constructor
 ·intro h v hv;have:=iV.rounds hp64 ps.length (pl:=0) ⟨fun w _ hb=>(by rw[SG]at hb;cases hb),fun w _ hb=>(by rw[SG]at hb;cases hb)⟩;refine this.2 v hv ?_;rw[h,SV];simpa using hv
 ·intro h;have h1:=OH hp h64 h ps.length 0 (by omega);have h2:=xQ (ps:=ps) ps.length (pl:=0) (TH _);refine T9 fun i=>?_;rw[SV];by_cases hi:i<ps.length
  ·rw[h1 i hi];simp [hi]
  ·rcases Sh ((gU ps ps.length 0).testBit i) with e|e
   ·exact absurd (md h2 e) hi
   ·rw[e];simp [hi]
def jD (ps:List Nat)(n:Nat):Prop:=ps.length=n/\(∀ p∈ps,p<2 ^ n)/\kK ps
noncomputable def lU (ps:List Nat)(n:Nat):Bool:=@decide (jD ps n) (Classical.propDecidable _)
theorem Cp {ps:List Nat}{n:Nat}(h:jD ps n):lU ps n=true:=by unfold lU;exact @decide_eq_true _ (Classical.propDecidable _) h
theorem OJ {ps:List Nat}{n:Nat}(h:¬ jD ps n):lU ps n=false:=by unfold lU;exact @decide_eq_false _ (Classical.propDecidable _) h
theorem OK {ps:List Nat}{n:Nat}:lU ps n=true↔jD ps n:=by unfold lU;exact @decide_eq_true_iff _ (Classical.propDecidable _)
end Go.Proofs
set_option maxRecDepth 100000
namespace Go.Proofs
open Go.Hx
theorem Cq {p n:Nat}:((p >>> n:Nat):Int) = 0 ↔ p < 2 ^ n := by
  rw[UX]
  have : p / 2 ^ n = 0 ↔ p < 2 ^ n := by rw [Nat.div_eq_zero_iff]; constructor
                                         · rintro(h | h)
                                           · exact absurd h (Nat.ne_of_gt (TH n))
                                           · exact h
                                         · exact .inr
  omega
set_option maxHeartbeats 1000000 in
theorem OL (ps:List Nat)(n:Nat)(hn:1 <= n /\ n <= 6)(hl:(ps.length:Int) < 2 ^ 39)(hp:∀ p ∈ ps, p < 2 ^ 64)(H:AHeap)(K:ARes -> AHeap -> Prop)(hK:K (.ret (.lit (.bool (lU ps n)))) H):ae Try.prog G0 63 [cP ps, aa n] H K := by
  have no:¬ jD ps n -> av Try.prog G0 H K (.lit (.bool false)) H := fun h => av.mk (Nat.le_refl _) (by rw[OJ h]at hK; exact hK)
  refine ae.bH (n := 50) (rs := [.tmp 4]) Try.func63 rfl rfl rfl (by decide) (by kernel_rfl) (by simp) ?_
  by_cases hln:(ps.length:Int) = n
  rotate_left
  · simp only[go_sem, hln, cb]
    exact no fun h => hln (by rw[h.1])
  simp only[go_sem, hln, cb]
  refine W.aI 33488976 (by rfl) (fun ρ H' => H' = H /\ ∃ k:Nat, ρ 16 = aa k /\ k <= ps.length /\ ∀ p ∈ ps.take k, p < 2 ^ n) (fun ρ H => ps.length - (iv (ρ 16)).toNat) ?_ ?_
  · simp only[go_sem, cb]
    exact⟨0, rfl, by omega, by simp⟩
  rintro ρ H' ⟨rfl, k, h16, hk, hall⟩
  refine W.vs ?_
  by_cases hb:(k:Int) < n
  · obtain⟨p, hpk⟩ := get_of_lt (l := ps) (i := k) (by omega)
    have hne := aK hpk
    have hpm := Ry hpk
    have s1 := fun t x y => yB (P := Try.prog) (t := t) (x := x) (y := y) (k' := .i64) (s := n) (hp p hpm)
    have w1 := Rw ((k:Int) + 1) (by omega)
    by_cases hz:((p >>> n:Nat):Int) = 0
    · simp only[go_sem, h16, hb, hln, hpk, hne, s1, hz, w1, cb]
      refine⟨⟨k + 1, rfl, by omega, fun q hq => ?_⟩, by omega⟩
      rw[aP hpk]at hq
      rcases RX.1 hq with hq | hq
      · exact hall q hq
      · obtain rfl := List.mem_singleton.1 hq; exact Cq.1 hz
    · simp only[go_sem, h16, hb, hln, hpk, hne, s1, hz, cb]
      exact no fun h => hz (Cq.2 (h.2.1 p hpm))
  rw[RA (by omega)]at hall
  have hpn:∀ p ∈ ps, p < 2 ^ ps.length := fun p h => by have := hall p h; rw[show ps.length = n by omega]; exact this
  have hb2n:2 ^ n <= 2 ^ 6 := R8 (by decide) hn.2
  have h64:∀ m:Nat, m < 2 ^ n -> m < 2 ^ 64 := fun m h => by omega
  simp only[go_sem, h16, hb, hln, cb]
  refine W.aI 35184304980864 (by rfl) (fun ρ H2 => H2 = H' /\ ∃ k:Nat, ρ 26 = aa k /\ k <= n /\ ρ 7 = cL (gU ps k 0)) (fun ρ H => n - (iv (ρ 26)).toNat) ?_ ?_
  · simp only[go_sem, cb]
    exact⟨0, rfl, by omega, rfl⟩
  rintro ρ2 H2 ⟨rfl, i, h26, hi, h7⟩
  refine W.vs ?_
  have hpl := xQ (ps := ps) i (TH _)
  rw[show ps.length = n by omega]at hpl
  by_cases hb2:(i:Int) < n
  rotate_left
  · obtain rfl:i = n := by omega
    have s3 := fun t x y => rE (P := Try.prog) (t := t) (x := x) (y := y) (k' := .i64) (s := i) (by omega)
    have w2:IntKind.u64.wrap (((2 ^ i:Nat):Int) - 1) = ((2 ^ i - 1:Nat):Int) := by rw[To _ (by omega)]; have := TH i; omega
    have key:jD ps i ↔ gU ps i 0 = 2 ^ i - 1 := by
      have := OI hpn (by omega)
      rw[show ps.length = i by omega]at this
      exact⟨fun h => this.2 h.2.2, fun h => ⟨by omega, hall, this.1 h⟩⟩
    by_cases hq:((gU ps i 0:Nat):Int) = ((2 ^ i - 1:Nat):Int)
    · simp only[go_sem, h26, h7, hb2, hln, s3, w2, hq, cb]
      rw[Cp (key.2 (by omega))]at hK
      exact av.mk (Nat.le_refl _) hK
    · simp only[go_sem, h26, h7, hb2, hln, s3, w2, hq, cb]
      exact no fun h => hq (by rw[key.1 h])
  simp only[go_sem, h26, h7, hb2, hln, cb]
  refine W.aI 17591112303488 (by rfl) (fun ρ3 H3 => H3 = H2 /\ ∃ v:Nat, ρ3 30 = aa v /\ v <= ps.length /\ ρ3 7 = cL ((List.range v).foldl (eZ ps) (gU ps i 0))) (fun ρ3 H => ps.length - (iv (ρ3 30)).toNat) ?_ ?_
  · simp only[go_sem, h7, cb]
    exact⟨0, rfl, by omega, rfl⟩
  rintro ρ3 H3 ⟨rfl, v, h30, hv, h7'⟩
  refine W.vs ?_
  obtain⟨m, hm⟩:∃ m, m = (List.range v).foldl (eZ ps) (gU ps i 0) := ⟨_, rfl⟩
  have hml:m < 2 ^ n := by rw[hm]; exact Cn _ (fun w hw => by have := RK.1 hw; omega) _ hpl
  by_cases hb3:(v:Int) < n
  · obtain⟨p, hpv⟩ := get_of_lt (l := ps) (i := v) (by omega)
    have hne := aK hpv
    have w1 := Rw ((v:Int) + 1) (by omega)
    have s3 := fun t x y => rE (P := Try.prog) (t := t) (x := x) (y := y) (k' := .i64) (s := v) (by omega)
    have s4 := fun t x y => DL (P := Try.prog) (t := t) (x := x) (y := y) (a := p) (b := m)
    have s5 := fun t x y => uK (P := Try.prog) (t := t) (x := x) (y := y) (h64 m hml) (h64 (2 ^ v) (TN (by decide) (by omega)))
    have hst:(List.range (v + 1)).foldl (eZ ps) (gU ps i 0) = eZ ps m v := by rw[SN, SZ, hm]; rfl
    rw[<- hm]at h7'
    by_cases hz:((iG p m:Nat):Int) = 0
    · simp only[go_sem, h30, h7', hb3, hln, hpv, hne, s3, s4, s5, hz, w1, cb]
      refine⟨⟨v + 1, rfl, by omega, by rw[hst]; unfold eZ; rw[aO hpv, RC (by omega)]⟩, by omega⟩
    · simp only[go_sem, h30, h7', hb3, hln, hpv, hne, s4, hz, w1, cb]
      refine⟨⟨v + 1, rfl, by omega, by rw[hst]; unfold eZ; rw[aO hpv, RB (by omega)]⟩, by omega⟩
  · obtain rfl:v = ps.length := by omega
    have w1 := Rw ((i:Int) + 1) (by omega)
    have hnn:¬ ((n:Int) < n) := Int.lt_irrefl _
    simp only[go_sem, h30, h7', hb3, hnn, hln, h26, w1, cb]
    exact⟨⟨i + 1, rfl, by omega, by rw[Ck]; rfl⟩, by omega⟩
end Go.Proofs
namespace Go.Hx
variable {P:Program} {G:Nat->Option (List AVal)} {rd:Option Nat} {Q:AX->St->Prop} {K:St->Prop} {KF:FP->St->Prop} {s:St} {d:Option Tmp} {ty:TypeId} {pos:String} {aft:Array Edge} {g:Option (Nat × Bool)}
@[go_sem] theorem Rl (t:TypeId):aG P G rd Q ⟨d,.makeMap t none,ty,pos,aft,g⟩ K s=aR (s.H.lay s.H.next (.mp [])) fun H'=>K ⟨aE s.ρ d (.yld s.H.next),H'⟩:=by
 simp [aG,ag,eU]
@[go_sem] theorem Rm (t:TypeId)(x i:Operand)(ok:Bool):aG P G rd Q ⟨d,.lookup t x i ok,ty,pos,aft,g⟩ K s=aR (jg P s.H t (af G s.ρ x) (af G s.ρ i) ok) fun v=>K ⟨aE s.ρ d v,s.H⟩:=by
 simp [aG,ag,eU]
@[go_sem] theorem Rn (t:TypeId)(m k x:Operand):aG P G rd Q ⟨d,.mapUpdate t m k x,ty,pos,aft,g⟩ K s=aR (iL P s.H t (af G s.ρ m) (af G s.ρ k) (af G s.ρ x)) fun vH=>K ⟨aE s.ρ d vH.1,vH.2⟩:=by
 simp [aG,ag]
@[go_sem] theorem Ro (t:TypeId)(x i:Operand)(ok:Bool):bM P G ⟨d,.lookup t x i ok,ty,pos,aft,g⟩ KF s=aG P G none QF ⟨d,.lookup t x i ok,ty,pos,aft,g⟩ (KF ⟨[],cN (af G s.ρ x)⟩) s:=(rfl)
@[go_sem] theorem Rp (t:TypeId)(m k x:Operand):bM P G ⟨d,.mapUpdate t m k x,ty,pos,aft,g⟩ KF s=aG P G none QF ⟨d,.mapUpdate t m k x,ty,pos,aft,g⟩ (KF ⟨cN (af G s.ρ m),cN (af G s.ρ m)⟩) s:=(rfl)
@[go_sem] theorem Rq (a b:TypeId)(n:Nat)(cells:List AVal)(off:Nat):jT (some (.map a b)) n cells off=cells[off]?:=rfl
@[go_sem] theorem Rr (id:Nat):(AVal.yld id).cells=[.yld id]:=rfl
@[go_sem] theorem Rs (id:Nat):(AVal.yld id).one=true:=rfl
@[go_sem] theorem Rt (id:Nat):cN (.yld id)=[id]:=rfl
end Go.Hx
namespace Go.Hx
def eg (es:List (Int × Int))(k:Int):Int:=((cC k 0 es).map Prod.snd).getD 0
theorem OM {k:Int}:∀ {es:List (Int × Int)} {s i:Nat} {w:Int},cC k s es=some (i,w)->s<=i:=by
 intro es
 induction es with
 | nil=>intro s i w h;cases h
 | cons a es ih =>
  intro s i w h;obtain⟨a,b⟩:=a;unfold cC at h;split at h
  ·cases h;exact Nat.le_refl _
  ·have:=ih h;omega
theorem ON {k v:Int}:∀ {es:List (Int × Int)} {s i:Nat} {w:Int},cC k s es=some (i,w)->∀ (j:Int) (t:Nat),(cC j t (es.set (i - s) (k,v))).map Prod.snd=if j=k then some v else (cC j t es).map Prod.snd:=by
 intro es
 induction es with
 | nil=>intro s i w h;cases h
 | cons a es ih =>
  intro s i w h j t;obtain⟨a,b⟩:=a;unfold cC at h;split at h
  ·rename_i e;subst e;cases h;rw[Tx,List.set_cons_zero];unfold cC;by_cases hj:j=k
   ·rw[RC hj,RC hj];rfl
   ·rw[RB hj,RB hj,RB hj]
  ·rename_i e;have h1:=OM h;rw[show i - s=(i - (s+1))+1 by omega,List.set_cons_succ];unfold cC;by_cases hj:j=a
   ·rw[RC hj,RC hj,RB (fun h'=>e (by rw[<- h',hj]))]
   ·rw[RB hj,RB hj];exact ih h j (t+1)
theorem OO {k v:Int}:∀ {es:List (Int × Int)} {s:Nat},cC k s es=none->∀ (j:Int) (t:Nat),(cC j t (es++[(k,v)])).map Prod.snd=if j=k then some v else (cC j t es).map Prod.snd:=by
 intro es
 induction es with
 | nil =>
  intro s _ j t;rw[List.nil_append];unfold cC;by_cases hj:j=k
  ·rw[RC hj,RC hj];rfl
  ·rw[RB hj,RB hj];rfl
 | cons a es ih =>
  intro s h j t;obtain⟨a,b⟩:=a;unfold cC at h;split at h
  ·cases h
  ·rename_i e;rw[List.cons_append];unfold cC;by_cases hj:j=a
   ·rw[RC hj,RC hj,RB (fun h'=>e (by rw[<- h',hj]))]
   ·rw[RB hj,RB hj];exact ih h j (t+1)
theorem OP (es:List (Int × Int))(k v j:Int):eg (kT es k v) j=if j=k then v else eg es j:=by
 unfold eg kT;cases h:cC k 0 es with
 | none =>
  simp only;rw[OO h];split<;>rfl
 | some p =>
  obtain⟨i,w⟩:=p;simp only;have:=ON (v:=v) h j 0;rw[Nat.sub_zero]at this;rw[this];split<;>rfl
theorem Cr (es:List (Int × Int))(k:Int):pI false (cC k 0 es)=.lit (.int .i64 (eg es k)):=by
 unfold eg;cases cC k 0 es with
 | none=>rfl
 | some p=>rfl
end Go.Hx
namespace Go.Proofs
open Go.Hx
def ud (P r:List Int):Bool:=decide (∀ p∈P,¬ r.getD p.toNat 0<0)
def dN (cs P r:List Int):Int:=dG (aA cs P) (aA r P)
def ke (cs P:List Int)(v:Nat)(r:List Int):Option Int:=if ¬ r.getD v 0<0/\ud P r=true then some (dN cs P r*cs.getD v 0+r.getD v 0) else none
def kF (cs P:List Int)(v:Nat)(es:List (Int × Int))(r:List Int):List (Int × Int):=match ke cs P v r with
 | some k=>kT es k (eg es k+1)
 | none=>es
def iW (cs P:List Int)(v:Nat)(xs:List (List Int))(k:Int):Nat:=xs.countP fun r=>decide (ke cs P v r=some k)
theorem Cs (cs P:List Int)(v:Nat)(xs:List (List Int)):∀ (es:List (Int × Int)) (k:Int),eg (xs.foldl (kF cs P v) es) k=eg es k+iW cs P v xs k:=by
 induction xs with
 | nil=>intro es k;simp [iW]
 | cons r xs ih =>
  intro es k;rw[SK,ih];unfold iW;rw[Sp];unfold kF;cases h:ke cs P v r with
  | none=>simp
  | some q =>
   simp only;rw[OP];by_cases hq:k=q
   ·subst hq;simp;omega
   ·have hq':¬ q=k:=fun e=>hq e.symm;simp [hq,hq']
theorem xR (cs P:List Int)(v:Nat)(xs:List (List Int))(k:Int):iW cs P v xs k<=xs.length:=UA
def cG (n s:Nat):List Int:=((List.range n).filter fun p=>s.testBit p).map fun (p:Nat)=>(p:Int)
theorem Ct {n s:Nat}:∀ p∈cG n s,0<=p/\p<n:=fun p hp=>by
 obtain⟨q,hq,rfl⟩:=RI.1 hp;have:=RK.1 (Ue.1 hq).1;omega
theorem Cu (n s:Nat):(cG n s).length<=n:=by
 unfold cG;rw[RJ];have:=U9 (fun p=>s.testBit p) (List.range n);rw[Sn]at this;exact this
theorem Cv (n s:Nat):cG (n+1) s=if s.testBit n then cG n s++[(n:Int)] else cG n s:=by
 unfold cG;rw[SN,List.filter_append];by_cases h:s.testBit n=true
 ·rw[RC h];simp [h]
 ·rw[RB h];simp [h]
def fM (cs P:List Int)(v:Nat)(xs:List (List Int))(prior:Int)(j:Nat):List Int:=(List.range (cs.getD v 0).toNat).map fun (k:Nat)=>prior+(iW cs P v xs ((j:Int)*cs.getD v 0+k):Int)
theorem ue (cs P:List Int)(v:Nat)(xs:List (List Int))(prior:Int)(j:Nat):(fM cs P v xs prior j).length=(cs.getD v 0).toNat:=by simp [fM]
theorem Cx {cs P:List Int}{v:Nat}{xs:List (List Int)}{prior:Int}{j k:Nat}(h:k<(cs.getD v 0).toNat):(fM cs P v xs prior j)[k]?=some (prior+(iW cs P v xs ((j:Int)*cs.getD v 0+k):Int)):=by
 unfold fM;rw[List.getElem?_map,Sm h];rfl
theorem OW {cs P:List Int}{v:Nat}{xs:List (List Int)}{prior:Int}{j:Nat}(hp:0<=prior/\prior<=10)(hx:xs.length<=40):∀ x∈fM cs P v xs prior j,0<=x/\x<=50:=fun x h=>by
 obtain⟨k,_,rfl⟩:=RI.1 h;have:=xR cs P v xs ((j:Int)*cs.getD v 0+k);omega
structure FitN (cs:List Int)(xs:List (List Int))(grain prior least:Int)(n v s:Nat)(x:NodeP):Prop where
 card:x.card=cs.getD v 0
 par:x.parents=cG n s
 len:(x.rows.length:Int)=aw (aA cs (cG n s))
 row:∀ j r,x.rows[j]?=some r->eM least (bJ grain least (fM cs (cG n s) v xs prior j)) (fM cs (cG n s) v xs prior j) r
def kf (cs:List Int)(xs:List (List Int))(ps:List Nat)(grain prior least:Int)(k:Nat)(ns:List NodeP):Prop:=ns.length=k/\∀ (v s:Nat) (x:NodeP),ps[v]?=some s->ns[v]?=some x->FitN cs xs grain prior least ps.length v s x
theorem FitN.unique {cs:List Int}{xs:List (List Int)}{grain prior least:Int}{n v s:Nat}{x y:NodeP}(hx:FitN cs xs grain prior least n v s x)(hy:FitN cs xs grain prior least n v s y):x=y:=by
 obtain⟨xc,xp,xr⟩:=x;obtain⟨yc,yp,yr⟩:=y;obtain⟨a1,a2,a3,a4⟩:=hx;obtain⟨b1,b2,b3,b4⟩:=hy;simp only at a1 a2 a3 a4 b1 b2 b3 b4;have hl:xr.length=yr.length:=by omega
 have hr:xr=yr:=by
  apply Sf;intro j;rcases RP j xr.length with h|h
  ·obtain⟨r,h1⟩:=get_of_lt h;obtain⟨q,h2⟩:=get_of_lt (l:=yr) (i:=j) (by omega);rw[h1,h2,(a4 j r h1).unique (b4 j q h2)]
  ·rw[RF h,RF (by omega)]
 rw[a1,a2,b1,b2,hr]
theorem kf.unique {cs:List Int}{xs:List (List Int)}{ps:List Nat}{grain prior least:Int}{ns ns':List NodeP}(h:kf cs xs ps grain prior least ps.length ns)(h':kf cs xs ps grain prior least ps.length ns'):ns=ns':=by
 apply Sf;intro v;rcases RP v ps.length with hv|hv
 ·obtain⟨s,hs⟩:=get_of_lt hv;obtain⟨x,hx⟩:=get_of_lt (l:=ns) (i:=v) (by rw[h.1];exact hv);obtain⟨y,hy⟩:=get_of_lt (l:=ns') (i:=v) (by rw[h'.1];exact hv);rw[hx,hy,(h.2 v s x hs hx).unique (h'.2 v s y hs hy)]
 ·rw[RF (by rw[h.1];exact hv),RF (by rw[h'.1];exact hv)]
theorem kf.snoc {cs:List Int}{xs:List (List Int)}{ps:List Nat}{grain prior least:Int}{k s:Nat}{ns:List NodeP}{x:NodeP}(h:kf cs xs ps grain prior least k ns)(hs:ps[k]?=some s)(hx:FitN cs xs grain prior least ps.length k s x):kf cs xs ps grain prior least (k+1) (ns++[x]):=by
 refine⟨by simp [h.1],fun v s' x' hs' hx'=>?_⟩;rcases RP v ns.length with hv|hv
 ·rw[Si hv]at hx';exact h.2 v s' x' hs' hx'
 ·have:=get_lt hx';rw[List.length_append,Uz]at this;obtain rfl:v=ns.length:=by omega
  rw[Sb (Nat.le_refl _),Tx]at hx';cases hx';rw[h.1]at hs' ⊢;rw[hs]at hs';cases hs';exact hx
def nf (cs:List Int)(grain prior least:Int):Prop:=(1<=grain/\grain<=60)/\(0<=prior/\prior<=10)/\(0<=least/\least<=grain)/\∀ c∈cs,least*c<=grain
noncomputable def iX (cs:List Int)(xs:List (List Int))(ps:List Nat)(grain prior least:Int):Int:=if fW cs xs=true then (@ite _ (jD ps cs.length/\nf cs grain prior least) (Classical.propDecidable _) 0 2) else 250
theorem OX {cs:List Int}{xs:List (List Int)}{ps:List Nat}{grain prior least:Int}(h:fW cs xs=false):iX cs xs ps grain prior least=250:=by unfold iX;rw[RB (by rw[h];decide)]
theorem Cy {cs:List Int}{xs:List (List Int)}{ps:List Nat}{grain prior least:Int}(h:fW cs xs=true)(h2:¬ (jD ps cs.length/\nf cs grain prior least)):iX cs xs ps grain prior least=2:=by
 unfold iX;rw[RC h];exact @if_neg _ (Classical.propDecidable _) h2 _ _ _
theorem Cz {cs:List Int}{xs:List (List Int)}{ps:List Nat}{grain prior least:Int}(h:fW cs xs=true)(h2:jD ps cs.length/\nf cs grain prior least):iX cs xs ps grain prior least=0:=by
 unfold iX;rw[RC h];exact @if_pos _ (Classical.propDecidable _) h2 _ _ _
theorem MV (k:Int)(c:List Int):(c.map (k*·)).sum=k*c.sum:=by
 induction c with
 | nil=>simp
 | cons a c ih=>simp only[List.map_cons,RZ,ih];rw[Tm]
theorem MW (k:Int)(c:List Int)(i:Nat):(c.map (k*·)).getD i 0=k*c.getD i 0:=by
 rw[RE,RE,List.getElem?_map];cases c[i]?<;>simp
theorem tX {k:Int}(hk:0<k)(sp:Int)(c:List Int)(i:Nat):partAt sp (c.map (k*·)) i=partAt sp c i/\(cH sp (c.map (k*·)) i=if 0<c.sum then k*cH sp c i else cH sp c i):=by
 have hs:=MV k c;unfold partAt cH eu di;rw[hs,RJ];by_cases h:0<c.sum
 ·have h2:0<k*c.sum:=Int.mul_pos hk h;rw[RC h,RC h,RC h,RC h2,RC h2,MW];rw[show sp*(k*c.getD i 0)=k*(sp*c.getD i 0) by rw[<- TC,Te sp k,TC]];exact⟨Int.mul_ediv_mul_of_pos _ _ hk,Int.mul_emod_mul_of_pos _ _ hk⟩
 ·have h2:¬ 0<k*c.sum:=fun hh=>h (Int.pos_of_mul_pos_right hh (by omega));rw[RB h,RB h,RB h,RB h2,RB h2];exact⟨rfl,rfl⟩
theorem MX {k:Int}(hk:0<k){least sp:Int}{c s:List Int}(h:eM least sp (c.map (k*·)) s):eM least sp c s:=by
 obtain⟨M,hM,rfl⟩:=h;have hp:(fun i=>partAt sp (c.map (k*·)) i)=fun i=>partAt sp c i:=funext fun i=>(tX hk sp c i).1;have hl:fg sp (c.map (k*·))=fg sp c:=by
  unfold fg;rw[RJ,show partAt sp (c.map (k*·))=partAt sp c from hp]
 rw[hl,RJ]at hM;refine⟨M,⟨hM.count,fun i j hi hj h1 h2=>?_⟩,?_⟩
 ·have hb:=hM.first i j hi hj h1 h2;unfold before at hb ⊢;rw[(tX hk sp c i).2,(tX hk sp c j).2]at hb;by_cases h:0<c.sum
  ·rw[RC h,RC h]at hb;rcases hb with hb|⟨hb,hij⟩
   ·exact .inl (Int.lt_of_mul_lt_mul_left hb (by omega))
   ·exact .inr ⟨Int.eq_of_mul_eq_mul_left (by omega) hb,hij⟩
  ·rw[RB h,RB h]at hb;exact hb
 ·unfold dB;rw[RJ];exact Sa fun i _=>by rw[(tX hk sp c i).1]
theorem MY (l:List Int)(i j:Nat)(d:Int)(hi:i<l.length):(dL l i d).getD j 0=l.getD j 0+if i=j then d else 0:=by
 unfold dL;rw[RE,SQ];by_cases h:i=j
 ·subst h;rw[RC rfl,RC hi,RC rfl];rfl
 ·rw[RB h,RB h,<- RE];omega
theorem BW {g:Int}{ns:List NodeP}(h:NetOk g ns){v:Nat}{x:NodeP}(hx:ns[v]?=some x){xs:List (List Int)}(hr:∀ r∈xs,bE (ah ns) r)(i:Nat):
  (fy ns x v xs).getD i 0=720*(xs.countP fun r=>decide (dD ns x v r=i):Nat):=by
 have hc:=(h.node x (Ry hx)).1;have hLi:((x.rows.length*x.card.toNat:Nat):Int)=x.rows.length*x.card:=by rw[Tj,Sw (by omega)]
 have key:∀ (l:List (List Int)) (s:List Int),(∀ r∈l,r∈xs)->s.length=x.rows.length*x.card.toNat->(l.foldl (fun s r=>dL s (dD ns x v r).toNat 720) s).getD i 0=s.getD i 0+720*(l.countP fun r=>decide (dD ns x v r=i):Nat):=by
  intro l
  induction l with
  | nil=>intro s _ _;simp
  | cons r l ih =>
   intro s hl hs;have hp:=qM h hx (hr r (hl r (by simp)));rw[SK,ih _ (fun q hq=>hl q (by simp [hq])) (by rw[tS];exact hs),MY _ _ _ _ (by omega),Sp];by_cases e:dD ns x v r=i
   ·rw[RC (by omega),RC (by simpa using e)];push_cast;omega
   ·rw[RB (by omega),RB (by simpa using e)];push_cast;omega
 have:=key xs (List.replicate (x.rows.length*x.card.toNat) 0) (fun r h=>h) (by simp);unfold fy;rw[this,RE,Sz];split<;>simp
theorem xH (ns:List NodeP)(x:NodeP)(v:Nat)(xs:List (List Int)):(fy ns x v xs).length=x.rows.length*x.card.toNat:=by
 have:∀ (l:List (List Int)) (s:List Int),(l.foldl (fun s r=>dL s (dD ns x v r).toNat 720) s).length=s.length:=by
  intro l
  induction l with
  | nil=>intro s;rfl
  | cons r l ih=>intro s;rw[SK,ih,tS]
 unfold fy;rw[this,S7]
theorem MZ (ns:List NodeP)(x:NodeP)(v:Nat)(xs:List (List Int))(r:List Int):fy ns x v (xs++[r])=dL (fy ns x v xs) (dD ns x v r).toNat 720:=by unfold fy;rw[SZ];rfl
theorem M0 {a b:List Int}(ha:a.Pairwise (·<·))(hb:b.Pairwise (·<·))(h:∀ p,p∈a↔p∈b):a=b :=
 List.Perm.eq_of_pairwise (le:=(·<·)) (fun x y _ _ h1 h2=>absurd h1 (by omega)) ha hb ((List.perm_ext_iff_of_nodup (ha.imp fun h e=>by omega) (hb.imp fun h e=>by omega)).2 h)
theorem M3 {l:List Int}{n:Nat}(h:dP l n):cG n (df l)=l:=by
 obtain⟨h1,h2⟩:=h;refine M0 ?_ h1 fun p=>?_
 ·unfold cG;refine UL.2 ((List.pairwise_lt_range.filter _).imp fun {a b} hab=>by omega)
 ·unfold cG;rw[RI];constructor
  ·rintro⟨q,hq,rfl⟩;have:=(Ue.1 hq).2;rw[kh fun p hp=>(h2 p hp).1]at this;exact of_decide_eq_true this
  ·intro hp;have:=h2 p hp;obtain⟨q,rfl⟩:=R7 this.1;refine⟨q,Ue.2 ⟨RK.2 (by omega),?_⟩,rfl⟩;rw[kh fun p hp=>(h2 p hp).1];exact RN hp
theorem M4 {g:Int}{ns:List NodeP}(h:NetOk g ns):jD (aT ns) (ah ns).length:=by
 refine⟨by rw[bA];simp [aT],fun p hp=>?_,h.acyc⟩;unfold aT at hp;obtain⟨x,hx,rfl⟩:=RI.1 hp;rw[bA];exact uk fun q hq=>(h.node x hx).2.2 q hq
theorem BX {g:Int}{ns:List NodeP}(h:NetOk g ns)(least:Int):nf (ah ns) g 0 least↔mW g ns least:=by
 have hg:=h.g1;have hn:=h.n1;constructor
 ·rintro⟨_,_,⟨h0,_⟩,h2⟩;exact⟨h0,fun x hx=>h2 x.card (RI.2 ⟨x,hx,rfl⟩)⟩
 ·rintro⟨h0,h2⟩;obtain⟨y,hy⟩:=get_of_lt (l:=ns) (i:=0) (by omega);have hym:=Ry hy;have hc:=(h.node y hym).1;have h3:least*1<=least*y.card:=Sd (by omega) h0;have:=h2 y hym;exact⟨hg,by omega,⟨h0,by omega⟩,fun c hc=>by obtain⟨x,hx,rfl⟩:=RI.1 hc;exact h2 x hx⟩
theorem M5 {cs P:List Int}{v:Nat}{r:List Int}(hP:∀ p∈P,0<=p/\p<cs.length)(hv:v<cs.length)(hr:bE cs r):ke cs P v r=some (dN cs P r*cs.getD v 0+r.getD v 0):=by
 have hg:∀ k,k<cs.length->¬ r.getD k 0<0:=fun k hk=>by
  obtain⟨c,hc⟩:=get_of_lt hk;obtain⟨a,ha⟩:=get_of_lt (l:=r) (i:=k) (by rw[hr.1];exact hk);have:=hr.2 k c a hc ha;rw[aO ha];omega
 unfold ke;rw[RC ⟨hg v hv,RN fun p hp=>hg p.toNat (by have:=hP p hp;omega)⟩]
theorem M6 {g:Int}{ns:List NodeP}(h:NetOk g ns){v:Nat}{x:NodeP}(hx:ns[v]?=some x){xs:List (List Int)}(hr:∀ r∈xs,bE (ah ns) r){j:Nat}(hj:j<x.rows.length):
  eY (fy ns x v xs) x.card.toNat j=(fM (ah ns) x.parents v xs 0 j).map (720*·):=by
 have hxm:=Ry hx;have hc:=(h.node x hxm).1;have hcd:(ah ns).getD v 0=x.card:=aO (bX hx);have hl:=qT (xH ns x v xs) hj;refine Sf fun k=>?_;rcases RP k x.card.toNat with hk|hk
 ·rw[List.getElem?_map,Cx (by rw[hcd];exact hk)];unfold eY;have hlt:j*x.card.toNat+k<(fy ns x v xs).length:=by
   rw[xH];have:=Sy x.card.toNat (show j+1<=x.rows.length by omega);rw[SM]at this;omega
  obtain⟨y,hy⟩:=get_of_lt hlt;rw[Td,RC hk,SS,hy,<- aO (d:=0) hy,BW h hx hr];show some _=some _;congr 1;rw[hcd,Ul];congr 2;unfold iW;refine Uo fun r hrm=>?_;have hkey:=M5 (cs:=ah ns) (P:=x.parents) (v:=v) (fun p hp=>by rw[bA];exact(h.node x hxm).2.2 p hp) (by rw[bA];exact get_lt hx) (hr r hrm);rw[hkey,hcd];have e:((j*x.card.toNat+k:Nat):Int)=j*x.card+k:=by push_cast;rw[Sw (by omega)]
  rw[e,Su,Su,Option.some.injEq];exact Iff.rfl
 ·rw[RF (by rw[hl];exact hk),RF (by rw[RJ,ue,hcd];exact hk)]
theorem M7 {g least:Int}{ns:List NodeP}(h:NetOk g ns)(h6:ns.length<=6)(hf:mW g ns least){xs:List (List Int)}(hx40:xs.length<=64)(hr:∀ r∈xs,bE (ah ns) r)(hm:∀ r∈xs,dJ ns r≠0):
  kf (ah ns) xs (aT ns) g 0 least (aT ns).length (jz g least ns xs):=by
 have hsl:(aT ns).length=ns.length:=by simp [aT]
 have hrl:∀ r∈xs,r.length=ns.length:=fun r hrm=>by rw[(hr r hrm).1,bA]
 refine⟨by rw[xG,hsl],fun v s y hs hy=>?_⟩;obtain⟨x,hx⟩:=get_of_lt (l:=ns) (i:=v) (by rw[<- hsl];exact get_lt hs);rw[mi hx]at hs;cases hs;rw[BQ hx]at hy;cases hy;have hxm:=Ry hx;have hP:cG (aT ns).length (df x.parents)=x.parents:=by rw[hsl];exact M3 (h.node x hxm).2
 refine⟨(aO (bX hx)).symm,hP.symm,?_,fun j r hj=>?_⟩
 ·rw[hP];show (((List.range x.rows.length).map _).length:Int)=_;rw[RJ,Sn];exact(h.rows x hxm).1
 ·have hjl:j<x.rows.length:=by have:=get_lt hj;simpa [kE] using this
  have hjr:r=qS g least (bI ns x v xs) x.card.toNat j:=by
   have:((List.range x.rows.length).map (qS g least (bI ns x v xs) x.card.toNat))[j]?=some r:=hj;rw[List.getElem?_map,Sm hjl]at this;exact(Option.some.inj this).symm
  rw[hP];refine MX (k:=720) (by decide) ?_;rw[<- M6 h hx hr hjl,<- BP h h6 hx xs hr hm,hjr];have hl:=qT (tW h h6 hx xs hrl) hjl;have hc:=(h.node x hxm).1;obtain⟨s,hs⟩:=qY least (bJ g least (eY (bI ns x v xs) x.card.toNat j)) (c:=eY (bI ns x v xs) x.card.toNat j) (by omega);have e:=kI hs;have e2:bJ g least (fM (ah ns) x.parents v xs 0 j)=bJ g least (eY (bI ns x v xs) x.card.toNat j):=by
   unfold bJ;rw[hl,ue,aO (bX hx)]
  rw[e2];unfold qS;rw[<- e];exact hs
theorem M8 (i v:Nat):jy [] i v=false:=rfl
theorem BY (ns:List NodeP)(ws:List Int)(i:Nat):fV ns ws [] i=dz (ah ns) (ws.getD i 0 % aw (ah ns)):=by
 unfold fV;refine Sf fun k=>?_;rcases RP k (dz (ah ns) (ws.getD i 0 % aw (ah ns))).length with h|h
 ·obtain⟨x,hx⟩:=get_of_lt h;rw[oU hx,hx,RB (by rw[M8];simp)]
 ·rw[RF (by rw[lQ];exact h),RF h]
theorem M9 {g:Int}{ns:List NodeP}(h:NetOk g ns)(ws:List Int):∀ r∈fL ns ws [],bE (ah ns) r:=fun r hr=>by
 unfold fL at hr;obtain⟨i,_,rfl⟩:=RI.1 hr;rw[BY];exact uj (gO h) _
theorem Na:∀ {l:List Int},(∀ x∈l,0<=x)->l.sum=0->∀ x∈l,x=0:=by
 intro l
 induction l with
 | nil=>intro _ _ x hx;simp at hx
 | cons a l ih =>
  intro h h0 x hx;have hn:0<=l.sum:=by
   have:∀ m:List Int,(∀ y∈m,0<=y)->0<=m.sum:=by
    intro m
    induction m with
    | nil=>intro _;simp
    | cons b m ihm=>intro hm;rw[RZ];have:=hm b (by simp);have:=ihm fun y hy=>hm y (by simp [hy]);omega
   exact this l fun y hy=>h y (by simp [hy])
  have ha:=h a (by simp);rw[RZ]at h0;rcases List.mem_cons.1 hx with rfl|hx
  ·omega
  ·exact ih (fun y hy=>h y (by simp [hy])) (by omega) x hx
theorem Nb:∀ {r w:List Int},r.length=w.length->(∀ (k:Nat) (a b:Int),r[k]?=some a->w[k]?=some b->a<0\/a=b)->mS r w=true:=by
 intro r
 induction r with
 | nil=>intro w _ _;cases w<;>rfl
 | cons a r ih =>
  intro w hl hk;cases w with
  | nil=>rfl
  | cons b w =>
   unfold mS;rw[ih (w:=w) (by simpa using hl) fun k a b h1 h2=>hk (k+1) a b (by simpa using h1) (by simpa using h2),Bool.and_true];rcases hk 0 a b (by simp) (by simp) with h|h
   ·rw[RN h];rfl
   ·rw[RN h,Bool.or_true]
theorem Nc {g:Int}{ns:List NodeP}(h:NetOk g ns)(ws ms:List Int)(i:Nat)(h0:dJ ns (fV ns ws ms i)=0):dJ ns (fV ns ws [] i)=0:=by
 have hge:=gO h;obtain⟨q,hq⟩:∃ q,q=ws.getD i 0 % aw (ah ns):=⟨_,rfl⟩
 obtain⟨w,hw⟩:∃ w,w=dz (ah ns) q:=⟨_,rfl⟩
 have hwf:bE (ah ns) w:=by rw[hw];exact uj hge _
 have hcl:(fV ns ws ms i).length=(ah ns).length:=by unfold fV;rw[lQ,nk]
 have hmem:w∈cF (ah ns) (fV ns ws ms i):=by
  rw[tL hcl];refine Ue.2 ⟨?_,?_⟩
  ·rw[tK hge];have hp:=jH hge;have h1:=TZ (ws.getD i 0) (show aw (ah ns)≠0 by omega);have h2:=TA (ws.getD i 0) hp;exact RI.2 ⟨q.toNat,RK.2 (by omega),by rw[Sw (by omega),hw]⟩
  ·refine Nb (by rw[hcl,hwf.1]) fun k a b h1 h2=>?_;unfold fV at h1;rw[<- hq,<- hw,oU h2]at h1;cases h1;split
   ·exact .inl (by omega)
   ·exact .inr rfl
 have hz:weight ns w=0:=by
  have hnn:∀ y∈(cF (ah ns) (fV ns ws ms i)).map (weight ns),0<=y:=fun y hy=>by
   obtain⟨u,hu,rfl⟩:=RI.1 hy;exact(tP h (mU hge hcl hu)).1
  exact Na hnn h0 _ (RI.2 ⟨w,hmem,rfl⟩)
 rw[BY,<- hq,<- hw];unfold dJ;rw[BO hwf];simp [hz]
theorem Nd {g:Int}{ns:List NodeP}(h:NetOk g ns)(ws ms:List Int)(h0:eH ns (fL ns ws [])=true):eH ns (fL ns ws ms)=true:=by
 unfold eH at h0 ⊢;refine RN fun hm=>?_;have h1:=of_decide_eq_true h0;obtain⟨r,hr,hz⟩:=RI.1 hm;unfold fL at hr;obtain⟨i,hi,rfl⟩:=RI.1 hr;refine h1 (RI.2 ⟨fV ns ws [] i,?_,Nc h ws ms i hz⟩);unfold fL;exact RI.2 ⟨i,hi,rfl⟩
structure ParIn (cs P:List Int):Prop where
 rng:∀ p∈P,0<=p/\p<cs.length
 len:P.length<=6
 card:∀ c∈cs,2<=c/\c<=4
theorem ParIn.xT {cs P r:List Int}(h:ParIn cs P)(hr:r.length=cs.length){k:Nat}{q:Int}(hq:P[k]?=some q):∃ (j:Nat) (c b:Int),q=j/\cs[j]?=some c/\r[j]?=some b/\(aA cs P)[k]?=some c/\(aA r P)[k]?=some b:=by
 obtain⟨j,rfl,c,hc⟩:=jG (l:=cs) (h.rng q (Ry hq)).1 (h.rng q (Ry hq)).2;obtain⟨b,hb⟩:=get_of_lt (l:=r) (i:=j) (by rw[hr];exact get_lt hc);exact⟨j,c,b,rfl,hc,hb,by rw[km hq,Int.toNat_natCast,aO hc],by rw[km hq,Int.toNat_natCast,aO hb]⟩
theorem ParIn.fits {cs P r:List Int}(h:ParIn cs P)(hc:mZ cs r)(hp:ud P r=true):bE (aA cs P) (aA r P):=by
 refine⟨by rw[dQ,dQ],fun k c v h1 h2=>?_⟩;obtain⟨q,hq⟩:=get_of_lt (l:=P) (i:=k) (by have:=get_lt h1;rw[dQ]at this;exact this);obtain⟨j,c',b,rfl,hc',hb,e1,e2⟩:=h.xT hc.1 hq;rw[h1]at e1;rw[h2]at e2;cases e1;cases e2;have:=hc.2 j _ _ hc' hb;have hp':=of_decide_eq_true hp j (Ry hq);rw[Int.toNat_natCast,aO hb]at hp';omega
theorem ParIn.small {cs P:List Int}(h:ParIn cs P):ew (aA cs P)/\∀ c∈aA cs P,2<=c/\c<=4:=by
 have h4:∀ c∈aA cs P,2<=c/\c<=4:=fun c hc=>by
  obtain⟨q,hq,rfl⟩:=RI.1 hc;obtain⟨j,rfl,c,hc⟩:=jG (l:=cs) (h.rng q hq).1 (h.rng q hq).2;rw[Int.toNat_natCast,aO hc];exact h.card c (Ry hc)
 exact⟨⟨by rw[dQ];have:=h.len;omega,fun x hx=>by have:=h4 x hx;omega⟩,h4⟩
theorem ParIn.prod {cs P:List Int}(h:ParIn cs P)(k:Nat):1<=aw ((aA cs P).take k)/\aw ((aA cs P).take k)<=4096:=xK (fun c hc=>h.small.2 c (RS hc)) (by rw[RH,dQ];have:=h.len;omega)
theorem OQ {cs P r:List Int}(h:ParIn cs P)(hc:mZ cs r)(hp:ud P r=true)(hcl:(cs.length:Int)<2 ^ 38)(H:AHeap)(K:ARes->AHeap->Prop)
  (hK:K (.ret (aa (dN cs P r))) H):ae Try.prog G0 85 [ab cs,ab P,ab r] H K:=by
 have pl:(aA cs P).length=P.length:=dQ _ _;have vl:(aA r P).length=P.length:=dQ _ _;have hf:=h.fits hc hp;have ft:∀ k,bE ((aA cs P).take k) ((aA r P).take k):=fun k=>⟨by simp [pl,vl],fun i c b h1 h2=>by
  rw[Td]at h1 h2;split at h1
  ·rename_i hik;rw[RC hik]at h2;exact hf.2 i c b h1 h2
  ·cases h1⟩
 have hr:∀ k,0<=cO ((aA cs P).take k) ((aA r P).take k)/\cO ((aA cs P).take k) ((aA r P).take k)<4096:=fun k=>by
  rw[kJ (ft k).1];have a:=np (ft k);have b:=h.prod k;omega
 have plen:=h.len;refine ae.bH (n:=29) (rs:=[.tmp 6]) Try.func85 rfl rfl rfl (by decide) (by kernel_rfl) (by simp) ?_;simp only[go_sem];refine W.aI 268432000 (by rfl) (fun ρ H'=>H'=H/\∃ k:Nat,ρ 12=aa k/\k<=P.length/\ρ 7=aa (cO ((aA cs P).take k) ((aA r P).take k))) (fun ρ H=>P.length - (iv (ρ 12)).toNat) ?_ ?_
 ·simp only[go_sem];exact⟨0,rfl,by omega,rfl⟩
 rintro ρ H' ⟨rfl,k,h16,hk,h7⟩;refine W.vs ?_;by_cases hb:(k:Int)<P.length
 ·obtain⟨q,hq⟩:=get_of_lt (l:=P) (i:=k) (by omega);obtain⟨j,c,b,rfl,hcj,hbv,a1,a2⟩:=h.xT hc.1 hq;have a3:=hf.2 k _ _ a1 a2;have c4:=h.card c (Ry hcj);have hne2:=aK hq;have hne3:=aK hbv;have hne:=aK hcj;have hj:(j:Int)<cs.length:=by have:=get_lt hcj;omega
  have hj2:(j:Int)<r.length:=by have:=get_lt hbv;omega
  have w1:=Rw ((k:Int)+1) (by omega);have r1:=hr (k+1);rw[ma a1 a2]at r1;have r0:=hr k;have m0:0<=cO ((aA cs P).take k) ((aA r P).take k)*c:=SD r0.1 (by omega);have w2:=Rw (cO ((aA cs P).take k) ((aA r P).take k)*c) (by omega);have w3:=Rw (cO ((aA cs P).take k) ((aA r P).take k)*c+b) (by omega);simp only[go_sem,h16,hb,hq,hne2];refine W.draw 10 [0,0,0,6,14,31,0,0,192,448] Try.mixed (by kernel_rfl) (by kernel_rfl) ?_;simp only[go_sem,h16,h7,hne,hne3,hj,hj2,hbv,hcj,w1,w2,w3];exact⟨⟨k+1,by simp,by omega,by rw[ma a1 a2]⟩,by omega⟩
 ·simp only[go_sem,h16,h7,hb];rw[RA (by omega),RA (by omega),kJ (by rw[pl,vl])];exact av.mk (Nat.le_refl _) hK
set_option maxHeartbeats 1000000 in
theorem OS {cs P r:List Int}{xs:List (List Int)}{v:Nat}{es:List (Int × Int)}(h:ParIn cs P)(hc:mZ cs r)(hcl:(cs.length:Int)<2 ^ 38)(hv:v<cs.length)(hes:∀ k,0<=eg es k/\eg es k<=1000)(H:AHeap)(bv bp bt bd m:Nat)
  (gv:H.get bv=some (.arr 0 3 [aa v])) (gp:H.get bp=some (.arr 0 39 [ab P])) (gt:H.get bt=some (.arr 0 118 [.yld m])) (gd:H.get bd=some (.arr 0 42 [ab cs,aH xs])) (gm:H.get m=some (.mp es)) (hm:m<H.next)
  (K:ARes->AHeap->Prop) (hK:∀ H',H'.get m=some (.mp (kF cs P v es r))->(∀ j,j≠m->H'.get j=H.get j)->H'.next=H.next->K (.ret (.tup [])) H'):
  ae Try.prog G0 84 [ab r,.ptr bv 0 0,.ptr bp 0 0,.ptr bt 0 0,.ptr bd 0 0] H K:=by
 have lv:=ao gv;have lp:=ao gp;have lt:=ao gt;have ld:=ao gd;obtain⟨x,hx⟩:=get_of_lt (l:=r) (i:=v) (by rw[hc.1];exact hv);obtain⟨c,hcv⟩:=get_of_lt (l:=cs) (i:=v) hv;have hxn:=aK hx;have hcn:=aK hcv;have rl:=hc.1;have hvr:(v:Int)<r.length:=by omega
 have hvc:(v:Int)<cs.length:=by omega
 have c4:=h.card c (Ry hcv);have hx2:=hc.2 v c x hcv hx;have plen:=h.len;have skip:ke cs P v r=none->av Try.prog G0 H K (.tup []) H:=fun hk=>av.mk (Nat.le_refl _) (hK H (by unfold kF;rw[hk];exact gm) (fun _ _=>rfl) rfl);refine ae.bH (n:=44) (rs:=[]) Try.func84 rfl rfl rfl (by decide) (by kernel_rfl) (by simp) ?_;by_cases hx0:x<0
 ·simp only[go_sem,lv,hx,hxn,hvr,hx0];exact skip (by unfold ke;rw[RB];rw[aO hx];exact fun hh=>hh.1 hx0)
 simp only[go_sem,lv,lp,hx,hxn,hvr,hx0];refine W.aI 33521792 (by rfl) (fun ρ H'=>H'=H/\∃ k:Nat,ρ 15=aa k/\k<=P.length/\∀ p∈P.take k,¬ r.getD p.toNat 0<0) (fun ρ H=>P.length - (iv (ρ 15)).toNat) ?_ ?_
 ·simp only[go_sem];exact⟨0,rfl,by omega,by simp⟩
 rintro ρ H' ⟨rfl,k,h15,hk,hall⟩;refine W.vs ?_;by_cases hb:(k:Int)<P.length
 ·obtain⟨q,hq⟩:=get_of_lt (l:=P) (i:=k) (by omega);obtain⟨j,cj,b,rfl,hcj,hbj,a1,a2⟩:=h.xT hc.1 hq;have hqn:=aK hq;have hbn:=aK hbj;have hjr:(j:Int)<r.length:=by have:=get_lt hbj;omega
  by_cases hb0:b<0
  ·simp only[go_sem,h15,hb,hq,hqn,hbj,hbn,hjr,hb0];refine skip ?_;unfold ke;rw[RB];intro hh;have:=of_decide_eq_true hh.2 j (Ry hq);rw[Int.toNat_natCast,aO hbj]at this;exact this hb0
  ·have w1:=Rw ((k:Int)+1) (by omega);simp only[go_sem,h15,hb,hq,hqn,hbj,hbn,hjr,hb0,w1];refine⟨⟨k+1,rfl,by omega,fun p hp=>?_⟩,by omega⟩;rw[aP hq]at hp;rcases RX.1 hp with hp|hp
   ·exact hall p hp
   ·obtain rfl:=List.mem_singleton.1 hp;rw[Int.toNat_natCast,aO hbj];exact hb0
 rw[RA (by omega)]at hall;have hpo:ud P r=true:=RN hall;have hkey:ke cs P v r=some (dN cs P r*c+x):=by unfold ke;rw[RC ⟨by rw[aO hx];exact hx0,hpo⟩,aO hx,aO hcv]
 have hri:=np (h.fits hc hpo);have hpr:=h.prod (aA cs P).length;rw[RA (Nat.le_refl _)]at hpr;have hri':0<=dN cs P r/\dN cs P r<4096:=⟨hri.1,by unfold dN;omega⟩
 have m0:0<=dN cs P r*c:=SD hri'.1 (by omega);have m1:dN cs P r*c<=4096*4:=SX (by omega) c4.2 (by omega) (by omega);have w2:=Rw (dN cs P r*c) (by omega);have w3:=Rw (dN cs P r*c+x) (by omega);have eb:=hes (dN cs P r*c+x);have w4:=Rw (eg es (dN cs P r*c+x)+1) (by omega);have isM:mu Try.prog 118=true:=by kernel_rfl
 have hlk:jg Try.prog H' 118 (.yld m) (.lit (.int .i64 (dN cs P r*c+x))) false=some (.lit (.int .i64 (eg es (dN cs P r*c+x)))):=by
  unfold jg;rw[RC isM];simp only[gm];rw[Cr]
 have hup:iL Try.prog H' 118 (.yld m) (.lit (.int .i64 (dN cs P r*c+x))) (.lit (.int .i64 (eg es (dN cs P r*c+x)+1)))=some (.lit undef,H'.upd m (.mp (kT es (dN cs P r*c+x) (eg es (dN cs P r*c+x)+1)))):=by
  unfold iL;rw[RC isM];simp only[gm]
 simp only[go_sem,h15,hb];refine W.draw 17 [0,0,2,0,0,30,0,64,0,448,960,2046,0,0,12288,28672,65534] Try.mixed (by kernel_rfl) (by kernel_rfl) ?_;simp only[go_sem,lt,ld,lp];refine⟨aa (dN cs P r),[],ed.pure (fun H2=>OQ h hc hpo hcl H2 _ ⟨rfl,rfl⟩),?_⟩;simp only[go_sem,lv,hvc,hvr,hx,hxn,hcv,hcn,w2,w3,w4,hlk,hup];have e:kF cs P v es r=kT es (dN cs P r*c+x) (eg es (dN cs P r*c+x)+1):=by unfold kF;rw[hkey]
 exact av.mk (Nat.le_refl _) (hK _ (by rw[aj,RC rfl,e]) (fun j hj=>by rw[aj,RB hj]) rfl)
set_option maxHeartbeats 2000000 in
theorem OT {cs P:List Int}{xs:List (List Int)}{v:Nat}(h:ParIn cs P)(hd:DataOk cs xs)(hv:v<cs.length)(H:AHeap)(K:ARes->AHeap->Prop)
  (hK:∀ m H' es,Over H H'->H.next<=m->m<H'.next->H'.get m=some (.mp es)->(∀ k,eg es k=iW cs P v xs k)->K (.ret (.tup [.yld m,aa (aw (aA cs P))])) H'):
  ae Try.prog G0 65 [dM cs xs,aa v,ab P] H K:=by
 have c6:=hd.c1;have x40:=hd.x1;have plen:=h.len;refine ae.bH (n:=44) (rs:=[.tmp 6,.tmp 7]) Try.func65 rfl rfl rfl (by decide) (by kernel_rfl) (by simp) ?_;simp only[go_sem,dM,aH];obtain⟨H1,hH1⟩:∃ H1,H1=ext H [.arr 0 42 [ab cs,aH xs],.arr 0 3 [aa v],.arr 0 39 [ab P],.mp [],.arr 0 118 [.yld (H.next+3)]]:=⟨_,rfl⟩
 have b0:H1.get H.next=some (.arr 0 42 [ab cs,aH xs]):=by rw[hH1];exact dV ..
 have b1:H1.get (H.next+1)=some (.arr 0 3 [aa v]):=by rw[hH1];exact bk H _ 1 (by simp)
 have b2:H1.get (H.next+2)=some (.arr 0 39 [ab P]):=by rw[hH1];exact bk H _ 2 (by simp)
 have b3:H1.get (H.next+3)=some (.mp []):=by rw[hH1];exact bk H _ 3 (by simp)
 have b4:H1.get (H.next+4)=some (.arr 0 118 [.yld (H.next+3)]):=by rw[hH1];exact bk H _ 4 (by simp)
 have n1:H1.next=H.next+5:=by rw[hH1];rfl
 have o1:Over H H1:=by rw[hH1];exact .ext _ _
 refine W.en (fun E=>E 3=.ptr H.next 0 0 /\ E 5=.ptr (H.next+2) 0 0 /\ E 8=.ptr (H.next+4) 0 0 /\ E 9=.clo 84 [] [.ptr (H.next+1) 0 0,.ptr (H.next+2) 0 0,.ptr (H.next+4) 0 0,.ptr H.next 0 0] /\ E 18=.vec xs.length (xs.map ab) /\ E 19=aa xs.length /\ E 20=aa 0) (by simp only[go_sem]) fun E ⟨e3,e5,e8,e9,e18,e19,e20⟩=>?_
 show W _ _ _ _ _ _ ⟨E,ext H [.arr 0 42 [ab cs,aH xs],.arr 0 3 [aa v],.arr 0 39 [ab P],.mp [],.arr 0 118 [.yld (H.next+3)]]⟩;rw[<- hH1];clear hH1;refine W.aI 267388928 (by rfl) (fun ρ Hx=>∃ i:Nat,ρ 20=aa i/\i<=xs.length/\Hx.get (H.next+3)=some (.mp ((xs.take i).foldl (kF cs P v) []))/\(∀ j,j≠H.next+3->Hx.get j=H1.get j)/\Hx.next=H1.next) (fun ρ H=>xs.length - (iv (ρ 20)).toNat) ?_ ?_
 ·exact⟨0,e20,by omega,b3,fun _ _=>rfl,rfl⟩
 rintro ρ Hx ⟨i,h20,hi,hm,hold,hnx⟩;refine W.en (fun E1=>E1 3=.ptr H.next 0 0 /\ E1 5=.ptr (H.next+2) 0 0 /\ E1 8=.ptr (H.next+4) 0 0 /\ E1 9=.clo 84 [] [.ptr (H.next+1) 0 0,.ptr (H.next+2) 0 0,.ptr (H.next+4) 0 0,.ptr H.next 0 0] /\ E1 18=.vec xs.length (xs.map ab) /\ E1 19=aa xs.length /\ E1 20=aa i) (by simp only[go_sem,e3,e5,e8,e9,e18,e19,h20]) fun E1 ⟨f3,f5,f8,f9,f18,f19,f20⟩=>?_
 refine W.vs ?_;by_cases hb:(i:Int)<xs.length
 ·obtain⟨r,hr⟩:=get_of_lt (l:=xs) (i:=i) (by omega);have hr':=o0 hr;have hrn:=aK hr';have w1:=Rw ((i:Int)+1) (by omega);have bnd:∀ k,0<=eg ((xs.take i).foldl (kF cs P v) []) k/\eg ((xs.take i).foldl (kF cs P v) []) k<=1000:=fun k=>by
   rw[Cs];have:=xR cs P v (xs.take i) k;rw[RH]at this;have e:eg [] k=0:=rfl;omega
  simp only[go_sem,f9,f18,f19,f20,hb,hr',hrn];refine az.clo (OS h (hd.row r (Ry hr)) (by omega) hv bnd Hx (H.next+1) (H.next+2) (H.next+4) H.next (H.next+3) ((hold _ (by omega)).trans b1) ((hold _ (by omega)).trans b2) ((hold _ (by omega)).trans b4) ((hold _ (by omega)).trans b0) hm (by omega) _ fun H' g1 g2 g3=>⟨trivial,?_⟩);simp only[go_sem,f20,w1];refine⟨by omega,⟨i+1,rfl,by omega,by rw[aP hr,SZ];exact g1,fun j hj=>(g2 j hj).trans (hold j hj),by omega⟩,by rw[h20];simp only[aa,aM];omega⟩
 rw[RA (by omega)]at hm;have l0:=ao ((hold H.next (by omega)).trans b0);have l2:=ao ((hold (H.next+2) (by omega)).trans b2);have l4:=ao ((hold (H.next+4) (by omega)).trans b4);simp only[go_sem,f5,f19,f20,hb,l2];refine W.aI 4396972789760 (by rfl) (fun ρ2 Hy=>Hy=Hx/\∃ k:Nat,ρ2 30=aa k/\k<=P.length/\ρ2 12=aa (aw ((aA cs P).take k))) (fun ρ2 H=>P.length - (iv (ρ2 30)).toNat) ?_ ?_
 ·simp only[go_sem];exact⟨0,rfl,by omega,by simp [gZ]⟩
 rintro ρ2 Hy ⟨rfl,k,h30,hk,h12⟩;refine W.vs ?_;by_cases hb2:(k:Int)<P.length
 ·obtain⟨q,hq⟩:=get_of_lt (l:=P) (i:=k) (by omega);obtain⟨j,rfl,c,hcj⟩:=jG (l:=cs) (h.rng q (Ry hq)).1 (h.rng q (Ry hq)).2;have pk:(aA cs P)[k]?=some c:=by rw[km hq,Int.toNat_natCast,aO hcj]
  have hqn:=aK hq;have hcn:=aK hcj;have hjl:(j:Int)<cs.length:=by have:=get_lt hcj;omega
  have w1:=Rw ((k:Int)+1) (by omega);have pr:=h.prod (k+1);rw[aP pk,iZ]at pr;have w2:=Rw (aw ((aA cs P).take k)*c) (by omega);simp only[go_sem,h30,h12,hb2,hq,hqn,f3,l0,hjl,hcj,hcn,w1,w2];exact⟨⟨k+1,rfl,by omega,by rw[aP pk,iZ]⟩,by omega⟩
 rw[RA (by rw[dQ];omega)]at h12;simp only[go_sem,h30,h12,hb2,f8,l4];refine av.mk (by omega) (hK (H.next+3) Hy _ ⟨by omega,fun id hid=>(hold id (by omega)).trans (o1.old id hid)⟩ (by omega) (by omega) hm fun k=>?_);rw[Cs];have e:eg [] k=0:=rfl;omega
def qW (ps:List Nat):List (List AVal):=(List.range ps.length).map fun (v:Nat)=>[aa (v:Int),ab (cG ps.length (ps.getD v 0))]
theorem Cw {ps:List Nat}{v:Nat}{s:Nat}(h:ps[v]?=some s):(qW ps)[v]?=some [aa v,ab (cG ps.length s)]:=by
 unfold qW;rw[List.getElem?_map,Sm (get_lt h),Option.map_some,aO h]
theorem xU (ps:List Nat):(qW ps).length=ps.length:=by simp [qW]
set_option maxHeartbeats 2000000 in
theorem OU (ps:List Nat)(hp:∀ p∈ps,p<2 ^ 64)(h6:ps.length<=6)(b N:Nat)(hbN:b<N):
  DS Try.prog G0 83 [] [.ptr b 0 0] (qW ps) N (fun H=>H.get b=some (.arr 0 78 [cP ps])) (fun _ _=>True):=by
 intro idy J Stop H K hN hS0 hJw hJ0 hY hK hSt;have l0:=ao (hS0 0 H hJ0);show ae _ _ _ ([.yld idy]++[.ptr b 0 0]) _ _;refine ae.cX (n:=36) (rs:=[]) Try.func83 rfl rfl rfl (by decide) (by simp) ?_;subst hN;refine W.sq ?_;simp only[go_sem,l0];refine W.block ?_;refine W.en (fun E=>E 0=.yld idy /\ E 1=.ptr b 0 0 /\ E 7=cP ps /\ E 8=aa ps.length /\ E 9=aa 0) (by simp only[go_sem]) fun E ⟨e0,e1,e7,e8,e9⟩=>?_
 refine W.aI 68719476344 (by rfl) (fun ρ H'=>∃ v:Nat,ρ 9=aa v/\v<=ps.length/\J v H'/\H.next<=H'.next) (fun ρ H=>ps.length - (iv (ρ 9)).toNat) ?_ ?_
 ·exact⟨0,e9,by omega,hJ0,Nat.le_refl _⟩
 rintro ρ H' ⟨v,h9,hv,hj,hn⟩;refine W.en (fun E1=>E1 0=.yld idy /\ E1 1=.ptr b 0 0 /\ E1 7=cP ps /\ E1 8=aa ps.length /\ E1 9=aa v) (by simp only[go_sem,e0,e1,e7,e8,h9]) fun E1 ⟨f0,f1,f7,f8,f9⟩=>?_
 by_cases hb:(v:Int)<ps.length;rotate_left
 ·refine W.vs ?_;simp only[go_sem,f8,f9,hb];obtain rfl:v=ps.length:=by omega
  exact av.mk hn (hK H' (by rw[xU];exact hj) hn)
 obtain⟨s,hs⟩:=get_of_lt (l:=ps) (i:=v) (by omega);have hs64:=hp s (Ry hs);have hsn:=aK hs;have gb:=hS0 v H' hj;refine W.sq ?_;simp only[go_sem,f8,f9,hb];refine W.sq ?_;simp only[go_sem];refine W.seq (W.block ?_);refine W.sq ?_;simp only[go_sem,f7,f9,hb,hs,hsn];refine W.sq ?_;simp only[go_sem];refine W.en (fun E2=>E2 0=.yld idy /\ E2 1=.ptr b 0 0 /\ E2 3=aa v /\ E2 4=cL s /\ E2 5=.own H'.next 0 0 0 1 /\ E2 7=cP ps /\ E2 8=aa ps.length /\ E2 9=aa v) (by simp only[go_sem,f0,f1,f7,f8,f9]) fun E2 ⟨a0,a1,a3,a4,a5,a7,a8,a9⟩=>?_
 obtain⟨Ha,hHa⟩:∃ Ha,Ha=ext H' [.arr 0 3 []]:=⟨_,rfl⟩
 have na:Ha.next=H'.next+1:=by rw[hHa];rfl
 have oa:Over H' Ha:=by rw[hHa];exact .ext _ _
 have ga:aB H'.next Ha 3 (.own H'.next 0 0 0 1) (ints []):=by rw[hHa];exact aB.new (cs:=[])
 show W _ _ _ _ _ _ ⟨E2,ext H' [.arr 0 3 []]⟩;rw[<- hHa];clear hHa;refine W.cu (fun s'=>s'.ρ 0=.yld idy/\s'.ρ 1=.ptr b 0 0/\s'.ρ 3=aa v/\s'.ρ 5=ab (cG ps.length s)/\s'.ρ 7=cP ps/\s'.ρ 8=aa ps.length/\s'.ρ 9=aa v/\H'.next<s'.H.next/\∀ id,id<H'.next->s'.H.get id=H'.get id)
  (W.rF (Q':=fun e s'=>e=.normal/\s'.ρ 0=.yld idy/\s'.ρ 1=.ptr b 0 0/\s'.ρ 3=aa v/\aB H'.next s'.H 3 (s'.ρ 5) (ints (cG ps.length s))/\s'.ρ 7=cP ps/\s'.ρ 8=aa ps.length/\s'.ρ 9=aa v/\H'.next<s'.H.next/\∀ id,id<H'.next->s'.H.get id=H'.get id) ?_ ?_) ?_
 ·have la:=ao ((oa.old b (by omega)).trans gb);refine W.sq ?_;simp only[go_sem,a1,la];refine W.block ?_;refine W.aI 1073610848 (by rfl) (fun ρ2 Hx=>∃ p:Nat,ρ2 17=aa p/\p<=ps.length/\Ha.next<=Hx.next/\(∀ id,id<H'.next->Hx.get id=H'.get id)/\aB H'.next Hx 3 (ρ2 5) (ints (cG p s))) (fun ρ2 H=>ps.length - (iv (ρ2 17)).toNat) ?_ ?_
  ·simp only[go_sem,a5];exact⟨0,rfl,by omega,fun id h=>oa.old id h,ga⟩
  rintro ρ2 Hx ⟨p,h17,hpl,hnx,hold,hO⟩;refine W.env fun E3 hE3=>?_;have c0:E3 0=.yld idy:=by rw[hE3];simp only[go_sem,a0]
  have c1:E3 1=.ptr b 0 0:=by rw[hE3];simp only[go_sem,a1]
  have c3:E3 3=aa v:=by rw[hE3];simp only[go_sem,a3]
  have c4:E3 4=cL s:=by rw[hE3];simp only[go_sem,a4]
  obtain⟨lv,hlv⟩:∃ lv,lv=ρ2 5:=⟨_,rfl⟩
  have c5:E3 5=lv:=by rw[hE3,hlv];simp only[go_sem]
  rw[<- hlv]at hO;have c7:E3 7=cP ps:=by rw[hE3];simp only[go_sem,a7]
  have c8:E3 8=aa ps.length:=by rw[hE3];simp only[go_sem,a8]
  have c9:E3 9=aa v:=by rw[hE3];simp only[go_sem,a9]
  have c16:E3 16=aa ps.length:=by rw[hE3];simp only[go_sem]
  have c17:E3 17=aa p:=by rw[hE3];simp only[go_sem,h17]
  clear hE3;refine W.vs ?_;by_cases hb2:(p:Int)<ps.length;rotate_left
  ·simp only[go_sem,c0,c1,c3,c5,c7,c8,c9,c16,c17,hb2];obtain rfl:p=ps.length:=(by omega);exact⟨hO,by omega,hold⟩
  have w1:=Rw ((p:Int)+1) (by omega);have s1:=fun t x y=>yB (P:=Try.prog) (t:=t) (x:=x) (y:=y) (k':=.i64) (s:=p) hs64;have s2:=fun t x y=>DM (P:=Try.prog) (t:=t) (x:=x) (y:=y) (s:=p) hs64;cases hbit:s.testBit p
  ·simp only[go_sem,c4,c5,c16,c17,hb2,s1,s2,hbit,w1];exact⟨by omega,⟨p+1,rfl,by omega,hnx,hold,by rw[Cv,hbit];exact hO⟩,by rw[h17];simp only[aa,aM];omega⟩
  ·have pll:=Cu p s;obtain⟨v',H2,hA,hO2,hn2,hpp⟩:=Ny (p:Int) hO (by omega) (by omega);simp only[go_sem,c4,c5,c16,c17,hb2,s1,s2,hbit,w1,hA];exact⟨by omega,⟨p+1,rfl,by omega,by omega,fun id h=>(hpp id (by omega) (hO.ne h)).trans (hold id h),by rw[Cv,hbit,RC rfl];exact hO2⟩,by rw[h17];simp only[aa,aM];omega⟩
 ·rintro e ⟨ρ2,Hb⟩ ⟨rfl,q0,q1,q3,q5,q7,q8,q9,qn,qold⟩;simp only at q0 q1 q3 q5 q7 q8 q9 qn qold;refine⟨_,dv.P3 (s:=⟨ρ2,Hb⟩) (n:=H'.next) (t0:=5) (v':=ab (cG ps.length s)) aZ (q5.qq fun i h=>h),Nat.le_refl _,trivial,rfl,?_⟩;exact⟨q0,q1,q3,rfl,q7,q8,q9,qn,fun id h=>by show (Hb.cut H'.next).get id=_;rw[sD h];exact qold id h⟩
 rintro⟨ρ2,Hb⟩ ⟨q0,q1,q3,q5,q7,q8,q9,qn,qold⟩;simp only at q0 q1 q3 q5 q7 q8 q9 qn qold;have hjb:=hJw v H' Hb hj ⟨by omega,fun id _ h=>qold id h⟩;refine W.vs ?_;simp only[go_sem,q0,q3,q5];refine hY v [aa v,ab (cG ps.length s)] Hb _ (Cw hs) hjb trivial (by omega) (fun H2 hj2 _ hn2=>⟨trivial,?_⟩) (fun H2 hs2 hn2=>⟨trivial,?_⟩)
 ·have w1:=Rw ((v:Int)+1) (by omega);simp only[go_sem];refine W.vs ?_;simp only[go_sem,q9,w1];exact⟨by omega,⟨v+1,rfl,by omega,hj2,by omega⟩,by rw[h9];simp only[aa,aM];omega⟩
 ·simp only[go_sem];exact av.mk (by omega) (hSt H2 hs2 (by omega))
theorem OV (ps:List Nat)(H:AHeap)(K:ARes->AHeap->Prop)(hK:K (.ret (.clo 83 [] [.ptr H.next 0 0])) (ext H [.arr 0 78 [cP ps]])):ae Try.prog G0 64 [cP ps] H K:=by
 refine ae.bH (n:=4) (rs:=[.tmp 2]) Try.func64 rfl rfl rfl (by decide) (by kernel_rfl) (by simp) ?_;simp only[go_sem];exact av.mk (by rw[cJ];omega) hK
theorem OY {c:List Int}{g least:Int}(h:gY c g least)(H:AHeap){v:AVal}(hv:Fz (fun _=>True) H 0 v (ab c)):
  ae Try.prog G0 48 [v,aa g,aa least] H fun r H'=>r=.ret (.tup [ab (jF least (bJ g least c) c),aa 0])/\H'=H:=by
 obtain⟨h1,h2,h3,h4,h5⟩:=id h;refine ae.frame (H:=H) (args:=[v,aa g,aa least]) (args':=[ab c,aa g,aa least]) (v':=.tup [ab (jF least (bJ g least c) c),aa 0]) aZ rfl (fun i hi _=>match i,hi with
  | 0,_=>hv
  | 1,_=>.lit _
  | 2,_=>.lit _) ?_
 refine xZ rfl h1.1 h1.2 h2 h3 ⟨h4,h.le⟩ bU _ (fun hlt=>absurd h5 (by omega)) fun s u H' _ hs ho hu=>⟨_,rfl,.tup rfl fun i hi _=>?_⟩
 match i,hi with
 | 0,_ =>
  rw[<- kI hs];exact hu.pA
 | 1,_=>exact .lit _
def CA (f:Func):Code:=f.body.getD .skip
def qX:Code->Option Code
 | .seq a b=>match qX a with
  | some c=>some c
  | none=>qX b
 | .block _ c=>qX c
 | .rangeFunc _ _ _ body=>some body
 | _=>none
set_option maxHeartbeats 8000000 in
theorem OZ {cs:List Int}{xs:List (List Int)}{grain prior least:Int}{n v s:Nat}(hd:DataOk cs xs)(hw:nf cs grain prior least)(hn:n=cs.length)(hv:v<n)(hs:s<2 ^ n)
  {LB D GB PB LeB NT NB lo:Nat} {Bb:Blk} {Hr:AHeap} {C:List AVal} {J:AHeap->Prop} {Stop:AX->AHeap->Prop} {E:Nat->AVal}
  (hBb:∃ st pd n' en ps' as' bo,Bb=Blk.loop st pd n' en ps' as' bo) (hLB:Hr.get LB=some Bb) (hlt:LB<Hr.next) (hlo:lo<=Hr.next)
  (gD:Hr.get D=some (.arr 0 42 [ab cs,aH xs])) (gG:Hr.get GB=some (.arr 0 3 [aa grain])) (gP:Hr.get PB=some (.arr 0 3 [aa prior])) (gL:Hr.get LeB=some (.arr 0 3 [aa least]))
  (gT:Hr.get NT=some (.arr 0 35 [aa grain,.own NB 0 0 n 3])) (gB:Hr.get NB=some (.arr 0 69 C)) (hC:C.length=n*3) (hCf:∀ c∈C,∀ (S:Nat->Prop) (Hz:AHeap) (nx:Nat),Fz S Hz nx c c)
  (hids:D<Hr.next/\GB<Hr.next/\PB<Hr.next/\LeB<Hr.next/\NT<Hr.next/\NB<Hr.next) (hne:NB≠LB/\NB≠D/\NB≠GB/\NB≠PB/\NB≠LeB/\NB≠NT)
  (e5:E 5=.ptr D 0 0) (e7:E 7=.ptr GB 0 0) (e8:E 8=.ptr PB 0 0) (e9:E 9=.ptr LeB 0 0) (e15:E 15=.ptr NT 0 0) (e16:E 16=aa v) (e17:E 17=ab (cG n s))
  (hJ:∀ Hf x,FitN cs xs grain prior least n v s x->Hr.next<=Hf.next->(∀ id,id<Hr.next->id≠NB->Hf.get id=Hr.get id)->Hf.get NB=some (.arr 0 69 (setAt C (v*3) x.cells))->J Hf)
  (code:Code) (hcode:qX (CA Try.f33)=some code):W Try.prog G0 146 (some LB) code (kQ LB Bb lo J Stop) ⟨E,Hr⟩:=by
 simp only[qX,CA,Try.f33,Option.getD_some]at hcode;obtain rfl:=Option.some.inj hcode;clear hcode;obtain⟨st,pd,n',en,ps',as',bo,hBe⟩:=hBb;have rdH:∀ Hz:AHeap,Hz.get LB=some Bb->dp Hz (some LB):=fun Hz h=>⟨st,pd,n',en,ps',as',bo,by rw[h,hBe]⟩
 obtain⟨⟨g1,g60⟩,⟨p0,p10⟩,⟨l0,lg⟩,lc⟩:=hw;obtain⟨P,hP⟩:∃ P,P=cG n s:=⟨_,rfl⟩
 rw[<- hP]at e17;have c6:=hd.c1;have hpar:ParIn cs P:=⟨fun p hp=>by rw[hP]at hp;have:=Ct p hp;omega,by rw[hP];have:=Cu n s;omega,hd.card⟩
 obtain⟨c,hcv⟩:=get_of_lt (l:=cs) (i:=v) (by omega);have hcn:=aK hcv;have c4:=hd.card c (Ry hcv);have hcd:=aO (d:=0) hcv;have hvc:(v:Int)<cs.length:=by omega
 have lD:=ao gD;obtain⟨R,hR⟩:∃ R:Nat,(R:Int)=aw (aA cs P):=⟨(aw (aA cs P)).toNat,by have:=hpar.prod (aA cs P).length;rw[RA (Nat.le_refl _)]at this;omega⟩
 have hRb:R<=4096:=by have:=hpar.prod (aA cs P).length;rw[RA (Nat.le_refl _)]at this;omega
 obtain⟨cn,hcn'⟩:∃ cn:Nat,(cn:Int)=c:=⟨c.toNat,by omega⟩
 obtain⟨T,hT⟩:∃ T:Nat->List Int,T=fun j=>fM cs P v xs prior j:=⟨_,rfl⟩
 have Tl:∀ j,(T j).length=cn:=fun j=>by rw[hT];show (fM _ _ _ _ _ _).length=_;rw[ue,hcd];omega
 have Tg:∀ j k,k<cn->(T j)[k]?=some (prior+(iW cs P v xs ((j:Int)*c+k):Int)):=fun j k hk=>by rw[hT];show (fM _ _ _ _ _ _)[k]?=_;rw[Cx (by rw[hcd];omega),hcd]
 have Tr:∀ j,∀ x∈T j,0<=x/\x<=50:=fun j=>by rw[hT];exact OW ⟨p0,p10⟩ hd.x1
 refine W.rF (Q':=fun e s2=>e=.normal/\Hr.next<=s2.H.next/\(∀ id,id<Hr.next->id≠NB->s2.H.get id=Hr.get id)/\∃ (rv:AVal) (rows:List (List Int)),s2.H.get NB=some (.arr 0 69 (setAt C (v*3) [aa c,ab P,rv]))/\aB Hr.next s2.H 39 rv (rows.map ab)/\rows.length=R/\∀ (j:Nat) (r:List Int),rows[j]?=some r->eM least (bJ grain least (T j)) (T j) r) ?_ ?_
 ·refine W.block ?_;refine W.sq ?_;simp only[go_sem,e5,e16,e17,lD,hcv,hcn,hvc];obtain⟨H1,hH1⟩:∃ H1,H1=ext Hr [.arr 0 69 [.lit (.int .i64 c),.vec P.length (ints P),.lit (.slice none 0 0)]]:=⟨_,rfl⟩
  have n1:H1.next=Hr.next+1:=by rw[hH1];rfl
  have o1:Over Hr H1:=by rw[hH1];exact .ext _ _
  have g18:H1.get Hr.next=some (.arr 0 69 [.lit (.int .i64 c),.vec P.length (ints P),.lit (.slice none 0 0)]):=by rw[hH1];exact cq
  refine W.en (fun E1=>E1 5=.ptr D 0 0 /\ E1 7=.ptr GB 0 0 /\ E1 8=.ptr PB 0 0 /\ E1 9=.ptr LeB 0 0 /\ E1 15=.ptr NT 0 0 /\ E1 16=aa v /\ E1 17=ab P /\ E1 18=.ptr Hr.next 0 0) (by simp only[go_sem,e5,e7,e8,e9,e15,e16,e17]) fun E1 ⟨f5,f7,f8,f9,f15,f16,f17,f18⟩=>?_
  rw[<- hH1];clear hH1;have lD1:=(o1.live (g:=0) hids.1).trans lD;refine W.sq ?_;simp only[go_sem,f5,f16,f17,lD1];refine az.clo (OT hpar hd (v:=v) (by omega) _ _ fun m H4 es o4 m1 m2 gm hes=>⟨rdH _ ((o4.old _ (by omega)).trans ((o1.old _ hlt).trans hLB)),?_⟩);simp only[go_sem];refine W.env fun E2 hE2=>?_;have a5:E2 5=.ptr D 0 0:=by rw[hE2];simp only[go_sem,f5]
  have a7:E2 7=.ptr GB 0 0:=by rw[hE2];simp only[go_sem,f7]
  have a8:E2 8=.ptr PB 0 0:=by rw[hE2];simp only[go_sem,f8]
  have a9:E2 9=.ptr LeB 0 0:=by rw[hE2];simp only[go_sem,f9]
  have a15:E2 15=.ptr NT 0 0:=by rw[hE2];simp only[go_sem,f15]
  have a16:E2 16=aa v:=by rw[hE2];simp only[go_sem,f16]
  have a18:E2 18=.ptr Hr.next 0 0:=by rw[hE2];simp only[go_sem,f18]
  have a19:E2 19=.yld m:=by rw[hE2];simp only[go_sem]
  have a20:E2 20=aa R:=by rw[hE2,hR];simp only[go_sem]
  clear hE2;have o4n:=o4.next;have h4:∀ id,id<Hr.next->H4.get id=Hr.get id:=fun id h=>(o4.old id (by omega)).trans (o1.old id h);have g418:H4.get Hr.next=some (.arr 0 69 [.lit (.int .i64 c),.vec P.length (ints P),.lit (.slice none 0 0)]):=(o4.old _ (by omega)).trans g18;refine W.cu (fun s'=>s'.ρ 15=.ptr NT 0 0/\s'.ρ 16=aa v/\s'.ρ 18=.ptr Hr.next 0 0/\H4.next<=s'.H.next/\(∀ id,id<H4.next->id≠Hr.next->s'.H.get id=H4.get id)/\∃ (rv:AVal) (rows:List (List Int)),s'.H.get Hr.next=some (.arr 0 69 [.lit (.int .i64 c),.vec P.length (ints P),rv])/\aB H4.next s'.H 39 rv (rows.map ab)/\rows.length=R/\∀ (j:Nat) (r:List Int),rows[j]?=some r->eM least (bJ grain least (T j)) (T j) r) ?_ ?_
  ·refine W.sq ?_;simp only[go_sem,a20];refine W.block ?_;refine W.aI 1393796574908005490020953863365335571234816 (by rfl) (fun ρ Hy=>∃ (j:Nat) (rv:AVal) (rows:List (List Int)),ρ 97=aa j/\j<=R/\H4.next<=Hy.next/\(∀ id,id<H4.next->id≠Hr.next->Hy.get id=H4.get id)/\Hy.get Hr.next=some (.arr 0 69 [.lit (.int .i64 c),.vec P.length (ints P),rv])/\aB H4.next Hy 39 rv (rows.map ab)/\rows.length=j/\∀ (i:Nat) (r:List Int),rows[i]?=some r->eM least (bJ grain least (T i)) (T i) r) (fun ρ H=>R - (iv (ρ 97)).toNat) ?_ ?_
   ·simp only[go_sem];exact⟨0,_,[],rfl,by omega,g418,.nil,rfl,fun i r h=>by simp at h⟩
   rintro ρ Hy ⟨j,rv,rows,h97,hj,hny,holdy,gy,hD2,hrl,hrow⟩;refine W.env fun E3 hE3=>?_;have b7:E3 7=.ptr GB 0 0:=(by rw[hE3];simp only[go_sem,a7]);have b8:E3 8=.ptr PB 0 0:=(by rw[hE3];simp only[go_sem,a8]);have b9:E3 9=.ptr LeB 0 0:=(by rw[hE3];simp only[go_sem,a9]);have b15:E3 15=.ptr NT 0 0:=(by rw[hE3];simp only[go_sem,a15]);have b16:E3 16=aa v:=(by rw[hE3];simp only[go_sem,a16]);have b18:E3 18=.ptr Hr.next 0 0:=(by rw[hE3];simp only[go_sem,a18]);have b19:E3 19=.yld m:=(by rw[hE3];simp only[go_sem,a19]);have b96:E3 96=aa R:=(by rw[hE3];simp only[go_sem]);have b97:E3 97=aa j:=(by rw[hE3];simp only[go_sem,h97]);clear hE3;have ly:=ao gy;by_cases hb:(j:Int)<R;rotate_left
   ·refine W.vs ?_;simp only[go_sem,b15,b16,b18,b96,b97,hb];exact⟨hny,holdy,rv,rows,gy,hD2,by omega,hrow⟩
   refine W.sq ?_;simp only[go_sem,b96,b97,hb];refine W.sq ?_;simp only[go_sem];refine W.seq (W.block ?_);refine W.sq ?_;simp only[go_sem,b97];refine W.sq ?_;simp only[go_sem,b18,ly,<- hcn'];refine⟨by omega,?_⟩;obtain⟨Hc,hHc⟩:∃ Hc,Hc=ext Hy [.arr 0 3 (List.replicate cn (AVal.lit (.int .i64 0)))]:=⟨_,rfl⟩
   have nc:Hc.next=Hy.next+1:=(by rw[hHc];rfl);have oc:Over Hy Hc:=(by rw[hHc];exact .ext _ _);have gc0:Hc.get Hy.next=some (.arr 0 3 (ints (List.replicate cn 0))):=(by rw[hHc,show ints (List.replicate cn 0)=List.replicate cn (AVal.lit (.int .i64 0)) by simp [ints,aa]];exact cq);refine W.env fun E4 hE4=>?_;have d7:E4 7=.ptr GB 0 0:=(by rw[hE4];simp only[go_sem,b7]);have d8:E4 8=.ptr PB 0 0:=(by rw[hE4];simp only[go_sem,b8]);have d9:E4 9=.ptr LeB 0 0:=(by rw[hE4];simp only[go_sem,b9]);have d15:E4 15=.ptr NT 0 0:=(by rw[hE4];simp only[go_sem,b15]);have d16:E4 16=aa v:=(by rw[hE4];simp only[go_sem,b16]);have d18:E4 18=.ptr Hr.next 0 0:=(by rw[hE4];simp only[go_sem,b18]);have d19:E4 19=.yld m:=(by rw[hE4];simp only[go_sem,b19]);have d21:E4 21=aa j:=(by rw[hE4];simp only[go_sem]);have d22:E4 22=.own Hy.next 0 0 cn 1:=(by rw[hE4];simp only[go_sem]);have d96:E4 96=aa R:=(by rw[hE4];simp only[go_sem,b96]);have d97:E4 97=aa j:=(by rw[hE4];simp only[go_sem,b97]);clear hE4;rw[<- hHc];clear hHc;have hpl:∀ id,id<Hr.next->Hc.get id=Hr.get id:=fun id h=>(oc.old id (by omega)).trans ((holdy id (by omega) (by omega)).trans (h4 id h));refine W.cu (fun s'=>s'.ρ 7=.ptr GB 0 0/\s'.ρ 9=.ptr LeB 0 0/\s'.ρ 15=.ptr NT 0 0/\s'.ρ 16=aa v/\s'.ρ 18=.ptr Hr.next 0 0/\s'.ρ 22=.own Hy.next 0 0 cn 1/\s'.ρ 96=aa R/\s'.ρ 97=aa j/\s'.H.next=Hc.next/\(∀ id,id<Hy.next->s'.H.get id=Hy.get id)/\s'.H.get Hy.next=some (.arr 0 3 (ints (T j)))) ?_ ?_
   ·have lc0:=ao gc0;refine W.sq ?_;simp only[go_sem,d22,lc0];refine W.block ?_;refine W.aI 5316871418320456188274380346627194880 (by rfl) (fun ρ2 Hz=>∃ (k:Nat) (C2:List Int),ρ2 105=aa k/\k<=cn/\Hz.next=Hc.next/\(∀ id,id<Hy.next->Hz.get id=Hy.get id)/\Hz.get Hy.next=some (.arr 0 3 (ints C2))/\C2.length=cn/\C2.take k=(T j).take k) (fun ρ2 H=>cn - (iv (ρ2 105)).toNat) ?_ ?_
    ·simp only[go_sem];exact⟨0,_,rfl,by omega,fun id h=>oc.old id h,gc0,by simp,rfl⟩
    rintro ρ2 Hz ⟨k,C2,h105,hk,hnz,holdz,gz,hc2,htk⟩;have hold2:∀ id,id<Hr.next->Hz.get id=Hr.get id:=fun id h=>(holdz id (by omega)).trans ((holdy id (by omega) (by omega)).trans (h4 id h));have rdz:dp Hz (some LB):=rdH _ ((hold2 _ hlt).trans hLB);refine W.env fun E5 hE5=>?_;have k7:E5 7=.ptr GB 0 0:=(by rw[hE5];simp only[go_sem,d7]);have k8:E5 8=.ptr PB 0 0:=(by rw[hE5];simp only[go_sem,d8]);have k9:E5 9=.ptr LeB 0 0:=(by rw[hE5];simp only[go_sem,d9]);have k15:E5 15=.ptr NT 0 0:=(by rw[hE5];simp only[go_sem,d15]);have k16:E5 16=aa v:=(by rw[hE5];simp only[go_sem,d16]);have k18:E5 18=.ptr Hr.next 0 0:=(by rw[hE5];simp only[go_sem,d18]);have k19:E5 19=.yld m:=(by rw[hE5];simp only[go_sem,d19]);have k21:E5 21=aa j:=(by rw[hE5];simp only[go_sem,d21]);have k22:E5 22=.own Hy.next 0 0 cn 1:=(by rw[hE5];simp only[go_sem,d22]);have k96:E5 96=aa R:=(by rw[hE5];simp only[go_sem,d96]);have k97:E5 97=aa j:=(by rw[hE5];simp only[go_sem,d97]);have k104:E5 104=aa cn:=(by rw[hE5];simp only[go_sem]);have k105:E5 105=aa k:=(by rw[hE5];simp only[go_sem,h105]);clear hE5;have lz:=ao gz;have lz18:=ao ((holdz _ (by omega)).trans gy);have lzP:=ao ((hold2 _ hids.2.2.1).trans gP);have gzm:Hz.get m=some (.mp es):=(holdz m (by omega)).trans ((holdy m (by omega) (by omega)).trans gm);refine W.vs ?_;by_cases hb3:(k:Int)<cn;rotate_left
    ·simp only[go_sem,k7,k9,k15,k16,k18,k22,k96,k97,k104,k105,hb3];obtain rfl:k=cn:=(by omega);rw[RA (by omega),RA (by rw[Tl];exact Nat.le_refl _)]at htk;rw[htk]at gz;exact⟨hnz,holdz,gz⟩
    have ct:=xR cs P v xs ((j:Int)*c+k);have x40:=hd.x1;have mj:0<=(j:Int)*c/\(j:Int)*c<=4096*4:=⟨SD (by omega) (by omega),SX (by omega) (by omega) (by omega) (by omega)⟩
    have u1:=Rw ((j:Int)*c) (by omega);have u2:=Rw ((j:Int)*c+k) (by omega);have u3:=Rw (prior+(iW cs P v xs ((j:Int)*c+k):Int)) (by omega);have w1:=Rw ((k:Int)+1) (by omega);have isM:mu Try.prog 118=true:=(by kernel_rfl);have hlk:jg Try.prog Hz 118 (.yld m) (.lit (.int .i64 ((j:Int)*c+k))) false=some (.lit (.int .i64 (iW cs P v xs ((j:Int)*c+k):Int))):=by
     unfold jg;rw[RC isM];simp only[gzm];rw[Cr,hes]
    have hkc2:(k:Int)<C2.length:=(by omega);simp only[go_sem,k8,k18,k19,k21,k22,k104,k105,hb3,lz,lz18,lzP,u1,u2,hlk,u3,hc2,w1];refine⟨by omega,by rw[aL];omega,rdH _ (by rw[aj,RB (by omega)];exact(hold2 _ hlt).trans hLB),⟨k+1,C2.set k (prior+(iW cs P v xs ((j:Int)*c+k):Int)),rfl,by omega,by rw[aL];exact hnz,fun id h=>by rw[aj,RB (by omega)];exact holdz id h,by rw[aj,RC rfl,fa (by omega)],by rw[RY];exact hc2,DP htk (by omega) (Tg j k (by omega))⟩,by rw[h105];simp only[aa,aM];omega⟩
   rintro⟨ρ2,Hz⟩ ⟨m7,m9,m15,m16,m18,m22,m96,m97,hnz,holdz,gz⟩;simp only at m7 m9 m15 m16 m18 m22 m96 m97 hnz holdz gz;have hold2:∀ id,id<Hr.next->Hz.get id=Hr.get id:=fun id h=>(holdz id (by omega)).trans ((holdy id (by omega) (by omega)).trans (h4 id h));have lzG:=ao ((hold2 _ hids.2.1).trans gG);have lzL:=ao ((hold2 _ hids.2.2.2.1).trans gL);refine W.sq ?_;simp only[go_sem,m7,m9,m22,lzG,lzL];have lcc:=lc c (Ry hcv);have rok:gY (T j) grain least:=⟨by rw[Tl];omega,fun x h=>by have:=Tr j x h;omega,by omega,by omega,by rw[Tl,hcn'];omega⟩
   obtain⟨q,hq⟩:∃ q,q=jF least (bJ grain least (T j)) (T j):=⟨_,rfl⟩
   have hS:eM least (bJ grain least (T j)) (T j) q:=by
    obtain⟨s',hs'⟩:=qY least (bJ grain least (T j)) (c:=T j) (by rw[Tl];omega);rw[hq,<- kI hs'];exact hs'
   refine az.clo ((OY rok Hz (Fz.ints (S:=fun _=>True) trivial gz (by rw[Tl]) fun j' hj'=>by rw[Nat.zero_add,gI];simp only[Rz hj',Option.map_some])).mono ?_);rintro rres Hq ⟨hrq,hHq⟩;rw[hHq,hrq,<- hq];refine⟨rdH _ ((hold2 _ hlt).trans hLB),?_⟩;simp only[go_sem];have oyz:Over Hy Hz:=⟨by omega,holdz⟩
   have hOz:aB H4.next Hz 39 rv (rows.map ab):=hD2.keep (Nat.le_refl _) (by omega) fun id _ _ h3 _ _=>holdz id h3;obtain⟨rv2,H6,hA,hD6,hn6,hp⟩:=Dy (ab q) rfl hOz (by omega) (by rw[RJ];omega);simp only[ab]at hA;have l5:=ao ((holdz Hr.next (by omega)).trans gy);have l5e:∀ L,(ext Hz L).live Hr.next 0=_:=fun L=>(jU (by omega)).trans l5;have l6:H6.live Hr.next 0=_:=ao ((hp _ (by omega) (aB.ne hOz (by omega))).trans ((holdz Hr.next (by omega)).trans gy));have rvo0:=hOz.one;have rvc0:=hOz.cells;have rvo:=hD6.one;have rvc:=hD6.cells;have w1:=Rw ((j:Int)+1) (by omega);refine W.vs ?_;simp only[go_sem,m18,l5,l6,hA,rvo,rvc];refine W.vs ?_;simp only[go_sem,m97,w1];refine⟨by rw[aL];omega,rdH _ (by rw[aj,RB (by omega),hp _ (by omega) (aB.ne hOz (by omega)),holdz _ (by omega),holdy _ (by omega) (by omega),h4 _ hlt];exact hLB),⟨j+1,rv2,rows++[q],rfl,by omega,by rw[aL];omega,fun id h1 h2=>by rw[aj,RB h2,hp _ (by omega) (aB.ne hOz h1),holdz _ (by omega)];exact holdy id h1 h2,by rw[aj,RC rfl,hcn'],?_,by simp [hrl],fun i r hr=>?_⟩,by rw[h97];simp only[aa,aM];omega⟩
   ·rw[SW];exact hD6.keep (Nat.le_refl _) (by rw[aL];omega) fun id h1 _ h3 _ _=>by rw[aj,RB (by omega)]
   ·rcases RP i rows.length with h|h
    ·rw[Si h]at hr;exact hrow i r hr
    ·have:=get_lt hr;rw[List.length_append,Uz]at this;obtain rfl:i=j:=(by omega);rw[Sb h,hrl,Tx]at hr;cases hr;exact hS
  rintro⟨ρ3,H7⟩ ⟨q15,q16,q18,n7,hold7,rv,rows,g7,hD7,hrl,hrow⟩;simp only at q15 q16 q18 n7 hold7 g7 hD7;have hold8:∀ id,id<Hr.next->H7.get id=Hr.get id:=fun id h=>(hold7 id (by omega) (by omega)).trans (h4 id h);have l7:=ao g7;have lT7:=ao ((hold8 _ hids.2.2.2.2.1).trans gT);have lB7:=ao ((hold8 _ hids.2.2.2.2.2).trans gB);have rvo:=hD7.one;have rvc:=hD7.cells;have hvn:(v:Int)<n:=by omega
  have hCv:v*3+3<=C.length:=by omega
  refine W.vs ?_;simp only[go_sem,q15,q16,q18,l7,lT7,lB7,rvo,hvn,hCv];exact⟨by rw[aL];omega,fun id h1 h2=>by rw[aj,RB h2];exact hold8 id h1,rv,rows,by rw[aj,RC rfl],hD7.keep (by omega) (by rw[aL];omega) fun id h1 _ h3 _ _=>by rw[aj,RB (by omega)],hrl,hrow⟩
 ·rintro e ⟨ρ2,Hb⟩ ⟨rfl,qn,qold,rv,rows,qB,qD,qrl,qrow⟩;simp only at qn qold qB qD;have hob:(setAt C (v*3) [aa c,ab P,aH rows]).length=(setAt C (v*3) [aa c,ab P,rv]).length:=by simp [setAt]
  refine⟨⟨ρ2,Hb.eJ Hr.next NB (.arr 0 69 (setAt C (v*3) [aa c,ab P,aH rows]))⟩,dv.eJ aZ qB hids.2.2.2.2.2 hob ?_,Nat.le_refl _,rdH _ (by show (Hb.eJ _ _ _).get LB=_;rw[uv hlt (fun e=>hne.1 e.symm)];exact(qold _ hlt (fun e=>hne.1 e.symm)).trans hLB),?_⟩
  ·have hfz:Fz (fun id=>Hr.next<=id) Hb Hb.next rv (aH rows):=aB.B5 qD fun i h=>h;have e1:setAt C (v*3) [aa c,ab P,rv]=(C.take (v*3)++[aa c,ab P])++rv :: C.drop (v*3+3):=(by simp [setAt]);have e2:setAt C (v*3) [aa c,ab P,aH rows]=(C.take (v*3)++[aa c,ab P])++aH rows :: C.drop (v*3+3):=(by simp [setAt]);rw[e1,e2];refine Q8 (fun z hz=>?_) hfz fun z hz=>hCf z (SR hz) _ _ _;rcases RX.1 hz with hz|hz
   ·exact hCf z (RS hz) _ _ _
   ·simp only[List.mem_cons,List.not_mem_nil,or_false]at hz;rcases hz with rfl|rfl
    ·exact .lit _
    ·exact .dT _
  ·refine⟨by show (Hb.eJ _ _ _).get LB=_;rw[uv hlt (fun e=>hne.1 e.symm)];exact(qold _ hlt (fun e=>hne.1 e.symm)).trans hLB,by show lo<=Hb.next;omega,?_⟩;refine hJ _ ⟨c,P,rows⟩ ⟨by rw[hcd],hP,by rw[<- hP];show (rows.length:Int)=_;rw[qrl,hR],fun j r hr=>?_⟩ (by show Hr.next<=Hb.next;exact qn) (fun id h1 h2=>by rw[uv h1 h2];exact qold id h1 h2) (C8 hids.2.2.2.2.2);have:=qrow j r hr;rw[hT,hP]at this;exact this
theorem CB {cs:List Int}{grain least:Int}(hc:∀ c∈cs,2<=c/\c<=4):(∀ c∈cs,least<=grain / c)↔∀ c∈cs,least*c<=grain:=by
 constructor
 ·intro h c hm;exact(Tw (by have:=hc c hm;omega)).1 (h c hm)
 ·intro h c hm;exact(Tw (by have:=hc c hm;omega)).2 (h c hm)
set_option maxHeartbeats 4000000 in
theorem CC (cs:List Int)(xs:List (List Int))(hf:j9 cs xs)(ps:List Nat)(hpl:(ps.length:Int)<2 ^ 39)(hp:∀ p∈ps,p<2 ^ 64)(grain prior least:Int)(H:AHeap)(K:ARes->AHeap->Prop)
  (hK:∀ g ns,(iX cs xs ps grain prior least=0->g=grain/\kf cs xs ps grain prior least ps.length ns)->(iX cs xs ps grain prior least≠0->g=0/\ns=[])->K (.ret (.tup [bP g ns,aa (iX cs xs ps grain prior least)])) H):
  ae Try.prog G0 33 [dM cs xs,cP ps,aa grain,aa prior,aa least] H K:=by
 refine ae.clo ⟨_,Try.func33,rfl,rfl⟩ fun hcl=>?_;have hf':=hf;obtain⟨f1,f2,f3⟩:=hf;have fail:∀ (c:Int) (Hx:AHeap),iX cs xs ps grain prior least=c->c≠0->Over H Hx->av Try.prog G0 H K (.tup [.agg [.lit (.int .i64 0),.lit (.slice none 0 0)],.lit (.int .i64 c)]) Hx:=fun c Hx h h0 o=>by
  have:=hK 0 [] (fun e=>absurd (h.symm.trans e) h0) (fun _=>⟨rfl,rfl⟩);rw[h]at this;exact av.cK aZ hcl o (uf .nil) this
 refine ae.cX (n:=146) (rs:=[.cell 10 35,.cell 11 47]) Try.func33 rfl rfl rfl (by decide) (by simp) ?_;refine W.sq ?_;simp only[go_sem,dM,aH];obtain⟨H1,hH1⟩:∃ H1,H1=ext H [.arr 0 42 [ab cs,aH xs],.arr 0 3 [aa grain],.arr 0 3 [aa prior],.arr 0 3 [aa least],.arr 0 35 [.lit (.int .i64 0),.lit (.slice none 0 0)],.arr 0 47 [.lit (.int .i64 0)]]:=⟨_,rfl⟩
 have b0:H1.get H.next=some (.arr 0 42 [ab cs,aH xs]):=by rw[hH1];exact dV ..
 have b1:H1.get (H.next+1)=some (.arr 0 3 [aa grain]):=by rw[hH1];exact bk H _ 1 (by simp)
 have b2:H1.get (H.next+2)=some (.arr 0 3 [aa prior]):=by rw[hH1];exact bk H _ 2 (by simp)
 have b3:H1.get (H.next+3)=some (.arr 0 3 [aa least]):=by rw[hH1];exact bk H _ 3 (by simp)
 have b4:H1.get (H.next+4)=some (.arr 0 35 [.lit (.int .i64 0),.lit (.slice none 0 0)]):=by rw[hH1];exact bk H _ 4 (by simp)
 have b5:H1.get (H.next+5)=some (.arr 0 47 [.lit (.int .i64 0)]):=by rw[hH1];exact bk H _ 5 (by simp)
 have n1:H1.next=H.next+6:=by rw[hH1];rfl
 have o1:Over H H1:=by rw[hH1];exact .ext _ _
 refine W.en (fun E=>E 1=cP ps /\ E 5=.ptr H.next 0 0 /\ E 7=.ptr (H.next+1) 0 0 /\ E 8=.ptr (H.next+2) 0 0 /\ E 9=.ptr (H.next+3) 0 0 /\ E 10=.ptr (H.next+4) 0 0 /\ E 11=.ptr (H.next+5) 0 0) (by simp only[go_sem]) fun E ⟨e1,e5,e7,e8,e9,e10,e11⟩=>?_
 show W _ _ _ _ _ _ ⟨E,ext H [.arr 0 42 [ab cs,aH xs],.arr 0 3 [aa grain],.arr 0 3 [aa prior],.arr 0 3 [aa least],.arr 0 35 [.lit (.int .i64 0),.lit (.slice none 0 0)],.arr 0 47 [.lit (.int .i64 0)]]⟩;rw[<- hH1];clear hH1;have l0:=ao b0;have l1:=ao b1;have l2:=ao b2;have l3:=ao b3;have l4:=ao b4;have l5:=ao b5;have u5:∀ b,(H1.upd (H.next+4) b).live (H.next+5) 0=_:=fun b=>(mn (by omega)).trans l5;have u4:∀ b c,((H1.upd (H.next+4) b).upd (H.next+5) c).live (H.next+4) 0=(H1.upd (H.next+4) b).live (H.next+4) 0:=fun b c=>mn (by omega);have oF:∀ b c,Over H ((H1.upd (H.next+4) b).upd (H.next+5) c):=fun b c=>(o1.upd (by omega) _).upd (by omega) _;refine W.sq ?_;simp only[go_sem,e5,l0];refine az.clo (B4 cs xs hf' _ _ ⟨trivial,?_⟩);cases hD:fW cs xs
 ·simp only[go_sem,e10,e11,l4,u5,u4];exact fail 250 _ (OX hD) (by decide) (oF _ _)
 simp only[go_sem];have dok:=B3.1 hD;have c6:=dok.c1;have bad:¬ (jD ps cs.length/\nf cs grain prior least)->∀ b c,av Try.prog G0 H K (.tup [.agg [.lit (.int .i64 0),.lit (.slice none 0 0)],.lit (.int .i64 2)]) ((H1.upd (H.next+4) b).upd (H.next+5) c):=fun h b c=>fail 2 _ (Cy hD h) (by decide) (oF b c);refine W.sq ?_;simp only[go_sem,e1,e5,l0];refine az.clo (OL ps cs.length c6 hpl hp _ _ ⟨trivial,?_⟩);cases hG:lU ps cs.length
 ·simp only[go_sem,e10,e11,l4,u5,u4];exact bad (fun h=>by rw[Cp h.1]at hG;cases hG) _ _
 have gok:=OK.1 hG;by_cases c1:grain<1
 ·simp only[go_sem,e7,l1,e10,e11,l4,u5,u4,c1];exact bad (fun h=>by have:=h.2.1;omega) _ _
 by_cases c2:grain > 60
 ·simp only[go_sem,e7,l1,e10,e11,l4,u5,u4,c1,c2];exact bad (fun h=>by have:=h.2.1;omega) _ _
 simp only[go_sem,e7,l1,c1,c2];refine W.en (fun E2=>E2 1=cP ps /\ E2 5=.ptr H.next 0 0 /\ E2 7=.ptr (H.next+1) 0 0 /\ E2 8=.ptr (H.next+2) 0 0 /\ E2 9=.ptr (H.next+3) 0 0 /\ E2 10=.ptr (H.next+4) 0 0 /\ E2 11=.ptr (H.next+5) 0 0) (by simp only[go_sem,e1,e5,e7,e8,e9,e10,e11]) fun E2 ⟨a1,a5,a7,a8,a9,a10,a11⟩=>?_
 refine W.sq ?_;by_cases c3:prior<0
 ·simp only[go_sem,a8,l2,a10,a11,l4,u5,u4,c3];exact bad (fun h=>by have:=h.2.2.1;omega) _ _
 by_cases c4:prior > 10
 ·simp only[go_sem,a8,l2,a10,a11,l4,u5,u4,c3,c4];exact bad (fun h=>by have:=h.2.2.1;omega) _ _
 by_cases c5:least<0
 ·simp only[go_sem,a8,a9,l2,l3,a10,a11,l4,u5,u4,c3,c4,c5];exact bad (fun h=>by have:=h.2.2.2.1;omega) _ _
 simp only[go_sem,a8,a9,l2,l3,c3,c4,c5];refine W.en (fun E3=>E3 1=cP ps /\ E3 5=.ptr H.next 0 0 /\ E3 7=.ptr (H.next+1) 0 0 /\ E3 8=.ptr (H.next+2) 0 0 /\ E3 9=.ptr (H.next+3) 0 0 /\ E3 10=.ptr (H.next+4) 0 0 /\ E3 11=.ptr (H.next+5) 0 0) (by simp only[go_sem,a1,a5,a7,a8,a9,a10,a11]) fun E3 ⟨d1,d5,d7,d8,d9,d10,d11⟩=>?_
 refine W.sq ?_;simp only[go_sem,d5,l0];refine W.aI 4720060639860431536128 (by rfl) (fun ρ H'=>H'=H1/\∃ k:Nat,ρ 61=aa k/\k<=cs.length/\∀ c∈cs.take k,least<=grain / c) (fun ρ H=>cs.length - (iv (ρ 61)).toNat) ?_ ?_
 ·simp only[go_sem];exact⟨0,rfl,by omega,by simp⟩
 rintro ρ H' ⟨rfl,k,h61,hk,hall⟩;refine W.vs ?_;by_cases hb:(k:Int)<cs.length
 ·obtain⟨c,hc⟩:=get_of_lt (l:=cs) (i:=k) (by omega);have hcm:=Ry hc;have hcn:=aK hc;have c24:=dok.card c hcm;have td:grain.tdiv c=grain / c:=Sj (by omega);have cz:¬ c=0:=by omega
  have q1:0<=grain / c:=Tt (by omega) (by omega);have q2:grain / c<=grain:=TF _ (by omega);have wq:=Rw (grain / c) (by omega);simp only[go_sem,h61,hb,hc,hcn];refine W.draw 4 [0,0,0,6] Try.mixed (by kernel_rfl) (by kernel_rfl) ?_;by_cases hle:least > grain / c
  ·simp only[go_sem,d7,d9,d10,d11,l1,l3,l4,u5,u4,td,cz,wq,hle];exact bad (fun h=>by have:=(CB dok.card).2 h.2.2.2.2 c hcm;omega) _ _
  ·have w1:=Rw ((k:Int)+1) (by omega);simp only[go_sem,d7,d9,l1,l3,td,cz,wq,hle,h61,w1];refine⟨⟨k+1,rfl,by omega,fun q hq=>?_⟩,by omega⟩;rw[aP hc]at hq;rcases RX.1 hq with hq|hq
   ·exact hall q hq
   ·obtain rfl:=List.mem_singleton.1 hq;omega
 rw[RA (by omega)]at hall;have hlec:=(CB dok.card).1 hall;have wok:nf cs grain prior least:=by
  refine⟨by omega,by omega,⟨by omega,?_⟩,hlec⟩;obtain⟨c,hc⟩:=get_of_lt (l:=cs) (i:=0) (by omega);have h1:=hlec c (Ry hc);have h2:=dok.card c (Ry hc);have h3:least*1<=least*c:=Sd (by omega) (by omega);omega
 have hE0:=Cz (xs:=xs) hD ⟨gok,wok⟩;simp only[go_sem,h61,hb];refine W.en (fun E4=>E4 1=cP ps /\ E4 5=.ptr H.next 0 0 /\ E4 7=.ptr (H.next+1) 0 0 /\ E4 8=.ptr (H.next+2) 0 0 /\ E4 9=.ptr (H.next+3) 0 0 /\ E4 10=.ptr (H.next+4) 0 0 /\ E4 11=.ptr (H.next+5) 0 0) (by simp only[go_sem,d1,d5,d7,d8,d9,d10,d11]) fun E4 ⟨f1',f5,f7,f8,f9,f10,f11⟩=>?_
 obtain⟨n,hn⟩:∃ n,n=cs.length:=⟨_,rfl⟩
 rw[hn.symm]at c6;refine W.seq ?_;refine W.draw 7 [0,0,2,6,14,31,0] Try.mixed (by kernel_rfl) (by kernel_rfl) ?_;simp only[go_sem,f5,f7,l0,l1,hn.symm];refine⟨⟨by omega,by omega⟩,fun _ h=>by omega,⟨fun _ h=>by omega,fun _ h=>by omega,fun _ h=>by omega⟩,?_⟩;obtain⟨H2,hH2⟩:∃ H2,H2=ext (ext H' [.arr 0 69 (iY n)]) [.arr 0 35 [.lit (.int .i64 grain),.own H'.next 0 0 n 3]]:=⟨_,rfl⟩
 have n2:H2.next=H'.next+2:=by rw[hH2];rfl
 have o2:Over H' H2:=by rw[hH2];exact(Over.ext _ _).trans (.ext _ _)
 have g6:H2.get H'.next=some (.arr 0 69 (iY n)):=by rw[hH2,eG (by rw[cJ];simp)];exact cq
 have g7:H2.get (H'.next+1)=some (.arr 0 35 [.lit (.int .i64 grain),.own H'.next 0 0 n 3]):=by rw[hH2];exact cq (H:=ext H' [_])
 refine W.en (fun E5=>E5 1=cP ps /\ E5 5=.ptr H.next 0 0 /\ E5 7=.ptr (H.next+1) 0 0 /\ E5 8=.ptr (H.next+2) 0 0 /\ E5 9=.ptr (H.next+3) 0 0 /\ E5 10=.ptr (H.next+4) 0 0 /\ E5 11=.ptr (H.next+5) 0 0 /\ E5 15=.ptr (H'.next+1) 0 0) (by simp only[go_sem,f1',f5,f7,f8,f9,f10,f11]) fun E5 ⟨h1,h5,h7,h8,h9,h10,h11,h15⟩=>?_
 show W _ _ _ _ _ _ ⟨E5,ext (ext H' [.arr 0 69 (iY n)]) [.arr 0 35 [.lit (.int .i64 grain),.own H'.next 0 0 n 3]]⟩;rw[<- hH2];clear hH2;refine W.sq ?_;simp only[go_sem,h1];refine az.clo (OV ps _ _ ⟨trivial,?_⟩);simp only[go_sem];obtain⟨H3,hH3⟩:∃ H3,H3=ext H2 [.arr 0 78 [cP ps]]:=⟨_,rfl⟩
 have n3:H3.next=H2.next+1:=by rw[hH3];rfl
 have o3:Over H2 H3:=by rw[hH3];exact .ext _ _
 have g8:H3.get H2.next=some (.arr 0 78 [cP ps]):=by rw[hH3];exact cq
 have o23:=o2.trans o3;refine W.en (fun E6=>E6 5=.ptr H.next 0 0 /\ E6 7=.ptr (H.next+1) 0 0 /\ E6 8=.ptr (H.next+2) 0 0 /\ E6 9=.ptr (H.next+3) 0 0 /\ E6 10=.ptr (H.next+4) 0 0 /\ E6 11=.ptr (H.next+5) 0 0 /\ E6 15=.ptr (H'.next+1) 0 0 /\ E6 79=.clo 83 [] [.ptr H2.next 0 0]) (by simp only[go_sem,h5,h7,h8,h9,h10,h11,h15]) fun E6 ⟨k5,k7,k8,k9,k10,k11,k15,k79⟩=>?_
 show W _ _ _ _ _ _ ⟨E6,ext H2 [.arr 0 78 [cP ps]]⟩;rw[<- hH3];clear hH3;have hpl6:ps.length=n:=by rw[hn];exact gok.1
 have hps2:∀ p∈ps,p<2 ^ n:=by rw[hn];exact gok.2.1
 have hit:=OU ps hp (by omega) H2.next (H3.next+1) (by omega);have base:∀ id,id<H2.next->H3.get id=H2.get id:=fun id h=>o3.old id h;refine W.Q9 (f:=83) (first:=[]) (cap:=[.ptr H2.next 0 0]) (by show E6 79=_;exact k79) hit
  (fun k Hx=>H3.next<Hx.next/\(∀ id,id<H3.next->id≠H'.next->Hx.get id=H3.get id)/\∃ ns,kf cs xs ps grain prior least k ns/\Hx.get H'.next=some (.arr 0 69 (dE n ns)))
  (fun _ _=>False)
  (fun k Hx h=>(h.2.1 _ (by omega) (by omega)).trans g8)
  (fun k Ha Hb h hw=>⟨by have:=hw.1;have:=h.1;omega,fun id h1 h2=>(hw.2 _ (by omega) (by have:=h.1;omega)).trans (h.2.1 id h1 h2),by
   obtain⟨ns,a1,a2⟩:=h.2.2;exact⟨ns,a1,(hw.2 _ (by omega) (by have:=h.1;omega)).trans a2⟩⟩)
  (fun k Hx h=>h.1)
  (fun k Ha b h=>⟨h.1,fun id h1 h2=>by rw[aj,RB (by omega)];exact h.2.1 id h1 h2,by
   obtain⟨ns,a1,a2⟩:=h.2.2;exact⟨ns,a1,by rw[aj,RB (by omega)];exact a2⟩⟩)
  (fun _ _ _ h=>h) (fun _ _ _ _=>trivial)
  (fun b=>⟨by rw[cJ];simp,fun id h1 h2=>eG h1,[],⟨rfl,fun v s x _ h=>by simp at h⟩,by rw[eG (by omega),base _ (by omega),g6];rfl⟩) (by decide)
  (fun x hx=>by
   obtain⟨v,_,rfl⟩:=RI.1 hx;rfl) (fun _ _ _=>trivial) (fun _ _ _=>trivial) (fun k y Hx B Bb hy hj _ hnn hB hBb=>?_) (fun Hx hj hnn=>?_) (fun _ hs _=>hs.elim) (fun _ _ hs _=>hs.elim)
 ·have hk:k<ps.length:=by have:=get_lt hy;rw[xU]at this;exact this
  obtain⟨s,hs⟩:=get_of_lt hk;rw[Cw hs]at hy;cases hy;refine W.vs ?_;simp only[go_sem,jq,cY,nD,SK,UC,TG,Uj,hB];obtain⟨Hr,hHr⟩:∃ Hr,Hr=Hx.upd H3.next Bb:=⟨_,rfl⟩
  have nr:Hr.next=Hx.next:=by rw[hHr];rfl
  have or3:∀ id,id≠H3.next->Hr.get id=Hx.get id:=fun id h=>by rw[hHr,aj,RB h]
  have jB:Hr.get H3.next=some Bb:=by rw[hHr,aj,RC rfl]
  obtain⟨hj1,hj2,ns,hfk,hgB⟩:=hj;have old:∀ id,id<H'.next->Hr.get id=H'.get id:=fun id h=>(or3 _ (by omega)).trans ((hj2 id (by omega) (by omega)).trans (o23.old id h));rw[<- hHr];have hnl:ns.length=k:=hfk.1;have hs2:=hps2 s (Ry hs);rw[hpl6];refine OZ (v:=k) (s:=s) (n:=n) (C:=dE n ns) (NT:=H'.next+1) (NB:=H'.next) dok wok hn (by omega) hs2 hBb jB (by omega) (by omega) ((old _ (by omega)).trans b0) ((old _ (by omega)).trans b1) ((old _ (by omega)).trans b2) ((old _ (by omega)).trans b3) ((or3 _ (by omega)).trans ((hj2 _ (by omega) (by omega)).trans ((base _ (by omega)).trans g7))) ((or3 _ (by omega)).trans hgB) (CI (by omega)) pe ⟨by omega,by omega,by omega,by omega,by omega,by omega⟩ ⟨by omega,by omega,by omega,by omega,by omega,by omega⟩ (by simp only[go_sem,cY,k5]) (by simp only[go_sem,cY,k7]) (by simp only[go_sem,cY,k8]) (by simp only[go_sem,cY,k9]) (by simp only[go_sem,cY,k15]) (by simp only[go_sem]) (by simp only[go_sem]) (fun Hf x hx hq1 hq2 hq3=>?_) _ (by kernel_rfl);refine⟨by omega,fun id h1 h2=>?_,ns++[x],hfk.snoc hs (by rw[hpl6];exact hx),?_⟩
  ·rw[hq2 id (by omega) h2,or3 id (by omega)];exact hj2 id h1 h2
  ·rw[hq3,<- hnl,CJ (by omega)]
 ·rw[xU]at hj;obtain⟨hj1,hj2,ns,hfk,hgB⟩:=hj;have hnl:ns.length=n:=by rw[<- hpl6];exact hfk.1
  have old:∀ id,id<H'.next->Hx.get id=H'.get id:=fun id h=>(hj2 id (by omega) (by omega)).trans (o23.old id h);have x7:=ao ((hj2 (H'.next+1) (by omega) (by omega)).trans ((base _ (by omega)).trans g7));have x4:=ao ((old (H.next+4) (by omega)).trans b4);have x5:=ao ((old (H.next+5) (by omega)).trans b5);have v5:∀ b,(Hx.upd (H.next+4) b).live (H.next+5) 0=_:=fun b=>(mn (by omega)).trans x5;have v4:∀ b c,((Hx.upd (H.next+4) b).upd (H.next+5) c).live (H.next+4) 0=(Hx.upd (H.next+4) b).live (H.next+4) 0:=fun b c=>mn (by omega);rw[<- hnl,qZ]at hgB;simp only[go_sem];refine W.vs ?_;simp only[go_sem,k10,k11,k15,x7,x4,v5,v4];have hKK:=hK grain ns (fun _=>⟨rfl,by rw[hpl6,<- hpl6];exact hfk⟩) (fun e=>absurd hE0 e);rw[hE0]at hKK;have oX:Over H Hx:=⟨by omega,fun id h=>(old id (by omega)).trans (o1.old id h)⟩
  refine av.cK aZ hcl ((oX.upd (by omega) _).upd (by omega) _) (uf ?_) hKK;rw[<- hnl];exact .frz (by omega) (by rw[aj,RB (by omega),aj,RB (by omega)];exact hgB) (fY ns) fun j h1 h2 h3=>by simp only[Nat.zero_add];exact pe (n:=ns.length) (ns:=ns) _ (by rw[qZ];exact Sv _) _ _ _
theorem MR {l:List Int}{c j m:Nat}(hl:l.length=m*c)(hj:j<m):((ints l).drop (j*c)).take c=ints (eY l c j):=by unfold ints eY;rw[List.map_take,List.map_drop]
theorem MS {S:Nat->Prop}{H:AHeap}{nx:Nat}{A B:List AVal}{o o' p p':AVal}(hA:∀ v,v∈A->Fz S H nx v v)(ho:Fz S H nx o o')(hp:Fz S H nx p p')(hB:∀ v,v∈B->Fz S H nx v v):
  ∀ i (h:i<(A++o :: p :: B).length) (h':i<(A++o' :: p' :: B).length),Fz S H nx (A++o :: p :: B)[i] (A++o' :: p' :: B)[i]:=by
 induction A with
 | nil =>
  intro i h h'
  match i with
  | 0=>exact ho
  | 1=>exact hp
  | i+2=>exact hB _ (Sv (l:=B) (by simpa using h))
 | cons a A ih =>
  intro i h h';cases i with
  | zero=>exact hA a (by simp)
  | succ i=>exact ih (fun v hv=>hA v (by simp [hv])) i (by simpa using h) (by simpa using h')
set_option maxHeartbeats 8000000 in
theorem MT (g:Int)(ns:List NodeP)(cs:List Int)(xs:List (List Int))(hn:jd ns)(hf:j9 cs xs)(least:Int)(H:AHeap)(K:ARes->AHeap->Prop)(hK:K (.ret (.tup [bP (mY g ns cs xs least).1 (mY g ns cs xs least).2,aa (jA g ns cs xs least)])) H):
  ae Try.prog G0 18 [bP g ns,dM cs xs,aa least] H K:=by
 refine ae.clo ⟨_,Try.func18,rfl,rfl⟩ fun hcl=>?_;have hn1:=hn.1;have fail:∀ (c:Int) (Hx:AHeap),jA g ns cs xs least=c->c≠0->Over H Hx->av Try.prog G0 H K (.tup [.agg [.lit (.int .i64 0),.lit (.slice none 0 0)],.lit (.int .i64 c)]) Hx:=fun c Hx h h0 o=>by
  unfold mY at hK;rw[RB (by rw[h];exact h0),h]at hK;exact av.cK aZ hcl o (uf .nil) hK
 refine ae.cX (n:=127) (rs:=[.cell 6 35,.tmp 7]) Try.func18 rfl rfl rfl (by decide) (by simp) ?_;refine W.sq ?_;simp only[go_sem,bP,de,dM,aH];obtain⟨H1,hH1⟩:∃ H1,H1=ext H [.arr 0 35 [aa g,.vec ns.length (ar ns)],.arr 0 42 [.vec cs.length (ints cs),.vec xs.length (xs.map ab)],.arr 0 35 [.lit (.int .i64 0),.lit (.slice none 0 0)]]:=⟨_,rfl⟩
 have n1:H1.next=H.next+3:=by rw[hH1];rfl
 have o1:Over H H1:=by rw[hH1];exact .ext _ _
 have g0:H1.get H.next=some (.arr 0 35 [aa g,.vec ns.length (ar ns)]):=by rw[hH1];exact dV ..
 have g1:H1.get (H.next+1)=some (.arr 0 42 [.vec cs.length (ints cs),.vec xs.length (xs.map ab)]):=by rw[hH1];exact bk H _ 1 (by simp)
 have g2:H1.get (H.next+2)=some (.arr 0 35 [.lit (.int .i64 0),.lit (.slice none 0 0)]):=by rw[hH1];exact bk H _ 2 (by simp)
 refine W.en (fun E=>E 2=aa least /\ E 3=.ptr H.next 0 0 /\ E 4=.ptr (H.next+1) 0 0 /\ E 6=.ptr (H.next+2) 0 0) (by simp only[go_sem]) fun E ⟨e2,e3,e4,e6⟩=>?_
 show W _ _ _ _ _ _ ⟨E,ext H [.arr 0 35 [aa g,.vec ns.length (ar ns)],.arr 0 42 [.vec cs.length (ints cs),.vec xs.length (xs.map ab)],.arr 0 35 [.lit (.int .i64 0),.lit (.slice none 0 0)]]⟩;rw[<- hH1];clear hH1;have l0:=ao g0;have l1:=ao g1;refine W.sq ?_;simp only[go_sem,e3,e4,l0,l1];obtain⟨H2,hH2⟩:∃ H2,H2=ext H1 [.arr 0 35 [aa g,.vec ns.length (ar ns)]]:=⟨_,rfl⟩
 have n2:H2.next=H1.next+1:=by rw[hH2];rfl
 have o2:Over H1 H2:=by rw[hH2];exact .ext _ _
 have q3:H2.get H1.next=some (.arr 0 35 (dK [(g,ns)])):=by rw[hH2];exact cq
 show az _ _ _ _ (ext H1 [.arr 0 35 [aa g,.vec ns.length (ar ns)]]) _;rw[<- hH2];clear hH2;have o12:=o1.trans o2;have q0:=(o2.old H.next (by omega)).trans g0;have q1:=(o2.old (H.next+1) (by omega)).trans g1;have q2:=(o2.old (H.next+2) (by omega)).trans g2;have l0:=ao q0;have l1:=ao q1;have l2:=ao q2;refine az.clo ((BK [(g,ns)] cs xs (fun p hp=>by rw[List.mem_singleton.1 hp];exact hn) hf (by simp) H2 q3).mono ?_);rintro rres Hq ⟨hrq,hHq⟩;rw[hHq,hrq,BJ];refine⟨trivial,?_⟩;obtain⟨e,he⟩:∃ e,e=fA g ns cs xs:=⟨_,rfl⟩
 rw[<- he];by_cases h0:e=0;rotate_left
 ·simp only[go_sem,e6,l2,h0];refine fail e _ (by unfold jA;rw[<- he,RC h0]) h0 (o12.upd (by omega) _)
 have hE0:jA g ns cs xs least=if im g ns least=true then if eH ns xs=true then 0 else 7 else 2:=by unfold jA;rw[<- he,RB (fun h=>h h0)]
 rw[h0]at he ⊢;obtain⟨hok,hdk,hca⟩:=qO he.symm;obtain⟨h6,h40,hrow⟩:=tU he.symm;have hg60:=hok.g1;have hE2:¬ mW g ns least->jA g ns cs xs least=2:=fun h=>by rw[hE0,RB (fun hh=>h ((mX hok).1 hh))]
 simp only[go_sem];by_cases v0:least<0
 ·refine W.sq ?_;simp only[go_sem,e2,e6,l2,v0];exact fail 2 _ (hE2 fun h=>by have:=h.1;omega) (by decide) (o12.upd (by omega) _)
 refine W.sq ?_;simp only[go_sem,e2,v0];refine W.sq ?_;simp only[go_sem,e3,l0];refine W.en (fun E1=>E1 2=aa least /\ E1 3=.ptr H.next 0 0 /\ E1 4=.ptr (H.next+1) 0 0 /\ E1 6=.ptr (H.next+2) 0 0 /\ E1 32=.vec ns.length (ar ns) /\ E1 33=aa ns.length /\ E1 34=aa 0) (by simp only[go_sem,e2,e3,e4,e6]) fun E1 ⟨f2,f3,f4,f6,f32,f33,f34⟩=>?_
 refine W.aI 140720308487296 (by kernel_rfl) (fun ρ Hx=>Over H2 Hx/\∃ k:Nat,ρ 34=aa k/\k<=ns.length/\∀ x∈ns.take k,least<=g / x.card) (fun ρ H=>ns.length - (iv (ρ 34)).toNat) ?_ ?_
 ·exact⟨.refl _,0,f34,by omega,by simp⟩
 rintro ρ Hx ⟨ov,k,h34,hk,hall⟩;have ovn:=ov.next;refine W.en (fun E2=>E2 2=aa least /\ E2 3=.ptr H.next 0 0 /\ E2 4=.ptr (H.next+1) 0 0 /\ E2 6=.ptr (H.next+2) 0 0 /\ E2 32=.vec ns.length (ar ns) /\ E2 33=aa ns.length /\ E2 34=aa k) (by simp only[go_sem,f2,f3,f4,f6,f32,f33,h34]) fun E2 ⟨a2,a3,a4,a6,a32,a33,a34⟩=>?_
 have r0:=(ov.old H.next (by omega)).trans q0;have r1:=(ov.old (H.next+1) (by omega)).trans q1;have r2:=(ov.old (H.next+2) (by omega)).trans q2;have m0:=ao r0;have m1:=ao r1;have m2:=ao r2;have oH:=o12.trans ov;by_cases hb:(k:Int)<ns.length
 ·obtain⟨x,hx⟩:=get_of_lt (l:=ns) (i:=k) (by omega);have hxm:=Ry hx;have hc:=(hok.node x hxm).1;have p0:=l9 hx;have pne:=fZ hx;have p1:k*3+3<=(ar ns).length:=by rw[fY];omega
  have td:g.tdiv x.card=g / x.card:=Sj (by omega);have cz:¬ x.card=0:=by omega
  have t1:0<=g / x.card:=Tt (by omega) (by omega);have t2:g / x.card<=g:=TF _ (by omega);have wq:=Rw (g / x.card) (by omega);have mE:∀ L,(ext Hx L).live H.next 0=_:=fun L=>(jU (by omega)).trans m0;have mE2:∀ L,(ext Hx L).live (H.next+2) 0=_:=fun L=>(jU (by omega)).trans m2;refine W.vs ?_;by_cases hle:least > g / x.card
  ·simp only[go_sem,a2,a3,a6,a32,a33,a34,hb,p0,p1,pne,aH,mE,mE2,td,cz,wq,hle];exact fail 2 _ (hE2 fun h=>by have:=(BS (g:=g) hc.1).2 (h.2 x hxm);omega) (by decide) ((oH.trans (.ext _ _)).upd (by omega) _)
  ·have w1:=Rw ((k:Int)+1) (by omega);simp only[go_sem,a2,a3,a32,a33,a34,hb,p0,p1,pne,aH,mE,td,cz,wq,hle,w1];refine⟨by omega,⟨ov.trans (.ext _ _),k+1,rfl,by omega,fun y hy=>?_⟩,by rw[h34];simp only[aa,aM];omega⟩;rw[aP hx]at hy;rcases RX.1 hy with hy|hy
   ·exact hall y hy
   ·obtain rfl:=List.mem_singleton.1 hy;omega
 rw[RA (by omega)]at hall;have hfair:mW g ns least:=⟨by omega,fun x hx=>(BS (hok.node x hx).1.1).1 (hall x hx)⟩
 rw[RC ((mX hok).2 hfair)]at hE0;refine W.vs ?_;simp only[go_sem,a33,a34,hb];refine W.en (fun E3=>E3 2=aa least /\ E3 3=.ptr H.next 0 0 /\ E3 4=.ptr (H.next+1) 0 0 /\ E3 6=.ptr (H.next+2) 0 0) (by simp only[go_sem,a2,a3,a4,a6]) fun E3 ⟨b2,b3,b4,b6⟩=>?_
 refine W.sq ?_;simp only[go_sem,b3,b4,m0,m1];refine az.clo (BD g ns hok cs xs (by omega) hrow _ _ ⟨trivial,?_⟩);simp only[go_sem];refine az.clo (BE (xs.map (dJ ns)) (by rw[RJ];omega) _ _ ⟨trivial,?_⟩);unfold eH at hE0;by_cases hz:(0:Int)∈xs.map (dJ ns)
 ·rw[Sk (fun hh=>hh hz),RB (by decide)]at hE0;simp only[go_sem,hz,b6,m2];exact fail 7 _ hE0 (by decide) (oH.upd (by omega) _)
 rw[RN hz,RC rfl]at hE0;simp only[go_sem,hz];obtain⟨n,hnn⟩:∃ n,n=ns.length:=⟨_,rfl⟩
 refine W.seq ?_;refine W.draw 8 [0,1,0,4,12,28,63,0] Try.mixed (by kernel_rfl) (by kernel_rfl) ?_;simp only[go_sem,b3,m0,hnn.symm];refine⟨⟨by omega,by omega⟩,⟨fun _ h=>by omega,fun _ h=>by omega⟩,⟨fun _ h=>by omega,fun _ h=>by omega,fun _ h=>by omega,fun _ h=>by omega⟩,?_⟩;obtain⟨H3,hH3⟩:∃ H3,H3=ext (ext Hx [.arr 0 69 (iY n)]) [.arr 0 35 [.lit (.int .i64 g),.own Hx.next 0 0 n 3]]:=⟨_,rfl⟩
 have n3:H3.next=Hx.next+2:=by rw[hH3];rfl
 have o3:Over Hx H3:=by rw[hH3];exact(Over.ext _ _).trans (.ext _ _)
 have g6:H3.get Hx.next=some (.arr 0 69 (iY n)):=by rw[hH3,eG (by rw[cJ];simp)];exact cq
 have g7:H3.get (Hx.next+1)=some (.arr 0 35 [.lit (.int .i64 g),.own Hx.next 0 0 n 3]):=by rw[hH3];exact cq (H:=ext Hx [_])
 refine W.en (fun E4=>E4 2=aa least /\ E4 3=.ptr H.next 0 0 /\ E4 4=.ptr (H.next+1) 0 0 /\ E4 6=.ptr (H.next+2) 0 0 /\ E4 11=.ptr (Hx.next+1) 0 0) (by simp only[go_sem,b2,b3,b4,b6]) fun E4 ⟨c2,c3,c4,c6,c11⟩=>?_
 show W _ _ _ _ _ _ ⟨E4,ext (ext Hx [.arr 0 69 (iY n)]) [.arr 0 35 [.lit (.int .i64 g),.own Hx.next 0 0 n 3]]⟩;rw[<- hH3];clear hH3;have o3n:=o3.next;have l30:=ao ((o3.old _ (by omega)).trans r0);refine W.sq ?_;simp only[go_sem,c3,l30];refine W.env fun E5 hE5=>?_;have d2:E5 2=aa least:=by rw[hE5];simp only[go_sem,c2]
 have d3:E5 3=.ptr H.next 0 0:=by rw[hE5];simp only[go_sem,c3]
 have d4:E5 4=.ptr (H.next+1) 0 0:=by rw[hE5];simp only[go_sem,c4]
 have d6:E5 6=.ptr (H.next+2) 0 0:=by rw[hE5];simp only[go_sem,c6]
 have d11:E5 11=.ptr (Hx.next+1) 0 0:=by rw[hE5];simp only[go_sem,c11]
 have d60:E5 60=.vec ns.length (ar ns):=by rw[hE5];simp only[go_sem]
 have d61:E5 61=aa n:=by rw[hE5,hnn];simp only[go_sem]
 have d62:E5 62=aa 0:=by rw[hE5];simp only[go_sem]
 clear hE5;obtain⟨N,hN⟩:∃ N,N=jz g least ns xs:=⟨_,rfl⟩
 have Nl:N.length=n:=by rw[hN,xG,hnn]
 refine W.aI 85070591730234615861231965839515709568 (by kernel_rfl) (fun ρ Hy=>∃ v:Nat,ρ 62=aa v/\v<=n/\H3.next<=Hy.next/\(∀ id,id<H3.next->id≠Hx.next->Hy.get id=H3.get id)/\Hy.get Hx.next=some (.arr 0 69 (dE n (N.take v)))) (fun ρ H=>n - (iv (ρ 62)).toNat) ?_ ?_
 ·exact⟨0,d62,by omega,Nat.le_refl _,fun _ _ _=>rfl,g6⟩
 rintro ρ Hy ⟨v,h62,hv,hny,hold,gB⟩;refine W.en (fun E6=>E6 2=aa least /\ E6 3=.ptr H.next 0 0 /\ E6 4=.ptr (H.next+1) 0 0 /\ E6 6=.ptr (H.next+2) 0 0 /\ E6 11=.ptr (Hx.next+1) 0 0 /\ E6 60=.vec ns.length (ar ns) /\ E6 61=aa n /\ E6 62=aa v) (by simp only[go_sem,d2,d3,d4,d6,d11,d60,d61,h62]) fun E6 ⟨k2,k3,k4,k6,k11,k60,k61,k62⟩=>?_
 have y0:=(hold H.next (by omega) (by omega)).trans ((o3.old _ (by omega)).trans r0);have y1:=(hold (H.next+1) (by omega) (by omega)).trans ((o3.old _ (by omega)).trans r1);have y2:=(hold (H.next+2) (by omega) (by omega)).trans ((o3.old _ (by omega)).trans r2);have yT:=(hold (Hx.next+1) (by omega) (by omega)).trans g7;have vl:(N.take v).length=v:=by rw[RH];omega
 by_cases hb2:(v:Int)<n;rotate_left
 ·refine W.vs ?_;simp only[go_sem,k61,k62,hb2];refine W.vs ?_;have z2:=ao y2;have zT:=ao yT;simp only[go_sem,k6,k11,z2,zT];obtain rfl:v=n:=by omega
  unfold mY at hK;rw[RC hE0,hE0,<- hN]at hK;rw[RA (by omega)]at gB;refine av.cK aZ hcl ((show Over H Hy from ⟨by omega,fun id h=>(hold id (by omega) (by omega)).trans ((o3.old id (by omega)).trans (oH.old id h))⟩).upd (by omega) _) (uf ?_) hK;rw[<- Nl]at gB ⊢;rw[qZ]at gB;exact .frz (by omega) (by rw[aj,RB (by omega)];exact gB) (fY N) fun j h1 h2 h3=>by simp only[Nat.zero_add];exact pe (n:=N.length) (ns:=N) _ (by rw[qZ];exact Sv _) _ _ _
 obtain⟨x,hx⟩:=get_of_lt (l:=ns) (i:=v) (by omega);have hxm:=Ry hx;have hc:=(hok.node x hxm).1;have p0:=l9 hx;have pne:=fZ hx;have p1:v*3+3<=(ar ns).length:=by rw[fY];omega
 have hNv:N[v]?=some (kE g least (bI ns x v xs) x):=by rw[hN];exact BQ hx
 have hbn:(v:Int)<ns.length:=by omega
 refine W.sq ?_;simp only[go_sem,k61,k62,hb2];refine W.sq ?_;simp only[go_sem];refine W.seq (W.rF (Q':=fun e s2=>e=.normal/\s2.ρ 62=aa v/\Hy.next<=s2.H.next/\(∀ id,id<Hy.next->id≠Hx.next->s2.H.get id=Hy.get id)/\∃ pv rv,s2.H.get Hx.next=some (.arr 0 69 (setAt (dE n (N.take v)) (v*3) [aa x.card,pv,rv]))/\aB Hy.next s2.H 3 pv (ints x.parents)/\aB Hy.next s2.H 39 rv ((kE g least (bI ns x v xs) x).rows.map ab)) ?_ ?_)
 ·refine W.block ?_;refine W.sq ?_;simp only[go_sem,k60,k62,hbn,p0,p1,pne,aH];obtain⟨J1,hJ1⟩:∃ J1,J1=ext Hy [.arr 0 69 [.lit (.int .i64 x.card),.vec x.parents.length (ints x.parents),.vec x.rows.length (x.rows.map ab)]]:=⟨_,rfl⟩
  have j1n:J1.next=Hy.next+1:=by rw[hJ1];rfl
  have j1o:Over Hy J1:=by rw[hJ1];exact .ext _ _
  have j13:J1.get Hy.next=some (.arr 0 69 [.lit (.int .i64 x.card),.vec x.parents.length (ints x.parents),.vec x.rows.length (x.rows.map ab)]):=by rw[hJ1];exact cq
  refine W.en (fun E7=>E7 2=aa least /\ E7 3=.ptr H.next 0 0 /\ E7 4=.ptr (H.next+1) 0 0 /\ E7 6=.ptr (H.next+2) 0 0 /\ E7 11=.ptr (Hx.next+1) 0 0 /\ E7 12=aa v /\ E7 13=.ptr Hy.next 0 0 /\ E7 62=aa v) (by simp only[go_sem,k2,k3,k4,k6,k11,k62]) fun E7 ⟨s2,s3,s4,s6,s11,s12,s13,s62⟩=>?_
  show W _ _ _ _ _ _ ⟨E7,ext Hy [.arr 0 69 [.lit (.int .i64 x.card),.vec x.parents.length (ints x.parents),.vec x.rows.length (x.rows.map ab)]]⟩;rw[<- hJ1];clear hJ1;have w0:=ao ((j1o.old _ (by omega)).trans y0);have w1:=ao ((j1o.old _ (by omega)).trans y1);have w13:=ao j13;refine W.sq ?_;simp only[go_sem,s3,s4,s12,w0,w1];refine az.clo (BI g ns hok h6 cs xs (by omega) hrow v x hx _ _ ⟨trivial,?_⟩);simp only[go_sem];refine W.seq ?_;refine W.sq ?_;simp only[go_sem];refine W.vs ?_;simp only[go_sem];refine W.env fun E8 hE8=>?_;have t2:E8 2=aa least:=by rw[hE8];simp only[go_sem,s2]
  have t3:E8 3=.ptr H.next 0 0:=by rw[hE8];simp only[go_sem,s3]
  have t6:E8 6=.ptr (H.next+2) 0 0:=by rw[hE8];simp only[go_sem,s6]
  have t11:E8 11=.ptr (Hx.next+1) 0 0:=by rw[hE8];simp only[go_sem,s11]
  have t12:E8 12=aa v:=by rw[hE8];simp only[go_sem,s12]
  have t13:E8 13=.ptr Hy.next 0 0:=by rw[hE8];simp only[go_sem,s13]
  have t14:E8 14=.vec (bI ns x v xs).length (ints (bI ns x v xs)):=by rw[hE8];simp only[go_sem]
  have t62:E8 62=aa v:=by rw[hE8];simp only[go_sem,s62]
  clear hE8;have w13E:∀ L,(ext J1 L).live Hy.next 0=_:=fun L=>(jU (by omega)).trans w13;have rz:List.replicate 0 (AVal.lit (.int .i64 0))=[]:=rfl;have fit:=(hn.2 x hxm).1;obtain⟨pv,J2,hA,hpO,hj2,hjp⟩:=As (P:=Try.prog) (H:=ext J1 [.arr 0 3 []]) (t:=39) (e:=3) (lo:=J1.next) (v:=.own J1.next 0 0 0 1) (cs:=[]) (src:=ints x.parents) (n:=J1.next+1) Try.underlying39 Try.fX Try.iq (by unfold ints;rw[List.all_map,Sg];intro y _;rfl) (by rw[Try.jC,bO];simp;omega) (aB.new (H:=J1) (cs:=[])) (by rw[cJ];simp) (by rw[cJ];simp);rw[bO]at hA;have pvo:=hpO.one;have pvc:=hpO.cells;refine W.seq ?_;refine W.draw 8 [0,1,0,0,8,28,63,0] Try.mixed (by kernel_rfl) (by kernel_rfl) ?_;simp only[go_sem,t13,w13,w13E,rz,hA,pvo,pvc];rw[cJ]at hj2;simp only[List.length_cons,List.length_nil]at hj2;refine⟨⟨fun _ h=>by omega,fun _ h=>by omega⟩,fun _ h=>by omega,fun _ h=>by omega,⟨fun _ h=>by omega,fun _ h=>by omega⟩,⟨fun _ h=>by omega,fun _ h=>by omega,fun _ h=>by omega,fun _ h=>by omega,fun _ h=>by omega⟩,?_⟩;obtain⟨J3,hJ3⟩:∃ J3,J3=ext J2 [.arr 0 69 [.lit (.int .i64 x.card),pv,.lit (.slice none 0 0)]]:=⟨_,rfl⟩
  have j3n:J3.next=J2.next+1:=by rw[hJ3];rfl
  have j2o:∀ id,id<J1.next->J2.get id=J1.get id:=fun id h=>(hjp id (by rw[cJ];simp;omega) fun g' n' e=>by cases e;omega).trans (eG h);have j3o:∀ id,id<J1.next->J3.get id=J1.get id:=fun id h=>by rw[hJ3,eG (by omega)];exact j2o id h
  have j3q:J3.get J2.next=some (.arr 0 69 [.lit (.int .i64 x.card),pv,.lit (.slice none 0 0)]):=by rw[hJ3];exact cq
  have j32:∀ id,id<J2.next->J3.get id=J2.get id:=fun id h=>by rw[hJ3,eG h]
  refine W.en (fun E9=>E9 2=aa least /\ E9 3=.ptr H.next 0 0 /\ E9 6=.ptr (H.next+2) 0 0 /\ E9 11=.ptr (Hx.next+1) 0 0 /\ E9 12=aa v /\ E9 13=.ptr Hy.next 0 0 /\ E9 14=.vec (bI ns x v xs).length (ints (bI ns x v xs)) /\ E9 16=.ptr J2.next 0 0 /\ E9 62=aa v) (by simp only[go_sem,t2,t3,t6,t11,t12,t13,t14,t62]) fun E9 ⟨u2,u3,u6,u11,u12,u13,u14,u16,u62⟩=>?_
  show W _ _ _ _ _ _ ⟨E9,ext J2 [.arr 0 69 [.lit (.int .i64 x.card),pv,.lit (.slice none 0 0)]]⟩;rw[<- hJ3];clear hJ3;have x13:=ao ((j3o Hy.next (by omega)).trans j13);obtain⟨L,hL⟩:∃ L,L=bI ns x v xs:=⟨_,rfl⟩
  obtain⟨R,hR⟩:∃ R,R=x.rows.length:=⟨_,rfl⟩
  have hLl:=tW hok h6 hx xs hrow;rw[<- hL]at u14 hLl ⊢;obtain⟨rows,hrows⟩:∃ rows,rows=(kE g least L x).rows:=⟨_,rfl⟩
  have hrl:rows.length=R:=by rw[hrows,hR];show ((List.range _).map _).length=_;simp
  rw[<- hrows];refine W.sq ?_;simp only[go_sem,u13,x13,<- hR];refine W.en (fun F=>F 2=aa least /\ F 3=.ptr H.next 0 0 /\ F 11=.ptr (Hx.next+1) 0 0 /\ F 12=aa v /\ F 13=.ptr Hy.next 0 0 /\ F 14=.vec L.length (ints L) /\ F 16=.ptr J2.next 0 0 /\ F 62=aa v /\ F 87=aa R /\ F 88=aa 0) (by simp only[go_sem,u2,u3,u11,u12,u13,u14,u16,u62]) fun F ⟨a2,a3,a11,a12,a13,a14,a16,a62,a87,a88⟩=>?_
  refine W.aI 1329227995475430863082461991556481152 (by kernel_rfl) (fun ρ2 Hz=>∃ (j:Nat) (rv:AVal),ρ2 88=aa j/\j<=R/\J3.next<=Hz.next/\(∀ id,id<J3.next->id≠J2.next->Hz.get id=J3.get id)/\Hz.get J2.next=some (.arr 0 69 [.lit (.int .i64 x.card),pv,rv])/\aB J3.next Hz 39 rv ((rows.take j).map ab)) (fun ρ2 H=>R - (iv (ρ2 88)).toNat) ?_ ?_
  ·exact⟨0,_,a88,by omega,Nat.le_refl _,fun _ _ _=>rfl,j3q,.nil⟩
  rintro ρ2 Hz ⟨j,rv,h88,hj,hnz,holdz,gz,hO⟩;refine W.en (fun F2=>F2 2=aa least /\ F2 3=.ptr H.next 0 0 /\ F2 11=.ptr (Hx.next+1) 0 0 /\ F2 12=aa v /\ F2 13=.ptr Hy.next 0 0 /\ F2 14=.vec L.length (ints L) /\ F2 16=.ptr J2.next 0 0 /\ F2 62=aa v /\ F2 87=aa R /\ F2 88=aa j) (by simp only[go_sem,a2,a3,a11,a12,a13,a14,a16,a62,a87,h88]) fun F2 ⟨b2,b3,b11,b12,b13,b14,b16,b62,b87,b88⟩=>?_
  have ozJ:∀ id,id<J1.next->Hz.get id=J1.get id:=fun id h=>(holdz id (by omega) (by omega)).trans (j3o id h);have lz:=ao gz;have rvo:=hO.one;have rvc:=hO.cells;have tk:(rows.take j).length=j:=by rw[RH];omega
  by_cases hb3:(j:Int)<R;rotate_left
  ·have oT:=ao ((ozJ _ (by omega)).trans ((j1o.old _ (by omega)).trans yT));have oB:=ao ((ozJ _ (by omega)).trans ((j1o.old _ (by omega)).trans gB));have fl:=CI (n:=n) (ns:=N.take v) (by omega);have hv3:v*3+3<=(dE n (N.take v)).length:=(by rw[fl];omega);refine W.vs ?_;simp only[go_sem,b87,b88,hb3];refine W.vs ?_;simp only[go_sem,b11,b12,b16,b62,lz,oT,oB,pvo,rvo,hb2,fl];have ej:j=R:=(by omega);rw[ej,RA (by omega)]at hO;exact⟨by omega,by rw[aL];omega,fun id h1 h2=>by rw[aj,RB h2,ozJ id (by omega)];exact j1o.old id h1,pv,rv,by rw[aj,RC rfl],hpO.keep (by omega) (by rw[aL];omega) fun id _ h1 h2 _ _=>by rw[aj,RB (by omega),holdz id (by omega) (by omega)];exact j32 id h2,hO.keep (by omega) (by rw[aL];omega) fun id _ h1 h2 _ _=>by rw[aj,RB (by omega)]⟩
  have w0z:=ao ((ozJ _ (by omega)).trans ((j1o.old _ (by omega)).trans y0));have w13z:=ao ((ozJ _ (by omega)).trans j13);obtain⟨c,hcc⟩:∃ c:Nat,x.card=c:=⟨x.card.toNat,by omega⟩
  have hc':=hc;rw[hcc]at hc';have hct:x.card.toNat=c:=by omega
  have hRb:=(qL hok hx).2;have mR:((R:Int))*c<=1024:=by rw[hR,<- hcc];exact hRb
  have m0:0<=(j:Int)*c:=SD (by omega) (by omega);have m1':((j:Int)+1)*c<=R*c:=Tk (by omega) (by omega);have m2':((j:Int)+1)*c=j*c+c:=by rw[Uq,Up]
  have mR1:(R:Int)*1<=R*c:=Sd (by omega) (by omega);have v1:=Rw ((j:Int)*c) (by omega);have v2:=Rw ((j:Int)+1) (by omega);have v3:=Rw (((j:Int)+1)*c) (by omega);have rok:=BR hok h6 hfair hx (xs:=xs) (by omega) hrow (j:=j) (by omega);rw[<- hL,hct]at rok;rw[hct,<- hR]at hLl;obtain⟨q,hq⟩:∃ q,q=jF least (bJ g least (eY L c j)) (eY L c j):=⟨_,rfl⟩
  have hqr:rows[j]?=some q:=by rw[hrows,hq];show ((List.range _).map _)[j]?=_;rw[List.getElem?_map,Sm (by omega),<- hct];rfl
  have sl:=MR hLl (show j<R by omega);have rl:=qT hLl (show j<R by omega);refine W.sq ?_;simp only[go_sem,b87,b88,hb3];refine W.sq ?_;simp only[go_sem];refine W.seq (W.block ?_);refine W.sq ?_;simp only[go_sem,b88];refine W.seq ?_;refine W.draw 19 [0,0,0,4,14,0,32,0,128,480,1023,0,2048,0,16383,32767,65535,65535,131071] Try.mixed (by kernel_rfl) (by kernel_rfl) ?_;have tn2:((j:Int)*c).toNat=j*c:=by rw[<- Tj,Int.toNat_natCast]
  have tn1:(((j:Int)+1)*c).toNat=j*c+c:=by rw[m2',<- Tj,<- Int.natCast_add,Int.toNat_natCast]
  have tn3:j*c+c - j*c=c:=by omega
  have hLi:(L.length:Int)=R*c:=by rw[hLl,Tj]
  simp only[go_sem,b2,b3,b13,b14,w0z,w13z,hcc,v1,v2,v3,tn1,tn2,tn3,sl];refine⟨by omega,by omega,⟨.tup [ab q,aa 0],[],ed.pure (fun H2=>?_),?_⟩⟩
  ·rw[show AVal.vec c (ints (eY L c j))=ab (eY L c j) by unfold ab;rw[rl]];exact Pk (c:=eY L c j) (grain:=g) (least:=least) (by omega) H2 _ ⟨by unfold ug;rw[CT rok,RC rfl,hq],rfl⟩
  obtain⟨rv',He,hAe,hOe,hne,hpe⟩:=Dy (ab q) rfl hO hnz (by rw[RJ];omega);simp only[ab]at hAe;have rvo2:=hOe.one;have rvc2:=hOe.cells;have lXe:=ao ((hpe J2.next (by omega) (aB.CD hO (by omega))).trans gz);have lXx:∀ L,(ext Hz L).live J2.next 0=_:=fun L=>(jU (by omega)).trans lz;simp only[go_sem];refine W.sq ?_;simp only[go_sem];refine W.vs ?_;simp only[go_sem,b16,lz,lXe,rvo2,rvc2,hAe];refine W.vs ?_;simp only[go_sem,b88,v2];rw[show (rows.take j).map ab++[ab q]=(rows.take (j+1)).map ab by rw[aP hqr,SW];rfl]at hOe;exact⟨by rw[aL];omega,⟨j+1,rv',rfl,by omega,by rw[aL];omega,fun id h1 h2=>by rw[aj,RB h2,hpe id (by omega) (aB.CD hO h1)];exact holdz id h1 h2,by rw[aj,RC rfl,hcc],hOe.keep (Nat.le_refl _) (by rw[aL];omega) fun id _ h1 h2 _ _=>by rw[aj,RB (by omega)]⟩,by rw[h88];simp only[aa,aM];omega⟩
 ·rintro e ⟨ρ2,Hb⟩ ⟨rfl,q62,qn,qold,pv,rv,qB,qP,qR⟩;simp only at q62 qn qold qB qP qR;obtain⟨y,hy⟩:∃ y,y=kE g least (bI ns x v xs) x:=⟨_,rfl⟩
  rw[<- hy]at qR hNv;refine⟨⟨ρ2,Hb.eJ Hy.next Hx.next (.arr 0 69 (setAt (dE n (N.take v)) (v*3) y.cells))⟩,dv.eJ aZ qB (by omega) (by simp [setAt,NodeP.cells]) ?_,Nat.le_refl _,trivial,?_⟩
  ·have e1:setAt (dE n (N.take v)) (v*3) [aa x.card,pv,rv]=((dE n (N.take v)).take (v*3)++[aa x.card])++pv :: rv :: (dE n (N.take v)).drop (v*3+3):=(by simp [setAt]);have e2:setAt (dE n (N.take v)) (v*3) y.cells=((dE n (N.take v)).take (v*3)++[aa x.card])++ab x.parents :: aH y.rows :: (dE n (N.take v)).drop (v*3+3):=(by rw[hy];simp [setAt,NodeP.cells,kE,ab,aH]);rw[e1,e2];refine MS (fun z hz=>?_) (qP.qq fun i h=>h) (aB.B5 qR fun i h=>h) fun z hz=>pe z (SR hz) _ _ _;rcases RX.1 hz with hz|hz
   ·exact pe z (RS hz) _ _ _
   ·rw[List.mem_singleton.1 hz];exact .lit _
  ·obtain⟨Hm,hHm⟩:∃ Hm,Hm=Hb.eJ Hy.next Hx.next (.arr 0 69 (setAt (dE n (N.take v)) (v*3) y.cells)):=⟨_,rfl⟩
   have nm:Hm.next=Hb.next:=(by rw[hHm];rfl);have gm:Hm.get Hx.next=some (.arr 0 69 (setAt (dE n (N.take v)) (v*3) y.cells)):=(by rw[hHm];exact C8 (by omega));have om:∀ id,id<Hy.next->id≠Hx.next->Hm.get id=Hy.get id:=fun id h h2=>by rw[hHm,uv h h2,qold id h h2]
   rw[<- hHm];clear hHm;show W Try.prog G0 127 none _ _ ⟨ρ2,Hm⟩;have w1:=Rw ((v:Int)+1) (by omega);have fs:=CJ (n:=n) (ns:=N.take v) (x:=y) (by omega);rw[vl]at fs;rw[fs,<- aP hNv]at gm;refine W.vs ?_;simp only[go_sem,q62,w1];exact⟨by omega,⟨v+1,rfl,by omega,by omega,fun id h1 h2=>(om id (by omega) h2).trans (hold id h1 h2),gm⟩,by rw[h62];simp only[aa,aM];omega⟩
end Go.Proofs
