/- Own work: contracts. -/
import Derived.Test.YteolcdbjdgimhaaConB
import Derived.Test.YteolcdbjdgimhaaConC
import Derived.Test.YteolcdbjdgimhaaProg
import Derived.Test.YteolcdbjdgimhaaLibC
import Derived.Test.YteolcdbjdgimhaaConA
set_option linter.all false
set_option maxRecDepth 100000
namespace Go.Proofs.R01
open Go.Hx
def maxN:Int := 4611686018427387903
def checkQ (n d:Int):Int := if d < 1 \/ d > maxN \/ n < -maxN \/ n > maxN then 5 else if Int.gcd n d ≠ 1 then 5 else 0
def cmpR (a b c d:Int):Int := if (a < 0 /\ ¬ c < 0) then -1 else if (¬ a < 0 /\ c < 0) then 1 else if a.natAbs * d.natAbs = c.natAbs * b.natAbs then 0 else if (a.natAbs * d.natAbs < c.natAbs * b.natAbs ↔ 0 <= a) then -1 else 1
theorem cmpR_eq {a b c d:Int}(hb:1 <= b)(hd:1 <= d):cmpR a b c d = cmpI (a * d) (c * b) := by
  unfold cmpR cmpI
  obtain⟨B, rfl⟩ := Int.eq_ofNat_of_zero_le (show 0 <= b by omega)
  obtain⟨D, rfl⟩ := Int.eq_ofNat_of_zero_le (show 0 <= d by omega)
  simp only[Int.natAbs_natCast]
  have pos:∀ x:Nat, ∀ E:Nat, ((x:Int) * (E:Int)) = ((x * E:Nat):Int) := fun x E => (Int.natCast_mul x E).symm
  have neg:∀ x:Nat, ∀ E:Nat, (-(x:Int) * (E:Int)) = -((x * E:Nat):Int) := fun x E => by rw[Int.neg_mul, Int.natCast_mul]
  have pp:∀ x E:Nat, 0 < x -> 1 <= (E:Int) -> 0 < x * E := fun x E h1 h2 => Nat.mul_pos h1 (by omega)
  by_cases h1:a < 0
  · obtain⟨A, hA, hA0⟩:∃ A:Nat, a = -(A:Int) /\ 0 < A := ⟨a.natAbs, by omega, by omega⟩
    subst hA
    have p1 := pp A D hA0 hd
    by_cases h2:c < 0
    · obtain⟨C, hC, hC0⟩:∃ C:Nat, c = -(C:Int) /\ 0 < C := ⟨c.natAbs, by omega, by omega⟩
      subst hC
      simp only[Int.natAbs_neg, Int.natAbs_natCast, neg]
      generalize A * D = P at *
      generalize C * B = Q at *
      repeat' split
      all_goals omega
    · obtain⟨C, hC⟩ := Int.eq_ofNat_of_zero_le (show 0 <= c by omega)
      subst hC
      simp only[Int.natAbs_neg, Int.natAbs_natCast, neg, pos]
      generalize A * D = P at *
      generalize C * B = Q at *
      repeat' split
      all_goals omega
  · obtain⟨A, hA⟩ := Int.eq_ofNat_of_zero_le (show 0 <= a by omega)
    subst hA
    by_cases h2:c < 0
    · obtain⟨C, hC, hC0⟩:∃ C:Nat, c = -(C:Int) /\ 0 < C := ⟨c.natAbs, by omega, by omega⟩
      subst hC
      have p2 := pp C B hC0 hb
      simp only[Int.natAbs_neg, Int.natAbs_natCast, neg, pos]
      generalize A * D = P at *
      generalize C * B = Q at *
      repeat' split
      all_goals omega
    · obtain⟨C, hC⟩ := Int.eq_ofNat_of_zero_le (show 0 <= c by omega)
      subst hC
      simp only[Int.natAbs_natCast, pos]
      repeat' split
      all_goals omega
theorem dig_one:dig 1 = [1] := by rw[dig_pos (by decide), dig_zero]; rfl
theorem Right_spec (n d:Int)(hn:I64 n)(hd:I64 d)(H:AHeap)(K:ARes -> AHeap -> Prop)(hK:K (.ret (.lit (.bool (decide (checkQ n d = 0))))) H):ACall Try.prog G0 12 [qV n d] H K := by
  refine ACall.clo ⟨_, Try.func12, rfl, rfl⟩ fun hcl => ?_
  refine ACall.of_body (n := 31) (rs := [.tmp 2]) Try.func12 rfl rfl rfl (by decide) (by kernel_rfl) (by simp) ?_
  have bad:∀ L, checkQ n d = 5 -> FinV Try.prog G0 H K (.lit (.bool false)) (ext H L) := fun L h => by
    rw[h]at hK
    exact FinV.drop G0_ok hcl (.lit _) hK
  by_cases h1:d < 1
  · simp only[go_sem, qV, h1, appendA_U]
    exact bad _ (by unfold checkQ; rw[if_pos (.inl h1)])
  by_cases h2:4611686018427387903 < d
  · simp only[go_sem, qV, h1, h2, appendA_U]
    exact bad _ (by unfold checkQ; rw[if_pos (.inr (.inl h2))])
  by_cases h4:4611686018427387903 < n
  · simp only[go_sem, qV, h1, h2, h4, appendA_U]
    exact bad _ (by unfold checkQ; rw[if_pos (.inr (.inr (.inr h4)))])
  by_cases h3:n < -4611686018427387903
  · simp only[go_sem, qV, h1, h2, h3, h4, appendA_U]
    exact bad _ (by unfold checkQ; rw[if_pos (.inr (.inr (.inl h3)))])
  simp only[go_sem, qV, h1, h2, h3, h4, appendA_U]
  refine W.draw 8 [0, 1, 3, 0, 8, 31, 63, 0] Try.mixed (by kernel_rfl) (by kernel_rfl) ?_
  simp only[go_sem, qV, appendA_U]
  have l1 := dl5 hn
  have l2 := dl5 hd
  refine⟨_, [], PCall.pure fun H2 => digits_spec n hn H2 _ ⟨rfl, rfl⟩, ?_⟩
  simp only[go_sem, appendA_U]
  refine⟨_, [], PCall.pure fun H2 => digits_spec d hd H2 _ ⟨rfl, rfl⟩, ?_⟩
  simp only[go_sem, appendA_U]
  refine⟨_, [], PCall.pure fun H2 => rgcd_spec n.natAbs d.natAbs (by omega) (by omega) H2 _ ⟨rfl, rfl⟩, ?_⟩
  simp only[go_sem, appendA_U]
  refine⟨by refine⟨?_, ?_, ?_, ?_⟩ <;> (intro x hx; omega), ?_⟩
  have gl:(dig (n.natAbs.gcd d.natAbs)).length <= 100 := by
    have:n.natAbs.gcd d.natAbs <= d.natAbs := Nat.le_of_dvd (by omega) (Nat.gcd_dvd_right _ _)
    have := dig_mono this
    omega
  have ck:checkQ n d = if Int.gcd n d ≠ 1 then 5 else 0 := by unfold checkQ; rw[if_neg (by unfold maxN; omega)]
  have eg:Int.gcd n d = n.natAbs.gcd d.natAbs := rfl
  obtain⟨H1, hH1⟩:∃ H1, H1 = ext H [.arr 0 42 [.lit (.int .i64 n), .lit (.int .i64 d)]] := ⟨_, rfl⟩
  have ov1:Over H H1 := by rw[hH1]; exact .ext _ _
  have e1:H.next + 1 = H1.next := by rw[hH1]; rfl
  rw[<- hH1, e1]
  have hO:OwnG H1.next (ext H1 [.arr 0 3 [.lit (.int .i64 1)]]) 3 (.own H1.next 0 0 1 1) (ints [1]) := .inr ⟨H1.next, 0, Nat.le_refl _, by simp [ext_next], rfl, get_ext0 _ _ _⟩
  refine AApply.cutArgs H1.next (args' := [vecI (dig (n.natAbs.gcd d.natAbs)), vecI (dig 1)]) G0_ok rfl (fun j hj _ => match j, hj with | 0, _ => .keepInts _ | 1, _ => by rw[dig_one]; exact hO.fzI fun i hi => hi) (compare_spec _ 1 (by omega) _ _ ⟨trivial, ?_⟩)
  have ov2:Over H ((ext H1 [.arr 0 3 [.lit (.int .i64 1)]]).cut H1.next) := ov1.trans (Over.ext _ _).cut
  rw[ck, eg]at hK
  by_cases hg:n.natAbs.gcd d.natAbs = 1
  · rw[hg]at hK ⊢
    have c1:cmpI ((1:Nat):Int) ((1:Nat):Int) = 0 := by decide
    rw[c1]
    simp only[go_sem, appendA_U]
    exact FinV.dropO G0_ok hcl ov2 (.lit _) hK
  · have c1 : ¬ cmpI ((n.natAbs.gcd d.natAbs : Nat) : Int) ((1 : Nat) : Int) = 0 := by
      unfold cmpI
      split
      · omega
      · split <;> omega
    obtain⟨c, hc⟩:∃ c, c = cmpI ((n.natAbs.gcd d.natAbs:Nat):Int) ((1:Nat):Int) := ⟨_, rfl⟩
    rw[<- hc]at c1 ⊢
    simp only[go_sem, c1, appendA_U]
    rw[if_pos hg]at hK
    exact FinV.dropO G0_ok hcl ov2 (.lit _) (by simpa using hK)
theorem cmpR_nn {a b c d:Int}(h1:a < 0)(h2:c < 0):cmpR a b c d = cmpI ((c.natAbs * b.natAbs:Nat):Int) ((a.natAbs * d.natAbs:Nat):Int) := by
  unfold cmpR cmpI
  generalize a.natAbs * d.natAbs = P
  generalize c.natAbs * b.natAbs = Q
  repeat' split
  all_goals omega
theorem cmpR_pp {a b c d:Int}(h1:¬ a < 0)(h2:¬ c < 0):cmpR a b c d = cmpI ((a.natAbs * d.natAbs:Nat):Int) ((c.natAbs * b.natAbs:Nat):Int) := by
  unfold cmpR cmpI
  generalize a.natAbs * d.natAbs = P
  generalize c.natAbs * b.natAbs = Q
  repeat' split
  all_goals omega
theorem cmpR_np {a b c d:Int}(h1:a < 0)(h2:¬ c < 0):cmpR a b c d = -1 := by unfold cmpR; rw[if_pos ⟨h1, h2⟩]
theorem cmpR_pn {a b c d:Int}(h1:¬ a < 0)(h2:c < 0):cmpR a b c d = 1 := by unfold cmpR; rw[if_neg (by omega), if_pos ⟨h1, h2⟩]
set_option maxHeartbeats 1000000 in
theorem rCmp_spec (a b c d : Int) (ha : I64 a) (hb : I64 b) (hc : I64 c) (hd : I64 d) (hb0 : 1 ≤ b) (hd0 : 1 ≤ d) (H : AHeap) (K : ARes → AHeap → Prop) (hK : K (.ret (.lit (.int .i64 (cmpI (a * d) (c * b))))) H) :
    ACall Try.prog G0 13 [qV a b, qV c d] H K := by
  refine ACall.clo ⟨_, Try.func13, rfl, rfl⟩ fun hcl => ?_
  have la := dl5 ha
  have lb := dl5 hb
  have lc := dl5 hc
  have ld := dl5 hd
  have l1 := dl10 ha hd
  have l2 := dl10 hc hb
  rw[<- cmpR_eq hb0 hd0]at hK
  refine ACall.of_body (n := 44) (rs := [.tmp 4]) Try.func13 rfl rfl rfl (by decide) (by kernel_rfl) (by simp) ?_
  simp only[go_sem, qV, appendA_U]
  refine W.draw 12 [0, 1, 3, 0, 8, 31, 63, 0, 128, 511, 0, 1024] Try.mixed (by kernel_rfl) (by kernel_rfl) ?_
  simp only[go_sem, appendA_U]
  refine⟨_, [], PCall.pure fun H2 => digits_spec a ha H2 _ ⟨rfl, rfl⟩, ?_⟩
  simp only[go_sem, appendA_U]
  refine⟨_, [], PCall.pure fun H2 => digits_spec d hd H2 _ ⟨rfl, rfl⟩, ?_⟩
  simp only[go_sem, appendA_U]
  refine⟨_, [], PCall.pure fun H2 => dtimes_dig a.natAbs d.natAbs (by omega) (by omega) H2 _ ⟨rfl, rfl⟩, ?_⟩
  simp only[go_sem, appendA_U]
  refine⟨_, [], PCall.pure fun H2 => digits_spec c hc H2 _ ⟨rfl, rfl⟩, ?_⟩
  simp only[go_sem, appendA_U]
  refine AApply.clo (digits_spec b hb _ _ ⟨trivial, ?_⟩)
  simp only[go_sem, appendA_U]
  refine AApply.clo (dtimes_dig c.natAbs b.natAbs (by omega) (by omega) _ _ ⟨trivial, ?_⟩)
  by_cases h1:a < 0
  · by_cases h2:c < 0
    · rw[cmpR_nn h1 h2]at hK
      simp only[go_sem, h1, h2, appendA_U]
      refine AApply.clo (compare_spec _ _ (by omega) _ _ ⟨trivial, ?_⟩)
      simp only[go_sem, appendA_U]
      exact FinV.drop G0_ok hcl (.lit _) hK
    · rw[cmpR_np h1 h2]at hK
      simp only[go_sem, h1, h2, appendA_U]
      exact FinV.drop G0_ok hcl (.lit _) hK
  · by_cases h2:c < 0
    · rw[cmpR_pn h1 h2]at hK
      simp only[go_sem, h1, h2, appendA_U]
      exact FinV.drop G0_ok hcl (.lit _) hK
    · rw[cmpR_pp h1 h2]at hK
      simp only[go_sem, h1, h2, appendA_U]
      refine AApply.clo (compare_spec _ _ (by omega) _ _ ⟨trivial, ?_⟩)
      simp only[go_sem, appendA_U]
      exact FinV.drop G0_ok hcl (.lit _) hK
end Go.Proofs.R01
namespace Go.Proofs
open Go.Hx
end Go.Proofs
namespace Go.Proofs
open Go.Hx
structure RatF (S D a b g:Int):Prop where
 g1:1<=g
 n:a*g=S
 d:b*g=D
 b1:1<=b
 cop:Int.gcd a b=1
theorem ratio_facts {S D:Int}(hD:1<=D):∃ a b g:Int,ratioV S D=.agg [.lit (.int .i64 a),.lit (.int .i64 b)]/\RatF S D a b g:=by
 obtain⟨G,hG⟩:∃ G,G=Int.gcd S D:=⟨_,rfl⟩
 have g0:0<G:=by rw[hG];exact Int.gcd_pos_of_ne_zero_right _ (by omega)
 obtain⟨a,ha⟩:(G:Int) ∣ S:=by rw[hG];exact Int.gcd_dvd_left ..
 obtain⟨b,hb⟩:(G:Int) ∣ D:=by rw[hG];exact Int.gcd_dvd_right ..
 have gne:(G:Int)≠0:=by omega
 have hgc:G=G*Int.gcd a b:=by
  have h:=Int.gcd_mul_left (G:Int) a b
  rw[<- ha,<- hb,<- hG,Int.natAbs_natCast]at h
  exact h
 have hc:Int.gcd a b=1:=by
  have:G*1=G*Int.gcd a b:=by omega
  exact(Nat.eq_of_mul_eq_mul_left g0 this).symm
 have hb1:1<=b:=by
  rcases Int.lt_or_le b 1 with h|h
  ·have:(G:Int)*b<=(G:Int)*0:=Int.mul_le_mul_of_nonneg_left (by omega) (by omega)
   omega
  ·exact h
 refine⟨a,b,G,?_,by omega,by rw[Int.mul_comm];exact ha.symm,by rw[Int.mul_comm];exact hb.symm,hb1,hc⟩
 unfold ratioV
 rw[<- hG]
 have e1:S.tdiv (G:Int)=a:=by rw[ha];exact Int.mul_tdiv_cancel_left a gne
 have e2:D.tdiv (G:Int)=b:=by rw[hb];exact Int.mul_tdiv_cancel_left b gne
 rw[e1,e2]
theorem RatF.bound {S D a b g:Int}(h:RatF S D a b g):a.natAbs<=S.natAbs/\b<=D:=by
 have h1:S.natAbs=a.natAbs*g.natAbs:=by rw[<- h.n,Int.natAbs_mul]
 have h2:D.natAbs=b.natAbs*g.natAbs:=by rw[<- h.d,Int.natAbs_mul]
 have hg:0<g.natAbs:=by have:=h.g1;omega
 have l1:=Nat.le_mul_of_pos_right a.natAbs hg
 have l2:=Nat.le_mul_of_pos_right b.natAbs hg
 have l3:b.natAbs<=D.natAbs:=by omega
 have hb:=h.b1
 have hD:0<=D:=by rw[<- h.d];exact Int.mul_nonneg (by omega) (by have:=h.g1;omega)
 omega
theorem cmpI_mul {x y m:Int}(hm:1<=m):R01.cmpI (x*m) (y*m)=R01.cmpI x y:=by
 have h1:x*m<y*m↔x<y:=Int.mul_lt_mul_right (by omega)
 have h2:x*m=y*m↔x=y:=⟨fun h=>Int.eq_of_mul_eq_mul_right (by omega) h,fun h=>by rw[h]⟩
 unfold R01.cmpI
 simp only[h1,h2]
theorem RatF.cmp {S1 S2 D a1 b1 g1 a2 b2 g2:Int}(hD:1<=D)(h1:RatF S1 D a1 b1 g1)(h2:RatF S2 D a2 b2 g2):R01.cmpI (a1*b2) (a2*b1)=R01.cmpI S1 S2:=by
 have hg:1<=g1*g2:=by
  have:=Int.mul_le_mul h1.g1 h2.g1 (by omega) (by have:=h1.g1;omega)
  omega
 rw[<- cmpI_mul hg,<- cmpI_mul (x:=S1) (y:=S2) hD]
 congr 1
 ·rw[<- h1.n,<- h2.d]
  simp only[Int.mul_assoc,Int.mul_comm,Int.mul_left_comm]
 ·rw[<- h2.n,<- h1.d]
  simp only[Int.mul_assoc,Int.mul_comm,Int.mul_left_comm]
theorem RatF.check {S D a b g:Int}(h:RatF S D a b g)(hS:S.natAbs<=4611686018427387903)(hD:D<=4611686018427387903):R01.checkQ a b=0:=by
 have hb:=h.bound
 have:=h.b1
 unfold R01.checkQ R01.maxN
 rw[if_neg (by omega),if_neg (by rw[h.cop];simp)]
theorem grain_pow {x:InfP}(hok:InfOk x):1<=x.grain ^ x.nodes.length/\x.grain ^ x.nodes.length<=167961600000000:=by
 have hg:=hok.net.g1
 refine⟨Int.pow_pos (by omega),?_⟩
 have h1:=prodL_le_pow (b:=60) (by omega) (l:=List.replicate x.nodes.length x.grain) fun c hc=>by rw[List.eq_of_mem_replicate hc];omega
 rw[List.length_replicate]at h1
 have h2:=pow_le_pow60 x.nodes.length (by have:=hok.n.n1;omega)
 have h3:∀ k:Nat,prodL (List.replicate k x.grain)=x.grain ^ k:=fun k=>by
  induction k with
  | zero=>rw[List.replicate_zero,prodL_nil,Int.pow_zero]
  | succ k ih=>rw[List.replicate_succ,prodL_cons,ih,Int.pow_succ,Int.mul_comm]
 rw[h3]at h1
 omega
end Go.Proofs
/-
  Calls of this seat's program, reckoned out by the evaluator: what each of them gives. Laid by a program of ours.
-/
namespace Go.Proofs
open Go.Hx
theorem Try.mixedK:Try.prog.follows .mixedOrders=true:=by kernel_rfl
def Try.kn18:KTab:=[([.vec 0 []],.vec 0 [])]
theorem Try.kn18_ok:KOk Try.prog noGl 18 Try.kn18:=.cons (clone_spec [] (by decide) noH _ ⟨_,rfl,.vec0⟩) .nil
noncomputable def Try.ep0:EP:={ P:=Try.prog,G:=noGl,gd:=fun _=>none,known:=knownOf [(18,Try.kn18)] }
theorem Try.ep0_ok:EOk Try.ep0:=.of_known (l:=[(18,Try.kn18)]) rfl noGl_ok Try.mixedK (fun _ _ h=>by cases h) ⟨Try.kn18_ok,trivial⟩
def Try.ka20_0:List AVal:=[]
def Try.kv20_0:AVal:=.agg [.lit (.int .i64 2),.vec 3 [.lit (.int .i64 2),.lit (.slice none 0 0),.vec 1 [.vec 2 [.lit (.int .i64 1),.lit (.int .i64 1)]],.lit (.int .i64 2),.vec 1 [.lit (.int .i64 0)],.lit (.slice none 0 0),.lit (.int .i64 2),.vec 1 [.lit (.int .i64 1)],.lit (.slice none 0 0)],.lit (.int .u64 6),.vec 1 [.vec 2 [.lit (.int .i64 0),.lit (.int .i64 2)],.vec 4 [.lit (.int .i64 10),.lit (.int .i64 0),.lit (.int .i64 0),.lit (.int .i64 10)]]]
theorem Try.kc20_0:chk Try.ep0 1000000 20 Try.ka20_0 Try.kv20_0=true:=by kernel_rfl
def Try.kn20:KTab:=[(Try.ka20_0,Try.kv20_0)]
theorem Try.kn20_ok:KOk Try.prog noGl 20 Try.kn20:=.cons (chk_ok Try.ep0_ok Try.kc20_0) .nil
noncomputable def Try.ep1:EP:={ P:=Try.prog,G:=noGl,gd:=fun _=>none,known:=knownOf [(18,Try.kn18),(20,Try.kn20)] }
theorem Try.ep1_ok:EOk Try.ep1:=.of_known (l:=[(18,Try.kn18),(20,Try.kn20)]) rfl noGl_ok Try.mixedK (fun _ _ h=>by cases h) ⟨Try.kn18_ok,⟨Try.kn20_ok,trivial⟩⟩
def Try.ka28_0:List AVal:=[.agg [.lit (.int .i64 2),.vec 3 [.lit (.int .i64 2),.lit (.slice none 0 0),.vec 1 [.vec 2 [.lit (.int .i64 1),.lit (.int .i64 1)]],.lit (.int .i64 2),.vec 1 [.lit (.int .i64 0)],.lit (.slice none 0 0),.lit (.int .i64 2),.vec 1 [.lit (.int .i64 1)],.lit (.slice none 0 0)],.lit (.int .u64 6),.vec 1 [.vec 2 [.lit (.int .i64 0),.lit (.int .i64 2)],.vec 4 [.lit (.int .i64 10),.lit (.int .i64 0),.lit (.int .i64 0),.lit (.int .i64 10)]]],.vec 2 [.vec 2 [.lit (.int .i64 0),.lit (.int .i64 0)],.vec 2 [.lit (.int .i64 0),.lit (.int .i64 0)]]]
def Try.kv28_0:AVal:=.lit (.int .i64 0)
theorem Try.kc28_0:chk Try.ep1 1000000 28 Try.ka28_0 Try.kv28_0=true:=by kernel_rfl
def Try.ka28_1:List AVal:=[.agg [.lit (.int .i64 2),.vec 3 [.lit (.int .i64 2),.lit (.slice none 0 0),.vec 1 [.vec 2 [.lit (.int .i64 1),.lit (.int .i64 1)]],.lit (.int .i64 2),.vec 1 [.lit (.int .i64 0)],.lit (.slice none 0 0),.lit (.int .i64 2),.vec 1 [.lit (.int .i64 1)],.lit (.slice none 0 0)],.lit (.int .u64 6),.vec 1 [.vec 2 [.lit (.int .i64 0),.lit (.int .i64 2)],.vec 4 [.lit (.int .i64 10),.lit (.int .i64 0),.lit (.int .i64 0),.lit (.int .i64 10)]]],.vec 2 [.vec 2 [.lit (.int .i64 0),.lit (.int .i64 1)],.vec 2 [.lit (.int .i64 0),.lit (.int .i64 0)]]]
def Try.kv28_1:AVal:=.lit (.int .i64 0)
theorem Try.kc28_1:chk Try.ep1 1000000 28 Try.ka28_1 Try.kv28_1=true:=by kernel_rfl
def Try.ka28_2:List AVal:=[.agg [.lit (.int .i64 2),.vec 3 [.lit (.int .i64 2),.lit (.slice none 0 0),.vec 1 [.vec 2 [.lit (.int .i64 1),.lit (.int .i64 1)]],.lit (.int .i64 2),.vec 1 [.lit (.int .i64 0)],.lit (.slice none 0 0),.lit (.int .i64 2),.vec 1 [.lit (.int .i64 1)],.lit (.slice none 0 0)],.lit (.int .u64 6),.vec 1 [.vec 2 [.lit (.int .i64 0),.lit (.int .i64 2)],.vec 4 [.lit (.int .i64 10),.lit (.int .i64 0),.lit (.int .i64 0),.lit (.int .i64 10)]]],.vec 1 [.vec 2 [.lit (.int .i64 0),.lit (.int .i64 0)]]]
def Try.kv28_2:AVal:=.lit (.int .i64 201)
theorem Try.kc28_2:chk Try.ep1 1000000 28 Try.ka28_2 Try.kv28_2=true:=by kernel_rfl
def Try.ka28_3:List AVal:=[.agg [.lit (.int .i64 2),.vec 3 [.lit (.int .i64 2),.lit (.slice none 0 0),.vec 1 [.vec 2 [.lit (.int .i64 1),.lit (.int .i64 1)]],.lit (.int .i64 2),.vec 1 [.lit (.int .i64 0)],.lit (.slice none 0 0),.lit (.int .i64 2),.vec 1 [.lit (.int .i64 1)],.lit (.slice none 0 0)],.lit (.int .u64 6),.vec 1 [.vec 2 [.lit (.int .i64 0),.lit (.int .i64 2)],.vec 4 [.lit (.int .i64 10),.lit (.int .i64 0),.lit (.int .i64 0),.lit (.int .i64 10)]]],.vec 2 [.vec 2 [.lit (.int .i64 0),.lit (.int .i64 1)],.vec 2 [.lit (.int .i64 0),.lit (.int .i64 1)]]]
def Try.kv28_3:AVal:=.lit (.int .i64 0)
theorem Try.kc28_3:chk Try.ep1 1000000 28 Try.ka28_3 Try.kv28_3=true:=by kernel_rfl
def Try.ka28_4:List AVal:=[.agg [.lit (.int .i64 2),.vec 3 [.lit (.int .i64 2),.lit (.slice none 0 0),.vec 1 [.vec 2 [.lit (.int .i64 1),.lit (.int .i64 1)]],.lit (.int .i64 2),.vec 1 [.lit (.int .i64 0)],.lit (.slice none 0 0),.lit (.int .i64 2),.vec 1 [.lit (.int .i64 1)],.lit (.slice none 0 0)],.lit (.int .u64 6),.vec 1 [.vec 2 [.lit (.int .i64 0),.lit (.int .i64 2)],.vec 4 [.lit (.int .i64 10),.lit (.int .i64 0),.lit (.int .i64 0),.lit (.int .i64 10)]]],.vec 2 [.vec 2 [.lit (.int .i64 1),.lit (.int .i64 1)],.vec 2 [.lit (.int .i64 1),.lit (.int .i64 0)]]]
def Try.kv28_4:AVal:=.lit (.int .i64 0)
theorem Try.kc28_4:chk Try.ep1 1000000 28 Try.ka28_4 Try.kv28_4=true:=by kernel_rfl
def Try.ka28_5:List AVal:=[.agg [.lit (.int .i64 2),.vec 3 [.lit (.int .i64 2),.lit (.slice none 0 0),.vec 1 [.vec 2 [.lit (.int .i64 1),.lit (.int .i64 1)]],.lit (.int .i64 2),.vec 1 [.lit (.int .i64 0)],.lit (.slice none 0 0),.lit (.int .i64 2),.vec 1 [.lit (.int .i64 1)],.lit (.slice none 0 0)],.lit (.int .u64 6),.vec 1 [.vec 2 [.lit (.int .i64 0),.lit (.int .i64 2)],.vec 4 [.lit (.int .i64 10),.lit (.int .i64 0),.lit (.int .i64 0),.lit (.int .i64 10)]]],.vec 2 [.vec 2 [.lit (.int .i64 1),.lit (.int .i64 0)],.vec 2 [.lit (.int .i64 1),.lit (.int .i64 0)]]]
def Try.kv28_5:AVal:=.lit (.int .i64 0)
theorem Try.kc28_5:chk Try.ep1 1000000 28 Try.ka28_5 Try.kv28_5=true:=by kernel_rfl
def Try.kn28:KTab:=[(Try.ka28_0,Try.kv28_0),(Try.ka28_1,Try.kv28_1),(Try.ka28_2,Try.kv28_2),(Try.ka28_3,Try.kv28_3),(Try.ka28_4,Try.kv28_4),(Try.ka28_5,Try.kv28_5)]
theorem Try.kn28_ok:KOk Try.prog noGl 28 Try.kn28:=.cons (chk_ok Try.ep1_ok Try.kc28_0) (.cons (chk_ok Try.ep1_ok Try.kc28_1) (.cons (chk_ok Try.ep1_ok Try.kc28_2) (.cons (chk_ok Try.ep1_ok Try.kc28_3) (.cons (chk_ok Try.ep1_ok Try.kc28_4) (.cons (chk_ok Try.ep1_ok Try.kc28_5) .nil)))))
noncomputable def Try.ep2:EP:={ P:=Try.prog,G:=noGl,gd:=fun _=>none,known:=knownOf [(18,Try.kn18),(20,Try.kn20),(28,Try.kn28)] }
theorem Try.ep2_ok:EOk Try.ep2:=.of_known (l:=[(18,Try.kn18),(20,Try.kn20),(28,Try.kn28)]) rfl noGl_ok Try.mixedK (fun _ _ h=>by cases h) ⟨Try.kn18_ok,⟨Try.kn20_ok,⟨Try.kn28_ok,trivial⟩⟩⟩
def Try.ka66_0:List AVal:=[.agg [.lit (.int .i64 2),.vec 3 [.lit (.int .i64 2),.lit (.slice none 0 0),.vec 1 [.vec 2 [.lit (.int .i64 1),.lit (.int .i64 1)]],.lit (.int .i64 2),.vec 1 [.lit (.int .i64 0)],.lit (.slice none 0 0),.lit (.int .i64 2),.vec 1 [.lit (.int .i64 1)],.lit (.slice none 0 0)],.lit (.int .u64 6),.vec 1 [.vec 2 [.lit (.int .i64 0),.lit (.int .i64 2)],.vec 4 [.lit (.int .i64 10),.lit (.int .i64 0),.lit (.int .i64 0),.lit (.int .i64 10)]]]]
def Try.kv66_0:AVal:=.tup [.vec 8 [.lit (.int .i64 4),.lit (.int .i64 4),.lit (.int .i64 4),.lit (.int .i64 4),.lit (.int .i64 4),.lit (.int .i64 4),.lit (.int .i64 4),.lit (.int .i64 4)],.vec 8 [.lit (.int .i64 40),.lit (.int .i64 0),.lit (.int .i64 40),.lit (.int .i64 0),.lit (.int .i64 0),.lit (.int .i64 40),.lit (.int .i64 0),.lit (.int .i64 40)]]
theorem Try.kc66_0:chk Try.ep2 1000000 66 Try.ka66_0 Try.kv66_0=true:=by kernel_rfl
def Try.kn66:KTab:=[(Try.ka66_0,Try.kv66_0)]
theorem Try.kn66_ok:KOk Try.prog noGl 66 Try.kn66:=.cons (chk_ok Try.ep2_ok Try.kc66_0) .nil
noncomputable def Try.ep3:EP:={ P:=Try.prog,G:=noGl,gd:=fun _=>none,known:=knownOf [(18,Try.kn18),(20,Try.kn20),(28,Try.kn28),(66,Try.kn66)] }
theorem Try.ep3_ok:EOk Try.ep3:=.of_known (l:=[(18,Try.kn18),(20,Try.kn20),(28,Try.kn28),(66,Try.kn66)]) rfl noGl_ok Try.mixedK (fun _ _ h=>by cases h) ⟨Try.kn18_ok,⟨Try.kn20_ok,⟨Try.kn28_ok,⟨Try.kn66_ok,trivial⟩⟩⟩⟩
def Try.ka56_0:List AVal:=[.agg [.lit (.int .i64 2),.vec 3 [.lit (.int .i64 2),.lit (.slice none 0 0),.vec 1 [.vec 2 [.lit (.int .i64 1),.lit (.int .i64 1)]],.lit (.int .i64 2),.vec 1 [.lit (.int .i64 0)],.lit (.slice none 0 0),.lit (.int .i64 2),.vec 1 [.lit (.int .i64 1)],.lit (.slice none 0 0)],.lit (.int .u64 6),.vec 1 [.vec 2 [.lit (.int .i64 0),.lit (.int .i64 2)],.vec 4 [.lit (.int .i64 10),.lit (.int .i64 0),.lit (.int .i64 0),.lit (.int .i64 10)]]],.vec 2 [.vec 2 [.lit (.int .i64 0),.lit (.int .i64 0)],.vec 2 [.lit (.int .i64 0),.lit (.int .i64 0)]],.lit (.int .i64 1)]
def Try.kv56_0:AVal:=.tup [.vec 2 [.vec 2 [.lit (.int .i64 40),.lit (.int .i64 40)],.vec 2 [.lit (.int .i64 0),.lit (.int .i64 0)]],.lit (.int .i64 0)]
theorem Try.kc56_0:chk Try.ep3 1000000 56 Try.ka56_0 Try.kv56_0=true:=by kernel_rfl
def Try.ka56_1:List AVal:=[.agg [.lit (.int .i64 2),.vec 3 [.lit (.int .i64 2),.lit (.slice none 0 0),.vec 1 [.vec 2 [.lit (.int .i64 1),.lit (.int .i64 1)]],.lit (.int .i64 2),.vec 1 [.lit (.int .i64 0)],.lit (.slice none 0 0),.lit (.int .i64 2),.vec 1 [.lit (.int .i64 1)],.lit (.slice none 0 0)],.lit (.int .u64 6),.vec 1 [.vec 2 [.lit (.int .i64 0),.lit (.int .i64 2)],.vec 4 [.lit (.int .i64 10),.lit (.int .i64 0),.lit (.int .i64 0),.lit (.int .i64 10)]]],.vec 2 [.vec 2 [.lit (.int .i64 0),.lit (.int .i64 0)],.vec 2 [.lit (.int .i64 0),.lit (.int .i64 0)]],.lit (.int .i64 2)]
def Try.kv56_1:AVal:=.tup [.vec 2 [.vec 2 [.lit (.int .i64 40),.lit (.int .i64 40)],.vec 2 [.lit (.int .i64 0),.lit (.int .i64 0)]],.lit (.int .i64 0)]
theorem Try.kc56_1:chk Try.ep3 1000000 56 Try.ka56_1 Try.kv56_1=true:=by kernel_rfl
def Try.ka56_2:List AVal:=[.agg [.lit (.int .i64 2),.vec 3 [.lit (.int .i64 2),.lit (.slice none 0 0),.vec 1 [.vec 2 [.lit (.int .i64 1),.lit (.int .i64 1)]],.lit (.int .i64 2),.vec 1 [.lit (.int .i64 0)],.lit (.slice none 0 0),.lit (.int .i64 2),.vec 1 [.lit (.int .i64 1)],.lit (.slice none 0 0)],.lit (.int .u64 6),.vec 1 [.vec 2 [.lit (.int .i64 0),.lit (.int .i64 2)],.vec 4 [.lit (.int .i64 10),.lit (.int .i64 0),.lit (.int .i64 0),.lit (.int .i64 10)]]],.vec 2 [.vec 2 [.lit (.int .i64 0),.lit (.int .i64 1)],.vec 2 [.lit (.int .i64 0),.lit (.int .i64 0)]],.lit (.int .i64 1)]
def Try.kv56_2:AVal:=.tup [.vec 2 [.vec 2 [.lit (.int .i64 40),.lit (.int .i64 40)],.vec 2 [.lit (.int .i64 0),.lit (.int .i64 0)]],.lit (.int .i64 0)]
theorem Try.kc56_2:chk Try.ep3 1000000 56 Try.ka56_2 Try.kv56_2=true:=by kernel_rfl
def Try.ka56_3:List AVal:=[.agg [.lit (.int .i64 2),.vec 3 [.lit (.int .i64 2),.lit (.slice none 0 0),.vec 1 [.vec 2 [.lit (.int .i64 1),.lit (.int .i64 1)]],.lit (.int .i64 2),.vec 1 [.lit (.int .i64 0)],.lit (.slice none 0 0),.lit (.int .i64 2),.vec 1 [.lit (.int .i64 1)],.lit (.slice none 0 0)],.lit (.int .u64 6),.vec 1 [.vec 2 [.lit (.int .i64 0),.lit (.int .i64 2)],.vec 4 [.lit (.int .i64 10),.lit (.int .i64 0),.lit (.int .i64 0),.lit (.int .i64 10)]]],.vec 2 [.vec 2 [.lit (.int .i64 0),.lit (.int .i64 1)],.vec 2 [.lit (.int .i64 0),.lit (.int .i64 0)]],.lit (.int .i64 2)]
def Try.kv56_3:AVal:=.tup [.vec 2 [.vec 2 [.lit (.int .i64 40),.lit (.int .i64 0)],.vec 2 [.lit (.int .i64 0),.lit (.int .i64 40)]],.lit (.int .i64 0)]
theorem Try.kc56_3:chk Try.ep3 1000000 56 Try.ka56_3 Try.kv56_3=true:=by kernel_rfl
def Try.ka56_4:List AVal:=[.agg [.lit (.int .i64 2),.vec 3 [.lit (.int .i64 2),.lit (.slice none 0 0),.vec 1 [.vec 2 [.lit (.int .i64 1),.lit (.int .i64 1)]],.lit (.int .i64 2),.vec 1 [.lit (.int .i64 0)],.lit (.slice none 0 0),.lit (.int .i64 2),.vec 1 [.lit (.int .i64 1)],.lit (.slice none 0 0)],.lit (.int .u64 6),.vec 1 [.vec 2 [.lit (.int .i64 0),.lit (.int .i64 2)],.vec 4 [.lit (.int .i64 10),.lit (.int .i64 0),.lit (.int .i64 0),.lit (.int .i64 10)]]],.vec 2 [.vec 2 [.lit (.int .i64 0),.lit (.int .i64 1)],.vec 2 [.lit (.int .i64 0),.lit (.int .i64 1)]],.lit (.int .i64 1)]
def Try.kv56_4:AVal:=.tup [.vec 2 [.vec 2 [.lit (.int .i64 40),.lit (.int .i64 0)],.vec 2 [.lit (.int .i64 0),.lit (.int .i64 40)]],.lit (.int .i64 0)]
theorem Try.kc56_4:chk Try.ep3 1000000 56 Try.ka56_4 Try.kv56_4=true:=by kernel_rfl
def Try.ka56_5:List AVal:=[.agg [.lit (.int .i64 2),.vec 3 [.lit (.int .i64 2),.lit (.slice none 0 0),.vec 1 [.vec 2 [.lit (.int .i64 1),.lit (.int .i64 1)]],.lit (.int .i64 2),.vec 1 [.lit (.int .i64 0)],.lit (.slice none 0 0),.lit (.int .i64 2),.vec 1 [.lit (.int .i64 1)],.lit (.slice none 0 0)],.lit (.int .u64 6),.vec 1 [.vec 2 [.lit (.int .i64 0),.lit (.int .i64 2)],.vec 4 [.lit (.int .i64 10),.lit (.int .i64 0),.lit (.int .i64 0),.lit (.int .i64 10)]]],.vec 2 [.vec 2 [.lit (.int .i64 0),.lit (.int .i64 1)],.vec 2 [.lit (.int .i64 0),.lit (.int .i64 1)]],.lit (.int .i64 2)]
def Try.kv56_5:AVal:=.tup [.vec 2 [.vec 2 [.lit (.int .i64 40),.lit (.int .i64 0)],.vec 2 [.lit (.int .i64 0),.lit (.int .i64 40)]],.lit (.int .i64 0)]
theorem Try.kc56_5:chk Try.ep3 1000000 56 Try.ka56_5 Try.kv56_5=true:=by kernel_rfl
def Try.ka56_6:List AVal:=[.agg [.lit (.int .i64 2),.vec 3 [.lit (.int .i64 2),.lit (.slice none 0 0),.vec 1 [.vec 2 [.lit (.int .i64 1),.lit (.int .i64 1)]],.lit (.int .i64 2),.vec 1 [.lit (.int .i64 0)],.lit (.slice none 0 0),.lit (.int .i64 2),.vec 1 [.lit (.int .i64 1)],.lit (.slice none 0 0)],.lit (.int .u64 6),.vec 1 [.vec 2 [.lit (.int .i64 0),.lit (.int .i64 2)],.vec 4 [.lit (.int .i64 10),.lit (.int .i64 0),.lit (.int .i64 0),.lit (.int .i64 10)]]],.vec 2 [.vec 2 [.lit (.int .i64 1),.lit (.int .i64 1)],.vec 2 [.lit (.int .i64 1),.lit (.int .i64 0)]],.lit (.int .i64 1)]
def Try.kv56_6:AVal:=.tup [.vec 2 [.vec 2 [.lit (.int .i64 0),.lit (.int .i64 40)],.vec 2 [.lit (.int .i64 40),.lit (.int .i64 0)]],.lit (.int .i64 0)]
theorem Try.kc56_6:chk Try.ep3 1000000 56 Try.ka56_6 Try.kv56_6=true:=by kernel_rfl
def Try.ka56_7:List AVal:=[.agg [.lit (.int .i64 2),.vec 3 [.lit (.int .i64 2),.lit (.slice none 0 0),.vec 1 [.vec 2 [.lit (.int .i64 1),.lit (.int .i64 1)]],.lit (.int .i64 2),.vec 1 [.lit (.int .i64 0)],.lit (.slice none 0 0),.lit (.int .i64 2),.vec 1 [.lit (.int .i64 1)],.lit (.slice none 0 0)],.lit (.int .u64 6),.vec 1 [.vec 2 [.lit (.int .i64 0),.lit (.int .i64 2)],.vec 4 [.lit (.int .i64 10),.lit (.int .i64 0),.lit (.int .i64 0),.lit (.int .i64 10)]]],.vec 2 [.vec 2 [.lit (.int .i64 1),.lit (.int .i64 0)],.vec 2 [.lit (.int .i64 1),.lit (.int .i64 0)]],.lit (.int .i64 2)]
def Try.kv56_7:AVal:=.tup [.vec 2 [.vec 2 [.lit (.int .i64 0),.lit (.int .i64 40)],.vec 2 [.lit (.int .i64 40),.lit (.int .i64 0)]],.lit (.int .i64 0)]
theorem Try.kc56_7:chk Try.ep3 1000000 56 Try.ka56_7 Try.kv56_7=true:=by kernel_rfl
def Try.ka56_8:List AVal:=[.agg [.lit (.int .i64 2),.vec 3 [.lit (.int .i64 2),.lit (.slice none 0 0),.vec 1 [.vec 2 [.lit (.int .i64 1),.lit (.int .i64 1)]],.lit (.int .i64 2),.vec 1 [.lit (.int .i64 0)],.lit (.slice none 0 0),.lit (.int .i64 2),.vec 1 [.lit (.int .i64 1)],.lit (.slice none 0 0)],.lit (.int .u64 6),.vec 1 [.vec 2 [.lit (.int .i64 0),.lit (.int .i64 2)],.vec 4 [.lit (.int .i64 10),.lit (.int .i64 0),.lit (.int .i64 0),.lit (.int .i64 10)]]],.vec 2 [.vec 2 [.lit (.int .i64 1),.lit (.int .i64 0)],.vec 2 [.lit (.int .i64 1),.lit (.int .i64 0)]],.lit (.int .i64 1)]
def Try.kv56_8:AVal:=.tup [.vec 2 [.vec 2 [.lit (.int .i64 0),.lit (.int .i64 40)],.vec 2 [.lit (.int .i64 40),.lit (.int .i64 0)]],.lit (.int .i64 0)]
theorem Try.kc56_8:chk Try.ep3 1000000 56 Try.ka56_8 Try.kv56_8=true:=by kernel_rfl
def Try.kn56:KTab:=[(Try.ka56_0,Try.kv56_0),(Try.ka56_1,Try.kv56_1),(Try.ka56_2,Try.kv56_2),(Try.ka56_3,Try.kv56_3),(Try.ka56_4,Try.kv56_4),(Try.ka56_5,Try.kv56_5),(Try.ka56_6,Try.kv56_6),(Try.ka56_7,Try.kv56_7),(Try.ka56_8,Try.kv56_8)]
theorem Try.kn56_ok:KOk Try.prog noGl 56 Try.kn56:=.cons (chk_ok Try.ep3_ok Try.kc56_0) (.cons (chk_ok Try.ep3_ok Try.kc56_1) (.cons (chk_ok Try.ep3_ok Try.kc56_2) (.cons (chk_ok Try.ep3_ok Try.kc56_3) (.cons (chk_ok Try.ep3_ok Try.kc56_4) (.cons (chk_ok Try.ep3_ok Try.kc56_5) (.cons (chk_ok Try.ep3_ok Try.kc56_6) (.cons (chk_ok Try.ep3_ok Try.kc56_7) (.cons (chk_ok Try.ep3_ok Try.kc56_8) .nil))))))))
noncomputable def Try.ep4:EP:={ P:=Try.prog,G:=noGl,gd:=fun _=>none,known:=knownOf [(18,Try.kn18),(20,Try.kn20),(28,Try.kn28),(66,Try.kn66),(56,Try.kn56)] }
theorem Try.ep4_ok:EOk Try.ep4:=.of_known (l:=[(18,Try.kn18),(20,Try.kn20),(28,Try.kn28),(66,Try.kn66),(56,Try.kn56)]) rfl noGl_ok Try.mixedK (fun _ _ h=>by cases h) ⟨Try.kn18_ok,⟨Try.kn20_ok,⟨Try.kn28_ok,⟨Try.kn66_ok,⟨Try.kn56_ok,trivial⟩⟩⟩⟩⟩
def Try.ka11_0:List AVal:=[.agg [.lit (.int .i64 2),.vec 3 [.lit (.int .i64 2),.lit (.slice none 0 0),.vec 1 [.vec 2 [.lit (.int .i64 1),.lit (.int .i64 1)]],.lit (.int .i64 2),.vec 1 [.lit (.int .i64 0)],.lit (.slice none 0 0),.lit (.int .i64 2),.vec 1 [.lit (.int .i64 1)],.lit (.slice none 0 0)],.lit (.int .u64 6),.vec 1 [.vec 2 [.lit (.int .i64 0),.lit (.int .i64 2)],.vec 4 [.lit (.int .i64 10),.lit (.int .i64 0),.lit (.int .i64 0),.lit (.int .i64 10)]]],.vec 2 [.vec 2 [.lit (.int .i64 0),.lit (.int .i64 1)],.vec 2 [.lit (.int .i64 0),.lit (.int .i64 1)]]]
def Try.kv11_0:AVal:=.tup [.agg [.lit (.int .i64 10),.lit (.int .i64 1)],.lit (.int .i64 0)]
theorem Try.kc11_0:chk Try.ep4 1000000 11 Try.ka11_0 Try.kv11_0=true:=by kernel_rfl
def Try.ka11_1:List AVal:=[.agg [.lit (.int .i64 2),.vec 3 [.lit (.int .i64 2),.lit (.slice none 0 0),.vec 1 [.vec 2 [.lit (.int .i64 1),.lit (.int .i64 1)]],.lit (.int .i64 2),.vec 1 [.lit (.int .i64 0)],.lit (.slice none 0 0),.lit (.int .i64 2),.vec 1 [.lit (.int .i64 1)],.lit (.slice none 0 0)],.lit (.int .u64 6),.vec 1 [.vec 2 [.lit (.int .i64 0),.lit (.int .i64 2)],.vec 4 [.lit (.int .i64 10),.lit (.int .i64 0),.lit (.int .i64 0),.lit (.int .i64 10)]]],.vec 2 [.vec 2 [.lit (.int .i64 0),.lit (.int .i64 0)],.vec 2 [.lit (.int .i64 0),.lit (.int .i64 0)]]]
def Try.kv11_1:AVal:=.tup [.agg [.lit (.int .i64 5),.lit (.int .i64 1)],.lit (.int .i64 0)]
theorem Try.kc11_1:chk Try.ep4 1000000 11 Try.ka11_1 Try.kv11_1=true:=by kernel_rfl
def Try.ka11_2:List AVal:=[.agg [.lit (.int .i64 2),.vec 3 [.lit (.int .i64 2),.lit (.slice none 0 0),.vec 1 [.vec 2 [.lit (.int .i64 1),.lit (.int .i64 1)]],.lit (.int .i64 2),.vec 1 [.lit (.int .i64 0)],.lit (.slice none 0 0),.lit (.int .i64 2),.vec 1 [.lit (.int .i64 1)],.lit (.slice none 0 0)],.lit (.int .u64 6),.vec 1 [.vec 2 [.lit (.int .i64 0),.lit (.int .i64 2)],.vec 4 [.lit (.int .i64 10),.lit (.int .i64 0),.lit (.int .i64 0),.lit (.int .i64 10)]]],.vec 2 [.vec 2 [.lit (.int .i64 1),.lit (.int .i64 0)],.vec 2 [.lit (.int .i64 1),.lit (.int .i64 0)]]]
def Try.kv11_2:AVal:=.tup [.agg [.lit (.int .i64 10),.lit (.int .i64 1)],.lit (.int .i64 0)]
theorem Try.kc11_2:chk Try.ep4 1000000 11 Try.ka11_2 Try.kv11_2=true:=by kernel_rfl
def Try.kn11:KTab:=[(Try.ka11_0,Try.kv11_0),(Try.ka11_1,Try.kv11_1),(Try.ka11_2,Try.kv11_2)]
theorem Try.kn11_ok:KOk Try.prog noGl 11 Try.kn11:=.cons (chk_ok Try.ep4_ok Try.kc11_0) (.cons (chk_ok Try.ep4_ok Try.kc11_1) (.cons (chk_ok Try.ep4_ok Try.kc11_2) .nil))
noncomputable def Try.ep5:EP:={ P:=Try.prog,G:=noGl,gd:=fun _=>none,known:=knownOf [(18,Try.kn18),(20,Try.kn20),(28,Try.kn28),(66,Try.kn66),(56,Try.kn56),(11,Try.kn11)] }
theorem Try.ep5_ok:EOk Try.ep5:=.of_known (l:=[(18,Try.kn18),(20,Try.kn20),(28,Try.kn28),(66,Try.kn66),(56,Try.kn56),(11,Try.kn11)]) rfl noGl_ok Try.mixedK (fun _ _ h=>by cases h) ⟨Try.kn18_ok,⟨Try.kn20_ok,⟨Try.kn28_ok,⟨Try.kn66_ok,⟨Try.kn56_ok,⟨Try.kn11_ok,trivial⟩⟩⟩⟩⟩⟩
def Try.ka9_0:List AVal:=[.agg [.lit (.int .i64 2),.vec 3 [.lit (.int .i64 2),.lit (.slice none 0 0),.vec 1 [.vec 2 [.lit (.int .i64 1),.lit (.int .i64 1)]],.lit (.int .i64 2),.vec 1 [.lit (.int .i64 0)],.lit (.slice none 0 0),.lit (.int .i64 2),.vec 1 [.lit (.int .i64 1)],.lit (.slice none 0 0)],.lit (.int .u64 6),.vec 1 [.vec 2 [.lit (.int .i64 0),.lit (.int .i64 2)],.vec 4 [.lit (.int .i64 10),.lit (.int .i64 0),.lit (.int .i64 0),.lit (.int .i64 10)]]],.vec 2 [.vec 2 [.lit (.int .i64 0),.lit (.int .i64 0)],.vec 2 [.lit (.int .i64 0),.lit (.int .i64 0)]]]
def Try.kv9_0:AVal:=.tup [.lit (.bool true),.lit (.int .i64 0)]
theorem Try.kc9_0:chk Try.ep5 1000000 9 Try.ka9_0 Try.kv9_0=true:=by kernel_rfl
def Try.ka9_1:List AVal:=[.agg [.lit (.int .i64 2),.vec 3 [.lit (.int .i64 2),.lit (.slice none 0 0),.vec 1 [.vec 2 [.lit (.int .i64 1),.lit (.int .i64 1)]],.lit (.int .i64 2),.vec 1 [.lit (.int .i64 0)],.lit (.slice none 0 0),.lit (.int .i64 2),.vec 1 [.lit (.int .i64 1)],.lit (.slice none 0 0)],.lit (.int .u64 6),.vec 1 [.vec 2 [.lit (.int .i64 0),.lit (.int .i64 2)],.vec 4 [.lit (.int .i64 10),.lit (.int .i64 0),.lit (.int .i64 0),.lit (.int .i64 10)]]],.vec 2 [.vec 2 [.lit (.int .i64 0),.lit (.int .i64 1)],.vec 2 [.lit (.int .i64 0),.lit (.int .i64 0)]]]
def Try.kv9_1:AVal:=.tup [.lit (.bool false),.lit (.int .i64 0)]
theorem Try.kc9_1:chk Try.ep5 1000000 9 Try.ka9_1 Try.kv9_1=true:=by kernel_rfl
def Try.ka9_2:List AVal:=[.agg [.lit (.int .i64 2),.vec 3 [.lit (.int .i64 2),.lit (.slice none 0 0),.vec 1 [.vec 2 [.lit (.int .i64 1),.lit (.int .i64 1)]],.lit (.int .i64 2),.vec 1 [.lit (.int .i64 0)],.lit (.slice none 0 0),.lit (.int .i64 2),.vec 1 [.lit (.int .i64 1)],.lit (.slice none 0 0)],.lit (.int .u64 6),.vec 1 [.vec 2 [.lit (.int .i64 0),.lit (.int .i64 2)],.vec 4 [.lit (.int .i64 10),.lit (.int .i64 0),.lit (.int .i64 0),.lit (.int .i64 10)]]],.vec 1 [.vec 2 [.lit (.int .i64 0),.lit (.int .i64 0)]]]
def Try.kv9_2:AVal:=.tup [.lit (.bool false),.lit (.int .i64 201)]
theorem Try.kc9_2:chk Try.ep5 1000000 9 Try.ka9_2 Try.kv9_2=true:=by kernel_rfl
def Try.kn9:KTab:=[(Try.ka9_0,Try.kv9_0),(Try.ka9_1,Try.kv9_1),(Try.ka9_2,Try.kv9_2)]
theorem Try.kn9_ok:KOk Try.prog noGl 9 Try.kn9:=.cons (chk_ok Try.ep5_ok Try.kc9_0) (.cons (chk_ok Try.ep5_ok Try.kc9_1) (.cons (chk_ok Try.ep5_ok Try.kc9_2) .nil))
noncomputable def Try.ep6:EP:={ P:=Try.prog,G:=noGl,gd:=fun _=>none,known:=knownOf [(18,Try.kn18),(20,Try.kn20),(28,Try.kn28),(66,Try.kn66),(56,Try.kn56),(11,Try.kn11),(9,Try.kn9)] }
theorem Try.ep6_ok:EOk Try.ep6:=.of_known (l:=[(18,Try.kn18),(20,Try.kn20),(28,Try.kn28),(66,Try.kn66),(56,Try.kn56),(11,Try.kn11),(9,Try.kn9)]) rfl noGl_ok Try.mixedK (fun _ _ h=>by cases h) ⟨Try.kn18_ok,⟨Try.kn20_ok,⟨Try.kn28_ok,⟨Try.kn66_ok,⟨Try.kn56_ok,⟨Try.kn11_ok,⟨Try.kn9_ok,trivial⟩⟩⟩⟩⟩⟩⟩
def Try.ka10_0:List AVal:=[.agg [.lit (.int .i64 2),.vec 3 [.lit (.int .i64 2),.lit (.slice none 0 0),.vec 1 [.vec 2 [.lit (.int .i64 1),.lit (.int .i64 1)]],.lit (.int .i64 2),.vec 1 [.lit (.int .i64 0)],.lit (.slice none 0 0),.lit (.int .i64 2),.vec 1 [.lit (.int .i64 1)],.lit (.slice none 0 0)],.lit (.int .u64 6),.vec 1 [.vec 2 [.lit (.int .i64 0),.lit (.int .i64 2)],.vec 4 [.lit (.int .i64 10),.lit (.int .i64 0),.lit (.int .i64 0),.lit (.int .i64 10)]]],.vec 2 [.vec 2 [.lit (.int .i64 0),.lit (.int .i64 1)],.vec 2 [.lit (.int .i64 0),.lit (.int .i64 0)]]]
def Try.kv10_0:AVal:=.tup [.vec 2 [.vec 2 [.lit (.int .i64 0),.lit (.int .i64 1)],.vec 2 [.lit (.int .i64 0),.lit (.int .i64 1)]],.agg [.lit (.int .i64 10),.lit (.int .i64 1)],.lit (.int .i64 1),.lit (.int .i64 0)]
theorem Try.kc10_0:chk Try.ep6 1000000 10 Try.ka10_0 Try.kv10_0=true:=by kernel_rfl
def Try.ka10_1:List AVal:=[.agg [.lit (.int .i64 2),.vec 3 [.lit (.int .i64 2),.lit (.slice none 0 0),.vec 1 [.vec 2 [.lit (.int .i64 1),.lit (.int .i64 1)]],.lit (.int .i64 2),.vec 1 [.lit (.int .i64 0)],.lit (.slice none 0 0),.lit (.int .i64 2),.vec 1 [.lit (.int .i64 1)],.lit (.slice none 0 0)],.lit (.int .u64 6),.vec 1 [.vec 2 [.lit (.int .i64 0),.lit (.int .i64 2)],.vec 4 [.lit (.int .i64 10),.lit (.int .i64 0),.lit (.int .i64 0),.lit (.int .i64 10)]]],.vec 2 [.vec 2 [.lit (.int .i64 0),.lit (.int .i64 0)],.vec 2 [.lit (.int .i64 0),.lit (.int .i64 0)]]]
def Try.kv10_1:AVal:=.tup [.vec 2 [.vec 2 [.lit (.int .i64 0),.lit (.int .i64 0)],.vec 2 [.lit (.int .i64 0),.lit (.int .i64 0)]],.agg [.lit (.int .i64 5),.lit (.int .i64 1)],.lit (.int .i64 0),.lit (.int .i64 0)]
theorem Try.kc10_1:chk Try.ep6 1000000 10 Try.ka10_1 Try.kv10_1=true:=by kernel_rfl
def Try.ka10_2:List AVal:=[.agg [.lit (.int .i64 2),.vec 3 [.lit (.int .i64 2),.lit (.slice none 0 0),.vec 1 [.vec 2 [.lit (.int .i64 1),.lit (.int .i64 1)]],.lit (.int .i64 2),.vec 1 [.lit (.int .i64 0)],.lit (.slice none 0 0),.lit (.int .i64 2),.vec 1 [.lit (.int .i64 1)],.lit (.slice none 0 0)],.lit (.int .u64 6),.vec 1 [.vec 2 [.lit (.int .i64 0),.lit (.int .i64 2)],.vec 4 [.lit (.int .i64 10),.lit (.int .i64 0),.lit (.int .i64 0),.lit (.int .i64 10)]]],.vec 2 [.vec 2 [.lit (.int .i64 1),.lit (.int .i64 1)],.vec 2 [.lit (.int .i64 1),.lit (.int .i64 0)]]]
def Try.kv10_2:AVal:=.tup [.vec 2 [.vec 2 [.lit (.int .i64 1),.lit (.int .i64 0)],.vec 2 [.lit (.int .i64 1),.lit (.int .i64 0)]],.agg [.lit (.int .i64 10),.lit (.int .i64 1)],.lit (.int .i64 1),.lit (.int .i64 0)]
theorem Try.kc10_2:chk Try.ep6 1000000 10 Try.ka10_2 Try.kv10_2=true:=by kernel_rfl
def Try.kn10:KTab:=[(Try.ka10_0,Try.kv10_0),(Try.ka10_1,Try.kv10_1),(Try.ka10_2,Try.kv10_2)]
theorem Try.kn10_ok:KOk Try.prog noGl 10 Try.kn10:=.cons (chk_ok Try.ep6_ok Try.kc10_0) (.cons (chk_ok Try.ep6_ok Try.kc10_1) (.cons (chk_ok Try.ep6_ok Try.kc10_2) .nil))
noncomputable def Try.ep7:EP:={ P:=Try.prog,G:=noGl,gd:=fun _=>none,known:=knownOf [(18,Try.kn18),(20,Try.kn20),(28,Try.kn28),(66,Try.kn66),(56,Try.kn56),(11,Try.kn11),(9,Try.kn9),(10,Try.kn10)] }
theorem Try.ep7_ok:EOk Try.ep7:=.of_known (l:=[(18,Try.kn18),(20,Try.kn20),(28,Try.kn28),(66,Try.kn66),(56,Try.kn56),(11,Try.kn11),(9,Try.kn9),(10,Try.kn10)]) rfl noGl_ok Try.mixedK (fun _ _ h=>by cases h) ⟨Try.kn18_ok,⟨Try.kn20_ok,⟨Try.kn28_ok,⟨Try.kn66_ok,⟨Try.kn56_ok,⟨Try.kn11_ok,⟨Try.kn9_ok,⟨Try.kn10_ok,trivial⟩⟩⟩⟩⟩⟩⟩⟩
def Try.ka21_0:List AVal:=[.agg [.lit (.int .i64 0),.lit (.int .i64 1)],.agg [.lit (.int .i64 0),.lit (.int .i64 0)],.agg [.lit (.int .i64 0),.lit (.int .i64 1)],.agg [.lit (.int .i64 0),.lit (.int .i64 1)],.lit (.int .i64 10),.lit (.int .i64 1)]
def Try.kv21_0:AVal:=.lit (.bool true)
theorem Try.kc21_0:chk Try.ep7 1000000 21 Try.ka21_0 Try.kv21_0=true:=by kernel_rfl
def Try.ka21_1:List AVal:=[.agg [.lit (.int .i64 0),.lit (.int .i64 0)],.agg [.lit (.int .i64 0),.lit (.int .i64 0)],.agg [.lit (.int .i64 0),.lit (.int .i64 0)],.agg [.lit (.int .i64 0),.lit (.int .i64 0)],.lit (.int .i64 5),.lit (.int .i64 0)]
def Try.kv21_1:AVal:=.lit (.bool true)
theorem Try.kc21_1:chk Try.ep7 1000000 21 Try.ka21_1 Try.kv21_1=true:=by kernel_rfl
def Try.ka21_2:List AVal:=[.agg [.lit (.int .i64 1),.lit (.int .i64 1)],.agg [.lit (.int .i64 1),.lit (.int .i64 0)],.agg [.lit (.int .i64 1),.lit (.int .i64 0)],.agg [.lit (.int .i64 1),.lit (.int .i64 0)],.lit (.int .i64 10),.lit (.int .i64 1)]
def Try.kv21_2:AVal:=.lit (.bool true)
theorem Try.kc21_2:chk Try.ep7 1000000 21 Try.ka21_2 Try.kv21_2=true:=by kernel_rfl
def Try.kn21:KTab:=[(Try.ka21_0,Try.kv21_0),(Try.ka21_1,Try.kv21_1),(Try.ka21_2,Try.kv21_2)]
theorem Try.kn21_ok:KOk Try.prog noGl 21 Try.kn21:=.cons (chk_ok Try.ep7_ok Try.kc21_0) (.cons (chk_ok Try.ep7_ok Try.kc21_1) (.cons (chk_ok Try.ep7_ok Try.kc21_2) .nil))
noncomputable def Try.ep8:EP:={ P:=Try.prog,G:=noGl,gd:=fun _=>none,known:=knownOf [(18,Try.kn18),(20,Try.kn20),(28,Try.kn28),(66,Try.kn66),(56,Try.kn56),(11,Try.kn11),(9,Try.kn9),(10,Try.kn10),(21,Try.kn21)] }
theorem Try.ep8_ok:EOk Try.ep8:=.of_known (l:=[(18,Try.kn18),(20,Try.kn20),(28,Try.kn28),(66,Try.kn66),(56,Try.kn56),(11,Try.kn11),(9,Try.kn9),(10,Try.kn10),(21,Try.kn21)]) rfl noGl_ok Try.mixedK (fun _ _ h=>by cases h) ⟨Try.kn18_ok,⟨Try.kn20_ok,⟨Try.kn28_ok,⟨Try.kn66_ok,⟨Try.kn56_ok,⟨Try.kn11_ok,⟨Try.kn9_ok,⟨Try.kn10_ok,⟨Try.kn21_ok,trivial⟩⟩⟩⟩⟩⟩⟩⟩⟩
def Try.ka19_0:List AVal:=[.agg [.lit (.int .i64 2),.vec 3 [.lit (.int .i64 2),.lit (.slice none 0 0),.vec 1 [.vec 2 [.lit (.int .i64 1),.lit (.int .i64 1)]],.lit (.int .i64 2),.vec 1 [.lit (.int .i64 0)],.lit (.slice none 0 0),.lit (.int .i64 2),.vec 1 [.lit (.int .i64 1)],.lit (.slice none 0 0)],.lit (.int .u64 6),.vec 1 [.vec 2 [.lit (.int .i64 0),.lit (.int .i64 2)],.vec 4 [.lit (.int .i64 10),.lit (.int .i64 0),.lit (.int .i64 0),.lit (.int .i64 10)]]]]
def Try.kv19_0:AVal:=.tup [.vec 2 [.vec 2 [.lit (.int .i64 0),.lit (.int .i64 1)],.vec 2 [.lit (.int .i64 0),.lit (.int .i64 1)]],.agg [.lit (.int .i64 10),.lit (.int .i64 1)],.lit (.int .i64 0)]
theorem Try.kc19_0:chk Try.ep8 1000000 19 Try.ka19_0 Try.kv19_0=true:=by kernel_rfl
def Try.kn19:KTab:=[(Try.ka19_0,Try.kv19_0)]
theorem Try.kn19_ok:KOk Try.prog noGl 19 Try.kn19:=.cons (chk_ok Try.ep8_ok Try.kc19_0) .nil
noncomputable def Try.ep9:EP:={ P:=Try.prog,G:=noGl,gd:=fun _=>none,known:=knownOf [(18,Try.kn18),(20,Try.kn20),(28,Try.kn28),(66,Try.kn66),(56,Try.kn56),(11,Try.kn11),(9,Try.kn9),(10,Try.kn10),(21,Try.kn21),(19,Try.kn19)] }
theorem Try.ep9_ok:EOk Try.ep9:=.of_known (l:=[(18,Try.kn18),(20,Try.kn20),(28,Try.kn28),(66,Try.kn66),(56,Try.kn56),(11,Try.kn11),(9,Try.kn9),(10,Try.kn10),(21,Try.kn21),(19,Try.kn19)]) rfl noGl_ok Try.mixedK (fun _ _ h=>by cases h) ⟨Try.kn18_ok,⟨Try.kn20_ok,⟨Try.kn28_ok,⟨Try.kn66_ok,⟨Try.kn56_ok,⟨Try.kn11_ok,⟨Try.kn9_ok,⟨Try.kn10_ok,⟨Try.kn21_ok,⟨Try.kn19_ok,trivial⟩⟩⟩⟩⟩⟩⟩⟩⟩⟩
def Try.ka6_0:List AVal:=[]
def Try.kv6_0:AVal:=.lit (.bool true)
theorem Try.kc6_0:chk Try.ep9 1000000 6 Try.ka6_0 Try.kv6_0=true:=by kernel_rfl
theorem works_ok (H:AHeap)(K:ARes->AHeap->Prop)(hK:K (.ret (.lit (.bool true))) H):ACall Try.prog G0 6 [] H K :=
 (ACall.frame (args':=[]) G0_ok rfl (fun i h _=>absurd h (Nat.not_lt_zero _)) (chk_ok Try.ep9_ok Try.kc6_0)).mono fun r H' ⟨h1,h2⟩=>by rw[h1,h2];exact hK
end Go.Proofs
namespace Go.Proofs
open Go.Hx
theorem weak2 {f:FuncId}{H:AHeap}{K:ARes->AHeap->Prop}(d:InfP)(p:List (List Int))(h:ACall Try.prog G0 f [infV d,vecV p] H K):ACall Try.prog G0 f [infE d,vecV p] H K :=
 ACall.weakArgs (args':=[infV d,vecV p]) G0_ok rfl (fun i hi _=>match i,hi with|0,_=>fz_infE d|1,_=>fz_vecV p) h
end Go.Proofs
namespace Go.Proofs
open Go.Hx
theorem clone2_own (t:List (List Int))(ht:(t.length:Int)<2 ^ 40)(h0:0<t.length)(H:AHeap)(K:ARes->AHeap->Prop)(hK:∀ v H',Over H H'->OwnG H.next H' 52 v (t.map vecI)->K (.ret v) H'):ACall Try.prog G0 17 [vecV t] H K:=by
 refine ACall.of_body (n:=8) (rs:=[.tmp 2]) Try.func17 rfl rfl rfl (by decide) (by kernel_rfl) (by simp) ?_
 simp only[go_sem,vecV]
 intro b hlen
 cases b with
 | true=>exact absurd (hlen (by simpa using h0)) (by decide)
 | false =>
  have hn:¬ t.length=0:=by omega
  simp only[go_sem,hn,appendA_U]
  have hall:(t.map vecI).all AVal.one=true:=by simp [vecI,AVal.one]
  refine⟨by simp,⟨by simp,by omega,by omega,hall⟩,FinV.mk (by simp [ext_next]) ?_⟩
  refine hK _ _ (Over.ext _ _) (.inr ⟨H.next,_,Nat.le_refl _,by simp [ext_next],by rw[List.length_map],?_⟩)
  rw[get_ext0]
  simp
end Go.Proofs
namespace Go.Proofs
open Go.Hx
theorem rcL_get {d:InfP}{k v:Nat}(hv:(decL d)[k]?=some v):(rcL d)[k]?=some (rcN d v):=by unfold rcL;rw[List.getElem?_map,hv];rfl
theorem rcL_len (d:InfP):(rcL d).length=(decL d).length:=by simp [rcL]
end Go.Proofs
namespace Go.Proofs
open Go.Hx
set_option maxHeartbeats 2000000 in
theorem fits_spec (d:InfP)(hf:InfFit d)(hok:InfOk d)(p:List (List Int))(hp:PolOk d p)(H:AHeap)(K:ARes->AHeap->Prop)(hK:K (.ret (.lit (.bool true))) H):ACall Try.prog G0 15 [infE d,vecV p] H K:=by
 refine ACall.clo ⟨_,Try.func15,rfl,rfl⟩ fun hcl=>?_
 refine ACall.of_body (n:=64) (rs:=[.tmp 4]) Try.func15 rfl rfl rfl (by decide) (by kernel_rfl) (by simp) ?_
 simp only[go_sem,infE_eq,infEC]
 refine AApply.clo (rows20_spec d hf hok _ _ ⟨trivial,?_⟩)
 obtain⟨L,hL⟩:∃ L,L=rcL d:=⟨_,rfl⟩
 have hLl:L.length=(decL d).length:=by rw[hL];exact rcL_len d
 have hpl:p.length=L.length:=by rw[hp.len,hLl]
 have dl8:(decL d).length<=d.nodes.length:=decK_len
 have hn8:=hok.n.n1.2
 rw[<- hL]
 have hplI:(p.length:Int)=L.length:=by omega
 simp only[go_sem,vecV,hplI]
 obtain⟨R,hR⟩:∃ R,R=ext H [.arr 0 34 [.lit (.int .i64 d.grain),.vec d.nodes.length (nodesE d.nodes),.lit (.int .u64 (d.decs:Int)),.vec d.utils.length (utilsC d.utils)]]:=⟨_,rfl⟩
 have oR:Over H R:=by rw[hR];exact .ext _ _
 rw[<- hR]
 refine W.env fun E hE=>?_
 have e1:E 1=vecV p:=by rw[hE];simp only[go_sem,vecV]
 have e5:E 5=.vec L.length (prC L):=by rw[hE];simp only[go_sem]
 have e6:E 6=lin 0:=by rw[hE];simp only[go_sem]
 clear hE
 refine W.loop0 18446744073709519056 (by rfl) (fun ρ Hx=>Hx=R/\∃ k:Nat,ρ 6=lin k/\k<=L.length) (fun ρ H=>L.length - (iv (ρ 6)).toNat) ?_ ?_
 ·simp only[go_sem,e6]
  exact⟨0,rfl,by omega⟩
 rintro ρ Hx ⟨rfl,k,h6,hk⟩
 refine W.env fun E2 hE2=>?_
 have f1:E2 1=vecV p:=by rw[hE2];simp only[go_sem,e1]
 have f5:E2 5=.vec L.length (prC L):=by rw[hE2];simp only[go_sem,e5]
 have f6:E2 6=lin k:=by rw[hE2];simp only[go_sem,h6]
 clear hE2
 refine vc_sound _ _ _ (by rfl) ?_
 by_cases hb:(k:Int)<L.length
 rotate_left
 ·simp only[go_sem,f5,f6,hb]
  exact FinV.dropO G0_ok hcl oR (.lit _) hK
 obtain⟨v,hv⟩:=get_of_lt (l:=decL d) (i:=k) (by omega)
 obtain⟨v1,v2,v3⟩:=decK_place hv
 obtain⟨x,hx⟩:=get_of_lt (l:=d.nodes) (i:=v) v1
 obtain⟨l,hl⟩:=get_of_lt (l:=p) (i:=k) (by omega)
 obtain⟨ll,lr⟩:=hp.row k v x l hv hx hl
 have hrk:L[k]?=some ((rowsN d.nodes x:Int),x.card):=by
  rw[hL,rcL_get hv];unfold rcN;rw[hx]
 have p0:=prC_0 hrk
 have p1:=prC_1 hrk
 have pne:=prC_ne hrk
 have hlg:(p.map vecI)[k]?=some (vecI l):=by rw[List.getElem?_map,hl];rfl
 have hln:=ne_of_get hl
 have hbp:(k:Int)<p.length:=by omega
 have hll:(l.length:Int)=rowsN d.nodes x:=by omega
 have w1:=IntWalk.i64_in ((k:Int)+1) (by omega)
 have hl38:=(polFit_ok hok hp).2 l (List.mem_of_getElem? hl)
 simp only[go_sem,f5,f6,hb]
 refine W.draw 10 [0,0,3,7,15,0,0,96,224,480] Try.mixed (by kernel_rfl) (by kernel_rfl) ?_
 simp only[go_sem,f1,f5,f6,hb,hbp,vecV,hlg,hln,p0,pne,hll]
 refine W.env fun E3 hE3=>?_
 have r1:E3 1=vecV p:=by rw[hE3];simp only[go_sem,f1]
 have r5:E3 5=.vec L.length (prC L):=by rw[hE3];simp only[go_sem,f5]
 have r6:E3 6=lin k:=by rw[hE3];simp only[go_sem,f6]
 have r7:E3 7=lin 0:=by rw[hE3];simp only[go_sem]
 clear hE3
 refine W.loop0 18446744069414584464 (by rfl) (fun ρ2 Hz=>Hz=Hx/\∃ j:Nat,ρ2 7=lin j/\j<=l.length) (fun ρ2 H=>l.length - (iv (ρ2 7)).toNat) ?_ ?_
 ·simp only[go_sem,r7]
  exact⟨0,rfl,by omega⟩
 rintro ρ2 Hz ⟨rfl,j,h7,hj⟩
 refine W.env fun E4 hE4=>?_
 have s1:E4 1=vecV p:=by rw[hE4];simp only[go_sem,r1]
 have s5:E4 5=.vec L.length (prC L):=by rw[hE4];simp only[go_sem,r5]
 have s6:E4 6=lin k:=by rw[hE4];simp only[go_sem,r6]
 have s7:E4 7=lin j:=by rw[hE4];simp only[go_sem,h7]
 clear hE4
 refine vc_sound _ _ _ (by rfl) ?_
 by_cases hc:(j:Int)<l.length
 ·obtain⟨a,ha⟩:=get_of_lt (l:=l) (i:=j) (by omega)
  have har:=lr a (List.mem_of_getElem? ha)
  have han:=ne_of_get ha
  have c1:¬ a<0:=by omega
  have c2:¬ a >= x.card:=by omega
  have w2:=IntWalk.i64_in ((j:Int)+1) (by omega)
  simp only[go_sem,s1,s6,s7,vecV,hlg,hln,hbp,hc]
  refine W.draw 21 [0,0,3,7,0,31,63,127,255,511,511,2047,4095,511,16383,32767,511,511,197119,459263,983551] Try.mixed (by kernel_rfl) (by kernel_rfl) ?_
  simp only[go_sem,s1,s5,s6,s7,vecV,hlg,hln,hbp,hb,hc,ha,han,p1,pne,c1,c2,w2]
  exact⟨⟨j+1,by simp,by omega⟩,by first|omega|(rw[h7];simp only[lin,iv_int];omega)⟩
 ·simp only[go_sem,s1,s6,s7,vecV,hlg,hln,hbp,hc,w1]
  exact⟨⟨k+1,by simp,by omega⟩,by first|omega|(rw[h6];simp only[lin,iv_int];omega)⟩
end Go.Proofs
namespace Go.Hx
variable {P:Program} {G:Nat->Option (List AVal)}
theorem W.mid' {n:Nat}{rd:Option Nat}{Q:AX->St->Prop}{s:St}{x y:Code}(Φ:St->Prop)(h:W P G n rd x (fun ax s'=>ax=.normal/\Φ s') s)(h2:∀ s',Φ s'->W P G n rd y Q s'):W P G n rd (.seq x y) Q s :=
 W.seq (h.mono fun ax s' ⟨e,hp⟩=>by subst e;exact h2 s' hp)
end Go.Hx
namespace Go.Proofs
open Go.Hx
def Gain (d:InfP)(p:List (List Int))(k j:Nat)(c:Int):Prop:=∃ l,p[k]?=some l/\sumG d (fixC p)<sumG d (fixC (p.set k (l.set j c)))
theorem gain_local {d:InfP}(hok:InfOk d){p:List (List Int)}(hp:PolOk d p)(hl:isLocal d p){k v j:Nat}{c:Int}(hv:(decL d)[k]?=some v)(hj:j<nRows d v)(hc:0<=c/\c<nCard d v):¬ Gain d p k j c:=by
 rintro⟨l,h1,h2⟩
 have hm:=List.mem_of_getElem? hv
 have hk:=(decK_place hv).2.2
 rw[<- hk]at h1 h2
 have:=one_gain hok hp hm h1 hj c
 have h3:=exp_le (d:=d) (fixC p) v j hc
 have h4:=hl v hm j hj
 omega
theorem local_gain {d:InfP}(hok:InfOk d){p:List (List Int)}(hp:PolOk d p)(hl:¬ isLocal d p):∃ (k v j:Nat) (c:Int),(decL d)[k]?=some v/\j<nRows d v/\0<=c/\c<nCard d v/\Gain d p k j c:=by
 obtain⟨v,hv⟩:=Classical.not_forall.1 hl
 obtain⟨hm,hb⟩:=Classical.not_imp.1 hv
 obtain⟨r,hr⟩:=Classical.not_forall.1 hb
 obtain⟨hr1,hr2⟩:=Classical.not_imp.1 hr
 obtain⟨v1,v2⟩:=mem_decK.1 hm
 obtain⟨b,_,h2,h3⟩:=best_at hok (fixC p) hm hr1
 have hk:=decK_get v1 v2
 obtain⟨l,hpl⟩:=get_of_lt (l:=p) (i:=placeD d.decs v) (place_lt hp hm)
 refine⟨placeD d.decs v,v,r,b,hk,hr1,by omega,by omega,l,hpl,?_⟩
 have h4:=one_gain hok hp hm hpl hr1 (b:Int)
 have h5:=exp_le (d:=d) (fixC p) v r (pol_rng hok hp hm hr1)
 omega
structure Tried (d:InfP)(p:List (List Int))(b:Bool)(R:Nat->Nat->Int->Prop):Prop where
 yes:b=true->¬ isLocal d p
 no:b=false->∀ (k v j:Nat) (c:Int),(decL d)[k]?=some v->j<nRows d v->0<=c->c<nCard d v->R k j c->¬ Gain d p k j c
theorem Tried.start {d:InfP}{p:List (List Int)}{R:Nat->Nat->Int->Prop}(h:∀ k j c,¬ R k j c):Tried d p false R:=⟨fun h=>Bool.noConfusion h,fun _ k v j c _ _ _ _ hr=>absurd hr (h k j c)⟩
theorem Tried.mono {d:InfP}{p:List (List Int)}{b:Bool}{R R':Nat->Nat->Int->Prop}(h:Tried d p b R)(hr:∀ (k v j:Nat) (c:Int),(decL d)[k]?=some v->j<nRows d v->0<=c->c<nCard d v->R' k j c->R k j c):Tried d p b R' :=
 ⟨h.yes,fun e k v j c h1 h2 h3 h4 h5=>h.no e k v j c h1 h2 h3 h4 (hr k v j c h1 h2 h3 h4 h5)⟩
theorem Tried.step {d:InfP}(hok:InfOk d){p:List (List Int)}(hp:PolOk d p){b g:Bool}{R R':Nat->Nat->Int->Prop}(h:Tried d p b R){k v j:Nat}{c:Int}(hv:(decL d)[k]?=some v)(hj:j<nRows d v)(hc:0<=c/\c<nCard d v)(hg:g=true↔Gain d p k j c)
  (hr:∀ k' j' c',R' k' j' c'->R k' j' c'\/(k'=k/\j'=j/\c'=c)):Tried d p (b || g) R':=by
 refine⟨fun e hl=>?_,fun e k' v' j' c' h1 h2 h3 h4 h5=>?_⟩
 ·rcases Bool.or_eq_true_iff.1 e with e|e
  ·exact h.yes e hl
  ·exact gain_local hok hp hl hv hj hc (hg.1 e)
 ·obtain⟨e1,e2⟩:=Bool.or_eq_false_iff.1 e
  rcases hr k' j' c' h5 with h6|⟨rfl,rfl,rfl⟩
  ·exact h.no e1 k' v' j' c' h1 h2 h3 h4 h6
  ·intro h7
   rw[hg.2 h7]at e2
   cases e2
theorem Tried.done {d:InfP}(hok:InfOk d){p:List (List Int)}(hp:PolOk d p){b:Bool}(h:Tried d p b fun k _ _=>k<(decL d).length):decide (isLocal d p)=!b:=by
 cases b with
 | true=>rw[decide_eq_false (h.yes rfl)];rfl
 | false =>
  rw[decide_eq_true]
  ·rfl
  ·refine Classical.byContradiction fun hl=>?_
   obtain⟨k,v,j,c,h1,h2,h3,h4,h5⟩:=local_gain hok hp hl
   exact h.no rfl k v j c h1 h2 h3 h4 (get_lt h1) h5
theorem clone1_own (t:List Int)(ht:(t.length:Int)<2 ^ 40)(h0:0<t.length)(H:AHeap)(K:ARes->AHeap->Prop)(hK:∀ v H',Over H H'->OwnG H.next H' 3 v (ints t)->K (.ret v) H'):ACall Try.prog G0 18 [vecI t] H K:=by
 refine ACall.of_body (n:=8) (rs:=[.tmp 2]) Try.func18 rfl rfl rfl (by decide) (by kernel_rfl) (by simp) ?_
 simp only[go_sem]
 intro b hlen
 cases b with
 | true=>exact absurd (hlen (by simpa using h0)) (by decide)
 | false =>
  have hn:¬ t.length=0:=by omega
  simp only[go_sem,hn,appendA_U]
  refine⟨⟨by simp,by omega,by omega,all_one_ints _⟩,FinV.mk (by simp [ext_next]) ?_⟩
  refine hK _ _ (Over.ext _ _) (.inr ⟨H.next,_,Nat.le_refl _,by simp [ext_next],by rw[ints_length],?_⟩)
  rw[get_ext0]
  simp
theorem value_own (d:InfP)(hok:InfOk d)(h6:d.nodes.length<=6)(q:List (List Int))(hq:PolOk d q)(H:AHeap)(qv:AVal)(hv:Fz (fun _=>True) H 0 qv (vecV q))
  (K:ARes->AHeap->Prop) (hK:K (.ret (.tup [ratioV (sumP d q) (d.grain ^ d.nodes.length),lin 0])) H):ACall Try.prog G0 11 [infE d,qv] H K:=by
 refine(ACall.frame (H:=H) (args:=[infE d,qv]) (args':=[infV d,vecV q]) (v':=.tup [ratioV (sumP d q) (d.grain ^ d.nodes.length),lin 0]) G0_ok rfl (fun i hi _=>?_) (value_spec d (fit_ok hok) q (polFit_ok hok hq) (sumsOk6 h6 q) noH _ ⟨_,rfl,?_⟩)).mono ?_
 ·match i,hi with
  | 0,_=>exact fz_infE d
  | 1,_=>exact hv
 ·rw[valR_ok hok hq,polErr_ok hok hq]
  refine .tup rfl fun i hi _=>?_
  match i,hi with
  | 0,_=>exact .agg rfl fun i hi _=>match i,hi with|0,_=>.lit _|1,_=>.lit _
  | 1,_=>exact .lit _
 ·rintro r H' ⟨rfl,rfl⟩
  exact hK
end Go.Proofs
namespace Go.Proofs
open Go.Hx
theorem pol_row {d:InfP}{p:List (List Int)}(hok:InfOk d)(hp:PolOk d p){k v:Nat}(hv:(decL d)[k]?=some v){l:List Int}(hl:p[k]?=some l):l.length=nRows d v/\∀ a∈l,0<=a/\a<nCard d v:=by
 obtain⟨v1,v2,v3⟩:=decK_place hv
 obtain⟨x,hx⟩:=get_of_lt (l:=d.nodes) (i:=v) v1
 have hc:=hok.n.card x (List.mem_of_getElem? hx)
 obtain⟨n1,n2⟩:=nRC hx (by omega)
 have:=hp.row k v x l hv hx hl
 exact⟨by omega,fun a ha=>by have:=this.2 a ha;omega⟩
theorem pol_set {d:InfP}{p:List (List Int)}(hok:InfOk d)(hp:PolOk d p){k v:Nat}(hv:(decL d)[k]?=some v){l:List Int}(hl:l.length=nRows d v)(ha:∀ a∈l,0<=a/\a<nCard d v):PolOk d (p.set k l):=by
 obtain⟨v1,v2,v3⟩:=decK_place hv
 obtain⟨x,hx⟩:=get_of_lt (l:=d.nodes) (i:=v) v1
 have hc:=hok.n.card x (List.mem_of_getElem? hx)
 obtain⟨n1,n2⟩:=nRC hx (by omega)
 have:=polOk_set hp hx v2 (l:=l) (by omega) fun a h=>by have:=ha a h;omega
 rw[v3]at this
 exact this
theorem set_rng {l:List Int}{n c:Int}{j:Nat}(h:∀ a∈l,0<=a/\a<n)(hc:0<=c/\c<n):∀ a∈l.set j c,0<=a/\a<n:=fun a ha=>by
 rcases List.mem_or_eq_of_mem_set ha with h1|rfl
 ·exact h a h1
 ·exact hc
theorem ownG_fzV {S:Nat->Prop}{lo nx:Nat}{H:AHeap}{e:TypeId}{v:AVal}{q:List (List Int)}{cs:List AVal}(h:OwnG lo H e v cs)(hS:∀ i,lo<=i->S i)(hl:cs.length=q.length)(hc:∀ i (h:i<cs.length) (h':i<(q.map vecI).length),Fz S H nx cs[i] (q.map vecI)[i]):Fz S H nx v (vecV q):=by
 have:=h.fz (S:=S) (nx:=nx) (cs':=q.map vecI) hS (by rw[List.length_map];exact hl.symm) hc
 rw[List.length_map]at this
 exact this
set_option maxHeartbeats 16000000 in
theorem single_spec (d:D20)(hd:d.Ok)(bs:List Int)(hbl:(bs.length:Int)<2 ^ 63)(hb8:∀ x∈bs,U8 x)(cs:List Int)(hcl:(cs.length:Int)<2 ^ 63)(hc8:∀ x∈cs,U8 x)(H:AHeap)(K:ARes->AHeap->Prop)(hK:∀ H',H.next<=H'.next->K (.ret (.lit (.bool true))) H'):
  ACall Try.prog G0 4 [.agg d.cells,.vec bs.length (bytesL bs),.vec cs.length (bytesL cs)] H K:=by
 refine ACall.of_bodyW (n:=180) (rs:=[.tmp 6]) Try.func4 rfl rfl rfl (by decide) (by simp) ?_
 refine W.seq (vc_sound _ _ _ (by rfl) ?_)
 simp only[go_sem,D20.cells]
 obtain⟨H1,hH1⟩:∃ H1,H1=ext H [.arr 0 28 [.lit (.int .u8 d.g),.vec d.ps.length (drC d.ps),.vec d.ord.length (bytesL d.ord),.lit (.int .u8 d.decs),.lit (.bool d.rem),.vec d.us.length (utC d.us)]]:=⟨_,rfl⟩
 have g2:H1.get H.next=some (.arr 0 28 [.lit (.int .u8 d.g),.vec d.ps.length (drC d.ps),.vec d.ord.length (bytesL d.ord),.lit (.int .u8 d.decs),.lit (.bool d.rem),.vec d.us.length (utC d.us)]):=by rw[hH1];exact get_ext0 ..
 have n1:H1.next=H.next+1:=by rw[hH1];rfl
 rw[<- hH1]
 clear hH1
 have l2:=get_live g2
 refine W.seq (vc_sound _ _ _ (by rfl) ?_)
 simp only[go_sem]
 refine AApply.clo (works_ok _ _ ⟨trivial,?_⟩)
 simp only[go_sem]
 refine W.seq (vc_sound _ _ _ (by rfl) ?_)
 simp only[go_sem,l2]
 refine AApply.clo (influence20_spec d hd _ _ fun x hx=>⟨trivial,?_⟩)
 have hok:=hx.ok
 have hf:=fit_ok hok
 have n8:=hok.n.n1
 have h6:x.nodes.length<=6:=by have:=hx.n5;omega
 simp only[go_sem,infE_eq,infEC]
 obtain⟨H2,hH2⟩:∃ H2,H2=ext H1 [.arr 0 34 [.lit (.int .i64 x.grain),.vec x.nodes.length (nodesE x.nodes),.lit (.int .u64 (x.decs:Int)),.vec x.utils.length (utilsC x.utils)]]:=⟨_,rfl⟩
 have g5:H2.get H1.next=some (.arr 0 34 [.lit (.int .i64 x.grain),.vec x.nodes.length (nodesE x.nodes),.lit (.int .u64 (x.decs:Int)),.vec x.utils.length (utilsC x.utils)]):=by rw[hH2];exact ext1_get_new
 have n2:H2.next=H1.next+1:=by rw[hH2];rfl
 rw[<- hH2]
 clear hH2
 have l5:=get_live g5
 refine W.seq (vc_sound _ _ _ (by rfl) ?_)
 simp only[go_sem,l5]
 refine AApply.clo (choose20_spec x hf hok bs hbl hb8 _ _ fun p0 hp0=>⟨trivial,?_⟩)
 simp only[go_sem]
 refine W.env fun E hE=>?_
 have e2:E 2=.vec cs.length (bytesL cs):=by rw[hE];simp only[go_sem]
 have e7:E 7=.ptr H1.next 0 0:=by rw[hE];simp only[go_sem]
 have e8:E 8=vecV p0:=by rw[hE];simp only[go_sem]
 clear hE
 refine W.mid' (fun s'=>s'.ρ 2=.vec cs.length (bytesL cs)/\s'.ρ 7=.ptr H1.next 0 0/\Over H2 s'.H/\∃ p,PolOk x p/\s'.ρ 8=vecV p) ?_ ?_
 ·refine vc_sound _ _ _ (by rfl) ?_
  by_cases hpar:(cs.length:Int).tmod 2=0
  rotate_left
  ·simp only[go_sem,e2,e7,e8,hpar]
   exact⟨.refl _,p0,hp0,rfl⟩
  simp only[go_sem,e2,e7,e8,hpar,l5]
  refine AApply.clo (weak2 x p0 (improve_spec x hok h6 p0 hp0 _ _ fun q n hI hlq=>⟨trivial,?_⟩))
  obtain⟨qa,qb,hqa⟩:∃ qa qb,ratioV (sumP x q) (x.grain ^ x.nodes.length)=.agg [.lit (.int .i64 qa),.lit (.int .i64 qb)]:=⟨_,_,rfl⟩
  rw[hqa]
  simp only[go_sem,e2,e7,e8]
  exact⟨.ext _ _,q,hI.ok,rfl⟩
 rintro⟨ρ,H3⟩ ⟨m2,m7,o3,p,hp,m8⟩
 simp only at m2 m7 o3 m8
 have g5:=(o3.old _ (by omega)).trans g5
 have n3:=o3.next
 have l5:=get_live g5
 have hpf:=polFit_ok hok hp
 have hpe:=polErr_ok hok hp
 refine W.env fun E1 hE1=>?_
 have a2:E1 2=.vec cs.length (bytesL cs):=by rw[hE1];exact m2
 have a7:E1 7=.ptr H1.next 0 0:=by rw[hE1];exact m7
 have a8:E1 8=vecV p:=by rw[hE1];exact m8
 clear hE1 m2 m7 m8
 refine W.seq (vc_sound _ _ _ (by rfl) ?_)
 simp only[go_sem,a7,a8,l5]
 refine AApply.clo (weak2 x p (local_spec x hf h6 p hpf _ _ ⟨trivial,?_⟩))
 have hlp:locB x p=decide (isLocal x p):=if_pos hpe
 rw[hpe,hlp]
 simp only[go_sem]
 refine W.env fun E2 hE2=>?_
 have b2:E2 2=.vec cs.length (bytesL cs):=by rw[hE2];simp only[go_sem,a2]
 have b7:E2 7=.ptr H1.next 0 0:=by rw[hE2];simp only[go_sem,a7]
 have b8:E2 8=vecV p:=by rw[hE2];simp only[go_sem,a8]
 have b13:E2 13=.lit (.bool (decide (isLocal x p))):=by rw[hE2];simp only[go_sem]
 have b14:E2 14=lin 0:=by rw[hE2];simp only[go_sem]
 clear hE2
 refine W.seq (vc_sound _ _ _ (by rfl) ?_)
 simp only[go_sem,b7,b8,l5]
 refine AApply.clo (weak2 x p (value_spec x hf p hpf (sumsOk6 h6 p) _ _ ⟨trivial,?_⟩))
 have gp:=grain_pow hok
 obtain⟨D,hD⟩:∃ D,D=x.grain ^ x.nodes.length:=⟨_,rfl⟩
 rw[<- hD]at gp
 obtain⟨va,vb,vg,hv,hvF⟩:=ratio_facts (S:=sumP x p) (D:=D) gp.1
 rw[hpe,valR_ok hok hp,<- hD,hv]
 simp only[go_sem]
 obtain⟨H4,hH4⟩:∃ H4,H4=ext H3 [.arr 0 42 [.lit (.int .i64 va),.lit (.int .i64 vb)]]:=⟨_,rfl⟩
 have g15:H4.get H3.next=some (.arr 0 42 [.lit (.int .i64 va),.lit (.int .i64 vb)]):=by rw[hH4];exact ext1_get_new
 have o4:Over H3 H4:=by rw[hH4];exact .ext _ _
 have n4:H4.next=H3.next+1:=by rw[hH4];rfl
 rw[<- hH4]
 clear hH4
 have g5:=(o4.old _ (by omega)).trans g5
 have l5:=get_live g5
 have l15:=get_live g15
 refine W.env fun E3 hE3=>?_
 have c2:E3 2=.vec cs.length (bytesL cs):=by rw[hE3];simp only[go_sem,b2]
 have c7:E3 7=.ptr H1.next 0 0:=by rw[hE3];simp only[go_sem,b7]
 have c8:E3 8=vecV p:=by rw[hE3];simp only[go_sem,b8]
 have c13:E3 13=.lit (.bool (decide (isLocal x p))):=by rw[hE3];simp only[go_sem,b13]
 have c14:E3 14=lin 0:=by rw[hE3];simp only[go_sem,b14]
 have c15:E3 15=.ptr H3.next 0 0:=by rw[hE3];simp only[go_sem]
 have c16:E3 16=lin 0:=by rw[hE3];simp only[go_sem]
 clear hE3
 have sP:=sumG_bound hok h6 (fixC p)
 have eP:=sumP_eq hok hp
 have hcv:=hvF.check (by omega) (by omega)
 have hvb:=hvF.bound
 have hv1:=hvF.b1
 refine W.seq (vc_sound _ _ _ (by rfl) ?_)
 simp only[go_sem,c7,c8,c14,c16,l5]
 refine AApply.clo (fits_spec x hf hok p hp _ _ ⟨trivial,?_⟩)
 simp only[go_sem,c15,l15]
 refine AApply.clo (R01.Right_spec va vb (by unfold R01.I64;omega) (by unfold R01.I64;omega) _ _ ⟨trivial,?_⟩)
 rw[decide_eq_true hcv]
 simp only[go_sem]
 refine W.seq (vc_sound _ _ _ (by rfl) ?_)
 simp only[go_sem]
 refine W.seq (vc_sound _ _ _ (by rfl) ?_)
 simp only[go_sem,c2,c7,l5]
 refine AApply.clo (choose20_spec x hf hok cs hcl hc8 _ _ fun al hal=>⟨trivial,?_⟩)
 simp only[go_sem]
 refine W.seq (vc_sound _ _ _ (by rfl) ?_)
 simp only[go_sem,c7,l5]
 refine AApply.clo (decisions20_spec x hf.decs (by omega) _ _ ⟨trivial,?_⟩)
 have dlen:(natsI (decL x)).length=(decL x).length:=by simp [natsI]
 have dl8:(decL x).length<=x.nodes.length:=decK_len
 simp only[go_sem]
 refine W.env fun E4 hE4=>?_
 have d7:E4 7=.ptr H1.next 0 0:=by rw[hE4];simp only[go_sem,c7]
 have d8:E4 8=vecV p:=by rw[hE4];simp only[go_sem,c8]
 have d13:E4 13=.lit (.bool (decide (isLocal x p))):=by rw[hE4];simp only[go_sem,c13]
 have d15:E4 15=.ptr H3.next 0 0:=by rw[hE4];simp only[go_sem,c15]
 have d17:E4 17=.lit (.bool false):=by rw[hE4];simp only[go_sem]
 have d18:E4 18=vecV al:=by rw[hE4];simp only[go_sem]
 have d83:E4 83=vecI (natsI (decL x)):=by rw[hE4];simp only[go_sem]
 have d84:E4 84=lin (decL x).length:=by rw[hE4];simp only[go_sem,dlen]
 have d85:E4 85=lin 0:=by rw[hE4];simp only[go_sem]
 clear hE4
 refine W.loop0 95780971304118053647396689158208697748503061813919808 (by rfl) (fun ρ Hx=>Over H4 Hx/\∃ (k:Nat) (b:Bool),ρ 85=lin k/\k<=(decL x).length/\ρ 17=.lit (.bool b)/\Tried x p b (fun k' _ _=>k'<k)) (fun ρ H=>(decL x).length - (iv (ρ 85)).toNat) ?_ ?_
 ·simp only[go_sem,d85,d17]
  exact⟨.refl _,0,false,rfl,by omega,rfl,.start fun k j c=>Nat.not_lt_zero _⟩
 rintro ρ Hx ⟨ox,k,b,h85,hk,h17,hT⟩
 have nx:=ox.next
 have g5:=(ox.old _ (by omega)).trans g5
 have g15:=(ox.old _ (by omega)).trans g15
 have l5:=get_live g5
 have l15:=get_live g15
 refine W.env fun E5 hE5=>?_
 have e7:E5 7=.ptr H1.next 0 0:=by rw[hE5];simp only[go_sem,d7]
 have e8:E5 8=vecV p:=by rw[hE5];simp only[go_sem,d8]
 have e13:E5 13=.lit (.bool (decide (isLocal x p))):=by rw[hE5];simp only[go_sem,d13]
 have e15:E5 15=.ptr H3.next 0 0:=by rw[hE5];simp only[go_sem,d15]
 have e17:E5 17=.lit (.bool b):=by rw[hE5];simp only[go_sem,h17]
 have e18:E5 18=vecV al:=by rw[hE5];simp only[go_sem,d18]
 have e83:E5 83=vecI (natsI (decL x)):=by rw[hE5];simp only[go_sem,d83]
 have e84:E5 84=lin (decL x).length:=by rw[hE5];simp only[go_sem,d84]
 have e85:E5 85=lin k:=by rw[hE5];simp only[go_sem,h85]
 clear hE5
 by_cases hb:(k:Int)<(decL x).length
 rotate_left
 ·have hke:k=(decL x).length:=by omega
  rw[hke]at hT
  have hfin:=hT.done hok hp
  rw[hfin]at e13
  refine vc_sound _ _ _ (by rfl) ?_
  simp only[go_sem,e84,e85,hb]
  refine vc_sound _ _ _ (by rfl) ?_
  simp only[go_sem,e13,e17,R01.bin_eql_bool Try.underlying4]
  rw[beq_self_eq_true]
  exact FinV.mk (show H.next<=Hx.next by omega) (hK _ (by omega))
 refine W.seq (vc_sound _ _ _ (by rfl) ?_)
 simp only[go_sem,e84,e85,hb]
 refine W.seq (vc_sound _ _ _ (by rfl) ?_)
 simp only[go_sem]
 refine W.seq (W.block ?_)
 obtain⟨v,hvk⟩:=get_of_lt (l:=decL x) (i:=k) (by omega)
 obtain⟨v1,v2,v3⟩:=decK_place hvk
 obtain⟨y,hy⟩:=get_of_lt v1
 have hyc:=hok.n.card y (List.mem_of_getElem? hy)
 obtain⟨nr1,nr2⟩:=nRC hy (by omega)
 have hvi:(natsI (decL x))[k]?=some (v:Int):=by unfold natsI;rw[List.getElem?_map,hvk];rfl
 have hvne:=ne_of_get hvi
 have plen:p.length=(decL x).length:=hp.len
 have alen:al.length=(decL x).length:=hal.len
 obtain⟨l,hl⟩:=get_of_lt (l:=p) (i:=k) (by omega)
 obtain⟨m,hm⟩:=get_of_lt (l:=al) (i:=k) (by omega)
 obtain⟨ll,lr⟩:=pol_row hok hp hvk hl
 obtain⟨ml,mr⟩:=pol_row hok hal hvk hm
 have hl38:=hpf.2 l (List.mem_of_getElem? hl)
 have hlg:(p.map vecI)[k]?=some (vecI l):=by rw[List.getElem?_map,hl];rfl
 have hmg:(al.map vecI)[k]?=some (vecI m):=by rw[List.getElem?_map,hm];rfl
 have hln:=ne_of_get hl
 have hmn:=ne_of_get hm
 have kp:(k:Int)<p.length:=by omega
 have ka:(k:Int)<al.length:=by omega
 refine W.seq (vc_sound _ _ _ (by rfl) ?_)
 simp only[go_sem,e83,e85,hvi,hvne,dlen,hb]
 refine W.seq (vc_sound _ _ _ (by rfl) ?_)
 simp only[go_sem,e8]
 refine AApply.clo (clone2_own p (by omega) (by omega) _ _ fun qv Hq oq hq=>⟨trivial,?_⟩)
 simp only[go_sem]
 have nq:=oq.next
 obtain⟨id,g,hqv,i1,i2,i3,i4⟩:=hq.storeG (k:=k) (by rw[List.length_map];omega)
 rw[List.length_map]at hqv
 have li:=get_live i3
 have i4m:=i4 (vecI m)
 rw[<- List.map_set]at i4m
 have sset:setAt (p.map vecI) k [.vec m.length (ints m)]=(p.set k m).map vecI:=by
  rw[setAt_one (by rw[List.length_map];omega),List.map_set]
  rfl
 obtain⟨Hs,hHs⟩:∃ Hs,Hs=Hq.upd id (.arr g 52 ((p.set k m).map vecI)):=⟨_,rfl⟩
 have ns:Hs.next=Hq.next:=by rw[hHs];rfl
 have os:∀ j,j<Hx.next->Hs.get j=Hx.get j:=fun j hj=>by rw[hHs,upd_get,if_neg (by omega)];exact oq.old j hj
 have gid:Hs.get id=some (.arr g 52 ((p.set k m).map vecI)):=by rw[hHs,upd_get,if_pos rfl]
 rw[<- hHs]at i4m
 refine W.env fun E6 hE6=>?_
 have f7:E6 7=.ptr H1.next 0 0:=by rw[hE6];simp only[go_sem,e7]
 have f8:E6 8=vecV p:=by rw[hE6];simp only[go_sem,e8]
 have f13:E6 13=.lit (.bool (decide (isLocal x p))):=by rw[hE6];simp only[go_sem,e13]
 have f15:E6 15=.ptr H3.next 0 0:=by rw[hE6];simp only[go_sem,e15]
 have f17:E6 17=.lit (.bool b):=by rw[hE6];simp only[go_sem,e17]
 have f18:E6 18=vecV al:=by rw[hE6];simp only[go_sem,e18]
 have f19:E6 19=lin k:=by rw[hE6];simp only[go_sem]
 have f20:E6 20=lin v:=by rw[hE6];simp only[go_sem]
 have f21:E6 21=.own id g 0 p.length 1:=by rw[hE6,<- hqv];simp only[go_sem]
 have f83:E6 83=vecI (natsI (decL x)):=by rw[hE6];simp only[go_sem,e83]
 have f84:E6 84=lin (decL x).length:=by rw[hE6];simp only[go_sem,e84]
 have f85:E6 85=lin k:=by rw[hE6];simp only[go_sem,e85]
 clear hE6
 refine W.seq (vc_sound _ _ _ (by rfl) ?_)
 simp only[go_sem,f18,f19,f21,vecV,hmg,hmn,ka,kp,li]
 refine⟨by rw[List.length_map];omega,?_⟩
 simp only[go_sem,sset]
 rw[<- hHs]
 clear hHs sset
 have l5s:=get_live ((os _ (by omega)).trans g5)
 have hq1:=pol_set hok hp hvk ml mr
 refine W.seq (vc_sound _ _ _ (by rfl) ?_)
 simp only[go_sem,f7,f21,l5s]
 rw[hqv]at i4m
 refine AApply.clo (value_own x hok h6 (p.set k m) hq1 Hs _ (ownG_fzV i4m (fun _ _=>trivial) (by rw[List.length_map]) fun i hi _=>by simp only[List.getElem_map];exact .keepInts _) _ ⟨trivial,?_⟩)
 obtain⟨wa,wb,wg,hw,hwF⟩:=ratio_facts (S:=sumP x (p.set k m)) (D:=D) gp.1
 rw[<- hD,hw]
 simp only[go_sem]
 obtain⟨Ht,hHt⟩:∃ Ht,Ht=ext Hs [.arr 0 42 [.lit (.int .i64 wa),.lit (.int .i64 wb)]]:=⟨_,rfl⟩
 have gt22:Ht.get Hs.next=some (.arr 0 42 [.lit (.int .i64 wa),.lit (.int .i64 wb)]):=by rw[hHt];exact ext1_get_new
 have ot:Over Hs Ht:=by rw[hHt];exact .ext _ _
 have nt:Ht.next=Hs.next+1:=by rw[hHt];rfl
 rw[<- hHt]
 clear hHt
 have otx:∀ j,j<Hx.next->Ht.get j=Hx.get j:=fun j hj=>(ot.old j (by omega)).trans (os j hj)
 have l15t:=get_live ((otx _ (by omega)).trans g15)
 have l22t:=get_live gt22
 refine W.env fun E7 hE7=>?_
 have k7:E7 7=.ptr H1.next 0 0:=by rw[hE7];simp only[go_sem,f7]
 have k8:E7 8=vecV p:=by rw[hE7];simp only[go_sem,f8]
 have k13:E7 13=.lit (.bool (decide (isLocal x p))):=by rw[hE7];simp only[go_sem,f13]
 have k15:E7 15=.ptr H3.next 0 0:=by rw[hE7];simp only[go_sem,f15]
 have k17:E7 17=.lit (.bool b):=by rw[hE7];simp only[go_sem,f17]
 have k18:E7 18=vecV al:=by rw[hE7];simp only[go_sem,f18]
 have k19:E7 19=lin k:=by rw[hE7];simp only[go_sem,f19]
 have k20:E7 20=lin v:=by rw[hE7];simp only[go_sem,f20]
 have k21:E7 21=.own id g 0 p.length 1:=by rw[hE7];simp only[go_sem,f21]
 have k22:E7 22=.ptr Hs.next 0 0:=by rw[hE7];simp only[go_sem]
 have k23:E7 23=lin 0:=by rw[hE7];simp only[go_sem]
 have k83:E7 83=vecI (natsI (decL x)):=by rw[hE7];simp only[go_sem,f83]
 have k84:E7 84=lin (decL x).length:=by rw[hE7];simp only[go_sem,f84]
 have k85:E7 85=lin k:=by rw[hE7];simp only[go_sem,f85]
 clear hE7
 have sQ:=sumG_bound hok h6 (fixC (p.set k m))
 have eQ:=sumP_eq hok hq1
 have hcw:=hwF.check (by omega) (by omega)
 have hwb:=hwF.bound
 have hw1:=hwF.b1
 refine W.mid' (fun s'=>s'.H=Ht/\s'.ρ 7=.ptr H1.next 0 0/\s'.ρ 8=vecV p/\s'.ρ 13=.lit (.bool (decide (isLocal x p)))/\s'.ρ 15=.ptr H3.next 0 0/\s'.ρ 17=.lit (.bool b)/\s'.ρ 18=vecV al/\s'.ρ 19=lin k/\s'.ρ 20=lin v/\s'.ρ 21=.own id g 0 p.length 1/\s'.ρ 83=vecI (natsI (decL x))/\s'.ρ 84=lin (decL x).length/\s'.ρ 85=lin k) ?_ ?_
 ·refine vc_sound _ _ _ (by rfl) ?_
  simp only[go_sem,k22,k23,l22t]
  refine AApply.clo (R01.Right_spec wa wb (by unfold R01.I64;omega) (by unfold R01.I64;omega) _ _ ⟨trivial,?_⟩)
  rw[decide_eq_true hcw]
  by_cases hloc:isLocal x p
  ·have kt:E7 13=.lit (.bool true):=by rw[k13,decide_eq_true hloc]
   simp only[go_sem,kt,k15,k22,l15t,l22t]
   refine AApply.clo (R01.rCmp_spec wa wb va vb (by unfold R01.I64;omega) (by unfold R01.I64;omega) (by unfold R01.I64;omega) (by unfold R01.I64;omega) hw1 hv1 _ _ ⟨trivial,?_⟩)
   rw[hwF.cmp gp.1 hvF]
   have hbm:=best_most hok hp (List.mem_of_getElem? hvk) (hloc v (List.mem_of_getElem? hvk)) (l:=m) fun r hr=>by
    have:=mr _ (List.getElem_mem (l:=m) (n:=r) (by omega))
    rw[List.getD_eq_getElem?_getD,List.getElem?_eq_getElem (by omega)]
    exact this
   rw[v3,<- eP,<- eQ]at hbm
   have hng:¬ R01.cmpI (sumP x (p.set k m)) (sumP x p) > 0:=by
    unfold R01.cmpI
    split
    ·decide
    ·split<;>first|decide|omega
   simp only[go_sem,kt,k7,k8,k15,k17,k18,k19,k20,k21,k83,k84,k85,hng,decide_eq_true hloc]
  ·have kt:E7 13=.lit (.bool false):=by rw[k13,decide_eq_false hloc]
   simp only[go_sem,kt,k7,k8,k15,k17,k18,k19,k20,k21,k83,k84,k85,decide_eq_false hloc]
 rintro⟨ρ7,Hz⟩ ⟨hHz,m7,m8,m13,m15,m17,m18,m19,m20,m21,m83,m84,m85⟩
 simp only at hHz m7 m8 m13 m15 m17 m18 m19 m20 m21 m83 m84 m85
 subst hHz
 refine W.seq (vc_sound _ _ _ (by rfl) ?_)
 simp only[go_sem,m8,m19,vecV,hlg,hln,kp]
 refine W.block ?_
 refine W.env fun E8 hE8=>?_
 have p7:E8 7=.ptr H1.next 0 0:=by rw[hE8];simp only[go_sem,m7]
 have p8:E8 8=vecV p:=by rw[hE8];simp only[go_sem,m8]
 have p13:E8 13=.lit (.bool (decide (isLocal x p))):=by rw[hE8];simp only[go_sem,m13]
 have p15:E8 15=.ptr H3.next 0 0:=by rw[hE8];simp only[go_sem,m15]
 have p17:E8 17=.lit (.bool b):=by rw[hE8];simp only[go_sem,m17]
 have p18:E8 18=vecV al:=by rw[hE8];simp only[go_sem,m18]
 have p19:E8 19=lin k:=by rw[hE8];simp only[go_sem,m19]
 have p20:E8 20=lin v:=by rw[hE8];simp only[go_sem,m20]
 have p21:E8 21=.own id g 0 p.length 1:=by rw[hE8];simp only[go_sem,m21]
 have p83:E8 83=vecI (natsI (decL x)):=by rw[hE8];simp only[go_sem,m83]
 have p84:E8 84=lin (decL x).length:=by rw[hE8];simp only[go_sem,m84]
 have p85:E8 85=lin k:=by rw[hE8];simp only[go_sem,m85]
 have p125:E8 125=lin l.length:=by rw[hE8];simp only[go_sem]
 have p126:E8 126=lin 0:=by rw[hE8];simp only[go_sem]
 clear hE8 m7 m8 m13 m15 m17 m18 m19 m20 m21 m83 m84 m85
 refine W.loop0 47890485652058941753106614363831296144433739877974080 (by rfl) (fun ρ2 Hy=>Hz.next<=Hy.next/\(∀ j,j<Hx.next->Hy.get j=Hx.get j)/\∃ (j:Nat) (b2:Bool) (w:AVal),ρ2 126=lin j/\j<=l.length/\ρ2 17=.lit (.bool b2)/\w.one=true/\Hy.get id=some (.arr g 52 ((p.map vecI).set k w))/\Tried x p b2 (fun k' j' _=>k'<k\/k'=k/\j'<j)) (fun ρ2 H=>l.length - (iv (ρ2 126)).toNat) ?_ ?_
 ·simp only[go_sem,p126,p17]
  exact⟨otx,0,b,vecI m,rfl,by omega,rfl,rfl,by rw[ot.old _ (by omega),gid,List.map_set],hT.mono fun k' v' j' c' _ _ _ _ h=>by omega⟩
 rintro ρ8 Hy ⟨ny,oy,j,b2,w,h126,hj,h17',hwo,gy,hT2⟩
 refine W.env fun E9 hE9=>?_
 have q7:E9 7=.ptr H1.next 0 0:=by rw[hE9];simp only[go_sem,p7]
 have q8:E9 8=vecV p:=by rw[hE9];simp only[go_sem,p8]
 have q13:E9 13=.lit (.bool (decide (isLocal x p))):=by rw[hE9];simp only[go_sem,p13]
 have q15:E9 15=.ptr H3.next 0 0:=by rw[hE9];simp only[go_sem,p15]
 have q17:E9 17=.lit (.bool b2):=by rw[hE9];simp only[go_sem,h17']
 have q18:E9 18=vecV al:=by rw[hE9];simp only[go_sem,p18]
 have q19:E9 19=lin k:=by rw[hE9];simp only[go_sem,p19]
 have q20:E9 20=lin v:=by rw[hE9];simp only[go_sem,p20]
 have q21:E9 21=.own id g 0 p.length 1:=by rw[hE9];simp only[go_sem,p21]
 have q83:E9 83=vecI (natsI (decL x)):=by rw[hE9];simp only[go_sem,p83]
 have q84:E9 84=lin (decL x).length:=by rw[hE9];simp only[go_sem,p84]
 have q85:E9 85=lin k:=by rw[hE9];simp only[go_sem,p85]
 have q125:E9 125=lin l.length:=by rw[hE9];simp only[go_sem,p125]
 have q126:E9 126=lin j:=by rw[hE9];simp only[go_sem,h126]
 clear hE9
 have w1:=IntWalk.i64_in ((k:Int)+1) (by omega)
 have w2:=IntWalk.i64_in ((j:Int)+1) (by omega)
 by_cases hbj:(j:Int)<l.length
 rotate_left
 ·refine vc_sound _ _ _ (by rfl) ?_
  simp only[go_sem,q125,q126,hbj]
  refine vc_sound _ _ _ (by rfl) ?_
  simp only[go_sem,q17,q85,w1]
  refine⟨by omega,⟨⟨by omega,fun i hi=>(oy i (by omega)).trans (ox.old i hi)⟩,k+1,b2,rfl,by omega,rfl,hT2.mono fun k' v' j' c' h1 h2 _ _ h=>?_⟩,by rw[h85];simp only[lin,iv_int];omega⟩
  by_cases hkk:k'=k
  ·subst hkk
   rw[hvk]at h1
   cases h1
   exact .inr ⟨rfl,by omega⟩
  ·exact .inl (by omega)
 refine W.seq (vc_sound _ _ _ (by rfl) ?_)
 simp only[go_sem,q125,q126,hbj]
 refine W.seq (vc_sound _ _ _ (by rfl) ?_)
 simp only[go_sem]
 refine W.seq (W.block ?_)
 have l5y:=get_live ((oy _ (by omega)).trans g5)
 have yn0:=nodesE_0 hy
 have ynn:=nodesE_ne hy
 have vl:(v:Int)<x.nodes.length:=by omega
 refine W.seq (vc_sound _ _ _ (by rfl) ?_)
 simp only[go_sem,q126]
 refine W.seq (vc_sound _ _ _ (by rfl) ?_)
 simp only[go_sem,q7,q20,l5y,yn0,ynn,vl]
 refine W.block ?_
 refine W.env fun Ea hEa=>?_
 have s7:Ea 7=.ptr H1.next 0 0:=by rw[hEa];simp only[go_sem,q7]
 have s8:Ea 8=vecV p:=by rw[hEa];simp only[go_sem,q8]
 have s13:Ea 13=.lit (.bool (decide (isLocal x p))):=by rw[hEa];simp only[go_sem,q13]
 have s15:Ea 15=.ptr H3.next 0 0:=by rw[hEa];simp only[go_sem,q15]
 have s17:Ea 17=.lit (.bool b2):=by rw[hEa];simp only[go_sem,q17]
 have s18:Ea 18=vecV al:=by rw[hEa];simp only[go_sem,q18]
 have s19:Ea 19=lin k:=by rw[hEa];simp only[go_sem,q19]
 have s20:Ea 20=lin v:=by rw[hEa];simp only[go_sem,q20]
 have s21:Ea 21=.own id g 0 p.length 1:=by rw[hEa];simp only[go_sem,q21]
 have s24:Ea 24=lin j:=by rw[hEa];simp only[go_sem]
 have s83:Ea 83=vecI (natsI (decL x)):=by rw[hEa];simp only[go_sem,q83]
 have s84:Ea 84=lin (decL x).length:=by rw[hEa];simp only[go_sem,q84]
 have s85:Ea 85=lin k:=by rw[hEa];simp only[go_sem,q85]
 have s125:Ea 125=lin l.length:=by rw[hEa];simp only[go_sem,q125]
 have s126:Ea 126=lin j:=by rw[hEa];simp only[go_sem,q126]
 have s134:Ea 134=lin y.card:=by rw[hEa];simp only[go_sem]
 have s135:Ea 135=lin 0:=by rw[hEa];simp only[go_sem]
 clear hEa
 refine W.loop0 23945242825985957268883292175900269044291532688064576 (by rfl) (fun ρ3 Hw=>Hy.next<=Hw.next/\(∀ j,j<Hx.next->Hw.get j=Hx.get j)/\∃ (c:Nat) (b3:Bool) (w:AVal),ρ3 135=lin c/\(c:Int)<=y.card/\ρ3 17=.lit (.bool b3)/\w.one=true/\Hw.get id=some (.arr g 52 ((p.map vecI).set k w))/\Tried x p b3 (fun k' j' c'=>(k'<k\/k'=k/\j'<j)\/(k'=k/\j'=j/\c'<c))) (fun ρ3 H=>y.card.toNat - (iv (ρ3 135)).toNat) ?_ ?_
 ·simp only[go_sem,s135,s17]
  exact⟨oy,0,b2,w,rfl,by omega,rfl,hwo,gy,hT2.mono fun k' v' j' c' _ _ h0 _ h=>by
   rcases h with h|h
   ·exact h
   ·omega⟩
 rintro ρ9 Hw ⟨nw,ow,c,b3,w',h135,hc,h17w,hwo',gw,hT3⟩
 refine W.env fun Eb hEb=>?_
 have t7:Eb 7=.ptr H1.next 0 0:=by rw[hEb];simp only[go_sem,s7]
 have t8:Eb 8=vecV p:=by rw[hEb];simp only[go_sem,s8]
 have t15:Eb 15=.ptr H3.next 0 0:=by rw[hEb];simp only[go_sem,s15]
 have t17:Eb 17=.lit (.bool b3):=by rw[hEb];simp only[go_sem,h17w]
 have t19:Eb 19=lin k:=by rw[hEb];simp only[go_sem,s19]
 have t21:Eb 21=.own id g 0 p.length 1:=by rw[hEb];simp only[go_sem,s21]
 have t24:Eb 24=lin j:=by rw[hEb];simp only[go_sem,s24]
 have t126:Eb 126=lin j:=by rw[hEb];simp only[go_sem,s126]
 have t134:Eb 134=lin y.card:=by rw[hEb];simp only[go_sem,s134]
 have t135:Eb 135=lin c:=by rw[hEb];simp only[go_sem,h135]
 clear hEb
 by_cases hbc:(c:Int)<y.card
 rotate_left
 ·refine vc_sound _ _ _ (by rfl) ?_
  simp only[go_sem,t134,t135,hbc]
  refine vc_sound _ _ _ (by rfl) ?_
  simp only[go_sem,t17,t126,w2]
  refine⟨by omega,⟨by omega,ow,j+1,b3,w',rfl,by omega,rfl,hwo',gw,hT3.mono fun k' v' j' c' h1 h2 h3 h4 h=>?_⟩,by rw[h126];simp only[lin,iv_int];omega⟩
  by_cases hkk:k'=k
  ·subst hkk
   rw[hvk]at h1
   cases h1
   by_cases hjj:j'=j
   ·exact .inr ⟨rfl,hjj,by omega⟩
   ·exact .inl (by omega)
  ·exact .inl (by omega)
 refine W.seq (vc_sound _ _ _ (by rfl) ?_)
 simp only[go_sem,t134,t135,hbc]
 refine W.seq (vc_sound _ _ _ (by rfl) ?_)
 simp only[go_sem]
 refine W.seq (W.block ?_)
 refine W.seq (vc_sound _ _ _ (by rfl) ?_)
 simp only[go_sem,t135]
 have l0:0<l.length:=by omega
 have lw:=get_live gw
 refine W.seq (vc_sound _ _ _ (by rfl) ?_)
 simp only[go_sem,t8,t19,t21,vecV,hlg,hln,kp]
 refine AApply.clo (clone1_own l (by omega) l0 _ _ fun vv Hc oc hvo=>⟨trivial,?_⟩)
 have nc:=oc.next
 have lwc:=get_live ((oc.old id (by omega)).trans gw)
 have vo:=hvo.one
 have vc1:=hvo.cells
 have cset:setAt ((p.map vecI).set k w') k [vv]=(p.map vecI).set k vv:=by
  rw[setAt_one (by rw[List.length_set,List.length_map];omega),List.set_set]
 simp only[go_sem,kp,lwc,vo,vc1]
 refine⟨by rw[List.length_set,List.length_map];omega,?_⟩
 simp only[go_sem,cset]
 obtain⟨Hd,hHd⟩:∃ Hd,Hd=Hc.upd id (.arr g 52 ((p.map vecI).set k vv)):=⟨_,rfl⟩
 have nd:Hd.next=Hc.next:=by rw[hHd];rfl
 have od:∀ i,i<Hw.next->i≠id->Hd.get i=Hw.get i:=fun i h1 h2=>by rw[hHd,upd_get,if_neg h2];exact oc.old i h1
 have gd:Hd.get id=some (.arr g 52 ((p.map vecI).set k vv)):=by rw[hHd,upd_get,if_pos rfl]
 have hv2:OwnG Hw.next Hd 3 vv (ints l):=hvo.keep (Nat.le_refl _) (by omega) fun i2 g2 h1 h2 _ _=>by rw[hHd,upd_get,if_neg (by omega)]
 rw[<- hHd]
 clear hHd cset
 obtain⟨id2,e2g,hvv,z1,z2,z3,z4⟩:=hv2.storeG (k:=j) (by rw[ints_length];omega)
 have ld:=get_live gd
 have lz:=get_live z3
 have z4c:=z4 (lin c)
 rw[show (ints l).set j (lin (c:Int))=ints (l.set j c) from by unfold ints;rw[List.map_set]]at z4c
 rw[ints_length]at hvv
 subst hvv
 have jset:setAt (ints l) j [.lit (.int .i64 (c:Int))]=ints (l.set j c):=setAt_ints (by omega)
 have kset:((p.map vecI).set k (.own id2 e2g 0 l.length 1))[k]?=some (.own id2 e2g 0 l.length 1):=List.getElem?_set_self (by rw[List.length_map];omega)
 have kne:¬ (p.map vecI).set k (.own id2 e2g 0 l.length 1)=[]:=fun e=>by rw[e]at kset;simp at kset
 have hjl:(j:Int)<l.length:=hbj
 refine W.env fun Ec hEc=>?_
 have u7:Ec 7=.ptr H1.next 0 0:=by rw[hEc];simp only[go_sem,t7]
 have u15:Ec 15=.ptr H3.next 0 0:=by rw[hEc];simp only[go_sem,t15]
 have u17:Ec 17=.lit (.bool b3):=by rw[hEc];simp only[go_sem,t17]
 have u19:Ec 19=lin k:=by rw[hEc];simp only[go_sem,t19]
 have u21:Ec 21=.own id g 0 p.length 1:=by rw[hEc];simp only[go_sem,t21]
 have u24:Ec 24=lin j:=by rw[hEc];simp only[go_sem,t24]
 have u25:Ec 25=lin c:=by rw[hEc];simp only[go_sem]
 have u135:Ec 135=lin c:=by rw[hEc];simp only[go_sem,t135]
 clear hEc
 refine W.seq (vc_sound _ _ _ (by rfl) ?_)
 simp only[go_sem,u19,u21,u24,u25,ld,kset,kp,lz,hjl]
 refine⟨by omega,?_⟩
 simp only[go_sem,jset]
 obtain⟨He,hHe⟩:∃ He,He=Hd.upd id2 (.arr e2g 3 (ints (l.set j (c:Int)))):=⟨_,rfl⟩
 have ne:He.next=Hd.next:=by rw[hHe];rfl
 have oe:∀ i,i<Hw.next->He.get i=Hd.get i:=fun i h1=>by rw[hHe,upd_get,if_neg (by omega)]
 rw[<- hHe]at z4c
 rw[<- hHe]
 clear hHe jset
 have ge:=(oe id (by omega)).trans gd
 have oex:∀ i,i<Hx.next->He.get i=Hx.get i:=fun i h=>by rw[oe i (by omega),od i (by omega) (by omega)];exact ow i h
 have l5e:=get_live ((oex _ (by omega)).trans g5)
 have hcr:0<=(c:Int)/\(c:Int)<nCard x v:=by omega
 have hq2:=pol_set hok hp hvk (l:=l.set j (c:Int)) (by rw[List.length_set];exact ll) (set_rng lr hcr)
 have hfz:Fz (fun _=>True) He 0 (.own id g 0 p.length 1) (vecV (p.set k (l.set j (c:Int)))):=by
  refine ownG_fzV (lo:=0) (e:=52) (cs:=(p.map vecI).set k (.own id2 e2g 0 l.length 1)) (.inr ⟨id,g,Nat.zero_le _,by omega,by rw[List.length_set,List.length_map],ge⟩) (fun _ _=>trivial) (by rw[List.length_set,List.length_map,List.length_set]) ?_
  rw[List.map_set]
  refine fz_set (fun a ha=>?_) ?_
  ·obtain⟨r,_,rfl⟩:=List.mem_map.1 ha
   exact .keepInts _
  ·have:=z4c.fzI (S:=fun _=>True) (nx:=0) fun _ _=>trivial
   exact this
 refine W.seq (vc_sound _ _ _ (by rfl) ?_)
 simp only[go_sem,u7,u21,l5e]
 refine AApply.clo (value_own x hok h6 (p.set k (l.set j (c:Int))) hq2 He _ hfz _ ⟨trivial,?_⟩)
 obtain⟨ya,yb,yg,hyy,hyF⟩:=ratio_facts (S:=sumP x (p.set k (l.set j (c:Int)))) (D:=D) gp.1
 rw[<- hD,hyy]
 simp only[go_sem]
 obtain⟨Hf,hHf⟩:∃ Hf,Hf=ext He [.arr 0 42 [.lit (.int .i64 ya),.lit (.int .i64 yb)]]:=⟨_,rfl⟩
 have gf26:Hf.get He.next=some (.arr 0 42 [.lit (.int .i64 ya),.lit (.int .i64 yb)]):=by rw[hHf];exact ext1_get_new
 have oft:Over He Hf:=by rw[hHf];exact .ext _ _
 have nf:Hf.next=He.next+1:=by rw[hHf];rfl
 rw[<- hHf]
 clear hHf
 have l15f:=get_live ((oft.old _ (by omega)).trans ((oex _ (by omega)).trans g15))
 have l26f:=get_live gf26
 refine W.env fun Ed hEd=>?_
 have x15:Ed 15=.ptr H3.next 0 0:=by rw[hEd];simp only[go_sem,u15]
 have x17:Ed 17=.lit (.bool b3):=by rw[hEd];simp only[go_sem,u17]
 have x26:Ed 26=.ptr He.next 0 0:=by rw[hEd];simp only[go_sem]
 have x27:Ed 27=lin 0:=by rw[hEd];simp only[go_sem]
 have x135:Ed 135=lin c:=by rw[hEd];simp only[go_sem,u135]
 clear hEd
 have sY:=sumG_bound hok h6 (fixC (p.set k (l.set j (c:Int))))
 have eY:=sumP_eq hok hq2
 have hcy:=hyF.check (by omega) (by omega)
 have hyb:=hyF.bound
 have hy1:=hyF.b1
 refine W.seq (vc_sound _ _ _ (by rfl) ?_)
 simp only[go_sem,x26,x27,l26f]
 refine AApply.clo (R01.Right_spec ya yb (by unfold R01.I64;omega) (by unfold R01.I64;omega) _ _ ⟨trivial,?_⟩)
 rw[decide_eq_true hcy]
 simp only[go_sem]
 have w3:=IntWalk.i64_in ((c:Int)+1) (by omega)
 have stp:∀ gb:Bool,(gb=true↔sumP x p<sumP x (p.set k (l.set j (c:Int))))->Tried x p (b3 || gb) (fun k' j' c'=>(k'<k\/k'=k/\j'<j)\/(k'=k/\j'=j/\c'<((c+1:Nat):Int))):=fun gb hgb=>by
  refine hT3.step hok hp hvk (j:=j) (c:=(c:Int)) (by omega) hcr ?_ fun k' j' c' h=>?_
  ·rw[hgb,eP,eY]
   refine⟨fun h=>⟨l,hl,h⟩,?_⟩
   rintro⟨l2,h1,h2⟩
   rw[hl]at h1
   cases h1
   exact h2
  ·rcases h with h|⟨h1,h2,h3⟩
   ·exact .inl (.inl h)
   ·by_cases hcc:c'=c
    ·exact .inr ⟨h1,h2,hcc⟩
    ·exact .inl (.inr ⟨h1,h2,by omega⟩)
 have oxf:∀ i,i<Hx.next->Hf.get i=Hx.get i:=fun i h=>(oft.old i (by omega)).trans (oex i h)
 have gff:=(oft.old id (by omega)).trans ge
 refine vc_sound _ _ _ (by rfl) ?_
 cases b3 with
 | true =>
  simp only[go_sem,x17]
  refine vc_sound _ _ _ (by rfl) ?_
  simp only[go_sem,x135,w3]
  exact⟨by omega,⟨by omega,oxf,c+1,true,_,rfl,by omega,rfl,rfl,gff,⟨hT3.yes,fun h=>Bool.noConfusion h⟩⟩,by rw[h135];simp only[lin,iv_int];omega⟩
 | false =>
  simp only[go_sem,x15,x17,x26,l15f,l26f]
  refine AApply.clo (R01.rCmp_spec ya yb va vb (by unfold R01.I64;omega) (by unfold R01.I64;omega) (by unfold R01.I64;omega) (by unfold R01.I64;omega) hy1 hv1 _ _ ⟨trivial,?_⟩)
  rw[hyF.cmp gp.1 hvF]
  by_cases hlt:sumP x p<sumP x (p.set k (l.set j (c:Int)))
  ·have hcg:R01.cmpI (sumP x (p.set k (l.set j (c:Int)))) (sumP x p) > 0:=by
    unfold R01.cmpI
    rw[if_neg (by omega),if_neg (by omega)]
    decide
   simp only[go_sem,hcg]
   refine vc_sound _ _ _ (by rfl) ?_
   simp only[go_sem,x135,w3]
   exact⟨by omega,⟨by omega,oxf,c+1,true,_,rfl,by omega,rfl,rfl,gff,stp true ⟨fun _=>hlt,fun _=>rfl⟩⟩,by rw[h135];simp only[lin,iv_int];omega⟩
  ·have hcg:¬ R01.cmpI (sumP x (p.set k (l.set j (c:Int)))) (sumP x p) > 0:=by
    unfold R01.cmpI
    split
    ·decide
    ·split<;>first|decide|omega
   simp only[go_sem,hcg]
   refine vc_sound _ _ _ (by rfl) ?_
   simp only[go_sem,x135,w3]
   exact⟨by omega,⟨by omega,oxf,c+1,false,_,rfl,by omega,rfl,rfl,gff,stp false ⟨fun h=>Bool.noConfusion h,fun h=>absurd h hlt⟩⟩,by rw[h135];simp only[lin,iv_int];omega⟩
end Go.Proofs
