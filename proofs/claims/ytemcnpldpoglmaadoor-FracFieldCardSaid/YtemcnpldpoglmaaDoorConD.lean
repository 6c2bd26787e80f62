/- Own work: contracts. -/
import Derived.Test.YtemcnpldpoglmaaDoorConC
set_option linter.all false
set_option linter.unusedSimpArgs false
set_option maxRecDepth 100000
namespace Go.Proofs
open Go.Hx
/-! What the laws have in common, and FracMakes. -/
theorem eqlQ23 {o1 o2 : Operand} (a b c d : Int) : binA Tryd.prog .eql 23 o1 o2 (.agg [.lit (.int .i64 a), .lit (.int .i64 b)]) (.agg [.lit (.int .i64 c), .lit (.int .i64 d)]) = some (.lit (.bool (a == c && b == d))) := eqlQ a b c d
/-- The result is the empty one, with the error that is wanted. -/
theorem failed_spec (a b e w : Int) (H : AHeap) (K : ARes → AHeap → Prop) (hK : K (.ret (.lit (.bool (decide (a = 0 ∧ b = 0 ∧ e = w))))) H) : ACall Tryd.prog G0 16 [qV a b, .lit (.int .i64 e), .lit (.int .i64 w)] H K := by
  refine ACall.clo ⟨_, Tryd.func16, rfl, rfl⟩ fun hcl => ?_
  refine ACall.of_body (n := 15) (rs := [.tmp 6]) Tryd.func16 rfl rfl rfl (by decide) (by kernel_rfl) (by simp) ?_
  by_cases h1 : a = 0 ∧ b = 0
  · have e1 : (a == 0 && b == 0) = true := by simp [h1.1, h1.2]
    by_cases h2 : e = w
    · rw [decide_eq_true ⟨h1.1, h1.2, h2⟩] at hK
      simp (config := { maxSteps := 1000000 }) only [go_sem, Int.reduceToNat, Int.reduceLE, Int.reduceLT, Int.reduceAdd, Int.reduceSub, Int.reduceMul, Int.reduceEq, Int.reduceNe, Nat.reduceEqDiff, Nat.reducePow, Nat.reduceDiv, Nat.reduceMod, Nat.reduceAdd, Nat.reduceMul, Nat.reduceSub, Nat.reduceLT, Nat.reduceLeDiff, reduceIte, reduceCtorEq, qV, eqlQ23, e1, h2, appendA_U]
      exact FinV.drop G0_ok hcl (.lit _) hK
    · rw [decide_eq_false (fun h => h2 h.2.2)] at hK
      simp (config := { maxSteps := 1000000 }) only [go_sem, Int.reduceToNat, Int.reduceLE, Int.reduceLT, Int.reduceAdd, Int.reduceSub, Int.reduceMul, Int.reduceEq, Int.reduceNe, Nat.reduceEqDiff, Nat.reducePow, Nat.reduceDiv, Nat.reduceMod, Nat.reduceAdd, Nat.reduceMul, Nat.reduceSub, Nat.reduceLT, Nat.reduceLeDiff, reduceIte, reduceCtorEq, qV, eqlQ23, e1, h2, appendA_U]
      exact FinV.drop G0_ok hcl (.lit _) hK
  · have e1 : (a == 0 && b == 0) = false := by
      by_cases h : a = 0
      · have : ¬ b = 0 := fun h' => h1 ⟨h, h'⟩
        simp [this]
      · simp [h]
    rw [decide_eq_false (fun h => h1 ⟨h.1, h.2.1⟩)] at hK
    simp (config := { maxSteps := 1000000 }) only [go_sem, Int.reduceToNat, Int.reduceLE, Int.reduceLT, Int.reduceAdd, Int.reduceSub, Int.reduceMul, Int.reduceEq, Int.reduceNe, Nat.reduceEqDiff, Nat.reducePow, Nat.reduceDiv, Nat.reduceMod, Nat.reduceAdd, Nat.reduceMul, Nat.reduceSub, Nat.reduceLT, Nat.reduceLeDiff, reduceIte, reduceCtorEq, qV, eqlQ23, e1, appendA_U]
    exact FinV.drop G0_ok hcl (.lit _) hK
/-- The result is what the reference has. -/
theorem told_spec (a b e c d : Int) (fits : Bool) (h : (fits = true ∧ a = c ∧ b = d ∧ e = 0) ∨ (fits = false ∧ a = 0 ∧ b = 0 ∧ e = 6)) (H : AHeap) (K : ARes → AHeap → Prop) (hK : K (.ret (.lit (.bool true))) H) :
    ACall Tryd.prog G0 18 [qV a b, .lit (.int .i64 e), qV c d, .lit (.bool fits)] H K := by
  refine ACall.clo ⟨_, Tryd.func18, rfl, rfl⟩ fun hcl => ?_
  refine ACall.of_body (n := 25) (rs := [.tmp 8]) Tryd.func18 rfl rfl rfl (by decide) (by kernel_rfl) (by simp) ?_
  rcases h with ⟨rfl, rfl, rfl, rfl⟩ | ⟨rfl, rfl, rfl, rfl⟩
  · have e1 : (a == a && b == b) = true := by simp
    simp (config := { maxSteps := 1000000 }) only [go_sem, Int.reduceToNat, Int.reduceLE, Int.reduceLT, Int.reduceAdd, Int.reduceSub, Int.reduceMul, Int.reduceEq, Int.reduceNe, Nat.reduceEqDiff, Nat.reducePow, Nat.reduceDiv, Nat.reduceMod, Nat.reduceAdd, Nat.reduceMul, Nat.reduceSub, Nat.reduceLT, Nat.reduceLeDiff, reduceIte, reduceCtorEq, qV, eqlQ23, e1, appendA_U]
    exact FinV.drop G0_ok hcl (.lit _) hK
  · have e1 : ((0 : Int) == 0 && (0 : Int) == 0) = true := by decide
    simp (config := { maxSteps := 1000000 }) only [go_sem, Int.reduceToNat, Int.reduceLE, Int.reduceLT, Int.reduceAdd, Int.reduceSub, Int.reduceMul, Int.reduceEq, Int.reduceNe, Nat.reduceEqDiff, Nat.reducePow, Nat.reduceDiv, Nat.reduceMod, Nat.reduceAdd, Nat.reduceMul, Nat.reduceSub, Nat.reduceLT, Nat.reduceLeDiff, reduceIte, reduceCtorEq, qV, eqlQ23, e1, appendA_U]
    exact FinV.drop G0_ok hcl (.lit _) hK
theorem nonzero_spec (n : Int) (H : AHeap) (K : ARes → AHeap → Prop) (hK : K (.ret (.lit (.int .i64 (if n = 0 then 1 else n)))) H) : ACall Tryd.prog G0 32 [.lit (.int .i64 n)] H K := by
  refine ACall.clo ⟨_, Tryd.func32, rfl, rfl⟩ fun hcl => ?_
  refine ACall.of_body (n := 6) (rs := [.tmp 2]) Tryd.func32 rfl rfl rfl (by decide) (by kernel_rfl) (by simp) ?_
  by_cases h : n = 0
  · rw [if_pos h] at hK
    simp (config := { maxSteps := 1000000 }) only [go_sem, Int.reduceToNat, Int.reduceLE, Int.reduceLT, Int.reduceAdd, Int.reduceSub, Int.reduceMul, Int.reduceEq, Int.reduceNe, Nat.reduceEqDiff, Nat.reducePow, Nat.reduceDiv, Nat.reduceMod, Nat.reduceAdd, Nat.reduceMul, Nat.reduceSub, Nat.reduceLT, Nat.reduceLeDiff, reduceIte, reduceCtorEq, h, appendA_U]
    exact FinV.dropO G0_ok hcl (.refl _) (.lit _) hK
  · rw [if_neg h] at hK
    simp (config := { maxSteps := 1000000 }) only [go_sem, Int.reduceToNat, Int.reduceLE, Int.reduceLT, Int.reduceAdd, Int.reduceSub, Int.reduceMul, Int.reduceEq, Int.reduceNe, Nat.reduceEqDiff, Nat.reducePow, Nat.reduceDiv, Nat.reduceMod, Nat.reduceAdd, Nat.reduceMul, Nat.reduceSub, Nat.reduceLT, Nat.reduceLeDiff, reduceIte, reduceCtorEq, h, appendA_U]
    exact FinV.dropO G0_ok hcl (.refl _) (.lit _) hK
/-- What both programs make of the same number. -/
theorem fit_made (neg : Bool) (N D : Nat) : ∃ x y e f, gdOut gdQ (fitO neg (N / Nat.gcd N D) (D / Nat.gcd N D)) = .tup [qV x y, .lit (.int .i64 e)] ∧ ∃ x' y', madeR neg N D = .tup [qV x' y', .lit (.bool f)] ∧ ((f = true ∧ x = x' ∧ y = y' ∧ e = 0) ∨ (f = false ∧ x = 0 ∧ y = 0 ∧ e = 6)) := by
  unfold fitO madeR
  by_cases h : N / Nat.gcd N D ≤ 4611686018427387903 ∧ D / Nat.gcd N D ≤ 4611686018427387903
  · rw [if_pos h, if_pos h]
    exact ⟨_, _, _, _, rfl, _, _, rfl, .inl ⟨rfl, rfl, rfl, rfl⟩⟩
  · rw [if_neg h, if_neg h]
    exact ⟨0, 0, 6, _, rfl, _, _, rfl, .inr ⟨rfl, rfl, rfl, rfl⟩⟩
theorem checkQ_cases (a b : Int) : checkQ a b = 0 ∨ checkQ a b = 5 := by
  unfold checkQ
  split
  · exact .inr rfl
  · split
    · exact .inr rfl
    · exact .inl rfl
set_option maxHeartbeats 1000000 in
theorem makes_spec (a b n d : Int) (ha : I64 a) (hb : I64 b) (hn : I64 n) (hd : I64 d) (H : AHeap) (K : ARes → AHeap → Prop) (hK : K (.ret (.lit (.bool true))) H) : ACall Tryd.prog G0 3 [qV a b, .lit (.int .i64 n), .lit (.int .i64 d)] H K := by
  refine ACall.clo ⟨_, Tryd.func3, rfl, rfl⟩ fun hcl => ?_
  refine ACall.of_body (n := 51) (rs := [.tmp 6]) Tryd.func3 rfl rfl rfl (by decide) (by kernel_rfl) (by simp) ?_
  simp (config := { maxSteps := 1000000 }) only [go_sem, Int.reduceToNat, Int.reduceLE, Int.reduceLT, Int.reduceAdd, Int.reduceSub, Int.reduceMul, Int.reduceEq, Int.reduceNe, Nat.reduceEqDiff, Nat.reducePow, Nat.reduceDiv, Nat.reduceMod, Nat.reduceAdd, Nat.reduceMul, Nat.reduceSub, Nat.reduceLT, Nat.reduceLeDiff, reduceIte, reduceCtorEq, qV, appendA_U]
  refine AApply.clo (works_ok _ _ ⟨trivial, ?_⟩)
  simp (config := { maxSteps := 1000000 }) only [go_sem, Int.reduceToNat, Int.reduceLE, Int.reduceLT, Int.reduceAdd, Int.reduceSub, Int.reduceMul, Int.reduceEq, Int.reduceNe, Nat.reduceEqDiff, Nat.reducePow, Nat.reduceDiv, Nat.reduceMod, Nat.reduceAdd, Nat.reduceMul, Nat.reduceSub, Nat.reduceLT, Nat.reduceLeDiff, reduceIte, reduceCtorEq, qV, appendA_U]
  refine AApply.clo (fcheck_spec a b ha hb _ _ ⟨trivial, ?_⟩)
  simp (config := { maxSteps := 1000000 }) only [go_sem, Int.reduceToNat, Int.reduceLE, Int.reduceLT, Int.reduceAdd, Int.reduceSub, Int.reduceMul, Int.reduceEq, Int.reduceNe, Nat.reduceEqDiff, Nat.reducePow, Nat.reduceDiv, Nat.reduceMod, Nat.reduceAdd, Nat.reduceMul, Nat.reduceSub, Nat.reduceLT, Nat.reduceLeDiff, reduceIte, reduceCtorEq, qV, appendA_U]
  refine AApply.clo (Right_spec a b ha hb _ _ ⟨trivial, ?_⟩)
  obtain ⟨ck, hck⟩ : ∃ ck, ck = checkQ a b := ⟨_, rfl⟩
  have c2 := checkQ_cases a b
  rw [← hck] at c2 ⊢
  by_cases hd0 : d = 0
  · rcases c2 with h0 | h0
    all_goals rw [h0]
    all_goals simp (config := { maxSteps := 1000000 }) only [go_sem, Int.reduceToNat, Int.reduceLE, Int.reduceLT, Int.reduceAdd, Int.reduceSub, Int.reduceMul, Int.reduceEq, Int.reduceNe, Nat.reduceEqDiff, Nat.reducePow, Nat.reduceDiv, Nat.reduceMod, Nat.reduceAdd, Nat.reduceMul, Nat.reduceSub, Nat.reduceLT, Nat.reduceLeDiff, reduceIte, reduceCtorEq, bin_neq_bool Tryd.underlying4, qV, appendA_U]
    all_goals refine AApply.clo (make_spec n d hn hd _ _ ⟨trivial, ?_⟩)
    all_goals unfold makeR
    all_goals rw [if_pos hd0]
    all_goals simp (config := { maxSteps := 1000000 }) only [go_sem, Int.reduceToNat, Int.reduceLE, Int.reduceLT, Int.reduceAdd, Int.reduceSub, Int.reduceMul, Int.reduceEq, Int.reduceNe, Nat.reduceEqDiff, Nat.reducePow, Nat.reduceDiv, Nat.reduceMod, Nat.reduceAdd, Nat.reduceMul, Nat.reduceSub, Nat.reduceLT, Nat.reduceLeDiff, reduceIte, reduceCtorEq, hd0, qV, appendA_U]
    all_goals refine AApply.clo (failed_spec 0 0 2 2 _ _ ⟨trivial, ?_⟩)
    all_goals simp (config := { maxSteps := 1000000 }) only [go_sem, Int.reduceToNat, Int.reduceLE, Int.reduceLT, Int.reduceAdd, Int.reduceSub, Int.reduceMul, Int.reduceEq, Int.reduceNe, Nat.reduceEqDiff, Nat.reducePow, Nat.reduceDiv, Nat.reduceMod, Nat.reduceAdd, Nat.reduceMul, Nat.reduceSub, Nat.reduceLT, Nat.reduceLeDiff, reduceIte, reduceCtorEq, appendA_U]
    all_goals exact FinV.drop G0_ok hcl (.lit _) hK
  · obtain ⟨x, y, e, f, e1, x', y', e2, e3⟩ := fit_made (sgnB n d) n.natAbs d.natAbs
    have eg : Int.gcd n d = n.natAbs.gcd d.natAbs := rfl
    rcases c2 with h0 | h0
    all_goals rw [h0]
    all_goals simp (config := { maxSteps := 1000000 }) only [go_sem, Int.reduceToNat, Int.reduceLE, Int.reduceLT, Int.reduceAdd, Int.reduceSub, Int.reduceMul, Int.reduceEq, Int.reduceNe, Nat.reduceEqDiff, Nat.reducePow, Nat.reduceDiv, Nat.reduceMod, Nat.reduceAdd, Nat.reduceMul, Nat.reduceSub, Nat.reduceLT, Nat.reduceLeDiff, reduceIte, reduceCtorEq, bin_neq_bool Tryd.underlying4, qV, appendA_U]
    all_goals refine AApply.clo (make_spec n d hn hd _ _ ⟨trivial, ?_⟩)
    all_goals unfold makeR makeO
    all_goals rw [if_neg hd0, eg, e1]
    all_goals simp (config := { maxSteps := 1000000 }) only [go_sem, Int.reduceToNat, Int.reduceLE, Int.reduceLT, Int.reduceAdd, Int.reduceSub, Int.reduceMul, Int.reduceEq, Int.reduceNe, Nat.reduceEqDiff, Nat.reducePow, Nat.reduceDiv, Nat.reduceMod, Nat.reduceAdd, Nat.reduceMul, Nat.reduceSub, Nat.reduceLT, Nat.reduceLeDiff, reduceIte, reduceCtorEq, hd0, qV, appendA_U]
    all_goals refine AApply.clo (rMake_spec n d hn hd hd0 _ _ ⟨trivial, ?_⟩)
    all_goals rw [e2]
    all_goals simp (config := { maxSteps := 1000000 }) only [go_sem, Int.reduceToNat, Int.reduceLE, Int.reduceLT, Int.reduceAdd, Int.reduceSub, Int.reduceMul, Int.reduceEq, Int.reduceNe, Nat.reduceEqDiff, Nat.reducePow, Nat.reduceDiv, Nat.reduceMod, Nat.reduceAdd, Nat.reduceMul, Nat.reduceSub, Nat.reduceLT, Nat.reduceLeDiff, reduceIte, reduceCtorEq, qV, appendA_U]
    all_goals refine AApply.clo (told_spec x y e x' y' f e3 _ _ ⟨trivial, ?_⟩)
    all_goals simp (config := { maxSteps := 1000000 }) only [go_sem, Int.reduceToNat, Int.reduceLE, Int.reduceLT, Int.reduceAdd, Int.reduceSub, Int.reduceMul, Int.reduceEq, Int.reduceNe, Nat.reduceEqDiff, Nat.reducePow, Nat.reduceDiv, Nat.reduceMod, Nat.reduceAdd, Nat.reduceMul, Nat.reduceSub, Nat.reduceLT, Nat.reduceLeDiff, reduceIte, reduceCtorEq, appendA_U]
    all_goals exact FinV.drop G0_ok hcl (.lit _) hK
end Go.Proofs
set_option linter.unusedSimpArgs false
set_option maxRecDepth 100000
namespace Go.Proofs
open Go.Hx
/-! The pairs that are tried, and the law of products. -/
theorem gcd_prod {a b c d : Nat} (h1 : Nat.gcd a b = 1) (h2 : Nat.gcd c d = 1) (hb : 0 < b) (hd : 0 < d) :
    Nat.gcd (a * c) (b * d) = Nat.gcd a d * Nat.gcd c b ∧ a * c / (Nat.gcd a d * Nat.gcd c b) = a / Nat.gcd a d * (c / Nat.gcd c b) ∧ b * d / (Nat.gcd a d * Nat.gcd c b) = b / Nat.gcd c b * (d / Nat.gcd a d) := by
  have g1 : 0 < Nat.gcd a d := Nat.gcd_pos_of_pos_right _ hd
  have g2 : 0 < Nat.gcd c b := Nat.gcd_pos_of_pos_right _ hb
  obtain ⟨a', ha⟩ := Nat.gcd_dvd_left a d
  obtain ⟨d', hd'⟩ := Nat.gcd_dvd_right a d
  obtain ⟨c', hc⟩ := Nat.gcd_dvd_left c b
  obtain ⟨b', hb'⟩ := Nat.gcd_dvd_right c b
  have k1 : Nat.Coprime (a / Nat.gcd a d) (d / Nat.gcd a d) := Nat.coprime_div_gcd_div_gcd g1
  have k2 : Nat.Coprime (c / Nat.gcd c b) (b / Nat.gcd c b) := Nat.coprime_div_gcd_div_gcd g2
  generalize hp : Nat.gcd a d = p at *
  generalize hq : Nat.gcd c b = q at *
  have e1 : a / p = a' := by rw [ha]; exact Nat.mul_div_cancel_left _ g1
  have e2 : d / p = d' := by rw [hd']; exact Nat.mul_div_cancel_left _ g1
  have e3 : c / q = c' := by rw [hc]; exact Nat.mul_div_cancel_left _ g2
  have e4 : b / q = b' := by rw [hb']; exact Nat.mul_div_cancel_left _ g2
  rw [e1, e2] at k1
  rw [e3, e4] at k2
  have k3 : Nat.Coprime a' b' := Nat.Coprime.coprime_dvd_left ⟨p, by rw [ha, Nat.mul_comm]⟩ (Nat.Coprime.coprime_dvd_right ⟨q, by rw [hb', Nat.mul_comm]⟩ h1)
  have k4 : Nat.Coprime c' d' := Nat.Coprime.coprime_dvd_left ⟨q, by rw [hc, Nat.mul_comm]⟩ (Nat.Coprime.coprime_dvd_right ⟨p, by rw [hd', Nat.mul_comm]⟩ h2)
  have k5 : Nat.Coprime (a' * c') (b' * d') := Nat.Coprime.mul_left (Nat.Coprime.mul_right k3 k1) (Nat.Coprime.mul_right k2 k4)
  have x1 : a * c = p * q * (a' * c') := by rw [ha, hc]; ac_rfl
  have x2 : b * d = p * q * (b' * d') := by rw [hb', hd']; ac_rfl
  have gpq : 0 < p * q := Nat.mul_pos g1 g2
  refine ⟨?_, ?_, ?_⟩
  · rw [x1, x2, Nat.gcd_mul_left, k5, Nat.mul_one]
  · rw [x1, Nat.mul_div_cancel_left _ gpq, e1, e3]
  · rw [x2, Nat.mul_div_cancel_left _ gpq, e4, e2]
theorem checkQ_gcd {a b : Int} (h : checkQ a b = 0) : Nat.gcd a.natAbs b.natAbs = 1 := by
  unfold checkQ at h
  split at h
  · exact absurd h (by decide)
  · split at h
    · exact absurd h (by decide)
    · rename_i h2; exact Classical.not_not.1 h2
/-- The product of two fractions, in both programs. -/
theorem prod_made {a b c d : Int} (h1 : checkQ a b = 0) (h2 : checkQ c d = 0) : prodO a b c d = fitO (sgnB a c) (a.natAbs * c.natAbs / Nat.gcd (a.natAbs * c.natAbs) (b.natAbs * d.natAbs)) (b.natAbs * d.natAbs / Nat.gcd (a.natAbs * c.natAbs) (b.natAbs * d.natAbs)) := by
  obtain ⟨_, pb, _⟩ := checkQ_range h1
  obtain ⟨_, pd, _⟩ := checkQ_range h2
  obtain ⟨e1, e2, e3⟩ := gcd_prod (checkQ_gcd h1) (checkQ_gcd h2) (by omega) (by omega)
  unfold prodO
  rw [e1, e2, e3]
  rfl
theorem quot_made {a b c d : Int} (h1 : checkQ a b = 0) (h2 : checkQ c d = 0) (hc : c ≠ 0) : quotO a b c d = fitO (sgnB a c) (a.natAbs * d.natAbs / Nat.gcd (a.natAbs * d.natAbs) (b.natAbs * c.natAbs)) (b.natAbs * c.natAbs / Nat.gcd (a.natAbs * d.natAbs) (b.natAbs * c.natAbs)) := by
  obtain ⟨_, pb, _⟩ := checkQ_range h1
  obtain ⟨_, pd, _⟩ := checkQ_range h2
  have g2 : Nat.gcd d.natAbs c.natAbs = 1 := by rw [Nat.gcd_comm]; exact checkQ_gcd h2
  obtain ⟨e1, e2, e3⟩ := gcd_prod (checkQ_gcd h1) g2 (by omega) (by omega)
  have hq : quotO a b c d = fitO (sgnB a c) (a.natAbs / Nat.gcd a.natAbs c.natAbs * (d.natAbs / Nat.gcd d.natAbs b.natAbs)) (b.natAbs / Nat.gcd d.natAbs b.natAbs * (c.natAbs / Nat.gcd a.natAbs c.natAbs)) := by
    unfold quotO prodO
    by_cases h : c < 0
    · rw [if_pos h]
      have s : sgnB a (-d) = sgnB a c := by
        unfold sgnB
        rw [decide_eq_true (show -d < 0 by omega), decide_eq_true h]
      rw [s, Int.natAbs_neg, Int.natAbs_neg]
      have x1 : Int.gcd a (-c) = Nat.gcd a.natAbs c.natAbs := by simp [Int.gcd]
      have x2 : Int.gcd (-d) b = Nat.gcd d.natAbs b.natAbs := by simp [Int.gcd]
      rw [x1, x2]
    · rw [if_neg h]
      have s : sgnB a d = sgnB a c := by
        unfold sgnB
        rw [decide_eq_false (show ¬ d < 0 by omega), decide_eq_false h]
      rw [s]
      rfl
  rw [hq, e1, e2, e3]
end Go.Proofs
set_option linter.unusedSimpArgs false
set_option maxRecDepth 100000
namespace Go.Proofs
open Go.Hx
theorem madeR_form2 (neg : Bool) (N D : Nat) : ∃ x y b, madeR neg N D = .tup [qV x y, .lit (.bool b)] ∧ I64 x ∧ I64 y := by
  unfold madeR; split
  · rename_i h
    refine ⟨_, _, _, rfl, ?_, ?_⟩
    · have := h.1
      generalize N / Nat.gcd N D = p at *
      unfold I64
      split <;> omega
    · have := h.2
      generalize D / Nat.gcd N D = p at *
      unfold I64
      omega
  · exact ⟨0, 0, _, rfl, by unfold I64; omega, by unfold I64; omega⟩
theorem fz_ints {S : Nat → Prop} {H : AHeap} {nx : Nat} (l : List Int) : Fz S H nx (.agg (ints l)) (.agg (ints l)) := .agg rfl fun i hi hi' => by
  obtain ⟨v, hv⟩ : ∃ v, (ints l)[i] = .lit v := by
    obtain ⟨z, _, hz⟩ := List.mem_map.1 (List.getElem_mem hi)
    exact ⟨_, hz.symm⟩
  rw [hv]; exact .lit _
theorem four_of {l : List Int} (h : l.length = 4) : ∃ a b c d, l = [a, b, c, d] := by
  match l, h with
  | [a, b, c, d], _ => exact ⟨a, b, c, d, rfl⟩
theorem six_of {l : List Int} (h : l.length = 6) : ∃ a b c d e f, l = [a, b, c, d, e, f] := by
  match l, h with
  | [a, b, c, d, e, f], _ => exact ⟨a, b, c, d, e, f, rfl⟩
def someV (a b c d x y u v : Int) : AVal := .agg (ints [a, b, c, d, a, b, u, v, x, y, c, d, x, y, u, v])
set_option maxHeartbeats 1000000 in
theorem some_spec (a b c d n0 n1 n2 n3 : Int) (h0 : I64 n0) (h1 : I64 n1) (h2 : I64 n2) (h3 : I64 n3) (H : AHeap) (K : ARes → AHeap → Prop)
    (hK : ∀ x y u v, I64 x → I64 y → I64 u → I64 v → K (.ret (someV a b c d x y u v)) H) : ACall Tryd.prog G0 19 [qV a b, qV c d, .agg (ints [n0, n1, n2, n3])] H K := by
  refine ACall.clo ⟨_, Tryd.func19, rfl, rfl⟩ fun hcl => ?_
  have z1 : I64 (if n1 = 0 then 1 else n1) := by unfold I64 at *; split <;> omega
  have z1' : (if n1 = 0 then 1 else n1) ≠ 0 := by split <;> omega
  have z3 : I64 (if n3 = 0 then 1 else n3) := by unfold I64 at *; split <;> omega
  have z3' : (if n3 = 0 then 1 else n3) ≠ 0 := by split <;> omega
  have q1 := nonzero_spec n1
  have q3 := nonzero_spec n3
  generalize (if n1 = 0 then 1 else n1) = m1 at *
  generalize (if n3 = 0 then 1 else n3) = m3 at *
  obtain ⟨x, y, f, e1, rx, ry⟩ := madeR_form2 (sgnB n0 m1) n0.natAbs m1.natAbs
  obtain ⟨u, v, g, e2, ru, rv⟩ := madeR_form2 (sgnB n2 m3) n2.natAbs m3.natAbs
  have hk := hK x y u v rx ry ru rv
  refine ACall.of_body (n := 42) (rs := [.cell 6 37]) Tryd.func19 rfl rfl rfl (by decide) (by kernel_rfl) (by simp) ?_
  simp (config := { maxSteps := 1000000 }) only [go_sem, Int.reduceToNat, Int.reduceLE, Int.reduceLT, Int.reduceAdd, Int.reduceSub, Int.reduceMul, Int.reduceEq, Int.reduceNe, Nat.reduceEqDiff, Nat.reducePow, Nat.reduceDiv, Nat.reduceMod, Nat.reduceAdd, Nat.reduceMul, Nat.reduceSub, Nat.reduceLT, Nat.reduceLeDiff, reduceIte, reduceCtorEq, qV, ints, lin, appendA_U]
  refine W.draw 11 [0, 1, 0, 4, 12, 31, 63, 127, 127, 0, 767] Tryd.mixed (by kernel_rfl) (by kernel_rfl) ?_
  simp (config := { maxSteps := 1000000 }) only [go_sem, Int.reduceToNat, Int.reduceLE, Int.reduceLT, Int.reduceAdd, Int.reduceSub, Int.reduceMul, Int.reduceEq, Int.reduceNe, Nat.reduceEqDiff, Nat.reducePow, Nat.reduceDiv, Nat.reduceMod, Nat.reduceAdd, Nat.reduceMul, Nat.reduceSub, Nat.reduceLT, Nat.reduceLeDiff, reduceIte, reduceCtorEq, qV, appendA_U]
  refine ⟨_, [], PCall.pure fun H2 => q1 H2 _ ⟨rfl, rfl⟩, ?_⟩
  simp (config := { maxSteps := 1000000 }) only [go_sem, Int.reduceToNat, Int.reduceLE, Int.reduceLT, Int.reduceAdd, Int.reduceSub, Int.reduceMul, Int.reduceEq, Int.reduceNe, Nat.reduceEqDiff, Nat.reducePow, Nat.reduceDiv, Nat.reduceMod, Nat.reduceAdd, Nat.reduceMul, Nat.reduceSub, Nat.reduceLT, Nat.reduceLeDiff, reduceIte, reduceCtorEq, appendA_U]
  refine ⟨_, [], PCall.pure fun H2 => rMake_spec n0 m1 h0 z1 z1' H2 _ ⟨rfl, rfl⟩, ?_⟩
  rw [e1]
  simp (config := { maxSteps := 1000000 }) only [go_sem, Int.reduceToNat, Int.reduceLE, Int.reduceLT, Int.reduceAdd, Int.reduceSub, Int.reduceMul, Int.reduceEq, Int.reduceNe, Nat.reduceEqDiff, Nat.reducePow, Nat.reduceDiv, Nat.reduceMod, Nat.reduceAdd, Nat.reduceMul, Nat.reduceSub, Nat.reduceLT, Nat.reduceLeDiff, reduceIte, reduceCtorEq, qV, appendA_U]
  refine ⟨by refine ⟨?_, ?_, ?_, ?_⟩ <;> (intro x hx; omega), ?_⟩
  rw [ext_ext]
  simp only [List.cons_append, List.nil_append]
  refine W.draw 11 [0, 1, 0, 4, 12, 31, 63, 127, 127, 0, 767] Tryd.mixed (by kernel_rfl) (by kernel_rfl) ?_
  simp (config := { maxSteps := 1000000 }) only [go_sem, Int.reduceToNat, Int.reduceLE, Int.reduceLT, Int.reduceAdd, Int.reduceSub, Int.reduceMul, Int.reduceEq, Int.reduceNe, Nat.reduceEqDiff, Nat.reducePow, Nat.reduceDiv, Nat.reduceMod, Nat.reduceAdd, Nat.reduceMul, Nat.reduceSub, Nat.reduceLT, Nat.reduceLeDiff, reduceIte, reduceCtorEq, qV, appendA_U]
  refine ⟨_, [], PCall.pure fun H2 => q3 H2 _ ⟨rfl, rfl⟩, ?_⟩
  simp (config := { maxSteps := 1000000 }) only [go_sem, Int.reduceToNat, Int.reduceLE, Int.reduceLT, Int.reduceAdd, Int.reduceSub, Int.reduceMul, Int.reduceEq, Int.reduceNe, Nat.reduceEqDiff, Nat.reducePow, Nat.reduceDiv, Nat.reduceMod, Nat.reduceAdd, Nat.reduceMul, Nat.reduceSub, Nat.reduceLT, Nat.reduceLeDiff, reduceIte, reduceCtorEq, appendA_U]
  refine ⟨_, [], PCall.pure fun H2 => rMake_spec n2 m3 h2 z3 z3' H2 _ ⟨rfl, rfl⟩, ?_⟩
  rw [e2]
  simp (config := { maxSteps := 1000000 }) only [go_sem, Int.reduceToNat, Int.reduceLE, Int.reduceLT, Int.reduceAdd, Int.reduceSub, Int.reduceMul, Int.reduceEq, Int.reduceNe, Nat.reduceEqDiff, Nat.reducePow, Nat.reduceDiv, Nat.reduceMod, Nat.reduceAdd, Nat.reduceMul, Nat.reduceSub, Nat.reduceLT, Nat.reduceLeDiff, reduceIte, reduceCtorEq, qV, ext_ext, List.cons_append, List.nil_append, appendA_U]
  refine ⟨by refine ⟨?_, ?_, ?_, ?_⟩ <;> (intro x hx; omega), ?_⟩
  exact FinV.drop (v' := someV a b c d x y u v) G0_ok hcl (fz_ints [a, b, c, d, a, b, u, v, x, y, c, d, x, y, u, v]) hk
end Go.Proofs
set_option linter.unusedSimpArgs false
set_option maxRecDepth 100000
namespace Go.Proofs
open Go.Hx
theorem pair_of (a b c d x y u v : Int) (ha : I64 a) (hb : I64 b) (hc : I64 c) (hd : I64 d) (hx : I64 x) (hy : I64 y) (hu : I64 u) (hv : I64 v) (k : Nat) (hk : k < 4) :
    ∃ p q r s, I64 p ∧ I64 q ∧ I64 r ∧ I64 s ∧ ((ints [a, b, c, d, a, b, u, v, x, y, c, d, x, y, u, v]).drop (k * 4)).take 4 = [.lit (.int .i64 p), .lit (.int .i64 q), .lit (.int .i64 r), .lit (.int .i64 s)] := by
  match k, hk with
  | 0, _ => exact ⟨a, b, c, d, ha, hb, hc, hd, rfl⟩
  | 1, _ => exact ⟨a, b, u, v, ha, hb, hu, hv, rfl⟩
  | 2, _ => exact ⟨x, y, c, d, hx, hy, hc, hd, rfl⟩
  | 3, _ => exact ⟨x, y, u, v, hx, hy, hu, hv, rfl⟩
set_option maxHeartbeats 2000000 in
theorem orders_spec (a b c d n0 n1 n2 n3 : Int) (ha : I64 a) (hb : I64 b) (hc : I64 c) (hd : I64 d) (h0 : I64 n0) (h1 : I64 n1) (h2 : I64 n2) (h3 : I64 n3) (H : AHeap) (K : ARes → AHeap → Prop)
    (hK : K (.ret (.lit (.bool true))) H) : ACall Tryd.prog G0 6 [qV a b, qV c d, .agg (ints [n0, n1, n2, n3])] H K := by
  refine ACall.clo ⟨_, Tryd.func6, rfl, rfl⟩ fun hcl => ?_
  refine ACall.of_body (n := 97) (rs := [.tmp 6]) Tryd.func6 rfl rfl rfl (by decide) (by kernel_rfl) (by simp) ?_
  simp (config := { maxSteps := 1000000 }) only [go_sem, Int.reduceToNat, Int.reduceLE, Int.reduceLT, Int.reduceAdd, Int.reduceSub, Int.reduceMul, Int.reduceEq, Int.reduceNe, Nat.reduceEqDiff, Nat.reducePow, Nat.reduceDiv, Nat.reduceMod, Nat.reduceAdd, Nat.reduceMul, Nat.reduceSub, Nat.reduceLT, Nat.reduceLeDiff, reduceIte, reduceCtorEq, qV, appendA_U]
  refine AApply.clo (works_ok _ _ ⟨trivial, ?_⟩)
  simp (config := { maxSteps := 1000000 }) only [go_sem, Int.reduceToNat, Int.reduceLE, Int.reduceLT, Int.reduceAdd, Int.reduceSub, Int.reduceMul, Int.reduceEq, Int.reduceNe, Nat.reduceEqDiff, Nat.reducePow, Nat.reduceDiv, Nat.reduceMod, Nat.reduceAdd, Nat.reduceMul, Nat.reduceSub, Nat.reduceLT, Nat.reduceLeDiff, reduceIte, reduceCtorEq, qV, ints, lin, appendA_U]
  refine AApply.clo (some_spec a b c d n0 n1 n2 n3 h0 h1 h2 h3 _ _ fun x y u v hx hy hu hv => ⟨trivial, ?_⟩)
  unfold someV
  have hp := pair_of a b c d x y u v ha hb hc hd hx hy hu hv
  obtain ⟨S, hS⟩ : ∃ S, S = ints [a, b, c, d, a, b, u, v, x, y, c, d, x, y, u, v] := ⟨_, rfl⟩
  have Sl : S.length = 16 := by rw [hS]; rfl
  rw [← hS] at hp ⊢
  simp (config := { maxSteps := 1000000 }) only [go_sem, Int.reduceToNat, Int.reduceLE, Int.reduceLT, Int.reduceAdd, Int.reduceSub, Int.reduceMul, Int.reduceEq, Int.reduceNe, Nat.reduceEqDiff, Nat.reducePow, Nat.reduceDiv, Nat.reduceMod, Nat.reduceAdd, Nat.reduceMul, Nat.reduceSub, Nat.reduceLT, Nat.reduceLeDiff, reduceIte, reduceCtorEq, appendA_U]
  obtain ⟨H1, hH1⟩ : ∃ H1, H1 = ext H [.arr 0 23 [.lit (.int .i64 a), .lit (.int .i64 b)], .arr 0 23 [.lit (.int .i64 c), .lit (.int .i64 d)], .arr 0 35 [.lit (.int .i64 n0), .lit (.int .i64 n1), .lit (.int .i64 n2), .lit (.int .i64 n3)]] := ⟨_, rfl⟩
  have ov1 : Over H H1 := by rw [hH1]; exact .ext _ _
  rw [← hH1]
  refine W.env fun E hE => ?_
  have e19 : E 19 = .agg S := by rw [hE]; rfl
  have e20 : E 20 = lin 0 := by rw [hE]; rfl
  clear hE hH1
  refine W.loop0 158456325028528675187086868288 (by rfl) (fun ρ H' => ∃ k : Nat, ρ 20 = lin k ∧ k ≤ 4 ∧ Over H1 H') (fun ρ H => 4 - (iv (ρ 20)).toNat) ?_ ?_
  · simp (config := { maxSteps := 1000000 }) only [go_sem, Int.reduceToNat, Int.reduceLE, Int.reduceLT, Int.reduceAdd, Int.reduceSub, Int.reduceMul, Int.reduceEq, Int.reduceNe, Nat.reduceEqDiff, Nat.reducePow, Nat.reduceDiv, Nat.reduceMod, Nat.reduceAdd, Nat.reduceMul, Nat.reduceSub, Nat.reduceLT, Nat.reduceLeDiff, reduceIte, reduceCtorEq, e20, appendA_U]
    exact ⟨0, rfl, by omega, .refl _⟩
  rintro ρ H' ⟨k, h20, hk, ov⟩
  refine vc_sound _ _ _ (by rfl) ?_
  by_cases hk4 : k = 4
  · have z1 : ¬ (k : Int) < 4 := by omega
    simp (config := { maxSteps := 1000000 }) only [go_sem, Int.reduceToNat, Int.reduceLE, Int.reduceLT, Int.reduceAdd, Int.reduceSub, Int.reduceMul, Int.reduceEq, Int.reduceNe, Nat.reduceEqDiff, Nat.reducePow, Nat.reduceDiv, Nat.reduceMod, Nat.reduceAdd, Nat.reduceMul, Nat.reduceSub, Nat.reduceLT, Nat.reduceLeDiff, reduceIte, reduceCtorEq, h20, z1, appendA_U]
    exact FinV.dropO G0_ok hcl (ov1.trans ov) (.lit _) hK
  have z1 : (k : Int) < 4 := by omega
  obtain ⟨p, q, r, s, hp, hq, hr, hs, hpair⟩ := hp k (by omega)
  have w1 := IntWalk.i64_in ((k : Int) + 1) (by omega)
  have ov2 : Over H1 (ext H' [.arr 0 36 [.lit (.int .i64 p), .lit (.int .i64 q), .lit (.int .i64 r), .lit (.int .i64 s)]]) := ov.trans (.ext _ _)
  simp (config := { maxSteps := 1000000 }) only [go_sem, Int.reduceToNat, Int.reduceLE, Int.reduceLT, Int.reduceAdd, Int.reduceSub, Int.reduceMul, Int.reduceEq, Int.reduceNe, Nat.reduceEqDiff, Nat.reducePow, Nat.reduceDiv, Nat.reduceMod, Nat.reduceAdd, Nat.reduceMul, Nat.reduceSub, Nat.reduceLT, Nat.reduceLeDiff, reduceIte, reduceCtorEq, h20, z1, e19, Sl, hpair, appendA_U]
  refine ⟨by omega, ?_⟩
  refine AApply.clo (Cmp_spec p q r s ⟨hp, hq⟩ ⟨hr, hs⟩ _ _ ⟨trivial, ?_⟩)
  have c1 := checkQ_cases p q
  have c2 := checkQ_cases r s
  unfold cmpV
  rcases c1 with c1 | c1
  · have g1 := checkQ_range c1
    have d1 : decide (checkQ p q = 0) = true := by rw [c1]; rfl
    rcases c2 with c2 | c2
    · have g2 := checkQ_range c2
      have d2 : decide (checkQ r s = 0) = true := by rw [c2]; rfl
      rw [if_pos ⟨c1, c2⟩]
      simp (config := { maxSteps := 1000000 }) only [go_sem, Int.reduceToNat, Int.reduceLE, Int.reduceLT, Int.reduceAdd, Int.reduceSub, Int.reduceMul, Int.reduceEq, Int.reduceNe, Nat.reduceEqDiff, Nat.reducePow, Nat.reduceDiv, Nat.reduceMod, Nat.reduceAdd, Nat.reduceMul, Nat.reduceSub, Nat.reduceLT, Nat.reduceLeDiff, reduceIte, reduceCtorEq, h20, appendA_U]
      refine AApply.clo (Floor_spec p q hp hq _ _ ⟨trivial, ?_⟩)
      unfold floorV
      rw [if_pos c1]
      simp (config := { maxSteps := 1000000 }) only [go_sem, Int.reduceToNat, Int.reduceLE, Int.reduceLT, Int.reduceAdd, Int.reduceSub, Int.reduceMul, Int.reduceEq, Int.reduceNe, Nat.reduceEqDiff, Nat.reducePow, Nat.reduceDiv, Nat.reduceMod, Nat.reduceAdd, Nat.reduceMul, Nat.reduceSub, Nat.reduceLT, Nat.reduceLeDiff, reduceIte, reduceCtorEq, h20, appendA_U]
      refine AApply.clo (Right_spec p q hp hq _ _ ⟨trivial, ?_⟩)
      rw [d1]
      simp (config := { maxSteps := 1000000 }) only [go_sem, Int.reduceToNat, Int.reduceLE, Int.reduceLT, Int.reduceAdd, Int.reduceSub, Int.reduceMul, Int.reduceEq, Int.reduceNe, Nat.reduceEqDiff, Nat.reducePow, Nat.reduceDiv, Nat.reduceMod, Nat.reduceAdd, Nat.reduceMul, Nat.reduceSub, Nat.reduceLT, Nat.reduceLeDiff, reduceIte, reduceCtorEq, h20, guardA_undef, w1, appendA_U]
      refine AApply.clo (rFloor_spec p q g1.1 g1.2.1 _ _ ⟨trivial, ?_⟩)
      simp (config := { maxSteps := 1000000 }) only [go_sem, Int.reduceToNat, Int.reduceLE, Int.reduceLT, Int.reduceAdd, Int.reduceSub, Int.reduceMul, Int.reduceEq, Int.reduceNe, Nat.reduceEqDiff, Nat.reducePow, Nat.reduceDiv, Nat.reduceMod, Nat.reduceAdd, Nat.reduceMul, Nat.reduceSub, Nat.reduceLT, Nat.reduceLeDiff, reduceIte, reduceCtorEq, h20, guardA_undef, w1, appendA_U]
      refine AApply.clo (Right_spec r s hr hs _ _ ⟨trivial, ?_⟩)
      rw [d2]
      simp (config := { maxSteps := 1000000 }) only [go_sem, Int.reduceToNat, Int.reduceLE, Int.reduceLT, Int.reduceAdd, Int.reduceSub, Int.reduceMul, Int.reduceEq, Int.reduceNe, Nat.reduceEqDiff, Nat.reducePow, Nat.reduceDiv, Nat.reduceMod, Nat.reduceAdd, Nat.reduceMul, Nat.reduceSub, Nat.reduceLT, Nat.reduceLeDiff, reduceIte, reduceCtorEq, h20, guardA_undef, w1, appendA_U]
      refine AApply.clo (rCmp_spec p q r s hp hq hr hs g1.2.1.1 g2.2.1.1 _ _ ⟨trivial, ?_⟩)
      simp (config := { maxSteps := 1000000 }) only [go_sem, Int.reduceToNat, Int.reduceLE, Int.reduceLT, Int.reduceAdd, Int.reduceSub, Int.reduceMul, Int.reduceEq, Int.reduceNe, Nat.reduceEqDiff, Nat.reducePow, Nat.reduceDiv, Nat.reduceMod, Nat.reduceAdd, Nat.reduceMul, Nat.reduceSub, Nat.reduceLT, Nat.reduceLeDiff, reduceIte, reduceCtorEq, h20, guardA_undef, w1, appendA_U]
      exact ⟨ov2.next, ⟨k + 1, by simp, by omega, ov2⟩, by omega⟩
    · have d2 : decide (checkQ r s = 0) = false := by rw [c2]; rfl
      rw [if_neg (by rw [c2]; omega)]
      simp (config := { maxSteps := 1000000 }) only [go_sem, Int.reduceToNat, Int.reduceLE, Int.reduceLT, Int.reduceAdd, Int.reduceSub, Int.reduceMul, Int.reduceEq, Int.reduceNe, Nat.reduceEqDiff, Nat.reducePow, Nat.reduceDiv, Nat.reduceMod, Nat.reduceAdd, Nat.reduceMul, Nat.reduceSub, Nat.reduceLT, Nat.reduceLeDiff, reduceIte, reduceCtorEq, h20, appendA_U]
      refine AApply.clo (Floor_spec p q hp hq _ _ ⟨trivial, ?_⟩)
      unfold floorV
      rw [if_pos c1]
      simp (config := { maxSteps := 1000000 }) only [go_sem, Int.reduceToNat, Int.reduceLE, Int.reduceLT, Int.reduceAdd, Int.reduceSub, Int.reduceMul, Int.reduceEq, Int.reduceNe, Nat.reduceEqDiff, Nat.reducePow, Nat.reduceDiv, Nat.reduceMod, Nat.reduceAdd, Nat.reduceMul, Nat.reduceSub, Nat.reduceLT, Nat.reduceLeDiff, reduceIte, reduceCtorEq, h20, appendA_U]
      refine AApply.clo (Right_spec p q hp hq _ _ ⟨trivial, ?_⟩)
      rw [d1]
      simp (config := { maxSteps := 1000000 }) only [go_sem, Int.reduceToNat, Int.reduceLE, Int.reduceLT, Int.reduceAdd, Int.reduceSub, Int.reduceMul, Int.reduceEq, Int.reduceNe, Nat.reduceEqDiff, Nat.reducePow, Nat.reduceDiv, Nat.reduceMod, Nat.reduceAdd, Nat.reduceMul, Nat.reduceSub, Nat.reduceLT, Nat.reduceLeDiff, reduceIte, reduceCtorEq, h20, guardA_undef, w1, appendA_U]
      refine AApply.clo (rFloor_spec p q g1.1 g1.2.1 _ _ ⟨trivial, ?_⟩)
      simp (config := { maxSteps := 1000000 }) only [go_sem, Int.reduceToNat, Int.reduceLE, Int.reduceLT, Int.reduceAdd, Int.reduceSub, Int.reduceMul, Int.reduceEq, Int.reduceNe, Nat.reduceEqDiff, Nat.reducePow, Nat.reduceDiv, Nat.reduceMod, Nat.reduceAdd, Nat.reduceMul, Nat.reduceSub, Nat.reduceLT, Nat.reduceLeDiff, reduceIte, reduceCtorEq, h20, guardA_undef, w1, appendA_U]
      refine AApply.clo (Right_spec r s hr hs _ _ ⟨trivial, ?_⟩)
      rw [d2]
      simp (config := { maxSteps := 1000000 }) only [go_sem, Int.reduceToNat, Int.reduceLE, Int.reduceLT, Int.reduceAdd, Int.reduceSub, Int.reduceMul, Int.reduceEq, Int.reduceNe, Nat.reduceEqDiff, Nat.reducePow, Nat.reduceDiv, Nat.reduceMod, Nat.reduceAdd, Nat.reduceMul, Nat.reduceSub, Nat.reduceLT, Nat.reduceLeDiff, reduceIte, reduceCtorEq, h20, guardA_undef, w1, appendA_U]
      exact ⟨ov2.next, ⟨k + 1, by simp, by omega, ov2⟩, by omega⟩
  · have d1 : decide (checkQ p q = 0) = false := by rw [c1]; rfl
    · rw [if_neg (by rw [c1]; omega)]
      simp (config := { maxSteps := 1000000 }) only [go_sem, Int.reduceToNat, Int.reduceLE, Int.reduceLT, Int.reduceAdd, Int.reduceSub, Int.reduceMul, Int.reduceEq, Int.reduceNe, Nat.reduceEqDiff, Nat.reducePow, Nat.reduceDiv, Nat.reduceMod, Nat.reduceAdd, Nat.reduceMul, Nat.reduceSub, Nat.reduceLT, Nat.reduceLeDiff, reduceIte, reduceCtorEq, h20, appendA_U]
      refine AApply.clo (Floor_spec p q hp hq _ _ ⟨trivial, ?_⟩)
      unfold floorV
      rw [if_neg (by rw [c1]; omega)]
      simp (config := { maxSteps := 1000000 }) only [go_sem, Int.reduceToNat, Int.reduceLE, Int.reduceLT, Int.reduceAdd, Int.reduceSub, Int.reduceMul, Int.reduceEq, Int.reduceNe, Nat.reduceEqDiff, Nat.reducePow, Nat.reduceDiv, Nat.reduceMod, Nat.reduceAdd, Nat.reduceMul, Nat.reduceSub, Nat.reduceLT, Nat.reduceLeDiff, reduceIte, reduceCtorEq, h20, appendA_U]
      refine AApply.clo (Right_spec p q hp hq _ _ ⟨trivial, ?_⟩)
      rw [d1]
      simp (config := { maxSteps := 1000000 }) only [go_sem, Int.reduceToNat, Int.reduceLE, Int.reduceLT, Int.reduceAdd, Int.reduceSub, Int.reduceMul, Int.reduceEq, Int.reduceNe, Nat.reduceEqDiff, Nat.reducePow, Nat.reduceDiv, Nat.reduceMod, Nat.reduceAdd, Nat.reduceMul, Nat.reduceSub, Nat.reduceLT, Nat.reduceLeDiff, reduceIte, reduceCtorEq, h20, guardA_undef, w1, appendA_U]
      exact ⟨ov2.next, ⟨k + 1, by simp, by omega, ov2⟩, by omega⟩
end Go.Proofs
set_option linter.unusedSimpArgs false
set_option maxRecDepth 100000
namespace Go.Proofs
open Go.Hx
set_option maxHeartbeats 2000000 in
theorem products_spec (a b c d n0 n1 n2 n3 : Int) (ha : I64 a) (hb : I64 b) (hc : I64 c) (hd : I64 d) (h0 : I64 n0) (h1 : I64 n1) (h2 : I64 n2) (h3 : I64 n3) (H : AHeap) (K : ARes → AHeap → Prop)
    (hK : K (.ret (.lit (.bool true))) H) : ACall Tryd.prog G0 5 [qV a b, qV c d, .agg (ints [n0, n1, n2, n3])] H K := by
  refine ACall.clo ⟨_, Tryd.func5, rfl, rfl⟩ fun hcl => ?_
  refine ACall.of_body (n := 98) (rs := [.tmp 6]) Tryd.func5 rfl rfl rfl (by decide) (by kernel_rfl) (by simp) ?_
  simp (config := { maxSteps := 1000000 }) only [go_sem, Int.reduceToNat, Int.reduceLE, Int.reduceLT, Int.reduceAdd, Int.reduceSub, Int.reduceMul, Int.reduceEq, Int.reduceNe, Nat.reduceEqDiff, Nat.reducePow, Nat.reduceDiv, Nat.reduceMod, Nat.reduceAdd, Nat.reduceMul, Nat.reduceSub, Nat.reduceLT, Nat.reduceLeDiff, reduceIte, reduceCtorEq, qV, appendA_U]
  refine AApply.clo (works_ok _ _ ⟨trivial, ?_⟩)
  simp (config := { maxSteps := 1000000 }) only [go_sem, Int.reduceToNat, Int.reduceLE, Int.reduceLT, Int.reduceAdd, Int.reduceSub, Int.reduceMul, Int.reduceEq, Int.reduceNe, Nat.reduceEqDiff, Nat.reducePow, Nat.reduceDiv, Nat.reduceMod, Nat.reduceAdd, Nat.reduceMul, Nat.reduceSub, Nat.reduceLT, Nat.reduceLeDiff, reduceIte, reduceCtorEq, qV, ints, lin, appendA_U]
  refine AApply.clo (some_spec a b c d n0 n1 n2 n3 h0 h1 h2 h3 _ _ fun x y u v hx hy hu hv => ⟨trivial, ?_⟩)
  unfold someV
  have hp := pair_of a b c d x y u v ha hb hc hd hx hy hu hv
  obtain ⟨S, hS⟩ : ∃ S, S = ints [a, b, c, d, a, b, u, v, x, y, c, d, x, y, u, v] := ⟨_, rfl⟩
  have Sl : S.length = 16 := by rw [hS]; rfl
  rw [← hS] at hp ⊢
  simp (config := { maxSteps := 1000000 }) only [go_sem, Int.reduceToNat, Int.reduceLE, Int.reduceLT, Int.reduceAdd, Int.reduceSub, Int.reduceMul, Int.reduceEq, Int.reduceNe, Nat.reduceEqDiff, Nat.reducePow, Nat.reduceDiv, Nat.reduceMod, Nat.reduceAdd, Nat.reduceMul, Nat.reduceSub, Nat.reduceLT, Nat.reduceLeDiff, reduceIte, reduceCtorEq, appendA_U]
  obtain ⟨H1, hH1⟩ : ∃ H1, H1 = ext H [.arr 0 23 [.lit (.int .i64 a), .lit (.int .i64 b)], .arr 0 23 [.lit (.int .i64 c), .lit (.int .i64 d)], .arr 0 35 [.lit (.int .i64 n0), .lit (.int .i64 n1), .lit (.int .i64 n2), .lit (.int .i64 n3)]] := ⟨_, rfl⟩
  have ov1 : Over H H1 := by rw [hH1]; exact .ext _ _
  rw [← hH1]
  refine W.env fun E hE => ?_
  have e21 : E 21 = .agg S := by rw [hE]; rfl
  have e22 : E 22 = lin 0 := by rw [hE]; rfl
  clear hE hH1
  refine W.loop0 316912650057057350374171672384 (by rfl) (fun ρ H' => ∃ k : Nat, ρ 22 = lin k ∧ k ≤ 4 ∧ Over H1 H') (fun ρ H => 4 - (iv (ρ 22)).toNat) ?_ ?_
  · simp (config := { maxSteps := 1000000 }) only [go_sem, Int.reduceToNat, Int.reduceLE, Int.reduceLT, Int.reduceAdd, Int.reduceSub, Int.reduceMul, Int.reduceEq, Int.reduceNe, Nat.reduceEqDiff, Nat.reducePow, Nat.reduceDiv, Nat.reduceMod, Nat.reduceAdd, Nat.reduceMul, Nat.reduceSub, Nat.reduceLT, Nat.reduceLeDiff, reduceIte, reduceCtorEq, e22, appendA_U]
    exact ⟨0, rfl, by omega, .refl _⟩
  rintro ρ H' ⟨k, h22, hk, ov⟩
  refine vc_sound _ _ _ (by rfl) ?_
  by_cases hk4 : k = 4
  · have z1 : ¬ (k : Int) < 4 := by omega
    simp (config := { maxSteps := 1000000 }) only [go_sem, Int.reduceToNat, Int.reduceLE, Int.reduceLT, Int.reduceAdd, Int.reduceSub, Int.reduceMul, Int.reduceEq, Int.reduceNe, Nat.reduceEqDiff, Nat.reducePow, Nat.reduceDiv, Nat.reduceMod, Nat.reduceAdd, Nat.reduceMul, Nat.reduceSub, Nat.reduceLT, Nat.reduceLeDiff, reduceIte, reduceCtorEq, h22, z1, appendA_U]
    exact FinV.dropO G0_ok hcl (ov1.trans ov) (.lit _) hK
  have z1 : (k : Int) < 4 := by omega
  obtain ⟨p, q, r, s, hp, hq, hr, hs, hpair⟩ := hp k (by omega)
  have w1 := IntWalk.i64_in ((k : Int) + 1) (by omega)
  simp (config := { maxSteps := 1000000 }) only [go_sem, Int.reduceToNat, Int.reduceLE, Int.reduceLT, Int.reduceAdd, Int.reduceSub, Int.reduceMul, Int.reduceEq, Int.reduceNe, Nat.reduceEqDiff, Nat.reducePow, Nat.reduceDiv, Nat.reduceMod, Nat.reduceAdd, Nat.reduceMul, Nat.reduceSub, Nat.reduceLT, Nat.reduceLeDiff, reduceIte, reduceCtorEq, h22, z1, e21, Sl, hpair, appendA_U]
  refine ⟨by omega, ?_⟩
  refine AApply.clo (mul_spec p q r s ⟨hp, hq⟩ ⟨hr, hs⟩ _ _ ⟨trivial, ?_⟩)
  have ov2 : ∀ L, Over H1 (ext H' L) := fun L => ov.trans (.ext _ _)
  have c1 := checkQ_cases p q
  have c2 := checkQ_cases r s
  unfold bothR
  by_cases both : checkQ p q = 0 ∧ checkQ r s = 0
  rotate_left
  · rw [if_neg both]
    simp (config := { maxSteps := 1000000 }) only [go_sem, Int.reduceToNat, Int.reduceLE, Int.reduceLT, Int.reduceAdd, Int.reduceSub, Int.reduceMul, Int.reduceEq, Int.reduceNe, Nat.reduceEqDiff, Nat.reducePow, Nat.reduceDiv, Nat.reduceMod, Nat.reduceAdd, Nat.reduceMul, Nat.reduceSub, Nat.reduceLT, Nat.reduceLeDiff, reduceIte, reduceCtorEq, h22, qV, appendA_U]
    refine AApply.clo (div_spec p q r s ⟨hp, hq⟩ ⟨hr, hs⟩ _ _ ⟨trivial, ?_⟩)
    unfold divR bothR
    rw [if_neg (fun h => both ⟨h.1, h.2.1⟩), if_neg both]
    simp (config := { maxSteps := 1000000 }) only [go_sem, Int.reduceToNat, Int.reduceLE, Int.reduceLT, Int.reduceAdd, Int.reduceSub, Int.reduceMul, Int.reduceEq, Int.reduceNe, Nat.reduceEqDiff, Nat.reducePow, Nat.reduceDiv, Nat.reduceMod, Nat.reduceAdd, Nat.reduceMul, Nat.reduceSub, Nat.reduceLT, Nat.reduceLeDiff, reduceIte, reduceCtorEq, h22, qV, appendA_U]
    rcases c1 with c1 | c1
    · rcases c2 with c2 | c2
      · exact absurd ⟨c1, c2⟩ both
      have d1 : decide (checkQ p q = 0) = true := by rw [c1]; rfl
      have d2 : decide (checkQ r s = 0) = false := by rw [c2]; rfl
      refine AApply.clo (Right_spec p q hp hq _ _ ⟨trivial, ?_⟩)
      rw [d1]
      simp (config := { maxSteps := 1000000 }) only [go_sem, Int.reduceToNat, Int.reduceLE, Int.reduceLT, Int.reduceAdd, Int.reduceSub, Int.reduceMul, Int.reduceEq, Int.reduceNe, Nat.reduceEqDiff, Nat.reducePow, Nat.reduceDiv, Nat.reduceMod, Nat.reduceAdd, Nat.reduceMul, Nat.reduceSub, Nat.reduceLT, Nat.reduceLeDiff, reduceIte, reduceCtorEq, h22, qV, guardA_undef, appendA_U]
      refine AApply.clo (Right_spec r s hr hs _ _ ⟨trivial, ?_⟩)
      rw [d2]
      simp (config := { maxSteps := 1000000 }) only [go_sem, Int.reduceToNat, Int.reduceLE, Int.reduceLT, Int.reduceAdd, Int.reduceSub, Int.reduceMul, Int.reduceEq, Int.reduceNe, Nat.reduceEqDiff, Nat.reducePow, Nat.reduceDiv, Nat.reduceMod, Nat.reduceAdd, Nat.reduceMul, Nat.reduceSub, Nat.reduceLT, Nat.reduceLeDiff, reduceIte, reduceCtorEq, h22, qV, guardA_undef, appendA_U]
      refine AApply.clo (failed_spec 0 0 5 5 _ _ ⟨trivial, ?_⟩)
      simp (config := { maxSteps := 1000000 }) only [go_sem, Int.reduceToNat, Int.reduceLE, Int.reduceLT, Int.reduceAdd, Int.reduceSub, Int.reduceMul, Int.reduceEq, Int.reduceNe, Nat.reduceEqDiff, Nat.reducePow, Nat.reduceDiv, Nat.reduceMod, Nat.reduceAdd, Nat.reduceMul, Nat.reduceSub, Nat.reduceLT, Nat.reduceLeDiff, reduceIte, reduceCtorEq, h22, qV, guardA_undef, appendA_U]
      refine AApply.clo (failed_spec 0 0 5 5 _ _ ⟨trivial, ?_⟩)
      simp (config := { maxSteps := 1000000 }) only [go_sem, Int.reduceToNat, Int.reduceLE, Int.reduceLT, Int.reduceAdd, Int.reduceSub, Int.reduceMul, Int.reduceEq, Int.reduceNe, Nat.reduceEqDiff, Nat.reducePow, Nat.reduceDiv, Nat.reduceMod, Nat.reduceAdd, Nat.reduceMul, Nat.reduceSub, Nat.reduceLT, Nat.reduceLeDiff, reduceIte, reduceCtorEq, h22, qV, guardA_undef, w1, appendA_U]
      exact ⟨Nat.le_trans ov.next (by omega), ⟨k + 1, by simp, by omega, ov2 _⟩, by omega⟩
    · have d1 : decide (checkQ p q = 0) = false := by rw [c1]; rfl
      refine AApply.clo (Right_spec p q hp hq _ _ ⟨trivial, ?_⟩)
      rw [d1]
      simp (config := { maxSteps := 1000000 }) only [go_sem, Int.reduceToNat, Int.reduceLE, Int.reduceLT, Int.reduceAdd, Int.reduceSub, Int.reduceMul, Int.reduceEq, Int.reduceNe, Nat.reduceEqDiff, Nat.reducePow, Nat.reduceDiv, Nat.reduceMod, Nat.reduceAdd, Nat.reduceMul, Nat.reduceSub, Nat.reduceLT, Nat.reduceLeDiff, reduceIte, reduceCtorEq, h22, qV, guardA_undef, appendA_U]
      refine AApply.clo (failed_spec 0 0 5 5 _ _ ⟨trivial, ?_⟩)
      simp (config := { maxSteps := 1000000 }) only [go_sem, Int.reduceToNat, Int.reduceLE, Int.reduceLT, Int.reduceAdd, Int.reduceSub, Int.reduceMul, Int.reduceEq, Int.reduceNe, Nat.reduceEqDiff, Nat.reducePow, Nat.reduceDiv, Nat.reduceMod, Nat.reduceAdd, Nat.reduceMul, Nat.reduceSub, Nat.reduceLT, Nat.reduceLeDiff, reduceIte, reduceCtorEq, h22, qV, guardA_undef, appendA_U]
      refine AApply.clo (failed_spec 0 0 5 5 _ _ ⟨trivial, ?_⟩)
      simp (config := { maxSteps := 1000000 }) only [go_sem, Int.reduceToNat, Int.reduceLE, Int.reduceLT, Int.reduceAdd, Int.reduceSub, Int.reduceMul, Int.reduceEq, Int.reduceNe, Nat.reduceEqDiff, Nat.reducePow, Nat.reduceDiv, Nat.reduceMod, Nat.reduceAdd, Nat.reduceMul, Nat.reduceSub, Nat.reduceLT, Nat.reduceLeDiff, reduceIte, reduceCtorEq, h22, qV, guardA_undef, w1, appendA_U]
      exact ⟨Nat.le_trans ov.next (by omega), ⟨k + 1, by simp, by omega, ov2 _⟩, by omega⟩
  have d1 : decide (checkQ p q = 0) = true := by rw [both.1]; rfl
  have d2 : decide (checkQ r s = 0) = true := by rw [both.2]; rfl
  obtain ⟨_, rq, _⟩ := checkQ_range both.1
  obtain ⟨_, rs, _⟩ := checkQ_range both.2
  rw [if_pos both, prod_made both.1 both.2]
  obtain ⟨x1, y1, e1, f1, k1, x2, y2, k2, k3⟩ := fit_made (sgnB p r) (p.natAbs * r.natAbs) (q.natAbs * s.natAbs)
  rw [k1]
  simp (config := { maxSteps := 1000000 }) only [go_sem, Int.reduceToNat, Int.reduceLE, Int.reduceLT, Int.reduceAdd, Int.reduceSub, Int.reduceMul, Int.reduceEq, Int.reduceNe, Nat.reduceEqDiff, Nat.reducePow, Nat.reduceDiv, Nat.reduceMod, Nat.reduceAdd, Nat.reduceMul, Nat.reduceSub, Nat.reduceLT, Nat.reduceLeDiff, reduceIte, reduceCtorEq, h22, qV, appendA_U]
  refine AApply.clo (div_spec p q r s ⟨hp, hq⟩ ⟨hr, hs⟩ _ _ ⟨trivial, ?_⟩)
  by_cases hr0 : r = 0
  · unfold divR
    rw [if_pos ⟨both.1, both.2, hr0⟩]
    simp (config := { maxSteps := 1000000 }) only [go_sem, Int.reduceToNat, Int.reduceLE, Int.reduceLT, Int.reduceAdd, Int.reduceSub, Int.reduceMul, Int.reduceEq, Int.reduceNe, Nat.reduceEqDiff, Nat.reducePow, Nat.reduceDiv, Nat.reduceMod, Nat.reduceAdd, Nat.reduceMul, Nat.reduceSub, Nat.reduceLT, Nat.reduceLeDiff, reduceIte, reduceCtorEq, h22, qV, appendA_U]
    refine AApply.clo (Right_spec p q hp hq _ _ ⟨trivial, ?_⟩)
    rw [d1]
    simp (config := { maxSteps := 1000000 }) only [go_sem, Int.reduceToNat, Int.reduceLE, Int.reduceLT, Int.reduceAdd, Int.reduceSub, Int.reduceMul, Int.reduceEq, Int.reduceNe, Nat.reduceEqDiff, Nat.reducePow, Nat.reduceDiv, Nat.reduceMod, Nat.reduceAdd, Nat.reduceMul, Nat.reduceSub, Nat.reduceLT, Nat.reduceLeDiff, reduceIte, reduceCtorEq, h22, qV, guardA_undef, appendA_U]
    refine AApply.clo (Right_spec r s hr hs _ _ ⟨trivial, ?_⟩)
    rw [d2]
    simp (config := { maxSteps := 1000000 }) only [go_sem, Int.reduceToNat, Int.reduceLE, Int.reduceLT, Int.reduceAdd, Int.reduceSub, Int.reduceMul, Int.reduceEq, Int.reduceNe, Nat.reduceEqDiff, Nat.reducePow, Nat.reduceDiv, Nat.reduceMod, Nat.reduceAdd, Nat.reduceMul, Nat.reduceSub, Nat.reduceLT, Nat.reduceLeDiff, reduceIte, reduceCtorEq, h22, qV, guardA_undef, appendA_U]
    refine AApply.clo (rMul_spec p q r s hp hq hr hs (by omega) (by omega) _ _ ⟨trivial, ?_⟩)
    rw [k2]
    simp (config := { maxSteps := 1000000 }) only [go_sem, Int.reduceToNat, Int.reduceLE, Int.reduceLT, Int.reduceAdd, Int.reduceSub, Int.reduceMul, Int.reduceEq, Int.reduceNe, Nat.reduceEqDiff, Nat.reducePow, Nat.reduceDiv, Nat.reduceMod, Nat.reduceAdd, Nat.reduceMul, Nat.reduceSub, Nat.reduceLT, Nat.reduceLeDiff, reduceIte, reduceCtorEq, h22, qV, guardA_undef, appendA_U]
    refine AApply.clo (told_spec x1 y1 e1 x2 y2 f1 k3 _ _ ⟨trivial, ?_⟩)
    simp (config := { maxSteps := 1000000 }) only [go_sem, Int.reduceToNat, Int.reduceLE, Int.reduceLT, Int.reduceAdd, Int.reduceSub, Int.reduceMul, Int.reduceEq, Int.reduceNe, Nat.reduceEqDiff, Nat.reducePow, Nat.reduceDiv, Nat.reduceMod, Nat.reduceAdd, Nat.reduceMul, Nat.reduceSub, Nat.reduceLT, Nat.reduceLeDiff, reduceIte, reduceCtorEq, h22, qV, guardA_undef, hr0, appendA_U]
    refine AApply.clo (failed_spec 0 0 2 2 _ _ ⟨trivial, ?_⟩)
    simp (config := { maxSteps := 1000000 }) only [go_sem, Int.reduceToNat, Int.reduceLE, Int.reduceLT, Int.reduceAdd, Int.reduceSub, Int.reduceMul, Int.reduceEq, Int.reduceNe, Nat.reduceEqDiff, Nat.reducePow, Nat.reduceDiv, Nat.reduceMod, Nat.reduceAdd, Nat.reduceMul, Nat.reduceSub, Nat.reduceLT, Nat.reduceLeDiff, reduceIte, reduceCtorEq, h22, qV, guardA_undef, w1, appendA_U]
    exact ⟨Nat.le_trans ov.next (by omega), ⟨k + 1, by simp, by omega, ov2 _⟩, by omega⟩
  · unfold divR
    rw [if_neg (fun h => hr0 h.2.2)]
    unfold bothR
    rw [if_pos both, quot_made both.1 both.2 hr0]
    obtain ⟨x3, y3, e3, f3, k4, x4, y4, k5, k6⟩ := fit_made (sgnB p r) (p.natAbs * s.natAbs) (q.natAbs * r.natAbs)
    rw [k4]
    simp (config := { maxSteps := 1000000 }) only [go_sem, Int.reduceToNat, Int.reduceLE, Int.reduceLT, Int.reduceAdd, Int.reduceSub, Int.reduceMul, Int.reduceEq, Int.reduceNe, Nat.reduceEqDiff, Nat.reducePow, Nat.reduceDiv, Nat.reduceMod, Nat.reduceAdd, Nat.reduceMul, Nat.reduceSub, Nat.reduceLT, Nat.reduceLeDiff, reduceIte, reduceCtorEq, h22, qV, appendA_U]
    refine AApply.clo (Right_spec p q hp hq _ _ ⟨trivial, ?_⟩)
    rw [d1]
    simp (config := { maxSteps := 1000000 }) only [go_sem, Int.reduceToNat, Int.reduceLE, Int.reduceLT, Int.reduceAdd, Int.reduceSub, Int.reduceMul, Int.reduceEq, Int.reduceNe, Nat.reduceEqDiff, Nat.reducePow, Nat.reduceDiv, Nat.reduceMod, Nat.reduceAdd, Nat.reduceMul, Nat.reduceSub, Nat.reduceLT, Nat.reduceLeDiff, reduceIte, reduceCtorEq, h22, qV, guardA_undef, appendA_U]
    refine AApply.clo (Right_spec r s hr hs _ _ ⟨trivial, ?_⟩)
    rw [d2]
    simp (config := { maxSteps := 1000000 }) only [go_sem, Int.reduceToNat, Int.reduceLE, Int.reduceLT, Int.reduceAdd, Int.reduceSub, Int.reduceMul, Int.reduceEq, Int.reduceNe, Nat.reduceEqDiff, Nat.reducePow, Nat.reduceDiv, Nat.reduceMod, Nat.reduceAdd, Nat.reduceMul, Nat.reduceSub, Nat.reduceLT, Nat.reduceLeDiff, reduceIte, reduceCtorEq, h22, qV, guardA_undef, appendA_U]
    refine AApply.clo (rMul_spec p q r s hp hq hr hs (by omega) (by omega) _ _ ⟨trivial, ?_⟩)
    rw [k2]
    simp (config := { maxSteps := 1000000 }) only [go_sem, Int.reduceToNat, Int.reduceLE, Int.reduceLT, Int.reduceAdd, Int.reduceSub, Int.reduceMul, Int.reduceEq, Int.reduceNe, Nat.reduceEqDiff, Nat.reducePow, Nat.reduceDiv, Nat.reduceMod, Nat.reduceAdd, Nat.reduceMul, Nat.reduceSub, Nat.reduceLT, Nat.reduceLeDiff, reduceIte, reduceCtorEq, h22, qV, guardA_undef, appendA_U]
    refine AApply.clo (told_spec x1 y1 e1 x2 y2 f1 k3 _ _ ⟨trivial, ?_⟩)
    simp (config := { maxSteps := 1000000 }) only [go_sem, Int.reduceToNat, Int.reduceLE, Int.reduceLT, Int.reduceAdd, Int.reduceSub, Int.reduceMul, Int.reduceEq, Int.reduceNe, Nat.reduceEqDiff, Nat.reducePow, Nat.reduceDiv, Nat.reduceMod, Nat.reduceAdd, Nat.reduceMul, Nat.reduceSub, Nat.reduceLT, Nat.reduceLeDiff, reduceIte, reduceCtorEq, h22, qV, guardA_undef, hr0, appendA_U]
    refine AApply.clo (rDiv_spec p q r s hp hq hr hs (by omega) hr0 _ _ ⟨trivial, ?_⟩)
    rw [k5]
    simp (config := { maxSteps := 1000000 }) only [go_sem, Int.reduceToNat, Int.reduceLE, Int.reduceLT, Int.reduceAdd, Int.reduceSub, Int.reduceMul, Int.reduceEq, Int.reduceNe, Nat.reduceEqDiff, Nat.reducePow, Nat.reduceDiv, Nat.reduceMod, Nat.reduceAdd, Nat.reduceMul, Nat.reduceSub, Nat.reduceLT, Nat.reduceLeDiff, reduceIte, reduceCtorEq, h22, qV, guardA_undef, appendA_U]
    refine AApply.clo (told_spec x3 y3 e3 x4 y4 f3 k6 _ _ ⟨trivial, ?_⟩)
    simp (config := { maxSteps := 1000000 }) only [go_sem, Int.reduceToNat, Int.reduceLE, Int.reduceLT, Int.reduceAdd, Int.reduceSub, Int.reduceMul, Int.reduceEq, Int.reduceNe, Nat.reduceEqDiff, Nat.reducePow, Nat.reduceDiv, Nat.reduceMod, Nat.reduceAdd, Nat.reduceMul, Nat.reduceSub, Nat.reduceLT, Nat.reduceLeDiff, reduceIte, reduceCtorEq, h22, qV, guardA_undef, w1, appendA_U]
    exact ⟨Nat.le_trans ov.next (by omega), ⟨k + 1, by simp, by omega, ov2 _⟩, by omega⟩
end Go.Proofs
