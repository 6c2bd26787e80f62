/- Own work: contracts. -/
import Derived.Test.YtemcnpldpoglmaaDoorConC
set_option linter.all false
set_option linter.unusedSimpArgs false
set_option maxRecDepth 100000
namespace Go.Proofs
open Go.Hx
/-! What the laws have in common, and FracMakes. -/
theorem eqlQ23 {o1 o2 : Operand} (a b c d : Int) : binA Tryd.prog .eql 23 o1 o2 (.agg [.lit (.int .i64 a), .lit (.int .i64 b)]) (.agg [.lit (.int .i64 c), .lit (.int .i64 d)]) = some (.lit (.bool (a == c && b == d))) := eqlQ a b c d
/-- The result is the empty one, with the error that is wanted. -/
theorem failed_spec (a b e w : Int) (H : AHeap) (K : ARes → AHeap → Prop) (hK : K (.ret (.lit (.bool (decide (a = 0 ∧ b = 0 ∧ e = w))))) H) : ACall Tryd.prog G0 16 [qV a b, .lit (.int .i64 e), .lit (.int .i64 w)] H K := by
  refine ACall.clo ⟨_, Tryd.func16, rfl, rfl⟩ fun hcl => ?_
  refine ACall.of_body (n := 15) (rs := [.tmp 6]) Tryd.func16 rfl rfl rfl (by decide) (by kernel_rfl) (by simp) ?_
  by_cases h1 : a = 0 ∧ b = 0
  · have e1 : (a == 0 && b == 0) = true := by simp [h1.1, h1.2]
    by_cases h2 : e = w
    · rw [decide_eq_true ⟨h1.1, h1.2, h2⟩] at hK
      simp (config := { maxSteps := 1000000 }) only [go_sem, Int.reduceToNat, Int.reduceLE, Int.reduceLT, Int.reduceAdd, Int.reduceSub, Int.reduceMul, Int.reduceEq, Int.reduceNe, Nat.reduceEqDiff, Nat.reducePow, Nat.reduceDiv, Nat.reduceMod, Nat.reduceAdd, Nat.reduceMul, Nat.reduceSub, Nat.reduceLT, Nat.reduceLeDiff, reduceIte, reduceCtorEq, qV, eqlQ23, e1, h2, appendA_U]
      exact FinV.drop G0_ok hcl (.lit _) hK
    · rw [decide_eq_false (fun h => h2 h.2.2)] at hK
      simp (config := { maxSteps := 1000000 }) only [go_sem, Int.reduceToNat, Int.reduceLE, Int.reduceLT, Int.reduceAdd, Int.reduceSub, Int.reduceMul, Int.reduceEq, Int.reduceNe, Nat.reduceEqDiff, Nat.reducePow, Nat.reduceDiv, Nat.reduceMod, Nat.reduceAdd, Nat.reduceMul, Nat.reduceSub, Nat.reduceLT, Nat.reduceLeDiff, reduceIte, reduceCtorEq, qV, eqlQ23, e1, h2, appendA_U]
      exact FinV.drop G0_ok hcl (.lit _) hK
  · have e1 : (a == 0 && b == 0) = false := by
      by_cases h : a = 0
      · have : ¬ b = 0 := fun h' => h1 ⟨h, h'⟩
        simp [this]
      · simp [h]
    rw [decide_eq_false (fun h => h1 ⟨h.1, h.2.1⟩)] at hK
    simp (config := { maxSteps := 1000000 }) only [go_sem, Int.reduceToNat, Int.reduceLE, Int.reduceLT, Int.reduceAdd, Int.reduceSub, Int.reduceMul, Int.reduceEq, Int.reduceNe, Nat.reduceEqDiff, Nat.reducePow, Nat.reduceDiv, Nat.reduceMod, Nat.reduceAdd, Nat.reduceMul, Nat.reduceSub, Nat.reduceLT, Nat.reduceLeDiff, reduceIte, reduceCtorEq, qV, eqlQ23, e1, appendA_U]
    exact FinV.drop G0_ok hcl (.lit _) hK
/-- The result is what the reference has. -/
theorem told_spec (a b e c d : Int) (fits : Bool) (h : (fits = true ∧ a = c ∧ b = d ∧ e = 0) ∨ (fits = false ∧ a = 0 ∧ b = 0 ∧ e = 6)) (H : AHeap) (K : ARes → AHeap → Prop) (hK : K (.ret (.lit (.bool true))) H) :
    ACall Tryd.prog G0 18 [qV a b, .lit (.int .i64 e), qV c d, .lit (.bool fits)] H K := by
  refine ACall.clo ⟨_, Tryd.func18, rfl, rfl⟩ fun hcl => ?_
  refine ACall.of_body (n := 25) (rs := [.tmp 8]) Tryd.func18 rfl rfl rfl (by decide) (by kernel_rfl) (by simp) ?_
  rcases h with ⟨rfl, rfl, rfl, rfl⟩ | ⟨rfl, rfl, rfl, rfl⟩
  · have e1 : (a == a && b == b) = true := by simp
    simp (config := { maxSteps := 1000000 }) only [go_sem, Int.reduceToNat, Int.reduceLE, Int.reduceLT, Int.reduceAdd, Int.reduceSub, Int.reduceMul, Int.reduceEq, Int.reduceNe, Nat.reduceEqDiff, Nat.reducePow, Nat.reduceDiv, Nat.reduceMod, Nat.reduceAdd, Nat.reduceMul, Nat.reduceSub, Nat.reduceLT, Nat.reduceLeDiff, reduceIte, reduceCtorEq, qV, eqlQ23, e1, appendA_U]
    exact FinV.drop G0_ok hcl (.lit _) hK
  · have e1 : ((0 : Int) == 0 && (0 : Int) == 0) = true := by decide
    simp (config := { maxSteps := 1000000 }) only [go_sem, Int.reduceToNat, Int.reduceLE, Int.reduceLT, Int.reduceAdd, Int.reduceSub, Int.reduceMul, Int.reduceEq, Int.reduceNe, Nat.reduceEqDiff, Nat.reducePow, Nat.reduceDiv, Nat.reduceMod, Nat.reduceAdd, Nat.reduceMul, Nat.reduceSub, Nat.reduceLT, Nat.reduceLeDiff, reduceIte, reduceCtorEq, qV, eqlQ23, e1, appendA_U]
    exact FinV.drop G0_ok hcl (.lit _) hK
theorem nonzero_spec (n : Int) (H : AHeap) (K : ARes → AHeap → Prop) (hK : K (.ret (.lit (.int .i64 (if n = 0 then 1 else n)))) H) : ACall Tryd.prog G0 32 [.lit (.int .i64 n)] H K := by
  refine ACall.clo ⟨_, Tryd.func32, rfl, rfl⟩ fun hcl => ?_
  refine ACall.of_body (n := 6) (rs := [.tmp 2]) Tryd.func32 rfl rfl rfl (by decide) (by kernel_rfl) (by simp) ?_
  by_cases h : n = 0
  · rw [if_pos h] at hK
    simp (config := { maxSteps := 1000000 }) only [go_sem, Int.reduceToNat, Int.reduceLE, Int.reduceLT, Int.reduceAdd, Int.reduceSub, Int.reduceMul, Int.reduceEq, Int.reduceNe, Nat.reduceEqDiff, Nat.reducePow, Nat.reduceDiv, Nat.reduceMod, Nat.reduceAdd, Nat.reduceMul, Nat.reduceSub, Nat.reduceLT, Nat.reduceLeDiff, reduceIte, reduceCtorEq, h, appendA_U]
    exact FinV.dropO G0_ok hcl (.refl _) (.lit _) hK
  · rw [if_neg h] at hK
    simp (config := { maxSteps := 1000000 }) only [go_sem, Int.reduceToNat, Int.reduceLE, Int.reduceLT, Int.reduceAdd, Int.reduceSub, Int.reduceMul, Int.reduceEq, Int.reduceNe, Nat.reduceEqDiff, Nat.reducePow, Nat.reduceDiv, Nat.reduceMod, Nat.reduceAdd, Nat.reduceMul, Nat.reduceSub, Nat.reduceLT, Nat.reduceLeDiff, reduceIte, reduceCtorEq, h, appendA_U]
    exact FinV.dropO G0_ok hcl (.refl _) (.lit _) hK
/-- What both programs make of the same number. -/
theorem fit_made (neg : Bool) (N D : Nat) : ∃ x y e f, gdOut gdQ (fitO neg (N / Nat.gcd N D) (D / Nat.gcd N D)) = .tup [qV x y, .lit (.int .i64 e)] ∧ ∃ x' y', madeR neg N D = .tup [qV x' y', .lit (.bool f)] ∧ ((f = true ∧ x = x' ∧ y = y' ∧ e = 0) ∨ (f = false ∧ x = 0 ∧ y = 0 ∧ e = 6)) := by
  unfold fitO madeR
  by_cases h : N / Nat.gcd N D ≤ 4611686018427387903 ∧ D / Nat.gcd N D ≤ 4611686018427387903
  · rw [if_pos h, if_pos h]
    exact ⟨_, _, _, _, rfl, _, _, rfl, .inl ⟨rfl, rfl, rfl, rfl⟩⟩
  · rw [if_neg h, if_neg h]
    exact ⟨0, 0, 6, _, rfl, _, _, rfl, .inr ⟨rfl, rfl, rfl, rfl⟩⟩
theorem checkQ_cases (a b : Int) : checkQ a b = 0 ∨ checkQ a b = 5 := by
  unfold checkQ
  split
  · exact .inr rfl
  · split
    · exact .inr rfl
    · exact .inl rfl
set_option maxHeartbeats 1000000 in
theorem makes_spec (a b n d : Int) (ha : I64 a) (hb : I64 b) (hn : I64 n) (hd : I64 d) (H : AHeap) (K : ARes → AHeap → Prop) (hK : K (.ret (.lit (.bool true))) H) : ACall Tryd.prog G0 3 [qV a b, .lit (.int .i64 n), .lit (.int .i64 d)] H K := by
  refine ACall.clo ⟨_, Tryd.func3, rfl, rfl⟩ fun hcl => ?_
  refine ACall.of_body (n := 51) (rs := [.tmp 6]) Tryd.func3 rfl rfl rfl (by decide) (by kernel_rfl) (by simp) ?_
  simp (config := { maxSteps := 1000000 }) only [go_sem, Int.reduceToNat, Int.reduceLE, Int.reduceLT, Int.reduceAdd, Int.reduceSub, Int.reduceMul, Int.reduceEq, Int.reduceNe, Nat.reduceEqDiff, Nat.reducePow, Nat.reduceDiv, Nat.reduceMod, Nat.reduceAdd, Nat.reduceMul, Nat.reduceSub, Nat.reduceLT, Nat.reduceLeDiff, reduceIte, reduceCtorEq, qV, appendA_U]
  refine AApply.clo (works_ok _ _ ⟨trivial, ?_⟩)
  simp (config := { maxSteps := 1000000 }) only [go_sem, Int.reduceToNat, Int.reduceLE, Int.reduceLT, Int.reduceAdd, Int.reduceSub, Int.reduceMul, Int.reduceEq, Int.reduceNe, Nat.reduceEqDiff, Nat.reducePow, Nat.reduceDiv, Nat.reduceMod, Nat.reduceAdd, Nat.reduceMul, Nat.reduceSub, Nat.reduceLT, Nat.reduceLeDiff, reduceIte, reduceCtorEq, qV, appendA_U]
  refine AApply.clo (fcheck_spec a b ha hb _ _ ⟨trivial, ?_⟩)
  simp (config := { maxSteps := 1000000 }) only [go_sem, Int.reduceToNat, Int.reduceLE, Int.reduceLT, Int.reduceAdd, Int.reduceSub, Int.reduceMul, Int.reduceEq, Int.reduceNe, Nat.reduceEqDiff, Nat.reducePow, Nat.reduceDiv, Nat.reduceMod, Nat.reduceAdd, Nat.reduceMul, Nat.reduceSub, Nat.reduceLT, Nat.reduceLeDiff, reduceIte, reduceCtorEq, qV, appendA_U]
  refine AApply.clo (Right_spec a b ha hb _ _ ⟨trivial, ?_⟩)
  obtain ⟨ck, hck⟩ : ∃ ck, ck = checkQ a b := ⟨_, rfl⟩
  have c2 := checkQ_cases a b
  rw [← hck] at c2 ⊢
  by_cases hd0 : d = 0
  · rcases c2 with h0 | h0
    all_goals rw [h0]
    all_goals simp (config := { maxSteps := 1000000 }) only [go_sem, Int.reduceToNat, Int.reduceLE, Int.reduceLT, Int.reduceAdd, Int.reduceSub, Int.reduceMul, Int.reduceEq, Int.reduceNe, Nat.reduceEqDiff, Nat.reducePow, Nat.reduceDiv, Nat.reduceMod, Nat.reduceAdd, Nat.reduceMul, Nat.reduceSub, Nat.reduceLT, Nat.reduceLeDiff, reduceIte, reduceCtorEq, bin_neq_bool Tryd.underlying4, qV, appendA_U]
    all_goals refine AApply.clo (make_spec n d hn hd _ _ ⟨trivial, ?_⟩)
    all_goals unfold makeR
    all_goals rw [if_pos hd0]
    all_goals simp (config := { maxSteps := 1000000 }) only [go_sem, Int.reduceToNat, Int.reduceLE, Int.reduceLT, Int.reduceAdd, Int.reduceSub, Int.reduceMul, Int.reduceEq, Int.reduceNe, Nat.reduceEqDiff, Nat.reducePow, Nat.reduceDiv, Nat.reduceMod, Nat.reduceAdd, Nat.reduceMul, Nat.reduceSub, Nat.reduceLT, Nat.reduceLeDiff, reduceIte, reduceCtorEq, hd0, qV, appendA_U]
    all_goals refine AApply.clo (failed_spec 0 0 2 2 _ _ ⟨trivial, ?_⟩)
    all_goals simp (config := { maxSteps := 1000000 }) only [go_sem, Int.reduceToNat, Int.reduceLE, Int.reduceLT, Int.reduceAdd, Int.reduceSub, Int.reduceMul, Int.reduceEq, Int.reduceNe, Nat.reduceEqDiff, Nat.reducePow, Nat.reduceDiv, Nat.reduceMod, Nat.reduceAdd, Nat.reduceMul, Nat.reduceSub, Nat.reduceLT, Nat.reduceLeDiff, reduceIte, reduceCtorEq, appendA_U]
    all_goals exact FinV.drop G0_ok hcl (.lit _) hK
  · obtain ⟨x, y, e, f, e1, x', y', e2, e3⟩ := fit_made (sgnB n d) n.natAbs d.natAbs
    have eg : Int.gcd n d = n.natAbs.gcd d.natAbs := rfl
    rcases c2 with h0 | h0
    all_goals rw [h0]
    all_goals simp (config := { maxSteps := 1000000 }) only [go_sem, Int.reduceToNat, Int.reduceLE, Int.reduceLT, Int.reduceAdd, Int.reduceSub, Int.reduceMul, Int.reduceEq, Int.reduceNe, Nat.reduceEqDiff, Nat.reducePow, Nat.reduceDiv, Nat.reduceMod, Nat.reduceAdd, Nat.reduceMul, Nat.reduceSub, Nat.reduceLT, Nat.reduceLeDiff, reduceIte, reduceCtorEq, bin_neq_bool Tryd.underlying4, qV, appendA_U]
    all_goals refine AApply.clo (make_spec n d hn hd _ _ ⟨trivial, ?_⟩)
    all_goals unfold makeR makeO
    all_goals rw [if_neg hd0, eg, e1]
    all_goals simp (config := { maxSteps := 1000000 }) only [go_sem, Int.reduceToNat, Int.reduceLE, Int.reduceLT, Int.reduceAdd, Int.reduceSub, Int.reduceMul, Int.reduceEq, Int.reduceNe, Nat.reduceEqDiff, Nat.reducePow, Nat.reduceDiv, Nat.reduceMod, Nat.reduceAdd, Nat.reduceMul, Nat.reduceSub, Nat.reduceLT, Nat.reduceLeDiff, reduceIte, reduceCtorEq, hd0, qV, appendA_U]
    all_goals refine AApply.clo (rMake_spec n d hn hd hd0 _ _ ⟨trivial, ?_⟩)
    all_goals rw [e2]
    all_goals simp (config := { maxSteps := 1000000 }) only [go_sem, Int.reduceToNat, Int.reduceLE, Int.reduceLT, Int.reduceAdd, Int.reduceSub, Int.reduceMul, Int.reduceEq, Int.reduceNe, Nat.reduceEqDiff, Nat.reducePow, Nat.reduceDiv, Nat.reduceMod, Nat.reduceAdd, Nat.reduceMul, Nat.reduceSub, Nat.reduceLT, Nat.reduceLeDiff, reduceIte, reduceCtorEq, qV, appendA_U]
    all_goals refine AApply.clo (told_spec x y e x' y' f e3 _ _ ⟨trivial, ?_⟩)
    all_goals simp (config := { maxSteps := 1000000 }) only [go_sem, Int.reduceToNat, Int.reduceLE, Int.reduceLT, Int.reduceAdd, Int.reduceSub, Int.reduceMul, Int.reduceEq, Int.reduceNe, Nat.reduceEqDiff, Nat.reducePow, Nat.reduceDiv, Nat.reduceMod, Nat.reduceAdd, Nat.reduceMul, Nat.reduceSub, Nat.reduceLT, Nat.reduceLeDiff, reduceIte, reduceCtorEq, appendA_U]
    all_goals exact FinV.drop G0_ok hcl (.lit _) hK
end Go.Proofs
