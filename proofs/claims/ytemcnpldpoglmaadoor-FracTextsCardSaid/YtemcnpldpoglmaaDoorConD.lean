/- Own work: contracts. -/
import Derived.Test.YtemcnpldpoglmaaDoorConC
set_option linter.all false
set_option linter.unusedSimpArgs false
set_option maxRecDepth 100000
namespace Go.Proofs
open Go.Hx
theorem eqlQ23 {o1 o2 : Operand} (a b c d : Int) : binA Tryd.prog .eql 23 o1 o2 (.agg [.lit (.int .i64 a), .lit (.int .i64 b)]) (.agg [.lit (.int .i64 c), .lit (.int .i64 d)]) = some (.lit (.bool (a == c && b == d))) := eqlQ a b c d
/-- The result is the empty one, with the error that is wanted. -/
theorem failed_spec (a b e w : Int) (H : AHeap) (K : ARes → AHeap → Prop) (hK : K (.ret (.lit (.bool (decide (a = 0 ∧ b = 0 ∧ e = w))))) H) : ACall Tryd.prog G0 16 [qV a b, .lit (.int .i64 e), .lit (.int .i64 w)] H K := by
  refine ACall.clo ⟨_, Tryd.func16, rfl, rfl⟩ fun hcl => ?_
  refine ACall.of_body (n := 15) (rs := [.tmp 6]) Tryd.func16 rfl rfl rfl (by decide) (by kernel_rfl) (by simp) ?_
  by_cases h1 : a = 0 ∧ b = 0
  · have e1 : (a == 0 && b == 0) = true := by simp [h1.1, h1.2]
    by_cases h2 : e = w
    · rw [decide_eq_true ⟨h1.1, h1.2, h2⟩] at hK
      simp (config := { maxSteps := 1000000 }) only [go_sem, Int.reduceToNat, Int.reduceLE, Int.reduceLT, Int.reduceAdd, Int.reduceSub, Int.reduceMul, Int.reduceEq, Int.reduceNe, Nat.reduceEqDiff, Nat.reducePow, Nat.reduceDiv, Nat.reduceMod, Nat.reduceAdd, Nat.reduceMul, Nat.reduceSub, Nat.reduceLT, Nat.reduceLeDiff, reduceIte, reduceCtorEq, qV, eqlQ23, e1, h2, appendA_U]
      exact FinV.drop G0_ok hcl (.lit _) hK
    · rw [decide_eq_false (fun h => h2 h.2.2)] at hK
      simp (config := { maxSteps := 1000000 }) only [go_sem, Int.reduceToNat, Int.reduceLE, Int.reduceLT, Int.reduceAdd, Int.reduceSub, Int.reduceMul, Int.reduceEq, Int.reduceNe, Nat.reduceEqDiff, Nat.reducePow, Nat.reduceDiv, Nat.reduceMod, Nat.reduceAdd, Nat.reduceMul, Nat.reduceSub, Nat.reduceLT, Nat.reduceLeDiff, reduceIte, reduceCtorEq, qV, eqlQ23, e1, h2, appendA_U]
      exact FinV.drop G0_ok hcl (.lit _) hK
  · have e1 : (a == 0 && b == 0) = false := by
      by_cases h : a = 0
      · have : ¬ b = 0 := fun h' => h1 ⟨h, h'⟩
        simp [this]
      · simp [h]
    rw [decide_eq_false (fun h => h1 ⟨h.1, h.2.1⟩)] at hK
    simp (config := { maxSteps := 1000000 }) only [go_sem, Int.reduceToNat, Int.reduceLE, Int.reduceLT, Int.reduceAdd, Int.reduceSub, Int.reduceMul, Int.reduceEq, Int.reduceNe, Nat.reduceEqDiff, Nat.reducePow, Nat.reduceDiv, Nat.reduceMod, Nat.reduceAdd, Nat.reduceMul, Nat.reduceSub, Nat.reduceLT, Nat.reduceLeDiff, reduceIte, reduceCtorEq, qV, eqlQ23, e1, appendA_U]
    exact FinV.drop G0_ok hcl (.lit _) hK
theorem nonzero_spec (n : Int) (H : AHeap) (K : ARes → AHeap → Prop) (hK : K (.ret (.lit (.int .i64 (if n = 0 then 1 else n)))) H) : ACall Tryd.prog G0 32 [.lit (.int .i64 n)] H K := by
  refine ACall.clo ⟨_, Tryd.func32, rfl, rfl⟩ fun hcl => ?_
  refine ACall.of_body (n := 6) (rs := [.tmp 2]) Tryd.func32 rfl rfl rfl (by decide) (by kernel_rfl) (by simp) ?_
  by_cases h : n = 0
  · rw [if_pos h] at hK
    simp (config := { maxSteps := 1000000 }) only [go_sem, Int.reduceToNat, Int.reduceLE, Int.reduceLT, Int.reduceAdd, Int.reduceSub, Int.reduceMul, Int.reduceEq, Int.reduceNe, Nat.reduceEqDiff, Nat.reducePow, Nat.reduceDiv, Nat.reduceMod, Nat.reduceAdd, Nat.reduceMul, Nat.reduceSub, Nat.reduceLT, Nat.reduceLeDiff, reduceIte, reduceCtorEq, h, appendA_U]
    exact FinV.dropO G0_ok hcl (.refl _) (.lit _) hK
  · rw [if_neg h] at hK
    simp (config := { maxSteps := 1000000 }) only [go_sem, Int.reduceToNat, Int.reduceLE, Int.reduceLT, Int.reduceAdd, Int.reduceSub, Int.reduceMul, Int.reduceEq, Int.reduceNe, Nat.reduceEqDiff, Nat.reducePow, Nat.reduceDiv, Nat.reduceMod, Nat.reduceAdd, Nat.reduceMul, Nat.reduceSub, Nat.reduceLT, Nat.reduceLeDiff, reduceIte, reduceCtorEq, h, appendA_U]
    exact FinV.dropO G0_ok hcl (.refl _) (.lit _) hK
theorem checkQ_cases (a b : Int) : checkQ a b = 0 ∨ checkQ a b = 5 := by
  unfold checkQ
  split
  · exact .inr rfl
  · split
    · exact .inr rfl
    · exact .inl rfl
end Go.Proofs
set_option linter.unusedSimpArgs false
set_option maxRecDepth 100000
namespace Go.Proofs
open Go.Hx
end Go.Proofs
set_option linter.unusedSimpArgs false
set_option maxRecDepth 100000
namespace Go.Proofs
open Go.Hx
theorem madeR_form2 (neg : Bool) (N D : Nat) : ∃ x y b, madeR neg N D = .tup [qV x y, .lit (.bool b)] ∧ I64 x ∧ I64 y := by
  unfold madeR; split
  · rename_i h
    refine ⟨_, _, _, rfl, ?_, ?_⟩
    · have := h.1
      generalize N / Nat.gcd N D = p at *
      unfold I64
      split <;> omega
    · have := h.2
      generalize D / Nat.gcd N D = p at *
      unfold I64
      omega
  · exact ⟨0, 0, _, rfl, by unfold I64; omega, by unfold I64; omega⟩
theorem four_of {l : List Int} (h : l.length = 4) : ∃ a b c d, l = [a, b, c, d] := by
  match l, h with
  | [a, b, c, d], _ => exact ⟨a, b, c, d, rfl⟩
def someV (a b c d x y u v : Int) : AVal := .agg (ints [a, b, c, d, a, b, u, v, x, y, c, d, x, y, u, v])
end Go.Proofs
set_option linter.unusedSimpArgs false
set_option maxRecDepth 100000
namespace Go.Proofs
open Go.Hx
end Go.Proofs
set_option linter.unusedSimpArgs false
set_option maxRecDepth 100000
namespace Go.Proofs
open Go.Hx
end Go.Proofs
