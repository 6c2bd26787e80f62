/- Own work: contracts. -/
import Derived.Test.YthdoogcgeioahaaDoorConC
import Derived.WalkKit
import Derived.OwnWalk
import Derived.Lib.Walk
import Derived.Lib.SliceRun
import Derived.Lib.AppendZerosOnto
set_option linter.all false
set_option linter.unusedSimpArgs false
namespace Go.Hx
variable {P : Program} {t : TypeId} {x y : Operand} {k k' : IntKind} {a b : Int}
theorem wrapU64 (n : Int) : IntKind.u64.wrap n = n % 18446744073709551616 := by simp [IntKind.wrap, IntKind.bits, IntKind.signed]
theorem bin_shr (hb : 0 ≤ b) : binA P .shr t x y (.lit (.int k a)) (.lit (.int k' b)) = some (.lit (.int k (a.fdiv (2 ^ (min b.toNat k.bits))))) := by
  have h : ¬ b < 0 := by omega
  simp [binA, AVal.toVal, eqGuard, binOp, Op.shift, h, pureRun, bind, Sem.bind, pure]
theorem bin_and : binA P .and t x y (.lit (.int k a)) (.lit (.int k b)) = some (.lit (.int k (k.wrap ((BitVec.ofInt k.bits a &&& BitVec.ofInt k.bits b).toNat : Nat)))) := by
  simp [binA, AVal.toVal, eqGuard, binOp, Op.intBits, pureRun, bind, Sem.bind, pure]
theorem land_mask (w : Nat) {a : Nat} {n : Nat} (ha : a < 2 ^ w) (hn : n ≤ w) (hw : 0 < w) : ((BitVec.ofInt w (a : Int) &&& BitVec.ofInt w ((2 ^ n - 1 : Nat) : Int)).toNat) = a % 2 ^ n := by
  have h1 : (2 : Nat) ^ n ≤ 2 ^ w := Nat.pow_le_pow_right (by decide) hn
  have h0 : 0 < (2 : Nat) ^ n := Nat.two_pow_pos n
  have e1 : (BitVec.ofInt w (a : Int)).toNat = a := by rw [BitVec.ofInt_natCast, BitVec.toNat_ofNat, Nat.mod_eq_of_lt ha]
  have e2 : (BitVec.ofInt w ((2 ^ n - 1 : Nat) : Int)).toNat = 2 ^ n - 1 := by rw [BitVec.ofInt_natCast, BitVec.toNat_ofNat, Nat.mod_eq_of_lt (by omega)]
  rw [BitVec.toNat_and, e1, e2, Nat.and_two_pow_sub_one_eq_mod]
/-- A number's low half. -/
theorem and_low (h : 0 ≤ a ∧ a < 18446744073709551616) : binA P .and t x y (.lit (.int .u64 a)) (.lit (.int .u64 4294967295)) = some (.lit (.int .u64 (a % 4294967296))) := by
  obtain ⟨n, rfl⟩ := Int.eq_ofNat_of_zero_le h.1
  rw [bin_and]
  have := land_mask 64 (a := n) (n := 32) (by omega) (by decide) (by decide)
  have e : (BitVec.ofInt (IntKind.bits .u64) (n : Int) &&& BitVec.ofInt (IntKind.bits .u64) 4294967295).toNat = n % 4294967296 := this
  rw [e, IntWalk.u64_in _ (by omega)]
  simp
theorem shr32 (h : 0 ≤ a ∧ a < 18446744073709551616) : binA P .shr t x y (.lit (.int .u64 a)) (.lit (.int k' 32)) = some (.lit (.int .u64 (a / 4294967296))) := by
  rw [bin_shr (by decide)]
  have e : a.fdiv (2 ^ (min (32 : Int).toNat (IntKind.bits .u64))) = a / 4294967296 := Int.fdiv_eq_ediv_of_nonneg a (by decide)
  rw [e]
theorem pureRun_bind {α β : Type} {s : Sem α} {f : α → Sem β} {a : α} (h : pureRun P s = some a) : pureRun P (s >>= f) = pureRun P (f a) := by
  induction s with
  | pure b => simp only [pureRun, Option.some.injEq] at h; subst h; rfl
  | program k ih => exact ih P h
  | mark m k ih => exact ih h
  | _ => simp [pureRun] at h
theorem equalIn_bool {t : TypeId} {a b : Bool} (n : Nat) (ht : P.underlying t = some .bool) : pureRun P (Op.equalIn (n + 1) t (.bool a) (.bool b)) = some (a == b) := by
  unfold Op.equalIn
  simp [underlying, program, ht, pureRun, bind, Sem.bind, pure]
theorem bin_eql_bool {t : TypeId} {x y : Operand} {a b : Bool} (ht : P.underlying t = some .bool) : binA P .eql t x y (.lit (.bool a)) (.lit (.bool b)) = some (.lit (.bool (a == b))) := by
  have h1 : (do eqGuard .eql t x y (.bool a) (.bool b); binOp .eql t (.bool a) (.bool b)) = (Op.equalIn (9999 + 1) t (.bool a) (.bool b) >>= fun r => pure (Value.bool r)) := rfl
  show (pureRun P _).map _ = _
  rw [h1, pureRun_bind (equalIn_bool 9999 ht)]
  rfl
theorem bin_neq_bool {t : TypeId} {x y : Operand} {a b : Bool} (ht : P.underlying t = some .bool) : binA P .neq t x y (.lit (.bool a)) (.lit (.bool b)) = some (.lit (.bool (!(a == b)))) := by
  have h1 : (do eqGuard .neq t x y (.bool a) (.bool b); binOp .neq t (.bool a) (.bool b)) = (Op.equalIn (9999 + 1) t (.bool a) (.bool b) >>= fun r => pure (Value.bool (!r))) := rfl
  show (pureRun P _).map _ = _
  rw [h1, pureRun_bind (equalIn_bool 9999 ht)]
  rfl
end Go.Hx
set_option maxRecDepth 100000
namespace Go.Proofs
open Go.Hx
theorem guardA_undef (w : Bool) : guardA w (some (.lit undef)) = some false := rfl

theorem size_spec (n : Int) (hn : -9223372036854775808 ≤ n ∧ n ≤ 9223372036854775807) (H : AHeap) (K : ARes → AHeap → Prop) (hK : K (.ret (.lit (.int .u64 (n.natAbs : Int)))) H) : ACall Tryd.prog G0 56 [.lit (.int .i64 n)] H K := by
  refine ACall.of_body (n := 10) (rs := [.tmp 2]) Tryd.func56 rfl rfl rfl (by decide) (by kernel_rfl) (by simp) ?_
  by_cases h : n < 0
  · have w1 : IntKind.u64.wrap n = n + 18446744073709551616 := by rw [wrapU64]; omega
    have w2 : IntKind.u64.wrap (0 - (n + 18446744073709551616)) = (n.natAbs : Int) := by rw [wrapU64]; omega
    simp (config := { maxSteps := 1000000 }) only [go_sem, Int.reduceToNat, Int.reduceLE, Int.reduceLT, Int.reduceAdd, Int.reduceSub, Int.reduceMul, Int.reduceEq, Int.reduceNe, Nat.reduceEqDiff, Nat.reducePow, Nat.reduceDiv, Nat.reduceMod, Nat.reduceAdd, Nat.reduceMul, Nat.reduceSub, Nat.reduceLT, Nat.reduceLeDiff, reduceIte, reduceCtorEq, h, w1, w2, appendA_U]
    exact FinV.mk (Nat.le_refl _) hK
  · have w1 : IntKind.u64.wrap n = (n.natAbs : Int) := by rw [wrapU64]; omega
    simp (config := { maxSteps := 1000000 }) only [go_sem, Int.reduceToNat, Int.reduceLE, Int.reduceLT, Int.reduceAdd, Int.reduceSub, Int.reduceMul, Int.reduceEq, Int.reduceNe, Nat.reduceEqDiff, Nat.reducePow, Nat.reduceDiv, Nat.reduceMod, Nat.reduceAdd, Nat.reduceMul, Nat.reduceSub, Nat.reduceLT, Nat.reduceLeDiff, reduceIte, reduceCtorEq, h, w1, appendA_U]
    exact FinV.mk (Nat.le_refl _) hK

theorem common_spec (a b : Int) (ha : 0 ≤ a) (hb : 0 ≤ b) (H : AHeap) (K : ARes → AHeap → Prop) (hK : K (.ret (.lit (.int .u64 (Int.gcd a b : Int)))) H) : ACall Tryd.prog G0 55 [.lit (.int .u64 a), .lit (.int .u64 b)] H K := by
  refine ACall.of_body (n := 12) (rs := [.tmp 4]) Tryd.func55 rfl rfl rfl (by decide) (by kernel_rfl) (by simp) ?_
  simp (config := { maxSteps := 1000000 }) only [go_sem, Int.reduceToNat, Int.reduceLE, Int.reduceLT, Int.reduceAdd, Int.reduceSub, Int.reduceMul, Int.reduceEq, Int.reduceNe, Nat.reduceEqDiff, Nat.reducePow, Nat.reduceDiv, Nat.reduceMod, Nat.reduceAdd, Nat.reduceMul, Nat.reduceSub, Nat.reduceLT, Nat.reduceLeDiff, reduceIte, reduceCtorEq, appendA_U]
  refine W.loop0 2019 (by rfl) (fun ρ H' => H' = H ∧ ∃ x y : Int, ρ 0 = .lit (.int .u64 x) ∧ ρ 1 = .lit (.int .u64 y) ∧ 0 ≤ x ∧ 0 ≤ y ∧ Int.gcd x y = Int.gcd a b) (fun ρ H => (iv (ρ 1)).toNat) ?_ ?_
  · simp (config := { maxSteps := 1000000 }) only [go_sem, Int.reduceToNat, Int.reduceLE, Int.reduceLT, Int.reduceAdd, Int.reduceSub, Int.reduceMul, Int.reduceEq, Int.reduceNe, Nat.reduceEqDiff, Nat.reducePow, Nat.reduceDiv, Nat.reduceMod, Nat.reduceAdd, Nat.reduceMul, Nat.reduceSub, Nat.reduceLT, Nat.reduceLeDiff, reduceIte, reduceCtorEq, appendA_U]
    exact ⟨a, b, rfl, rfl, ha, hb, rfl⟩
  rintro ρ H' ⟨rfl, x, y, h0, h1, hx, hy, hg⟩
  refine vc_sound _ _ _ (by rfl) ?_
  by_cases hz : y = 0
  · subst hz
    have e : x = (Int.gcd a b : Int) := by rw [← hg, Int.gcd_zero_right]; omega
    simp (config := { maxSteps := 1000000 }) only [go_sem, Int.reduceToNat, Int.reduceLE, Int.reduceLT, Int.reduceAdd, Int.reduceSub, Int.reduceMul, Int.reduceEq, Int.reduceNe, Nat.reduceEqDiff, Nat.reducePow, Nat.reduceDiv, Nat.reduceMod, Nat.reduceAdd, Nat.reduceMul, Nat.reduceSub, Nat.reduceLT, Nat.reduceLeDiff, reduceIte, reduceCtorEq, h0, h1, appendA_U]
    rw [e]
    exact FinV.mk (Nat.le_refl _) hK
  · have m1 : x.tmod y = x % y := Int.tmod_eq_emod_of_nonneg hx
    have m2 := Int.emod_nonneg x hz
    have m3 := Int.emod_lt_of_pos x (show 0 < y by omega)
    simp (config := { maxSteps := 1000000 }) only [go_sem, Int.reduceToNat, Int.reduceLE, Int.reduceLT, Int.reduceAdd, Int.reduceSub, Int.reduceMul, Int.reduceEq, Int.reduceNe, Nat.reduceEqDiff, Nat.reducePow, Nat.reduceDiv, Nat.reduceMod, Nat.reduceAdd, Nat.reduceMul, Nat.reduceSub, Nat.reduceLT, Nat.reduceLeDiff, reduceIte, reduceCtorEq, h0, h1, hz, appendA_U]
    refine W.draw 5 [0, 0, 0, 6, 3] Tryd.mixed (by kernel_rfl) (by kernel_rfl) ?_
    simp (config := { maxSteps := 1000000 }) only [go_sem, Int.reduceToNat, Int.reduceLE, Int.reduceLT, Int.reduceAdd, Int.reduceSub, Int.reduceMul, Int.reduceEq, Int.reduceNe, Nat.reduceEqDiff, Nat.reducePow, Nat.reduceDiv, Nat.reduceMod, Nat.reduceAdd, Nat.reduceMul, Nat.reduceSub, Nat.reduceLT, Nat.reduceLeDiff, reduceIte, reduceCtorEq, h0, h1, hz, m1, appendA_U]
    refine ⟨⟨y, x % y, rfl, rfl, hy, m2, ?_⟩, by omega⟩
    rw [← hg, Int.gcd_comm x y]
    exact gcd_step x y hx (by omega)

def maxN : Int := 4611686018427387903
/-- The error of a fraction. -/
def checkQ (n d : Int) : Int := if d < 1 ∨ d > maxN ∨ n < -maxN ∨ n > maxN then 5 else if Int.gcd n d ≠ 1 then 5 else 0
theorem gcd_abs (n d : Int) : Int.gcd (n.natAbs : Int) d = Int.gcd n d := by simp [Int.gcd]
theorem fcheck_spec (n d : Int) (hn : -9223372036854775808 ≤ n ∧ n ≤ 9223372036854775807) (hd : -9223372036854775808 ≤ d ∧ d ≤ 9223372036854775807) (H : AHeap) (K : ARes → AHeap → Prop) (hK : K (.ret (.lit (.int .i64 (checkQ n d)))) H) : ACall Tryd.prog G0 42 [qV n d] H K := by
  refine ACall.clo ⟨_, Tryd.func42, rfl, rfl⟩ fun hcl => ?_
  refine ACall.of_body (n := 29) (rs := [.tmp 2]) Tryd.func42 rfl rfl rfl (by decide) (by kernel_rfl) (by simp) ?_
  have bad : ∀ L, checkQ n d = 5 → FinV Tryd.prog G0 H K (.lit (.int .i64 5)) (ext H L) := fun L h => by
    rw [h] at hK
    exact FinV.drop G0_ok hcl (.lit _) hK
  by_cases h1 : d < 1
  · simp (config := { maxSteps := 1000000 }) only [go_sem, Int.reduceToNat, Int.reduceLE, Int.reduceLT, Int.reduceAdd, Int.reduceSub, Int.reduceMul, Int.reduceEq, Int.reduceNe, Nat.reduceEqDiff, Nat.reducePow, Nat.reduceDiv, Nat.reduceMod, Nat.reduceAdd, Nat.reduceMul, Nat.reduceSub, Nat.reduceLT, Nat.reduceLeDiff, reduceIte, reduceCtorEq, qV, h1, appendA_U]
    exact bad _ (by unfold checkQ; rw [if_pos (.inl h1)])
  by_cases h2 : 4611686018427387903 < d
  · simp (config := { maxSteps := 1000000 }) only [go_sem, Int.reduceToNat, Int.reduceLE, Int.reduceLT, Int.reduceAdd, Int.reduceSub, Int.reduceMul, Int.reduceEq, Int.reduceNe, Nat.reduceEqDiff, Nat.reducePow, Nat.reduceDiv, Nat.reduceMod, Nat.reduceAdd, Nat.reduceMul, Nat.reduceSub, Nat.reduceLT, Nat.reduceLeDiff, reduceIte, reduceCtorEq, qV, h1, h2, appendA_U]
    exact bad _ (by unfold checkQ; rw [if_pos (.inr (.inl h2))])
  by_cases h3 : n < -4611686018427387903
  · simp (config := { maxSteps := 1000000 }) only [go_sem, Int.reduceToNat, Int.reduceLE, Int.reduceLT, Int.reduceAdd, Int.reduceSub, Int.reduceMul, Int.reduceEq, Int.reduceNe, Nat.reduceEqDiff, Nat.reducePow, Nat.reduceDiv, Nat.reduceMod, Nat.reduceAdd, Nat.reduceMul, Nat.reduceSub, Nat.reduceLT, Nat.reduceLeDiff, reduceIte, reduceCtorEq, qV, h1, h2, h3, appendA_U]
    exact bad _ (by unfold checkQ; rw [if_pos (.inr (.inr (.inl h3)))])
  by_cases h4 : 4611686018427387903 < n
  · simp (config := { maxSteps := 1000000 }) only [go_sem, Int.reduceToNat, Int.reduceLE, Int.reduceLT, Int.reduceAdd, Int.reduceSub, Int.reduceMul, Int.reduceEq, Int.reduceNe, Nat.reduceEqDiff, Nat.reducePow, Nat.reduceDiv, Nat.reduceMod, Nat.reduceAdd, Nat.reduceMul, Nat.reduceSub, Nat.reduceLT, Nat.reduceLeDiff, reduceIte, reduceCtorEq, qV, h1, h2, h3, h4, appendA_U]
    exact bad _ (by unfold checkQ; rw [if_pos (.inr (.inr (.inr h4)))])
  simp (config := { maxSteps := 1000000 }) only [go_sem, Int.reduceToNat, Int.reduceLE, Int.reduceLT, Int.reduceAdd, Int.reduceSub, Int.reduceMul, Int.reduceEq, Int.reduceNe, Nat.reduceEqDiff, Nat.reducePow, Nat.reduceDiv, Nat.reduceMod, Nat.reduceAdd, Nat.reduceMul, Nat.reduceSub, Nat.reduceLT, Nat.reduceLeDiff, reduceIte, reduceCtorEq, qV, h1, h2, h3, h4, appendA_U]
  refine W.draw 6 [0, 1, 3, 0, 8, 24] Tryd.mixed (by kernel_rfl) (by kernel_rfl) ?_
  have w1 : IntKind.u64.wrap d = d := IntWalk.u64_in d (by omega)
  simp (config := { maxSteps := 1000000 }) only [go_sem, Int.reduceToNat, Int.reduceLE, Int.reduceLT, Int.reduceAdd, Int.reduceSub, Int.reduceMul, Int.reduceEq, Int.reduceNe, Nat.reduceEqDiff, Nat.reducePow, Nat.reduceDiv, Nat.reduceMod, Nat.reduceAdd, Nat.reduceMul, Nat.reduceSub, Nat.reduceLT, Nat.reduceLeDiff, reduceIte, reduceCtorEq, qV, h1, h2, h3, h4, w1, appendA_U]
  refine ⟨_, [], PCall.pure (fun H2 => size_spec n hn H2 _ ⟨rfl, rfl⟩), ?_⟩
  simp (config := { maxSteps := 1000000 }) only [go_sem, Int.reduceToNat, Int.reduceLE, Int.reduceLT, Int.reduceAdd, Int.reduceSub, Int.reduceMul, Int.reduceEq, Int.reduceNe, Nat.reduceEqDiff, Nat.reducePow, Nat.reduceDiv, Nat.reduceMod, Nat.reduceAdd, Nat.reduceMul, Nat.reduceSub, Nat.reduceLT, Nat.reduceLeDiff, reduceIte, reduceCtorEq, qV, h1, h2, h3, h4, w1, appendA_U]
  refine AApply.clo (common_spec _ d (by omega) (by omega) _ _ ⟨trivial, ?_⟩)
  rw [gcd_abs]
  have ck : checkQ n d = if Int.gcd n d ≠ 1 then 5 else 0 := by unfold checkQ; rw [if_neg (by unfold maxN; omega)]
  by_cases hg : Int.gcd n d = 1
  · have hg' : ((Int.gcd n d : Nat) : Int) = 1 := by omega
    simp (config := { maxSteps := 1000000 }) only [go_sem, Int.reduceToNat, Int.reduceLE, Int.reduceLT, Int.reduceAdd, Int.reduceSub, Int.reduceMul, Int.reduceEq, Int.reduceNe, Nat.reduceEqDiff, Nat.reducePow, Nat.reduceDiv, Nat.reduceMod, Nat.reduceAdd, Nat.reduceMul, Nat.reduceSub, Nat.reduceLT, Nat.reduceLeDiff, reduceIte, reduceCtorEq, hg', appendA_U]
    rw [ck, if_neg (by simpa using hg)] at hK
    exact FinV.drop G0_ok hcl (.lit _) hK
  · have hg' : ¬ ((Int.gcd n d : Nat) : Int) = 1 := by omega
    simp (config := { maxSteps := 1000000 }) only [go_sem, Int.reduceToNat, Int.reduceLE, Int.reduceLT, Int.reduceAdd, Int.reduceSub, Int.reduceMul, Int.reduceEq, Int.reduceNe, Nat.reduceEqDiff, Nat.reducePow, Nat.reduceDiv, Nat.reduceMod, Nat.reduceAdd, Nat.reduceMul, Nat.reduceSub, Nat.reduceLT, Nat.reduceLeDiff, reduceIte, reduceCtorEq, hg', appendA_U]
    exact bad _ (by rw [ck, if_pos hg])

/-- Two halves of a number. -/
def wideV (n : Nat) : AVal := .agg [.lit (.int .u64 (n / 18446744073709551616 : Nat)), .lit (.int .u64 (n % 18446744073709551616 : Nat))]
theorem mulHalves {p q r w0 t w1 hi xy B : Nat} (hB : 0 < B) (hxy : xy = r * (B * B) + (p + q) * B + w0) (ht : t = p + w0 / B) (hw1 : w1 = t % B + q) (hhi : hi = r + t / B + w1 / B) :
    xy / (B * B) = hi := by
  have e0 := Nat.div_add_mod w0 B
  have l0 := Nat.mod_lt w0 hB
  have e1 := Nat.div_add_mod t B
  have e2 := Nat.div_add_mod w1 B
  have l2 := Nat.mod_lt w1 hB
  generalize w0 / B = c0 at *
  generalize w0 % B = r0 at *
  generalize t / B = c1 at *
  generalize t % B = r1 at *
  generalize w1 / B = c2 at *
  generalize w1 % B = r2 at *
  have key : xy = hi * (B * B) + (r2 * B + r0) := by
    subst hhi
    have a1 : p * B = t * B - c0 * B := by rw [ht, Nat.add_mul]; omega
    have a2 : q * B = w1 * B - r1 * B := by rw [hw1, Nat.add_mul]; omega
    have a3 : t * B = c1 * (B * B) + r1 * B := by rw [← e1, Nat.add_mul]; congr 1; ac_rfl
    have a4 : w1 * B = c2 * (B * B) + r2 * B := by rw [← e2, Nat.add_mul]; congr 1; ac_rfl
    have a5 : c0 * B ≤ t * B := Nat.mul_le_mul_right _ (by omega)
    have a6 : r1 * B ≤ w1 * B := Nat.mul_le_mul_right _ (by omega)
    have a7 : w0 = c0 * B + r0 := by rw [← e0, Nat.mul_comm]
    rw [hxy, Nat.add_mul, Nat.add_mul, Nat.add_mul]
    omega
  have small : r2 * B + r0 < B * B := by
    have : r2 * B + B ≤ B * B := by rw [← Nat.succ_mul]; exact Nat.mul_le_mul_right _ l2
    omega
  rw [key]
  exact Nat.div_eq_of_lt_le (Nat.le_add_right _ _) (by rw [Nat.add_mul, Nat.one_mul]; omega)
set_option maxHeartbeats 2000000 in
theorem mul64_spec (x y : Nat) (hx : x < 18446744073709551616) (hy : y < 18446744073709551616) (H : AHeap) (K : ARes → AHeap → Prop)
    (hK : K (.ret (.tup [.lit (.int .u64 (x * y / 18446744073709551616 : Nat)), .lit (.int .u64 (x * y % 18446744073709551616 : Nat))])) H) : ACall Tryd.prog G0 70 [.lit (.int .u64 x), .lit (.int .u64 y)] H K := by
  obtain ⟨x1, x0, hxe, hx0, hx1⟩ : ∃ x1 x0 : Nat, x = x1 * 4294967296 + x0 ∧ x0 < 4294967296 ∧ x1 < 4294967296 := ⟨x / 4294967296, x % 4294967296, by omega, by omega, by omega⟩
  obtain ⟨y1, y0, hye, hy0, hy1⟩ : ∃ y1 y0 : Nat, y = y1 * 4294967296 + y0 ∧ y0 < 4294967296 ∧ y1 < 4294967296 := ⟨y / 4294967296, y % 4294967296, by omega, by omega, by omega⟩
  have bnd : ∀ a b : Nat, a < 4294967296 → b < 4294967296 → a * b ≤ 18446744065119617025 := fun a b ha hb => by
    have := Nat.mul_le_mul (show a ≤ 4294967295 by omega) (show b ≤ 4294967295 by omega)
    omega
  obtain ⟨w0, hw0⟩ : ∃ w0, w0 = x0 * y0 := ⟨_, rfl⟩
  have b0 := bnd x0 y0 hx0 hy0
  obtain ⟨p, hp⟩ : ∃ p, p = x1 * y0 := ⟨_, rfl⟩
  have b1 := bnd x1 y0 hx1 hy0
  obtain ⟨q, hq⟩ : ∃ q, q = x0 * y1 := ⟨_, rfl⟩
  have b2 := bnd x0 y1 hx0 hy1
  obtain ⟨r, hr⟩ : ∃ r, r = x1 * y1 := ⟨_, rfl⟩
  have b3 := bnd x1 y1 hx1 hy1
  have hxy : x * y = r * 18446744073709551616 + (p + q) * 4294967296 + w0 := by
    rw [hxe, hye, hr, hp, hq, hw0, Nat.add_mul, Nat.mul_add, Nat.mul_add, Nat.add_mul]
    have e1 : x1 * 4294967296 * (y1 * 4294967296) = x1 * y1 * 18446744073709551616 := by
      rw [Nat.mul_mul_mul_comm]
    have e2 : x1 * 4294967296 * y0 = x1 * y0 * 4294967296 := by ac_rfl
    have e3 : x0 * (y1 * 4294967296) = x0 * y1 * 4294967296 := by ac_rfl
    rw [e1, e2, e3]; omega
  have m1 : ((x : Int) % 4294967296) = (x0 : Nat) := by omega
  have m2 : ((x : Int) / 4294967296) = (x1 : Nat) := by omega
  have m3 : ((y : Int) % 4294967296) = (y0 : Nat) := by omega
  have m4 : ((y : Int) / 4294967296) = (y1 : Nat) := by omega
  have g1 : ((w0 : Int)) = (x0 : Int) * (y0 : Int) := by rw [hw0, Int.natCast_mul]
  have g2 : ((p : Int)) = (x1 : Int) * (y0 : Int) := by rw [hp, Int.natCast_mul]
  have g3 : ((q : Int)) = (x0 : Int) * (y1 : Int) := by rw [hq, Int.natCast_mul]
  have g4 : ((r : Int)) = (x1 : Int) * (y1 : Int) := by rw [hr, Int.natCast_mul]
  obtain ⟨t, ht⟩ : ∃ t : Nat, t = p + w0 / 4294967296 := ⟨_, rfl⟩
  obtain ⟨w1, hw1⟩ : ∃ w1 : Nat, w1 = t % 4294967296 + q := ⟨_, rfl⟩
  obtain ⟨hi, hhi⟩ : ∃ hi : Nat, hi = r + t / 4294967296 + w1 / 4294967296 := ⟨_, rfl⟩
  have hBB : (4294967296 : Nat) * 4294967296 = 18446744073709551616 := by decide
  have r1' : x * y / 18446744073709551616 = hi := by
    have h2 : x * y = r * (4294967296 * 4294967296) + (p + q) * 4294967296 + w0 := by rw [hBB]; exact hxy
    have := mulHalves (by decide) h2 ht hw1 hhi
    rw [hBB] at this
    exact this
  have B0 : ∀ n : Nat, n < 18446744073709551616 → (0 ≤ (n : Int) ∧ (n : Int) < 18446744073709551616) := fun n h => by omega
  have kx := B0 x hx
  have ky := B0 y hy
  have kw := B0 w0 (by omega)
  have kt := B0 t (by omega)
  have kv := B0 w1 (by omega)
  have v1 := IntWalk.u64_in (w0 : Int) (by omega)
  have v2 := IntWalk.u64_in (p : Int) (by omega)
  have v3 := IntWalk.u64_in (q : Int) (by omega)
  have v4 := IntWalk.u64_in (r : Int) (by omega)
  have s1 : (p : Int) + (w0 : Int) / 4294967296 = (t : Int) := by omega
  have s2 : (t : Int) % 4294967296 + (q : Int) = (w1 : Int) := by omega
  have v5 := IntWalk.u64_in (t : Int) (by omega)
  have v6 := IntWalk.u64_in (w1 : Int) (by omega)
  have s3 : (r : Int) + (t : Int) / 4294967296 = ((r + t / 4294967296 : Nat) : Int) := by omega
  have v7 := IntWalk.u64_in ((r + t / 4294967296 : Nat) : Int) (by omega)
  have s4 : ((r + t / 4294967296 : Nat) : Int) + (w1 : Int) / 4294967296 = (hi : Int) := by omega
  have v8 := IntWalk.u64_in (hi : Int) (by omega)
  have s5 : IntKind.u64.wrap ((x : Int) * (y : Int)) = ((x * y % 18446744073709551616 : Nat) : Int) := by rw [wrapU64, ← Int.natCast_mul]; omega
  rw [r1'] at hK
  refine ACall.of_bodyW (n := 51) (rs := [.tmp 4, .tmp 5]) Tryd.func70 rfl rfl rfl (by decide) (by simp) ?_
  refine W.seq (vc_sound _ _ _ (by rfl) ?_)
  simp (config := { maxSteps := 1000000 }) only [go_sem, Int.reduceToNat, Int.reduceLE, Int.reduceLT, Int.reduceAdd, Int.reduceSub, Int.reduceMul, Int.reduceEq, Int.reduceNe, Nat.reduceEqDiff, Nat.reducePow, Nat.reduceDiv, Nat.reduceMod, Nat.reduceAdd, Nat.reduceMul, Nat.reduceSub, Nat.reduceLT, Nat.reduceLeDiff, reduceIte, reduceCtorEq, appendA_U]
  refine W.env fun E0 hE0 => ?_
  have a0_0 : E0 0 = .lit (.int .u64 (x : Nat)) := by rw [hE0]; rfl
  have a0_1 : E0 1 = .lit (.int .u64 (y : Nat)) := by rw [hE0]; rfl
  clear hE0
  refine W.seq (vc_sound _ _ _ (by rfl) ?_)
  simp (config := { maxSteps := 1000000 }) only [go_sem, Int.reduceToNat, Int.reduceLE, Int.reduceLT, Int.reduceAdd, Int.reduceSub, Int.reduceMul, Int.reduceEq, Int.reduceNe, Nat.reduceEqDiff, Nat.reducePow, Nat.reduceDiv, Nat.reduceMod, Nat.reduceAdd, Nat.reduceMul, Nat.reduceSub, Nat.reduceLT, Nat.reduceLeDiff, reduceIte, reduceCtorEq, a0_0, a0_1, m1, and_low, kx, appendA_U]
  refine W.env fun E1 hE1 => ?_
  have a1_0 : E1 0 = .lit (.int .u64 (x : Nat)) := by rw [hE1]; exact a0_0
  have a1_1 : E1 1 = .lit (.int .u64 (y : Nat)) := by rw [hE1]; exact a0_1
  have a1_6 : E1 6 = .lit (.int .u64 (x0 : Nat)) := by rw [hE1]; rfl
  clear hE1
  refine W.seq (vc_sound _ _ _ (by rfl) ?_)
  simp (config := { maxSteps := 1000000 }) only [go_sem, Int.reduceToNat, Int.reduceLE, Int.reduceLT, Int.reduceAdd, Int.reduceSub, Int.reduceMul, Int.reduceEq, Int.reduceNe, Nat.reduceEqDiff, Nat.reducePow, Nat.reduceDiv, Nat.reduceMod, Nat.reduceAdd, Nat.reduceMul, Nat.reduceSub, Nat.reduceLT, Nat.reduceLeDiff, reduceIte, reduceCtorEq, a1_0, a1_1, a1_6, m2, shr32, kx, appendA_U]
  refine W.env fun E2 hE2 => ?_
  have a2_0 : E2 0 = .lit (.int .u64 (x : Nat)) := by rw [hE2]; exact a1_0
  have a2_1 : E2 1 = .lit (.int .u64 (y : Nat)) := by rw [hE2]; exact a1_1
  have a2_6 : E2 6 = .lit (.int .u64 (x0 : Nat)) := by rw [hE2]; exact a1_6
  have a2_7 : E2 7 = .lit (.int .u64 (x1 : Nat)) := by rw [hE2]; rfl
  clear hE2
  refine W.seq (vc_sound _ _ _ (by rfl) ?_)
  simp (config := { maxSteps := 1000000 }) only [go_sem, Int.reduceToNat, Int.reduceLE, Int.reduceLT, Int.reduceAdd, Int.reduceSub, Int.reduceMul, Int.reduceEq, Int.reduceNe, Nat.reduceEqDiff, Nat.reducePow, Nat.reduceDiv, Nat.reduceMod, Nat.reduceAdd, Nat.reduceMul, Nat.reduceSub, Nat.reduceLT, Nat.reduceLeDiff, reduceIte, reduceCtorEq, a2_0, a2_1, a2_6, a2_7, m3, and_low, ky, appendA_U]
  refine W.env fun E3 hE3 => ?_
  have a3_0 : E3 0 = .lit (.int .u64 (x : Nat)) := by rw [hE3]; exact a2_0
  have a3_1 : E3 1 = .lit (.int .u64 (y : Nat)) := by rw [hE3]; exact a2_1
  have a3_6 : E3 6 = .lit (.int .u64 (x0 : Nat)) := by rw [hE3]; exact a2_6
  have a3_7 : E3 7 = .lit (.int .u64 (x1 : Nat)) := by rw [hE3]; exact a2_7
  have a3_8 : E3 8 = .lit (.int .u64 (y0 : Nat)) := by rw [hE3]; rfl
  clear hE3
  refine W.seq (vc_sound _ _ _ (by rfl) ?_)
  simp (config := { maxSteps := 1000000 }) only [go_sem, Int.reduceToNat, Int.reduceLE, Int.reduceLT, Int.reduceAdd, Int.reduceSub, Int.reduceMul, Int.reduceEq, Int.reduceNe, Nat.reduceEqDiff, Nat.reducePow, Nat.reduceDiv, Nat.reduceMod, Nat.reduceAdd, Nat.reduceMul, Nat.reduceSub, Nat.reduceLT, Nat.reduceLeDiff, reduceIte, reduceCtorEq, a3_0, a3_1, a3_6, a3_7, a3_8, m4, shr32, ky, appendA_U]
  refine W.env fun E4 hE4 => ?_
  have a4_0 : E4 0 = .lit (.int .u64 (x : Nat)) := by rw [hE4]; exact a3_0
  have a4_1 : E4 1 = .lit (.int .u64 (y : Nat)) := by rw [hE4]; exact a3_1
  have a4_6 : E4 6 = .lit (.int .u64 (x0 : Nat)) := by rw [hE4]; exact a3_6
  have a4_7 : E4 7 = .lit (.int .u64 (x1 : Nat)) := by rw [hE4]; exact a3_7
  have a4_8 : E4 8 = .lit (.int .u64 (y0 : Nat)) := by rw [hE4]; exact a3_8
  have a4_9 : E4 9 = .lit (.int .u64 (y1 : Nat)) := by rw [hE4]; rfl
  clear hE4
  refine W.seq (vc_sound _ _ _ (by rfl) ?_)
  simp (config := { maxSteps := 1000000 }) only [go_sem, Int.reduceToNat, Int.reduceLE, Int.reduceLT, Int.reduceAdd, Int.reduceSub, Int.reduceMul, Int.reduceEq, Int.reduceNe, Nat.reduceEqDiff, Nat.reducePow, Nat.reduceDiv, Nat.reduceMod, Nat.reduceAdd, Nat.reduceMul, Nat.reduceSub, Nat.reduceLT, Nat.reduceLeDiff, reduceIte, reduceCtorEq, a4_0, a4_1, a4_6, a4_7, a4_8, a4_9, ← g1, v1, appendA_U]
  refine W.env fun E5 hE5 => ?_
  have a5_0 : E5 0 = .lit (.int .u64 (x : Nat)) := by rw [hE5]; exact a4_0
  have a5_1 : E5 1 = .lit (.int .u64 (y : Nat)) := by rw [hE5]; exact a4_1
  have a5_6 : E5 6 = .lit (.int .u64 (x0 : Nat)) := by rw [hE5]; exact a4_6
  have a5_7 : E5 7 = .lit (.int .u64 (x1 : Nat)) := by rw [hE5]; exact a4_7
  have a5_8 : E5 8 = .lit (.int .u64 (y0 : Nat)) := by rw [hE5]; exact a4_8
  have a5_9 : E5 9 = .lit (.int .u64 (y1 : Nat)) := by rw [hE5]; exact a4_9
  have a5_10 : E5 10 = .lit (.int .u64 (w0 : Nat)) := by rw [hE5]; rfl
  clear hE5
  refine W.seq (vc_sound _ _ _ (by rfl) ?_)
  simp (config := { maxSteps := 1000000 }) only [go_sem, Int.reduceToNat, Int.reduceLE, Int.reduceLT, Int.reduceAdd, Int.reduceSub, Int.reduceMul, Int.reduceEq, Int.reduceNe, Nat.reduceEqDiff, Nat.reducePow, Nat.reduceDiv, Nat.reduceMod, Nat.reduceAdd, Nat.reduceMul, Nat.reduceSub, Nat.reduceLT, Nat.reduceLeDiff, reduceIte, reduceCtorEq, a5_0, a5_1, a5_6, a5_7, a5_8, a5_9, a5_10, ← g2, v2, shr32, kw, s1, v5, appendA_U]
  refine W.env fun E6 hE6 => ?_
  have a6_0 : E6 0 = .lit (.int .u64 (x : Nat)) := by rw [hE6]; exact a5_0
  have a6_1 : E6 1 = .lit (.int .u64 (y : Nat)) := by rw [hE6]; exact a5_1
  have a6_6 : E6 6 = .lit (.int .u64 (x0 : Nat)) := by rw [hE6]; exact a5_6
  have a6_7 : E6 7 = .lit (.int .u64 (x1 : Nat)) := by rw [hE6]; exact a5_7
  have a6_8 : E6 8 = .lit (.int .u64 (y0 : Nat)) := by rw [hE6]; exact a5_8
  have a6_9 : E6 9 = .lit (.int .u64 (y1 : Nat)) := by rw [hE6]; exact a5_9
  have a6_10 : E6 10 = .lit (.int .u64 (w0 : Nat)) := by rw [hE6]; exact a5_10
  have a6_11 : E6 11 = .lit (.int .u64 (t : Nat)) := by rw [hE6]; rfl
  clear hE6
  refine W.seq (vc_sound _ _ _ (by rfl) ?_)
  simp (config := { maxSteps := 1000000 }) only [go_sem, Int.reduceToNat, Int.reduceLE, Int.reduceLT, Int.reduceAdd, Int.reduceSub, Int.reduceMul, Int.reduceEq, Int.reduceNe, Nat.reduceEqDiff, Nat.reducePow, Nat.reduceDiv, Nat.reduceMod, Nat.reduceAdd, Nat.reduceMul, Nat.reduceSub, Nat.reduceLT, Nat.reduceLeDiff, reduceIte, reduceCtorEq, a6_0, a6_1, a6_6, a6_7, a6_8, a6_9, a6_10, a6_11, and_low, kt, appendA_U]
  refine W.env fun E7 hE7 => ?_
  have a7_0 : E7 0 = .lit (.int .u64 (x : Nat)) := by rw [hE7]; exact a6_0
  have a7_1 : E7 1 = .lit (.int .u64 (y : Nat)) := by rw [hE7]; exact a6_1
  have a7_6 : E7 6 = .lit (.int .u64 (x0 : Nat)) := by rw [hE7]; exact a6_6
  have a7_7 : E7 7 = .lit (.int .u64 (x1 : Nat)) := by rw [hE7]; exact a6_7
  have a7_8 : E7 8 = .lit (.int .u64 (y0 : Nat)) := by rw [hE7]; exact a6_8
  have a7_9 : E7 9 = .lit (.int .u64 (y1 : Nat)) := by rw [hE7]; exact a6_9
  have a7_10 : E7 10 = .lit (.int .u64 (w0 : Nat)) := by rw [hE7]; exact a6_10
  have a7_11 : E7 11 = .lit (.int .u64 (t : Nat)) := by rw [hE7]; exact a6_11
  have a7_12 : E7 12 = .lit (.int .u64 ((t : Int) % 4294967296)) := by rw [hE7]; rfl
  clear hE7
  refine W.seq (vc_sound _ _ _ (by rfl) ?_)
  simp (config := { maxSteps := 1000000 }) only [go_sem, Int.reduceToNat, Int.reduceLE, Int.reduceLT, Int.reduceAdd, Int.reduceSub, Int.reduceMul, Int.reduceEq, Int.reduceNe, Nat.reduceEqDiff, Nat.reducePow, Nat.reduceDiv, Nat.reduceMod, Nat.reduceAdd, Nat.reduceMul, Nat.reduceSub, Nat.reduceLT, Nat.reduceLeDiff, reduceIte, reduceCtorEq, a7_0, a7_1, a7_6, a7_7, a7_8, a7_9, a7_10, a7_11, a7_12, shr32, kt, appendA_U]
  refine W.env fun E8 hE8 => ?_
  have a8_0 : E8 0 = .lit (.int .u64 (x : Nat)) := by rw [hE8]; exact a7_0
  have a8_1 : E8 1 = .lit (.int .u64 (y : Nat)) := by rw [hE8]; exact a7_1
  have a8_6 : E8 6 = .lit (.int .u64 (x0 : Nat)) := by rw [hE8]; exact a7_6
  have a8_7 : E8 7 = .lit (.int .u64 (x1 : Nat)) := by rw [hE8]; exact a7_7
  have a8_8 : E8 8 = .lit (.int .u64 (y0 : Nat)) := by rw [hE8]; exact a7_8
  have a8_9 : E8 9 = .lit (.int .u64 (y1 : Nat)) := by rw [hE8]; exact a7_9
  have a8_10 : E8 10 = .lit (.int .u64 (w0 : Nat)) := by rw [hE8]; exact a7_10
  have a8_11 : E8 11 = .lit (.int .u64 (t : Nat)) := by rw [hE8]; exact a7_11
  have a8_12 : E8 12 = .lit (.int .u64 ((t : Int) % 4294967296)) := by rw [hE8]; exact a7_12
  have a8_13 : E8 13 = .lit (.int .u64 ((t : Int) / 4294967296)) := by rw [hE8]; rfl
  clear hE8
  refine W.seq (vc_sound _ _ _ (by rfl) ?_)
  simp (config := { maxSteps := 1000000 }) only [go_sem, Int.reduceToNat, Int.reduceLE, Int.reduceLT, Int.reduceAdd, Int.reduceSub, Int.reduceMul, Int.reduceEq, Int.reduceNe, Nat.reduceEqDiff, Nat.reducePow, Nat.reduceDiv, Nat.reduceMod, Nat.reduceAdd, Nat.reduceMul, Nat.reduceSub, Nat.reduceLT, Nat.reduceLeDiff, reduceIte, reduceCtorEq, a8_0, a8_1, a8_6, a8_7, a8_8, a8_9, a8_10, a8_11, a8_12, a8_13, ← g3, v3, s2, v6, appendA_U]
  refine W.env fun E9 hE9 => ?_
  have a9_0 : E9 0 = .lit (.int .u64 (x : Nat)) := by rw [hE9]; exact a8_0
  have a9_1 : E9 1 = .lit (.int .u64 (y : Nat)) := by rw [hE9]; exact a8_1
  have a9_6 : E9 6 = .lit (.int .u64 (x0 : Nat)) := by rw [hE9]; exact a8_6
  have a9_7 : E9 7 = .lit (.int .u64 (x1 : Nat)) := by rw [hE9]; exact a8_7
  have a9_8 : E9 8 = .lit (.int .u64 (y0 : Nat)) := by rw [hE9]; exact a8_8
  have a9_9 : E9 9 = .lit (.int .u64 (y1 : Nat)) := by rw [hE9]; exact a8_9
  have a9_10 : E9 10 = .lit (.int .u64 (w0 : Nat)) := by rw [hE9]; exact a8_10
  have a9_11 : E9 11 = .lit (.int .u64 (t : Nat)) := by rw [hE9]; exact a8_11
  have a9_12 : E9 12 = .lit (.int .u64 (w1 : Nat)) := by rw [hE9]; rfl
  have a9_13 : E9 13 = .lit (.int .u64 ((t : Int) / 4294967296)) := by rw [hE9]; exact a8_13
  clear hE9
  refine W.seq (vc_sound _ _ _ (by rfl) ?_)
  simp (config := { maxSteps := 1000000 }) only [go_sem, Int.reduceToNat, Int.reduceLE, Int.reduceLT, Int.reduceAdd, Int.reduceSub, Int.reduceMul, Int.reduceEq, Int.reduceNe, Nat.reduceEqDiff, Nat.reducePow, Nat.reduceDiv, Nat.reduceMod, Nat.reduceAdd, Nat.reduceMul, Nat.reduceSub, Nat.reduceLT, Nat.reduceLeDiff, reduceIte, reduceCtorEq, a9_0, a9_1, a9_6, a9_7, a9_8, a9_9, a9_10, a9_11, a9_12, a9_13, ← g4, v4, shr32, kv, s3, v7, s4, v8, appendA_U]
  refine W.env fun E10 hE10 => ?_
  have a10_0 : E10 0 = .lit (.int .u64 (x : Nat)) := by rw [hE10]; exact a9_0
  have a10_1 : E10 1 = .lit (.int .u64 (y : Nat)) := by rw [hE10]; exact a9_1
  have a10_6 : E10 6 = .lit (.int .u64 (x0 : Nat)) := by rw [hE10]; exact a9_6
  have a10_7 : E10 7 = .lit (.int .u64 (x1 : Nat)) := by rw [hE10]; exact a9_7
  have a10_8 : E10 8 = .lit (.int .u64 (y0 : Nat)) := by rw [hE10]; exact a9_8
  have a10_9 : E10 9 = .lit (.int .u64 (y1 : Nat)) := by rw [hE10]; exact a9_9
  have a10_10 : E10 10 = .lit (.int .u64 (w0 : Nat)) := by rw [hE10]; exact a9_10
  have a10_11 : E10 11 = .lit (.int .u64 (t : Nat)) := by rw [hE10]; exact a9_11
  have a10_12 : E10 12 = .lit (.int .u64 (w1 : Nat)) := by rw [hE10]; exact a9_12
  have a10_13 : E10 13 = .lit (.int .u64 ((t : Int) / 4294967296)) := by rw [hE10]; exact a9_13
  have a10_4 : E10 4 = .lit (.int .u64 (hi : Nat)) := by rw [hE10]; rfl
  clear hE10
  refine W.seq (vc_sound _ _ _ (by rfl) ?_)
  simp (config := { maxSteps := 1000000 }) only [go_sem, Int.reduceToNat, Int.reduceLE, Int.reduceLT, Int.reduceAdd, Int.reduceSub, Int.reduceMul, Int.reduceEq, Int.reduceNe, Nat.reduceEqDiff, Nat.reducePow, Nat.reduceDiv, Nat.reduceMod, Nat.reduceAdd, Nat.reduceMul, Nat.reduceSub, Nat.reduceLT, Nat.reduceLeDiff, reduceIte, reduceCtorEq, a10_0, a10_1, a10_6, a10_7, a10_8, a10_9, a10_10, a10_11, a10_12, a10_13, a10_4, s5, appendA_U]
  refine W.env fun E11 hE11 => ?_
  have a11_0 : E11 0 = .lit (.int .u64 (x : Nat)) := by rw [hE11]; exact a10_0
  have a11_1 : E11 1 = .lit (.int .u64 (y : Nat)) := by rw [hE11]; exact a10_1
  have a11_6 : E11 6 = .lit (.int .u64 (x0 : Nat)) := by rw [hE11]; exact a10_6
  have a11_7 : E11 7 = .lit (.int .u64 (x1 : Nat)) := by rw [hE11]; exact a10_7
  have a11_8 : E11 8 = .lit (.int .u64 (y0 : Nat)) := by rw [hE11]; exact a10_8
  have a11_9 : E11 9 = .lit (.int .u64 (y1 : Nat)) := by rw [hE11]; exact a10_9
  have a11_10 : E11 10 = .lit (.int .u64 (w0 : Nat)) := by rw [hE11]; exact a10_10
  have a11_11 : E11 11 = .lit (.int .u64 (t : Nat)) := by rw [hE11]; exact a10_11
  have a11_12 : E11 12 = .lit (.int .u64 (w1 : Nat)) := by rw [hE11]; exact a10_12
  have a11_13 : E11 13 = .lit (.int .u64 ((t : Int) / 4294967296)) := by rw [hE11]; exact a10_13
  have a11_4 : E11 4 = .lit (.int .u64 (hi : Nat)) := by rw [hE11]; exact a10_4
  have a11_5 : E11 5 = .lit (.int .u64 ((x * y % 18446744073709551616 : Nat) : Int)) := by rw [hE11]; rfl
  clear hE11
  refine vc_sound _ _ _ (by rfl) ?_
  simp (config := { maxSteps := 1000000 }) only [go_sem, Int.reduceToNat, Int.reduceLE, Int.reduceLT, Int.reduceAdd, Int.reduceSub, Int.reduceMul, Int.reduceEq, Int.reduceNe, Nat.reduceEqDiff, Nat.reducePow, Nat.reduceDiv, Nat.reduceMod, Nat.reduceAdd, Nat.reduceMul, Nat.reduceSub, Nat.reduceLT, Nat.reduceLeDiff, reduceIte, reduceCtorEq, a11_4, a11_5, appendA_U]
  exact FinV.mk (Nat.le_refl _) hK
theorem times_spec (x y : Nat) (hx : x < 18446744073709551616) (hy : y < 18446744073709551616) (H : AHeap) (K : ARes → AHeap → Prop) (hK : K (.ret (wideV (x * y))) H) : ACall Tryd.prog G0 59 [.lit (.int .u64 x), .lit (.int .u64 y)] H K := by
  refine ACall.clo ⟨_, Tryd.func59, rfl, rfl⟩ fun hcl => ?_
  refine ACall.of_body (n := 16) (rs := [.cell 4 97]) Tryd.func59 rfl rfl rfl (by decide) (by kernel_rfl) (by simp) ?_
  simp (config := { maxSteps := 1000000 }) only [go_sem, Int.reduceToNat, Int.reduceLE, Int.reduceLT, Int.reduceAdd, Int.reduceSub, Int.reduceMul, Int.reduceEq, Int.reduceNe, Nat.reduceEqDiff, Nat.reducePow, Nat.reduceDiv, Nat.reduceMod, Nat.reduceAdd, Nat.reduceMul, Nat.reduceSub, Nat.reduceLT, Nat.reduceLeDiff, reduceIte, reduceCtorEq, appendA_U]
  refine AApply.clo (mul64_spec x y hx hy _ _ ⟨trivial, ?_⟩)
  simp (config := { maxSteps := 1000000 }) only [go_sem, Int.reduceToNat, Int.reduceLE, Int.reduceLT, Int.reduceAdd, Int.reduceSub, Int.reduceMul, Int.reduceEq, Int.reduceNe, Nat.reduceEqDiff, Nat.reducePow, Nat.reduceDiv, Nat.reduceMod, Nat.reduceAdd, Nat.reduceMul, Nat.reduceSub, Nat.reduceLT, Nat.reduceLeDiff, reduceIte, reduceCtorEq, appendA_U]
  refine FinV.drop (v' := wideV (x * y)) G0_ok hcl (.agg rfl fun i hi _ => ?_) hK
  match i, hi with
  | 0, _ => exact .lit _
  | 1, _ => exact .lit _
theorem less_spec (x y : Nat) (H : AHeap) (K : ARes → AHeap → Prop) (hK : K (.ret (.lit (.bool (decide (x < y))))) H) : ACall Tryd.prog G0 60 [wideV x, wideV y] H K := by
  refine ACall.clo ⟨_, Tryd.func60, rfl, rfl⟩ fun hcl => ?_
  obtain ⟨a, ha⟩ : ∃ a, a = x / 18446744073709551616 := ⟨_, rfl⟩
  obtain ⟨b, hb⟩ : ∃ b, b = x % 18446744073709551616 := ⟨_, rfl⟩
  obtain ⟨c, hc⟩ : ∃ c, c = y / 18446744073709551616 := ⟨_, rfl⟩
  obtain ⟨d, hd⟩ : ∃ d, d = y % 18446744073709551616 := ⟨_, rfl⟩
  have key : ∀ v : Bool, v = decide (x < y) → FinV Tryd.prog G0 H K (.lit (.bool v)) (ext H [.arr 0 97 [.lit (.int .u64 a), .lit (.int .u64 b)], .arr 0 97 [.lit (.int .u64 c), .lit (.int .u64 d)]]) := fun v h => by
    subst h
    exact FinV.drop G0_ok hcl (.lit _) hK
  unfold wideV
  rw [← ha, ← hb, ← hc, ← hd]
  refine ACall.of_body (n := 24) (rs := [.tmp 4]) Tryd.func60 rfl rfl rfl (by decide) (by kernel_rfl) (by simp) ?_
  by_cases h1 : (a : Int) < c
  · simp (config := { maxSteps := 1000000 }) only [go_sem, Int.reduceToNat, Int.reduceLE, Int.reduceLT, Int.reduceAdd, Int.reduceSub, Int.reduceMul, Int.reduceEq, Int.reduceNe, Nat.reduceEqDiff, Nat.reducePow, Nat.reduceDiv, Nat.reduceMod, Nat.reduceAdd, Nat.reduceMul, Nat.reduceSub, Nat.reduceLT, Nat.reduceLeDiff, reduceIte, reduceCtorEq, h1, guardA_undef, appendA_U]
    exact key _ (by rw [decide_eq_true]; omega)
  by_cases h2' : a = c
  · subst h2'
    by_cases h3 : (b : Int) < d
    · simp (config := { maxSteps := 1000000 }) only [go_sem, Int.reduceToNat, Int.reduceLE, Int.reduceLT, Int.reduceAdd, Int.reduceSub, Int.reduceMul, Int.reduceEq, Int.reduceNe, Nat.reduceEqDiff, Nat.reducePow, Nat.reduceDiv, Nat.reduceMod, Nat.reduceAdd, Nat.reduceMul, Nat.reduceSub, Nat.reduceLT, Nat.reduceLeDiff, reduceIte, reduceCtorEq, h1, h3, guardA_undef, appendA_U]
      exact key _ (by rw [decide_eq_true]; omega)
    · simp (config := { maxSteps := 1000000 }) only [go_sem, Int.reduceToNat, Int.reduceLE, Int.reduceLT, Int.reduceAdd, Int.reduceSub, Int.reduceMul, Int.reduceEq, Int.reduceNe, Nat.reduceEqDiff, Nat.reducePow, Nat.reduceDiv, Nat.reduceMod, Nat.reduceAdd, Nat.reduceMul, Nat.reduceSub, Nat.reduceLT, Nat.reduceLeDiff, reduceIte, reduceCtorEq, h1, h3, guardA_undef, appendA_U]
      exact key _ (by rw [decide_eq_false]; omega)
  · have h2 : ¬ (a : Int) = c := by omega
    simp (config := { maxSteps := 1000000 }) only [go_sem, Int.reduceToNat, Int.reduceLE, Int.reduceLT, Int.reduceAdd, Int.reduceSub, Int.reduceMul, Int.reduceEq, Int.reduceNe, Nat.reduceEqDiff, Nat.reducePow, Nat.reduceDiv, Nat.reduceMod, Nat.reduceAdd, Nat.reduceMul, Nat.reduceSub, Nat.reduceLT, Nat.reduceLeDiff, reduceIte, reduceCtorEq, h1, h2, guardA_undef, appendA_U]
    exact key _ (by rw [decide_eq_false]; omega)
end Go.Proofs
set_option linter.unusedSimpArgs false
set_option maxRecDepth 100000
namespace Go.Proofs
open Go.Hx

def oneV (n : Nat) : AVal := .agg [.lit (.int .u64 0), .lit (.int .u64 (n : Int))]
theorem fz_lits {S : Nat → Prop} {H : AHeap} {nx : Nat} (n d : Int) : Fz S H nx (.agg [.lit (.int .i64 n), .lit (.int .i64 d)]) (qV n d) :=
  .agg rfl fun i hi _ => match i, hi with
    | 0, _ => .lit _
    | 1, _ => .lit _
/-- A quotient in lowest terms, if its parts fit. -/
theorem fit_spec (neg : Bool) (n d : Nat) (hn : n ≤ 4611686018427387903) (hd : d ≤ 4611686018427387903) (H : AHeap) (K : ARes → AHeap → Prop) (hK : K (.ret (qV (if neg = true then -(n : Int) else n) d)) H) :
    ACall Tryd.prog G0 63 [.lit (.bool neg), oneV n, oneV d] H K := by
  refine ACall.clo ⟨_, Tryd.func63, rfl, rfl⟩ fun hcl => ?_
  have h1 : ¬ (4611686018427387903 : Int) < (n : Int) := by omega
  have h2 : ¬ (4611686018427387903 : Int) < (d : Int) := by omega
  have w1 := IntWalk.i64_in (n : Int) (by omega)
  have w2 := IntWalk.i64_in (d : Int) (by omega)
  have w3 := IntWalk.i64_in (0 - (n : Int)) (by omega)
  have w4 : (0 : Int) - (n : Int) = -(n : Int) := by omega
  refine ACall.of_body (n := 43) (rs := [.cell 6 29]) Tryd.func63 rfl rfl rfl (by decide) (by kernel_rfl) (by simp) ?_
  cases neg with
  | true =>
    simp (config := { maxSteps := 1000000 }) only [go_sem, Int.reduceToNat, Int.reduceLE, Int.reduceLT, Int.reduceAdd, Int.reduceSub, Int.reduceMul, Int.reduceEq, Int.reduceNe, Nat.reduceEqDiff, Nat.reducePow, Nat.reduceDiv, Nat.reduceMod, Nat.reduceAdd, Nat.reduceMul, Nat.reduceSub, Nat.reduceLT, Nat.reduceLeDiff, reduceIte, reduceCtorEq, oneV, h1, h2, w1, w2, w3, appendA_U]
    rw [if_pos rfl] at hK
    rw [w4]
    exact FinV.drop G0_ok hcl (fz_lits _ _) hK
  | false =>
    simp (config := { maxSteps := 1000000 }) only [go_sem, Int.reduceToNat, Int.reduceLE, Int.reduceLT, Int.reduceAdd, Int.reduceSub, Int.reduceMul, Int.reduceEq, Int.reduceNe, Nat.reduceEqDiff, Nat.reducePow, Nat.reduceDiv, Nat.reduceMod, Nat.reduceAdd, Nat.reduceMul, Nat.reduceSub, Nat.reduceLT, Nat.reduceLeDiff, reduceIte, reduceCtorEq, oneV, h1, h2, w1, w2, w3, appendA_U]
    rw [if_neg (by decide)] at hK
    exact FinV.drop G0_ok hcl (fz_lits _ _) hK

/-- What Make gives for a numerator of at least 0 and a greater denominator. -/
theorem make1_spec (n d : Nat) (hn : n ≤ 4611686018427387903) (hd : d ≤ 4611686018427387903) (hd0 : 0 < d) :
    ACall Tryd.prog G0 62 [.vptr [.lit (.int .i64 (n : Int))] 0, .vptr [.lit (.int .i64 (d : Int))] 0] noH (GRes (some (qV (n / Nat.gcd n d : Nat) (d / Nat.gcd n d : Nat)))) := by
  refine ACall.clo ⟨_, Tryd.func62, rfl, rfl⟩ fun hcl => ?_
  have g0 : 0 < Nat.gcd n d := Nat.gcd_pos_of_pos_right _ hd0
  have gne : ¬ ((Nat.gcd n d : Nat) : Int) = 0 := by omega
  have q1 : (n : Int).tdiv ((Nat.gcd n d : Nat) : Int) = ((n / Nat.gcd n d : Nat) : Int) := by
    rw [Int.tdiv_eq_ediv_of_nonneg (by omega)]; exact (Int.natCast_ediv _ _).symm
  have q2 : (d : Int).tdiv ((Nat.gcd n d : Nat) : Int) = ((d / Nat.gcd n d : Nat) : Int) := by
    rw [Int.tdiv_eq_ediv_of_nonneg (by omega)]; exact (Int.natCast_ediv _ _).symm
  have b1 : n / Nat.gcd n d ≤ n := Nat.div_le_self _ _
  have b2 : d / Nat.gcd n d ≤ d := Nat.div_le_self _ _
  obtain ⟨nq, hnq⟩ : ∃ k, k = n / Nat.gcd n d := ⟨_, rfl⟩
  obtain ⟨dq, hdq⟩ : ∃ k, k = d / Nat.gcd n d := ⟨_, rfl⟩
  rw [← hnq] at q1 b1 ⊢
  rw [← hdq] at q2 b2 ⊢
  have w1 := IntWalk.u64_in (nq : Int) (by omega)
  have w2 := IntWalk.u64_in (dq : Int) (by omega)
  have s1 : ∀ (H2 : AHeap) (K : ARes → AHeap → Prop), K (.ret (.lit (.int .u64 (n : Int)))) H2 → ACall Tryd.prog G0 56 [.lit (.int .i64 (n : Int))] H2 K := fun H2 K h => size_spec _ (by omega) H2 _ (by simpa using h)
  have s2 : ∀ (H2 : AHeap) (K : ARes → AHeap → Prop), K (.ret (.lit (.int .u64 (d : Int)))) H2 → ACall Tryd.prog G0 56 [.lit (.int .i64 (d : Int))] H2 K := fun H2 K h => size_spec _ (by omega) H2 _ (by simpa using h)
  have s3 : ∀ (H2 : AHeap) (K : ARes → AHeap → Prop), K (.ret (.lit (.int .u64 (Nat.gcd n d : Nat)))) H2 → ACall Tryd.prog G0 55 [.lit (.int .u64 (n : Int)), .lit (.int .u64 (d : Int))] H2 K := fun H2 K h => common_spec _ _ (by omega) (by omega) H2 _ (by simpa [Int.gcd_natCast_natCast] using h)
  have hneg1 : ¬ (n : Int) < 0 := by omega
  have hneg2 : ¬ (d : Int) < 0 := by omega
  refine ACall.of_body (n := 25) (rs := [.cell 2 29]) Tryd.func62 rfl rfl rfl (by decide) (by kernel_rfl) (by simp) ?_
  simp (config := { maxSteps := 1000000 }) only [go_sem, Int.reduceToNat, Int.reduceLE, Int.reduceLT, Int.reduceAdd, Int.reduceSub, Int.reduceMul, Int.reduceEq, Int.reduceNe, Nat.reduceEqDiff, Nat.reducePow, Nat.reduceDiv, Nat.reduceMod, Nat.reduceAdd, Nat.reduceMul, Nat.reduceSub, Nat.reduceLT, Nat.reduceLeDiff, reduceIte, reduceCtorEq, appendA_U]
  refine W.draw 3 [0, 1, 0] Tryd.mixed (by kernel_rfl) (by kernel_rfl) ?_
  simp (config := { maxSteps := 1000000 }) only [go_sem, Int.reduceToNat, Int.reduceLE, Int.reduceLT, Int.reduceAdd, Int.reduceSub, Int.reduceMul, Int.reduceEq, Int.reduceNe, Nat.reduceEqDiff, Nat.reducePow, Nat.reduceDiv, Nat.reduceMod, Nat.reduceAdd, Nat.reduceMul, Nat.reduceSub, Nat.reduceLT, Nat.reduceLeDiff, reduceIte, reduceCtorEq, appendA_U]
  refine ⟨_, [], PCall.pure fun H2 => s1 H2 _ ⟨rfl, rfl⟩, ?_⟩
  refine AApply.clo (s2 _ _ ⟨trivial, ?_⟩)
  simp (config := { maxSteps := 1000000 }) only [go_sem, Int.reduceToNat, Int.reduceLE, Int.reduceLT, Int.reduceAdd, Int.reduceSub, Int.reduceMul, Int.reduceEq, Int.reduceNe, Nat.reduceEqDiff, Nat.reducePow, Nat.reduceDiv, Nat.reduceMod, Nat.reduceAdd, Nat.reduceMul, Nat.reduceSub, Nat.reduceLT, Nat.reduceLeDiff, reduceIte, reduceCtorEq, appendA_U]
  refine AApply.clo (s3 _ _ ⟨trivial, ?_⟩)
  simp (config := { maxSteps := 1000000 }) only [go_sem, Int.reduceToNat, Int.reduceLE, Int.reduceLT, Int.reduceAdd, Int.reduceSub, Int.reduceMul, Int.reduceEq, Int.reduceNe, Nat.reduceEqDiff, Nat.reducePow, Nat.reduceDiv, Nat.reduceMod, Nat.reduceAdd, Nat.reduceMul, Nat.reduceSub, Nat.reduceLT, Nat.reduceLeDiff, reduceIte, reduceCtorEq, appendA_U]
  refine W.draw 15 [0, 1, 0, 4, 15, 0, 32, 0, 224, 480, 0, 1120, 0, 7264, 15456] Tryd.mixed (by kernel_rfl) (by kernel_rfl) ?_
  simp (config := { maxSteps := 1000000 }) only [go_sem, Int.reduceToNat, Int.reduceLE, Int.reduceLT, Int.reduceAdd, Int.reduceSub, Int.reduceMul, Int.reduceEq, Int.reduceNe, Nat.reduceEqDiff, Nat.reducePow, Nat.reduceDiv, Nat.reduceMod, Nat.reduceAdd, Nat.reduceMul, Nat.reduceSub, Nat.reduceLT, Nat.reduceLeDiff, reduceIte, reduceCtorEq, hneg1, hneg2, bin_neq_bool Tryd.underlying4, appendA_U]
  refine ⟨_, [], PCall.pure fun H2 => s1 H2 _ ⟨rfl, rfl⟩, ?_⟩
  simp (config := { maxSteps := 1000000 }) only [go_sem, Int.reduceToNat, Int.reduceLE, Int.reduceLT, Int.reduceAdd, Int.reduceSub, Int.reduceMul, Int.reduceEq, Int.reduceNe, Nat.reduceEqDiff, Nat.reducePow, Nat.reduceDiv, Nat.reduceMod, Nat.reduceAdd, Nat.reduceMul, Nat.reduceSub, Nat.reduceLT, Nat.reduceLeDiff, reduceIte, reduceCtorEq, hneg1, hneg2, gne, q1, w1, appendA_U]
  refine ⟨_, [], PCall.pure fun H2 => s2 H2 _ ⟨rfl, rfl⟩, ?_⟩
  simp (config := { maxSteps := 1000000 }) only [go_sem, Int.reduceToNat, Int.reduceLE, Int.reduceLT, Int.reduceAdd, Int.reduceSub, Int.reduceMul, Int.reduceEq, Int.reduceNe, Nat.reduceEqDiff, Nat.reducePow, Nat.reduceDiv, Nat.reduceMod, Nat.reduceAdd, Nat.reduceMul, Nat.reduceSub, Nat.reduceLT, Nat.reduceLeDiff, reduceIte, reduceCtorEq, hneg1, hneg2, gne, q2, w2, appendA_U]
  refine AApply.clo (fit_spec false nq dq (by omega) (by omega) _ _ ⟨trivial, ?_⟩)
  simp (config := { maxSteps := 1000000 }) only [go_sem, Int.reduceToNat, Int.reduceLE, Int.reduceLT, Int.reduceAdd, Int.reduceSub, Int.reduceMul, Int.reduceEq, Int.reduceNe, Nat.reduceEqDiff, Nat.reducePow, Nat.reduceDiv, Nat.reduceMod, Nat.reduceAdd, Nat.reduceMul, Nat.reduceSub, Nat.reduceLT, Nat.reduceLeDiff, reduceIte, reduceCtorEq, qV, appendA_U]
  repeat (refine And.intro (by first | omega | (simp; done) | (simp; omega) | (intros; omega) | exact ⟨rfl, by omega, by omega, all_one_ints _⟩) ?_)
  refine FinV.mk (Nat.zero_le _) ⟨_, rfl, .agg rfl fun i hi _ => ?_⟩
  match i, hi with
  | 0, _ => exact .lit _
  | 1, _ => exact .lit _

theorem make_spec (n d : Nat) (hn : n ≤ 4611686018427387903) (hd : d ≤ 4611686018427387903) (hd0 : 0 < d) (H : AHeap) (K : ARes → AHeap → Prop) (hK : K (.ret (.tup [redV n d, .lit (.int .i64 0)])) H) :
    ACall Tryd.prog G0 46 [.lit (.int .i64 (n : Int)), .lit (.int .i64 (d : Int))] H K := by
  refine ACall.clo ⟨_, Tryd.func46, rfl, rfl⟩ fun hcl => ?_
  have hne : ¬ (d : Int) = 0 := by omega
  have e : redV n d = qV (n / Nat.gcd n d : Nat) (d / Nat.gcd n d : Nat) := by
    unfold redV
    rw [Int.gcd_natCast_natCast, Int.natCast_ediv, Int.natCast_ediv]
  rw [e] at hK
  refine ACall.of_body (n := 13) (rs := [.cell 4 29, .tmp 5]) Tryd.func46 rfl rfl rfl (by decide) (by kernel_rfl) (by simp) ?_
  simp (config := { maxSteps := 1000000 }) only [go_sem, Int.reduceToNat, Int.reduceLE, Int.reduceLT, Int.reduceAdd, Int.reduceSub, Int.reduceMul, Int.reduceEq, Int.reduceNe, Nat.reduceEqDiff, Nat.reducePow, Nat.reduceDiv, Nat.reduceMod, Nat.reduceAdd, Nat.reduceMul, Nat.reduceSub, Nat.reduceLT, Nat.reduceLeDiff, reduceIte, reduceCtorEq, hne, appendA_U]
  obtain ⟨H1, hH1⟩ : ∃ H1, H1 = ext H [.arr 0 3 [.lit (.int .i64 (n : Int))], .arr 0 3 [.lit (.int .i64 (d : Int))], .arr 0 29 [.lit (.int .i64 0), .lit (.int .i64 0)]] := ⟨_, rfl⟩
  have n1 : H1.next = H.next + 3 := by rw [hH1]; rfl
  have k0 : H1.get H.next = some (.arr 0 3 [.lit (.int .i64 (n : Int))]) := by rw [hH1]; exact get_ext0 ..
  have k1 : H1.get (H.next + 1) = some (.arr 0 3 [.lit (.int .i64 (d : Int))]) := by rw [hH1]; exact get_ext H _ 1 (by simp)
  rw [← hH1]
  refine AApply.clo ((gd61 G0_ok 62 [.ptr H.next 0 0, .ptr (H.next + 1) 0 0] [.vptr [.lit (.int .i64 (n : Int))] 0, .vptr [.lit (.int .i64 (d : Int))] 0] H1 (some (qV (n / Nat.gcd n d : Nat) (d / Nat.gcd n d : Nat))) rfl (fun H2 hag i h h' => ?_) (fun u hu => ?_) (make1_spec n d hn hd hd0)).mono ?_)
  · match i, h with
    | 0, _ => exact .pfrz trivial ((hag _ (by omega)).trans k0) (by simp) rfl fun i hi _ => match i, hi with | 0, _ => .lit _
    | 1, _ => exact .pfrz trivial ((hag _ (by omega)).trans k1) (by simp) rfl fun i hi _ => match i, hi with | 0, _ => .lit _
  · cases hu; rfl
  · rintro r H' ⟨rfl, rfl⟩
    refine ⟨trivial, ?_⟩
    rw [hH1]
    simp (config := { maxSteps := 1000000 }) only [go_sem, Int.reduceToNat, Int.reduceLE, Int.reduceLT, Int.reduceAdd, Int.reduceSub, Int.reduceMul, Int.reduceEq, Int.reduceNe, Nat.reduceEqDiff, Nat.reducePow, Nat.reduceDiv, Nat.reduceMod, Nat.reduceAdd, Nat.reduceMul, Nat.reduceSub, Nat.reduceLT, Nat.reduceLeDiff, reduceIte, reduceCtorEq, gdOut, qV, appendA_U]
    refine FinV.drop (v' := .tup [qV (n / Nat.gcd n d : Nat) (d / Nat.gcd n d : Nat), .lit (.int .i64 0)]) G0_ok hcl (.tup rfl fun i hi _ => ?_) hK
    match i, hi with
    | 0, _ => exact fz_lits _ _
    | 1, _ => exact .lit _
end Go.Proofs
set_option linter.unusedSimpArgs false
set_option maxRecDepth 100000
namespace Go.Proofs
open Go.Hx

theorem ways_grid {t : List (List Int)} (hok : TableOk t) : waysP (rowsOf t) (grid9 t) (colsOf t).length (rowsOf t).length = (wayN t : Int) := by
  rw [← refWays_wayN hok]
  unfold waysI
  congr 1
  · exact colsOf_len t
  · simp [rowsOf]
theorem Tail_spec (t : List (List Int)) (hlt : (t.length : Int) < 2 ^ 40) (hlr : ∀ r, r ∈ t → (r.length : Int) < 2 ^ 40) (H : AHeap) (K : ARes → AHeap → Prop)
    (hK : K (.ret (if TableOk t then .tup [redV (tailN t) (mul (colsOf t)), .lit (.int .i64 0)] else .tup [qV 0 0, .lit (.int .i64 300)])) H) : ACall Tryd.prog G0 16 [vecV t] H K := by
  refine ACall.clo ⟨_, Tryd.func16, rfl, rfl⟩ fun hcl => ?_
  refine ACall.of_body (n := 49) (rs := [.cell 2 29, .tmp 3]) Tryd.func16 rfl rfl rfl (by decide) (by kernel_rfl) (by simp) ?_
  simp (config := { maxSteps := 1000000 }) only [go_sem, Int.reduceToNat, Int.reduceLE, Int.reduceLT, Int.reduceAdd, Int.reduceSub, Int.reduceMul, Int.reduceEq, Int.reduceNe, Nat.reduceEqDiff, Nat.reducePow, Nat.reduceDiv, Nat.reduceMod, Nat.reduceAdd, Nat.reduceMul, Nat.reduceSub, Nat.reduceLT, Nat.reduceLeDiff, reduceIte, reduceCtorEq, vecV, appendA_U]
  refine AApply.clo (check_spec t hlt hlr _ _ ⟨trivial, ?_⟩)
  by_cases hok : TableOk t
  rotate_left
  · rw [if_neg hok] at hK ⊢
    simp (config := { maxSteps := 1000000 }) only [go_sem, Int.reduceToNat, Int.reduceLE, Int.reduceLT, Int.reduceAdd, Int.reduceSub, Int.reduceMul, Int.reduceEq, Int.reduceNe, Nat.reduceEqDiff, Nat.reducePow, Nat.reduceDiv, Nat.reduceMod, Nat.reduceAdd, Nat.reduceMul, Nat.reduceSub, Nat.reduceLT, Nat.reduceLeDiff, reduceIte, reduceCtorEq, appendA_U]
    refine FinV.drop (v' := .tup [qV 0 0, .lit (.int .i64 300)]) G0_ok hcl (.tup rfl fun i hi _ => ?_) hK
    match i, hi with
    | 0, _ => exact fz_lits _ _
    | 1, _ => exact .lit _
  rw [if_pos hok] at hK ⊢
  obtain ⟨r1, r2, r3⟩ := rows_le hok
  obtain ⟨c1, c2, c3⟩ := cols_ok hok
  have hR : 2 ≤ (rowsOf t).length ∧ (rowsOf t).length ≤ 3 := ⟨by have := hok.1; simpa [rowsOf] using this, r1⟩
  have hC : 2 ≤ (colsOf t).length ∧ (colsOf t).length ≤ 3 := ⟨by
    rw [colsOf_len]
    have h1 := hok.1
    have := rows_ok hok (t.headD []) (by cases t with | nil => simp at h1 | cons a l => simp)
    exact this.2.1, c1⟩
  simp (config := { maxSteps := 1000000 }) only [go_sem, Int.reduceToNat, Int.reduceLE, Int.reduceLT, Int.reduceAdd, Int.reduceSub, Int.reduceMul, Int.reduceEq, Int.reduceNe, Nat.reduceEqDiff, Nat.reducePow, Nat.reduceDiv, Nat.reduceMod, Nat.reduceAdd, Nat.reduceMul, Nat.reduceSub, Nat.reduceLT, Nat.reduceLeDiff, reduceIte, reduceCtorEq, appendA_U]
  refine AApply.clo (margins_spec t hok _ _ ⟨trivial, ?_⟩)
  simp (config := { maxSteps := 1000000 }) only [go_sem, Int.reduceToNat, Int.reduceLE, Int.reduceLT, Int.reduceAdd, Int.reduceSub, Int.reduceMul, Int.reduceEq, Int.reduceNe, Nat.reduceEqDiff, Nat.reducePow, Nat.reduceDiv, Nat.reduceMod, Nat.reduceAdd, Nat.reduceMul, Nat.reduceSub, Nat.reduceLT, Nat.reduceLeDiff, reduceIte, reduceCtorEq, appendA_U]
  refine AApply.clo (fill_spec t hok _ _ ⟨trivial, ?_⟩)
  simp (config := { maxSteps := 1000000 }) only [go_sem, Int.reduceToNat, Int.reduceLE, Int.reduceLT, Int.reduceAdd, Int.reduceSub, Int.reduceMul, Int.reduceEq, Int.reduceNe, Nat.reduceEqDiff, Nat.reducePow, Nat.reduceDiv, Nat.reduceMod, Nat.reduceAdd, Nat.reduceMul, Nat.reduceSub, Nat.reduceLT, Nat.reduceLeDiff, reduceIte, reduceCtorEq, grid9_len, all_one_ints, appendA_U]
  refine AApply.clo ((ways_ptr (grid9 t) (rowsOf t) (colsOf t).length (grid9_len t) (grid9_ok hok) r1 r2 r3 c1 _ (H.next + 3) 0 76 (get_ext H _ 3 (by simp))).mono ?_)
  rintro r H' ⟨rfl, rfl⟩
  rw [ways_grid hok]
  refine ⟨trivial, ?_⟩
  simp (config := { maxSteps := 1000000 }) only [go_sem, Int.reduceToNat, Int.reduceLE, Int.reduceLT, Int.reduceAdd, Int.reduceSub, Int.reduceMul, Int.reduceEq, Int.reduceNe, Nat.reduceEqDiff, Nat.reducePow, Nat.reduceDiv, Nat.reduceMod, Nat.reduceAdd, Nat.reduceMul, Nat.reduceSub, Nat.reduceLT, Nat.reduceLeDiff, reduceIte, reduceCtorEq, appendA_U]
  refine AApply.clo (tables_clo (rowsOf t) (colsOf t) _ _ ⟨trivial, ?_⟩)
  simp (config := { maxSteps := 1000000 }) only [go_sem, Int.reduceToNat, Int.reduceLE, Int.reduceLT, Int.reduceAdd, Int.reduceSub, Int.reduceMul, Int.reduceEq, Int.reduceNe, Nat.reduceEqDiff, Nat.reducePow, Nat.reduceDiv, Nat.reduceMod, Nat.reduceAdd, Nat.reduceMul, Nat.reduceSub, Nat.reduceLT, Nat.reduceLeDiff, reduceIte, reduceCtorEq, appendA_U]
  obtain ⟨w, hw⟩ : ∃ w, w = wayN t := ⟨_, rfl⟩
  rw [← hw]
  obtain ⟨HB, hHB⟩ : ∃ HB, HB = ext (ext H [.arr 0 29 [.lit (.int .i64 0), .lit (.int .i64 0)], .arr 0 46 [vecI (rowsOf t)], .arr 0 46 [vecI (colsOf t)], .arr 0 76 (ints (grid9 t)), .arr 0 3 [.lit (.int .i64 (w : Int))], .arr 0 3 [.lit (.int .i64 0)]]) [.arr 0 46 [vecI (rowsOf t)], .arr 0 46 [vecI (colsOf t)]] := ⟨_, rfl⟩
  have nB : HB.next = H.next + 8 := by rw [hHB]; rfl
  have ovB : Over H HB := by rw [hHB]; exact (Over.ext _ _).trans (Over.ext _ _)
  have g0 : HB.get H.next = some (.arr 0 29 [.lit (.int .i64 0), .lit (.int .i64 0)]) := by rw [hHB, get_ext_old _ _ _ (by simp [ext_next]), get_ext0]
  have g1 : HB.get (H.next + 1) = some (.arr 0 46 [vecI (rowsOf t)]) := by rw [hHB, get_ext_old _ _ _ (by simp [ext_next]), get_ext H _ 1 (by simp)]; rfl
  have g2 : HB.get (H.next + 2) = some (.arr 0 46 [vecI (colsOf t)]) := by rw [hHB, get_ext_old _ _ _ (by simp [ext_next]), get_ext H _ 2 (by simp)]; rfl
  have g4 : HB.get (H.next + 4) = some (.arr 0 3 [.lit (.int .i64 (w : Int))]) := by rw [hHB, get_ext_old _ _ _ (by simp [ext_next]), get_ext H _ 4 (by simp)]; rfl
  have g5 : HB.get (H.next + 5) = some (.arr 0 3 [.lit (.int .i64 0)]) := by rw [hHB, get_ext_old _ _ _ (by simp [ext_next]), get_ext H _ 5 (by simp)]; rfl
  have g6 : HB.get (H.next + 6) = some (.arr 0 46 [vecI (rowsOf t)]) := by rw [hHB]; exact get_ext0 (ext H _) _ _
  have g7 : HB.get (H.next + 6 + 1) = some (.arr 0 46 [vecI (colsOf t)]) := by rw [hHB]; exact get_ext (ext H _) _ 1 (by simp)
  show W _ _ _ _ _ _ ⟨_, ext (ext H [.arr 0 29 [.lit (.int .i64 0), .lit (.int .i64 0)], .arr 0 46 [vecI (rowsOf t)], .arr 0 46 [vecI (colsOf t)], .arr 0 76 (ints (grid9 t)), .arr 0 3 [.lit (.int .i64 (w : Int))], .arr 0 3 [.lit (.int .i64 0)]]) [.arr 0 46 [vecI (rowsOf t)], .arr 0 46 [vecI (colsOf t)]]⟩
  rw [← hHB]
  refine W.env fun E hE => ?_
  have e2 : E 2 = .ptr H.next 0 0 := by rw [hE]; rfl
  have e5 : E 5 = .ptr (H.next + 1) 0 0 := by rw [hE]; rfl
  have e6 : E 6 = .ptr (H.next + 2) 0 0 := by rw [hE]; rfl
  have e8 : E 8 = .ptr (H.next + 4) 0 0 := by rw [hE]; rfl
  have e9 : E 9 = .ptr (H.next + 5) 0 0 := by rw [hE]; rfl
  refine W.rangeFunc (f := 53) (first := []) (cap := [.ptr (H.next + 6 + 1) 0 0, .ptr (H.next + 6) 0 0]) (by show E 31 = _; rw [hE]; rfl) ?_
  refine ⟨_, lay_next _ _, ?_⟩
  refine blk_gen (fun B => ACall _ _ _ _ (ext HB [B]) _) fun B hB => ?_
  obtain ⟨idy, hidy⟩ : ∃ idy, idy = HB.next := ⟨_, rfl⟩
  let J : List (List (List Int)) → AHeap → Prop := fun acc Hx => Hx.get idy = some B ∧ Hx.get H.next = some (.arr 0 29 [.lit (.int .i64 0), .lit (.int .i64 0)]) ∧ Hx.get (H.next + 1) = some (.arr 0 46 [vecI (rowsOf t)]) ∧ Hx.get (H.next + 2) = some (.arr 0 46 [vecI (colsOf t)]) ∧ Hx.get (H.next + 4) = some (.arr 0 3 [.lit (.int .i64 (w : Int))]) ∧
    Hx.get (H.next + 6) = some (.arr 0 46 [vecI (rowsOf t)]) ∧ Hx.get (H.next + 6 + 1) = some (.arr 0 46 [vecI (colsOf t)]) ∧ Over H Hx ∧ H.next + 9 ≤ Hx.next ∧ Hx.get (H.next + 5) = some (.arr 0 3 [.lit (.int .i64 (tailS acc w : Nat))])
  have nB1 : (ext HB [B]).next = H.next + 9 := by rw [ext_next, nB]; rfl
  have hsumRC : (rowsOf t).sum = (colsOf t).sum := by
    have : (colsOf t).sum = (rowsOf t).sum := by unfold colsOf; rw [colSum fun r hm => (rows_ok hok r hm).1]; rfl
    exact this.symm
  have f20 := fac20
  have hml := mul_le hok
  refine iter_spec (rowsOf t) (colsOf t) hR hC (fun s hs => ⟨r2 s hs, Int.le_trans (le_sum r2 s hs) r3⟩) (cols_cap hok) hsumRC J HB.next (H.next + 6) (H.next + 6 + 1) (ext HB [B]) _ (fun acc H1 h => ⟨h.2.2.2.2.2.1, h.2.2.2.2.2.2.1⟩) (by omega) (by omega)
    (by rw [ext1_get_old (by omega)]; exact g6) (by rw [ext1_get_old (by omega)]; exact g7) (fun H' ho => ?_) (fun acc H1 id x h1 h2 hj => ?_) (fun acc x H1 K1 hj hn hf hk => ?_) fun H' hj hn => ?_
  · have old : ∀ k, k < 8 → H'.get (H.next + k) = HB.get (H.next + k) := fun k hk => by rw [ho.old _ (by omega), ext1_get_old (by omega)]
    refine ⟨by rw [ho.old _ (by omega), hidy]; exact ext1_get_new, by have := old 0 (by omega); rw [Nat.add_zero] at this; rw [this]; exact g0, (old 1 (by omega)).trans g1, (old 2 (by omega)).trans g2, (old 4 (by omega)).trans g4, (old 6 (by omega)).trans g6, (old 7 (by omega)).trans g7,
      (ovB.trans (Over.ext _ _)).trans ho, by have := ho.next; omega, (old 5 (by omega)).trans g5⟩
  · rw [nB1] at h1 h2
    have ne : ∀ k, k < H.next + 9 → (H1.upd id x).get k = H1.get k := fun k hk => by rw [upd_get, if_neg (by omega)]
    obtain ⟨a1, a2, a3, a4, a5, a6, a7, a8, a9, a10⟩ := hj
    exact ⟨by rw [ne _ (by omega)]; exact a1, by rw [ne _ (by omega)]; exact a2, by rw [ne _ (by omega)]; exact a3, by rw [ne _ (by omega)]; exact a4, by rw [ne _ (by omega)]; exact a5, by rw [ne _ (by omega)]; exact a6, by rw [ne _ (by omega)]; exact a7,
      ⟨by rw [upd_next]; exact a8.next, fun k hk => by rw [ne _ (by omega)]; exact a8.old k hk⟩, by rw [upd_next]; exact a9, by rw [ne _ (by omega)]; exact a10⟩
  · obtain ⟨a1, a2, a3, a4, a5, a6, a7, a8, a9, a10⟩ := hj
    have hxm : x ∈ allT t := by
      obtain ⟨tl, htl⟩ := hf
      show x ∈ tablesL (rowsOf t) (colsOf t)
      rw [htl]; simp
    obtain ⟨x1, x2, x3, x4, x5⟩ := mem_allT hok hxm
    have a1' : H1.get HB.next = some B := by rw [← hidy]; exact a1
    obtain ⟨B2, hB2, hB2l⟩ : ∃ B2, beginA (some B) = some B2 ∧ ∃ st pd n en ps as' bo, B2 = Blk.loop st pd n en ps as' bo := by rw [hB]; exact ⟨_, rfl, _, _, _, _, _, _, _, rfl⟩
    obtain ⟨B3, hB3, hB3e⟩ : ∃ B3, setLoop .ready none (some B2) = some B3 ∧ B3 = B := by
      rw [hB] at hB2 ⊢
      cases hB2
      exact ⟨_, rfl, rfl⟩
    refine AApply.yld (a1'.trans (congrArg some hB)) rfl (by decide) ?_
    have hgx : ∀ L, (ext H1 L).get HB.next = some B := fun L => by rw [get_ext_old _ _ _ (by omega)]; exact a1'
    refine vc_sound _ _ _ (by rfl) ?_
    simp (config := { maxSteps := 1000000 }) only [go_sem, Int.reduceToNat, Int.reduceLE, Int.reduceLT, Int.reduceAdd, Int.reduceSub, Int.reduceMul, Int.reduceEq, Int.reduceNe, Nat.reduceEqDiff, Nat.reducePow, Nat.reduceDiv, Nat.reduceMod, Nat.reduceAdd, Nat.reduceMul, Nat.reduceSub, Nat.reduceLT, Nat.reduceLeDiff, reduceIte, reduceCtorEq, setPs, envN, asgQ, hgx, hB2, grid9_len, List.foldl_cons, List.foldl_nil, List.zip_cons_cons, List.zip_nil_right, appendA_U]
    refine ⟨all_one_ints _, ?_⟩
    obtain ⟨H3, hH3⟩ : ∃ H3, H3 = (ext H1 [.arr 0 76 (ints (grid9 x))]).upd HB.next B2 := ⟨_, rfl⟩
    rw [← hH3]
    have n3 : H3.next = H1.next + 1 := by rw [hH3]; rfl
    have h3old : ∀ id, id < H1.next → id ≠ HB.next → H3.get id = H1.get id := fun id h1 h2 => by rw [hH3, upd_get, if_neg h2, ext1_get_old h1]
    have h3g : H3.get H1.next = some (.arr 0 76 (ints (grid9 x))) := by rw [hH3, upd_get, if_neg (by omega)]; exact ext1_get_new
    have h3l : H3.get HB.next = some B2 := by rw [hH3, upd_get, if_pos rfl]
    have l1 : H3.live (H.next + 1) 0 = some (46, [vecI (rowsOf t)]) := get_live ((h3old _ (by omega) (by omega)).trans a3)
    have l2 : H3.live (H.next + 2) 0 = some (46, [vecI (colsOf t)]) := get_live ((h3old _ (by omega) (by omega)).trans a4)
    have l4 : H3.live (H.next + 4) 0 = some (3, [.lit (.int .i64 (w : Int))]) := get_live ((h3old _ (by omega) (by omega)).trans a5)
    have l5 : H3.live (H.next + 5) 0 = some (3, [.lit (.int .i64 (tailS acc w : Nat))]) := get_live ((h3old _ (by omega) (by omega)).trans a10)
    refine vc_sound _ _ _ (by rfl) ?_
    simp (config := { maxSteps := 1000000 }) only [go_sem, Int.reduceToNat, Int.reduceLE, Int.reduceLT, Int.reduceAdd, Int.reduceSub, Int.reduceMul, Int.reduceEq, Int.reduceNe, Nat.reduceEqDiff, Nat.reducePow, Nat.reduceDiv, Nat.reduceMod, Nat.reduceAdd, Nat.reduceMul, Nat.reduceSub, Nat.reduceLT, Nat.reduceLeDiff, reduceIte, reduceCtorEq, envN, e5, e6, l1, l2, appendA_U]
    refine AApply.clo ((ways_ptr (grid9 x) (rowsOf t) (colsOf t).length (grid9_len x) (grid9_ok x1) r1 r2 r3 c1 H3 H1.next 0 76 h3g).mono ?_)
    rintro r H' ⟨rfl, rfl⟩
    have hwx := ways_grid x1
    rw [x2, x3] at hwx
    rw [hwx]
    refine ⟨?_, ?_⟩
    · obtain ⟨st, pd, n', en, ps, as', bo, hh⟩ := hB2l
      exact ⟨st, pd, n', en, ps, as', bo, by rw [h3l, hh]⟩
    have hstep : tailS (acc ++ [x]) w = tailS acc w + if wayN x ≤ w then wayN x else 0 := by
      unfold tailS; rw [sumL_append, sumL_cons, sumL_nil]; omega
    have hle : tailS (acc ++ [x]) w ≤ mul (colsOf t) := by
      obtain ⟨tl, htl⟩ := hf
      have h1 := tailS_le (acc ++ [x]) w
      have h2 : sumL (allT t) wayN = mul (colsOf t) := allT_sum hok
      have h3 : allT t = (acc ++ [x]) ++ tl := by show tablesL _ _ = _; rw [htl]; simp
      rw [h3, sumL_append] at h2
      omega
    have p4 : ∀ b, (H'.upd (H.next + 5) b).get HB.next = some B2 := fun b => by rw [upd_get, if_neg (by omega)]; exact h3l
    have fin : ∀ Hf : AHeap, Hf.next = H'.next → (∀ id, id < H1.next → id ≠ H.next + 5 → id ≠ HB.next → Hf.get id = H1.get id) → Hf.get HB.next = some B → Hf.get (H.next + 5) = some (.arr 0 3 [.lit (.int .i64 (tailS (acc ++ [x]) w : Nat))]) → K1 (.ret (.lit (.bool true))) Hf := fun Hf hn1 hg hB1 h51 =>
      hk Hf ⟨by rw [hidy]; exact hB1, by rw [hg _ (by omega) (by omega) (by omega)]; exact a2, by rw [hg _ (by omega) (by omega) (by omega)]; exact a3, by rw [hg _ (by omega) (by omega) (by omega)]; exact a4, by rw [hg _ (by omega) (by omega) (by omega)]; exact a5,
        by rw [hg _ (by omega) (by omega) (by omega)]; exact a6, by rw [hg _ (by omega) (by omega) (by omega)]; exact a7, ⟨by omega, fun id h => by rw [hg _ (by omega) (by omega) (by omega)]; exact a8.old id h⟩, by omega, h51⟩ (fun id h1 h2 => hg id (by omega) (by omega) (by omega)) (by omega)
    by_cases hxw : wayN x ≤ w
    · rw [if_pos hxw] at hstep
      have hxw' : (wayN x : Int) ≤ (w : Int) := by omega
      have w1 := IntWalk.i64_in ((tailS acc w : Int) + (wayN x : Int)) (by omega)
      simp (config := { maxSteps := 1000000 }) only [go_sem, Int.reduceToNat, Int.reduceLE, Int.reduceLT, Int.reduceAdd, Int.reduceSub, Int.reduceMul, Int.reduceEq, Int.reduceNe, Nat.reduceEqDiff, Nat.reducePow, Nat.reduceDiv, Nat.reduceMod, Nat.reduceAdd, Nat.reduceMul, Nat.reduceSub, Nat.reduceLT, Nat.reduceLeDiff, reduceIte, reduceCtorEq, envN, e8, e9, l4, l5, hxw', w1, p4, roundQ, hB3, appendA_U]
      refine fin _ rfl (fun id h1 h2 h3 => by rw [upd_get, if_neg h3, upd_get, if_neg h2]; exact h3old id h1 h3) (by rw [upd_get, if_pos rfl, hB3e]) ?_
      rw [upd_get, if_neg (by omega), upd_get, if_pos rfl, hstep, Int.natCast_add]
    · rw [if_neg hxw] at hstep
      have hxw' : ¬ (wayN x : Int) ≤ (w : Int) := by omega
      simp (config := { maxSteps := 1000000 }) only [go_sem, Int.reduceToNat, Int.reduceLE, Int.reduceLT, Int.reduceAdd, Int.reduceSub, Int.reduceMul, Int.reduceEq, Int.reduceNe, Nat.reduceEqDiff, Nat.reducePow, Nat.reduceDiv, Nat.reduceMod, Nat.reduceAdd, Nat.reduceMul, Nat.reduceSub, Nat.reduceLT, Nat.reduceLeDiff, reduceIte, reduceCtorEq, envN, e8, e9, l4, l5, hxw', h3l, roundQ, hB3, appendA_U]
      refine fin _ rfl (fun id h1 h2 h3 => by rw [upd_get, if_neg h3]; exact h3old id h1 h3) (by rw [upd_get, if_pos rfl, hB3e]) ?_
      rw [upd_get, if_neg (by omega), h3old _ (by omega) (by omega), a10, hstep]; rfl
  · obtain ⟨a1, a2, a3, a4, a5, a6, a7, a8, a9, a10⟩ := hj
    have hend : ∃ st, endA (H'.get HB.next) = some (none, st) := by rw [← hidy, a1, hB]; exact ⟨_, rfl⟩
    obtain ⟨st, hst⟩ := hend
    refine ⟨trivial, _, hst, ?_⟩
    have u0 : (H'.upd HB.next st).live H.next 0 = some (29, [.lit (.int .i64 0), .lit (.int .i64 0)]) := by rw [live_upd, if_neg (by omega)]; exact get_live a2
    have u2 : (H'.upd HB.next st).live (H.next + 2) 0 = some (46, [vecI (colsOf t)]) := by rw [live_upd, if_neg (by omega)]; exact get_live a4
    have u5 : (H'.upd HB.next st).live (H.next + 5) 0 = some (3, [.lit (.int .i64 (tailS (tablesL (rowsOf t) (colsOf t)) w : Nat))]) := by rw [live_upd, if_neg (by omega)]; exact get_live a10
    show jumpQ _ ⟨E, H'.upd HB.next st⟩ none
    obtain ⟨Hz, hHz⟩ : ∃ Hz, Hz = H'.upd HB.next st := ⟨_, rfl⟩
    have hov : Over H Hz := by rw [hHz]; exact ⟨by rw [upd_next]; exact a8.next, fun k hk => by rw [upd_get, if_neg (by omega)]; exact a8.old k hk⟩
    have nz : Hz.next = H'.next := by rw [hHz]; rfl
    rw [← hHz] at u0 u2 u5 ⊢
    have htl := tailN_le hok
    have htN : tailS (tablesL (rowsOf t) (colsOf t)) w = tailN t := by rw [hw]; rfl
    rw [htN] at u5
    simp (config := { maxSteps := 1000000 }) only [go_sem, Int.reduceToNat, Int.reduceLE, Int.reduceLT, Int.reduceAdd, Int.reduceSub, Int.reduceMul, Int.reduceEq, Int.reduceNe, Nat.reduceEqDiff, Nat.reducePow, Nat.reduceDiv, Nat.reduceMod, Nat.reduceAdd, Nat.reduceMul, Nat.reduceSub, Nat.reduceLT, Nat.reduceLeDiff, reduceIte, reduceCtorEq, jumpQ, appendA_U]
    refine W.draw 6 [0, 0, 2, 7, 15, 15] Tryd.mixed (by kernel_rfl) (by kernel_rfl) ?_
    simp (config := { maxSteps := 1000000 }) only [go_sem, Int.reduceToNat, Int.reduceLE, Int.reduceLT, Int.reduceAdd, Int.reduceSub, Int.reduceMul, Int.reduceEq, Int.reduceNe, Nat.reduceEqDiff, Nat.reducePow, Nat.reduceDiv, Nat.reduceMod, Nat.reduceAdd, Nat.reduceMul, Nat.reduceSub, Nat.reduceLT, Nat.reduceLeDiff, reduceIte, reduceCtorEq, e2, e6, e9, u0, u2, u5, appendA_U]
    have tm := total_mul hok
    have st1 : ∀ (H2 : AHeap) (K : ARes → AHeap → Prop), K (.ret (.lit (.int .i64 (mul (colsOf t) : Nat)))) H2 → ACall Tryd.prog G0 41 [vecI (colsOf t)] H2 K := fun H2 K h => total_spec (colsOf t) c1 c2 c3 H2 K (by rw [tm]; exact h)
    refine ⟨_, [], PCall.pure fun H2 => st1 H2 _ ⟨rfl, rfl⟩, _, [], PCall.pure fun H2 => make_spec (tailN t) (mul (colsOf t)) (by omega) (by omega) hml.2 H2 _ ⟨rfl, rfl⟩, ?_⟩
    simp (config := { maxSteps := 1000000 }) only [go_sem, Int.reduceToNat, Int.reduceLE, Int.reduceLT, Int.reduceAdd, Int.reduceSub, Int.reduceMul, Int.reduceEq, Int.reduceNe, Nat.reduceEqDiff, Nat.reducePow, Nat.reduceDiv, Nat.reduceMod, Nat.reduceAdd, Nat.reduceMul, Nat.reduceSub, Nat.reduceLT, Nat.reduceLeDiff, reduceIte, reduceCtorEq, e2, u0, redV, qV, live_upd, appendA_U]
    refine FinV.dropO (v' := .tup [redV (tailN t) (mul (colsOf t)), .lit (.int .i64 0)]) G0_ok hcl ?_ (.tup rfl fun i hi _ => ?_) hK
    · exact ⟨hov.next, fun k hk => by rw [upd_get, if_neg (by omega)]; exact hov.old k hk⟩
    match i, hi with
    | 0, _ => exact fz_lits _ _
    | 1, _ => exact .lit _
end Go.Proofs
set_option linter.unusedSimpArgs false
set_option maxRecDepth 100000
namespace Go.Hx
variable {P : Program} {t e : TypeId} {x y : Operand} {k k' : IntKind} {a b c d : Int}
theorem equalIn_int (n : Nat) (he : P.underlying e = some (.int k)) : pureRun P (Op.equalIn (n + 1) e (.int k' a) (.int k' b)) = some (a == b) := by
  unfold Op.equalIn
  simp [underlying, program, he, pureRun, bind, Sem.bind, pure]
theorem equalIn_pair (n : Nat) (ht : P.underlying t = some (.array 2 e)) (he : P.underlying e = some (.int k)) (hs : P.cellsOf e = 1) :
    pureRun P (Op.equalIn (n + 2) t (.agg #[.int k' a, .int k' b]) (.agg #[.int k' c, .int k' d])) = some (a == c && b == d) := by
  unfold Op.equalIn
  have e1 : ∀ {α : Type} (f : TypeDesc → Sem α), pureRun P (underlying t >>= f) = pureRun P (f (.array 2 e)) := fun f => pureRun_bind (by simp [underlying, program, ht, pureRun, bind, Sem.bind, pure])
  have hinf : ∃ i, P.info? e = some i ∧ i.size = 1 := by
    obtain ⟨i, hi⟩ := info_of_und he
    exact ⟨i, hi, by simpa [Program.cellsOf, hi] using hs⟩
  obtain ⟨i, hi, hi1⟩ := hinf
  have e2 : ∀ {α : Type} (f : Nat → Sem α), pureRun P (sizeOf e >>= f) = pureRun P (f 1) := fun f => pureRun_bind (by simp [sizeOf, typeInfo, program, hi, hi1, pureRun, bind, Sem.bind, pure])
  have e3 : ∀ {α : Type} (cs : Array Value) (o : Nat) (v : Value) (f : Value → Sem α), cs[o]? = some v → pureRun P (part e cs o >>= f) = pureRun P (f v) := fun cs o v f h => pureRun_bind (by simp [part, isAgg, underlying, program, he, h, pureRun, bind, Sem.bind, pure])
  have e4 : ∀ {α : Type} (p q : Int) (f : Bool → Sem α), pureRun P (Op.equalIn (n + 1) e (.int k' p) (.int k' q) >>= f) = pureRun P (f (p == q)) := fun p q f => pureRun_bind (equalIn_int n he)
  rw [e1]
  dsimp only
  rw [e2]
  simp only [Std.Legacy.Range.forIn_eq_forIn_range', Std.Legacy.Range.size, List.range', List.forIn_cons, List.forIn_nil]
  simp only [bind_assoc]
  rw [e3 _ _ (.int k' a) _ rfl, e3 _ _ (.int k' c) _ rfl, e4]
  by_cases h : (a == c) = true
  · rw [h]
    simp only [Bool.not_true, Bool.false_eq_true, if_false, pure_bind, bind_assoc]
    rw [e3 _ _ (.int k' b) _ rfl, e3 _ _ (.int k' d) _ rfl, e4]
    by_cases h2 : (b == d) = true
    · rw [h2]; rfl
    · rw [Bool.not_eq_true] at h2; rw [h2]; rfl
  · rw [Bool.not_eq_true] at h; rw [h]; rfl
theorem bin_eql_pair (ht : P.underlying t = some (.array 2 e)) (he : P.underlying e = some (.int k)) (hs : P.cellsOf e = 1) (hg : P.eqGuardType P.depth t = false) :
    binA P .eql t x y (.agg [.lit (.int k' a), .lit (.int k' b)]) (.agg [.lit (.int k' c), .lit (.int k' d)]) = some (.lit (.bool (a == c && b == d))) := by
  show (pureRun P (do eqGuard .eql t x y (.agg #[.int k' a, .int k' b]) (.agg #[.int k' c, .int k' d]); binOp .eql t (.agg #[.int k' a, .int k' b]) (.agg #[.int k' c, .int k' d]))).map _ = _
  have h0 : pureRun P (eqGuard .eql t x y (.agg #[.int k' a, .int k' b]) (.agg #[.int k' c, .int k' d])) = some () := by
    simp [eqGuard, program, hg, pureRun, bind, Sem.bind, pure]
  have h1 : binOp .eql t (.agg #[.int k' a, .int k' b]) (.agg #[.int k' c, .int k' d]) = (Op.equalIn (9998 + 2) t (.agg #[.int k' a, .int k' b]) (.agg #[.int k' c, .int k' d]) >>= fun r => pure (Value.bool r)) := rfl
  rw [pureRun_bind h0, h1, pureRun_bind (equalIn_pair 9998 ht he hs)]
  rfl
end Go.Hx
namespace Go.Proofs
open Go.Hx
theorem bin_eql_wide {P : Program} {t e : TypeId} {x y : Operand} {k : IntKind} {a b : Nat} (ht : P.underlying t = some (.array 2 e)) (he : P.underlying e = some (.int k)) (hs : P.cellsOf e = 1) (hg : P.eqGuardType P.depth t = false) :
    binA P .eql t x y (wideV a) (wideV b) = some (.lit (.bool (decide (a = b)))) := by
  unfold wideV
  rw [bin_eql_pair ht he hs hg]
  congr 3
  have d1 := Nat.div_add_mod a 18446744073709551616
  have d2 := Nat.div_add_mod b 18446744073709551616
  by_cases h : a = b
  · subst h; simp
  · rw [decide_eq_false h]
    by_cases h1 : a / 18446744073709551616 = b / 18446744073709551616
    · have h2 : ¬ a % 18446744073709551616 = b % 18446744073709551616 := fun h2 => h (by rw [← d1, ← d2, h1, h2])
      have h3 : ¬ ((a % 18446744073709551616 : Nat) : Int) = ((b % 18446744073709551616 : Nat) : Int) := by omega
      rw [beq_eq_false_iff_ne.mpr h3, Bool.and_false]
    · have h3 : ¬ ((a / 18446744073709551616 : Nat) : Int) = ((b / 18446744073709551616 : Nat) : Int) := by omega
      rw [beq_eq_false_iff_ne.mpr h3, Bool.false_and]
def cmpN (x y : Nat) : Int := if x < y then -1 else if x = y then 0 else 1
set_option maxHeartbeats 2000000 in
theorem cmp1_spec (n1 d1 n2 d2 : Nat) (h1 : n1 ≤ 4611686018427387903) (h2 : d1 ≤ 4611686018427387903) (h3 : n2 ≤ 4611686018427387903) (h4 : d2 ≤ 4611686018427387903) (H : AHeap) (K : ARes → AHeap → Prop)
    (hK : K (.ret (.lit (.int .i64 (cmpN (n1 * d2) (n2 * d1))))) H) : ACall Tryd.prog G0 58 [qV n1 d1, qV n2 d2] H K := by
  refine ACall.clo ⟨_, Tryd.func58, rfl, rfl⟩ fun hcl => ?_
  have w1 := IntWalk.u64_in (d1 : Int) (by omega)
  have w2 := IntWalk.u64_in (d2 : Int) (by omega)
  have s : ∀ (n : Nat) (hn : n ≤ 4611686018427387903) (H2 : AHeap) (K : ARes → AHeap → Prop), K (.ret (.lit (.int .u64 (n : Int)))) H2 → ACall Tryd.prog G0 56 [.lit (.int .i64 (n : Int))] H2 K := fun n hn H2 K h => size_spec _ (by omega) H2 _ (by simpa using h)
  have z1 : ¬ (n1 : Int) < 0 := by omega
  have z2 : ¬ (n2 : Int) < 0 := by omega
  refine ACall.of_body (n := 44) (rs := [.tmp 4]) Tryd.func58 rfl rfl rfl (by decide) (by kernel_rfl) (by simp) ?_
  simp (config := { maxSteps := 1000000 }) only [go_sem, Int.reduceToNat, Int.reduceLE, Int.reduceLT, Int.reduceAdd, Int.reduceSub, Int.reduceMul, Int.reduceEq, Int.reduceNe, Nat.reduceEqDiff, Nat.reducePow, Nat.reduceDiv, Nat.reduceMod, Nat.reduceAdd, Nat.reduceMul, Nat.reduceSub, Nat.reduceLT, Nat.reduceLeDiff, reduceIte, reduceCtorEq, qV, appendA_U]
  refine W.draw 16 [0, 1, 3, 0, 8, 24, 63, 0, 128, 511, 0, 1024, 3072, 8191, 0, 0] Tryd.mixed (by kernel_rfl) (by kernel_rfl) ?_
  simp (config := { maxSteps := 1000000 }) only [go_sem, Int.reduceToNat, Int.reduceLE, Int.reduceLT, Int.reduceAdd, Int.reduceSub, Int.reduceMul, Int.reduceEq, Int.reduceNe, Nat.reduceEqDiff, Nat.reducePow, Nat.reduceDiv, Nat.reduceMod, Nat.reduceAdd, Nat.reduceMul, Nat.reduceSub, Nat.reduceLT, Nat.reduceLeDiff, reduceIte, reduceCtorEq, qV, appendA_U]
  have tm : ∀ (a b : Nat) (ha : a ≤ 4611686018427387903) (hb : b ≤ 4611686018427387903) (H2 : AHeap) (K : ARes → AHeap → Prop), K (.ret (wideV (a * b))) H2 → ACall Tryd.prog G0 59 [.lit (.int .u64 (a : Int)), .lit (.int .u64 (b : Int))] H2 K := fun a b ha hb H2 K h => times_spec a b (by omega) (by omega) H2 K h
  refine ⟨_, [], PCall.pure fun H2 => s n1 h1 H2 _ ⟨rfl, rfl⟩, ?_⟩
  simp (config := { maxSteps := 1000000 }) only [go_sem, Int.reduceToNat, Int.reduceLE, Int.reduceLT, Int.reduceAdd, Int.reduceSub, Int.reduceMul, Int.reduceEq, Int.reduceNe, Nat.reduceEqDiff, Nat.reducePow, Nat.reduceDiv, Nat.reduceMod, Nat.reduceAdd, Nat.reduceMul, Nat.reduceSub, Nat.reduceLT, Nat.reduceLeDiff, reduceIte, reduceCtorEq, qV, w1, w2, appendA_U]
  refine ⟨_, [], PCall.pure fun H2 => tm n1 d2 h1 h4 H2 _ ⟨rfl, rfl⟩, ?_⟩
  simp (config := { maxSteps := 1000000 }) only [go_sem, Int.reduceToNat, Int.reduceLE, Int.reduceLT, Int.reduceAdd, Int.reduceSub, Int.reduceMul, Int.reduceEq, Int.reduceNe, Nat.reduceEqDiff, Nat.reducePow, Nat.reduceDiv, Nat.reduceMod, Nat.reduceAdd, Nat.reduceMul, Nat.reduceSub, Nat.reduceLT, Nat.reduceLeDiff, reduceIte, reduceCtorEq, qV, w1, w2, appendA_U]
  refine ⟨_, [], PCall.pure fun H2 => s n2 h3 H2 _ ⟨rfl, rfl⟩, ?_⟩
  simp (config := { maxSteps := 1000000 }) only [go_sem, Int.reduceToNat, Int.reduceLE, Int.reduceLT, Int.reduceAdd, Int.reduceSub, Int.reduceMul, Int.reduceEq, Int.reduceNe, Nat.reduceEqDiff, Nat.reducePow, Nat.reduceDiv, Nat.reduceMod, Nat.reduceAdd, Nat.reduceMul, Nat.reduceSub, Nat.reduceLT, Nat.reduceLeDiff, reduceIte, reduceCtorEq, qV, w1, w2, appendA_U]
  refine ⟨_, [], PCall.pure fun H2 => tm n2 d1 h3 h2 H2 _ ⟨rfl, rfl⟩, ?_⟩
  have eqw : ∀ (o1 o2 : Operand) (a b : Nat), binA Tryd.prog .eql 97 o1 o2 (.agg [.lit (.int .u64 (a / 18446744073709551616 : Nat)), .lit (.int .u64 (a % 18446744073709551616 : Nat))]) (.agg [.lit (.int .u64 (b / 18446744073709551616 : Nat)), .lit (.int .u64 (b % 18446744073709551616 : Nat))]) = some (.lit (.bool (decide (a = b)))) := fun o1 o2 a b => bin_eql_wide (a := a) (b := b) Tryd.underlying97 Tryd.underlying92 (by kernel_rfl) (by kernel_rfl)
  simp (config := { maxSteps := 1000000 }) only [go_sem, Int.reduceToNat, Int.reduceLE, Int.reduceLT, Int.reduceAdd, Int.reduceSub, Int.reduceMul, Int.reduceEq, Int.reduceNe, Nat.reduceEqDiff, Nat.reducePow, Nat.reduceDiv, Nat.reduceMod, Nat.reduceAdd, Nat.reduceMul, Nat.reduceSub, Nat.reduceLT, Nat.reduceLeDiff, reduceIte, reduceCtorEq, qV, w1, w2, wideV, z1, z2, appendA_U]
  refine ⟨by refine ⟨?_, ?_, ?_, ?_, ?_, ?_, ?_, ?_⟩ <;> (intro x hx; omega), by refine ⟨?_, ?_, ?_, ?_, ?_, ?_, ?_, ?_⟩ <;> (intro x hx; omega), ?_⟩
  rw [ext_ext, ext_ext]
  simp only [List.cons_append, List.nil_append]
  have n3 : H.next + 2 + 1 = H.next + 3 := rfl
  by_cases hxy : n1 * d2 = n2 * d1
  · have e : cmpN (n1 * d2) (n2 * d1) = 0 := by unfold cmpN; rw [if_neg (by omega), if_pos hxy]
    simp (config := { maxSteps := 1000000 }) only [go_sem, Int.reduceToNat, Int.reduceLE, Int.reduceLT, Int.reduceAdd, Int.reduceSub, Int.reduceMul, Int.reduceEq, Int.reduceNe, Nat.reduceEqDiff, Nat.reducePow, Nat.reduceDiv, Nat.reduceMod, Nat.reduceAdd, Nat.reduceMul, Nat.reduceSub, Nat.reduceLT, Nat.reduceLeDiff, reduceIte, reduceCtorEq, n3, qV, w1, w2, wideV, z1, z2, bin_neq_bool Tryd.underlying4, eqw, hxy, appendA_U]
    rw [e] at hK
    exact FinV.drop G0_ok hcl (.lit _) hK
  simp (config := { maxSteps := 1000000 }) only [go_sem, Int.reduceToNat, Int.reduceLE, Int.reduceLT, Int.reduceAdd, Int.reduceSub, Int.reduceMul, Int.reduceEq, Int.reduceNe, Nat.reduceEqDiff, Nat.reducePow, Nat.reduceDiv, Nat.reduceMod, Nat.reduceAdd, Nat.reduceMul, Nat.reduceSub, Nat.reduceLT, Nat.reduceLeDiff, reduceIte, reduceCtorEq, n3, qV, w1, w2, wideV, z1, z2, bin_neq_bool Tryd.underlying4, eqw, hxy, appendA_U]
  refine W.draw 6 [0, 0, 3, 0, 8, 24] Tryd.mixed (by kernel_rfl) (by kernel_rfl) ?_
  simp (config := { maxSteps := 1000000 }) only [go_sem, Int.reduceToNat, Int.reduceLE, Int.reduceLT, Int.reduceAdd, Int.reduceSub, Int.reduceMul, Int.reduceEq, Int.reduceNe, Nat.reduceEqDiff, Nat.reducePow, Nat.reduceDiv, Nat.reduceMod, Nat.reduceAdd, Nat.reduceMul, Nat.reduceSub, Nat.reduceLT, Nat.reduceLeDiff, reduceIte, reduceCtorEq, n3, qV, w1, w2, wideV, z1, z2, bin_neq_bool Tryd.underlying4, eqw, hxy, appendA_U]
  refine ⟨_, [], PCall.pure fun H2 => less_spec (n1 * d2) (n2 * d1) H2 _ ⟨rfl, rfl⟩, ?_⟩
  have z3 : (0 : Int) ≤ (n1 : Int) := by omega
  by_cases hl : n1 * d2 < n2 * d1
  · have e : cmpN (n1 * d2) (n2 * d1) = -1 := by unfold cmpN; rw [if_pos hl]
    simp (config := { maxSteps := 1000000 }) only [go_sem, Int.reduceToNat, Int.reduceLE, Int.reduceLT, Int.reduceAdd, Int.reduceSub, Int.reduceMul, Int.reduceEq, Int.reduceNe, Nat.reduceEqDiff, Nat.reducePow, Nat.reduceDiv, Nat.reduceMod, Nat.reduceAdd, Nat.reduceMul, Nat.reduceSub, Nat.reduceLT, Nat.reduceLeDiff, reduceIte, reduceCtorEq, z3, bin_eql_bool Tryd.underlying4, hl, appendA_U]
    rw [e] at hK
    exact FinV.drop G0_ok hcl (.lit _) hK
  · have e : cmpN (n1 * d2) (n2 * d1) = 1 := by unfold cmpN; rw [if_neg hl, if_neg hxy]
    simp (config := { maxSteps := 1000000 }) only [go_sem, Int.reduceToNat, Int.reduceLE, Int.reduceLT, Int.reduceAdd, Int.reduceSub, Int.reduceMul, Int.reduceEq, Int.reduceNe, Nat.reduceEqDiff, Nat.reducePow, Nat.reduceDiv, Nat.reduceMod, Nat.reduceAdd, Nat.reduceMul, Nat.reduceSub, Nat.reduceLT, Nat.reduceLeDiff, reduceIte, reduceCtorEq, z3, bin_eql_bool Tryd.underlying4, hl, appendA_U]
    rw [e] at hK
    exact FinV.drop G0_ok hcl (.lit _) hK
end Go.Proofs
set_option linter.unusedSimpArgs false
set_option maxRecDepth 100000
namespace Go.Hx
@[go_sem] theorem partU_func (a b : Array TypeId) (c : Bool) (n : Nat) (cells : List AVal) (off : Nat) : partU (some (.func a b c)) n cells off = cells[off]? := rfl
end Go.Hx
namespace Go.Proofs
open Go.Hx
theorem bothI1_spec (n1 d1 n2 d2 : Nat) (h1 : n1 ≤ 4611686018427387903) (h2 : d1 ≤ 4611686018427387903) (h3 : n2 ≤ 4611686018427387903) (h4 : d2 ≤ 4611686018427387903) :
    ACall Tryd.prog G0 69 [.vptr [.clo 58 [] []] 0, .vptr [.lit (.int .i64 (n1 : Int)), .lit (.int .i64 (d1 : Int))] 0, .vptr [.lit (.int .i64 (n2 : Int)), .lit (.int .i64 (d2 : Int))] 0] noH (GRes (some (.lit (.int .i64 (cmpN (n1 * d2) (n2 * d1)))))) := by
  refine ACall.clo ⟨_, Tryd.func69, rfl, rfl⟩ fun hcl => ?_
  refine ACall.of_body (n := 8) (rs := [.tmp 3]) Tryd.func69 rfl rfl rfl (by decide) (by kernel_rfl) (by simp) ?_
  simp (config := { maxSteps := 1000000 }) only [go_sem, Int.reduceToNat, Int.reduceLE, Int.reduceLT, Int.reduceAdd, Int.reduceSub, Int.reduceMul, Int.reduceEq, Int.reduceNe, Nat.reduceEqDiff, Nat.reducePow, Nat.reduceDiv, Nat.reduceMod, Nat.reduceAdd, Nat.reduceMul, Nat.reduceSub, Nat.reduceLT, Nat.reduceLeDiff, reduceIte, reduceCtorEq, partU_func, appendA_U]
  refine AApply.clo (cmp1_spec n1 d1 n2 d2 h1 h2 h3 h4 _ _ ⟨trivial, ?_⟩)
  simp (config := { maxSteps := 1000000 }) only [go_sem, Int.reduceToNat, Int.reduceLE, Int.reduceLT, Int.reduceAdd, Int.reduceSub, Int.reduceMul, Int.reduceEq, Int.reduceNe, Nat.reduceEqDiff, Nat.reducePow, Nat.reduceDiv, Nat.reduceMod, Nat.reduceAdd, Nat.reduceMul, Nat.reduceSub, Nat.reduceLT, Nat.reduceLeDiff, reduceIte, reduceCtorEq, partU_func, appendA_U]
  refine FinV.mk (Nat.zero_le _) ⟨_, rfl, .lit _⟩

theorem bothI_spec (n1 d1 n2 d2 : Nat) (h1 : n1 ≤ 4611686018427387903) (h2 : d1 ≤ 4611686018427387903) (h3 : n2 ≤ 4611686018427387903) (h4 : d2 ≤ 4611686018427387903) (c1 : checkQ n1 d1 = 0) (c2 : checkQ n2 d2 = 0)
    (H : AHeap) (K : ARes → AHeap → Prop) (hK : K (.ret (.tup [.lit (.int .i64 (cmpN (n1 * d2) (n2 * d1))), .lit (.int .i64 0)])) H) :
    ACall Tryd.prog G0 57 [qV n1 d1, qV n2 d2, .clo 58 [] []] H K := by
  refine ACall.clo ⟨_, Tryd.func57, rfl, rfl⟩ fun hcl => ?_
  refine ACall.of_body (n := 22) (rs := [.tmp 6, .tmp 7]) Tryd.func57 rfl rfl rfl (by decide) (by kernel_rfl) (by simp) ?_
  simp (config := { maxSteps := 1000000 }) only [go_sem, Int.reduceToNat, Int.reduceLE, Int.reduceLT, Int.reduceAdd, Int.reduceSub, Int.reduceMul, Int.reduceEq, Int.reduceNe, Nat.reduceEqDiff, Nat.reducePow, Nat.reduceDiv, Nat.reduceMod, Nat.reduceAdd, Nat.reduceMul, Nat.reduceSub, Nat.reduceLT, Nat.reduceLeDiff, reduceIte, reduceCtorEq, qV, partU_func, appendA_U]
  refine AApply.clo (fcheck_spec n1 d1 (by omega) (by omega) _ _ ⟨trivial, ?_⟩)
  rw [c1]
  simp (config := { maxSteps := 1000000 }) only [go_sem, Int.reduceToNat, Int.reduceLE, Int.reduceLT, Int.reduceAdd, Int.reduceSub, Int.reduceMul, Int.reduceEq, Int.reduceNe, Nat.reduceEqDiff, Nat.reducePow, Nat.reduceDiv, Nat.reduceMod, Nat.reduceAdd, Nat.reduceMul, Nat.reduceSub, Nat.reduceLT, Nat.reduceLeDiff, reduceIte, reduceCtorEq, qV, partU_func, appendA_U]
  refine AApply.clo (fcheck_spec n2 d2 (by omega) (by omega) _ _ ⟨trivial, ?_⟩)
  rw [c2]
  simp (config := { maxSteps := 1000000 }) only [go_sem, Int.reduceToNat, Int.reduceLE, Int.reduceLT, Int.reduceAdd, Int.reduceSub, Int.reduceMul, Int.reduceEq, Int.reduceNe, Nat.reduceEqDiff, Nat.reducePow, Nat.reduceDiv, Nat.reduceMod, Nat.reduceAdd, Nat.reduceMul, Nat.reduceSub, Nat.reduceLT, Nat.reduceLeDiff, reduceIte, reduceCtorEq, qV, partU_func, appendA_U]
  obtain ⟨H1, hH1⟩ : ∃ H1, H1 = ext H [.arr 0 29 [.lit (.int .i64 (n1 : Int)), .lit (.int .i64 (d1 : Int))], .arr 0 29 [.lit (.int .i64 (n2 : Int)), .lit (.int .i64 (d2 : Int))], .arr 0 100 (AVal.clo 58 [] []).cells] := ⟨_, rfl⟩
  have m1 : H1.next = H.next + 3 := by rw [hH1]; rfl
  have k0 : H1.get H.next = some (.arr 0 29 [.lit (.int .i64 (n1 : Int)), .lit (.int .i64 (d1 : Int))]) := by rw [hH1]; exact get_ext0 ..
  have k1 : H1.get (H.next + 1) = some (.arr 0 29 [.lit (.int .i64 (n2 : Int)), .lit (.int .i64 (d2 : Int))]) := by rw [hH1]; exact get_ext H _ 1 (by simp)
  have k2 : H1.get (H.next + 2) = some (.arr 0 100 [.clo 58 [] []]) := by rw [hH1]; exact get_ext H _ 2 (by simp)
  rw [← hH1]
  refine AApply.clo ((gd68 G0_ok 69 [.ptr (H.next + 2) 0 0, .ptr H.next 0 0, .ptr (H.next + 1) 0 0] [.vptr [.clo 58 [] []] 0, .vptr [.lit (.int .i64 (n1 : Int)), .lit (.int .i64 (d1 : Int))] 0, .vptr [.lit (.int .i64 (n2 : Int)), .lit (.int .i64 (d2 : Int))] 0] H1 (some (.lit (.int .i64 (cmpN (n1 * d2) (n2 * d1))))) rfl (fun H2 hag i h h' => ?_) (fun u hu => ?_) (bothI1_spec n1 d1 n2 d2 h1 h2 h3 h4)).mono ?_)
  · match i, h with
    | 0, _ => exact .pfrz trivial ((hag _ (by omega)).trans k2) (by simp) rfl fun i hi _ => match i, hi with | 0, _ => .clo rfl rfl (fun i h => absurd h (Nat.not_lt_zero _)) (fun i h => absurd h (Nat.not_lt_zero _))
    | 1, _ => exact .pfrz trivial ((hag _ (by omega)).trans k0) (by simp) rfl fun i hi _ => match i, hi with
      | 0, _ => .lit _
      | 1, _ => .lit _
    | 2, _ => exact .pfrz trivial ((hag _ (by omega)).trans k1) (by simp) rfl fun i hi _ => match i, hi with
      | 0, _ => .lit _
      | 1, _ => .lit _
  · cases hu; rfl
  · rintro r H' ⟨rfl, rfl⟩
    refine ⟨trivial, ?_⟩
    rw [hH1]
    simp (config := { maxSteps := 1000000 }) only [go_sem, Int.reduceToNat, Int.reduceLE, Int.reduceLT, Int.reduceAdd, Int.reduceSub, Int.reduceMul, Int.reduceEq, Int.reduceNe, Nat.reduceEqDiff, Nat.reducePow, Nat.reduceDiv, Nat.reduceMod, Nat.reduceAdd, Nat.reduceMul, Nat.reduceSub, Nat.reduceLT, Nat.reduceLeDiff, reduceIte, reduceCtorEq, gdOut, appendA_U]
    exact FinV.drop G0_ok hcl (fz_i _ _) hK

theorem Cmp_spec (n1 d1 n2 d2 : Nat) (h1 : n1 ≤ 4611686018427387903) (h2 : d1 ≤ 4611686018427387903) (h3 : n2 ≤ 4611686018427387903) (h4 : d2 ≤ 4611686018427387903) (c1 : checkQ n1 d1 = 0) (c2 : checkQ n2 d2 = 0)
    (H : AHeap) (K : ARes → AHeap → Prop) (hK : K (.ret (.tup [.lit (.int .i64 (cmpN (n1 * d2) (n2 * d1))), .lit (.int .i64 0)])) H) :
    ACall Tryd.prog G0 43 [qV n1 d1, qV n2 d2] H K := by
  refine ACall.clo ⟨_, Tryd.func43, rfl, rfl⟩ fun hcl => ?_
  refine ACall.of_body (n := 11) (rs := [.tmp 4, .tmp 5]) Tryd.func43 rfl rfl rfl (by decide) (by kernel_rfl) (by simp) ?_
  simp (config := { maxSteps := 1000000 }) only [go_sem, Int.reduceToNat, Int.reduceLE, Int.reduceLT, Int.reduceAdd, Int.reduceSub, Int.reduceMul, Int.reduceEq, Int.reduceNe, Nat.reduceEqDiff, Nat.reducePow, Nat.reduceDiv, Nat.reduceMod, Nat.reduceAdd, Nat.reduceMul, Nat.reduceSub, Nat.reduceLT, Nat.reduceLeDiff, reduceIte, reduceCtorEq, qV, appendA_U]
  refine AApply.clo (bothI_spec n1 d1 n2 d2 h1 h2 h3 h4 c1 c2 _ _ ⟨trivial, ?_⟩)
  simp (config := { maxSteps := 1000000 }) only [go_sem, Int.reduceToNat, Int.reduceLE, Int.reduceLT, Int.reduceAdd, Int.reduceSub, Int.reduceMul, Int.reduceEq, Int.reduceNe, Nat.reduceEqDiff, Nat.reducePow, Nat.reduceDiv, Nat.reduceMod, Nat.reduceAdd, Nat.reduceMul, Nat.reduceSub, Nat.reduceLT, Nat.reduceLeDiff, reduceIte, reduceCtorEq, appendA_U]
  exact FinV.drop G0_ok hcl (fz_i _ _) hK
end Go.Proofs
set_option linter.unusedSimpArgs false
set_option maxRecDepth 100000
namespace Go.Proofs
open Go.Hx
theorem checkQ_red {n d : Nat} (hn : n ≤ 4611686018427387903) (hd : d ≤ 4611686018427387903) (h0 : 0 < d) : checkQ (n / Nat.gcd n d : Nat) (d / Nat.gcd n d : Nat) = 0 := by
  have g0 : 0 < Nat.gcd n d := Nat.gcd_pos_of_pos_right _ h0
  have b1 : n / Nat.gcd n d ≤ n := Nat.div_le_self _ _
  have b2 : d / Nat.gcd n d ≤ d := Nat.div_le_self _ _
  have b3 : 0 < d / Nat.gcd n d := Nat.div_pos (Nat.le_of_dvd h0 (Nat.gcd_dvd_right _ _)) g0
  have hg : Int.gcd ((n / Nat.gcd n d : Nat) : Int) ((d / Nat.gcd n d : Nat) : Int) = 1 := by
    rw [Int.gcd_natCast_natCast]
    exact Nat.coprime_div_gcd_div_gcd g0
  generalize n / Nat.gcd n d = x at *
  generalize d / Nat.gcd n d = y at *
  unfold checkQ maxN
  rw [if_neg (by omega), if_neg (by omega)]
theorem cmpN_le {x y : Nat} : cmpN x y ≤ 0 ↔ x ≤ y := by
  unfold cmpN
  split
  · constructor
    · omega
    · omega
  · split
    · constructor
      · omega
      · omega
    · constructor
      · omega
      · omega
theorem red_le {n d a b : Nat} (h0 : 0 < d) : n / Nat.gcd n d * b ≤ a * (d / Nat.gcd n d) ↔ n * b ≤ a * d := by
  have g0 : 0 < Nat.gcd n d := Nat.gcd_pos_of_pos_right _ h0
  obtain ⟨x, hx⟩ := Nat.gcd_dvd_left n d
  obtain ⟨y, hy⟩ := Nat.gcd_dvd_right n d
  have e1 : n / Nat.gcd n d = x := by
    conv => lhs; lhs; rw [hx]
    exact Nat.mul_div_cancel_left _ g0
  have e2 : d / Nat.gcd n d = y := by
    conv => lhs; lhs; rw [hy]
    exact Nat.mul_div_cancel_left _ g0
  rw [e1, e2]
  have f1 : n * b = Nat.gcd n d * (x * b) := by
    conv => lhs; lhs; rw [hx]
    rw [Nat.mul_assoc]
  have f2 : a * d = Nat.gcd n d * (a * y) := by
    conv => lhs; rhs; rw [hy]
    rw [Nat.mul_left_comm]
  rw [f1, f2]
  constructor
  · exact fun h => Nat.mul_le_mul_left _ h
  · exact fun h => Nat.le_of_mul_le_mul_left h g0
/-- What Reject answers. -/
def rejectV (t : List (List Int)) (a b : Int) : AVal :=
  if ¬ TableOk t then .tup [.lit (.bool false), .lit (.int .i64 300)]
  else if checkQ a b ≠ 0 then .tup [.lit (.bool false), .lit (.int .i64 (checkQ a b))]
  else if a < 0 ∨ b < a then .tup [.lit (.bool false), .lit (.int .i64 2)]
  else .tup [.lit (.bool (decide ((tailN t : Int) * b ≤ a * (mul (colsOf t) : Int)))), .lit (.int .i64 0)]
theorem fz_b {S : Nat → Prop} {H : AHeap} {nx : Nat} (a c : Value) : Fz S H nx (.tup [.lit a, .lit c]) (.tup [.lit a, .lit c]) := .tup rfl (fz_lit1 (l := [a, c]))
set_option maxHeartbeats 2000000 in
theorem Reject_spec (t : List (List Int)) (hlt : (t.length : Int) < 2 ^ 40) (hlr : ∀ r, r ∈ t → (r.length : Int) < 2 ^ 40) (a b : Int) (ha : -9223372036854775808 ≤ a ∧ a ≤ 9223372036854775807) (hb : -9223372036854775808 ≤ b ∧ b ≤ 9223372036854775807)
    (H : AHeap) (K : ARes → AHeap → Prop) (hK : K (.ret (rejectV t a b)) H) : ACall Tryd.prog G0 15 [vecV t, qV a b] H K := by
  refine ACall.clo ⟨_, Tryd.func15, rfl, rfl⟩ fun hcl => ?_
  refine ACall.of_body (n := 44) (rs := [.tmp 4, .tmp 5]) Tryd.func15 rfl rfl rfl (by decide) (by kernel_rfl) (by simp) ?_
  simp (config := { maxSteps := 1000000 }) only [go_sem, Int.reduceToNat, Int.reduceLE, Int.reduceLT, Int.reduceAdd, Int.reduceSub, Int.reduceMul, Int.reduceEq, Int.reduceNe, Nat.reduceEqDiff, Nat.reducePow, Nat.reduceDiv, Nat.reduceMod, Nat.reduceAdd, Nat.reduceMul, Nat.reduceSub, Nat.reduceLT, Nat.reduceLeDiff, reduceIte, reduceCtorEq, qV, appendA_U]
  refine AApply.clo (Tail_spec t hlt hlr _ _ ⟨trivial, ?_⟩)
  by_cases hok : TableOk t
  rotate_left
  · rw [if_neg hok]
    simp (config := { maxSteps := 1000000 }) only [go_sem, Int.reduceToNat, Int.reduceLE, Int.reduceLT, Int.reduceAdd, Int.reduceSub, Int.reduceMul, Int.reduceEq, Int.reduceNe, Nat.reduceEqDiff, Nat.reducePow, Nat.reduceDiv, Nat.reduceMod, Nat.reduceAdd, Nat.reduceMul, Nat.reduceSub, Nat.reduceLT, Nat.reduceLeDiff, reduceIte, reduceCtorEq, qV, appendA_U]
    unfold rejectV at hK
    rw [if_pos hok] at hK
    exact FinV.drop G0_ok hcl (fz_b _ _) hK
  rw [if_pos hok]
  unfold rejectV at hK
  rw [if_neg (by simpa using hok)] at hK
  have m1 := mul_le hok
  have m2 := fac20
  have m3 := tailN_le hok
  have er : redV (tailN t) (mul (colsOf t)) = qV (tailN t / Nat.gcd (tailN t) (mul (colsOf t)) : Nat) (mul (colsOf t) / Nat.gcd (tailN t) (mul (colsOf t)) : Nat) := by
    unfold redV
    rw [Int.gcd_natCast_natCast, Int.natCast_ediv, Int.natCast_ediv]
  rw [er]
  have cq := checkQ_red (n := tailN t) (d := mul (colsOf t)) (by omega) (by omega) m1.2
  have q1 : tailN t / Nat.gcd (tailN t) (mul (colsOf t)) ≤ tailN t := Nat.div_le_self _ _
  have q2 : mul (colsOf t) / Nat.gcd (tailN t) (mul (colsOf t)) ≤ mul (colsOf t) := Nat.div_le_self _ _
  have hle := fun a b => red_le (n := tailN t) (d := mul (colsOf t)) (a := a) (b := b) m1.2
  generalize tailN t / Nat.gcd (tailN t) (mul (colsOf t)) = x at *
  generalize mul (colsOf t) / Nat.gcd (tailN t) (mul (colsOf t)) = y at *
  simp (config := { maxSteps := 1000000 }) only [go_sem, Int.reduceToNat, Int.reduceLE, Int.reduceLT, Int.reduceAdd, Int.reduceSub, Int.reduceMul, Int.reduceEq, Int.reduceNe, Nat.reduceEqDiff, Nat.reducePow, Nat.reduceDiv, Nat.reduceMod, Nat.reduceAdd, Nat.reduceMul, Nat.reduceSub, Nat.reduceLT, Nat.reduceLeDiff, reduceIte, reduceCtorEq, qV, appendA_U]
  refine AApply.clo (fcheck_spec a b ha hb _ _ ⟨trivial, ?_⟩)
  by_cases hc : checkQ a b = 0
  rotate_left
  · rw [if_pos hc] at hK
    simp (config := { maxSteps := 1000000 }) only [go_sem, Int.reduceToNat, Int.reduceLE, Int.reduceLT, Int.reduceAdd, Int.reduceSub, Int.reduceMul, Int.reduceEq, Int.reduceNe, Nat.reduceEqDiff, Nat.reducePow, Nat.reduceDiv, Nat.reduceMod, Nat.reduceAdd, Nat.reduceMul, Nat.reduceSub, Nat.reduceLT, Nat.reduceLeDiff, reduceIte, reduceCtorEq, hc, appendA_U]
    exact FinV.drop G0_ok hcl (fz_b _ _) hK
  rw [if_neg (by simpa using hc)] at hK
  rw [hc]
  by_cases hn : a < 0
  · rw [if_pos (.inl hn)] at hK
    simp (config := { maxSteps := 1000000 }) only [go_sem, Int.reduceToNat, Int.reduceLE, Int.reduceLT, Int.reduceAdd, Int.reduceSub, Int.reduceMul, Int.reduceEq, Int.reduceNe, Nat.reduceEqDiff, Nat.reducePow, Nat.reduceDiv, Nat.reduceMod, Nat.reduceAdd, Nat.reduceMul, Nat.reduceSub, Nat.reduceLT, Nat.reduceLeDiff, reduceIte, reduceCtorEq, hn, appendA_U]
    exact FinV.drop G0_ok hcl (fz_b _ _) hK
  by_cases hg : b < a
  · rw [if_pos (.inr hg)] at hK
    simp (config := { maxSteps := 1000000 }) only [go_sem, Int.reduceToNat, Int.reduceLE, Int.reduceLT, Int.reduceAdd, Int.reduceSub, Int.reduceMul, Int.reduceEq, Int.reduceNe, Nat.reduceEqDiff, Nat.reducePow, Nat.reduceDiv, Nat.reduceMod, Nat.reduceAdd, Nat.reduceMul, Nat.reduceSub, Nat.reduceLT, Nat.reduceLeDiff, reduceIte, reduceCtorEq, hn, hg, appendA_U]
    exact FinV.drop G0_ok hcl (fz_b _ _) hK
  rw [if_neg (by omega)] at hK
  simp (config := { maxSteps := 1000000 }) only [go_sem, Int.reduceToNat, Int.reduceLE, Int.reduceLT, Int.reduceAdd, Int.reduceSub, Int.reduceMul, Int.reduceEq, Int.reduceNe, Nat.reduceEqDiff, Nat.reducePow, Nat.reduceDiv, Nat.reduceMod, Nat.reduceAdd, Nat.reduceMul, Nat.reduceSub, Nat.reduceLT, Nat.reduceLeDiff, reduceIte, reduceCtorEq, hn, hg, appendA_U]
  have hcu := hc
  unfold checkQ maxN at hcu
  have hbn : 1 ≤ b ∧ b ≤ 4611686018427387903 ∧ a ≤ 4611686018427387903 := by
    by_cases hbad : b < 1 ∨ b > 4611686018427387903 ∨ a < -4611686018427387903 ∨ a > 4611686018427387903
    · rw [if_pos hbad] at hcu
      exact absurd hcu (by decide)
    · omega
  obtain ⟨a', rfl⟩ := Int.eq_ofNat_of_zero_le (show 0 ≤ a by omega)
  obtain ⟨b', rfl⟩ := Int.eq_ofNat_of_zero_le (show 0 ≤ b by omega)
  have dec : ((tailN t : Int) * (b' : Int) ≤ (a' : Int) * (mul (colsOf t) : Int)) ↔ tailN t * b' ≤ a' * mul (colsOf t) := by
    rw [← Int.natCast_mul, ← Int.natCast_mul]
    exact Int.ofNat_le
  rw [show decide ((tailN t : Int) * (b' : Int) ≤ (a' : Int) * (mul (colsOf t) : Int)) = decide (cmpN (x * b') (a' * y) ≤ 0) from decide_eq_decide.mpr (by rw [dec, cmpN_le]; exact (hle a' b').symm)] at hK
  refine AApply.clo (Cmp_spec x y a' b' (by omega) (by omega) (by omega) (by omega) cq hc _ _ ⟨trivial, ?_⟩)
  by_cases hz : cmpN (x * b') (a' * y) ≤ 0
  · rw [decide_eq_true hz] at hK
    simp (config := { maxSteps := 1000000 }) only [go_sem, Int.reduceToNat, Int.reduceLE, Int.reduceLT, Int.reduceAdd, Int.reduceSub, Int.reduceMul, Int.reduceEq, Int.reduceNe, Nat.reduceEqDiff, Nat.reducePow, Nat.reduceDiv, Nat.reduceMod, Nat.reduceAdd, Nat.reduceMul, Nat.reduceSub, Nat.reduceLT, Nat.reduceLeDiff, reduceIte, reduceCtorEq, hz, appendA_U]
    exact FinV.drop G0_ok hcl (fz_b _ _) hK
  · rw [decide_eq_false hz] at hK
    simp (config := { maxSteps := 1000000 }) only [go_sem, Int.reduceToNat, Int.reduceLE, Int.reduceLT, Int.reduceAdd, Int.reduceSub, Int.reduceMul, Int.reduceEq, Int.reduceNe, Nat.reduceEqDiff, Nat.reducePow, Nat.reduceDiv, Nat.reduceMod, Nat.reduceAdd, Nat.reduceMul, Nat.reduceSub, Nat.reduceLT, Nat.reduceLeDiff, reduceIte, reduceCtorEq, hz, appendA_U]
    exact FinV.drop G0_ok hcl (fz_b _ _) hK
end Go.Proofs
set_option linter.unusedSimpArgs false
set_option maxRecDepth 100000
namespace Go.Proofs
open Go.Hx
theorem shr_nat {P : Program} {t : TypeId} {x y : Operand} {k k' : IntKind} {b i : Nat} (hi : i ≤ 61) (hk : 61 ≤ k.bits) : binA P .shr t x y (.lit (.int k (b : Int))) (.lit (.int k' (i : Int))) = some (.lit (.int k ((b / 2 ^ i : Nat) : Int))) := by
  rw [bin_shr (by omega)]
  have e : min ((i : Int).toNat) k.bits = i := by omega
  rw [e, Int.fdiv_eq_ediv_of_nonneg _ (by exact Int.le_of_lt (Int.pow_pos (by decide))), Int.natCast_ediv, Int.natCast_pow]
  rfl
theorem and_one {P : Program} {t : TypeId} {x y : Operand} {a : Nat} (ha : a < 4611686018427387904) : binA P .and t x y (.lit (.int .i64 (a : Int))) (.lit (.int .i64 1)) = some (.lit (.int .i64 ((a % 2 : Nat) : Int))) := by
  rw [bin_and]
  have e : (BitVec.ofInt (IntKind.bits .i64) (a : Int) &&& BitVec.ofInt (IntKind.bits .i64) 1).toNat = a % 2 := land_mask 64 (a := a) (n := 1) (by omega) (by decide) (by decide)
  rw [e, IntWalk.i64_in _ (by omega)]
set_option maxHeartbeats 2000000 in
theorem product_spec (a b : Nat) (ha : a < 4611686018427387904) (hb : b < 4611686018427387904) (H : AHeap) (K : ARes → AHeap → Prop)
    (hK : K (.ret (.tup [.lit (.int .i64 ((a * b / 4611686018427387904 : Nat) : Int)), .lit (.int .i64 ((a * b % 4611686018427387904 : Nat) : Int))])) H) : ACall Tryd.prog G0 66 [.lit (.int .i64 (a : Int)), .lit (.int .i64 (b : Int))] H K := by
  refine ACall.clo ⟨_, Tryd.func66, rfl, rfl⟩ fun hcl => ?_
  refine ACall.of_body (n := 43) (rs := [.tmp 4, .tmp 5]) Tryd.func66 rfl rfl rfl (by decide) (by kernel_rfl) (by simp) ?_
  simp (config := { maxSteps := 1000000 }) only [go_sem, Int.reduceToNat, Int.reduceLE, Int.reduceLT, Int.reduceAdd, Int.reduceSub, Int.reduceMul, Int.reduceEq, Int.reduceNe, Nat.reduceEqDiff, Nat.reducePow, Nat.reduceDiv, Nat.reduceMod, Nat.reduceAdd, Nat.reduceMul, Nat.reduceSub, Nat.reduceLT, Nat.reduceLeDiff, reduceIte, reduceCtorEq, appendA_U]
  refine W.loop0 2199023255488 (by rfl) (fun ρ H' => H' = H ∧ ∃ (k : Nat) (h l : Int), ρ 0 = .lit (.int .i64 (a : Int)) ∧ ρ 1 = .lit (.int .i64 (b : Int)) ∧ ρ 8 = .lit (.int .i64 ((k : Int) - 1)) ∧ ρ 6 = .lit (.int .i64 h) ∧ ρ 7 = .lit (.int .i64 l) ∧ k ≤ 62 ∧ 0 ≤ h ∧ 0 ≤ l ∧ l < 4611686018427387904 ∧ h * 4611686018427387904 + l = ((a * (b / 2 ^ k) : Nat) : Int)) (fun ρ H => (iv (ρ 8) + 1).toNat) ?_ ?_
  · simp (config := { maxSteps := 1000000 }) only [go_sem, Int.reduceToNat, Int.reduceLE, Int.reduceLT, Int.reduceAdd, Int.reduceSub, Int.reduceMul, Int.reduceEq, Int.reduceNe, Nat.reduceEqDiff, Nat.reducePow, Nat.reduceDiv, Nat.reduceMod, Nat.reduceAdd, Nat.reduceMul, Nat.reduceSub, Nat.reduceLT, Nat.reduceLeDiff, reduceIte, reduceCtorEq, appendA_U]
    refine ⟨62, 0, 0, rfl, rfl, rfl, by omega, by omega, by omega, by omega, ?_⟩
    rw [Nat.div_eq_of_lt (by simpa using hb)]
    simp
  rintro ρ H' ⟨rfl, k, h, l, e0, e1, e8, e6, e7, hk, hh, hl, hl2, hP⟩
  refine vc_sound _ _ _ (by rfl) ?_
  cases k with
  | zero =>
    have c : ¬ (0 : Int) ≤ ((0 : Nat) : Int) - 1 := by omega
    simp (config := { maxSteps := 1000000 }) only [go_sem, Int.reduceToNat, Int.reduceLE, Int.reduceLT, Int.reduceAdd, Int.reduceSub, Int.reduceMul, Int.reduceEq, Int.reduceNe, Nat.reduceEqDiff, Nat.reducePow, Nat.reduceDiv, Nat.reduceMod, Nat.reduceAdd, Nat.reduceMul, Nat.reduceSub, Nat.reduceLT, Nat.reduceLeDiff, reduceIte, reduceCtorEq, e0, e1, e8, e6, e7, c, appendA_U]
    rw [Nat.pow_zero, Nat.div_one] at hP
    generalize a * b = p at *
    have f1 : h = ((p / 4611686018427387904 : Nat) : Int) := by omega
    have f2 : l = ((p % 4611686018427387904 : Nat) : Int) := by omega
    rw [f1, f2]
    exact FinV.mk (Nat.le_refl _) hK
  | succ j =>
    have c : (0 : Int) ≤ (j : Int) := by omega
    have e8' : ρ 8 = .lit (.int .i64 (j : Int)) := by rw [e8]; congr 3; omega
    clear e8
    obtain ⟨x, hx⟩ : ∃ x, x = b / 2 ^ j := ⟨_, rfl⟩
    have hx2 : b / 2 ^ (j + 1) = x / 2 := by rw [hx, Nat.pow_succ, Nat.div_div_eq_div_mul]
    have hxb : x ≤ b := by rw [hx]; exact Nat.div_le_self _ _
    have hm : a * x ≤ 4611686018427387903 * 4611686018427387903 := Nat.mul_le_mul (by omega) (by omega)
    have sh : ∀ (o1 o2 : Operand) (t : TypeId), binA Tryd.prog .shr t o1 o2 (.lit (.int .i64 (b : Int))) (.lit (.int .i64 (j : Int))) = some (.lit (.int .i64 (x : Int))) := fun o1 o2 t => by rw [shr_nat (by omega) (by decide), ← hx]
    have an : ∀ (o1 o2 : Operand) (t : TypeId), binA Tryd.prog .and t o1 o2 (.lit (.int .i64 (x : Int))) (.lit (.int .i64 1)) = some (.lit (.int .i64 ((x % 2 : Nat) : Int))) := fun o1 o2 t => and_one (by omega)
    rw [hx2] at hP
    have hax : a * x = 2 * (a * (x / 2)) + a * (x % 2) := by
      conv => lhs; rw [← Nat.div_add_mod x 2]
      rw [Nat.mul_add, Nat.mul_left_comm]
    generalize a * (x / 2) = p at *
    have hb1 : h < 4611686018427387904 := by omega
    have wj := IntWalk.i64_in ((j : Int) - 1) (by omega)
    obtain ⟨h0, hh0⟩ : ∃ z, z = 2 * h := ⟨_, rfl⟩
    have w0 : IntKind.i64.wrap (2 * h) = h0 := by rw [IntWalk.i64_in _ (by omega), hh0]
    obtain ⟨s, hs⟩ : ∃ z : Int, z = 4611686018427387904 - (a : Int) := ⟨_, rfl⟩
    have ws : IntKind.i64.wrap (4611686018427387904 - (a : Int)) = s := by rw [IntWalk.i64_in _ (by omega), hs]
    by_cases q : (2305843009213693952 : Int) ≤ l
    · obtain ⟨h1, hh1⟩ : ∃ z, z = h0 + 1 := ⟨_, rfl⟩
      have w1 : IntKind.i64.wrap (h0 + 1) = h1 := by rw [IntWalk.i64_in _ (by omega), hh1]
      obtain ⟨l0, hl0⟩ : ∃ z, z = l - 2305843009213693952 := ⟨_, rfl⟩
      have w2 : IntKind.i64.wrap (l - 2305843009213693952) = l0 := by rw [IntWalk.i64_in _ (by omega), hl0]
      obtain ⟨l1, hl1⟩ : ∃ z, z = 2 * l0 := ⟨_, rfl⟩
      have w3 : IntKind.i64.wrap (2 * l0) = l1 := by rw [IntWalk.i64_in _ (by omega), hl1]
      rcases Nat.mod_two_eq_zero_or_one x with hb0 | hb0
      · have bit : ¬ ((x % 2 : Nat) : Int) = 1 := by omega
        rw [hb0, Nat.mul_zero] at hax
        simp (config := { maxSteps := 1000000 }) only [go_sem, Int.reduceToNat, Int.reduceLE, Int.reduceLT, Int.reduceAdd, Int.reduceSub, Int.reduceMul, Int.reduceEq, Int.reduceNe, Nat.reduceEqDiff, Nat.reducePow, Nat.reduceDiv, Nat.reduceMod, Nat.reduceAdd, Nat.reduceMul, Nat.reduceSub, Nat.reduceLT, Nat.reduceLeDiff, reduceIte, reduceCtorEq, e0, e1, e8', e6, e7, c, q, w0, w1, w2, w3, ws, wj, sh, an, bit, appendA_U]
        exact ⟨⟨j, h1, l1, rfl, rfl, rfl, by omega, by omega, by omega, by omega, by rw [← hx]; omega⟩, by simp⟩
      · have bit : ((x % 2 : Nat) : Int) = 1 := by omega
        rw [hb0, Nat.mul_one] at hax
        by_cases r : s ≤ l1
        · obtain ⟨h2, hh2⟩ : ∃ z, z = h1 + 1 := ⟨_, rfl⟩
          have w4 : IntKind.i64.wrap (h1 + 1) = h2 := by rw [IntWalk.i64_in _ (by omega), hh2]
          obtain ⟨l2, hl2'⟩ : ∃ z, z = l1 - s := ⟨_, rfl⟩
          have w5 : IntKind.i64.wrap (l1 - s) = l2 := by rw [IntWalk.i64_in _ (by omega), hl2']
          simp (config := { maxSteps := 1000000 }) only [go_sem, Int.reduceToNat, Int.reduceLE, Int.reduceLT, Int.reduceAdd, Int.reduceSub, Int.reduceMul, Int.reduceEq, Int.reduceNe, Nat.reduceEqDiff, Nat.reducePow, Nat.reduceDiv, Nat.reduceMod, Nat.reduceAdd, Nat.reduceMul, Nat.reduceSub, Nat.reduceLT, Nat.reduceLeDiff, reduceIte, reduceCtorEq, e0, e1, e8', e6, e7, c, q, w0, w1, w2, w3, ws, wj, sh, an, bit, r, w4, w5, appendA_U]
          exact ⟨⟨j, h2, l2, rfl, rfl, rfl, by omega, by omega, by omega, by omega, by rw [← hx]; omega⟩, by simp⟩
        · obtain ⟨l2, hl2'⟩ : ∃ z, z = l1 + (a : Int) := ⟨_, rfl⟩
          have w5 : IntKind.i64.wrap (l1 + (a : Int)) = l2 := by rw [IntWalk.i64_in _ (by omega), hl2']
          simp (config := { maxSteps := 1000000 }) only [go_sem, Int.reduceToNat, Int.reduceLE, Int.reduceLT, Int.reduceAdd, Int.reduceSub, Int.reduceMul, Int.reduceEq, Int.reduceNe, Nat.reduceEqDiff, Nat.reducePow, Nat.reduceDiv, Nat.reduceMod, Nat.reduceAdd, Nat.reduceMul, Nat.reduceSub, Nat.reduceLT, Nat.reduceLeDiff, reduceIte, reduceCtorEq, e0, e1, e8', e6, e7, c, q, w0, w1, w2, w3, ws, wj, sh, an, bit, r, w5, appendA_U]
          exact ⟨⟨j, h1, l2, rfl, rfl, rfl, by omega, by omega, by omega, by omega, by rw [← hx]; omega⟩, by simp⟩
    · obtain ⟨l1, hl1⟩ : ∃ z, z = 2 * l := ⟨_, rfl⟩
      have w3 : IntKind.i64.wrap (2 * l) = l1 := by rw [IntWalk.i64_in _ (by omega), hl1]
      rcases Nat.mod_two_eq_zero_or_one x with hb0 | hb0
      · have bit : ¬ ((x % 2 : Nat) : Int) = 1 := by omega
        rw [hb0, Nat.mul_zero] at hax
        simp (config := { maxSteps := 1000000 }) only [go_sem, Int.reduceToNat, Int.reduceLE, Int.reduceLT, Int.reduceAdd, Int.reduceSub, Int.reduceMul, Int.reduceEq, Int.reduceNe, Nat.reduceEqDiff, Nat.reducePow, Nat.reduceDiv, Nat.reduceMod, Nat.reduceAdd, Nat.reduceMul, Nat.reduceSub, Nat.reduceLT, Nat.reduceLeDiff, reduceIte, reduceCtorEq, e0, e1, e8', e6, e7, c, q, w0, w3, ws, wj, sh, an, bit, appendA_U]
        exact ⟨⟨j, h0, l1, rfl, rfl, rfl, by omega, by omega, by omega, by omega, by rw [← hx]; omega⟩, by simp⟩
      · have bit : ((x % 2 : Nat) : Int) = 1 := by omega
        rw [hb0, Nat.mul_one] at hax
        by_cases r : s ≤ l1
        · obtain ⟨h2, hh2⟩ : ∃ z, z = h0 + 1 := ⟨_, rfl⟩
          have w4 : IntKind.i64.wrap (h0 + 1) = h2 := by rw [IntWalk.i64_in _ (by omega), hh2]
          obtain ⟨l2, hl2'⟩ : ∃ z, z = l1 - s := ⟨_, rfl⟩
          have w5 : IntKind.i64.wrap (l1 - s) = l2 := by rw [IntWalk.i64_in _ (by omega), hl2']
          simp (config := { maxSteps := 1000000 }) only [go_sem, Int.reduceToNat, Int.reduceLE, Int.reduceLT, Int.reduceAdd, Int.reduceSub, Int.reduceMul, Int.reduceEq, Int.reduceNe, Nat.reduceEqDiff, Nat.reducePow, Nat.reduceDiv, Nat.reduceMod, Nat.reduceAdd, Nat.reduceMul, Nat.reduceSub, Nat.reduceLT, Nat.reduceLeDiff, reduceIte, reduceCtorEq, e0, e1, e8', e6, e7, c, q, w0, w3, ws, wj, sh, an, bit, r, w4, w5, appendA_U]
          exact ⟨⟨j, h2, l2, rfl, rfl, rfl, by omega, by omega, by omega, by omega, by rw [← hx]; omega⟩, by simp⟩
        · obtain ⟨l2, hl2'⟩ : ∃ z, z = l1 + (a : Int) := ⟨_, rfl⟩
          have w5 : IntKind.i64.wrap (l1 + (a : Int)) = l2 := by rw [IntWalk.i64_in _ (by omega), hl2']
          simp (config := { maxSteps := 1000000 }) only [go_sem, Int.reduceToNat, Int.reduceLE, Int.reduceLT, Int.reduceAdd, Int.reduceSub, Int.reduceMul, Int.reduceEq, Int.reduceNe, Nat.reduceEqDiff, Nat.reducePow, Nat.reduceDiv, Nat.reduceMod, Nat.reduceAdd, Nat.reduceMul, Nat.reduceSub, Nat.reduceLT, Nat.reduceLeDiff, reduceIte, reduceCtorEq, e0, e1, e8', e6, e7, c, q, w0, w3, ws, wj, sh, an, bit, r, w5, appendA_U]
          exact ⟨⟨j, h0, l2, rfl, rfl, rfl, by omega, by omega, by omega, by omega, by rw [← hx]; omega⟩, by simp⟩
end Go.Proofs
set_option linter.unusedSimpArgs false
set_option maxRecDepth 100000
namespace Go.Proofs
open Go.Hx
theorem least_spec (a b c d : Nat) (ha : a < 4611686018427387904) (hb : b < 4611686018427387904) (hc : c < 4611686018427387904) (hd : d < 4611686018427387904) (H : AHeap) (K : ARes → AHeap → Prop)
    (hK : K (.ret (.lit (.bool (decide (a * b ≤ c * d))))) H) : ACall Tryd.prog G0 50 [.lit (.int .i64 (a : Int)), .lit (.int .i64 (b : Int)), .lit (.int .i64 (c : Int)), .lit (.int .i64 (d : Int))] H K := by
  refine ACall.clo ⟨_, Tryd.func50, rfl, rfl⟩ fun hcl => ?_
  refine ACall.of_body (n := 38) (rs := [.tmp 8]) Tryd.func50 rfl rfl rfl (by decide) (by kernel_rfl) (by simp) ?_
  simp (config := { maxSteps := 1000000 }) only [go_sem, Int.reduceToNat, Int.reduceLE, Int.reduceLT, Int.reduceAdd, Int.reduceSub, Int.reduceMul, Int.reduceEq, Int.reduceNe, Nat.reduceEqDiff, Nat.reducePow, Nat.reduceDiv, Nat.reduceMod, Nat.reduceAdd, Nat.reduceMul, Nat.reduceSub, Nat.reduceLT, Nat.reduceLeDiff, reduceIte, reduceCtorEq, appendA_U]
  refine AApply.clo (product_spec a b ha hb _ _ ⟨trivial, ?_⟩)
  simp (config := { maxSteps := 1000000 }) only [go_sem, Int.reduceToNat, Int.reduceLE, Int.reduceLT, Int.reduceAdd, Int.reduceSub, Int.reduceMul, Int.reduceEq, Int.reduceNe, Nat.reduceEqDiff, Nat.reducePow, Nat.reduceDiv, Nat.reduceMod, Nat.reduceAdd, Nat.reduceMul, Nat.reduceSub, Nat.reduceLT, Nat.reduceLeDiff, reduceIte, reduceCtorEq, appendA_U]
  refine AApply.clo (product_spec c d hc hd _ _ ⟨trivial, ?_⟩)
  generalize a * b = p at *
  generalize c * d = q at *
  by_cases h1 : ((p / 4611686018427387904 : Nat) : Int) < ((q / 4611686018427387904 : Nat) : Int)
  · rw [decide_eq_true (show p ≤ q by omega)] at hK
    simp (config := { maxSteps := 1000000 }) only [go_sem, Int.reduceToNat, Int.reduceLE, Int.reduceLT, Int.reduceAdd, Int.reduceSub, Int.reduceMul, Int.reduceEq, Int.reduceNe, Nat.reduceEqDiff, Nat.reducePow, Nat.reduceDiv, Nat.reduceMod, Nat.reduceAdd, Nat.reduceMul, Nat.reduceSub, Nat.reduceLT, Nat.reduceLeDiff, reduceIte, reduceCtorEq, h1, guardA_undef, appendA_U]
    exact FinV.mk (Nat.le_refl _) hK
  by_cases h2 : ((p / 4611686018427387904 : Nat) : Int) = ((q / 4611686018427387904 : Nat) : Int)
  · have h1' : ¬ ((q / 4611686018427387904 : Nat) : Int) < ((q / 4611686018427387904 : Nat) : Int) := by omega
    by_cases h3 : ((p % 4611686018427387904 : Nat) : Int) ≤ ((q % 4611686018427387904 : Nat) : Int)
    · rw [decide_eq_true (show p ≤ q by omega)] at hK
      simp (config := { maxSteps := 1000000 }) only [go_sem, Int.reduceToNat, Int.reduceLE, Int.reduceLT, Int.reduceAdd, Int.reduceSub, Int.reduceMul, Int.reduceEq, Int.reduceNe, Nat.reduceEqDiff, Nat.reducePow, Nat.reduceDiv, Nat.reduceMod, Nat.reduceAdd, Nat.reduceMul, Nat.reduceSub, Nat.reduceLT, Nat.reduceLeDiff, reduceIte, reduceCtorEq, h1, h1', h2, h3, guardA_undef, appendA_U]
      exact FinV.mk (Nat.le_refl _) hK
    · rw [decide_eq_false (show ¬ p ≤ q by omega)] at hK
      simp (config := { maxSteps := 1000000 }) only [go_sem, Int.reduceToNat, Int.reduceLE, Int.reduceLT, Int.reduceAdd, Int.reduceSub, Int.reduceMul, Int.reduceEq, Int.reduceNe, Nat.reduceEqDiff, Nat.reducePow, Nat.reduceDiv, Nat.reduceMod, Nat.reduceAdd, Nat.reduceMul, Nat.reduceSub, Nat.reduceLT, Nat.reduceLeDiff, reduceIte, reduceCtorEq, h1, h1', h2, h3, guardA_undef, appendA_U]
      exact FinV.mk (Nat.le_refl _) hK
  · rw [decide_eq_false (show ¬ p ≤ q by omega)] at hK
    simp (config := { maxSteps := 1000000 }) only [go_sem, Int.reduceToNat, Int.reduceLE, Int.reduceLT, Int.reduceAdd, Int.reduceSub, Int.reduceMul, Int.reduceEq, Int.reduceNe, Nat.reduceEqDiff, Nat.reducePow, Nat.reduceDiv, Nat.reduceMod, Nat.reduceAdd, Nat.reduceMul, Nat.reduceSub, Nat.reduceLT, Nat.reduceLeDiff, reduceIte, reduceCtorEq, h1, h2, guardA_undef, appendA_U]
    exact FinV.mk (Nat.le_refl _) hK
theorem Most_spec (a b c d : Nat) (ha : a < 4611686018427387904) (hb : b < 4611686018427387904) (hc : c < 4611686018427387904) (hd : d < 4611686018427387904) (H : AHeap) (K : ARes → AHeap → Prop)
    (hK : K (.ret (.lit (.bool (decide (a * d ≤ c * b))))) H) : ACall Tryd.prog G0 34 [qV a b, qV c d] H K := by
  refine ACall.clo ⟨_, Tryd.func34, rfl, rfl⟩ fun hcl => ?_
  refine ACall.of_body (n := 14) (rs := [.tmp 4]) Tryd.func34 rfl rfl rfl (by decide) (by kernel_rfl) (by simp) ?_
  simp (config := { maxSteps := 1000000 }) only [go_sem, Int.reduceToNat, Int.reduceLE, Int.reduceLT, Int.reduceAdd, Int.reduceSub, Int.reduceMul, Int.reduceEq, Int.reduceNe, Nat.reduceEqDiff, Nat.reducePow, Nat.reduceDiv, Nat.reduceMod, Nat.reduceAdd, Nat.reduceMul, Nat.reduceSub, Nat.reduceLT, Nat.reduceLeDiff, reduceIte, reduceCtorEq, qV, appendA_U]
  refine AApply.clo (least_spec a d c b ha hd hc hb _ _ ⟨trivial, ?_⟩)
  simp (config := { maxSteps := 1000000 }) only [go_sem, Int.reduceToNat, Int.reduceLE, Int.reduceLT, Int.reduceAdd, Int.reduceSub, Int.reduceMul, Int.reduceEq, Int.reduceNe, Nat.reduceEqDiff, Nat.reducePow, Nat.reduceDiv, Nat.reduceMod, Nat.reduceAdd, Nat.reduceMul, Nat.reduceSub, Nat.reduceLT, Nat.reduceLeDiff, reduceIte, reduceCtorEq, appendA_U]
  exact FinV.drop G0_ok hcl (.lit _) hK
end Go.Proofs
set_option linter.unusedSimpArgs false
set_option maxRecDepth 100000
namespace Go.Proofs
open Go.Hx
theorem fieldQ (x y : AVal) : fieldVA Tryd.prog 29 1 (.agg [x, y]) = some y := by
  have h : fieldA Tryd.prog 29 1 = some (1, 3) := by kernel_rfl
  have hp : partA Tryd.prog 3 [x, y] 1 = some y := by rw [partA_U, Tryd.underlying3]; rfl
  unfold fieldVA
  rw [h]
  exact hp
/-- The error of a level. -/
def levelQ (a b : Int) : Int := if checkQ a b ≠ 0 then checkQ a b else if a < 0 ∨ b < a then 2 else 0
theorem checkQ_cases (a b : Int) : checkQ a b = 5 ∨ checkQ a b = 0 := by
  unfold checkQ
  split
  · exact .inl rfl
  · split
    · exact .inl rfl
    · exact .inr rfl
set_option maxHeartbeats 2000000 in
theorem Level_spec (a b : Int) (ha : -9223372036854775808 ≤ a ∧ a ≤ 9223372036854775807) (hb : -9223372036854775808 ≤ b ∧ b ≤ 9223372036854775807) (H : AHeap) (K : ARes → AHeap → Prop)
    (hK : K (.ret (.lit (.int .i64 (levelQ a b)))) H) : ACall Tryd.prog G0 33 [qV a b] H K := by
  refine ACall.clo ⟨_, Tryd.func33, rfl, rfl⟩ fun hcl => ?_
  refine ACall.of_body (n := 59) (rs := [.tmp 2]) Tryd.func33 rfl rfl rfl (by decide) (by kernel_rfl) (by simp) ?_
  have bad : ∀ L, checkQ a b = 5 → FinV Tryd.prog G0 H K (.lit (.int .i64 5)) (ext H L) := fun L h => by
    unfold levelQ at hK
    rw [h, if_pos (by decide)] at hK
    exact FinV.drop G0_ok hcl (.lit _) hK
  by_cases h1 : b < 1
  · simp (config := { maxSteps := 1000000 }) only [go_sem, Int.reduceToNat, Int.reduceLE, Int.reduceLT, Int.reduceAdd, Int.reduceSub, Int.reduceMul, Int.reduceEq, Int.reduceNe, Nat.reduceEqDiff, Nat.reducePow, Nat.reduceDiv, Nat.reduceMod, Nat.reduceAdd, Nat.reduceMul, Nat.reduceSub, Nat.reduceLT, Nat.reduceLeDiff, reduceIte, reduceCtorEq, qV, h1, guardA_undef, appendA_U]
    exact bad _ (by unfold checkQ; rw [if_pos (.inl h1)])
  by_cases h3 : a < -4611686018427387903
  · simp (config := { maxSteps := 1000000 }) only [go_sem, Int.reduceToNat, Int.reduceLE, Int.reduceLT, Int.reduceAdd, Int.reduceSub, Int.reduceMul, Int.reduceEq, Int.reduceNe, Nat.reduceEqDiff, Nat.reducePow, Nat.reduceDiv, Nat.reduceMod, Nat.reduceAdd, Nat.reduceMul, Nat.reduceSub, Nat.reduceLT, Nat.reduceLeDiff, reduceIte, reduceCtorEq, qV, h1, h3, guardA_undef, appendA_U]
    exact bad _ (by unfold checkQ; rw [if_pos (.inr (.inr (.inl h3)))])
  by_cases h4 : 4611686018427387903 < a
  · simp (config := { maxSteps := 1000000 }) only [go_sem, Int.reduceToNat, Int.reduceLE, Int.reduceLT, Int.reduceAdd, Int.reduceSub, Int.reduceMul, Int.reduceEq, Int.reduceNe, Nat.reduceEqDiff, Nat.reducePow, Nat.reduceDiv, Nat.reduceMod, Nat.reduceAdd, Nat.reduceMul, Nat.reduceSub, Nat.reduceLT, Nat.reduceLeDiff, reduceIte, reduceCtorEq, qV, h1, h3, h4, guardA_undef, appendA_U]
    exact bad _ (by unfold checkQ; rw [if_pos (.inr (.inr (.inr h4)))])
  by_cases h2 : 4611686018427387903 < b
  · simp (config := { maxSteps := 1000000 }) only [go_sem, Int.reduceToNat, Int.reduceLE, Int.reduceLT, Int.reduceAdd, Int.reduceSub, Int.reduceMul, Int.reduceEq, Int.reduceNe, Nat.reduceEqDiff, Nat.reducePow, Nat.reduceDiv, Nat.reduceMod, Nat.reduceAdd, Nat.reduceMul, Nat.reduceSub, Nat.reduceLT, Nat.reduceLeDiff, reduceIte, reduceCtorEq, qV, h1, h2, h3, h4, guardA_undef, appendA_U]
    exact bad _ (by unfold checkQ; rw [if_pos (.inr (.inl h2))])
  have ck : checkQ a b = if Int.gcd a b ≠ 1 then 5 else 0 := by unfold checkQ; rw [if_neg (by unfold maxN; omega)]
  by_cases z : a = 0
  · subst z
    have zn : ¬ (0 : Int) < 0 := by omega
    by_cases hb1 : b = 1
    · subst hb1
      simp (config := { maxSteps := 1000000 }) only [go_sem, Int.reduceToNat, Int.reduceLE, Int.reduceLT, Int.reduceAdd, Int.reduceSub, Int.reduceMul, Int.reduceEq, Int.reduceNe, Nat.reduceEqDiff, Nat.reducePow, Nat.reduceDiv, Nat.reduceMod, Nat.reduceAdd, Nat.reduceMul, Nat.reduceSub, Nat.reduceLT, Nat.reduceLeDiff, reduceIte, reduceCtorEq, qV, guardA_undef, appendA_U]
      refine W.draw 18 [0, 1, 3, 7, 15, 31, 63, 127, 255, 511, 1023, 2047, 2047, 6143, 16383, 32767, 2047, 67583] Tryd.mixed (by kernel_rfl) (by kernel_rfl) ?_
      simp (config := { maxSteps := 1000000 }) only [go_sem, Int.reduceToNat, Int.reduceLE, Int.reduceLT, Int.reduceAdd, Int.reduceSub, Int.reduceMul, Int.reduceEq, Int.reduceNe, Nat.reduceEqDiff, Nat.reducePow, Nat.reduceDiv, Nat.reduceMod, Nat.reduceAdd, Nat.reduceMul, Nat.reduceSub, Nat.reduceLT, Nat.reduceLeDiff, reduceIte, reduceCtorEq, qV, guardA_undef, appendA_U]
      exact FinV.drop G0_ok hcl (.lit _) hK
    · simp (config := { maxSteps := 1000000 }) only [go_sem, Int.reduceToNat, Int.reduceLE, Int.reduceLT, Int.reduceAdd, Int.reduceSub, Int.reduceMul, Int.reduceEq, Int.reduceNe, Nat.reduceEqDiff, Nat.reducePow, Nat.reduceDiv, Nat.reduceMod, Nat.reduceAdd, Nat.reduceMul, Nat.reduceSub, Nat.reduceLT, Nat.reduceLeDiff, reduceIte, reduceCtorEq, qV, h1, h2, h3, h4, guardA_undef, appendA_U]
      refine W.draw 18 [0, 1, 3, 7, 15, 31, 63, 127, 255, 511, 1023, 2047, 2047, 6143, 16383, 32767, 2047, 67583] Tryd.mixed (by kernel_rfl) (by kernel_rfl) ?_
      simp (config := { maxSteps := 1000000 }) only [go_sem, Int.reduceToNat, Int.reduceLE, Int.reduceLT, Int.reduceAdd, Int.reduceSub, Int.reduceMul, Int.reduceEq, Int.reduceNe, Nat.reduceEqDiff, Nat.reducePow, Nat.reduceDiv, Nat.reduceMod, Nat.reduceAdd, Nat.reduceMul, Nat.reduceSub, Nat.reduceLT, Nat.reduceLeDiff, reduceIte, reduceCtorEq, qV, h1, h2, h3, h4, guardA_undef, hb1, appendA_U]
      exact bad _ (by rw [ck, if_pos (by rw [Int.gcd_zero_left]; omega)])
  obtain ⟨m, hm⟩ : ∃ m : Int, m = (a.natAbs : Int) := ⟨_, rfl⟩
  have hg : Int.gcd m b = Int.gcd a b := by rw [hm, gcd_abs]
  have m0 : ¬ m = 0 := by omega
  have m1 : 0 < m := by omega
  have red := fun (H2 : AHeap) K h => reduced_spec m b (by omega) (by omega) (by omega) (by omega) H2 K h
  rw [hg] at red
  have gb : 0 < Int.gcd a b := Int.gcd_pos_of_ne_zero_left _ z
  have gd : (b / (Int.gcd a b : Int) = b) ↔ Int.gcd a b = 1 := by
    obtain ⟨c, hc⟩ : ((Int.gcd a b : Nat) : Int) ∣ b := Int.gcd_dvd_right ..
    have e : b / (Int.gcd a b : Int) = c := by
      conv => lhs; lhs; rw [hc]
      exact Int.mul_ediv_cancel_left _ (by omega)
    rw [e]
    constructor
    · intro h
      rw [h] at hc
      have : (((Int.gcd a b : Nat) : Int) - 1) * b = 0 := by rw [Int.sub_mul, Int.one_mul]; omega
      rcases Int.mul_eq_zero.mp this with h5 | h5
      · omega
      · omega
    · intro h
      rw [h] at hc
      omega
  by_cases hs : a < 0
  · have w : IntKind.i64.wrap (0 - a) = m := by rw [IntWalk.i64_in _ (by omega)]; omega
    simp (config := { maxSteps := 1000000 }) only [go_sem, Int.reduceToNat, Int.reduceLE, Int.reduceLT, Int.reduceAdd, Int.reduceSub, Int.reduceMul, Int.reduceEq, Int.reduceNe, Nat.reduceEqDiff, Nat.reducePow, Nat.reduceDiv, Nat.reduceMod, Nat.reduceAdd, Nat.reduceMul, Nat.reduceSub, Nat.reduceLT, Nat.reduceLeDiff, reduceIte, reduceCtorEq, qV, h1, h2, h3, h4, guardA_undef, hs, w, appendA_U]
    refine W.draw 18 [0, 1, 3, 7, 15, 31, 63, 127, 255, 511, 1023, 2047, 2047, 6143, 16383, 32767, 2047, 67583] Tryd.mixed (by kernel_rfl) (by kernel_rfl) ?_
    simp (config := { maxSteps := 1000000 }) only [go_sem, Int.reduceToNat, Int.reduceLE, Int.reduceLT, Int.reduceAdd, Int.reduceSub, Int.reduceMul, Int.reduceEq, Int.reduceNe, Nat.reduceEqDiff, Nat.reducePow, Nat.reduceDiv, Nat.reduceMod, Nat.reduceAdd, Nat.reduceMul, Nat.reduceSub, Nat.reduceLT, Nat.reduceLeDiff, reduceIte, reduceCtorEq, qV, h1, h2, h3, h4, guardA_undef, hs, w, m0, m1, appendA_U]
    refine ⟨_, [], PCall.pure fun H2 => red H2 _ ⟨rfl, rfl⟩, ?_⟩
    by_cases hgd : b / (Int.gcd a b : Int) = b
    · have c0 : checkQ a b = 0 := by rw [ck, if_neg (by simpa using gd.mp hgd)]
      simp (config := { maxSteps := 1000000 }) only [go_sem, Int.reduceToNat, Int.reduceLE, Int.reduceLT, Int.reduceAdd, Int.reduceSub, Int.reduceMul, Int.reduceEq, Int.reduceNe, Nat.reduceEqDiff, Nat.reducePow, Nat.reduceDiv, Nat.reduceMod, Nat.reduceAdd, Nat.reduceMul, Nat.reduceSub, Nat.reduceLT, Nat.reduceLeDiff, reduceIte, reduceCtorEq, qV, h1, h2, h3, h4, guardA_undef, hs, w, m0, m1, hgd, fieldQ, appendA_U]
      unfold levelQ at hK
      rw [if_neg (by simpa using c0), if_pos (.inl hs)] at hK
      exact FinV.drop G0_ok hcl (.lit _) hK
    · simp (config := { maxSteps := 1000000 }) only [go_sem, Int.reduceToNat, Int.reduceLE, Int.reduceLT, Int.reduceAdd, Int.reduceSub, Int.reduceMul, Int.reduceEq, Int.reduceNe, Nat.reduceEqDiff, Nat.reducePow, Nat.reduceDiv, Nat.reduceMod, Nat.reduceAdd, Nat.reduceMul, Nat.reduceSub, Nat.reduceLT, Nat.reduceLeDiff, reduceIte, reduceCtorEq, qV, h1, h2, h3, h4, guardA_undef, hs, w, m0, m1, hgd, fieldQ, appendA_U]
      exact bad _ (by rw [ck, if_pos (fun h => hgd (gd.mpr h))])
  · have w : a = m := by omega
    rw [← w] at red m0 m1
    simp (config := { maxSteps := 1000000 }) only [go_sem, Int.reduceToNat, Int.reduceLE, Int.reduceLT, Int.reduceAdd, Int.reduceSub, Int.reduceMul, Int.reduceEq, Int.reduceNe, Nat.reduceEqDiff, Nat.reducePow, Nat.reduceDiv, Nat.reduceMod, Nat.reduceAdd, Nat.reduceMul, Nat.reduceSub, Nat.reduceLT, Nat.reduceLeDiff, reduceIte, reduceCtorEq, qV, h1, h2, h3, h4, guardA_undef, hs, appendA_U]
    refine W.draw 18 [0, 1, 3, 7, 15, 31, 63, 127, 255, 511, 1023, 2047, 2047, 6143, 16383, 32767, 2047, 67583] Tryd.mixed (by kernel_rfl) (by kernel_rfl) ?_
    simp (config := { maxSteps := 1000000 }) only [go_sem, Int.reduceToNat, Int.reduceLE, Int.reduceLT, Int.reduceAdd, Int.reduceSub, Int.reduceMul, Int.reduceEq, Int.reduceNe, Nat.reduceEqDiff, Nat.reducePow, Nat.reduceDiv, Nat.reduceMod, Nat.reduceAdd, Nat.reduceMul, Nat.reduceSub, Nat.reduceLT, Nat.reduceLeDiff, reduceIte, reduceCtorEq, qV, h1, h2, h3, h4, guardA_undef, hs, m0, m1, appendA_U]
    refine ⟨_, [], PCall.pure fun H2 => red H2 _ ⟨rfl, rfl⟩, ?_⟩
    by_cases hgd : b / (Int.gcd a b : Int) = b
    · have c0 : checkQ a b = 0 := by rw [ck, if_neg (by simpa using gd.mp hgd)]
      unfold levelQ at hK
      rw [if_neg (by simpa using c0)] at hK
      by_cases hba : b < a
      · rw [if_pos (.inr hba)] at hK
        simp (config := { maxSteps := 1000000 }) only [go_sem, Int.reduceToNat, Int.reduceLE, Int.reduceLT, Int.reduceAdd, Int.reduceSub, Int.reduceMul, Int.reduceEq, Int.reduceNe, Nat.reduceEqDiff, Nat.reducePow, Nat.reduceDiv, Nat.reduceMod, Nat.reduceAdd, Nat.reduceMul, Nat.reduceSub, Nat.reduceLT, Nat.reduceLeDiff, reduceIte, reduceCtorEq, qV, h1, h2, h3, h4, guardA_undef, hs, m0, m1, hgd, hba, fieldQ, appendA_U]
        exact FinV.drop G0_ok hcl (.lit _) hK
      · rw [if_neg (by omega)] at hK
        simp (config := { maxSteps := 1000000 }) only [go_sem, Int.reduceToNat, Int.reduceLE, Int.reduceLT, Int.reduceAdd, Int.reduceSub, Int.reduceMul, Int.reduceEq, Int.reduceNe, Nat.reduceEqDiff, Nat.reducePow, Nat.reduceDiv, Nat.reduceMod, Nat.reduceAdd, Nat.reduceMul, Nat.reduceSub, Nat.reduceLT, Nat.reduceLeDiff, reduceIte, reduceCtorEq, qV, h1, h2, h3, h4, guardA_undef, hs, m0, m1, hgd, hba, fieldQ, appendA_U]
        exact FinV.drop G0_ok hcl (.lit _) hK
    · simp (config := { maxSteps := 1000000 }) only [go_sem, Int.reduceToNat, Int.reduceLE, Int.reduceLT, Int.reduceAdd, Int.reduceSub, Int.reduceMul, Int.reduceEq, Int.reduceNe, Nat.reduceEqDiff, Nat.reducePow, Nat.reduceDiv, Nat.reduceMod, Nat.reduceAdd, Nat.reduceMul, Nat.reduceSub, Nat.reduceLT, Nat.reduceLeDiff, reduceIte, reduceCtorEq, qV, h1, h2, h3, h4, guardA_undef, hs, m0, m1, hgd, fieldQ, appendA_U]
      exact bad _ (by rw [ck, if_pos (fun h => hgd (gd.mpr h))])
end Go.Proofs
set_option linter.unusedSimpArgs false
set_option maxRecDepth 100000
namespace Go.Hx
variable {P : Program} {t e : TypeId} {x y : Operand} {k k' : IntKind} {a b c d : Int}
theorem equalIn_duo (n : Nat) {f g : Field} (ht : P.underlying t = some (.struct #[f, g])) (hsi : P.stoodInHeld t = false) (hf : f.type = e) (hg : g.type = e) (fn : f.name ≠ "_") (gn : g.name ≠ "_") (fo : f.offset = 0) (go : g.offset = 1) (he : P.underlying e = some (.int k)) :
    pureRun P (Op.equalIn (n + 2) t (.agg #[.int k' a, .int k' b]) (.agg #[.int k' c, .int k' d])) = some (a == c && b == d) := by
  unfold Op.equalIn
  have e1 : ∀ {α : Type} (f' : TypeDesc → Sem α), pureRun P (underlying t >>= f') = pureRun P (f' (.struct #[f, g])) := fun f' => pureRun_bind (by simp [underlying, program, ht, pureRun, bind, Sem.bind, pure])
  have e0 : ∀ {α : Type} (f' : Program → Sem α), pureRun P (program >>= f') = pureRun P (f' P) := fun f' => pureRun_bind (by simp [program, pureRun])
  have e3 : ∀ {α : Type} (cs : Array Value) (o : Nat) (v : Value) (f' : Value → Sem α), cs[o]? = some v → pureRun P (part e cs o >>= f') = pureRun P (f' v) := fun cs o v f' h => pureRun_bind (by simp [part, isAgg, underlying, program, he, h, pureRun, bind, Sem.bind, pure])
  have e4 : ∀ {α : Type} (p q : Int) (f' : Bool → Sem α), pureRun P (Op.equalIn (n + 1) e (.int k' p) (.int k' q) >>= f') = pureRun P (f' (p == q)) := fun p q f' => pureRun_bind (equalIn_int n he)
  rw [e1]
  dsimp only
  rw [e0, hsi]
  simp only [Bool.false_eq_true, if_false, ← Array.forIn_toList, List.forIn_cons, List.forIn_nil, fn, gn, hf, hg, fo, go, ne_eq, not_false_eq_true, if_true, bind_assoc, pure_bind]
  rw [e3 _ _ (.int k' a) _ rfl, e3 _ _ (.int k' c) _ rfl, e4]
  by_cases h : (a == c) = true
  · rw [h]
    simp only [Bool.not_true, Bool.false_eq_true, if_false, pure_bind, bind_assoc]
    rw [e3 _ _ (.int k' b) _ rfl, e3 _ _ (.int k' d) _ rfl, e4]
    by_cases h2 : (b == d) = true
    · rw [h2]; rfl
    · rw [Bool.not_eq_true] at h2; rw [h2]; rfl
  · rw [Bool.not_eq_true] at h; rw [h]; rfl
theorem bin_neq_duo {f g : Field} (ht : P.underlying t = some (.struct #[f, g])) (hsi : P.stoodInHeld t = false) (hf : f.type = e) (hg : g.type = e) (fn : f.name ≠ "_") (gn : g.name ≠ "_") (fo : f.offset = 0) (go : g.offset = 1) (he : P.underlying e = some (.int k)) (hq : P.eqGuardType P.depth t = false) :
    binA P .neq t x y (.agg [.lit (.int k' a), .lit (.int k' b)]) (.agg [.lit (.int k' c), .lit (.int k' d)]) = some (.lit (.bool (!(a == c && b == d)))) := by
  show (pureRun P (do eqGuard .neq t x y (.agg #[.int k' a, .int k' b]) (.agg #[.int k' c, .int k' d]); binOp .neq t (.agg #[.int k' a, .int k' b]) (.agg #[.int k' c, .int k' d]))).map _ = _
  have h0 : pureRun P (eqGuard .neq t x y (.agg #[.int k' a, .int k' b]) (.agg #[.int k' c, .int k' d])) = some () := by
    simp [eqGuard, program, hq, pureRun, bind, Sem.bind, pure]
  have h1 : binOp .neq t (.agg #[.int k' a, .int k' b]) (.agg #[.int k' c, .int k' d]) = (Op.equalIn (9998 + 2) t (.agg #[.int k' a, .int k' b]) (.agg #[.int k' c, .int k' d]) >>= fun r => pure (Value.bool (!r))) := rfl
  rw [pureRun_bind h0, h1, pureRun_bind (equalIn_duo 9998 ht hsi hf hg fn gn fo go he)]
  rfl
end Go.Hx
namespace Go.Proofs
open Go.Hx
theorem neqQ {o1 o2 : Operand} (a b c d : Int) : binA Tryd.prog .neq 29 o1 o2 (qV a b) (qV c d) = some (.lit (.bool (!(a == c && b == d)))) :=
  bin_neq_duo Tryd.underlying29 (by kernel_rfl) rfl rfl (by decide) (by decide) rfl rfl Tryd.underlying3 (by kernel_rfl)
end Go.Proofs
set_option linter.unusedSimpArgs false
set_option maxRecDepth 100000
namespace Go.Proofs
open Go.Hx
/-- What the law asks of Reject: the error of the level, or that the table is none; the answer is Most's. -/
theorem rejectV_ok {t : List (List Int)} (hok : TableOk t) (a b : Int) : rejectV t a b = .tup [.lit (.bool (decide (levelQ a b = 0 ∧ (tailN t : Int) * b ≤ a * (mul (colsOf t) : Int)))), .lit (.int .i64 (levelQ a b))] := by
  unfold rejectV levelQ
  rw [if_neg (by simpa using hok)]
  by_cases h : checkQ a b = 0
  · have h' : ¬ checkQ a b ≠ 0 := fun x => x h
    simp only [if_neg h']
    by_cases h2 : a < 0 ∨ b < a
    · simp [if_pos h2]
    · simp [if_neg h2]
  · have h' : checkQ a b ≠ 0 := h
    simp only [if_pos h']
    simp [h]
theorem rejectV_bad {t : List (List Int)} (hok : ¬ TableOk t) (a b : Int) : rejectV t a b = .tup [.lit (.bool false), .lit (.int .i64 300)] := by
  unfold rejectV
  rw [if_pos hok]
/-- Most asked of a tail in lowest terms. -/
theorem most_red {t : List (List Int)} (hok : TableOk t) (a b : Nat) (ha : a ≤ 4611686018427387903) (hb : b ≤ 4611686018427387903) (H : AHeap) (K : ARes → AHeap → Prop)
    (hK : K (.ret (.lit (.bool (decide ((tailN t : Int) * (b : Int) ≤ (a : Int) * (mul (colsOf t) : Int)))))) H) : ACall Tryd.prog G0 34 [redV (tailN t) (mul (colsOf t)), qV a b] H K := by
  have m1 := mul_le hok
  have m2 := fac20
  have m3 := tailN_le hok
  have er : redV (tailN t) (mul (colsOf t)) = qV (tailN t / Nat.gcd (tailN t) (mul (colsOf t)) : Nat) (mul (colsOf t) / Nat.gcd (tailN t) (mul (colsOf t)) : Nat) := by
    unfold redV
    rw [Int.gcd_natCast_natCast, Int.natCast_ediv, Int.natCast_ediv]
  rw [er]
  have q1 : tailN t / Nat.gcd (tailN t) (mul (colsOf t)) ≤ tailN t := Nat.div_le_self _ _
  have q2 : mul (colsOf t) / Nat.gcd (tailN t) (mul (colsOf t)) ≤ mul (colsOf t) := Nat.div_le_self _ _
  have hle := red_le (n := tailN t) (d := mul (colsOf t)) (a := a) (b := b) m1.2
  generalize tailN t / Nat.gcd (tailN t) (mul (colsOf t)) = x at *
  generalize mul (colsOf t) / Nat.gcd (tailN t) (mul (colsOf t)) = y at *
  refine Most_spec x y a b (by omega) (by omega) (by omega) (by omega) H K ?_
  have dec : ((tailN t : Int) * (b : Int) ≤ (a : Int) * (mul (colsOf t) : Int)) ↔ x * b ≤ a * y := by
    rw [← Int.natCast_mul, ← Int.natCast_mul, hle]
    exact Int.ofNat_le
  rw [decide_eq_decide.mpr dec] at hK
  exact hK
end Go.Proofs
set_option linter.unusedSimpArgs false
set_option maxRecDepth 100000
namespace Go.Hx
theorem Below.mono {n m : Nat} {v : AVal} (h : Below n v) (hm : n ≤ m) : Below m v := by
  induction h with
  | lit v => exact .lit v
  | vec h ih => exact .vec ih
  | vptr h ih => exact .vptr ih
  | agg h ih => exact .agg ih
  | tup h ih => exact .tup ih
  | clo h1 h2 ih1 ih2 => exact .clo ih1 ih2
  | own h => exact .own (by omega)
  | ptr h => exact .ptr (by omega)
  | yld h => exact .yld (by omega)
theorem BelowB.mono {n m : Nat} {b : Blk} (h : BelowB n b) (hm : n ≤ m) : BelowB m b := by
  cases b with
  | arr g e cells => exact fun i hi => (h i hi).mono hm
  | loop st pend n env ps asg body => exact fun t ht => (h t ht).mono hm
  | rsv => trivial
theorem clo_ext {H : AHeap} (hc : Clo H) {L : List Blk} (h : ∀ b, b ∈ L → BelowB (H.next + L.length) b) : Clo (ext H L) := by
  have key : ∀ id b, (ext H L).get id = some b → (id < H.next ∧ H.get id = some b) ∨ (id < H.next + L.length ∧ b ∈ L) := by
    intro id b hb
    by_cases h1 : id < H.next
    · rw [get_ext_old _ _ _ h1] at hb; exact .inl ⟨h1, hb⟩
    · by_cases h2 : id < H.next + L.length
      · have := get_ext H L (id - H.next) (by omega)
        rw [show H.next + (id - H.next) = id by omega, hb] at this
        exact .inr ⟨h2, List.mem_of_getElem? this.symm⟩
      · have : (ext H L).get id = H.get id := by unfold ext; simp only; rw [if_neg (by omega)]
        rw [this] at hb
        exact absurd (hc.lt _ _ hb) h1
  refine ⟨fun id b hb => ?_, fun id b hb => ?_⟩
  · rw [ext_next]; rcases key id b hb with ⟨h1, _⟩ | ⟨h1, _⟩ <;> omega
  · rw [ext_next]
    rcases key id b hb with ⟨_, h1⟩ | ⟨_, h1⟩
    · exact (hc.below _ _ h1).mono (by omega)
    · exact h b h1
theorem belowB_lits {n g : Nat} {e : TypeId} {cells : List AVal} (h : ∀ c, c ∈ cells → ∃ v, c = .lit v) : BelowB n (.arr g e cells) := fun i hi => by
  obtain ⟨v, hv⟩ := h _ (List.getElem_mem hi)
  rw [hv]; exact .lit v
theorem nilOf_agg (H : AHeap) (op : BinOp) (a : List AVal) (y : AVal) : nilOf H op (.agg a) y = none := by unfold nilOf; split <;> rfl
attribute [go_sem] nilOf_agg
end Go.Hx
namespace Go.Proofs
open Go.Hx
theorem neqQ' {o1 o2 : Operand} (a b c d : Int) : binA Tryd.prog .neq 29 o1 o2 (.agg [.lit (.int .i64 a), .lit (.int .i64 b)]) (.agg [.lit (.int .i64 c), .lit (.int .i64 d)]) = some (.lit (.bool (!(a == c && b == d)))) := neqQ a b c d
theorem level0 {u v : Int} (h : levelQ u v = 0) : 0 ≤ u ∧ u ≤ 4611686018427387903 ∧ 0 ≤ v ∧ v ≤ 4611686018427387903 := by
  unfold levelQ at h
  rcases checkQ_cases u v with h5 | h0
  · rw [h5, if_pos (by decide)] at h
    exact absurd h (by decide)
  · rw [h0, if_neg (by decide)] at h
    unfold checkQ maxN at h0
    by_cases h2 : v < 1 ∨ v > 4611686018427387903 ∨ u < -4611686018427387903 ∨ u > 4611686018427387903
    · rw [if_pos h2] at h0; exact absurd h0 (by decide)
    · by_cases h3 : u < 0 ∨ v < u
      · rw [if_pos h3] at h; exact absurd h (by decide)
      · omega
set_option maxHeartbeats 2000000 in
theorem rejects_spec (hi wi mo : Int) (ns : List Int) (hn : ns.length = 9) (hh : 0 ≤ hi ∧ hi ≤ 255) (hw : 0 ≤ wi ∧ wi ≤ 255) (hm : 0 ≤ mo ∧ mo ≤ 255) (hns : ∀ c, c ∈ ns → 0 ≤ c ∧ c ≤ 255) (raw : List (List Int)) (a b : Int) (ha : -9223372036854775808 ≤ a ∧ a ≤ 9223372036854775807) (hb : -9223372036854775808 ≤ b ∧ b ≤ 9223372036854775807) (s0 s1 : Int) (hs0 : 0 ≤ s0 ∧ s0 ≤ 255) (hs1 : 0 ≤ s1 ∧ s1 ≤ 255) (H : AHeap) (K : ARes → AHeap → Prop)
    (hK : K (.ret (.lit (.bool true))) H) : ACall Tryd.prog G0 7 [.agg (u8L (hi :: wi :: (ns ++ [mo]))), vecV raw, qV a b, .agg (u8L [s0, s1])] H K := by
  refine ACall.argsBelow ⟨_, Tryd.func7, rfl, rfl⟩ fun hcl hbel => ?_
  obtain ⟨D, hD⟩ : ∃ D, D = u8L (hi :: wi :: (ns ++ [mo])) := ⟨_, rfl⟩
  have dl : D.length = 12 := by rw [hD]; simp [u8L, hn]
  refine ACall.of_body (n := 93) (rs := [.tmp 8]) Tryd.func7 rfl rfl rfl (by decide) (by kernel_rfl) (by simp) ?_
  have dt : D.take 12 = D := List.take_of_length_le (by omega)
  have hT : ∀ H K, (∀ t, TableOk t → K (.ret (vecV t)) H) → ACall Tryd.prog G0 11 [.agg D] H K := fun H K h => by rw [hD]; exact Table_spec hi wi mo ns hn hh hw hm hns H K h
  rw [← hD] at hbel ⊢
  simp (config := { maxSteps := 1000000 }) only [go_sem, Int.reduceToNat, Int.reduceLE, Int.reduceLT, Int.reduceAdd, Int.reduceSub, Int.reduceMul, Int.reduceEq, Int.reduceNe, Nat.reduceEqDiff, Nat.reducePow, Nat.reduceDiv, Nat.reduceMod, Nat.reduceAdd, Nat.reduceMul, Nat.reduceSub, Nat.reduceLT, Nat.reduceLeDiff, reduceIte, reduceCtorEq, dt, qV, u8L, appendA_U]
  obtain ⟨H1, hH1⟩ : ∃ H1, H1 = ext H [.arr 0 24 D, .arr 0 29 [.lit (.int .i64 a), .lit (.int .i64 b)], .arr 0 58 [.lit (.int .u8 s0), .lit (.int .u8 s1)]] := ⟨_, rfl⟩
  have n1 : H1.next = H.next + 3 := by rw [hH1]; rfl
  have cl1 : Clo H1 := by
    rw [hH1]
    refine clo_ext hcl fun b hb => ?_
    simp only [List.mem_cons, List.not_mem_nil, or_false] at hb
    rcases hb with rfl | rfl | rfl
    · exact belowB_lits fun c hc => by rw [hD, u8L] at hc; obtain ⟨x, _, rfl⟩ := List.mem_map.1 hc; exact ⟨_, rfl⟩
    · exact belowB_lits fun c hc => by simp at hc; rcases hc with rfl | rfl <;> exact ⟨_, rfl⟩
    · exact belowB_lits fun c hc => by simp at hc; rcases hc with rfl | rfl <;> exact ⟨_, rfl⟩
  have hbel1 : ∀ v, v ∈ [AVal.agg D, vecV raw, qV a b, AVal.agg (u8L [s0, s1])] → Below H1.next v := fun v hv => (hbel v hv).mono (by omega)
  have ov1 : Over H H1 := by rw [hH1]; exact Over.ext _ _
  have g1 : H1.get (H.next + 1) = some (.arr 0 29 [.lit (.int .i64 a), .lit (.int .i64 b)]) := by rw [hH1]; exact get_ext H _ 1 (by simp)
  have g2 : H1.get (H.next + 2) = some (.arr 0 58 [.lit (.int .u8 s0), .lit (.int .u8 s1)]) := by rw [hH1]; exact get_ext H _ 2 (by simp)
  rw [← hH1]
  refine ⟨by omega, AApply.clo (hT _ _ fun t ht => ⟨trivial, ?_⟩)⟩
  simp (config := { maxSteps := 1000000 }) only [go_sem, Int.reduceToNat, Int.reduceLE, Int.reduceLT, Int.reduceAdd, Int.reduceSub, Int.reduceMul, Int.reduceEq, Int.reduceNe, Nat.reduceEqDiff, Nat.reducePow, Nat.reduceDiv, Nat.reduceMod, Nat.reduceAdd, Nat.reduceMul, Nat.reduceSub, Nat.reduceLT, Nat.reduceLeDiff, reduceIte, reduceCtorEq, appendA_U]
  refine AApply.clo (few_spec raw _ _ fun v L hv => ⟨trivial, ?_⟩)
  have m1 := hv.toV
  obtain ⟨crs, hcr, _⟩ := hv
  have hcell := hcr.cellsE
  have hone := hcr.oneE
  simp (config := { maxSteps := 1000000 }) only [go_sem, Int.reduceToNat, Int.reduceLE, Int.reduceLT, Int.reduceAdd, Int.reduceSub, Int.reduceMul, Int.reduceEq, Int.reduceNe, Nat.reduceEqDiff, Nat.reducePow, Nat.reduceDiv, Nat.reduceMod, Nat.reduceAdd, Nat.reduceMul, Nat.reduceSub, Nat.reduceLT, Nat.reduceLeDiff, reduceIte, reduceCtorEq, hcell, hone, vecV_cells, vecV_one, appendA_U]
  repeat (refine And.intro (by first | omega | (simp; done) | (simp; omega) | (intros; omega) | exact ⟨rfl, by omega, by omega, all_one_ints _⟩) ?_)
  obtain ⟨Z, hZ⟩ : ∃ Z, Z = ext H1 L := ⟨_, rfl⟩
  have nz : Z.next = H1.next + L.length := by rw [hZ]; simp [ext_next]
  have hov : Over H1 Z := by rw [hZ]; exact Over.ext _ _
  have hvr : Fz (fun id => H1.next ≤ id) Z Z.next v (vecV (few raw)) := by rw [hZ]; exact m1.fz fun i => by omega
  have hagg : Fz (fun id => H1.next ≤ id) Z Z.next (.agg [vecV t, v]) (.agg [vecV t, vecV (few raw)]) := by
    refine .agg rfl fun j hj _ => ?_
    match j, hj with
    | 0, _ => exact .vecV _
    | 1, _ => exact hvr
  rw [← hZ]
  apply W.letGo (H := H1) G0_ok cl1 hov
  · repeat first | exact Fz.envOld hbel1 (by omega) | (apply Fz.put'; · first | exact .lit _ | assumption | exact .vecV _ | exact .ptr (by omega) (by omega) | exact .old (hbel1 _ (by simp)) (by omega))
  · trivial
  obtain ⟨Hg, hHg⟩ : ∃ Hg, Hg = gap H1 (Z.next - H1.next) := ⟨_, rfl⟩
  rw [← hHg]
  have hog1 : Over H1 Hg := by rw [hHg]; exact .gap _ _
  have hog : Over H Hg := ov1.trans hog1
  have ng := hog1.next
  refine W.loop0 4951760157141521099531451648 (by rfl) (fun ρ H' => Over Hg H' ∧ ∃ k : Nat, ρ 26 = lin k ∧ k ≤ 2) (fun ρ H => 2 - (iv (ρ 26)).toNat) ?_ ?_
  · simp (config := { maxSteps := 1000000 }) only [go_sem, Int.reduceToNat, Int.reduceLE, Int.reduceLT, Int.reduceAdd, Int.reduceSub, Int.reduceMul, Int.reduceEq, Int.reduceNe, Nat.reduceEqDiff, Nat.reducePow, Nat.reduceDiv, Nat.reduceMod, Nat.reduceAdd, Nat.reduceMul, Nat.reduceSub, Nat.reduceLT, Nat.reduceLeDiff, reduceIte, reduceCtorEq, appendA_U]
    exact ⟨.refl _, 0, rfl, by omega⟩
  rintro ρ H' ⟨hoh, k, h26, hk⟩
  have oh1 : Over H1 H' := hog1.trans hoh
  have nh := oh1.next
  have nh2 := hoh.next
  refine vc_sound _ _ _ (by rfl) ?_
  by_cases hb2 : (k : Int) < 2
  rotate_left
  · simp (config := { maxSteps := 1000000 }) only [go_sem, Int.reduceToNat, Int.reduceLE, Int.reduceLT, Int.reduceAdd, Int.reduceSub, Int.reduceMul, Int.reduceEq, Int.reduceNe, Nat.reduceEqDiff, Nat.reducePow, Nat.reduceDiv, Nat.reduceMod, Nat.reduceAdd, Nat.reduceMul, Nat.reduceSub, Nat.reduceLT, Nat.reduceLeDiff, reduceIte, reduceCtorEq, h26, hb2, appendA_U]
    refine AApply.clo (works_ok _ _ ⟨trivial, ?_⟩)
    simp (config := { maxSteps := 1000000 }) only [go_sem, Int.reduceToNat, Int.reduceLE, Int.reduceLT, Int.reduceAdd, Int.reduceSub, Int.reduceMul, Int.reduceEq, Int.reduceNe, Nat.reduceEqDiff, Nat.reducePow, Nat.reduceDiv, Nat.reduceMod, Nat.reduceAdd, Nat.reduceMul, Nat.reduceSub, Nat.reduceLT, Nat.reduceLeDiff, reduceIte, reduceCtorEq, appendA_U]
    exact FinV.dropO G0_ok hcl (hog.trans hoh) (.lit _) hK
  obtain ⟨X, hX, hX1, hX2⟩ : ∃ X, ([vecV t, vecV (few raw)])[k]? = some (vecV X) ∧ X.length ≤ 4 ∧ ∀ r, r ∈ X → r.length ≤ 4 := by
    have few_le : ∀ t r, r ∈ few t → r.length ≤ 4 := fun t r hr => by
      obtain ⟨r', _, rfl⟩ := List.mem_map.1 hr
      simp only [List.length_take]; omega
    have few_len : ∀ t, (few t).length ≤ 4 := fun t => by simp only [few, List.length_map, List.length_take]; omega
    have q2 := ht.2.1
    have ht4 : ∀ r, r ∈ t → r.length ≤ 4 := fun r hr => by have := (ht.2.2.1 r hr).2.2.1; omega
    match k, hb2 with
    | 0, _ => exact ⟨t, rfl, by omega, ht4⟩
    | 1, _ => exact ⟨_, rfl, few_len _, few_le _⟩
  have w4 := IntWalk.i64_in ((k : Int) + 1) (by omega)
  have x1 : (X.length : Int) < 2 ^ 40 := by omega
  have x2 : ∀ r, r ∈ X → (r.length : Int) < 2 ^ 40 := fun r hr => by have := hX2 r hr; omega
  simp (config := { maxSteps := 1000000 }) only [go_sem, Int.reduceToNat, Int.reduceLE, Int.reduceLT, Int.reduceAdd, Int.reduceSub, Int.reduceMul, Int.reduceEq, Int.reduceNe, Nat.reduceEqDiff, Nat.reducePow, Nat.reduceDiv, Nat.reduceMod, Nat.reduceAdd, Nat.reduceMul, Nat.reduceSub, Nat.reduceLT, Nat.reduceLeDiff, reduceIte, reduceCtorEq, h26, hb2, hX, appendA_U]
  repeat (refine And.intro (by first | omega | (simp; done) | (simp; omega) | (intros; omega) | exact ⟨rfl, by omega, by omega, all_one_ints _⟩) ?_)
  refine AApply.clo (Tail_spec X x1 x2 _ _ ⟨trivial, ?_⟩)
  obtain ⟨bb, hbb⟩ : ∃ bb, bb = decide (TableOk X) := ⟨_, rfl⟩
  have hbb0 := hbb
  have m1 := fun h : TableOk X => mul_le h
  have m2 := fac20
  have m3 := fun h : TableOk X => tailN_le h
  have hmost := fun h : TableOk X => most_red h
  have er : redV (tailN X) (mul (colsOf X)) = qV (tailN X / Nat.gcd (tailN X) (mul (colsOf X)) : Nat) (mul (colsOf X) / Nat.gcd (tailN X) (mul (colsOf X)) : Nat) := by
    unfold redV
    rw [Int.gcd_natCast_natCast, Int.natCast_ediv, Int.natCast_ediv]
  have q1 : tailN X / Nat.gcd (tailN X) (mul (colsOf X)) ≤ tailN X := Nat.div_le_self _ _
  have q2 : mul (colsOf X) / Nat.gcd (tailN X) (mul (colsOf X)) ≤ mul (colsOf X) := Nat.div_le_self _ _
  rw [er] at hmost ⊢
  obtain ⟨p, q, hp, hq, hpq, hns⟩ : ∃ p q : Nat, p ≤ 4611686018427387903 ∧ q ≤ 4611686018427387903 ∧ (TableOk X → qV (tailN X / Nat.gcd (tailN X) (mul (colsOf X)) : Nat) (mul (colsOf X) / Nat.gcd (tailN X) (mul (colsOf X)) : Nat) = qV (p : Int) (q : Int)) ∧ (¬ TableOk X → p = 0 ∧ q = 0) := by
    by_cases hok : TableOk X
    · have := m1 hok
      have := m3 hok
      exact ⟨_, _, by omega, by omega, fun _ => rfl, fun h => absurd hok h⟩
    · exact ⟨0, 0, by omega, by omega, fun h => absurd h hok, fun _ => ⟨rfl, rfl⟩⟩
  obtain ⟨Hx, hHx⟩ : ∃ Hx, Hx = ext H' [.arr 0 29 [.lit (.int .i64 p), .lit (.int .i64 q)], .arr 0 29 [.lit (.int .i64 p), .lit (.int .i64 q)]] := ⟨_, rfl⟩
  by_cases hok : TableOk X
  rw [if_pos hok, hpq hok]
  simp (config := { maxSteps := 1000000 }) only [go_sem, Int.reduceToNat, Int.reduceLE, Int.reduceLT, Int.reduceAdd, Int.reduceSub, Int.reduceMul, Int.reduceEq, Int.reduceNe, Nat.reduceEqDiff, Nat.reducePow, Nat.reduceDiv, Nat.reduceMod, Nat.reduceAdd, Nat.reduceMul, Nat.reduceSub, Nat.reduceLT, Nat.reduceLeDiff, reduceIte, reduceCtorEq, qV, appendA_U]
  refine AApply.clo (Right_spec X x1 x2 _ _ ⟨trivial, ?_⟩)
  rw [decide_eq_true hok]
  simp (config := { maxSteps := 1000000 }) only [go_sem, Int.reduceToNat, Int.reduceLE, Int.reduceLT, Int.reduceAdd, Int.reduceSub, Int.reduceMul, Int.reduceEq, Int.reduceNe, Nat.reduceEqDiff, Nat.reducePow, Nat.reduceDiv, Nat.reduceMod, Nat.reduceAdd, Nat.reduceMul, Nat.reduceSub, Nat.reduceLT, Nat.reduceLeDiff, reduceIte, reduceCtorEq, qV, appendA_U]
  refine AApply.clo (refTail_spec X hok _ _ ⟨trivial, ?_⟩)
  rw [er, hpq hok]
  have r1 : ((p : Int) == (p : Int)) = true := by simp
  have r2 : ((q : Int) == (q : Int)) = true := by simp
  simp (config := { maxSteps := 1000000 }) only [go_sem, Int.reduceToNat, Int.reduceLE, Int.reduceLT, Int.reduceAdd, Int.reduceSub, Int.reduceMul, Int.reduceEq, Int.reduceNe, Nat.reduceEqDiff, Nat.reducePow, Nat.reduceDiv, Nat.reduceMod, Nat.reduceAdd, Nat.reduceMul, Nat.reduceSub, Nat.reduceLT, Nat.reduceLeDiff, reduceIte, reduceCtorEq, qV, neqQ', r1, r2, Bool.and_true, Bool.not_true, appendA_U]
  rw [← hHx]
  rw [decide_eq_true hok] at hbb
  rotate_left
  rw [if_neg hok]
  simp (config := { maxSteps := 1000000 }) only [go_sem, Int.reduceToNat, Int.reduceLE, Int.reduceLT, Int.reduceAdd, Int.reduceSub, Int.reduceMul, Int.reduceEq, Int.reduceNe, Nat.reduceEqDiff, Nat.reducePow, Nat.reduceDiv, Nat.reduceMod, Nat.reduceAdd, Nat.reduceMul, Nat.reduceSub, Nat.reduceLT, Nat.reduceLeDiff, reduceIte, reduceCtorEq, qV, appendA_U]
  refine AApply.clo (Right_spec X x1 x2 _ _ ⟨trivial, ?_⟩)
  rw [decide_eq_false hok]
  have r1 : ((0 : Int) == 0) = true := rfl
  simp (config := { maxSteps := 1000000 }) only [go_sem, Int.reduceToNat, Int.reduceLE, Int.reduceLT, Int.reduceAdd, Int.reduceSub, Int.reduceMul, Int.reduceEq, Int.reduceNe, Nat.reduceEqDiff, Nat.reducePow, Nat.reduceDiv, Nat.reduceMod, Nat.reduceAdd, Nat.reduceMul, Nat.reduceSub, Nat.reduceLT, Nat.reduceLeDiff, reduceIte, reduceCtorEq, qV, neqQ', r1, Bool.and_true, Bool.not_true, appendA_U]
  rw [decide_eq_false hok] at hbb
  have hHx0 : Hx = ext H' [.arr 0 29 [.lit (.int .i64 0), .lit (.int .i64 0)], .arr 0 29 [.lit (.int .i64 0), .lit (.int .i64 0)]] := by rw [hHx, (hns hok).1, (hns hok).2]; rfl
  rw [← hHx0]
  all_goals
    have g14 : Hx.get (H'.next + 1) = some (.arr 0 29 [.lit (.int .i64 p), .lit (.int .i64 q)]) := by rw [hHx]; exact get_ext H' _ 1 (by simp)
    have ohx : Over H' Hx := by rw [hHx]; exact Over.ext _ _
    have nhx : Hx.next = H'.next + 2 := by rw [hHx]; rfl
    have gx1 := (ohx.old _ (show H.next + 1 < H'.next by omega)).trans ((oh1.old _ (by omega)).trans g1)
    have gx2 := (ohx.old _ (show H.next + 2 < H'.next by omega)).trans ((oh1.old _ (by omega)).trans g2)
    refine W.env fun E hE => ?_
    have e6 : E 6 = .ptr (H.next + 1) 0 0 := by rw [hE]; rfl
    have e7 : E 7 = .ptr (H.next + 2) 0 0 := by rw [hE]; rfl
    have e10 : E 10 = vecV X := by rw [hE]; rfl
    have e13 : E 13 = .lit (.bool bb) := by rw [hE, hbb]; rfl
    have e14 : E 14 = .ptr (H'.next + 1) 0 0 := by rw [hE]; rfl
    have e26 : E 26 = lin k := by rw [hE]; first | rfl | exact h26
    have e25 : E 25 = .agg [vecV t, vecV (few raw)] := by rw [hE]; rfl
    clear hE
    have l1 := get_live gx1
    have l2 := get_live gx2
    have l14 := get_live g14
    refine W.draw 12 [0, 0, 2, 6, 0, 16, 48, 112, 254, 0, 1023, 0] Tryd.mixed (by kernel_rfl) (by kernel_rfl) ?_
    simp (config := { maxSteps := 1000000 }) only [go_sem, Int.reduceToNat, Int.reduceLE, Int.reduceLT, Int.reduceAdd, Int.reduceSub, Int.reduceMul, Int.reduceEq, Int.reduceNe, Nat.reduceEqDiff, Nat.reducePow, Nat.reduceDiv, Nat.reduceMod, Nat.reduceAdd, Nat.reduceMul, Nat.reduceSub, Nat.reduceLT, Nat.reduceLeDiff, reduceIte, reduceCtorEq, e6, e7, e10, e13, e14, l1, l2, l14, appendA_U]
  all_goals
    have w5 := IntWalk.i64_in s0 (by omega)
    have w6 := IntWalk.i64_in s1 (by omega)
    have w7 := IntWalk.i64_in (1 + s1) (by omega)
    rw [w5, w6, w7]
    refine ⟨_, [], PCall.pure fun H2 => reduced_spec s0 (1 + s1) (by omega) (by omega) (by omega) (by omega) H2 _ ⟨rfl, rfl⟩, ?_⟩
    simp (config := { maxSteps := 1000000 }) only [go_sem, Int.reduceToNat, Int.reduceLE, Int.reduceLT, Int.reduceAdd, Int.reduceSub, Int.reduceMul, Int.reduceEq, Int.reduceNe, Nat.reduceEqDiff, Nat.reducePow, Nat.reduceDiv, Nat.reduceMod, Nat.reduceAdd, Nat.reduceMul, Nat.reduceSub, Nat.reduceLT, Nat.reduceLeDiff, reduceIte, reduceCtorEq, e6, e7, e10, e13, e14, l1, l2, l14, w5, w6, w7, appendA_U]
    have bnd : ∀ n : Int, 0 ≤ n → n ≤ 256 → 0 ≤ n / (Int.gcd s0 (1 + s1) : Int) ∧ n / (Int.gcd s0 (1 + s1) : Int) ≤ 256 := fun n h1 h2 => ⟨Int.ediv_nonneg h1 (by omega), Int.le_trans (Int.ediv_le_self _ h1) h2⟩
    have bn1 := bnd s0 (by omega) (by omega)
    have bn2 := bnd (1 + s1) (by omega) (by omega)
    generalize s0 / (Int.gcd s0 (1 + s1) : Int) = ra at *
    generalize (1 + s1) / (Int.gcd s0 (1 + s1) : Int) = rb at *
    refine W.loop0 2475880060124016476090728704 (by rfl) (fun ρ H2 => Over Hx H2 ∧ ∃ j : Nat, ρ 64 = lin j ∧ j ≤ 3) (fun ρ H => 3 - (iv (ρ 64)).toNat) ?_ ?_
    · simp (config := { maxSteps := 1000000 }) only [go_sem, Int.reduceToNat, Int.reduceLE, Int.reduceLT, Int.reduceAdd, Int.reduceSub, Int.reduceMul, Int.reduceEq, Int.reduceNe, Nat.reduceEqDiff, Nat.reducePow, Nat.reduceDiv, Nat.reduceMod, Nat.reduceAdd, Nat.reduceMul, Nat.reduceSub, Nat.reduceLT, Nat.reduceLeDiff, reduceIte, reduceCtorEq, appendA_U]
      exact ⟨.refl _, 0, rfl, by omega⟩
    rintro ρ2 H2 ⟨oh2, j, h64, hj⟩
    have nh3 := oh2.next
    refine vc_sound _ _ _ (by rfl) ?_
    by_cases hb3 : (j : Int) < 3
    rotate_left
    · simp (config := { maxSteps := 1000000 }) only [go_sem, Int.reduceToNat, Int.reduceLE, Int.reduceLT, Int.reduceAdd, Int.reduceSub, Int.reduceMul, Int.reduceEq, Int.reduceNe, Nat.reduceEqDiff, Nat.reducePow, Nat.reduceDiv, Nat.reduceMod, Nat.reduceAdd, Nat.reduceMul, Nat.reduceSub, Nat.reduceLT, Nat.reduceLeDiff, reduceIte, reduceCtorEq, h64, hb3, e26, w4, appendA_U]
      exact ⟨by omega, ⟨hoh.trans (ohx.trans oh2), k + 1, by simp, by omega⟩, by omega⟩
    obtain ⟨u, v', hu, hv', hpart⟩ : ∃ u v : Int, (-9223372036854775808 ≤ u ∧ u ≤ 9223372036854775807) ∧ (-9223372036854775808 ≤ v ∧ v ≤ 9223372036854775807) ∧ partA Tryd.prog 29 [.lit (.int .i64 a), .lit (.int .i64 b), .lit (.int .i64 ra), .lit (.int .i64 rb), .lit (.int .i64 p), .lit (.int .i64 q)] (j * 2) = some (.agg [.lit (.int .i64 u), .lit (.int .i64 v)]) := by
      match j, hb3 with
      | 0, _ => exact ⟨a, b, ha, hb, by rw [partA_U, Tryd.underlying29]; rfl⟩
      | 1, _ => exact ⟨ra, rb, by omega, by omega, by rw [partA_U, Tryd.underlying29]; rfl⟩
      | 2, _ => exact ⟨p, q, by omega, by omega, by rw [partA_U, Tryd.underlying29]; rfl⟩
    obtain ⟨H3, hH3⟩ : ∃ H3, H3 = ext H2 [.arr 0 29 [.lit (.int .i64 u), .lit (.int .i64 v')]] := ⟨_, rfl⟩
    have l16 : H3.live H2.next 0 = some (29, [.lit (.int .i64 u), .lit (.int .i64 v')]) := by rw [hH3]; exact get_live (get_ext0 _ _ _)
    have l14' : H3.live (H'.next + 1) 0 = some (29, [.lit (.int .i64 p), .lit (.int .i64 q)]) := by rw [hH3, ext_live_old (by omega)]; exact get_live ((oh2.old _ (by omega)).trans g14)
    have oh3 : Over Hx H3 := by rw [hH3]; exact oh2.trans (Over.ext _ _)
    have nh4 := oh3.next
    have w8 := IntWalk.i64_in ((j : Int) + 1) (by omega)
    simp (config := { maxSteps := 1000000 }) only [go_sem, Int.reduceToNat, Int.reduceLE, Int.reduceLT, Int.reduceAdd, Int.reduceSub, Int.reduceMul, Int.reduceEq, Int.reduceNe, Nat.reduceEqDiff, Nat.reducePow, Nat.reduceDiv, Nat.reduceMod, Nat.reduceAdd, Nat.reduceMul, Nat.reduceSub, Nat.reduceLT, Nat.reduceLeDiff, reduceIte, reduceCtorEq, h64, hb3, e10, e13, e14, hpart, appendA_U]
    rw [← hH3]
    refine AApply.clo (Reject_spec X x1 x2 u v' hu hv' _ _ ⟨trivial, ?_⟩)
    cases hbd : bb with
    | false =>
      have hok1 : ¬ TableOk X := of_decide_eq_false (hbb0.symm.trans hbd)
      rw [hbd] at e13
      rw [rejectV_bad hok1]
      simp (config := { maxSteps := 1000000 }) only [go_sem, Int.reduceToNat, Int.reduceLE, Int.reduceLT, Int.reduceAdd, Int.reduceSub, Int.reduceMul, Int.reduceEq, Int.reduceNe, Nat.reduceEqDiff, Nat.reducePow, Nat.reduceDiv, Nat.reduceMod, Nat.reduceAdd, Nat.reduceMul, Nat.reduceSub, Nat.reduceLT, Nat.reduceLeDiff, reduceIte, reduceCtorEq, l16, appendA_U]
      refine AApply.clo (Level_spec u v' hu hv' _ _ ⟨trivial, ?_⟩)
      simp (config := { maxSteps := 1000000 }) only [go_sem, Int.reduceToNat, Int.reduceLE, Int.reduceLT, Int.reduceAdd, Int.reduceSub, Int.reduceMul, Int.reduceEq, Int.reduceNe, Nat.reduceEqDiff, Nat.reducePow, Nat.reduceDiv, Nat.reduceMod, Nat.reduceAdd, Nat.reduceMul, Nat.reduceSub, Nat.reduceLT, Nat.reduceLeDiff, reduceIte, reduceCtorEq, l16, e13, w8, h64, bin_neq_bool Tryd.underlying4, appendA_U]
      exact ⟨by omega, ⟨oh3, j + 1, by simp, by omega⟩, by omega⟩
    | true =>
      have hok1 : TableOk X := of_decide_eq_true (hbb0.symm.trans hbd)
      rw [hbd] at e13
      rw [rejectV_ok hok1]
      obtain ⟨lv, hlv⟩ : ∃ lv, lv = levelQ u v' := ⟨_, rfl⟩
      obtain ⟨dd, hdd⟩ : ∃ dd, dd = decide ((tailN X : Int) * v' ≤ u * (mul (colsOf X) : Int)) := ⟨_, rfl⟩
      by_cases hl : levelQ u v' = 0
      · rw [show decide (levelQ u v' = 0 ∧ (tailN X : Int) * v' ≤ u * (mul (colsOf X) : Int)) = dd by rw [hdd]; simp [hl], hl]
        simp (config := { maxSteps := 1000000 }) only [go_sem, Int.reduceToNat, Int.reduceLE, Int.reduceLT, Int.reduceAdd, Int.reduceSub, Int.reduceMul, Int.reduceEq, Int.reduceNe, Nat.reduceEqDiff, Nat.reducePow, Nat.reduceDiv, Nat.reduceMod, Nat.reduceAdd, Nat.reduceMul, Nat.reduceSub, Nat.reduceLT, Nat.reduceLeDiff, reduceIte, reduceCtorEq, l16, appendA_U]
        refine AApply.clo (Level_spec u v' hu hv' _ _ ⟨trivial, ?_⟩)
        rw [hl]
        simp (config := { maxSteps := 1000000 }) only [go_sem, Int.reduceToNat, Int.reduceLE, Int.reduceLT, Int.reduceAdd, Int.reduceSub, Int.reduceMul, Int.reduceEq, Int.reduceNe, Nat.reduceEqDiff, Nat.reducePow, Nat.reduceDiv, Nat.reduceMod, Nat.reduceAdd, Nat.reduceMul, Nat.reduceSub, Nat.reduceLT, Nat.reduceLeDiff, reduceIte, reduceCtorEq, l16, l14', e13, e14, appendA_U]
        have hnat := level0 hl
        obtain ⟨u', rfl⟩ := Int.eq_ofNat_of_zero_le hnat.1
        obtain ⟨v'', rfl⟩ := Int.eq_ofNat_of_zero_le hnat.2.2.1
        have hm' := hmost hok1 u' v'' (by omega) (by omega)
        rw [hpq hok1] at hm'
        refine AApply.clo (hm' _ _ ⟨trivial, ?_⟩)
        rw [← hdd]
        have hdx : (dd == dd) = true := by cases dd <;> rfl
        simp (config := { maxSteps := 1000000 }) only [go_sem, Int.reduceToNat, Int.reduceLE, Int.reduceLT, Int.reduceAdd, Int.reduceSub, Int.reduceMul, Int.reduceEq, Int.reduceNe, Nat.reduceEqDiff, Nat.reducePow, Nat.reduceDiv, Nat.reduceMod, Nat.reduceAdd, Nat.reduceMul, Nat.reduceSub, Nat.reduceLT, Nat.reduceLeDiff, reduceIte, reduceCtorEq, w8, h64, bin_neq_bool Tryd.underlying4, hdx, appendA_U]
        exact ⟨by omega, ⟨oh3, j + 1, by simp, by omega⟩, by omega⟩
      · rw [show decide (levelQ u v' = 0 ∧ (tailN X : Int) * v' ≤ u * (mul (colsOf X) : Int)) = false by simp [hl]]
        rw [← hlv] at hl ⊢
        simp (config := { maxSteps := 1000000 }) only [go_sem, Int.reduceToNat, Int.reduceLE, Int.reduceLT, Int.reduceAdd, Int.reduceSub, Int.reduceMul, Int.reduceEq, Int.reduceNe, Nat.reduceEqDiff, Nat.reducePow, Nat.reduceDiv, Nat.reduceMod, Nat.reduceAdd, Nat.reduceMul, Nat.reduceSub, Nat.reduceLT, Nat.reduceLeDiff, reduceIte, reduceCtorEq, l16, appendA_U]
        refine AApply.clo (Level_spec u v' hu hv' _ _ ⟨trivial, ?_⟩)
        rw [← hlv]
        simp (config := { maxSteps := 1000000 }) only [go_sem, Int.reduceToNat, Int.reduceLE, Int.reduceLT, Int.reduceAdd, Int.reduceSub, Int.reduceMul, Int.reduceEq, Int.reduceNe, Nat.reduceEqDiff, Nat.reducePow, Nat.reduceDiv, Nat.reduceMod, Nat.reduceAdd, Nat.reduceMul, Nat.reduceSub, Nat.reduceLT, Nat.reduceLeDiff, reduceIte, reduceCtorEq, l16, e13, w8, h64, hl, bin_neq_bool Tryd.underlying4, appendA_U]
        exact ⟨by omega, ⟨oh3, j + 1, by simp, by omega⟩, by omega⟩
theorem rejects_call (hi wi mo : Int) (ns : List Int) (hn : ns.length = 9) (hh : 0 ≤ hi ∧ hi ≤ 255) (hw : 0 ≤ wi ∧ wi ≤ 255) (hm : 0 ≤ mo ∧ mo ≤ 255) (hns : ∀ c, c ∈ ns → 0 ≤ c ∧ c ≤ 255) (raw : List (List Int)) (a b : Int) (ha : -9223372036854775808 ≤ a ∧ a ≤ 9223372036854775807) (hb : -9223372036854775808 ≤ b ∧ b ≤ 9223372036854775807) (l : List Int) (hl : l.length = 2) (hs : ∀ c, c ∈ l → 0 ≤ c ∧ c ≤ 255) (H : AHeap) (K : ARes → AHeap → Prop)
    (hK : K (.ret (.lit (.bool true))) H) : ACall Tryd.prog G0 7 [.agg (u8L (hi :: wi :: (ns ++ [mo]))), vecV raw, .agg [.lit (.int .i64 a), .lit (.int .i64 b)], .agg (l.map fun n => .lit (.int .u8 n))] H K := by
  match l, hl, hs with
  | [s0, s1], _, hs => exact rejects_spec hi wi mo ns hn hh hw hm hns raw a b ha hb s0 s1 (hs s0 (by simp)) (hs s1 (by simp)) H K hK
end Go.Proofs
set_option linter.unusedSimpArgs false
set_option maxRecDepth 100000
namespace Go.Proofs
open Go.Hx
/-! The plain law of TailHolds. -/
theorem mul2_30 : ∀ a, a < 21 → ∀ b, b < 21 → ∀ c, c < 21 → a + b + c ≤ 20 → fac (a + b + c) ≤ 1073741824 * (fac a * (fac b * (fac c * 1))) := by decide +kernel
theorem mul_30 {t : List (List Int)} (h : TableOk t) : mul (colsOf t) ≤ 1073741824 := by
  obtain ⟨h1, h2, h3⟩ := cols_ok h
  have h4 := mul_fac h2
  have hp : 0 < pfac (colsOf t) := by
    rcases Nat.eq_zero_or_pos (pfac (colsOf t)) with h0 | h0
    · rw [h0, Nat.mul_zero] at h4
      have : ∀ n, 0 < fac n := fun n => by induction n with
        | zero => decide
        | succ n ih => exact Nat.mul_pos ih (by omega)
      have := this (colsOf t).sum.toNat
      omega
    · exact h0
  refine Nat.le_of_mul_le_mul_right ?_ hp
  rw [h4]
  generalize colsOf t = l at *
  match l, h1, h2, h3 with
  | [], _, _, _ => decide
  | [a], _, h2, h3 =>
    have := h2 a (by simp)
    simp only [List.sum_cons, List.sum_nil] at h3
    have := mul2_30 a.toNat (by omega) 0 (by omega) 0 (by omega) (by omega)
    simp only [List.sum_cons, List.sum_nil, pfac, Int.add_zero, Nat.add_zero] at this ⊢
    simpa [fac] using this
  | [a, b], _, h2, h3 =>
    have := h2 a (by simp)
    have := h2 b (by simp)
    simp only [List.sum_cons, List.sum_nil] at h3
    have := mul2_30 a.toNat (by omega) b.toNat (by omega) 0 (by omega) (by omega)
    have e : (a + b).toNat = a.toNat + b.toNat := by omega
    simp only [List.sum_cons, List.sum_nil, pfac, Int.add_zero, Nat.add_zero, e] at this ⊢
    simpa [fac] using this
  | [a, b, c], _, h2, h3 =>
    have := h2 a (by simp)
    have := h2 b (by simp)
    have := h2 c (by simp)
    simp only [List.sum_cons, List.sum_nil] at h3
    have := mul2_30 a.toNat (by omega) b.toNat (by omega) c.toNat (by omega) (by omega)
    have e : (a + (b + c)).toNat = a.toNat + b.toNat + c.toNat := by omega
    simp only [List.sum_cons, List.sum_nil, pfac, Int.add_zero, e] at this ⊢
    exact this
theorem wayN_pos : ∀ {t : List (List Int)}, (∀ r, r ∈ t → ∀ c, c ∈ r → 0 ≤ c) → 0 < wayN t
  | [], _ => by decide
  | r :: t, h => by
    rw [wayN_cons]
    exact Nat.mul_pos (mul_pos (h r (by simp))) (wayN_pos fun r' hr => h r' (by simp [hr]))
theorem wayN_pos' {t : List (List Int)} (h : TableOk t) : 0 < wayN t := wayN_pos fun r hr c hc => ((rows_ok h r hr).2.2.2 c hc).1
theorem sumL_sub {α : Type} {l l' : List α} {f : α → Nat} (h : l.Sublist l') : sumL l f ≤ sumL l' f := by
  induction h with
  | slnil => exact Nat.le_refl _
  | cons a _ ih => rw [sumL_cons]; omega
  | cons_cons a _ ih => rw [sumL_cons, sumL_cons]; omega
theorem sumL_mem {α : Type} {l : List α} {f : α → Nat} {x : α} (h : x ∈ l) : f x ≤ sumL l f := by
  induction l with
  | nil => cases h
  | cons a l ih =>
    rw [sumL_cons]
    rcases List.mem_cons.1 h with rfl | h
    · omega
    · have := ih h; omega
theorem sumL_le {α : Type} {l : List α} {f g : α → Nat} (h : ∀ x, x ∈ l → f x ≤ g x) : sumL l f ≤ sumL l g := by
  induction l with
  | nil => exact Nat.le_refl _
  | cons a l ih =>
    rw [sumL_cons, sumL_cons]
    have := h a (by simp)
    have := ih fun x hx => h x (by simp [hx])
    omega
theorem tailN_ge {t : List (List Int)} (h : TableOk t) : wayN t ≤ tailN t := by
  have := sumL_mem (f := fun x => if wayN x ≤ wayN t then wayN x else 0) (self_mem h)
  simp only [if_pos (Nat.le_refl _)] at this
  exact this
/-- What is rejected at a level (n / d), all together. -/
def rejS (l : List (List (List Int))) (n d M : Nat) : Nat := sumL l fun x => if tailN x * d ≤ n * M then wayN x else 0
theorem rej_max (n d M : Nat) : ∀ l : List (List (List Int)), rejS l n d M = 0 ∨ ∃ x, x ∈ l ∧ tailN x * d ≤ n * M ∧ rejS l n d M ≤ tailS l (wayN x)
  | [] => .inl rfl
  | y :: l => by
    have ih := rej_max n d M l
    have mono : ∀ w w', w ≤ w' → tailS l w ≤ tailS l w' := fun w w' h => sumL_le fun x _ => by split <;> split <;> omega
    have e1 : rejS (y :: l) n d M = (if tailN y * d ≤ n * M then wayN y else 0) + rejS l n d M := sumL_cons ..
    have e2 : ∀ w, tailS (y :: l) w = (if wayN y ≤ w then wayN y else 0) + tailS l w := fun w => sumL_cons ..
    by_cases hy : tailN y * d ≤ n * M
    · rw [if_pos hy] at e1
      refine .inr ?_
      rcases ih with h0 | ⟨x, hx, hr, hle⟩
      · exact ⟨y, by simp, hy, by rw [e1, h0, e2, if_pos (Nat.le_refl _)]; omega⟩
      · by_cases hw : wayN y ≤ wayN x
        · exact ⟨x, by simp [hx], hr, by rw [e1, e2, if_pos hw]; omega⟩
        · have := mono (wayN x) (wayN y) (by omega)
          exact ⟨y, by simp, hy, by rw [e1, e2, if_pos (Nat.le_refl _)]; omega⟩
    · rw [if_neg hy] at e1
      rcases ih with h0 | ⟨x, hx, hr, hle⟩
      · exact .inl (by omega)
      · exact .inr ⟨x, by simp [hx], hr, by rw [e1, e2]; omega⟩
/-- The stage's theorem. -/
theorem rej_law {t : List (List Int)} (h : TableOk t) (n d k : Nat) : rejS ((allT t).take k) n d (mul (colsOf t)) * d ≤ n * mul (colsOf t) := by
  rcases rej_max n d (mul (colsOf t)) ((allT t).take k) with h0 | ⟨x, hx, hr, hle⟩
  · rw [h0]; simp
  · have hxa := List.mem_of_mem_take hx
    have h1 : tailS ((allT t).take k) (wayN x) ≤ tailS (allT t) (wayN x) := sumL_sub (List.take_sublist _ _)
    have h2 : tailN x = tailS (allT t) (wayN x) := by unfold tailN; rw [allT_same h hxa]
    exact Nat.le_trans (Nat.mul_le_mul_right d (by omega)) hr
theorem rejS_le {t : List (List Int)} (h : TableOk t) (n d k : Nat) : rejS ((allT t).take k) n d (mul (colsOf t)) ≤ mul (colsOf t) := by
  rw [← allT_sum h]
  exact Nat.le_trans (sumL_le fun x _ => by split <;> omega) (sumL_sub (List.take_sublist _ _))
theorem rejS_succ {l : List (List (List Int))} {k : Nat} {x : List (List Int)} (hx : l[k]? = some x) (n d M : Nat) : rejS (l.take (k + 1)) n d M = rejS (l.take k) n d M + if tailN x * d ≤ n * M then wayN x else 0 := by
  unfold rejS
  rw [take_succ_of hx, sumL_append, sumL_cons, sumL_nil]
  omega
end Go.Proofs
set_option linter.unusedSimpArgs false
set_option maxRecDepth 100000
namespace Go.Proofs
open Go.Hx
set_option maxHeartbeats 2000000 in
theorem holds_spec (hi wi mo : Int) (ns : List Int) (hn : ns.length = 9) (hh : 0 ≤ hi ∧ hi ≤ 255) (hw : 0 ≤ wi ∧ wi ≤ 255) (hm : 0 ≤ mo ∧ mo ≤ 255) (hns : ∀ c, c ∈ ns → 0 ≤ c ∧ c ≤ 255) (n m : Int) (hn0 : 0 ≤ n ∧ n ≤ 255) (hm0 : 0 ≤ m ∧ m ≤ 255) (H : AHeap) (K : ARes → AHeap → Prop)
    (hK : K (.ret (.lit (.bool true))) H) : ACall Tryd.prog G0 3 [.agg (u8L (hi :: wi :: (ns ++ [mo]))), .lit (.int .u8 n), .lit (.int .u8 m)] H K := by
  refine ACall.clo ⟨_, Tryd.func3, rfl, rfl⟩ fun hcl => ?_
  obtain ⟨D, hD⟩ : ∃ D, D = u8L (hi :: wi :: (ns ++ [mo])) := ⟨_, rfl⟩
  have dl : D.length = 12 := by rw [hD]; simp [u8L, hn]
  have hT : ∀ H K, (∀ t, TableOk t → K (.ret (vecV t)) H) → ACall Tryd.prog G0 11 [.agg D] H K := fun H K h => by rw [hD]; exact Table_spec hi wi mo ns hn hh hw hm hns H K h
  rw [← hD]
  refine ACall.of_body (n := 145) (rs := [.tmp 6]) Tryd.func3 rfl rfl rfl (by decide) (by kernel_rfl) (by simp) ?_
  have dt : D.take 12 = D := List.take_of_length_le (by omega)
  obtain ⟨a, ha⟩ : ∃ a : Nat, (a : Int) = n.tmod (m + 2) := ⟨(n.tmod (m + 2)).toNat, Int.toNat_of_nonneg (Int.tmod_nonneg _ hn0.1)⟩
  have hal : (a : Int) < m + 2 := by rw [ha]; exact Int.tmod_lt_of_pos _ (by omega)
  obtain ⟨d, hd⟩ : ∃ d : Nat, (d : Int) = m + 1 := ⟨(m + 1).toNat, by omega⟩
  have w1 := IntWalk.i64_in n (by omega)
  have w2 := IntWalk.i64_in m (by omega)
  have w3 := IntWalk.i64_in (m + 2) (by omega)
  have w4 := IntWalk.i64_in (m + 1) (by omega)
  have w5 := IntWalk.i64_in (a : Int) (by omega)
  have z1 : ¬ m + 2 = 0 := by omega
  simp (config := { maxSteps := 1000000 }) only [go_sem, Int.reduceToNat, Int.reduceLE, Int.reduceLT, Int.reduceAdd, Int.reduceSub, Int.reduceMul, Int.reduceEq, Int.reduceNe, Nat.reduceEqDiff, Nat.reducePow, Nat.reduceDiv, Nat.reduceMod, Nat.reduceAdd, Nat.reduceMul, Nat.reduceSub, Nat.reduceLT, Nat.reduceLeDiff, reduceIte, reduceCtorEq, dt, appendA_U]
  refine AApply.clo (works_ok _ _ ⟨trivial, ?_⟩)
  simp (config := { maxSteps := 1000000 }) only [go_sem, Int.reduceToNat, Int.reduceLE, Int.reduceLT, Int.reduceAdd, Int.reduceSub, Int.reduceMul, Int.reduceEq, Int.reduceNe, Nat.reduceEqDiff, Nat.reducePow, Nat.reduceDiv, Nat.reduceMod, Nat.reduceAdd, Nat.reduceMul, Nat.reduceSub, Nat.reduceLT, Nat.reduceLeDiff, reduceIte, reduceCtorEq, dt, appendA_U]
  refine ⟨by omega, AApply.clo (hT _ _ fun t ht => ⟨trivial, ?_⟩)⟩
  simp (config := { maxSteps := 1000000 }) only [go_sem, Int.reduceToNat, Int.reduceLE, Int.reduceLT, Int.reduceAdd, Int.reduceSub, Int.reduceMul, Int.reduceEq, Int.reduceNe, Nat.reduceEqDiff, Nat.reducePow, Nat.reduceDiv, Nat.reduceMod, Nat.reduceAdd, Nat.reduceMul, Nat.reduceSub, Nat.reduceLT, Nat.reduceLeDiff, reduceIte, reduceCtorEq, w1, w2, w3, w4, w5, z1, ← ha, appendA_U]
  rw [← hd]
  refine AApply.clo (reduced_spec a d (by omega) (by omega) (by omega) (by omega) _ _ ⟨trivial, ?_⟩)
  rw [Int.gcd_natCast_natCast, ← Int.natCast_ediv, ← Int.natCast_ediv]
  have ckl := checkQ_red (n := a) (d := d) (by omega) (by omega) (by omega)
  have hg0 : 0 < Nat.gcd a d := Nat.gcd_pos_of_pos_right _ (by omega)
  have b1 : a / Nat.gcd a d ≤ a := Nat.div_le_self _ _
  have b2 : d / Nat.gcd a d ≤ d := Nat.div_le_self _ _
  have b3 : a / Nat.gcd a d ≤ d / Nat.gcd a d := Nat.div_le_div_right (by omega)
  generalize a / Nat.gcd a d = x at *
  generalize d / Nat.gcd a d = y at *
  have z2 : ¬ (y : Int) < (x : Int) := by omega
  simp (config := { maxSteps := 1000000 }) only [go_sem, Int.reduceToNat, Int.reduceLE, Int.reduceLT, Int.reduceAdd, Int.reduceSub, Int.reduceMul, Int.reduceEq, Int.reduceNe, Nat.reduceEqDiff, Nat.reducePow, Nat.reduceDiv, Nat.reduceMod, Nat.reduceAdd, Nat.reduceMul, Nat.reduceSub, Nat.reduceLT, Nat.reduceLeDiff, reduceIte, reduceCtorEq, z2, appendA_U]
  have hlen := allT_len ht
  have htl : (t.length : Int) < 2 ^ 40 := by have := ht.2.1; omega
  have htr : ∀ r, r ∈ t → (r.length : Int) < 2 ^ 40 := fun r hr => by have := (ht.2.2.1 r hr).2.2.1; omega
  refine AApply.clo (All_spec t htl htr _ _ ⟨trivial, ?_⟩)
  rw [if_pos ht]
  simp (config := { maxSteps := 1000000 }) only [go_sem, Int.reduceToNat, Int.reduceLE, Int.reduceLT, Int.reduceAdd, Int.reduceSub, Int.reduceMul, Int.reduceEq, Int.reduceNe, Nat.reduceEqDiff, Nat.reducePow, Nat.reduceDiv, Nat.reduceMod, Nat.reduceAdd, Nat.reduceMul, Nat.reduceSub, Nat.reduceLT, Nat.reduceLeDiff, reduceIte, reduceCtorEq, z2, appendA_U]
  refine AApply.clo (Total_spec t htl htr _ _ ⟨trivial, ?_⟩)
  rw [if_pos ht, total_mul ht]
  obtain ⟨M, hM⟩ : ∃ M, M = mul (colsOf t) := ⟨_, rfl⟩
  have hM0 := (mul_le ht).2
  have hM30 := mul_30 ht
  rw [← hM] at hM0 hM30 ⊢
  obtain ⟨q, hq⟩ : ∃ q, q = min (allT t).length 60 := ⟨_, rfl⟩
  have hmin : (if (60 : Int) < (allT t).length then (60 : Int) else (allT t).length) = q := by split <;> omega
  simp (config := { maxSteps := 1000000 }) only [go_sem, Int.reduceToNat, Int.reduceLE, Int.reduceLT, Int.reduceAdd, Int.reduceSub, Int.reduceMul, Int.reduceEq, Int.reduceNe, Nat.reduceEqDiff, Nat.reducePow, Nat.reduceDiv, Nat.reduceMod, Nat.reduceAdd, Nat.reduceMul, Nat.reduceSub, Nat.reduceLT, Nat.reduceLeDiff, reduceIte, reduceCtorEq, z2, vecT, hmin, appendA_U]
  repeat (refine And.intro (by first | omega | (simp; done) | (simp; omega) | (intros; omega) | exact ⟨rfl, by omega, by omega, all_one_ints _⟩) ?_)
  obtain ⟨H1, hH1⟩ : ∃ H1, H1 = ext H [.arr 0 24 D, .arr 0 29 [.lit (.int .i64 x), .lit (.int .i64 y)]] := ⟨_, rfl⟩
  rw [← hH1]
  have n1 : H1.next = H.next + 2 := by rw [hH1]; rfl
  have ov1 : Over H H1 := by rw [hH1]; exact Over.ext _ _
  have g1 : H1.get (H.next + 1) = some (.arr 0 29 [.lit (.int .i64 x), .lit (.int .i64 y)]) := by rw [hH1]; exact get_ext H _ 1 (by simp)
  have hrl := rejS_le ht x y
  have hlaw := rej_law ht x y q
  rw [← hM] at hlaw hrl
  refine W.env fun E hE => ?_
  have e8 : E 8 = .ptr (H.next + 1) 0 0 := by rw [hE]; rfl
  have e11 : E 11 = .lit (.int .i64 M) := by rw [hE]; rfl
  have e62 : E 62 = .vec q (List.take q (List.map vecV (allT t))) := by rw [hE]; rfl
  have e63 : E 63 = .lit (.int .i64 q) := by rw [hE]; rfl
  have e64 : E 64 = .lit (.int .i64 0) := by rw [hE]; rfl
  have e13 : E 13 = .lit (.int .i64 0) := by rw [hE]; rfl
  clear hE
  refine W.loop0 87112285931760246646605452758458956750912 (by rfl) (fun ρ H' => Over H1 H' ∧ ∃ k : Nat, ρ 64 = lin k ∧ k ≤ q ∧ ρ 13 = lin (rejS ((allT t).take k) x y M : Nat)) (fun ρ H => q - (iv (ρ 64)).toNat) ?_ ?_
  · simp (config := { maxSteps := 1000000 }) only [go_sem, Int.reduceToNat, Int.reduceLE, Int.reduceLT, Int.reduceAdd, Int.reduceSub, Int.reduceMul, Int.reduceEq, Int.reduceNe, Nat.reduceEqDiff, Nat.reducePow, Nat.reduceDiv, Nat.reduceMod, Nat.reduceAdd, Nat.reduceMul, Nat.reduceSub, Nat.reduceLT, Nat.reduceLeDiff, reduceIte, reduceCtorEq, e64, e13, appendA_U]
    exact ⟨.refl _, 0, rfl, by omega, rfl⟩
  rintro ρ H' ⟨oh, k, h64, hk, h13⟩
  have nh := oh.next
  have l8 : H'.live (H.next + 1) 0 = some (29, [.lit (.int .i64 x), .lit (.int .i64 y)]) := get_live ((oh.old _ (by omega)).trans g1)
  have s1 := hrl k
  have lev : levelQ (x : Int) (y : Int) = 0 := by
    unfold levelQ
    rw [ckl, if_neg (by decide), if_neg (by omega)]
  refine vc_sound _ _ _ (by rfl) ?_
  by_cases hb : (k : Int) < q
  rotate_left
  · obtain rfl : k = q := by omega
    have p1 : rejS ((allT t).take k) x y M * y ≤ 1073741824 * 256 := Nat.mul_le_mul (by omega) (by omega)
    have p2 : x * M ≤ 256 * 1073741824 := Nat.mul_le_mul (by omega) (by omega)
    have c1 := Int.natCast_mul (rejS ((allT t).take k) x y M) y
    have c2 := Int.natCast_mul x M
    have v1 := IntWalk.i64_in ((rejS ((allT t).take k) x y M : Int) * (y : Int)) (by omega)
    have v2 := IntWalk.i64_in ((x : Int) * (M : Int)) (by omega)
    have v3 : ((rejS ((allT t).take k) x y M : Int) * (y : Int)) ≤ (x : Int) * (M : Int) := by omega
    simp (config := { maxSteps := 1000000 }) only [go_sem, Int.reduceToNat, Int.reduceLE, Int.reduceLT, Int.reduceAdd, Int.reduceSub, Int.reduceMul, Int.reduceEq, Int.reduceNe, Nat.reduceEqDiff, Nat.reducePow, Nat.reduceDiv, Nat.reduceMod, Nat.reduceAdd, Nat.reduceMul, Nat.reduceSub, Nat.reduceLT, Nat.reduceLeDiff, reduceIte, reduceCtorEq, h64, hb, e8, e11, e63, h13, l8, v1, v2, v3, appendA_U]
    exact FinV.dropO G0_ok hcl (ov1.trans oh) (.lit _) hK
  obtain ⟨X, hX⟩ : ∃ X, (allT t)[k]? = some X := ⟨_, List.getElem?_eq_getElem (by omega)⟩
  have hxm := List.mem_of_getElem? hX
  obtain ⟨hXok, hXr, hXc, hXw, hXl⟩ := mem_allT ht hxm
  have htk : (List.take q (List.map vecV (allT t)))[k]? = some (vecV X) := by
    rw [List.getElem?_take_of_lt (by omega), List.getElem?_map, hX]; rfl
  have htn : ¬ List.take q (List.map vecV (allT t)) = [] := by intro h0; rw [h0] at htk; cases htk
  have x1 : (X.length : Int) < 2 ^ 40 := by have := hXok.2.1; omega
  have x2 : ∀ r, r ∈ X → (r.length : Int) < 2 ^ 40 := fun r hr => by have := (hXok.2.2.1 r hr).2.2.1; omega
  have w6 := IntWalk.i64_in ((k : Int) + 1) (by omega)
  have tp := tailN_ge hXok
  have tl := tailN_le hXok
  have wp := wayN_pos' hXok
  have hrs := rejS_succ hX x y M
  have er : redV (tailN X) M = qV (tailN X / Nat.gcd (tailN X) M : Nat) (M / Nat.gcd (tailN X) M : Nat) := by
    unfold redV
    rw [Int.gcd_natCast_natCast, Int.natCast_ediv, Int.natCast_ediv]
  have q1 : tailN X / Nat.gcd (tailN X) M ≤ tailN X := Nat.div_le_self _ _
  have q2 : M / Nat.gcd (tailN X) M ≤ M := Nat.div_le_self _ _
  rw [hXc, ← hM] at tl
  have gp : 0 < Nat.gcd (tailN X) M := Nat.gcd_pos_of_pos_right _ hM0
  have q3 : 0 < tailN X / Nat.gcd (tailN X) M := Nat.div_pos (Nat.le_of_dvd (by omega) (Nat.gcd_dvd_left _ _)) gp
  have q4 : tailN X / Nat.gcd (tailN X) M ≤ M / Nat.gcd (tailN X) M := Nat.div_le_div_right tl
  have hle := red_le (n := tailN X) (d := M) (a := x) (b := y) hM0
  generalize tailN X / Nat.gcd (tailN X) M = qn at *
  generalize M / Nat.gcd (tailN X) M = qd at *
  simp (config := { maxSteps := 1000000 }) only [go_sem, Int.reduceToNat, Int.reduceLE, Int.reduceLT, Int.reduceAdd, Int.reduceSub, Int.reduceMul, Int.reduceEq, Int.reduceNe, Nat.reduceEqDiff, Nat.reducePow, Nat.reduceDiv, Nat.reduceMod, Nat.reduceAdd, Nat.reduceMul, Nat.reduceSub, Nat.reduceLT, Nat.reduceLeDiff, reduceIte, reduceCtorEq, h64, hb, e62, e63, e8, htk, htn, l8, appendA_U]
  repeat (refine And.intro (by first | omega | (simp; done) | (simp; omega) | (intros; omega) | exact ⟨rfl, by omega, by omega, all_one_ints _⟩) ?_)
  refine AApply.clo (Reject_spec X x1 x2 x y (by omega) (by omega) _ _ ⟨trivial, ?_⟩)
  rw [rejectV_ok hXok, lev, hXc, ← hM]
  simp (config := { maxSteps := 1000000 }) only [go_sem, Int.reduceToNat, Int.reduceLE, Int.reduceLT, Int.reduceAdd, Int.reduceSub, Int.reduceMul, Int.reduceEq, Int.reduceNe, Nat.reduceEqDiff, Nat.reducePow, Nat.reduceDiv, Nat.reduceMod, Nat.reduceAdd, Nat.reduceMul, Nat.reduceSub, Nat.reduceLT, Nat.reduceLeDiff, reduceIte, reduceCtorEq, h64, hb, e62, e63, e8, htk, htn, appendA_U]
  refine AApply.clo (Tail_spec X x1 x2 _ _ ⟨trivial, ?_⟩)
  rw [if_pos hXok, hXc, ← hM, er]
  simp (config := { maxSteps := 1000000 }) only [go_sem, Int.reduceToNat, Int.reduceLE, Int.reduceLT, Int.reduceAdd, Int.reduceSub, Int.reduceMul, Int.reduceEq, Int.reduceNe, Nat.reduceEqDiff, Nat.reducePow, Nat.reduceDiv, Nat.reduceMod, Nat.reduceAdd, Nat.reduceMul, Nat.reduceSub, Nat.reduceLT, Nat.reduceLeDiff, reduceIte, reduceCtorEq, qV, appendA_U]
  refine AApply.clo (Ways_spec X x1 x2 _ _ ⟨trivial, ?_⟩)
  rw [if_pos hXok, refWays_wayN hXok]
  obtain ⟨H2, hH2⟩ : ∃ H2, H2 = ext H' [.arr 0 29 [.lit (.int .i64 qn), .lit (.int .i64 qd)]] := ⟨_, rfl⟩
  rw [← hH2]
  have l18 : H2.live H'.next 0 = some (29, [.lit (.int .i64 qn), .lit (.int .i64 qd)]) := by rw [hH2]; exact get_live (get_ext0 _ _ _)
  have l8' : H2.live (H.next + 1) 0 = some (29, [.lit (.int .i64 x), .lit (.int .i64 y)]) := by rw [hH2, ext_live_old (by omega)]; exact l8
  have oh2 : Over H1 H2 := by rw [hH2]; exact oh.trans (Over.ext _ _)
  have nh2 := oh2.next
  have y1 : ¬ (qd : Int) < 1 := by omega
  have y2 : ¬ (1073741824 : Int) < (qd : Int) := by omega
  have y3 : ¬ (qn : Int) < 1 := by omega
  have y4 : ¬ (qd : Int) < (qn : Int) := by omega
  have p1 : qn * y ≤ 1073741824 * 256 := Nat.mul_le_mul (by omega) (by omega)
  have p2 : x * qd ≤ 256 * 1073741824 := Nat.mul_le_mul (by omega) (by omega)
  have c1 := Int.natCast_mul qn y
  have c2 := Int.natCast_mul x qd
  have v1 := IntWalk.i64_in ((qn : Int) * (y : Int)) (by omega)
  have v2 := IntWalk.i64_in ((x : Int) * (qd : Int)) (by omega)
  have c3 := Int.natCast_mul (tailN X) y
  have c4 := Int.natCast_mul x M
  have s2 := hrl (k + 1)
  by_cases hr : tailN X * y ≤ x * M
  · have r1 : (qn : Int) * (y : Int) ≤ (x : Int) * (qd : Int) := by have := hle.mpr hr; omega
    have r2 : (tailN X : Int) * (y : Int) ≤ (x : Int) * (M : Int) := by omega
    rw [if_pos hr] at hrs
    have w7 := IntWalk.i64_in ((rejS ((allT t).take k) x y M : Int) + (wayN X : Int)) (by omega)
    simp (config := { maxSteps := 1000000 }) only [go_sem, Int.reduceToNat, Int.reduceLE, Int.reduceLT, Int.reduceAdd, Int.reduceSub, Int.reduceMul, Int.reduceEq, Int.reduceNe, Nat.reduceEqDiff, Nat.reducePow, Nat.reduceDiv, Nat.reduceMod, Nat.reduceAdd, Nat.reduceMul, Nat.reduceSub, Nat.reduceLT, Nat.reduceLeDiff, reduceIte, reduceCtorEq, r2, l18, l8', e8, y1, y2, y3, y4, v1, v2, r1, bin_neq_bool Tryd.underlying4, h13, w6, w7, h64, appendA_U]
    exact ⟨by omega, ⟨oh2, k + 1, by simp, by omega, by rw [hrs]; simp⟩, by omega⟩
  · have r1 : ¬ (qn : Int) * (y : Int) ≤ (x : Int) * (qd : Int) := by have := fun h => hr (hle.mp h); omega
    have r2 : ¬ (tailN X : Int) * (y : Int) ≤ (x : Int) * (M : Int) := by omega
    rw [if_neg hr] at hrs
    simp (config := { maxSteps := 1000000 }) only [go_sem, Int.reduceToNat, Int.reduceLE, Int.reduceLT, Int.reduceAdd, Int.reduceSub, Int.reduceMul, Int.reduceEq, Int.reduceNe, Nat.reduceEqDiff, Nat.reducePow, Nat.reduceDiv, Nat.reduceMod, Nat.reduceAdd, Nat.reduceMul, Nat.reduceSub, Nat.reduceLT, Nat.reduceLeDiff, reduceIte, reduceCtorEq, r2, l18, l8', e8, y1, y2, y3, y4, v1, v2, r1, bin_neq_bool Tryd.underlying4, h13, w6, h64, appendA_U]
    exact ⟨by omega, ⟨oh2, k + 1, by simp, by omega, by rw [hrs]; simp⟩, by omega⟩
end Go.Proofs
set_option linter.unusedSimpArgs false
set_option maxRecDepth 100000
namespace Go.Proofs
open Go.Hx
/-! The tables come in order, and are different. -/
def ltL : List Int → List Int → Prop
  | a :: l, b :: m => a < b ∨ (a = b ∧ ltL l m)
  | _, _ => False
theorem ltL_irrefl : ∀ l : List Int, ¬ ltL l l
  | [] => id
  | a :: l => fun h => by
    rcases h with h | ⟨_, h⟩
    · omega
    · exact ltL_irrefl l h
theorem ltL_append : ∀ {a b : List Int} (_ : ltL a b) (c d : List Int), ltL (a ++ c) (b ++ d)
  | x :: a, y :: b, h, c, d => by
    rcases h with h | ⟨h, h2⟩
    · exact .inl h
    · exact .inr ⟨h, ltL_append h2 c d⟩
theorem ltL_app : ∀ (r : List Int) {c d : List Int} (_ : ltL c d), ltL (r ++ c) (r ++ d)
  | [], _, _, h => h
  | _ :: r, _, _, h => .inr ⟨rfl, ltL_app r h⟩
theorem cnt_sorted (n : Int) : (cnt n).Pairwise (· < ·) := by
  unfold cnt
  rw [List.pairwise_map]
  exact List.pairwise_lt_range.imp fun h => by omega
theorem rowsL_sorted : ∀ (most : List Int) (s : Int), (rowsL s most).Pairwise ltL
  | [], s => by unfold rowsL; split <;> simp
  | m :: ms, s => by
    unfold rowsL
    rw [List.pairwise_flatMap]
    refine ⟨fun c _ => ?_, (cnt_sorted _).imp fun h x hx y hy => ?_⟩
    · rw [List.pairwise_map]
      exact (rowsL_sorted ms (s - c)).imp fun h => .inr ⟨rfl, h⟩
    · obtain ⟨x', _, rfl⟩ := List.mem_map.1 hx
      obtain ⟨y', _, rfl⟩ := List.mem_map.1 hy
      exact .inl h
def ltT (x y : List (List Int)) : Prop := ltL x.flatten y.flatten
theorem tablesL_sorted : ∀ (ss cols : List Int), (tablesL ss cols).Pairwise ltT
  | [], cols => by unfold tablesL; split <;> simp
  | s :: ss, cols => by
    unfold tablesL
    rw [List.pairwise_flatMap]
    refine ⟨fun r _ => ?_, (rowsL_sorted cols s).imp fun h x hx y hy => ?_⟩
    · rw [List.pairwise_map]
      exact (tablesL_sorted ss (subL cols r)).imp fun h => ltL_app r h
    · obtain ⟨x', _, rfl⟩ := List.mem_map.1 hx
      obtain ⟨y', _, rfl⟩ := List.mem_map.1 hy
      exact ltL_append h _ _
theorem allT_nodup (t : List (List Int)) : (allT t).Nodup :=
  (tablesL_sorted _ _).imp fun h e => by subst e; exact ltL_irrefl _ h
theorem allT_lt (t : List (List Int)) {i : Nat} {x y : List (List Int)} (hx : (allT t)[i]? = some x) (hy : (allT t)[i + 1]? = some y) : ltT x y := by
  obtain ⟨h1, rfl⟩ := List.getElem?_eq_some_iff.1 hx
  obtain ⟨h2, rfl⟩ := List.getElem?_eq_some_iff.1 hy
  exact List.pairwise_iff_getElem.1 (tablesL_sorted (rowsOf t) (colsOf t)) i (i + 1) h1 h2 (by omega)
theorem mem_allT_iff {t x : List (List Int)} (h : TableOk t) : x ∈ allT t ↔ TableOk x ∧ rowsOf x = rowsOf t ∧ colsOf x = colsOf t := by
  constructor
  · intro hx
    obtain ⟨h1, h2, h3, _⟩ := mem_allT h hx
    exact ⟨h1, h2, h3⟩
  · rintro ⟨h1, h2, h3⟩
    have := self_mem h1
    unfold allT at this ⊢
    rwa [h2, h3] at this
theorem sumL_perm {α : Type} {A B : List α} (h : A.Perm B) (f : α → Nat) : sumL A f = sumL B f := by
  unfold sumL
  exact (h.map f).sum_nat
theorem sumL_bij {α : Type} [DecidableEq α] {A B : List α} (hA : A.Nodup) (hB : B.Nodup) (f g : α → α) (h1 : ∀ x, x ∈ A → f x ∈ B ∧ g (f x) = x) (h2 : ∀ y, y ∈ B → g y ∈ A ∧ f (g y) = y) (h : α → Nat) : sumL B h = sumL A fun x => h (f x) := by
  rw [← sumL_map A f h]
  refine sumL_perm ?_ h
  refine (List.perm_ext_iff_of_nodup hB ?_).2 fun y => ?_
  · refine List.pairwise_map.2 (List.Pairwise.imp_of_mem (fun {a b} ha hb hab he => hab ?_) hA)
    rw [← (h1 a ha).2, ← (h1 b hb).2, he]
  · rw [List.mem_map]
    constructor
    · intro hy; exact ⟨g y, (h2 y hy).1, (h2 y hy).2⟩
    · rintro ⟨x, hx, rfl⟩; exact (h1 x hx).1
/-- A fraction in lowest terms is one. -/
theorem red_eq {n d n' d' : Nat} (hd : 0 < d) (hd' : 0 < d') (h : n * d' = n' * d) : n / Nat.gcd n d = n' / Nat.gcd n' d' ∧ d / Nat.gcd n d = d' / Nat.gcd n' d' := by
  have g0 : 0 < Nat.gcd n d := Nat.gcd_pos_of_pos_right _ hd
  have g0' : 0 < Nat.gcd n' d' := Nat.gcd_pos_of_pos_right _ hd'
  have e : Nat.gcd n d * d' = Nat.gcd n' d' * d := by
    rw [← Nat.gcd_mul_right, h, Nat.mul_comm d d', Nat.gcd_mul_right]
  obtain ⟨a, ha⟩ := Nat.gcd_dvd_left n d
  obtain ⟨b, hb⟩ := Nat.gcd_dvd_right n d
  obtain ⟨a', ha'⟩ := Nat.gcd_dvd_left n' d'
  obtain ⟨b', hb'⟩ := Nat.gcd_dvd_right n' d'
  have ea : n / Nat.gcd n d = a := Nat.div_eq_of_eq_mul_right g0 ha
  have eb : d / Nat.gcd n d = b := Nat.div_eq_of_eq_mul_right g0 hb
  have ea' : n' / Nat.gcd n' d' = a' := Nat.div_eq_of_eq_mul_right g0' ha'
  have eb' : d' / Nat.gcd n' d' = b' := Nat.div_eq_of_eq_mul_right g0' hb'
  rw [ea, eb, ea', eb']
  generalize Nat.gcd n d = G at *
  generalize Nat.gcd n' d' = G' at *
  subst ha; subst hb; subst ha'; subst hb'
  have e1 : b' = b := by
    have : G * G' * b' = G * G' * b := by
      have : G * (G' * b') = G' * (G * b) := e
      calc G * G' * b' = G * (G' * b') := by rw [Nat.mul_assoc]
        _ = G' * (G * b) := this
        _ = G * G' * b := by rw [← Nat.mul_assoc, Nat.mul_comm G' G]
    exact Nat.eq_of_mul_eq_mul_left (Nat.mul_pos g0 g0') this
  subst e1
  refine ⟨?_, rfl⟩
  have hb0 : 0 < b' := Nat.pos_of_mul_pos_left hd
  have : G * G' * b' * a = G * G' * b' * a' := by
    have h' : G * a * (G' * b') = G' * a' * (G * b') := h
    calc G * G' * b' * a = G * a * (G' * b') := by ac_rfl
      _ = G' * a' * (G * b') := h'
      _ = G * G' * b' * a' := by ac_rfl
  exact Nat.eq_of_mul_eq_mul_left (Nat.mul_pos (Nat.mul_pos g0 g0') hb0) this
theorem redV_eq {n d n' d' : Nat} (hd : 0 < d) (hd' : 0 < d') (h : n * d' = n' * d) : redV (n : Int) (d : Int) = redV (n' : Int) (d' : Int) := by
  have := red_eq hd hd' h
  unfold redV
  rw [Int.gcd_natCast_natCast, Int.gcd_natCast_natCast, ← Int.natCast_ediv, ← Int.natCast_ediv, ← Int.natCast_ediv, ← Int.natCast_ediv, this.1, this.2]
end Go.Proofs
set_option linter.unusedSimpArgs false
set_option maxRecDepth 100000
namespace Go.Proofs
open Go.Hx
/-! The tail does not change if rows are made columns, or rows are exchanged. -/
def Pc (t : List (List Int)) : Nat := t.foldr (fun r w => pfac r * w) 1
theorem pfac_pos : ∀ l : List Int, 0 < pfac l
  | [] => by decide
  | a :: l => by
    have : ∀ n, 0 < fac n := fun n => by induction n with
      | zero => decide
      | succ n ih => exact Nat.mul_pos ih (by omega)
    exact Nat.mul_pos (this _) (pfac_pos l)
theorem way_cells : ∀ {t : List (List Int)}, (∀ r, r ∈ t → ∀ c, c ∈ r → 0 ≤ c) → wayN t * Pc t = pfac (rowsOf t)
  | [], _ => rfl
  | r :: t, h => by
    have ih := way_cells (t := t) fun r' hr => h r' (by simp [hr])
    have h1 := mul_fac (h r (by simp))
    show mul r * wayN t * (pfac r * Pc t) = fac r.sum.toNat * pfac (rowsOf t)
    rw [← h1, ← ih]
    ac_rfl
theorem way_ok {t : List (List Int)} (h : TableOk t) : wayN t * Pc t = pfac (rowsOf t) := way_cells fun r hr c hc => ((rows_ok h r hr).2.2.2 c hc).1
theorem sum_rows {t : List (List Int)} (h : TableOk t) : (colsOf t).sum = (rowsOf t).sum := by
  unfold colsOf; rw [colSum fun r hm => (rows_ok h r hm).1]; rfl
theorem sym_law {t : List (List Int)} (ht : TableOk t) (f g : List (List Int) → List (List Int)) (ht' : TableOk (f t))
    (h1 : ∀ x, x ∈ allT t → f x ∈ allT (f t) ∧ g (f x) = x) (h2 : ∀ y, y ∈ allT (f t) → g y ∈ allT t ∧ f (g y) = y) (hp : ∀ x, x ∈ allT t → Pc (f x) = Pc x)
    (hm : pfac (rowsOf (f t)) * pfac (colsOf (f t)) = pfac (rowsOf t) * pfac (colsOf t)) (hs : (rowsOf (f t)).sum = (rowsOf t).sum) :
    redV (tailN (f t) : Int) (mul (colsOf (f t)) : Int) = redV (tailN t : Int) (mul (colsOf t) : Int) := by
  refine redV_eq (mul_le ht').2 (mul_le ht).2 ?_
  have hR := pfac_pos (rowsOf t)
  have hR' := pfac_pos (rowsOf (f t))
  have hC := pfac_pos (colsOf t)
  have key : ∀ x, x ∈ allT t → wayN (f x) * pfac (rowsOf t) = wayN x * pfac (rowsOf (f t)) := fun x hx => by
    obtain ⟨x1, x2, _⟩ := mem_allT ht hx
    obtain ⟨y1, y2, _⟩ := mem_allT ht' (h1 x hx).1
    rw [← x2, ← y2, ← way_ok x1, ← way_ok y1, hp x hx]
    ac_rfl
  have hT : tailN (f t) * pfac (rowsOf t) = tailN t * pfac (rowsOf (f t)) := by
    unfold tailN tailS
    rw [sumL_bij (allT_nodup t) (allT_nodup (f t)) f g h1 h2, Nat.mul_comm, ← sumL_mul, Nat.mul_comm, ← sumL_mul]
    refine sumL_congr fun x hx => ?_
    have kx := key x hx
    have kt := key t (self_mem ht)
    by_cases hw : wayN x ≤ wayN t
    · have : wayN (f x) ≤ wayN (f t) := by
        refine Nat.le_of_mul_le_mul_right ?_ hR
        rw [kx, kt]
        exact Nat.mul_le_mul_right _ hw
      rw [if_pos hw, if_pos this, Nat.mul_comm, kx, Nat.mul_comm]
    · have : ¬ wayN (f x) ≤ wayN (f t) := fun h => hw (by
        refine Nat.le_of_mul_le_mul_right ?_ hR'
        rw [← kx, ← kt]
        exact Nat.mul_le_mul_right _ h)
      rw [if_neg hw, if_neg this]
      simp
  have e1 := mul_fac (cols_ok ht).2.1
  have e2 := mul_fac (cols_ok ht').2.1
  rw [sum_rows ht] at e1
  rw [sum_rows ht', hs] at e2
  refine Nat.eq_of_mul_eq_mul_right (Nat.mul_pos hR hC) ?_
  calc tailN (f t) * mul (colsOf t) * (pfac (rowsOf t) * pfac (colsOf t)) = (tailN (f t) * pfac (rowsOf t)) * (mul (colsOf t) * pfac (colsOf t)) := by ac_rfl
    _ = (tailN t * pfac (rowsOf (f t))) * (mul (colsOf (f t)) * pfac (colsOf (f t))) := by rw [hT, e1, e2]
    _ = tailN t * mul (colsOf (f t)) * (pfac (rowsOf (f t)) * pfac (colsOf (f t))) := by ac_rfl
    _ = tailN t * mul (colsOf (f t)) * (pfac (rowsOf t) * pfac (colsOf t)) := by rw [hm]
theorem shape {p : List (List Int) → Prop} {t : List (List Int)} (h : TableOk t) (h22 : ∀ a b c d, TableOk [[a, b], [c, d]] → p [[a, b], [c, d]]) (h23 : ∀ a b c d e f, TableOk [[a, b, c], [d, e, f]] → p [[a, b, c], [d, e, f]])
    (h32 : ∀ a b c d e f, TableOk [[a, b], [c, d], [e, f]] → p [[a, b], [c, d], [e, f]]) (h33 : ∀ a b c d e f g i j, TableOk [[a, b, c], [d, e, f], [g, i, j]] → p [[a, b, c], [d, e, f], [g, i, j]]) : p t := by
  have hr := h.2.2.1
  match t, h.1, h.2.1 with
  | [r0, r1], _, _ =>
    have q0 := hr r0 (by simp)
    have q1 := hr r1 (by simp)
    simp only [List.headD_cons, rowOk] at q0 q1
    match r0, q0.2.1, q0.2.2.1, r1, q1.1 with
    | [a, b], _, _, [c, d], _ => exact h22 _ _ _ _ h
    | [a, b, c], _, _, [d, e, f], _ => exact h23 _ _ _ _ _ _ h
  | [r0, r1, r2], _, _ =>
    have q0 := hr r0 (by simp)
    have q1 := hr r1 (by simp)
    have q2 := hr r2 (by simp)
    simp only [List.headD_cons, rowOk] at q0 q1 q2
    match r0, q0.2.1, q0.2.2.1, r1, q1.1, r2, q2.1 with
    | [a, b], _, _, [c, d], _, [e, f], _ => exact h32 _ _ _ _ _ _ h
    | [a, b, c], _, _, [d, e, f], _, [g, i, j], _ => exact h33 _ _ _ _ _ _ _ _ _ h
theorem turned_ok {t : List (List Int)} (h : TableOk t) : TableOk (turned t) ∧ colsOf (turned t) = rowsOf t ∧ turned (turned t) = t ∧ Pc (turned t) = Pc t := by
  have R2 : List.range 2 = [0, 1] := rfl
  have R3 : List.range 3 = [0, 1, 2] := rfl
  refine shape (p := fun t => TableOk (turned t) ∧ colsOf (turned t) = rowsOf t ∧ turned (turned t) = t ∧ Pc (turned t) = Pc t) h (fun a b c d h => ?_) (fun a b c d e f h => ?_) (fun a b c d e f h => ?_) (fun a b c d e f g i j h => ?_)
  all_goals
    refine ⟨?_, ?_, ?_, ?_⟩
    · simp [TableOk, rowOk, total2, turned, R2, R3] at h ⊢
      omega
    · simp [turned, R2, R3, colsOf, rowsOf, colAt]
    · simp [turned, R2, R3]
    · simp only [turned, R2, R3, List.headD_cons, List.length_cons, List.length_nil, List.map_cons, List.map_nil, Nat.zero_add, Nat.reduceAdd, List.getD_cons_zero, List.getD_cons_succ, Pc, List.foldr_cons, List.foldr_nil, pfac, Nat.mul_one]
      ac_rfl
theorem turn_law {t : List (List Int)} (h : TableOk t) : redV (tailN (turned t) : Int) (mul (colsOf (turned t)) : Int) = redV (tailN t : Int) (mul (colsOf t) : Int) := by
  obtain ⟨h1, h2, h3, h4⟩ := turned_ok h
  have hr := rows_turned t
  refine sym_law h turned turned h1 (fun x hx => ?_) (fun y hy => ?_) (fun x hx => ?_) ?_ ?_
  · obtain ⟨a, b, c⟩ := (mem_allT_iff h).1 hx
    obtain ⟨a1, a2, a3, _⟩ := turned_ok a
    exact ⟨(mem_allT_iff h1).2 ⟨a1, by rw [rows_turned, hr, c], by rw [a2, h2, b]⟩, a3⟩
  · obtain ⟨a, b, c⟩ := (mem_allT_iff h1).1 hy
    obtain ⟨a1, a2, a3, _⟩ := turned_ok a
    exact ⟨(mem_allT_iff h).2 ⟨a1, by rw [rows_turned, c, h2], by rw [a2, b, hr]⟩, a3⟩
  · exact (turned_ok ((mem_allT_iff h).1 hx).1).2.2.2
  · rw [hr, h2, Nat.mul_comm]
  · rw [hr, sum_rows h]
end Go.Proofs
set_option linter.unusedSimpArgs false
set_option maxRecDepth 100000
namespace Go.Proofs
open Go.Hx
def swapL {α : Type} (a b : Nat) (l : List α) : List α := match l[a]?, l[b]? with
  | some x, some y => (l.set a y).set b x
  | _, _ => l
theorem swapL_some {α : Type} {a b : Nat} {l : List α} {x y : α} (hx : l[a]? = some x) (hy : l[b]? = some y) : swapL a b l = (l.set a y).set b x := by
  unfold swapL; rw [hx, hy]
theorem swapL_map {α β : Type} (f : α → β) (a b : Nat) (l : List α) : (swapL a b l).map f = swapL a b (l.map f) := by
  unfold swapL
  simp only [List.getElem?_map]
  cases h1 : l[a]? with
  | none => simp
  | some x => cases h2 : l[b]? with
    | none => simp
    | some y => simp [List.map_set]
theorem swapL_length {α : Type} (a b : Nat) (l : List α) : (swapL a b l).length = l.length := by
  unfold swapL; split <;> simp
theorem swapL_swap {α : Type} (a b : Nat) (l : List α) : swapL a b (swapL a b l) = l := by
  rcases Nat.lt_or_ge a l.length with ha | ha
  · rcases Nat.lt_or_ge b l.length with hb | hb
    · have hx := List.getElem?_eq_getElem ha
      have hy := List.getElem?_eq_getElem hb
      have e := swapL_some hx hy
      have h1 : (swapL a b l)[a]? = some l[b] := by
        rw [e]
        by_cases h : b = a
        · subst h; simp [hb]
        · rw [List.getElem?_set_ne h, List.getElem?_set_self ha]
      have h2 : (swapL a b l)[b]? = some l[a] := by
        rw [e, List.getElem?_set_self (by simpa using hb)]
      rw [swapL_some h1 h2, e]
      apply List.ext_getElem?
      intro i
      by_cases hi : i = b
      · subst hi; rw [List.getElem?_set_self (by simpa using hb), hy]
      · rw [List.getElem?_set_ne (Ne.symm hi)]
        by_cases hi2 : i = a
        · subst hi2; rw [List.getElem?_set_self (by simpa using ha), hx]
        · rw [List.getElem?_set_ne (Ne.symm hi2), List.getElem?_set_ne (Ne.symm hi), List.getElem?_set_ne (Ne.symm hi2)]
    · have : ∀ m : List α, m.length = l.length → swapL a b m = m := fun m hm => by
        unfold swapL; rw [List.getElem?_eq_none (l := m) (i := b) (by omega)]; split <;> simp_all
      rw [this l rfl, this l rfl]
  · have : ∀ m : List α, m.length = l.length → swapL a b m = m := fun m hm => by
      unfold swapL; rw [List.getElem?_eq_none (l := m) (i := a) (by omega)]
    rw [this l rfl, this l rfl]
theorem swapL_perm {α : Type} [BEq α] [LawfulBEq α] (a b : Nat) : ∀ (l : List α), l.length ≤ 3 → (swapL a b l).Perm l := by
  intro l hl
  rw [List.perm_iff_count]
  intro z
  match l, hl with
  | [], _ => simp [swapL]
  | [x], _ => match a, b with
    | 0, 0 => simp [swapL]
    | 0, b + 1 => simp [swapL]
    | a + 1, _ => simp [swapL]
  | [x, y], _ => match a, b with
    | 0, 0 => simp [swapL]
    | 0, 1 => simp [swapL, List.count_cons]; omega
    | 1, 0 => simp [swapL, List.count_cons]; omega
    | 1, 1 => simp [swapL]
    | 0, b + 2 => simp [swapL]
    | 1, b + 2 => simp [swapL]
    | a + 2, _ => simp [swapL]
  | [x, y, w], _ => match a, b with
    | 0, 0 => simp [swapL]
    | 0, 1 => simp [swapL, List.count_cons]; omega
    | 0, 2 => simp [swapL, List.count_cons]; omega
    | 1, 0 => simp [swapL, List.count_cons]; omega
    | 1, 1 => simp [swapL]
    | 1, 2 => simp [swapL, List.count_cons]; omega
    | 2, 0 => simp [swapL, List.count_cons]; omega
    | 2, 1 => simp [swapL, List.count_cons]; omega
    | 2, 2 => simp [swapL]
    | 0, b + 3 => simp [swapL]
    | 1, b + 3 => simp [swapL]
    | 2, b + 3 => simp [swapL]
    | a + 3, _ => simp [swapL]
theorem sum_perm {l l' : List Int} (h : l.Perm l') : l.sum = l'.sum := by
  induction h with
  | nil => rfl
  | cons x _ ih => simp [ih]
  | swap x y l => simp; omega
  | trans _ _ h1 h2 => exact h1.trans h2
theorem pfac_perm {l l' : List Int} (h : l.Perm l') : pfac l = pfac l' := by
  induction h with
  | nil => rfl
  | cons x _ ih => simp only [pfac, ih]
  | swap x y l => simp only [pfac]; ac_rfl
  | trans _ _ h1 h2 => exact h1.trans h2
theorem Pc_perm {l l' : List (List Int)} (h : l.Perm l') : Pc l = Pc l' := by
  induction h with
  | nil => rfl
  | cons x _ ih => show pfac x * Pc _ = pfac x * Pc _; rw [ih]
  | swap x y l => show pfac y * (pfac x * Pc l) = pfac x * (pfac y * Pc l); ac_rfl
  | trans _ _ h1 h2 => exact h1.trans h2
theorem head_perm {t t' : List (List Int)} (h : TableOk t) (p : t'.Perm t) : (t'.headD []).length = (t.headD []).length := by
  have h1 := h.1
  rw [← p.length_eq] at h1
  cases t' with
  | nil => simp at h1
  | cons r l => exact (h.2.2.1 r (p.mem_iff.1 (by simp))).1
theorem ok_perm {t t' : List (List Int)} (h : TableOk t) (p : t'.Perm t) : TableOk t' := by
  have hl := p.length_eq
  have hs : total2 t' = total2 t := sum_perm (p.map List.sum)
  refine ⟨by rw [hl]; exact h.1, by rw [hl]; exact h.2.1, fun r hr => ?_, by rw [hs]; exact h.2.2.2.1, by rw [hs]; exact h.2.2.2.2⟩
  rw [head_perm h p]
  exact h.2.2.1 r (p.mem_iff.1 hr)
theorem cols_perm {t t' : List (List Int)} (h : TableOk t) (p : t'.Perm t) : colsOf t' = colsOf t := by
  unfold colsOf
  rw [head_perm h p]
  exact List.map_congr_left fun j _ => sum_perm (p.map _)
theorem swap_law {t : List (List Int)} (h : TableOk t) (a b : Nat) : redV (tailN (swapL a b t) : Int) (mul (colsOf (swapL a b t)) : Int) = redV (tailN t : Int) (mul (colsOf t) : Int) := by
  have pm : ∀ x, TableOk x → (swapL a b x).Perm x := fun x hx => swapL_perm a b x hx.2.1
  have rs : ∀ x, rowsOf (swapL a b x) = swapL a b (rowsOf x) := fun x => swapL_map _ _ _ _
  have h1 := ok_perm h (pm t h)
  have h2 := cols_perm h (pm t h)
  refine sym_law h (swapL a b) (swapL a b) h1 (fun x hx => ?_) (fun y hy => ?_) (fun x hx => ?_) ?_ ?_
  · obtain ⟨q1, q2, q3⟩ := (mem_allT_iff h).1 hx
    exact ⟨(mem_allT_iff h1).2 ⟨ok_perm q1 (pm x q1), by rw [rs, rs, q2], by rw [cols_perm q1 (pm x q1), q3, h2]⟩, swapL_swap a b x⟩
  · obtain ⟨q1, q2, q3⟩ := (mem_allT_iff h1).1 hy
    exact ⟨(mem_allT_iff h).2 ⟨ok_perm q1 (pm y q1), by rw [rs, q2, rs, swapL_swap], by rw [cols_perm q1 (pm y q1), q3, h2]⟩, swapL_swap a b y⟩
  · exact Pc_perm (pm x ((mem_allT_iff h).1 hx).1)
  · have e := pfac_perm ((pm t h).map List.sum)
    rw [h2]
    exact congrArg (· * _) e
  · exact sum_perm ((pm t h).map List.sum)
theorem swap_ok {t : List (List Int)} (h : TableOk t) (a b : Nat) : TableOk (swapL a b t) := ok_perm h (swapL_perm a b t h.2.1)
end Go.Proofs
set_option linter.unusedSimpArgs false
set_option maxRecDepth 100000
namespace Go.Proofs
open Go.Hx
/-! Tables of a call's own: cloned, turned, asked for their tails. -/
theorem clone2_own (t : List (List Int)) (ht : (t.length : Int) < 2 ^ 40) (h0 : 0 < t.length) (H : AHeap) (K : ARes → AHeap → Prop) (hK : ∀ id g H', Over H H' → H.next ≤ id → id < H'.next → H'.get id = some (.arr g 46 (t.map vecI)) → K (.ret (.own id g 0 t.length 1)) H') : ACall Tryd.prog G0 36 [vecV t] H K := by
  refine ACall.of_body (n := 8) (rs := [.tmp 2]) Tryd.func36 rfl rfl rfl (by decide) (by kernel_rfl) (by simp) ?_
  simp (config := { maxSteps := 1000000 }) only [go_sem, Int.reduceToNat, Int.reduceLE, Int.reduceLT, Int.reduceAdd, Int.reduceSub, Int.reduceMul, Int.reduceEq, Int.reduceNe, Nat.reduceEqDiff, Nat.reducePow, Nat.reduceDiv, Nat.reduceMod, Nat.reduceAdd, Nat.reduceMul, Nat.reduceSub, Nat.reduceLT, Nat.reduceLeDiff, reduceIte, reduceCtorEq, vecV, appendA_U]
  intro b hlen
  cases b with
  | true => exact absurd (hlen (by simpa using h0)) (by decide)
  | false =>
    have hn : ¬ t.length = 0 := by omega
    simp (config := { maxSteps := 1000000 }) only [go_sem, Int.reduceToNat, Int.reduceLE, Int.reduceLT, Int.reduceAdd, Int.reduceSub, Int.reduceMul, Int.reduceEq, Int.reduceNe, Nat.reduceEqDiff, Nat.reducePow, Nat.reduceDiv, Nat.reduceMod, Nat.reduceAdd, Nat.reduceMul, Nat.reduceSub, Nat.reduceLT, Nat.reduceLeDiff, reduceIte, reduceCtorEq, hn, appendA_U]
    have hall : (t.map vecI).all AVal.one = true := by simp [vecI, AVal.one]
    refine ⟨by simp, ⟨by simp, by omega, by omega, hall⟩, FinV.mk (by simp [ext_next]) ?_⟩
    refine hK _ _ _ (Over.ext _ _) (Nat.le_refl _) (by simp [ext_next]) ?_
    rw [get_ext0]
    simp
/-- Turned, its result the call's own. -/
theorem Turned_own (t : List (List Int)) (ht : SmallT t) (h0 : 0 < t.length) (hw : ∀ r, r ∈ t → r.length = (t.headD []).length) (H : AHeap) (K : ARes → AHeap → Prop) (hK : ∀ v L, OwnV H L v (turned t) → K (.ret v) (ext H L)) : ACall Tryd.prog G0 35 [vecV t] H K := by
  refine ACall.clo ⟨_, Tryd.func35, rfl, rfl⟩ fun hcl => ?_
  obtain ⟨r0, hr0⟩ : ∃ r, t[0]? = some r := ⟨_, List.getElem?_eq_getElem h0⟩
  have hr0d : t.headD [] = r0 := by
    cases t with
    | nil => simp at h0
    | cons a t => simpa using hr0
  have hne : ¬ t = [] := by rintro rfl; simp at h0
  have ht0 : (0 : Int) < t.length := by omega
  have hr04 := (ht.2 r0 (List.mem_of_getElem? hr0)).1
  have ht4 := ht.1
  rw [hr0d] at hw
  have htl : (turned t).length = r0.length := by unfold turned; rw [hr0d]; simp
  refine ACall.of_body (n := 36) (rs := [.tmp 2]) Tryd.func35 rfl rfl rfl (by decide) (by kernel_rfl) (by simp) ?_
  simp (config := { maxSteps := 1000000 }) only [go_sem, Int.reduceToNat, Int.reduceLE, Int.reduceLT, Int.reduceAdd, Int.reduceSub, Int.reduceMul, Int.reduceEq, Int.reduceNe, Nat.reduceEqDiff, Nat.reducePow, Nat.reduceDiv, Nat.reduceMod, Nat.reduceAdd, Nat.reduceMul, Nat.reduceSub, Nat.reduceLT, Nat.reduceLeDiff, reduceIte, reduceCtorEq, vecV, appendA_U]
  refine W.loop0 34359738360 (by rfl) (fun ρ H' => ∃ (k : Nat) (L : List Blk), H' = ext H L ∧ ρ 4 = lin k ∧ k ≤ r0.length ∧ OwnV H L (ρ 3) ((turned t).take k)) (fun ρ H => r0.length - (iv (ρ 4)).toNat) ?_ ?_
  · simp (config := { maxSteps := 1000000 }) only [go_sem, Int.reduceToNat, Int.reduceLE, Int.reduceLT, Int.reduceAdd, Int.reduceSub, Int.reduceMul, Int.reduceEq, Int.reduceNe, Nat.reduceEqDiff, Nat.reducePow, Nat.reduceDiv, Nat.reduceMod, Nat.reduceAdd, Nat.reduceMul, Nat.reduceSub, Nat.reduceLT, Nat.reduceLeDiff, reduceIte, reduceCtorEq, appendA_U]
    exact ⟨0, [], (ext_nil H).symm, rfl, by omega, .nil⟩
  rintro ρ H' ⟨k, L, rfl, h4, hk, h3⟩
  refine vc_sound _ _ _ (by rfl) ?_
  by_cases hb : (k : Int) < r0.length
  · simp (config := { maxSteps := 1000000 }) only [go_sem, Int.reduceToNat, Int.reduceLE, Int.reduceLT, Int.reduceAdd, Int.reduceSub, Int.reduceMul, Int.reduceEq, Int.reduceNe, Nat.reduceEqDiff, Nat.reducePow, Nat.reduceDiv, Nat.reduceMod, Nat.reduceAdd, Nat.reduceMul, Nat.reduceSub, Nat.reduceLT, Nat.reduceLeDiff, reduceIte, reduceCtorEq, h4, hb, hr0, hne, ht0, appendA_U]
    refine W.loop0 2147450976 (by rfl) (fun ρ' H2 => ∃ (j : Nat) (L2 : List Blk), H2 = ext H L2 ∧ ρ' 6 = lin j ∧ j ≤ t.length ∧ OwnC H L2 3 L.length L2.length (ρ' 5) (ints ((t.take j).map fun r => r.getD k 0)) ∧ L.length ≤ L2.length ∧ ∀ i, i < L.length → L2[i]? = L[i]?) (fun ρ' H => t.length - (iv (ρ' 6)).toNat) ?_ ?_
    · simp (config := { maxSteps := 1000000 }) only [go_sem, Int.reduceToNat, Int.reduceLE, Int.reduceLT, Int.reduceAdd, Int.reduceSub, Int.reduceMul, Int.reduceEq, Int.reduceNe, Nat.reduceEqDiff, Nat.reducePow, Nat.reduceDiv, Nat.reduceMod, Nat.reduceAdd, Nat.reduceMul, Nat.reduceSub, Nat.reduceLT, Nat.reduceLeDiff, reduceIte, reduceCtorEq, appendA_U]
      exact ⟨0, L, rfl, rfl, by omega, .nil, Nat.le_refl _, fun _ _ => rfl⟩
    rintro ρ' H2 ⟨j, L2, rfl, h6, hj, h5, hLL, hLk⟩
    refine vc_sound _ _ _ (by rfl) ?_
    by_cases hb2 : (j : Int) < t.length
    · obtain ⟨r, hrj⟩ : ∃ r, t[j]? = some r := ⟨_, List.getElem?_eq_getElem (by omega)⟩
      have hrw := hw r (List.mem_of_getElem? hrj)
      obtain ⟨c, hc⟩ : ∃ c, r[k]? = some c := ⟨_, List.getElem?_eq_getElem (by omega)⟩
      have hrn : ¬ r = [] := by rintro rfl; simp at hc
      have hkr : (k : Int) < r.length := by omega
      obtain ⟨v', L', hA, hO, hL3, hp⟩ := app_one (H := H) (L := L2) (t := 46) (x := lin c) Tryd.underlying46 Tryd.cells3 Tryd.zero3 rfl (by rw [Tryd.bytes3]; simp [ints]; omega) h5 hLL (Nat.le_refl _)
      simp only [lin] at hA
      simp (config := { maxSteps := 1000000 }) only [go_sem, Int.reduceToNat, Int.reduceLE, Int.reduceLT, Int.reduceAdd, Int.reduceSub, Int.reduceMul, Int.reduceEq, Int.reduceNe, Nat.reduceEqDiff, Nat.reducePow, Nat.reduceDiv, Nat.reduceMod, Nat.reduceAdd, Nat.reduceMul, Nat.reduceSub, Nat.reduceLT, Nat.reduceLeDiff, reduceIte, reduceCtorEq, h6, h4, hb, hb2, hrj, hc, hne, hrn, hkr, hA]
      rw [IntWalk.i64_in ((j : Int) + 1) (by omega)]
      refine ⟨by omega, ⟨j + 1, L', rfl, by simp, by omega, ?_, by omega, fun i hi => ?_⟩, by omega⟩
      · have e : ints ((t.take (j + 1)).map fun r => r.getD k 0) = ints ((t.take j).map fun r => r.getD k 0) ++ [lin c] := by
          rw [take_succ_of hrj]; simp [ints, hc]
        rw [e]
        exact hO
      · rw [hp i (by omega) fun g n he => ?_, hLk i hi]
        rcases h5 with ⟨h5, _⟩ | ⟨i2, g2, h1, _, h5, _⟩
        · rw [h5] at he; cases he
        · rw [h5] at he
          have := AVal.own.inj he
          omega
    · have hje : t.take j = t := List.take_of_length_le (by omega)
      rw [hje] at h5
      have hcell := h5.cells
      have hone := h5.one
      have h3' : OwnV H L2 (ρ 3) ((turned t).take k) := by
        obtain ⟨cs, c1, c2, c3⟩ := h3
        exact ⟨cs, c1.keep (Nat.le_refl _) hLL fun i _ _ hi _ => hLk i hi, c2, fun j r c hr hc => (c3 j r c hr hc).keep (Nat.le_refl _) hLL fun i _ _ hi _ => hLk i hi⟩
      obtain ⟨v', L', hA, hO, hL3⟩ := h3'.app (t := 26) Tryd.underlying26 Tryd.cells46 Tryd.zero46 Tryd.bytes46 (by simp; omega) (h5.keep (Nat.zero_le _) (Nat.le_refl _) fun _ _ _ _ _ => rfl)
      simp (config := { maxSteps := 1000000 }) only [go_sem, Int.reduceToNat, Int.reduceLE, Int.reduceLT, Int.reduceAdd, Int.reduceSub, Int.reduceMul, Int.reduceEq, Int.reduceNe, Nat.reduceEqDiff, Nat.reducePow, Nat.reduceDiv, Nat.reduceMod, Nat.reduceAdd, Nat.reduceMul, Nat.reduceSub, Nat.reduceLT, Nat.reduceLeDiff, reduceIte, reduceCtorEq, h6, h4, hb, hb2, hcell, hone, hA]
      rw [IntWalk.i64_in ((k : Int) + 1) (by omega)]
      have e : (turned t).take (k + 1) = (turned t).take k ++ [t.map fun r => r.getD k 0] := by
        rw [take_succ_of]
        unfold turned
        rw [hr0d, List.getElem?_map, List.getElem?_range (by omega)]
        rfl
      exact ⟨by omega, ⟨k + 1, L', rfl, by simp, by omega, e ▸ hO⟩, by omega⟩
  · simp (config := { maxSteps := 1000000 }) only [go_sem, Int.reduceToNat, Int.reduceLE, Int.reduceLT, Int.reduceAdd, Int.reduceSub, Int.reduceMul, Int.reduceEq, Int.reduceNe, Nat.reduceEqDiff, Nat.reducePow, Nat.reduceDiv, Nat.reduceMod, Nat.reduceAdd, Nat.reduceMul, Nat.reduceSub, Nat.reduceLT, Nat.reduceLeDiff, reduceIte, reduceCtorEq, h4, hb, hr0, hne, ht0, appendA_U]
    have hke : (turned t).take k = turned t := List.take_of_length_le (by omega)
    rw [hke] at h3
    exact FinV.mk (by simp [ext_next]) (hK _ _ h3)
/-- Turned of any table, its result read off. -/
theorem turned_frame {X : List (List Int)} (hX : TableOk X) {v : AVal} {H : AHeap} {K : ARes → AHeap → Prop} (hv : Fz (fun _ => True) H 0 v (vecV X)) (hK : K (.ret (vecV (turned X))) H) : ACall Tryd.prog G0 35 [v] H K := by
  refine (ACall.frame (H := H) (args := [v]) (args' := [vecV X]) (v' := vecV (turned X)) G0_ok rfl (fun i hi _ => match i, hi with | 0, _ => hv) (Turned_own X (small_of_ok hX) (by have := hX.1; omega) (fun r hr => (rows_ok hX r hr).1) noH _ fun u L hu => ⟨u, rfl, ?_⟩)).mono ?_
  · have row : ∀ (c : AVal) (r : List Int), OwnC noH L 3 0 L.length c (ints r) → Fresh (ext noH L) c (vecI r) := fun c r h => by
      rcases h with ⟨rfl, h⟩ | ⟨i, g, h1, h2, rfl, h4⟩
      · have : r = [] := by cases r with
          | nil => rfl
          | cons a l => simp [ints] at h
        subst this
        exact .nil
      · have e : vecI r = .vec (ints r).length (ints r) := by rw [ints_length]; rfl
        rw [e]
        refine .own ((get_ext noH L i (by omega)).trans h4) (by simp) fun j hj h2 h' => ?_
        simp only [Nat.zero_add, ints, List.getElem_map]
        exact .lit _
    obtain ⟨cs, h1, h2, h3⟩ := hu
    rcases h1 with ⟨rfl, hcs⟩ | ⟨i, g, b1, b2, rfl, b4⟩
    · rw [hcs] at h2
      have : turned X = [] := List.eq_nil_of_length_eq_zero h2.symm
      rw [this]
      exact .nil
    · have e : vecV (turned X) = .vec cs.length ((turned X).map vecI) := by simp [vecV, h2]
      rw [e]
      refine .own ((get_ext noH L i (by omega)).trans b4) (by simp [h2]) fun j hj hj2 h' => ?_
      simp only [Nat.zero_add, List.getElem_map] at hj2 ⊢
      exact row _ _ (h3 j _ _ (List.getElem?_eq_getElem (by omega)) (List.getElem?_eq_getElem hj2))
  · rintro r H' ⟨rfl, rfl⟩
    exact hK
theorem tail_frame {X : List (List Int)} (hX : TableOk X) {v : AVal} {H : AHeap} {K : ARes → AHeap → Prop} (hv : Fz (fun _ => True) H 0 v (vecV X)) (hK : K (.ret (.tup [redV (tailN X) (mul (colsOf X)), .lit (.int .i64 0)])) H) : ACall Tryd.prog G0 16 [v] H K := by
  refine (ACall.frame (H := H) (args := [v]) (args' := [vecV X]) (v' := .tup [redV (tailN X) (mul (colsOf X)), .lit (.int .i64 0)]) G0_ok rfl (fun i hi _ => match i, hi with | 0, _ => hv) (Tail_spec X (by have := hX.2.1; omega) (fun r hr => by have := (hX.2.2.1 r hr).2.2.1; omega) noH _ ?_)).mono ?_
  · rw [if_pos hX]
    refine ⟨_, rfl, ?_⟩
    refine .tup rfl fun i hi _ => match i, hi with
      | 0, _ => .agg rfl fun i hi _ => match i, hi with
        | 0, _ => .lit _
        | 1, _ => .lit _
      | 1, _ => .lit _
  · rintro r H' ⟨rfl, rfl⟩
    exact hK
end Go.Proofs
set_option linter.unusedSimpArgs false
set_option maxRecDepth 100000
namespace Go.Hx
theorem setAt_one {l : List AVal} {i : Nat} {x : AVal} (h : i < l.length) : setAt l i [x] = l.set i x := by
  unfold setAt
  rw [List.set_eq_take_append_cons_drop, if_pos h]
  simp
theorem bin_eql_duo {P : Program} {t e : TypeId} {x y : Operand} {k k' : IntKind} {a b c d : Int} {f g : Field} (ht : P.underlying t = some (.struct #[f, g])) (hsi : P.stoodInHeld t = false) (hf : f.type = e) (hg : g.type = e) (fn : f.name ≠ "_") (gn : g.name ≠ "_") (fo : f.offset = 0) (go : g.offset = 1) (he : P.underlying e = some (.int k)) (hq : P.eqGuardType P.depth t = false) :
    binA P .eql t x y (.agg [.lit (.int k' a), .lit (.int k' b)]) (.agg [.lit (.int k' c), .lit (.int k' d)]) = some (.lit (.bool (a == c && b == d))) := by
  show (pureRun P (do eqGuard .eql t x y (.agg #[.int k' a, .int k' b]) (.agg #[.int k' c, .int k' d]); binOp .eql t (.agg #[.int k' a, .int k' b]) (.agg #[.int k' c, .int k' d]))).map _ = _
  have h0 : pureRun P (eqGuard .eql t x y (.agg #[.int k' a, .int k' b]) (.agg #[.int k' c, .int k' d])) = some () := by
    simp [eqGuard, program, hq, pureRun, bind, Sem.bind, pure]
  have h1 : binOp .eql t (.agg #[.int k' a, .int k' b]) (.agg #[.int k' c, .int k' d]) = (Op.equalIn (9998 + 2) t (.agg #[.int k' a, .int k' b]) (.agg #[.int k' c, .int k' d]) >>= fun r => pure (Value.bool r)) := rfl
  rw [pureRun_bind h0, h1, pureRun_bind (equalIn_duo 9998 ht hsi hf hg fn gn fo go he)]
  rfl
end Go.Hx
namespace Go.Proofs
open Go.Hx
theorem tmod_idx {i : Int} {n : Nat} (h0 : 0 ≤ i) (hn : 0 < n) : ∃ p : Nat, (p : Int) = i.tmod n ∧ p < n := by
  refine ⟨(i.tmod n).toNat, Int.toNat_of_nonneg (Int.tmod_nonneg _ h0), ?_⟩
  have := Int.tmod_lt_of_pos i (show (0 : Int) < n by omega)
  have := Int.tmod_nonneg n h0
  omega
theorem eqlQ {o1 o2 : Operand} (a b : Int) : binA Tryd.prog .eql 29 o1 o2 (.agg [.lit (.int .i64 a), .lit (.int .i64 b)]) (.agg [.lit (.int .i64 a), .lit (.int .i64 b)]) = some (.lit (.bool true)) := by
  have h := bin_eql_duo (P := Tryd.prog) (t := 29) (x := o1) (y := o2) (k' := .i64) (a := a) (b := b) (c := a) (d := b) Tryd.underlying29 (by kernel_rfl) rfl rfl (by decide) (by decide) rfl rfl Tryd.underlying3 (by kernel_rfl)
  rw [h]; simp
set_option maxHeartbeats 2000000 in
theorem turns_spec (hi wi mo : Int) (ns : List Int) (hn : ns.length = 9) (hh : 0 ≤ hi ∧ hi ≤ 255) (hw : 0 ≤ wi ∧ wi ≤ 255) (hm : 0 ≤ mo ∧ mo ≤ 255) (hns : ∀ c, c ∈ ns → 0 ≤ c ∧ c ≤ 255) (i j : Int) (hi0 : 0 ≤ i ∧ i ≤ 255) (hj0 : 0 ≤ j ∧ j ≤ 255) (H : AHeap) (K : ARes → AHeap → Prop)
    (hK : K (.ret (.lit (.bool true))) H) : ACall Tryd.prog G0 8 [.agg (u8L (hi :: wi :: (ns ++ [mo]))), .lit (.int .u8 i), .lit (.int .u8 j)] H K := by
  refine ACall.clo ⟨_, Tryd.func8, rfl, rfl⟩ fun hcl => ?_
  obtain ⟨D, hD⟩ : ∃ D, D = u8L (hi :: wi :: (ns ++ [mo])) := ⟨_, rfl⟩
  have dl : D.length = 12 := by rw [hD]; simp [u8L, hn]
  have hT : ∀ H K, (∀ t, TableOk t → K (.ret (vecV t)) H) → ACall Tryd.prog G0 11 [.agg D] H K := fun H K h => by rw [hD]; exact Table_spec hi wi mo ns hn hh hw hm hns H K h
  rw [← hD]
  refine ACall.of_body (n := 138) (rs := [.tmp 6]) Tryd.func8 rfl rfl rfl (by decide) (by kernel_rfl) (by simp) ?_
  have dt : D.take 12 = D := List.take_of_length_le (by omega)
  have w1 := IntWalk.i64_in i (by omega)
  have w2 := IntWalk.i64_in j (by omega)
  simp (config := { maxSteps := 1000000 }) only [go_sem, Int.reduceToNat, Int.reduceLE, Int.reduceLT, Int.reduceAdd, Int.reduceSub, Int.reduceMul, Int.reduceEq, Int.reduceNe, Nat.reduceEqDiff, Nat.reducePow, Nat.reduceDiv, Nat.reduceMod, Nat.reduceAdd, Nat.reduceMul, Nat.reduceSub, Nat.reduceLT, Nat.reduceLeDiff, reduceIte, reduceCtorEq, dt, appendA_U]
  refine AApply.clo (works_ok _ _ ⟨trivial, ?_⟩)
  simp (config := { maxSteps := 1000000 }) only [go_sem, Int.reduceToNat, Int.reduceLE, Int.reduceLT, Int.reduceAdd, Int.reduceSub, Int.reduceMul, Int.reduceEq, Int.reduceNe, Nat.reduceEqDiff, Nat.reducePow, Nat.reduceDiv, Nat.reduceMod, Nat.reduceAdd, Nat.reduceMul, Nat.reduceSub, Nat.reduceLT, Nat.reduceLeDiff, reduceIte, reduceCtorEq, dt, appendA_U]
  refine ⟨by omega, AApply.clo (hT _ _ fun t ht => ⟨trivial, ?_⟩)⟩
  simp (config := { maxSteps := 1000000 }) only [go_sem, Int.reduceToNat, Int.reduceLE, Int.reduceLT, Int.reduceAdd, Int.reduceSub, Int.reduceMul, Int.reduceEq, Int.reduceNe, Nat.reduceEqDiff, Nat.reducePow, Nat.reduceDiv, Nat.reduceMod, Nat.reduceAdd, Nat.reduceMul, Nat.reduceSub, Nat.reduceLT, Nat.reduceLeDiff, reduceIte, reduceCtorEq, appendA_U]
  have er : ∃ x y : Nat, 0 < x ∧ x ≤ y ∧ redV (tailN t) (mul (colsOf t)) = .agg [.lit (.int .i64 x), .lit (.int .i64 y)] := by
    have hM0 := (mul_le ht).2
    have tp := tailN_ge ht
    have tl := tailN_le ht
    have wp := wayN_pos' ht
    have gp : 0 < Nat.gcd (tailN t) (mul (colsOf t)) := Nat.gcd_pos_of_pos_right _ hM0
    refine ⟨tailN t / Nat.gcd (tailN t) (mul (colsOf t)), mul (colsOf t) / Nat.gcd (tailN t) (mul (colsOf t)), Nat.div_pos (Nat.le_of_dvd (by omega) (Nat.gcd_dvd_left _ _)) gp, Nat.div_le_div_right tl, ?_⟩
    unfold redV qV
    rw [Int.gcd_natCast_natCast, Int.natCast_ediv, Int.natCast_ediv]
  obtain ⟨x, y, hx0, hxy, er⟩ := er
  refine AApply.clo (tail_frame ht (.vecV _) ⟨trivial, ?_⟩)
  rw [er]
  simp (config := { maxSteps := 1000000 }) only [go_sem, Int.reduceToNat, Int.reduceLE, Int.reduceLT, Int.reduceAdd, Int.reduceSub, Int.reduceMul, Int.reduceEq, Int.reduceNe, Nat.reduceEqDiff, Nat.reducePow, Nat.reduceDiv, Nat.reduceMod, Nat.reduceAdd, Nat.reduceMul, Nat.reduceSub, Nat.reduceLT, Nat.reduceLeDiff, reduceIte, reduceCtorEq, appendA_U]
  obtain ⟨H1, hH1⟩ : ∃ H1, H1 = ext H [.arr 0 24 D, .arr 0 29 [.lit (.int .i64 x), .lit (.int .i64 y)]] := ⟨_, rfl⟩
  rw [← hH1]
  have n1 : H1.next = H.next + 2 := by rw [hH1]; rfl
  have ov1 : Over H H1 := by rw [hH1]; exact Over.ext _ _
  have q8 : H1.get (H.next + 1) = some (.arr 0 29 [.lit (.int .i64 x), .lit (.int .i64 y)]) := by rw [hH1]; exact get_ext H _ 1 (by simp)
  clear hH1
  refine AApply.clo (Turned_own t (small_of_ok ht) (by have := ht.1; omega) (fun r hr => (rows_ok ht r hr).1) _ _ fun v L hv => ⟨trivial, ?_⟩)
  obtain ⟨T, hTt⟩ : ∃ T, T = turned t := ⟨_, rfl⟩
  have hTok : TableOk T := by rw [hTt]; exact (turned_ok ht).1
  rw [← hTt] at hv
  have erT : redV (tailN T) (mul (colsOf T)) = .agg [.lit (.int .i64 x), .lit (.int .i64 y)] := by rw [hTt, turn_law ht, er]
  obtain ⟨H2, hH2⟩ : ∃ H2, H2 = ext H1 L := ⟨_, rfl⟩
  rw [← hH2]
  have ov2 : Over H1 H2 := by rw [hH2]; exact Over.ext _ _
  obtain ⟨cs, c1, c2, c3⟩ := hv
  have hT2 := hTok.1
  have ht2 := ht.1
  obtain ⟨it, gt, i1, i2, rfl, i4⟩ : ∃ it gt, H1.next ≤ it ∧ it < H2.next ∧ v = .own it gt 0 T.length 1 ∧ H2.get it = some (.arr gt 46 cs) := by
    rcases c1 with ⟨_, e⟩ | ⟨i, g, _, b2, b3, b4⟩
    · exfalso; rw [e] at c2; simp at c2; omega
    · exact ⟨H1.next + i, g, by omega, by rw [hH2, ext_next]; omega, by rw [b3, c2], by rw [hH2]; exact (get_ext H1 L i b2).trans b4⟩
  have rows : ∀ (j : Nat) (r : List Int) (c : AVal), T[j]? = some r → cs[j]? = some c → OwnG H1.next H2 3 c (ints r) := fun j r c hr hc => by
    rcases c3 j r c hr hc with h | ⟨i, g, _, b2, b3, b4⟩
    · exact .inl h
    · exact .inr ⟨H1.next + i, g, by omega, by rw [hH2, ext_next]; omega, b3, by rw [hH2]; exact (get_ext H1 L i b2).trans b4⟩
  clear c1 c3 hH2
  have n2 := ov2.next
  have fzT : ∀ (Hx : AHeap) (cs' : List AVal) (T' : List (List Int)), Hx.get it = some (.arr gt 46 cs') → cs'.length = T'.length → T'.length = T.length → (∀ (j : Nat) (r : List Int) (c : AVal), T'[j]? = some r → cs'[j]? = some c → OwnG H1.next Hx 3 c (ints r)) → Fz (fun _ => True) Hx 0 (.own it gt 0 T.length 1) (vecV T') := fun Hx cs' T' hg hl hl2 hr => by
    have : Fz (fun _ => True) Hx 0 (.own it gt 0 T.length 1) (.vec T.length (T'.map vecI)) := by
      refine .frz trivial hg (by simp [hl2]) fun j hj h2 h' => ?_
      simp only [Nat.zero_add, List.getElem_map] at h2 ⊢
      exact (hr j _ _ (List.getElem?_eq_getElem (by omega)) (List.getElem?_eq_getElem h2)).fzI fun _ _ => trivial
    rw [← hl2] at this ⊢
    exact this
  simp (config := { maxSteps := 1000000 }) only [go_sem, Int.reduceToNat, Int.reduceLE, Int.reduceLT, Int.reduceAdd, Int.reduceSub, Int.reduceMul, Int.reduceEq, Int.reduceNe, Nat.reduceEqDiff, Nat.reducePow, Nat.reduceDiv, Nat.reduceMod, Nat.reduceAdd, Nat.reduceMul, Nat.reduceSub, Nat.reduceLT, Nat.reduceLeDiff, reduceIte, reduceCtorEq, appendA_U]
  refine AApply.clo (tail_frame hTok (fzT H2 cs T i4 c2 rfl rows) ⟨trivial, ?_⟩)
  rw [erT]
  simp (config := { maxSteps := 1000000 }) only [go_sem, Int.reduceToNat, Int.reduceLE, Int.reduceLT, Int.reduceAdd, Int.reduceSub, Int.reduceMul, Int.reduceEq, Int.reduceNe, Nat.reduceEqDiff, Nat.reducePow, Nat.reduceDiv, Nat.reduceMod, Nat.reduceAdd, Nat.reduceMul, Nat.reduceSub, Nat.reduceLT, Nat.reduceLeDiff, reduceIte, reduceCtorEq, appendA_U]
  obtain ⟨H3, hH3⟩ : ∃ H3, H3 = ext H2 [.arr 0 29 [.lit (.int .i64 x), .lit (.int .i64 y)]] := ⟨_, rfl⟩
  rw [← hH3]
  have ov3 : Over H2 H3 := by rw [hH3]; exact Over.ext _ _
  have n3 : H3.next = H2.next + 1 := by rw [hH3]; rfl
  have q11 : H3.get H2.next = some (.arr 0 29 [.lit (.int .i64 x), .lit (.int .i64 y)]) := by rw [hH3]; exact get_ext0 _ _ _
  clear hH3
  obtain ⟨p, hp, hpl⟩ := tmod_idx (n := t.length) hi0.1 (by omega)
  obtain ⟨q, hq, hql⟩ := tmod_idx (n := t.length) hj0.1 (by omega)
  have z1 : ¬ (t.length : Int) = 0 := by omega
  refine W.draw 11 [0, 1, 0, 4, 15, 0, 32, 0, 128, 480, 31] Tryd.mixed (by kernel_rfl) (by kernel_rfl) ?_
  simp (config := { maxSteps := 1000000 }) only [go_sem, Int.reduceToNat, Int.reduceLE, Int.reduceLT, Int.reduceAdd, Int.reduceSub, Int.reduceMul, Int.reduceEq, Int.reduceNe, Nat.reduceEqDiff, Nat.reducePow, Nat.reduceDiv, Nat.reduceMod, Nat.reduceAdd, Nat.reduceMul, Nat.reduceSub, Nat.reduceLT, Nat.reduceLeDiff, reduceIte, reduceCtorEq, w1, w2, vecV, z1, ← hp, ← hq, appendA_U]
  rw [show AVal.vec t.length (t.map vecI) = vecV t from rfl]
  refine AApply.clo (clone2_own t (by have := ht.2.1; omega) (by omega) _ _ fun ic gc H4 ov4 k1 k2 k3 => ⟨trivial, ?_⟩)
  have n4 := ov4.next
  have l4 : H4.live ic gc = some (46, t.map vecI) := get_live k3
  simp (config := { maxSteps := 1000000 }) only [go_sem, Int.reduceToNat, Int.reduceLE, Int.reduceLT, Int.reduceAdd, Int.reduceSub, Int.reduceMul, Int.reduceEq, Int.reduceNe, Nat.reduceEqDiff, Nat.reducePow, Nat.reduceDiv, Nat.reduceMod, Nat.reduceAdd, Nat.reduceMul, Nat.reduceSub, Nat.reduceLT, Nat.reduceLeDiff, reduceIte, reduceCtorEq, appendA_U]
  refine W.draw 14 [0, 0, 0, 0, 0, 0, 48, 112, 0, 0, 768, 1792, 4083, 8179] Tryd.mixed (by kernel_rfl) (by kernel_rfl) ?_
  have hpl' : (p : Int) < t.length := by omega
  have hql' : (q : Int) < t.length := by omega
  obtain ⟨rp, hrp⟩ : ∃ r, t[p]? = some r := ⟨_, List.getElem?_eq_getElem hpl⟩
  obtain ⟨rq, hrq⟩ : ∃ r, t[q]? = some r := ⟨_, List.getElem?_eq_getElem hql⟩
  simp (config := { maxSteps := 1000000 }) only [go_sem, Int.reduceToNat, Int.reduceLE, Int.reduceLT, Int.reduceAdd, Int.reduceSub, Int.reduceMul, Int.reduceEq, Int.reduceNe, Nat.reduceEqDiff, Nat.reducePow, Nat.reduceDiv, Nat.reduceMod, Nat.reduceAdd, Nat.reduceMul, Nat.reduceSub, Nat.reduceLT, Nat.reduceLeDiff, reduceIte, reduceCtorEq, l4, hpl', hql', hrp, hrq, appendA_U]
  refine ⟨by simp; omega, ?_⟩
  rw [setAt_one (by simp; omega)]
  simp (config := { maxSteps := 1000000 }) only [go_sem, Int.reduceToNat, Int.reduceLE, Int.reduceLT, Int.reduceAdd, Int.reduceSub, Int.reduceMul, Int.reduceEq, Int.reduceNe, Nat.reduceEqDiff, Nat.reducePow, Nat.reduceDiv, Nat.reduceMod, Nat.reduceAdd, Nat.reduceMul, Nat.reduceSub, Nat.reduceLT, Nat.reduceLeDiff, reduceIte, reduceCtorEq, live_upd, liveL_some, appendA_U]
  refine ⟨by simp; omega, ?_⟩
  rw [setAt_one (by simp; omega)]
  have esw : ((t.map vecI).set p (AVal.vec rq.length (ints rq))).set q (AVal.vec rp.length (ints rp)) = (swapL p q t).map vecI := by
    rw [swapL_some hrp hrq, List.map_set, List.map_set]; rfl
  rw [esw]
  obtain ⟨H5, hH5⟩ : ∃ H5, H5 = (H4.upd ic (Blk.arr gc 46 ((t.map vecI).set p (AVal.vec rq.length (ints rq))))).upd ic (Blk.arr gc 46 ((swapL p q t).map vecI)) := ⟨_, rfl⟩
  rw [← hH5]
  have n5 : H5.next = H4.next := by rw [hH5]; rfl
  have k5 : H5.get ic = some (.arr gc 46 ((swapL p q t).map vecI)) := by rw [hH5, upd_get, if_pos rfl]
  have o5 : ∀ id, id < H3.next → H5.get id = H3.get id := fun id hid => by rw [hH5, upd_get, if_neg (by omega), upd_get, if_neg (by omega), ov4.old id hid]
  clear hH5 k3 l4
  have hs1 := swap_ok ht p q
  have fz5 : Fz (fun _ => True) H5 0 (.own ic gc 0 t.length 1) (vecV (swapL p q t)) := by
    rw [← swapL_length p q t]
    refine .frz trivial k5 (by simp) fun j hj h2 h' => ?_
    simp only [Nat.zero_add, List.getElem_map] at h2 ⊢
    exact .keepInts _
  refine AApply.clo (tail_frame hs1 fz5 ⟨trivial, ?_⟩)
  rw [swap_law ht, er]
  simp (config := { maxSteps := 1000000 }) only [go_sem, Int.reduceToNat, Int.reduceLE, Int.reduceLT, Int.reduceAdd, Int.reduceSub, Int.reduceMul, Int.reduceEq, Int.reduceNe, Nat.reduceEqDiff, Nat.reducePow, Nat.reduceDiv, Nat.reduceMod, Nat.reduceAdd, Nat.reduceMul, Nat.reduceSub, Nat.reduceLT, Nat.reduceLeDiff, reduceIte, reduceCtorEq, appendA_U]
  obtain ⟨H6, hH6⟩ : ∃ H6, H6 = ext H5 [.arr 0 29 [.lit (.int .i64 x), .lit (.int .i64 y)]] := ⟨_, rfl⟩
  rw [← hH6]
  have n6 : H6.next = H5.next + 1 := by rw [hH6]; rfl
  have q16 : H6.get H5.next = some (.arr 0 29 [.lit (.int .i64 x), .lit (.int .i64 y)]) := by rw [hH6]; exact get_ext0 _ _ _
  have o6 : ∀ id, id < H3.next → H6.get id = H3.get id := fun id hid => by rw [hH6, ext1_get_old (by omega), o5 id hid]
  clear hH6
  have i6 : H6.get it = some (.arr gt 46 cs) := by rw [o6 _ (by omega), ov3.old _ i2, i4]
  have l6 := get_live i6
  obtain ⟨p2, hp2, hpl2⟩ := tmod_idx (n := T.length) hi0.1 (by omega)
  obtain ⟨q2, hq2, hql2⟩ := tmod_idx (n := T.length) hj0.1 (by omega)
  have z2 : ¬ (T.length : Int) = 0 := by omega
  refine W.draw 11 [0, 1, 0, 4, 15, 0, 32, 0, 128, 480, 31] Tryd.mixed (by kernel_rfl) (by kernel_rfl) ?_
  simp (config := { maxSteps := 1000000 }) only [go_sem, Int.reduceToNat, Int.reduceLE, Int.reduceLT, Int.reduceAdd, Int.reduceSub, Int.reduceMul, Int.reduceEq, Int.reduceNe, Nat.reduceEqDiff, Nat.reducePow, Nat.reduceDiv, Nat.reduceMod, Nat.reduceAdd, Nat.reduceMul, Nat.reduceSub, Nat.reduceLT, Nat.reduceLeDiff, reduceIte, reduceCtorEq, w1, w2, l6, z2, ← hp2, ← hq2, appendA_U]
  refine W.draw 14 [0, 0, 0, 0, 0, 0, 48, 112, 0, 0, 768, 1792, 4083, 8179] Tryd.mixed (by kernel_rfl) (by kernel_rfl) ?_
  have hpl2' : (p2 : Int) < T.length := by omega
  have hql2' : (q2 : Int) < T.length := by omega
  obtain ⟨cp, hcp⟩ : ∃ c, cs[p2]? = some c := ⟨_, List.getElem?_eq_getElem (by omega)⟩
  obtain ⟨cq, hcq⟩ : ∃ c, cs[q2]? = some c := ⟨_, List.getElem?_eq_getElem (by omega)⟩
  obtain ⟨rp2, hrp2⟩ : ∃ r, T[p2]? = some r := ⟨_, List.getElem?_eq_getElem (by omega)⟩
  obtain ⟨rq2, hrq2⟩ : ∃ r, T[q2]? = some r := ⟨_, List.getElem?_eq_getElem (by omega)⟩
  have op := rows p2 rp2 cp hrp2 hcp
  have oq := rows q2 rq2 cq hrq2 hcq
  have op1 := op.one
  have oq1 := oq.one
  have op2 := op.cells
  have oq2 := oq.cells
  simp (config := { maxSteps := 1000000 }) only [go_sem, Int.reduceToNat, Int.reduceLE, Int.reduceLT, Int.reduceAdd, Int.reduceSub, Int.reduceMul, Int.reduceEq, Int.reduceNe, Nat.reduceEqDiff, Nat.reducePow, Nat.reduceDiv, Nat.reduceMod, Nat.reduceAdd, Nat.reduceMul, Nat.reduceSub, Nat.reduceLT, Nat.reduceLeDiff, reduceIte, reduceCtorEq, l6, hpl2', hql2', hcp, hcq, op1, op2, oq1, oq2, appendA_U]
  refine ⟨by omega, ?_⟩
  rw [setAt_one (by omega)]
  simp (config := { maxSteps := 1000000 }) only [go_sem, Int.reduceToNat, Int.reduceLE, Int.reduceLT, Int.reduceAdd, Int.reduceSub, Int.reduceMul, Int.reduceEq, Int.reduceNe, Nat.reduceEqDiff, Nat.reducePow, Nat.reduceDiv, Nat.reduceMod, Nat.reduceAdd, Nat.reduceMul, Nat.reduceSub, Nat.reduceLT, Nat.reduceLeDiff, reduceIte, reduceCtorEq, live_upd, liveL_some, op1, op2, oq1, oq2, appendA_U]
  refine ⟨by simp; omega, ?_⟩
  rw [setAt_one (by simp; omega)]
  obtain ⟨H7, hH7⟩ : ∃ H7, H7 = (H6.upd it (Blk.arr gt 46 (cs.set p2 cq))).upd it (Blk.arr gt 46 ((cs.set p2 cq).set q2 cp)) := ⟨_, rfl⟩
  rw [← hH7]
  have n7 : H7.next = H6.next := by rw [hH7]; rfl
  have k7 : H7.get it = some (.arr gt 46 ((cs.set p2 cq).set q2 cp)) := by rw [hH7, upd_get, if_pos rfl]
  have o7 : ∀ id, id ≠ it → H7.get id = H6.get id := fun id hid => by rw [hH7, upd_get, if_neg hid, upd_get, if_neg hid]
  clear hH7 l6
  have hT2ok := swap_ok hTok p2 q2
  have r7 : ∀ (j : Nat) (r : List Int) (c : AVal), (swapL p2 q2 T)[j]? = some r → ((cs.set p2 cq).set q2 cp)[j]? = some c → OwnG H1.next H7 3 c (ints r) := fun j r c hr hc => by
    have old : OwnG H1.next H2 3 c (ints r) := by
      rw [swapL_some hrp2 hrq2] at hr
      by_cases h1 : j = q2
      · subst h1
        rw [List.getElem?_set_self (by simp; omega)] at hr hc
        cases hr; cases hc
        exact op
      · rw [List.getElem?_set_ne (Ne.symm h1)] at hr hc
        by_cases h2 : j = p2
        · subst h2
          rw [List.getElem?_set_self (by omega)] at hr hc
          cases hr; cases hc
          exact oq
        · rw [List.getElem?_set_ne (Ne.symm h2)] at hr hc
          exact rows j r c hr hc
    refine old.keep (Nat.le_refl _) (by omega) fun id g h1 h2 h3 _ => ?_
    have hne : id ≠ it := fun h => by rw [h, i4] at h3; cases h3
    rw [o7 id hne, o6 id (by omega), ov3.old id h2]
  have fz7 := fzT H7 _ _ k7 (by simp [swapL_length, c2]) (swapL_length _ _ _) r7
  refine AApply.clo (turned_frame hT2ok fz7 ⟨trivial, ?_⟩)
  simp (config := { maxSteps := 1000000 }) only [go_sem, Int.reduceToNat, Int.reduceLE, Int.reduceLT, Int.reduceAdd, Int.reduceSub, Int.reduceMul, Int.reduceEq, Int.reduceNe, Nat.reduceEqDiff, Nat.reducePow, Nat.reduceDiv, Nat.reduceMod, Nat.reduceAdd, Nat.reduceMul, Nat.reduceSub, Nat.reduceLT, Nat.reduceLeDiff, reduceIte, reduceCtorEq, appendA_U]
  refine AApply.clo (tail_frame (turned_ok hT2ok).1 (.vecV _) ⟨trivial, ?_⟩)
  rw [turn_law hT2ok, swap_law hTok, erT]
  simp (config := { maxSteps := 1000000 }) only [go_sem, Int.reduceToNat, Int.reduceLE, Int.reduceLT, Int.reduceAdd, Int.reduceSub, Int.reduceMul, Int.reduceEq, Int.reduceNe, Nat.reduceEqDiff, Nat.reducePow, Nat.reduceDiv, Nat.reduceMod, Nat.reduceAdd, Nat.reduceMul, Nat.reduceSub, Nat.reduceLT, Nat.reduceLeDiff, reduceIte, reduceCtorEq, appendA_U]
  obtain ⟨H8, hH8⟩ : ∃ H8, H8 = ext H7 [.arr 0 29 [.lit (.int .i64 x), .lit (.int .i64 y)]] := ⟨_, rfl⟩
  rw [← hH8]
  have l18 : H8.live H7.next 0 = some (29, [.lit (.int .i64 x), .lit (.int .i64 y)]) := by rw [hH8]; exact get_live (get_ext0 _ _ _)
  have o8 : ∀ id, id < H7.next → H8.get id = H7.get id := fun id hid => by rw [hH8, ext1_get_old hid]
  have l16 : H8.live H5.next 0 = some (29, [.lit (.int .i64 x), .lit (.int .i64 y)]) := get_live (by rw [o8 _ (by omega), o7 _ (by omega), q16])
  have l11 : H8.live H2.next 0 = some (29, [.lit (.int .i64 x), .lit (.int .i64 y)]) := get_live (by rw [o8 _ (by omega), o7 _ (by omega), o6 _ (by omega), q11])
  have l8 : H8.live (H.next + 1) 0 = some (29, [.lit (.int .i64 x), .lit (.int .i64 y)]) := get_live (by rw [o8 _ (by omega), o7 _ (by omega), o6 _ (by omega), ov3.old _ (by omega), ov2.old _ (by omega), q8])
  have y1 : (0 : Int) < (x : Int) := by omega
  have y2 : (x : Int) ≤ (y : Int) := by omega
  simp (config := { maxSteps := 1000000 }) only [go_sem, Int.reduceToNat, Int.reduceLE, Int.reduceLT, Int.reduceAdd, Int.reduceSub, Int.reduceMul, Int.reduceEq, Int.reduceNe, Nat.reduceEqDiff, Nat.reducePow, Nat.reduceDiv, Nat.reduceMod, Nat.reduceAdd, Nat.reduceMul, Nat.reduceSub, Nat.reduceLT, Nat.reduceLeDiff, reduceIte, reduceCtorEq, l8, l11, l16, l18, eqlQ, y1, y2, appendA_U]
  have ovf : Over H H8 := ⟨by have : H8.next = H7.next + 1 := by rw [hH8]; rfl
                              omega, fun id hid => by rw [o8 _ (by omega), o7 _ (by omega), o6 _ (by omega), ov3.old _ (by omega), ov2.old _ (by omega), ov1.old _ hid]⟩
  exact FinV.dropO G0_ok hcl ovf (.lit _) hK
end Go.Proofs
set_option linter.unusedSimpArgs false
set_option linter.unusedVariables false
namespace Go.Proofs
open Go.Hx Go.RowKit Go.Lib
/-! slices.Grow of the nil slice: a new block with room, nothing in it yet. -/
theorem Tryd.info3 : (Tryd.prog.info? 3).map (fun i => (i.zero, i.size, i.bytes)) = some (some (.int .i64 0), 1, 8) := by kernel_rfl
set_option maxHeartbeats 4000000 in
set_option maxRecDepth 100000 in
theorem grow_calls (n : Nat) (h0 : 0 < n) (hn : n ≤ 1073741824) (w : World) : Calls Tryd.prog 52 #[.slice none 0 0, .int .i64 n] w fun e w' =>
    e = .returned (.slice (some ⟨w.heap.size, 0, none⟩) 0 (grownCap w n 0 3)) ∧
      w' = w.drew.alloc (.cells (#[] ++ Builtin.zeroCells #[.int .i64 0] n ++ Builtin.zeroCells #[.int .i64 0] (grownCap w n 0 3 - n)) 3) := by
  have h1 : ¬ ((n : Int) < 0) := by omega
  have h2 : wrap64 ((0 : Int) - (0 : Int)) = 0 := by unfold wrap64; omega
  have h3 : wrap64 ((n : Int) - 0) = (n : Int) := by unfold wrap64; omega
  have h4 : (n : Int) > 0 := by omega
  cases hi : Tryd.prog.info? 3 with
  | none => have := Tryd.info3; rw [hi] at this; cases this
  | some i0 =>
  have hi3 := Tryd.info3
  rw [hi] at hi3
  simp only [Option.map_some, Option.some.injEq, Prod.mk.injEq] at hi3
  obtain ⟨hz0, hs0, hb0⟩ := hi3
  have hold : (Builtin.firstCells i0.size 0 (.slice none 0 0)).run Tryd.prog w.drew = .ok ([] : List Value).toArray w.drew := run_firstCells_none w.drew i0.size 0 0 0
  have hrz : ∀ ty, (Builtin.append_ #[46, 3] ty #[.slice none 0 0, .int .i64 (n : Int)]).run Tryd.prog w =
      .ok (.slice (some ⟨w.heap.size, 0, none⟩) n (grownCap w n 0 3)) (w.drew.alloc (.cells (#[] ++ Builtin.zeroCells #[.int .i64 0] n ++ Builtin.zeroCells #[.int .i64 0] (grownCap w n 0 3 - n)) 3)) := fun ty => by
    have h := Lib.run_append_grow_zeros w 46 3 ty 3 i0 (.int .i64 0) .i64 .i64 Tryd.underlying46 Tryd.underlying3 hi hz0 none 0 0 [] hold n h0 (by omega) (by omega) (by omega)
      (by rw [hb0]; omega) (by rw [hb0]; exact growslice_fits (by omega) (by omega))
    rw [Nat.zero_add] at h
    exact h
  have hGn : n ≤ grownCap w n 0 3 := grownCap_ge w _ _ _
  obtain ⟨G, hG⟩ : ∃ G, G = grownCap w n 0 3 := ⟨_, rfl⟩
  rw [← hG] at hrz hGn ⊢
  have hG63 : G ≤ 9223372036854775807 := by
    have := grownCap_le_maxLen w n 0 3 (by unfold maxLen; omega)
    rw [← hG] at this
    unfold maxLen at this
    omega
  clear hold hG
  go_enter Tryd.func52, Tryd.ntmps52
  go_wp2_with (at_builtin; refine Lib.wpList_append_run _ rfl _ _ _ _ rfl _ _ rfl rfl _ _ (hrz _) ?_)
  all_goals (go_ret; exact ⟨rfl, rfl⟩)
theorem rel_lit {P : Program} {Γ : Gam} {H : AHeap} {w : World} {v cv : Value} (h : RelV P Γ H w (.lit v) cv) : cv = v := by cases h; rfl
theorem zeroCells_one (n : Nat) : (Builtin.zeroCells #[Value.int .i64 0] n).size = n := by
  rw [size_zeroCells]; simp
theorem grow_spec (n : Nat) (h0 : 0 < n) (hn : n ≤ 1073741824) (H : AHeap) (K : ARes → AHeap → Prop) (hK : K (.ret (.own H.next 0 0 0 1)) (ext H [.arr 0 3 []])) : ACall Tryd.prog G0 52 [.lit (.slice none 0 0), .lit (.int .i64 n)] H K := by
  refine ⟨⟨_, Tryd.func52, rfl, rfl⟩, fun Γ w cargs R hr => ?_⟩
  have hc : cargs = #[.slice none 0 0, .int .i64 n] := by
    obtain ⟨hs, hr⟩ := hr
    have h1 := rel_lit (hr 0 (by simp) (by rw [hs]; simp))
    have h2 := rel_lit (hr 1 (by simp) (by rw [hs]; simp))
    apply Array.ext
    · simpa using hs
    · intro i hi1 hi2
      simp only [List.size_toArray, List.length_cons, List.length_nil] at hi2
      match i, hi2 with
      | 0, _ => exact h1
      | 1, _ => exact h2
  rw [hc]
  refine (callsIn_wide.2 (grow_calls n h0 hn w)).mono ?_
  rintro e w' ⟨rfl, rfl⟩
  have hG := grownCap_ge w n 0 3
  obtain ⟨G, hGe⟩ : ∃ G, G = grownCap w n 0 3 := ⟨_, rfl⟩
  rw [← hGe] at hG ⊢
  obtain ⟨c, hcc⟩ : ∃ c, c = #[] ++ Builtin.zeroCells #[Value.int .i64 0] n ++ Builtin.zeroCells #[Value.int .i64 0] (G - n) := ⟨_, rfl⟩
  have hcs : c.size = G := by rw [hcc]; simp [zeroCells_one]; omega
  rw [← hcc]
  have R1 := R.drew (w.drawn + 1)
  obtain ⟨E, hn2, R'⟩ := lay_sound (c := c) R1 (lay_next H (.arr 0 3 [])) (by simp) (fun i h => absurd h (Nat.not_lt_zero _))
  refine ⟨.ret (.own H.next 0 0 0 1), ext H [.arr 0 3 []], _, ?_, hK, R', (drew_evo Γ H w (w.drawn + 1)).trans (Nat.le_refl _) E, hn2⟩
  refine .own ⟨by simp [ext_next], rfl, by rw [get_ext0]; simp, fun g e cells hg => ?_⟩
  rw [get_ext0] at hg
  cases hg
  refine ⟨Nat.le_refl _, fun _ => ?_⟩
  rw [Gam.upd_same]
  exact ⟨⟨w.heap.size, 0, none⟩, G, rfl, Nat.zero_le _, by simp, .inl ⟨rfl, by rw [hcs]; omega⟩⟩
end Go.Proofs
set_option linter.unusedSimpArgs false
set_option maxRecDepth 100000
namespace Go.Proofs
open Go.Hx
/-! slices.Compare and slices.Concat. -/
theorem nan_spec (a : Int) (H : AHeap) (K : ARes → AHeap → Prop) (hK : K (.ret (.lit (.bool false))) H) : ACall Tryd.prog G0 67 [.lit (.int .i64 a)] H K := by
  refine ACall.of_body (n := 6) (rs := [.tmp 2]) Tryd.func67 rfl rfl rfl (by decide) (by kernel_rfl) (by simp) ?_
  simp (config := { maxSteps := 1000000 }) only [go_sem, Int.reduceToNat, Int.reduceLE, Int.reduceLT, Int.reduceAdd, Int.reduceSub, Int.reduceMul, Int.reduceEq, Int.reduceNe, Nat.reduceEqDiff, Nat.reducePow, Nat.reduceDiv, Nat.reduceMod, Nat.reduceAdd, Nat.reduceMul, Nat.reduceSub, Nat.reduceLT, Nat.reduceLeDiff, reduceIte, reduceCtorEq, appendA_U]
  exact FinV.mk (Nat.le_refl _) hK
theorem cmp_spec (a b : Int) (H : AHeap) (K : ARes → AHeap → Prop) (hK : K (.ret (.lit (.int .i64 (if a < b then -1 else if b < a then 1 else 0)))) H) : ACall Tryd.prog G0 51 [.lit (.int .i64 a), .lit (.int .i64 b)] H K := by
  refine ACall.of_body (n := 20) (rs := [.tmp 4]) Tryd.func51 rfl rfl rfl (by decide) (by kernel_rfl) (by simp) ?_
  simp (config := { maxSteps := 1000000 }) only [go_sem, Int.reduceToNat, Int.reduceLE, Int.reduceLT, Int.reduceAdd, Int.reduceSub, Int.reduceMul, Int.reduceEq, Int.reduceNe, Nat.reduceEqDiff, Nat.reducePow, Nat.reduceDiv, Nat.reduceMod, Nat.reduceAdd, Nat.reduceMul, Nat.reduceSub, Nat.reduceLT, Nat.reduceLeDiff, reduceIte, reduceCtorEq, appendA_U]
  refine AApply.clo (nan_spec a _ _ ⟨trivial, ?_⟩)
  simp (config := { maxSteps := 1000000 }) only [go_sem, Int.reduceToNat, Int.reduceLE, Int.reduceLT, Int.reduceAdd, Int.reduceSub, Int.reduceMul, Int.reduceEq, Int.reduceNe, Nat.reduceEqDiff, Nat.reducePow, Nat.reduceDiv, Nat.reduceMod, Nat.reduceAdd, Nat.reduceMul, Nat.reduceSub, Nat.reduceLT, Nat.reduceLeDiff, reduceIte, reduceCtorEq, appendA_U]
  refine AApply.clo (nan_spec b _ _ ⟨trivial, ?_⟩)
  by_cases h1 : a < b
  · rw [if_pos h1] at hK
    simp (config := { maxSteps := 1000000 }) only [go_sem, Int.reduceToNat, Int.reduceLE, Int.reduceLT, Int.reduceAdd, Int.reduceSub, Int.reduceMul, Int.reduceEq, Int.reduceNe, Nat.reduceEqDiff, Nat.reducePow, Nat.reduceDiv, Nat.reduceMod, Nat.reduceAdd, Nat.reduceMul, Nat.reduceSub, Nat.reduceLT, Nat.reduceLeDiff, reduceIte, reduceCtorEq, h1, appendA_U]
    exact FinV.mk (Nat.le_refl _) hK
  · rw [if_neg h1] at hK
    by_cases h2 : b < a
    · rw [if_pos h2] at hK
      simp (config := { maxSteps := 1000000 }) only [go_sem, Int.reduceToNat, Int.reduceLE, Int.reduceLT, Int.reduceAdd, Int.reduceSub, Int.reduceMul, Int.reduceEq, Int.reduceNe, Nat.reduceEqDiff, Nat.reducePow, Nat.reduceDiv, Nat.reduceMod, Nat.reduceAdd, Nat.reduceMul, Nat.reduceSub, Nat.reduceLT, Nat.reduceLeDiff, reduceIte, reduceCtorEq, h1, h2, appendA_U]
      exact FinV.mk (Nat.le_refl _) hK
    · rw [if_neg h2] at hK
      simp (config := { maxSteps := 1000000 }) only [go_sem, Int.reduceToNat, Int.reduceLE, Int.reduceLT, Int.reduceAdd, Int.reduceSub, Int.reduceMul, Int.reduceEq, Int.reduceNe, Nat.reduceEqDiff, Nat.reducePow, Nat.reduceDiv, Nat.reduceMod, Nat.reduceAdd, Nat.reduceMul, Nat.reduceSub, Nat.reduceLT, Nat.reduceLeDiff, reduceIte, reduceCtorEq, h1, h2, appendA_U]
      exact FinV.mk (Nat.le_refl _) hK
theorem ltL_at : ∀ {x y : List Int}, ltL x y → ∃ (i : Nat) (a b : Int), x[i]? = some a ∧ y[i]? = some b ∧ a < b ∧ ∀ j, j < i → x[j]? = y[j]?
  | a :: l, b :: m, h => by
    rcases h with h | ⟨h, h2⟩
    · exact ⟨0, a, b, rfl, rfl, h, fun j hj => absurd hj (Nat.not_lt_zero _)⟩
    · obtain ⟨i, c, d, h3, h4, h5, h6⟩ := ltL_at h2
      refine ⟨i + 1, c, d, by simpa using h3, by simpa using h4, h5, fun j hj => ?_⟩
      cases j with
      | zero => simp [h]
      | succ j => simpa using h6 j (by omega)
theorem compare_lt {x y : List Int} (h : ltL x y) (hx : (x.length : Int) < 2 ^ 40) (H : AHeap) (K : ARes → AHeap → Prop) (hK : K (.ret (.lit (.int .i64 (-1)))) H) : ACall Tryd.prog G0 37 [vecI x, vecI y] H K := by
  obtain ⟨i, a, b, h1, h2, h3, h4⟩ := ltL_at h
  have hi : i < x.length := (List.getElem?_eq_some_iff.1 h1).1
  have hi2 : i < y.length := (List.getElem?_eq_some_iff.1 h2).1
  have hxn : ¬ x = [] := by rintro rfl; simp at hi
  have hyn : ¬ y = [] := by rintro rfl; simp at hi2
  refine ACall.of_body (n := 36) (rs := [.tmp 4]) Tryd.func37 rfl rfl rfl (by decide) (by kernel_rfl) (by simp) ?_
  simp (config := { maxSteps := 1000000 }) only [go_sem, Int.reduceToNat, Int.reduceLE, Int.reduceLT, Int.reduceAdd, Int.reduceSub, Int.reduceMul, Int.reduceEq, Int.reduceNe, Nat.reduceEqDiff, Nat.reducePow, Nat.reduceDiv, Nat.reduceMod, Nat.reduceAdd, Nat.reduceMul, Nat.reduceSub, Nat.reduceLT, Nat.reduceLeDiff, reduceIte, reduceCtorEq, appendA_U]
  refine W.loop0 2147482096 (by rfl) (fun ρ H' => H' = H ∧ ∃ k : Nat, ρ 11 = lin k ∧ k ≤ i) (fun ρ H => x.length - (iv (ρ 11)).toNat) ?_ ?_
  · simp (config := { maxSteps := 1000000 }) only [go_sem, Int.reduceToNat, Int.reduceLE, Int.reduceLT, Int.reduceAdd, Int.reduceSub, Int.reduceMul, Int.reduceEq, Int.reduceNe, Nat.reduceEqDiff, Nat.reducePow, Nat.reduceDiv, Nat.reduceMod, Nat.reduceAdd, Nat.reduceMul, Nat.reduceSub, Nat.reduceLT, Nat.reduceLeDiff, reduceIte, reduceCtorEq, appendA_U]
    exact ⟨0, rfl, by omega⟩
  rintro ρ H' ⟨rfl, k, h11, hk⟩
  refine vc_sound _ _ _ (by rfl) ?_
  have b1 : (k : Int) < x.length := by omega
  have b2 : ¬ (y.length : Int) ≤ k := by omega
  have b3 : (k : Int) < y.length := by omega
  have w1 := IntWalk.i64_in ((k : Int) + 1) (by omega)
  by_cases hki : k = i
  · subst hki
    simp (config := { maxSteps := 1000000 }) only [go_sem, Int.reduceToNat, Int.reduceLE, Int.reduceLT, Int.reduceAdd, Int.reduceSub, Int.reduceMul, Int.reduceEq, Int.reduceNe, Nat.reduceEqDiff, Nat.reducePow, Nat.reduceDiv, Nat.reduceMod, Nat.reduceAdd, Nat.reduceMul, Nat.reduceSub, Nat.reduceLT, Nat.reduceLeDiff, reduceIte, reduceCtorEq, h11, b1, b2, b3, h1, h2, hxn, hyn, appendA_U]
    refine AApply.clo (cmp_spec a b _ _ ⟨trivial, ?_⟩)
    rw [if_pos h3]
    simp (config := { maxSteps := 1000000 }) only [go_sem, Int.reduceToNat, Int.reduceLE, Int.reduceLT, Int.reduceAdd, Int.reduceSub, Int.reduceMul, Int.reduceEq, Int.reduceNe, Nat.reduceEqDiff, Nat.reducePow, Nat.reduceDiv, Nat.reduceMod, Nat.reduceAdd, Nat.reduceMul, Nat.reduceSub, Nat.reduceLT, Nat.reduceLeDiff, reduceIte, reduceCtorEq, appendA_U]
    exact FinV.mk (Nat.le_refl _) hK
  · have e := h4 k (by omega)
    obtain ⟨c, hc⟩ : ∃ c, x[k]? = some c := ⟨_, List.getElem?_eq_getElem (by omega)⟩
    rw [hc] at e
    simp (config := { maxSteps := 1000000 }) only [go_sem, Int.reduceToNat, Int.reduceLE, Int.reduceLT, Int.reduceAdd, Int.reduceSub, Int.reduceMul, Int.reduceEq, Int.reduceNe, Nat.reduceEqDiff, Nat.reducePow, Nat.reduceDiv, Nat.reduceMod, Nat.reduceAdd, Nat.reduceMul, Nat.reduceSub, Nat.reduceLT, Nat.reduceLeDiff, reduceIte, reduceCtorEq, h11, b1, b2, b3, hc, ← e, hxn, hyn, appendA_U]
    refine AApply.clo (cmp_spec c c _ _ ⟨trivial, ?_⟩)
    have hcc : ¬ c < c := by omega
    rw [if_neg hcc, if_neg hcc]
    simp (config := { maxSteps := 1000000 }) only [go_sem, Int.reduceToNat, Int.reduceLE, Int.reduceLT, Int.reduceAdd, Int.reduceSub, Int.reduceMul, Int.reduceEq, Int.reduceNe, Nat.reduceEqDiff, Nat.reducePow, Nat.reduceDiv, Nat.reduceMod, Nat.reduceAdd, Nat.reduceMul, Nat.reduceSub, Nat.reduceLT, Nat.reduceLeDiff, reduceIte, reduceCtorEq, w1, h11, appendA_U]
    exact ⟨⟨k + 1, by simp, by omega⟩, by omega⟩
def lens (t : List (List Int)) : Nat := (t.map List.length).sum
theorem lens_flat : ∀ t : List (List Int), t.flatten.length = lens t
  | [] => rfl
  | r :: t => by simp [lens]
theorem lens_take {t : List (List Int)} {k : Nat} {r : List Int} (h : t[k]? = some r) : lens (t.take (k + 1)) = lens (t.take k) + r.length := by
  unfold lens
  rw [take_succ_of h]
  simp
theorem concat_spec (t : List (List Int)) (ht : t.length ≤ 3) (hr : ∀ r, r ∈ t → r.length ≤ 3) (h0 : 0 < lens t) (H : AHeap) (K : ARes → AHeap → Prop) (hK : K (.ret (vecI t.flatten)) H) : ACall Tryd.prog G0 38 [vecV t] H K := by
  refine ACall.clo ⟨_, Tryd.func38, rfl, rfl⟩ fun hcl => ?_
  have hle : ∀ k, lens (t.take k) ≤ 3 * k := fun k => by
    induction k with
    | zero => simp [lens]
    | succ k ih =>
      cases hk : t[k]? with
      | none =>
        have h1 : t.length ≤ k := by simpa using hk
        rw [List.take_of_length_le (by omega)]
        rw [List.take_of_length_le h1] at ih
        omega
      | some r =>
        rw [lens_take hk]
        have := hr r (List.mem_of_getElem? hk)
        omega
  have htl : lens t ≤ 9 := by have := hle t.length; rw [List.take_length] at this; omega
  have hne : ¬ t = [] := by rintro rfl; simp [lens] at h0
  refine ACall.of_body (n := 36) (rs := [.tmp 2]) Tryd.func38 rfl rfl rfl (by decide) (by kernel_rfl) (by simp) ?_
  simp (config := { maxSteps := 1000000 }) only [go_sem, Int.reduceToNat, Int.reduceLE, Int.reduceLT, Int.reduceAdd, Int.reduceSub, Int.reduceMul, Int.reduceEq, Int.reduceNe, Nat.reduceEqDiff, Nat.reducePow, Nat.reduceDiv, Nat.reduceMod, Nat.reduceAdd, Nat.reduceMul, Nat.reduceSub, Nat.reduceLT, Nat.reduceLeDiff, reduceIte, reduceCtorEq, vecV, appendA_U]
  refine W.loop0 8386600 (by rfl) (fun ρ H' => H = H' ∧ ∃ k : Nat, ρ 11 = lin k ∧ k ≤ t.length ∧ ρ 3 = lin (lens (t.take k) : Nat)) (fun ρ H => t.length - (iv (ρ 11)).toNat) ?_ ?_
  · simp (config := { maxSteps := 1000000 }) only [go_sem, Int.reduceToNat, Int.reduceLE, Int.reduceLT, Int.reduceAdd, Int.reduceSub, Int.reduceMul, Int.reduceEq, Int.reduceNe, Nat.reduceEqDiff, Nat.reducePow, Nat.reduceDiv, Nat.reduceMod, Nat.reduceAdd, Nat.reduceMul, Nat.reduceSub, Nat.reduceLT, Nat.reduceLeDiff, reduceIte, reduceCtorEq, appendA_U]
    exact ⟨0, rfl, by omega, rfl⟩
  rintro ρ H' ⟨rfl, k, h11, hk, h3⟩
  refine vc_sound _ _ _ (by rfl) ?_
  by_cases hb : (k : Int) < t.length
  · obtain ⟨r, hrk⟩ : ∃ r, t[k]? = some r := ⟨_, List.getElem?_eq_getElem (by omega)⟩
    have e := lens_take hrk
    have l1 := hle k
    have l2 := hr r (List.mem_of_getElem? hrk)
    have w1 := IntWalk.i64_in ((k : Int) + 1) (by omega)
    have w2 := IntWalk.i64_in ((lens (t.take k) : Int) + (r.length : Int)) (by omega)
    have z1 : ¬ (lens (t.take k) : Int) + (r.length : Int) < 0 := by omega
    simp (config := { maxSteps := 1000000 }) only [go_sem, Int.reduceToNat, Int.reduceLE, Int.reduceLT, Int.reduceAdd, Int.reduceSub, Int.reduceMul, Int.reduceEq, Int.reduceNe, Nat.reduceEqDiff, Nat.reducePow, Nat.reduceDiv, Nat.reduceMod, Nat.reduceAdd, Nat.reduceMul, Nat.reduceSub, Nat.reduceLT, Nat.reduceLeDiff, reduceIte, reduceCtorEq, h11, hb, hrk, hne, h3, w1, w2, z1, appendA_U]
    exact ⟨⟨k + 1, by simp, by omega, by rw [e]; simp⟩, by omega⟩
  · rw [List.take_of_length_le (by omega)] at h3
    simp (config := { maxSteps := 1000000 }) only [go_sem, Int.reduceToNat, Int.reduceLE, Int.reduceLT, Int.reduceAdd, Int.reduceSub, Int.reduceMul, Int.reduceEq, Int.reduceNe, Nat.reduceEqDiff, Nat.reducePow, Nat.reduceDiv, Nat.reduceMod, Nat.reduceAdd, Nat.reduceMul, Nat.reduceSub, Nat.reduceLT, Nat.reduceLeDiff, reduceIte, reduceCtorEq, h11, hb, h3, appendA_U]
    refine AApply.clo (grow_spec (lens t) h0 (by omega) _ _ ⟨trivial, ?_⟩)
    simp (config := { maxSteps := 1000000 }) only [go_sem, Int.reduceToNat, Int.reduceLE, Int.reduceLT, Int.reduceAdd, Int.reduceSub, Int.reduceMul, Int.reduceEq, Int.reduceNe, Nat.reduceEqDiff, Nat.reducePow, Nat.reduceDiv, Nat.reduceMod, Nat.reduceAdd, Nat.reduceMul, Nat.reduceSub, Nat.reduceLT, Nat.reduceLeDiff, reduceIte, reduceCtorEq, h11, hb, h3, appendA_U]
    refine W.loop0 34225520960 (by rfl) (fun ρ H' => Over H H' ∧ H.next + 1 ≤ H'.next ∧ ∃ k : Nat, ρ 27 = lin k ∧ k ≤ t.length ∧ OwnG H.next H' 3 (ρ 6) (ints (t.take k).flatten)) (fun ρ H => t.length - (iv (ρ 27)).toNat) ?_ ?_
    · simp (config := { maxSteps := 1000000 }) only [go_sem, Int.reduceToNat, Int.reduceLE, Int.reduceLT, Int.reduceAdd, Int.reduceSub, Int.reduceMul, Int.reduceEq, Int.reduceNe, Nat.reduceEqDiff, Nat.reducePow, Nat.reduceDiv, Nat.reduceMod, Nat.reduceAdd, Nat.reduceMul, Nat.reduceSub, Nat.reduceLT, Nat.reduceLeDiff, reduceIte, reduceCtorEq, appendA_U]
      exact ⟨Over.ext _ _, 0, rfl, by omega, .inr ⟨H.next, 0, Nat.le_refl _, by simp [ext_next], rfl, get_ext0 _ _ _⟩⟩
    rintro ρ2 H2 ⟨ov, on, j, h27, hj, h6⟩
    refine vc_sound _ _ _ (by rfl) ?_
    by_cases hb2 : (j : Int) < t.length
    · obtain ⟨r, hrj⟩ : ∃ r, t[j]? = some r := ⟨_, List.getElem?_eq_getElem (by omega)⟩
      have w1 := IntWalk.i64_in ((j : Int) + 1) (by omega)
      have e : (t.take (j + 1)).flatten = (t.take j).flatten ++ r := by rw [take_succ_of hrj]; simp
      have l0 := hle j
      have l2 := hr r (List.mem_of_getElem? hrj)
      have l3 := lens_flat (t.take j)
      obtain ⟨v', H3, hA, hO, hn3, hp⟩ := app_vecG (P := Tryd.prog) (H := H2) (t := 46) (n := H2.next) (src := ints r) Tryd.underlying46 Tryd.cells3 Tryd.zero3 (all_one_ints r) (by rw [Tryd.bytes3, ints_length, ints_length, l3]; omega) h6 ov.next rfl
      rw [ints_length] at hA
      simp (config := { maxSteps := 1000000 }) only [go_sem, Int.reduceToNat, Int.reduceLE, Int.reduceLT, Int.reduceAdd, Int.reduceSub, Int.reduceMul, Int.reduceEq, Int.reduceNe, Nat.reduceEqDiff, Nat.reducePow, Nat.reduceDiv, Nat.reduceMod, Nat.reduceAdd, Nat.reduceMul, Nat.reduceSub, Nat.reduceLT, Nat.reduceLeDiff, reduceIte, reduceCtorEq, h27, hb2, hrj, hne, hA, w1]
      have ov3 : Over H H3 := ⟨by have := ov.next; omega, fun id hid => by
        rw [hp id (by have := ov.next; omega) fun g n he => ?_, ov.old id hid]
        rcases h6 with ⟨h6, _⟩ | ⟨i2, g2, a1, _, h6, _⟩
        · rw [h6] at he; cases he
        · rw [h6] at he; have := AVal.own.inj he; omega⟩
      refine ⟨by omega, ⟨ov3, by omega, j + 1, by simp, by omega, ?_⟩, by omega⟩
      rw [e]
      simpa [ints] using hO
    · rw [List.take_of_length_le (by omega)] at h6
      simp (config := { maxSteps := 1000000 }) only [go_sem, Int.reduceToNat, Int.reduceLE, Int.reduceLT, Int.reduceAdd, Int.reduceSub, Int.reduceMul, Int.reduceEq, Int.reduceNe, Nat.reduceEqDiff, Nat.reducePow, Nat.reduceDiv, Nat.reduceMod, Nat.reduceAdd, Nat.reduceMul, Nat.reduceSub, Nat.reduceLT, Nat.reduceLeDiff, reduceIte, reduceCtorEq, h27, hb2, appendA_U]
      exact FinV.dropO G0_ok hcl ov (h6.fzI fun i hi => hi) hK
end Go.Proofs
set_option linter.unusedSimpArgs false
set_option maxRecDepth 100000
namespace Go.Proofs
open Go.Hx
set_option maxHeartbeats 2000000 in
theorem adds_spec (hi wi mo : Int) (ns : List Int) (hn : ns.length = 9) (hh : 0 ≤ hi ∧ hi ≤ 255) (hw : 0 ≤ wi ∧ wi ≤ 255) (hm : 0 ≤ mo ∧ mo ≤ 255) (hns : ∀ c, c ∈ ns → 0 ≤ c ∧ c ≤ 255) (H : AHeap) (K : ARes → AHeap → Prop)
    (hK : K (.ret (.lit (.bool true))) H) : ACall Tryd.prog G0 9 [.agg (u8L (hi :: wi :: (ns ++ [mo])))] H K := by
  refine ACall.clo ⟨_, Tryd.func9, rfl, rfl⟩ fun hcl => ?_
  obtain ⟨D, hD⟩ : ∃ D, D = u8L (hi :: wi :: (ns ++ [mo])) := ⟨_, rfl⟩
  have dl : D.length = 12 := by rw [hD]; simp [u8L, hn]
  have hT : ∀ H K, (∀ t, TableOk t → K (.ret (vecV t)) H) → ACall Tryd.prog G0 11 [.agg D] H K := fun H K h => by rw [hD]; exact Table_spec hi wi mo ns hn hh hw hm hns H K h
  rw [← hD]
  refine ACall.of_body (n := 120) (rs := [.tmp 2]) Tryd.func9 rfl rfl rfl (by decide) (by kernel_rfl) (by simp) ?_
  have dt : D.take 12 = D := List.take_of_length_le (by omega)
  simp (config := { maxSteps := 1000000 }) only [go_sem, Int.reduceToNat, Int.reduceLE, Int.reduceLT, Int.reduceAdd, Int.reduceSub, Int.reduceMul, Int.reduceEq, Int.reduceNe, Nat.reduceEqDiff, Nat.reducePow, Nat.reduceDiv, Nat.reduceMod, Nat.reduceAdd, Nat.reduceMul, Nat.reduceSub, Nat.reduceLT, Nat.reduceLeDiff, reduceIte, reduceCtorEq, dt, appendA_U]
  refine AApply.clo (works_ok _ _ ⟨trivial, ?_⟩)
  simp (config := { maxSteps := 1000000 }) only [go_sem, Int.reduceToNat, Int.reduceLE, Int.reduceLT, Int.reduceAdd, Int.reduceSub, Int.reduceMul, Int.reduceEq, Int.reduceNe, Nat.reduceEqDiff, Nat.reducePow, Nat.reduceDiv, Nat.reduceMod, Nat.reduceAdd, Nat.reduceMul, Nat.reduceSub, Nat.reduceLT, Nat.reduceLeDiff, reduceIte, reduceCtorEq, dt, appendA_U]
  refine ⟨by omega, AApply.clo (hT _ _ fun t ht => ⟨trivial, ?_⟩)⟩
  have ok1 : ∀ X, TableOk X → (X.length : Int) < 2 ^ 40 ∧ ∀ r, r ∈ X → (r.length : Int) < 2 ^ 40 := fun X h =>
    ⟨by have := h.2.1; omega, fun r hr => by have := (h.2.2.1 r hr).2.2.1; omega⟩
  simp (config := { maxSteps := 1000000 }) only [go_sem, Int.reduceToNat, Int.reduceLE, Int.reduceLT, Int.reduceAdd, Int.reduceSub, Int.reduceMul, Int.reduceEq, Int.reduceNe, Nat.reduceEqDiff, Nat.reducePow, Nat.reduceDiv, Nat.reduceMod, Nat.reduceAdd, Nat.reduceMul, Nat.reduceSub, Nat.reduceLT, Nat.reduceLeDiff, reduceIte, reduceCtorEq, appendA_U]
  refine AApply.clo (Margins_spec t (ok1 t ht).1 (ok1 t ht).2 _ _ ⟨trivial, ?_⟩)
  rw [if_pos ht]
  simp (config := { maxSteps := 1000000 }) only [go_sem, Int.reduceToNat, Int.reduceLE, Int.reduceLT, Int.reduceAdd, Int.reduceSub, Int.reduceMul, Int.reduceEq, Int.reduceNe, Nat.reduceEqDiff, Nat.reducePow, Nat.reduceDiv, Nat.reduceMod, Nat.reduceAdd, Nat.reduceMul, Nat.reduceSub, Nat.reduceLT, Nat.reduceLeDiff, reduceIte, reduceCtorEq, appendA_U]
  refine AApply.clo (All_spec t (ok1 t ht).1 (ok1 t ht).2 _ _ ⟨trivial, ?_⟩)
  rw [if_pos ht]
  simp (config := { maxSteps := 1000000 }) only [go_sem, Int.reduceToNat, Int.reduceLE, Int.reduceLT, Int.reduceAdd, Int.reduceSub, Int.reduceMul, Int.reduceEq, Int.reduceNe, Nat.reduceEqDiff, Nat.reducePow, Nat.reduceDiv, Nat.reduceMod, Nat.reduceAdd, Nat.reduceMul, Nat.reduceSub, Nat.reduceLT, Nat.reduceLeDiff, reduceIte, reduceCtorEq, appendA_U]
  refine AApply.clo (Total_spec t (ok1 t ht).1 (ok1 t ht).2 _ _ ⟨trivial, ?_⟩)
  rw [if_pos ht, total_mul ht]
  obtain ⟨M, hM⟩ : ∃ M, M = mul (colsOf t) := ⟨_, rfl⟩
  have hM30 := mul_30 ht
  have hsum := allT_sum ht
  rw [← hM] at hM30 hsum ⊢
  have hlen := allT_len ht
  simp (config := { maxSteps := 1000000 }) only [go_sem, Int.reduceToNat, Int.reduceLE, Int.reduceLT, Int.reduceAdd, Int.reduceSub, Int.reduceMul, Int.reduceEq, Int.reduceNe, Nat.reduceEqDiff, Nat.reducePow, Nat.reduceDiv, Nat.reduceMod, Nat.reduceAdd, Nat.reduceMul, Nat.reduceSub, Nat.reduceLT, Nat.reduceLeDiff, reduceIte, reduceCtorEq, vecT, appendA_U]
  obtain ⟨H1, hH1⟩ : ∃ H1, H1 = ext H [.arr 0 24 D] := ⟨_, rfl⟩
  have ov1 : Over H H1 := by rw [hH1]; exact Over.ext _ _
  rw [← hH1]
  refine W.env fun E hE => ?_
  have e3 : E 3 = vecV t := by rw [hE]; rfl
  have e4 : E 4 = vecI (rowsOf t) := by rw [hE]; rfl
  have e5 : E 5 = vecI (colsOf t) := by rw [hE]; rfl
  have e7 : E 7 = .vec (allT t).length (List.map vecV (allT t)) := by rw [hE]; rfl
  have e9 : E 9 = .lit (.int .i64 M) := by rw [hE]; rfl
  have e11 : E 11 = .lit (.int .i64 0) := by rw [hE]; rfl
  have e12 : E 12 = .lit (.bool false) := by rw [hE]; rfl
  have e50 : E 50 = .vec (allT t).length (List.map vecV (allT t)) := by rw [hE]; rfl
  have e51 : E 51 = .lit (.int .i64 (allT t).length) := by rw [hE]; rfl
  have e52 : E 52 = .lit (.int .i64 0) := by rw [hE]; rfl
  clear hE
  refine W.loop0 20769187434139310509618385690556420 (by rfl) (fun ρ H' => H1 = H' ∧ ∃ (k : Nat) (fb : Bool), ρ 52 = lin k ∧ k ≤ (allT t).length ∧ ρ 11 = lin (sumL ((allT t).take k) wayN : Nat) ∧ ρ 12 = .lit (.bool fb) ∧ (fb = true ↔ t ∈ (allT t).take k)) (fun ρ H => (allT t).length - (iv (ρ 52)).toNat) ?_ ?_
  · simp (config := { maxSteps := 1000000 }) only [go_sem, Int.reduceToNat, Int.reduceLE, Int.reduceLT, Int.reduceAdd, Int.reduceSub, Int.reduceMul, Int.reduceEq, Int.reduceNe, Nat.reduceEqDiff, Nat.reducePow, Nat.reduceDiv, Nat.reduceMod, Nat.reduceAdd, Nat.reduceMul, Nat.reduceSub, Nat.reduceLT, Nat.reduceLeDiff, reduceIte, reduceCtorEq, e52, e11, e12, appendA_U]
    exact ⟨0, false, rfl, by omega, rfl, rfl, by simp⟩
  rintro ρ H' ⟨rfl, k, fb, h52, hk, h11, h12, hfb⟩
  have s1 : sumL ((allT t).take k) wayN ≤ M := by rw [← hsum]; exact sumL_sub (List.take_sublist _ _)
  refine vc_sound _ _ _ (by rfl) ?_
  by_cases hb : (k : Int) < (allT t).length
  rotate_left
  · rw [List.take_of_length_le (by omega), hsum] at h11
    rw [List.take_of_length_le (by omega)] at hfb
    obtain rfl : fb = true := hfb.2 (self_mem ht)
    simp (config := { maxSteps := 1000000 }) only [go_sem, Int.reduceToNat, Int.reduceLE, Int.reduceLT, Int.reduceAdd, Int.reduceSub, Int.reduceMul, Int.reduceEq, Int.reduceNe, Nat.reduceEqDiff, Nat.reducePow, Nat.reduceDiv, Nat.reduceMod, Nat.reduceAdd, Nat.reduceMul, Nat.reduceSub, Nat.reduceLT, Nat.reduceLeDiff, reduceIte, reduceCtorEq, h52, hb, e51, h12, h11, e9, appendA_U]
    exact FinV.dropO G0_ok hcl ov1 (.lit _) hK
  obtain ⟨X, hX⟩ : ∃ X, (allT t)[k]? = some X := ⟨_, List.getElem?_eq_getElem (by omega)⟩
  have hxm := List.mem_of_getElem? hX
  obtain ⟨hXok, hXr, hXc, hXw, hXl⟩ := mem_allT ht hxm
  have htk : (List.map vecV (allT t))[k]? = some (vecV X) := by rw [List.getElem?_map, hX]; rfl
  have htn : ¬ List.map vecV (allT t) = [] := by intro h0; rw [h0] at htk; cases htk
  have htn2 : ¬ allT t = [] := by intro h0; rw [h0] at hX; cases hX
  have w6 := IntWalk.i64_in ((k : Int) + 1) (by omega)
  have wp := wayN_pos' hXok
  have z1 : ¬ (wayN X : Int) < 1 := by omega
  have tk : sumL ((allT t).take (k + 1)) wayN = sumL ((allT t).take k) wayN + wayN X := by
    rw [take_succ_of hX, sumL_append, sumL_cons, sumL_nil]; omega
  have s2 : sumL ((allT t).take (k + 1)) wayN ≤ M := by rw [← hsum]; exact sumL_sub (List.take_sublist _ _)
  have w7 := IntWalk.i64_in ((sumL ((allT t).take k) wayN : Int) + (wayN X : Int)) (by omega)
  have fin : ∀ f2 : Bool, (f2 = true ↔ (fb = true ∨ X = t)) → (f2 = true ↔ t ∈ (allT t).take (k + 1)) := fun f2 h => by
    rw [h, take_succ_of hX, List.mem_append, List.mem_singleton, hfb]
    constructor
    · rintro (h | h)
      · exact .inl h
      · exact .inr h.symm
    · rintro (h | h)
      · exact .inl h
      · exact .inr h.symm
  have small : ∀ Y, TableOk Y → Y.length ≤ 3 ∧ (∀ r, r ∈ Y → r.length ≤ 3) ∧ 0 < lens Y := fun Y hY => by
    refine ⟨hY.2.1, fun r hr => (hY.2.2.1 r hr).2.2.1, ?_⟩
    have h1 := hY.1
    cases Y with
    | nil => simp at h1
    | cons r Y => have := (hY.2.2.1 r (by simp)).2.1; simp [lens]; omega
  simp (config := { maxSteps := 1000000 }) only [go_sem, Int.reduceToNat, Int.reduceLE, Int.reduceLT, Int.reduceAdd, Int.reduceSub, Int.reduceMul, Int.reduceEq, Int.reduceNe, Nat.reduceEqDiff, Nat.reducePow, Nat.reduceDiv, Nat.reduceMod, Nat.reduceAdd, Nat.reduceMul, Nat.reduceSub, Nat.reduceLT, Nat.reduceLeDiff, reduceIte, reduceCtorEq, h52, hb, e50, e51, htk, htn, appendA_U]
  refine AApply.clo (Margins_spec X (ok1 X hXok).1 (ok1 X hXok).2 _ _ ⟨trivial, ?_⟩)
  rw [if_pos hXok, hXr, hXc]
  simp (config := { maxSteps := 1000000 }) only [go_sem, Int.reduceToNat, Int.reduceLE, Int.reduceLT, Int.reduceAdd, Int.reduceSub, Int.reduceMul, Int.reduceEq, Int.reduceNe, Nat.reduceEqDiff, Nat.reducePow, Nat.reduceDiv, Nat.reduceMod, Nat.reduceAdd, Nat.reduceMul, Nat.reduceSub, Nat.reduceLT, Nat.reduceLeDiff, reduceIte, reduceCtorEq, appendA_U]
  refine AApply.clo (Ways_spec X (ok1 X hXok).1 (ok1 X hXok).2 _ _ ⟨trivial, ?_⟩)
  rw [if_pos hXok, refWays_wayN hXok]
  have hr1 := rows_le ht
  have hc1 := cols_ok ht
  simp (config := { maxSteps := 1000000 }) only [go_sem, Int.reduceToNat, Int.reduceLE, Int.reduceLT, Int.reduceAdd, Int.reduceSub, Int.reduceMul, Int.reduceEq, Int.reduceNe, Nat.reduceEqDiff, Nat.reducePow, Nat.reduceDiv, Nat.reduceMod, Nat.reduceAdd, Nat.reduceMul, Nat.reduceSub, Nat.reduceLT, Nat.reduceLeDiff, reduceIte, reduceCtorEq, z1, e4, e5, appendA_U]
  refine AApply.clo (eq_spec _ _ (by have := hr1.1; omega) _ _ ⟨trivial, ?_⟩)
  simp (config := { maxSteps := 1000000 }) only [go_sem, Int.reduceToNat, Int.reduceLE, Int.reduceLT, Int.reduceAdd, Int.reduceSub, Int.reduceMul, Int.reduceEq, Int.reduceNe, Nat.reduceEqDiff, Nat.reducePow, Nat.reduceDiv, Nat.reduceMod, Nat.reduceAdd, Nat.reduceMul, Nat.reduceSub, Nat.reduceLT, Nat.reduceLeDiff, reduceIte, reduceCtorEq, z1, e4, e5, appendA_U]
  refine AApply.clo (eq_spec _ _ (by have := hc1.1; omega) _ _ ⟨trivial, ?_⟩)
  by_cases hk0 : (0 : Int) < (k : Int)
  · obtain ⟨j, rfl⟩ : ∃ j, k = j + 1 := ⟨k - 1, by omega⟩
    obtain ⟨Y, hY⟩ : ∃ Y, (allT t)[j]? = some Y := ⟨_, List.getElem?_eq_getElem (by omega)⟩
    have hYok := (mem_allT ht (List.mem_of_getElem? hY)).1
    have htj : (List.map vecV (allT t))[j]? = some (vecV Y) := by rw [List.getElem?_map, hY]; rfl
    have hlt := allT_lt t hY hX
    have w8 : IntKind.i64.wrap (((j + 1 : Nat) : Int) - 1) = (j : Int) := by rw [IntWalk.i64_in _ (by omega)]; omega
    have b8 : (j : Int) < (allT t).length := by omega
    simp (config := { maxSteps := 1000000 }) only [go_sem, Int.reduceToNat, Int.reduceLE, Int.reduceLT, Int.reduceAdd, Int.reduceSub, Int.reduceMul, Int.reduceEq, Int.reduceNe, Nat.reduceEqDiff, Nat.reducePow, Nat.reduceDiv, Nat.reduceMod, Nat.reduceAdd, Nat.reduceMul, Nat.reduceSub, Nat.reduceLT, Nat.reduceLeDiff, reduceIte, reduceCtorEq, hk0, e7, w8, b8, htj, htn, htn2, appendA_U]
    obtain ⟨y1, y2, y3⟩ := small Y hYok
    obtain ⟨x1, x2, x3⟩ := small X hXok
    refine AApply.clo (concat_spec Y y1 y2 y3 _ _ ⟨trivial, ?_⟩)
    simp (config := { maxSteps := 1000000 }) only [go_sem, Int.reduceToNat, Int.reduceLE, Int.reduceLT, Int.reduceAdd, Int.reduceSub, Int.reduceMul, Int.reduceEq, Int.reduceNe, Nat.reduceEqDiff, Nat.reducePow, Nat.reduceDiv, Nat.reduceMod, Nat.reduceAdd, Nat.reduceMul, Nat.reduceSub, Nat.reduceLT, Nat.reduceLeDiff, reduceIte, reduceCtorEq, appendA_U]
    refine AApply.clo (concat_spec X x1 x2 x3 _ _ ⟨trivial, ?_⟩)
    simp (config := { maxSteps := 1000000 }) only [go_sem, Int.reduceToNat, Int.reduceLE, Int.reduceLT, Int.reduceAdd, Int.reduceSub, Int.reduceMul, Int.reduceEq, Int.reduceNe, Nat.reduceEqDiff, Nat.reducePow, Nat.reduceDiv, Nat.reduceMod, Nat.reduceAdd, Nat.reduceMul, Nat.reduceSub, Nat.reduceLT, Nat.reduceLeDiff, reduceIte, reduceCtorEq, appendA_U]
    have fl : ∀ Y : List (List Int), Y.length ≤ 3 → (∀ r, r ∈ Y → r.length ≤ 3) → Y.flatten.length ≤ 9 := fun Y h1 h2 => by
      match Y, h1, h2 with
      | [], _, _ => simp
      | [a], _, h2 => have := h2 a (by simp); simp; omega
      | [a, b], _, h2 => have := h2 a (by simp); have := h2 b (by simp); simp; omega
      | [a, b, c], _, h2 => have := h2 a (by simp); have := h2 b (by simp); have := h2 c (by simp); simp; omega
    refine AApply.clo (compare_lt hlt (by have := fl Y y1 y2; omega) _ _ ⟨trivial, ?_⟩)
    cases fb with
    | true =>
      simp (config := { maxSteps := 1000000 }) only [go_sem, Int.reduceToNat, Int.reduceLE, Int.reduceLT, Int.reduceAdd, Int.reduceSub, Int.reduceMul, Int.reduceEq, Int.reduceNe, Nat.reduceEqDiff, Nat.reducePow, Nat.reduceDiv, Nat.reduceMod, Nat.reduceAdd, Nat.reduceMul, Nat.reduceSub, Nat.reduceLT, Nat.reduceLeDiff, reduceIte, reduceCtorEq, w7, h11, h12, w6, h52, appendA_U]
      exact ⟨⟨(j + 1) + 1, true, by simp, by omega, by rw [tk]; simp, rfl, fin true (by simp)⟩, by omega⟩
    | false =>
      simp (config := { maxSteps := 1000000 }) only [go_sem, Int.reduceToNat, Int.reduceLE, Int.reduceLT, Int.reduceAdd, Int.reduceSub, Int.reduceMul, Int.reduceEq, Int.reduceNe, Nat.reduceEqDiff, Nat.reducePow, Nat.reduceDiv, Nat.reduceMod, Nat.reduceAdd, Nat.reduceMul, Nat.reduceSub, Nat.reduceLT, Nat.reduceLeDiff, reduceIte, reduceCtorEq, w7, h11, h12, e3, appendA_U]
      refine AApply.clo (same_spec X t (by have := (ok1 X hXok).1; omega) (fun r hr => by have := (ok1 X hXok).2 r hr; omega) _ _ ⟨trivial, ?_⟩)
      simp (config := { maxSteps := 1000000 }) only [go_sem, Int.reduceToNat, Int.reduceLE, Int.reduceLT, Int.reduceAdd, Int.reduceSub, Int.reduceMul, Int.reduceEq, Int.reduceNe, Nat.reduceEqDiff, Nat.reducePow, Nat.reduceDiv, Nat.reduceMod, Nat.reduceAdd, Nat.reduceMul, Nat.reduceSub, Nat.reduceLT, Nat.reduceLeDiff, reduceIte, reduceCtorEq, w6, h52, appendA_U]
      exact ⟨⟨(j + 1) + 1, decide (X = t), by simp, by omega, by rw [tk]; simp, rfl, fin _ (by simp)⟩, by omega⟩
  · simp (config := { maxSteps := 1000000 }) only [go_sem, Int.reduceToNat, Int.reduceLE, Int.reduceLT, Int.reduceAdd, Int.reduceSub, Int.reduceMul, Int.reduceEq, Int.reduceNe, Nat.reduceEqDiff, Nat.reducePow, Nat.reduceDiv, Nat.reduceMod, Nat.reduceAdd, Nat.reduceMul, Nat.reduceSub, Nat.reduceLT, Nat.reduceLeDiff, reduceIte, reduceCtorEq, hk0, appendA_U]
    cases fb with
    | true =>
      simp (config := { maxSteps := 1000000 }) only [go_sem, Int.reduceToNat, Int.reduceLE, Int.reduceLT, Int.reduceAdd, Int.reduceSub, Int.reduceMul, Int.reduceEq, Int.reduceNe, Nat.reduceEqDiff, Nat.reducePow, Nat.reduceDiv, Nat.reduceMod, Nat.reduceAdd, Nat.reduceMul, Nat.reduceSub, Nat.reduceLT, Nat.reduceLeDiff, reduceIte, reduceCtorEq, w7, h11, h12, w6, h52, appendA_U]
      exact ⟨⟨k + 1, true, by simp, by omega, by rw [tk]; simp, rfl, fin true (by simp)⟩, by omega⟩
    | false =>
      simp (config := { maxSteps := 1000000 }) only [go_sem, Int.reduceToNat, Int.reduceLE, Int.reduceLT, Int.reduceAdd, Int.reduceSub, Int.reduceMul, Int.reduceEq, Int.reduceNe, Nat.reduceEqDiff, Nat.reducePow, Nat.reduceDiv, Nat.reduceMod, Nat.reduceAdd, Nat.reduceMul, Nat.reduceSub, Nat.reduceLT, Nat.reduceLeDiff, reduceIte, reduceCtorEq, w7, h11, h12, e3, appendA_U]
      refine AApply.clo (same_spec X t (by have := (ok1 X hXok).1; omega) (fun r hr => by have := (ok1 X hXok).2 r hr; omega) _ _ ⟨trivial, ?_⟩)
      simp (config := { maxSteps := 1000000 }) only [go_sem, Int.reduceToNat, Int.reduceLE, Int.reduceLT, Int.reduceAdd, Int.reduceSub, Int.reduceMul, Int.reduceEq, Int.reduceNe, Nat.reduceEqDiff, Nat.reducePow, Nat.reduceDiv, Nat.reduceMod, Nat.reduceAdd, Nat.reduceMul, Nat.reduceSub, Nat.reduceLT, Nat.reduceLeDiff, reduceIte, reduceCtorEq, w6, h52, appendA_U]
      exact ⟨⟨k + 1, decide (X = t), by simp, by omega, by rw [tk]; simp, rfl, fin _ (by simp)⟩, by omega⟩
end Go.Proofs
