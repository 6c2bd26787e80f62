/- Own work: contracts. -/
import Derived.Test.YtemcnpldpoglmaaDoorConB
import Derived.Test.YtemcnpldpoglmaaDoorConD
set_option linter.all false
set_option linter.unusedSimpArgs false
set_option maxRecDepth 100000
namespace Go.Hx
variable {P : Program} {t : TypeId} {x y : Operand} {k k' : IntKind} {a b : Int}
end Go.Hx
namespace Go.Proofs
open Go.Hx
/-- The table of lengths. -/
def tabOk (s : ByteArray) : Bool := s.size == 256 && (List.range 256).all fun i => Nat.blt i (2 ^ (s[i]!).toNat) && Nat.ble (s[i]!).toNat 8 && (i == 0 || (Nat.ble 1 (s[i]!).toNat && Nat.ble (2 ^ ((s[i]!).toNat - 1)) i))
def LenOk (i L : Nat) : Prop := i < 2 ^ L ∧ (i ≠ 0 → 1 ≤ L ∧ 2 ^ (L - 1) ≤ i)
end Go.Proofs
set_option linter.unusedSimpArgs false
set_option maxRecDepth 100000
namespace Go.Hx
variable {P : Program} {G : Nat → Option (List AVal)}
theorem W.mid {n : Nat} {rd : Option Nat} {Q : AX → St → Prop} {s : St} {x y : Code} (Φ : St → Prop) (h : W P G n rd x (fun ax s' => ax = .normal ∧ Φ s') s) (h2 : ∀ s', Φ s' → W P G n rd y Q s') : W P G n rd (.seq x y) Q s :=
  W.seq (h.mono fun ax s' ⟨e, hp⟩ => by subst e; exact h2 s' hp)
end Go.Hx
namespace Go.Proofs
open Go.Hx
structure Trial (Y yn1 yn0 U u q r : Nat) : Prop where
  eq : q * yn1 + r = U
  ge : (U * 4294967296 + u) / Y ≤ q
structure TrialC (Y yn1 yn0 U u : Nat) : Prop where
  hY : Y = yn1 * 4294967296 + yn0
  h1 : 2147483648 ≤ yn1
  h1' : yn1 < 4294967296
  h0 : yn0 < 4294967296
  hU : U < Y
  hu : u < 4294967296
theorem TrialC.key {Y yn1 yn0 U u q r : Nat} (c : TrialC Y yn1 yn0 U u) (h : q * yn1 + r = U) : q * Y + r * 4294967296 = U * 4294967296 + q * yn0 := by
  rw [c.hY, ← h, Nat.mul_add, Nat.add_mul, ← Nat.mul_assoc]
  omega
theorem TrialC.step {Y yn1 yn0 U u q r : Nat} (c : TrialC Y yn1 yn0 U u) (h : Trial Y yn1 yn0 U u q r) (h2 : 4294967296 ≤ q ∨ 4294967296 * r + u < q * yn0) : 1 ≤ q ∧ Trial Y yn1 yn0 U u (q - 1) (r + yn1) := by
  have k := c.key h.eq
  have hp := c.h1
  have hY := c.hY
  have hU := c.hU
  have hu := c.hu
  have hlt : (U * 4294967296 + u) / Y < q := by
    rcases h2 with h2 | h2
    · refine Nat.lt_of_lt_of_le (Nat.div_lt_of_lt_mul ?_) h2
      omega
    · rw [Nat.div_lt_iff_lt_mul (by omega)]
      omega
  have e := h.eq
  have h1q : 1 ≤ q := Nat.succ_le_of_lt (Nat.lt_of_le_of_lt (Nat.zero_le _) hlt)
  refine ⟨h1q, ?_, ?_⟩
  · obtain ⟨p, rfl⟩ : ∃ p, q = p + 1 := ⟨q - 1, (Nat.sub_add_cancel h1q).symm⟩
    rw [Nat.add_mul, Nat.one_mul] at e
    rw [Nat.add_sub_cancel]
    generalize p * yn1 = z at *
    omega
  · exact Nat.le_sub_one_of_lt hlt
end Go.Proofs
set_option linter.unusedSimpArgs false
set_option maxRecDepth 100000
namespace Go.Proofs
open Go.Hx
end Go.Proofs
set_option linter.unusedSimpArgs false
set_option maxRecDepth 100000
namespace Go.Proofs
open Go.Hx
end Go.Proofs
set_option linter.unusedSimpArgs false
set_option maxRecDepth 100000
namespace Go.Proofs
open Go.Hx
end Go.Proofs
set_option linter.unusedSimpArgs false
set_option maxRecDepth 100000
namespace Go.Proofs
open Go.Hx
def sumX (a b d : Int) : Nat := a.natAbs * (d.natAbs / Int.gcd b d)
def sumY (b c d : Int) : Nat := c.natAbs * (b.natAbs / Int.gcd b d)
def sumT (a b c d : Int) : Nat := if (a < 0 ↔ c < 0) then sumX a b d + sumY b c d else if sumX a b d < sumY b c d then sumY b c d - sumX a b d else sumX a b d - sumY b c d
def sumS (a b c d : Int) : Bool := if (a < 0 ↔ c < 0) then decide (a < 0) else if sumX a b d < sumY b c d then !decide (a < 0) else decide (a < 0)
def sumO (a b c d : Int) : Option AVal := fitO (sumS a b c d) (sumT a b c d / Nat.gcd (sumT a b c d) (Int.gcd b d)) (b.natAbs / Int.gcd b d * (d.natAbs / Nat.gcd (sumT a b c d) (Int.gcd b d)))
def wideL (n : Nat) : List AVal := [.lit (.int .u64 (n / 18446744073709551616 : Nat)), .lit (.int .u64 (n % 18446744073709551616 : Nat))]
theorem wideL_len (n : Nat) : (wideL n).length = 2 := rfl
theorem wideL_V (n : Nat) : wideV n = .agg (wideL n) := rfl
end Go.Proofs
set_option linter.unusedSimpArgs false
set_option maxRecDepth 100000
namespace Go.Proofs
open Go.Hx
def totT (a c : Int) (X Y : Nat) : Nat := if (a < 0 ↔ c < 0) then X + Y else if X < Y then Y - X else X - Y
def totS (a c : Int) (X Y : Nat) : Bool := if (a < 0 ↔ c < 0) then decide (a < 0) else if X < Y then !decide (a < 0) else decide (a < 0)
end Go.Proofs
set_option linter.unusedSimpArgs false
set_option maxRecDepth 100000
namespace Go.Proofs
open Go.Hx
theorem checkQ_neg (a b : Int) : checkQ (-a) b = checkQ a b := by
  unfold checkQ maxN
  have e : Int.gcd (-a) b = Int.gcd a b := Int.neg_gcd
  rw [e]
  by_cases h : b < 1 ∨ b > 4611686018427387903 ∨ a < -4611686018427387903 ∨ a > 4611686018427387903
  · rw [if_pos h, if_pos (by omega)]
  · rw [if_neg h, if_neg (by omega)]
end Go.Proofs
