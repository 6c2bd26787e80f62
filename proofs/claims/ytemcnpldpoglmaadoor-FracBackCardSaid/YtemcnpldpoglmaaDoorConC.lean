/- Own work: contracts. -/
import Derived.Test.YtemcnpldpoglmaaDoorConB
set_option linter.all false
set_option linter.unusedSimpArgs false
set_option maxRecDepth 100000
namespace Go.Proofs
open Go.Hx
def val : List Int → Nat
  | [] => 0
  | a :: l => a.toNat + 10000 * val l
def dig (n : Nat) : List Int := if h : n = 0 then [] else ((n % 10000 : Nat) : Int) :: dig (n / 10000)
termination_by n
decreasing_by omega
/-- Digits. -/
def Dg (l : List Int) : Prop := ∀ c, c ∈ l → 0 ≤ c ∧ c ≤ 9999
end Go.Proofs
set_option linter.unusedSimpArgs false
set_option maxRecDepth 100000
namespace Go.Proofs
open Go.Hx
theorem take_succ_of {α : Type} {l : List α} {i : Nat} {a : α} (h : l[i]? = some a) : l.take (i + 1) = l.take i ++ [a] := by
  rw [List.take_add_one, h]; rfl
end Go.Proofs
set_option linter.unusedSimpArgs false
set_option maxRecDepth 100000
namespace Go.Proofs
open Go.Hx
end Go.Proofs
set_option linter.unusedSimpArgs false
set_option maxRecDepth 100000
namespace Go.Proofs
open Go.Hx
end Go.Proofs
set_option linter.unusedSimpArgs false
set_option maxRecDepth 100000
namespace Go.Proofs
open Go.Hx
end Go.Proofs
set_option linter.unusedSimpArgs false
set_option maxRecDepth 100000
namespace Go.Proofs
open Go.Hx
end Go.Proofs
set_option linter.unusedSimpArgs false
set_option maxRecDepth 100000
namespace Go.Proofs
open Go.Hx
def vn : AVal → Nat
  | .vec _ l => val (l.map iv)
  | _ => 0
def valR (n : Nat) : AVal := if n ≤ 4611686018427387903 then .tup [lin n, .lit (.bool true)] else .tup [lin 0, .lit (.bool false)]
/-- A fraction in lowest terms. -/
def madeR (neg : Bool) (N D : Nat) : AVal :=
  if N / Nat.gcd N D ≤ 4611686018427387903 ∧ D / Nat.gcd N D ≤ 4611686018427387903 then .tup [qV (if neg = true then -((N / Nat.gcd N D : Nat) : Int) else ((N / Nat.gcd N D : Nat) : Int)) ((D / Nat.gcd N D : Nat) : Int), .lit (.bool true)] else .tup [qV 0 0, .lit (.bool false)]
end Go.Proofs
set_option linter.unusedSimpArgs false
set_option maxRecDepth 100000
namespace Go.Proofs
open Go.Hx
abbrev I64 (n : Int) : Prop := -9223372036854775808 ≤ n ∧ n ≤ 9223372036854775807
end Go.Proofs
