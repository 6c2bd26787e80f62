/- Own work: contracts. -/
import Derived.Test.YtemcnpldpoglmaaDoorConC
set_option linter.all false
set_option linter.unusedSimpArgs false
set_option maxRecDepth 100000
namespace Go.Proofs
open Go.Hx
theorem eqlQ23 {o1 o2 : Operand} (a b c d : Int) : binA Tryd.prog .eql 23 o1 o2 (.agg [.lit (.int .i64 a), .lit (.int .i64 b)]) (.agg [.lit (.int .i64 c), .lit (.int .i64 d)]) = some (.lit (.bool (a == c && b == d))) := eqlQ a b c d
theorem checkQ_cases (a b : Int) : checkQ a b = 0 ∨ checkQ a b = 5 := by
  unfold checkQ
  split
  · exact .inr rfl
  · split
    · exact .inr rfl
    · exact .inl rfl
end Go.Proofs
set_option linter.unusedSimpArgs false
set_option maxRecDepth 100000
namespace Go.Proofs
open Go.Hx
theorem checkQ_gcd {a b : Int} (h : checkQ a b = 0) : Nat.gcd a.natAbs b.natAbs = 1 := by
  unfold checkQ at h
  split at h
  · exact absurd h (by decide)
  · split at h
    · exact absurd h (by decide)
    · rename_i h2; exact Classical.not_not.1 h2
end Go.Proofs
set_option linter.unusedSimpArgs false
set_option maxRecDepth 100000
namespace Go.Proofs
open Go.Hx
def someV (a b c d x y u v : Int) : AVal := .agg (ints [a, b, c, d, a, b, u, v, x, y, c, d, x, y, u, v])
end Go.Proofs
set_option linter.unusedSimpArgs false
set_option maxRecDepth 100000
namespace Go.Proofs
open Go.Hx
end Go.Proofs
set_option linter.unusedSimpArgs false
set_option maxRecDepth 100000
namespace Go.Proofs
open Go.Hx
end Go.Proofs
