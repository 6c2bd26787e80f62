/-
  NARROWER THAN 'FOR EVERY INPUT', by the rows' own cells (each row's printed sentence says how): FitRounds: laid · FitNets: laid · FitLikelihoods: laid · FitLikely: laid · FitNearest: laid · FitFair: laid · FitKnown: laid.
  DERIVED. THE GIVEN ROWS OF THIS SEAT. 7 by the template 'for every input the law returns true; each argument reads behind the call as it read before'; 0 by the template 'total and deterministic' (their statements: YtikgmgmphkalkaaDoorTotals.lean).
  GIVEN WITH THE SEED: the statements are not yours to turn. If you find one false, say at which input.
  Laid BY PROGRAM, IN A SANDBOX (cutbox-rows.mjs): the forced cells as the released guide's own fill.sh prints them over the translation 0d7d42a7ef307c4e… (all of the seat's roots in one cut). By AI agents, Wed Nov 11 2026. No macro, syntax, notation, axiom, sorry.
-/
import Derived.Test.YtikgmgmphkalkaaDoorChecked
import GoSem.Claim
import GoSem.ClaimJoined
import GoSem.ClaimMapViews
import Derived.JoinedTies
import Derived.KernelRfl
namespace Go.Proofs.YtikgmgmphkalkaaDoor
/- THE CELL 'sum', in the pinned program and in every row, IS THE sha256 OF THE DUMP (.gsa) THAT YtikgmgmphkalkaaDoorProg.lean LOADS. Nothing in Lean hashes anything: it is a label: what it is worth is what the hold of that sum in a sandbox is worth. -/
noncomputable def Tryd.pinned : Pinned := { name := "ytikgmgmphkalkaadoor", sum := "0d7d42a7ef307c4ee872dd9ed5f88181c93e4bae32e31975faa03be90024cce7", checked := Tryd.checked }
namespace Rows
def none {H : Type} : Left H := { results := [], args := [] }

/- WHAT THE LISTED PACKAGE-LEVEL VARIABLES READ AS WHEN THE CALL BEGINS. Each datum BY PROGRAM (the guide's laid-datum.mjs) off the statement by which the dump's own 'gosem.cut.vars' lays the variable. In a bare row this is a premise. The card (YtikgmgmphkalkaaDoorCards.lean) ties it to the program's text. -/
def laid_haruspex_fit_primes {H : Type} : DataW H := .agg [.lit (.int .i64 2), .lit (.int .i64 3), .lit (.int .i64 5), .lit (.int .i64 7), .lit (.int .i64 11), .lit (.int .i64 13), .lit (.int .i64 17), .lit (.int .i64 19), .lit (.int .i64 23), .lit (.int .i64 29), .lit (.int .i64 31), .lit (.int .i64 37), .lit (.int .i64 41), .lit (.int .i64 43), .lit (.int .i64 47), .lit (.int .i64 53), .lit (.int .i64 59), .lit (.int .i64 61)]

/-- 'haruspexlaw26.FitRounds': WHATEVER THE INPUT: true; the input reads as it did. -/
def fitRoundsSpec : ChangeSpec := { name := "fitRounds", fn := fun _ => fun
  | [d1, d2, d3, d4, d5, d6] => { results := [.lit (.bool true)], args := [d1, d2, d3, d4, d5, d6] }
  | _ => none }
def fitRoundsRow : OpenClaim := { program := "ytikgmgmphkalkaadoor", sum := "0d7d42a7ef307c4ee872dd9ed5f88181c93e4bae32e31975faa03be90024cce7", func := "haruspex/haruspexlaw26.FitRounds", spec := "fitRounds", unfollowed := true, recurses := true, named := ["haruspex/fit.primes"], apart := false, laid := [("haruspex/fit.primes", laid_haruspex_fit_primes)] }
def FitRoundsSaid : Prop := fitRoundsRow.holds Tryd.pinned (OpenSpec.ofChange fitRoundsSpec)

/-- ITS FALSE NEIGHBOUR: 'it returns false'. Refute it at one input. -/
def fitRoundsWrong : ChangeSpec := { name := "fitRounds", fn := fun _ => fun
  | [d1, d2, d3, d4, d5, d6] => { results := [.lit (.bool false)], args := [d1, d2, d3, d4, d5, d6] }
  | _ => none }
def FitRoundsWrongFalsely : Prop := fitRoundsRow.holds Tryd.pinned (OpenSpec.ofChange fitRoundsWrong)

/-- 'haruspexlaw26.FitNets': WHATEVER THE INPUT: true; the input reads as it did. -/
def fitNetsSpec : ChangeSpec := { name := "fitNets", fn := fun _ => fun
  | [d1, d2, d3, d4, d5, d6] => { results := [.lit (.bool true)], args := [d1, d2, d3, d4, d5, d6] }
  | _ => none }
def fitNetsRow : OpenClaim := { program := "ytikgmgmphkalkaadoor", sum := "0d7d42a7ef307c4ee872dd9ed5f88181c93e4bae32e31975faa03be90024cce7", func := "haruspex/haruspexlaw26.FitNets", spec := "fitNets", unfollowed := true, recurses := true, named := ["haruspex/fit.primes"], apart := false, laid := [("haruspex/fit.primes", laid_haruspex_fit_primes)] }
def FitNetsSaid : Prop := fitNetsRow.holds Tryd.pinned (OpenSpec.ofChange fitNetsSpec)

/-- ITS FALSE NEIGHBOUR: 'it returns false'. Refute it at one input. -/
def fitNetsWrong : ChangeSpec := { name := "fitNets", fn := fun _ => fun
  | [d1, d2, d3, d4, d5, d6] => { results := [.lit (.bool false)], args := [d1, d2, d3, d4, d5, d6] }
  | _ => none }
def FitNetsWrongFalsely : Prop := fitNetsRow.holds Tryd.pinned (OpenSpec.ofChange fitNetsWrong)

/-- 'haruspexlaw26.FitLikelihoods': WHATEVER THE INPUT: true; the input reads as it did. -/
def fitLikelihoodsSpec : ChangeSpec := { name := "fitLikelihoods", fn := fun _ => fun
  | [d1, d2, d3, d4, d5] => { results := [.lit (.bool true)], args := [d1, d2, d3, d4, d5] }
  | _ => none }
def fitLikelihoodsRow : OpenClaim := { program := "ytikgmgmphkalkaadoor", sum := "0d7d42a7ef307c4ee872dd9ed5f88181c93e4bae32e31975faa03be90024cce7", func := "haruspex/haruspexlaw26.FitLikelihoods", spec := "fitLikelihoods", unfollowed := true, recurses := true, named := ["haruspex/fit.primes"], apart := false, laid := [("haruspex/fit.primes", laid_haruspex_fit_primes)] }
def FitLikelihoodsSaid : Prop := fitLikelihoodsRow.holds Tryd.pinned (OpenSpec.ofChange fitLikelihoodsSpec)

/-- ITS FALSE NEIGHBOUR: 'it returns false'. Refute it at one input. -/
def fitLikelihoodsWrong : ChangeSpec := { name := "fitLikelihoods", fn := fun _ => fun
  | [d1, d2, d3, d4, d5] => { results := [.lit (.bool false)], args := [d1, d2, d3, d4, d5] }
  | _ => none }
def FitLikelihoodsWrongFalsely : Prop := fitLikelihoodsRow.holds Tryd.pinned (OpenSpec.ofChange fitLikelihoodsWrong)

/-- 'haruspexlaw26.FitLikely': WHATEVER THE INPUT: true; the input reads as it did. -/
def fitLikelySpec : ChangeSpec := { name := "fitLikely", fn := fun _ => fun
  | [d1, d2, d3, d4, d5, d6] => { results := [.lit (.bool true)], args := [d1, d2, d3, d4, d5, d6] }
  | _ => none }
def fitLikelyRow : OpenClaim := { program := "ytikgmgmphkalkaadoor", sum := "0d7d42a7ef307c4ee872dd9ed5f88181c93e4bae32e31975faa03be90024cce7", func := "haruspex/haruspexlaw26.FitLikely", spec := "fitLikely", unfollowed := true, recurses := true, named := ["haruspex/fit.primes"], apart := false, laid := [("haruspex/fit.primes", laid_haruspex_fit_primes)] }
def FitLikelySaid : Prop := fitLikelyRow.holds Tryd.pinned (OpenSpec.ofChange fitLikelySpec)

/-- ITS FALSE NEIGHBOUR: 'it returns false'. Refute it at one input. -/
def fitLikelyWrong : ChangeSpec := { name := "fitLikely", fn := fun _ => fun
  | [d1, d2, d3, d4, d5, d6] => { results := [.lit (.bool false)], args := [d1, d2, d3, d4, d5, d6] }
  | _ => none }
def FitLikelyWrongFalsely : Prop := fitLikelyRow.holds Tryd.pinned (OpenSpec.ofChange fitLikelyWrong)

/-- 'haruspexlaw26.FitNearest': WHATEVER THE INPUT: true; the input reads as it did. -/
def fitNearestSpec : ChangeSpec := { name := "fitNearest", fn := fun _ => fun
  | [d1, d2, d3] => { results := [.lit (.bool true)], args := [d1, d2, d3] }
  | _ => none }
def fitNearestRow : OpenClaim := { program := "ytikgmgmphkalkaadoor", sum := "0d7d42a7ef307c4ee872dd9ed5f88181c93e4bae32e31975faa03be90024cce7", func := "haruspex/haruspexlaw26.FitNearest", spec := "fitNearest", unfollowed := true, recurses := true, named := ["haruspex/fit.primes"], apart := false, laid := [("haruspex/fit.primes", laid_haruspex_fit_primes)] }
def FitNearestSaid : Prop := fitNearestRow.holds Tryd.pinned (OpenSpec.ofChange fitNearestSpec)

/-- ITS FALSE NEIGHBOUR: 'it returns false'. Refute it at one input. -/
def fitNearestWrong : ChangeSpec := { name := "fitNearest", fn := fun _ => fun
  | [d1, d2, d3] => { results := [.lit (.bool false)], args := [d1, d2, d3] }
  | _ => none }
def FitNearestWrongFalsely : Prop := fitNearestRow.holds Tryd.pinned (OpenSpec.ofChange fitNearestWrong)

/-- 'haruspexlaw26.FitFair': WHATEVER THE INPUT: true; the input reads as it did. -/
def fitFairSpec : ChangeSpec := { name := "fitFair", fn := fun _ => fun
  | [d1, d2, d3] => { results := [.lit (.bool true)], args := [d1, d2, d3] }
  | _ => none }
def fitFairRow : OpenClaim := { program := "ytikgmgmphkalkaadoor", sum := "0d7d42a7ef307c4ee872dd9ed5f88181c93e4bae32e31975faa03be90024cce7", func := "haruspex/haruspexlaw26.FitFair", spec := "fitFair", unfollowed := true, recurses := true, named := ["haruspex/fit.primes"], apart := false, laid := [("haruspex/fit.primes", laid_haruspex_fit_primes)] }
def FitFairSaid : Prop := fitFairRow.holds Tryd.pinned (OpenSpec.ofChange fitFairSpec)

/-- ITS FALSE NEIGHBOUR: 'it returns false'. Refute it at one input. -/
def fitFairWrong : ChangeSpec := { name := "fitFair", fn := fun _ => fun
  | [d1, d2, d3] => { results := [.lit (.bool false)], args := [d1, d2, d3] }
  | _ => none }
def FitFairWrongFalsely : Prop := fitFairRow.holds Tryd.pinned (OpenSpec.ofChange fitFairWrong)

/-- 'haruspexlaw26.FitKnown': WHATEVER THE INPUT: true; the input reads as it did. -/
def fitKnownSpec : ChangeSpec := { name := "fitKnown", fn := fun _ => fun
  | [] => { results := [.lit (.bool true)], args := [] }
  | _ => none }
def fitKnownRow : OpenClaim := { program := "ytikgmgmphkalkaadoor", sum := "0d7d42a7ef307c4ee872dd9ed5f88181c93e4bae32e31975faa03be90024cce7", func := "haruspex/haruspexlaw26.FitKnown", spec := "fitKnown", unfollowed := true, recurses := true, named := ["haruspex/fit.primes"], apart := false, laid := [("haruspex/fit.primes", laid_haruspex_fit_primes)] }
def FitKnownSaid : Prop := fitKnownRow.holds Tryd.pinned (OpenSpec.ofChange fitKnownSpec)

/-- ITS FALSE NEIGHBOUR: 'it returns false'. Refute it at one input. -/
def fitKnownWrong : ChangeSpec := { name := "fitKnown", fn := fun _ => fun
  | [] => { results := [.lit (.bool false)], args := [] }
  | _ => none }
def FitKnownWrongFalsely : Prop := fitKnownRow.holds Tryd.pinned (OpenSpec.ofChange fitKnownWrong)

/- THE SECOND FORM. 'bulk': how many values and letters a reading holds, each counted each time it is reached (what is shared counts as often as it is met; a slice's spare places count too). A statement '..UptoSaid' is the law's where the arguments, and the package variables that the reading takes, are together of bulk at most 1048576: NARROWER than '..Said'. Prove '..Said' where nothing that the law and all that it calls make is longer than what came in: it says more and counts as full. Else prove '..UptoSaid'. A law counts once. -/
mutual
def uptoBulk {H : Type} : DataW H → Nat
  | .lit (.string bytes) => bytes.length + 1
  | .lit _ => 1
  | .nil => 1
  | .ptr d => uptoBulk d + 1
  | .slice elems spare => uptoBulkAll elems + uptoBulkAll spare + 1
  | .agg parts => uptoBulkAll parts + 1
  | .iface _ d => uptoBulk d + 1
  | .map entries => uptoBulkEntries entries + 1
  | .held _ => 1
def uptoBulkAll {H : Type} : List (DataW H) → Nat
  | [] => 0
  | d :: r => uptoBulk d + uptoBulkAll r
def uptoBulkEntries {H : Type} : List (Lit × DataW H) → Nat
  | [] => 0
  | x :: r => uptoBulkEntry x + uptoBulkEntries r
def uptoBulkEntry {H : Type} : Lit × DataW H → Nat
  | (.string bytes, d) => bytes.length + uptoBulk d + 1
  | (_, d) => uptoBulk d + 1
 end
def uptoSmall : (H : Type) → List (DataW H) → Bool := fun _ ds => decide (uptoBulkAll ds ≤ 1048576)
def OpenSpec.upto (s : _root_.Go.ChangeSpec) : _root_.Go.OpenSpec := { _root_.Go.OpenSpec.ofChange s with cond := some uptoSmall }

/-- 'haruspexlaw26.FitRounds', WHERE WHAT IT READS IS OF BULK AT MOST 1048576: true; the input reads as it did. -/
def fitRoundsUptoRow : OpenClaim := { program := "ytikgmgmphkalkaadoor", sum := "0d7d42a7ef307c4ee872dd9ed5f88181c93e4bae32e31975faa03be90024cce7", func := "haruspex/haruspexlaw26.FitRounds", spec := "fitRounds", unfollowed := true, recurses := true, named := ["haruspex/fit.primes"], apart := false, laid := [("haruspex/fit.primes", laid_haruspex_fit_primes)], narrowed := true }
def FitRoundsUptoSaid : Prop := fitRoundsUptoRow.holds Tryd.pinned (OpenSpec.upto fitRoundsSpec)

/-- 'haruspexlaw26.FitNets', WHERE WHAT IT READS IS OF BULK AT MOST 1048576: true; the input reads as it did. -/
def fitNetsUptoRow : OpenClaim := { program := "ytikgmgmphkalkaadoor", sum := "0d7d42a7ef307c4ee872dd9ed5f88181c93e4bae32e31975faa03be90024cce7", func := "haruspex/haruspexlaw26.FitNets", spec := "fitNets", unfollowed := true, recurses := true, named := ["haruspex/fit.primes"], apart := false, laid := [("haruspex/fit.primes", laid_haruspex_fit_primes)], narrowed := true }
def FitNetsUptoSaid : Prop := fitNetsUptoRow.holds Tryd.pinned (OpenSpec.upto fitNetsSpec)

/-- 'haruspexlaw26.FitLikelihoods', WHERE WHAT IT READS IS OF BULK AT MOST 1048576: true; the input reads as it did. -/
def fitLikelihoodsUptoRow : OpenClaim := { program := "ytikgmgmphkalkaadoor", sum := "0d7d42a7ef307c4ee872dd9ed5f88181c93e4bae32e31975faa03be90024cce7", func := "haruspex/haruspexlaw26.FitLikelihoods", spec := "fitLikelihoods", unfollowed := true, recurses := true, named := ["haruspex/fit.primes"], apart := false, laid := [("haruspex/fit.primes", laid_haruspex_fit_primes)], narrowed := true }
def FitLikelihoodsUptoSaid : Prop := fitLikelihoodsUptoRow.holds Tryd.pinned (OpenSpec.upto fitLikelihoodsSpec)

/-- 'haruspexlaw26.FitLikely', WHERE WHAT IT READS IS OF BULK AT MOST 1048576: true; the input reads as it did. -/
def fitLikelyUptoRow : OpenClaim := { program := "ytikgmgmphkalkaadoor", sum := "0d7d42a7ef307c4ee872dd9ed5f88181c93e4bae32e31975faa03be90024cce7", func := "haruspex/haruspexlaw26.FitLikely", spec := "fitLikely", unfollowed := true, recurses := true, named := ["haruspex/fit.primes"], apart := false, laid := [("haruspex/fit.primes", laid_haruspex_fit_primes)], narrowed := true }
def FitLikelyUptoSaid : Prop := fitLikelyUptoRow.holds Tryd.pinned (OpenSpec.upto fitLikelySpec)

/-- 'haruspexlaw26.FitNearest', WHERE WHAT IT READS IS OF BULK AT MOST 1048576: true; the input reads as it did. -/
def fitNearestUptoRow : OpenClaim := { program := "ytikgmgmphkalkaadoor", sum := "0d7d42a7ef307c4ee872dd9ed5f88181c93e4bae32e31975faa03be90024cce7", func := "haruspex/haruspexlaw26.FitNearest", spec := "fitNearest", unfollowed := true, recurses := true, named := ["haruspex/fit.primes"], apart := false, laid := [("haruspex/fit.primes", laid_haruspex_fit_primes)], narrowed := true }
def FitNearestUptoSaid : Prop := fitNearestUptoRow.holds Tryd.pinned (OpenSpec.upto fitNearestSpec)

/-- 'haruspexlaw26.FitFair', WHERE WHAT IT READS IS OF BULK AT MOST 1048576: true; the input reads as it did. -/
def fitFairUptoRow : OpenClaim := { program := "ytikgmgmphkalkaadoor", sum := "0d7d42a7ef307c4ee872dd9ed5f88181c93e4bae32e31975faa03be90024cce7", func := "haruspex/haruspexlaw26.FitFair", spec := "fitFair", unfollowed := true, recurses := true, named := ["haruspex/fit.primes"], apart := false, laid := [("haruspex/fit.primes", laid_haruspex_fit_primes)], narrowed := true }
def FitFairUptoSaid : Prop := fitFairUptoRow.holds Tryd.pinned (OpenSpec.upto fitFairSpec)

/-- 'haruspexlaw26.FitKnown', WHERE WHAT IT READS IS OF BULK AT MOST 1048576: true; the input reads as it did. -/
def fitKnownUptoRow : OpenClaim := { program := "ytikgmgmphkalkaadoor", sum := "0d7d42a7ef307c4ee872dd9ed5f88181c93e4bae32e31975faa03be90024cce7", func := "haruspex/haruspexlaw26.FitKnown", spec := "fitKnown", unfollowed := true, recurses := true, named := ["haruspex/fit.primes"], apart := false, laid := [("haruspex/fit.primes", laid_haruspex_fit_primes)], narrowed := true }
def FitKnownUptoSaid : Prop := fitKnownUptoRow.holds Tryd.pinned (OpenSpec.upto fitKnownSpec)

end Rows
end Go.Proofs.YtikgmgmphkalkaaDoor
