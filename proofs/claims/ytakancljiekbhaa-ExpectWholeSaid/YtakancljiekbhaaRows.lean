/-
  No cell of these rows narrows 'for every input' (looked for: loops, veiled, ifaces, maps, wideKeys, modest, calm, conditions, laid).
  DERIVED. THE GIVEN ROWS OF THIS SEAT. 6 by the template 'for every input the law returns true; each argument reads behind the call as it read before'; 0 by the template 'total and deterministic' (their statements: YtakancljiekbhaaTotals.lean).
  GIVEN WITH THE SEED: the statements are not yours to turn. If you find one false, say at which input.
  Laid BY PROGRAM, IN A SANDBOX (cutbox-rows.mjs): the forced cells as the released guide's own fill.sh prints them over the translation f6c3d3ee142d22e4… (all of the seat's roots in one cut). By AI agents, Wed Nov 11 2026. No macro, syntax, notation, axiom, sorry.
-/
import Derived.Test.YtakancljiekbhaaChecked
import GoSem.Claim
import GoSem.ClaimJoined
import GoSem.ClaimMapViews
import Derived.JoinedTies
import Derived.KernelRfl
namespace Go.Proofs.Ytakancljiekbhaa
/- THE CELL 'sum', in the pinned program and in every row, IS THE sha256 OF THE DUMP (.gsa) THAT YtakancljiekbhaaProg.lean LOADS. Nothing in Lean hashes anything: it is a label: what it is worth is what the hold of that sum in a sandbox is worth. -/
noncomputable def Try.pinned : Pinned := { name := "ytakancljiekbhaa", sum := "f6c3d3ee142d22e4f4acb9f6a2e2829f35f46cf06ec32c235272676ce1624675", checked := Try.checked }
namespace Rows
def none {H : Type} : Left H := { results := [], args := [] }

/-- 'haruspexlaw27.ExpectCounts': WHATEVER THE INPUT: true; the input reads as it did. -/
def expectCountsSpec : ChangeSpec := { name := "expectCounts", fn := fun _ => fun
  | [d1, d2] => { results := [.lit (.bool true)], args := [d1, d2] }
  | _ => none }
def expectCountsRow : OpenClaim := { program := "ytakancljiekbhaa", sum := "f6c3d3ee142d22e4f4acb9f6a2e2829f35f46cf06ec32c235272676ce1624675", func := "haruspex/haruspexlaw27.ExpectCounts", spec := "expectCounts", inPlace := ["math/bits.Add64"], unfollowed := true, recurses := true, apart := false }
def ExpectCountsSaid : Prop := expectCountsRow.holds Try.pinned (OpenSpec.ofChange expectCountsSpec)

/-- ITS FALSE NEIGHBOUR: 'it returns false'. Refute it at one input. -/
def expectCountsWrong : ChangeSpec := { name := "expectCounts", fn := fun _ => fun
  | [d1, d2] => { results := [.lit (.bool false)], args := [d1, d2] }
  | _ => none }
def ExpectCountsWrongFalsely : Prop := expectCountsRow.holds Try.pinned (OpenSpec.ofChange expectCountsWrong)

/-- 'haruspexlaw27.ExpectSteps': WHATEVER THE INPUT: true; the input reads as it did. -/
def expectStepsSpec : ChangeSpec := { name := "expectSteps", fn := fun _ => fun
  | [d1, d2, d3] => { results := [.lit (.bool true)], args := [d1, d2, d3] }
  | _ => none }
def expectStepsRow : OpenClaim := { program := "ytakancljiekbhaa", sum := "f6c3d3ee142d22e4f4acb9f6a2e2829f35f46cf06ec32c235272676ce1624675", func := "haruspex/haruspexlaw27.ExpectSteps", spec := "expectSteps", inPlace := ["math/bits.Add64"], unfollowed := true, recurses := true, apart := false }
def ExpectStepsSaid : Prop := expectStepsRow.holds Try.pinned (OpenSpec.ofChange expectStepsSpec)

/-- ITS FALSE NEIGHBOUR: 'it returns false'. Refute it at one input. -/
def expectStepsWrong : ChangeSpec := { name := "expectSteps", fn := fun _ => fun
  | [d1, d2, d3] => { results := [.lit (.bool false)], args := [d1, d2, d3] }
  | _ => none }
def ExpectStepsWrongFalsely : Prop := expectStepsRow.holds Try.pinned (OpenSpec.ofChange expectStepsWrong)

/-- 'haruspexlaw27.ExpectCompares': WHATEVER THE INPUT: true; the input reads as it did. -/
def expectComparesSpec : ChangeSpec := { name := "expectCompares", fn := fun _ => fun
  | [d1, d2] => { results := [.lit (.bool true)], args := [d1, d2] }
  | _ => none }
def expectComparesRow : OpenClaim := { program := "ytakancljiekbhaa", sum := "f6c3d3ee142d22e4f4acb9f6a2e2829f35f46cf06ec32c235272676ce1624675", func := "haruspex/haruspexlaw27.ExpectCompares", spec := "expectCompares", inPlace := ["math/bits.Add64"], unfollowed := true, recurses := true, apart := false }
def ExpectComparesSaid : Prop := expectComparesRow.holds Try.pinned (OpenSpec.ofChange expectComparesSpec)

/-- ITS FALSE NEIGHBOUR: 'it returns false'. Refute it at one input. -/
def expectComparesWrong : ChangeSpec := { name := "expectCompares", fn := fun _ => fun
  | [d1, d2] => { results := [.lit (.bool false)], args := [d1, d2] }
  | _ => none }
def ExpectComparesWrongFalsely : Prop := expectComparesRow.holds Try.pinned (OpenSpec.ofChange expectComparesWrong)

/-- 'haruspexlaw27.ExpectKnown': WHATEVER THE INPUT: true; the input reads as it did. -/
def expectKnownSpec : ChangeSpec := { name := "expectKnown", fn := fun _ => fun
  | [] => { results := [.lit (.bool true)], args := [] }
  | _ => none }
def expectKnownRow : OpenClaim := { program := "ytakancljiekbhaa", sum := "f6c3d3ee142d22e4f4acb9f6a2e2829f35f46cf06ec32c235272676ce1624675", func := "haruspex/haruspexlaw27.ExpectKnown", spec := "expectKnown", inPlace := ["math/bits.Add64"], unfollowed := true, recurses := true, apart := false }
def ExpectKnownSaid : Prop := expectKnownRow.holds Try.pinned (OpenSpec.ofChange expectKnownSpec)

/-- ITS FALSE NEIGHBOUR: 'it returns false'. Refute it at one input. -/
def expectKnownWrong : ChangeSpec := { name := "expectKnown", fn := fun _ => fun
  | [] => { results := [.lit (.bool false)], args := [] }
  | _ => none }
def ExpectKnownWrongFalsely : Prop := expectKnownRow.holds Try.pinned (OpenSpec.ofChange expectKnownWrong)

/-- 'haruspexlaw27.ExpectOrder': WHATEVER THE INPUT: true; the input reads as it did. -/
def expectOrderSpec : ChangeSpec := { name := "expectOrder", fn := fun _ => fun
  | [d] => { results := [.lit (.bool true)], args := [d] }
  | _ => none }
def expectOrderRow : OpenClaim := { program := "ytakancljiekbhaa", sum := "f6c3d3ee142d22e4f4acb9f6a2e2829f35f46cf06ec32c235272676ce1624675", func := "haruspex/haruspexlaw27.ExpectOrder", spec := "expectOrder", inPlace := ["math/bits.Add64"], unfollowed := true, recurses := true, apart := false }
def ExpectOrderSaid : Prop := expectOrderRow.holds Try.pinned (OpenSpec.ofChange expectOrderSpec)

/-- ITS FALSE NEIGHBOUR: 'it returns false'. Refute it at one input. -/
def expectOrderWrong : ChangeSpec := { name := "expectOrder", fn := fun _ => fun
  | [d] => { results := [.lit (.bool false)], args := [d] }
  | _ => none }
def ExpectOrderWrongFalsely : Prop := expectOrderRow.holds Try.pinned (OpenSpec.ofChange expectOrderWrong)

/-- 'haruspexlaw27.ExpectWhole': WHATEVER THE INPUT: true; the input reads as it did. -/
def expectWholeSpec : ChangeSpec := { name := "expectWhole", fn := fun _ => fun
  | [d1, d2] => { results := [.lit (.bool true)], args := [d1, d2] }
  | _ => none }
def expectWholeRow : OpenClaim := { program := "ytakancljiekbhaa", sum := "f6c3d3ee142d22e4f4acb9f6a2e2829f35f46cf06ec32c235272676ce1624675", func := "haruspex/haruspexlaw27.ExpectWhole", spec := "expectWhole", inPlace := ["math/bits.Add64"], unfollowed := true, recurses := true, apart := false }
def ExpectWholeSaid : Prop := expectWholeRow.holds Try.pinned (OpenSpec.ofChange expectWholeSpec)

/-- ITS FALSE NEIGHBOUR: 'it returns false'. Refute it at one input. -/
def expectWholeWrong : ChangeSpec := { name := "expectWhole", fn := fun _ => fun
  | [d1, d2] => { results := [.lit (.bool false)], args := [d1, d2] }
  | _ => none }
def ExpectWholeWrongFalsely : Prop := expectWholeRow.holds Try.pinned (OpenSpec.ofChange expectWholeWrong)

/- THE SECOND FORM. 'bulk': how many values and letters a reading holds, each counted each time it is reached (what is shared counts as often as it is met; a slice's spare places count too). A statement '..UptoSaid' is the law's where the arguments, and the package variables that the reading takes, are together of bulk at most 1048576: NARROWER than '..Said'. Prove '..Said' where nothing that the law and all that it calls make is longer than what came in: it says more and counts as full. Else prove '..UptoSaid'. A law counts once. -/
mutual
def uptoBulk {H : Type} : DataW H → Nat
  | .lit (.string bytes) => bytes.length + 1
  | .lit _ => 1
  | .nil => 1
  | .ptr d => uptoBulk d + 1
  | .slice elems spare => uptoBulkAll elems + uptoBulkAll spare + 1
  | .agg parts => uptoBulkAll parts + 1
  | .iface _ d => uptoBulk d + 1
  | .map entries => uptoBulkEntries entries + 1
  | .held _ => 1
def uptoBulkAll {H : Type} : List (DataW H) → Nat
  | [] => 0
  | d :: r => uptoBulk d + uptoBulkAll r
def uptoBulkEntries {H : Type} : List (Lit × DataW H) → Nat
  | [] => 0
  | x :: r => uptoBulkEntry x + uptoBulkEntries r
def uptoBulkEntry {H : Type} : Lit × DataW H → Nat
  | (.string bytes, d) => bytes.length + uptoBulk d + 1
  | (_, d) => uptoBulk d + 1
 end
def uptoSmall : (H : Type) → List (DataW H) → Bool := fun _ ds => decide (uptoBulkAll ds ≤ 1048576)
def OpenSpec.upto (s : _root_.Go.ChangeSpec) : _root_.Go.OpenSpec := { _root_.Go.OpenSpec.ofChange s with cond := some uptoSmall }

/-- 'haruspexlaw27.ExpectCounts', WHERE WHAT IT READS IS OF BULK AT MOST 1048576: true; the input reads as it did. -/
def expectCountsUptoRow : OpenClaim := { program := "ytakancljiekbhaa", sum := "f6c3d3ee142d22e4f4acb9f6a2e2829f35f46cf06ec32c235272676ce1624675", func := "haruspex/haruspexlaw27.ExpectCounts", spec := "expectCounts", inPlace := ["math/bits.Add64"], unfollowed := true, recurses := true, apart := false, narrowed := true }
def ExpectCountsUptoSaid : Prop := expectCountsUptoRow.holds Try.pinned (OpenSpec.upto expectCountsSpec)

/-- 'haruspexlaw27.ExpectSteps', WHERE WHAT IT READS IS OF BULK AT MOST 1048576: true; the input reads as it did. -/
def expectStepsUptoRow : OpenClaim := { program := "ytakancljiekbhaa", sum := "f6c3d3ee142d22e4f4acb9f6a2e2829f35f46cf06ec32c235272676ce1624675", func := "haruspex/haruspexlaw27.ExpectSteps", spec := "expectSteps", inPlace := ["math/bits.Add64"], unfollowed := true, recurses := true, apart := false, narrowed := true }
def ExpectStepsUptoSaid : Prop := expectStepsUptoRow.holds Try.pinned (OpenSpec.upto expectStepsSpec)

/-- 'haruspexlaw27.ExpectCompares', WHERE WHAT IT READS IS OF BULK AT MOST 1048576: true; the input reads as it did. -/
def expectComparesUptoRow : OpenClaim := { program := "ytakancljiekbhaa", sum := "f6c3d3ee142d22e4f4acb9f6a2e2829f35f46cf06ec32c235272676ce1624675", func := "haruspex/haruspexlaw27.ExpectCompares", spec := "expectCompares", inPlace := ["math/bits.Add64"], unfollowed := true, recurses := true, apart := false, narrowed := true }
def ExpectComparesUptoSaid : Prop := expectComparesUptoRow.holds Try.pinned (OpenSpec.upto expectComparesSpec)

/-- 'haruspexlaw27.ExpectKnown', WHERE WHAT IT READS IS OF BULK AT MOST 1048576: true; the input reads as it did. -/
def expectKnownUptoRow : OpenClaim := { program := "ytakancljiekbhaa", sum := "f6c3d3ee142d22e4f4acb9f6a2e2829f35f46cf06ec32c235272676ce1624675", func := "haruspex/haruspexlaw27.ExpectKnown", spec := "expectKnown", inPlace := ["math/bits.Add64"], unfollowed := true, recurses := true, apart := false, narrowed := true }
def ExpectKnownUptoSaid : Prop := expectKnownUptoRow.holds Try.pinned (OpenSpec.upto expectKnownSpec)

/-- 'haruspexlaw27.ExpectOrder', WHERE WHAT IT READS IS OF BULK AT MOST 1048576: true; the input reads as it did. -/
def expectOrderUptoRow : OpenClaim := { program := "ytakancljiekbhaa", sum := "f6c3d3ee142d22e4f4acb9f6a2e2829f35f46cf06ec32c235272676ce1624675", func := "haruspex/haruspexlaw27.ExpectOrder", spec := "expectOrder", inPlace := ["math/bits.Add64"], unfollowed := true, recurses := true, apart := false, narrowed := true }
def ExpectOrderUptoSaid : Prop := expectOrderUptoRow.holds Try.pinned (OpenSpec.upto expectOrderSpec)

/-- 'haruspexlaw27.ExpectWhole', WHERE WHAT IT READS IS OF BULK AT MOST 1048576: true; the input reads as it did. -/
def expectWholeUptoRow : OpenClaim := { program := "ytakancljiekbhaa", sum := "f6c3d3ee142d22e4f4acb9f6a2e2829f35f46cf06ec32c235272676ce1624675", func := "haruspex/haruspexlaw27.ExpectWhole", spec := "expectWhole", inPlace := ["math/bits.Add64"], unfollowed := true, recurses := true, apart := false, narrowed := true }
def ExpectWholeUptoSaid : Prop := expectWholeUptoRow.holds Try.pinned (OpenSpec.upto expectWholeSpec)

end Rows
end Go.Proofs.Ytakancljiekbhaa
