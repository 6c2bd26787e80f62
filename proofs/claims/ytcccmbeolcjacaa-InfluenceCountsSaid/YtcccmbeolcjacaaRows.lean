/-
  No cell of these rows narrows 'for every input' (looked for: loops, veiled, ifaces, maps, wideKeys, modest, calm, conditions, laid).
  DERIVED. THE GIVEN ROWS OF THIS SEAT. 6 by the template 'for every input the law returns true; each argument reads behind the call as it read before'; 0 by the template 'total and deterministic' (their statements: YtcccmbeolcjacaaTotals.lean).
  GIVEN WITH THE SEED: the statements are not yours to turn. If you find one false, say at which input.
  Laid BY PROGRAM, IN A SANDBOX (cutbox-rows.mjs): the forced cells as the released guide's own fill.sh prints them over the translation 8c80250d451e30a3… (all of the seat's roots in one cut). By AI agents, Wed Nov 11 2026. No macro, syntax, notation, axiom, sorry.
-/
import Derived.Test.YtcccmbeolcjacaaChecked
import GoSem.Claim
import GoSem.ClaimJoined
import GoSem.ClaimMapViews
import Derived.JoinedTies
import Derived.KernelRfl
namespace Go.Proofs.Ytcccmbeolcjacaa
/- THE CELL 'sum', in the pinned program and in every row, IS THE sha256 OF THE DUMP (.gsa) THAT YtcccmbeolcjacaaProg.lean LOADS. Nothing in Lean hashes anything: it is a label: what it is worth is what the hold of that sum in a sandbox is worth. -/
noncomputable def Try.pinned : Pinned := { name := "ytcccmbeolcjacaa", sum := "8c80250d451e30a37b8a9df7c7eee14df3a701ee40401906ca702a78d6768439", checked := Try.checked }
namespace Rows
def none {H : Type} : Left H := { results := [], args := [] }

/-- 'haruspexlaw20.InfluenceCounts': WHATEVER THE INPUT: true; the input reads as it did. -/
def influenceCountsSpec : ChangeSpec := { name := "influenceCounts", fn := fun _ => fun
  | [d1, d2, d3, d4] => { results := [.lit (.bool true)], args := [d1, d2, d3, d4] }
  | _ => none }
def influenceCountsRow : OpenClaim := { program := "ytcccmbeolcjacaa", sum := "8c80250d451e30a37b8a9df7c7eee14df3a701ee40401906ca702a78d6768439", func := "haruspex/haruspexlaw20.InfluenceCounts", spec := "influenceCounts", unfollowed := true, recurses := true, apart := false }
def InfluenceCountsSaid : Prop := influenceCountsRow.holds Try.pinned (OpenSpec.ofChange influenceCountsSpec)

/-- ITS FALSE NEIGHBOUR: 'it returns false'. Refute it at one input. -/
def influenceCountsWrong : ChangeSpec := { name := "influenceCounts", fn := fun _ => fun
  | [d1, d2, d3, d4] => { results := [.lit (.bool false)], args := [d1, d2, d3, d4] }
  | _ => none }
def InfluenceCountsWrongFalsely : Prop := influenceCountsRow.holds Try.pinned (OpenSpec.ofChange influenceCountsWrong)

/-- 'haruspexlaw20.InfluenceValues': WHATEVER THE INPUT: true; the input reads as it did. -/
def influenceValuesSpec : ChangeSpec := { name := "influenceValues", fn := fun _ => fun
  | [d1, d2, d3, d4, d5, d6] => { results := [.lit (.bool true)], args := [d1, d2, d3, d4, d5, d6] }
  | _ => none }
def influenceValuesRow : OpenClaim := { program := "ytcccmbeolcjacaa", sum := "8c80250d451e30a37b8a9df7c7eee14df3a701ee40401906ca702a78d6768439", func := "haruspex/haruspexlaw20.InfluenceValues", spec := "influenceValues", unfollowed := true, recurses := true, apart := false }
def InfluenceValuesSaid : Prop := influenceValuesRow.holds Try.pinned (OpenSpec.ofChange influenceValuesSpec)

/-- ITS FALSE NEIGHBOUR: 'it returns false'. Refute it at one input. -/
def influenceValuesWrong : ChangeSpec := { name := "influenceValues", fn := fun _ => fun
  | [d1, d2, d3, d4, d5, d6] => { results := [.lit (.bool false)], args := [d1, d2, d3, d4, d5, d6] }
  | _ => none }
def InfluenceValuesWrongFalsely : Prop := influenceValuesRow.holds Try.pinned (OpenSpec.ofChange influenceValuesWrong)

/-- 'haruspexlaw20.InfluenceOrders': WHATEVER THE INPUT: true; the input reads as it did. -/
def influenceOrdersSpec : ChangeSpec := { name := "influenceOrders", fn := fun _ => fun
  | [d1, d2] => { results := [.lit (.bool true)], args := [d1, d2] }
  | _ => none }
def influenceOrdersRow : OpenClaim := { program := "ytcccmbeolcjacaa", sum := "8c80250d451e30a37b8a9df7c7eee14df3a701ee40401906ca702a78d6768439", func := "haruspex/haruspexlaw20.InfluenceOrders", spec := "influenceOrders", unfollowed := true, recurses := true, apart := false }
def InfluenceOrdersSaid : Prop := influenceOrdersRow.holds Try.pinned (OpenSpec.ofChange influenceOrdersSpec)

/-- ITS FALSE NEIGHBOUR: 'it returns false'. Refute it at one input. -/
def influenceOrdersWrong : ChangeSpec := { name := "influenceOrders", fn := fun _ => fun
  | [d1, d2] => { results := [.lit (.bool false)], args := [d1, d2] }
  | _ => none }
def InfluenceOrdersWrongFalsely : Prop := influenceOrdersRow.holds Try.pinned (OpenSpec.ofChange influenceOrdersWrong)

/-- 'haruspexlaw20.InfluenceKnown': WHATEVER THE INPUT: true; the input reads as it did. -/
def influenceKnownSpec : ChangeSpec := { name := "influenceKnown", fn := fun _ => fun
  | [] => { results := [.lit (.bool true)], args := [] }
  | _ => none }
def influenceKnownRow : OpenClaim := { program := "ytcccmbeolcjacaa", sum := "8c80250d451e30a37b8a9df7c7eee14df3a701ee40401906ca702a78d6768439", func := "haruspex/haruspexlaw20.InfluenceKnown", spec := "influenceKnown", unfollowed := true, recurses := true, apart := false }
def InfluenceKnownSaid : Prop := influenceKnownRow.holds Try.pinned (OpenSpec.ofChange influenceKnownSpec)

/-- ITS FALSE NEIGHBOUR: 'it returns false'. Refute it at one input. -/
def influenceKnownWrong : ChangeSpec := { name := "influenceKnown", fn := fun _ => fun
  | [] => { results := [.lit (.bool false)], args := [] }
  | _ => none }
def InfluenceKnownWrongFalsely : Prop := influenceKnownRow.holds Try.pinned (OpenSpec.ofChange influenceKnownWrong)

/-- 'haruspexlaw20.InfluenceMeans': WHATEVER THE INPUT: true; the input reads as it did. -/
def influenceMeansSpec : ChangeSpec := { name := "influenceMeans", fn := fun _ => fun
  | [d1, d2] => { results := [.lit (.bool true)], args := [d1, d2] }
  | _ => none }
def influenceMeansRow : OpenClaim := { program := "ytcccmbeolcjacaa", sum := "8c80250d451e30a37b8a9df7c7eee14df3a701ee40401906ca702a78d6768439", func := "haruspex/haruspexlaw20.InfluenceMeans", spec := "influenceMeans", unfollowed := true, recurses := true, apart := false }
def InfluenceMeansSaid : Prop := influenceMeansRow.holds Try.pinned (OpenSpec.ofChange influenceMeansSpec)

/-- ITS FALSE NEIGHBOUR: 'it returns false'. Refute it at one input. -/
def influenceMeansWrong : ChangeSpec := { name := "influenceMeans", fn := fun _ => fun
  | [d1, d2] => { results := [.lit (.bool false)], args := [d1, d2] }
  | _ => none }
def InfluenceMeansWrongFalsely : Prop := influenceMeansRow.holds Try.pinned (OpenSpec.ofChange influenceMeansWrong)

/-- 'haruspexlaw20.InfluenceNumbers': WHATEVER THE INPUT: true; the input reads as it did. -/
def influenceNumbersSpec : ChangeSpec := { name := "influenceNumbers", fn := fun _ => fun
  | [d1, d2] => { results := [.lit (.bool true)], args := [d1, d2] }
  | _ => none }
def influenceNumbersRow : OpenClaim := { program := "ytcccmbeolcjacaa", sum := "8c80250d451e30a37b8a9df7c7eee14df3a701ee40401906ca702a78d6768439", func := "haruspex/haruspexlaw20.InfluenceNumbers", spec := "influenceNumbers", unfollowed := true, recurses := true, apart := false }
def InfluenceNumbersSaid : Prop := influenceNumbersRow.holds Try.pinned (OpenSpec.ofChange influenceNumbersSpec)

/-- ITS FALSE NEIGHBOUR: 'it returns false'. Refute it at one input. -/
def influenceNumbersWrong : ChangeSpec := { name := "influenceNumbers", fn := fun _ => fun
  | [d1, d2] => { results := [.lit (.bool false)], args := [d1, d2] }
  | _ => none }
def InfluenceNumbersWrongFalsely : Prop := influenceNumbersRow.holds Try.pinned (OpenSpec.ofChange influenceNumbersWrong)

/- THE SECOND FORM. 'bulk': how many values and letters a reading holds, each counted each time it is reached (what is shared counts as often as it is met; a slice's spare places count too). A statement '..UptoSaid' is the law's where the arguments, and the package variables that the reading takes, are together of bulk at most 1048576: NARROWER than '..Said'. Prove '..Said' where nothing that the law and all that it calls make is longer than what came in: it says more and counts as full. Else prove '..UptoSaid'. A law counts once. -/
mutual
def uptoBulk {H : Type} : DataW H → Nat
  | .lit (.string bytes) => bytes.length + 1
  | .lit _ => 1
  | .nil => 1
  | .ptr d => uptoBulk d + 1
  | .slice elems spare => uptoBulkAll elems + uptoBulkAll spare + 1
  | .agg parts => uptoBulkAll parts + 1
  | .iface _ d => uptoBulk d + 1
  | .map entries => uptoBulkEntries entries + 1
  | .held _ => 1
def uptoBulkAll {H : Type} : List (DataW H) → Nat
  | [] => 0
  | d :: r => uptoBulk d + uptoBulkAll r
def uptoBulkEntries {H : Type} : List (Lit × DataW H) → Nat
  | [] => 0
  | x :: r => uptoBulkEntry x + uptoBulkEntries r
def uptoBulkEntry {H : Type} : Lit × DataW H → Nat
  | (.string bytes, d) => bytes.length + uptoBulk d + 1
  | (_, d) => uptoBulk d + 1
 end
def uptoSmall : (H : Type) → List (DataW H) → Bool := fun _ ds => decide (uptoBulkAll ds ≤ 1048576)
def OpenSpec.upto (s : _root_.Go.ChangeSpec) : _root_.Go.OpenSpec := { _root_.Go.OpenSpec.ofChange s with cond := some uptoSmall }

/-- 'haruspexlaw20.InfluenceCounts', WHERE WHAT IT READS IS OF BULK AT MOST 1048576: true; the input reads as it did. -/
def influenceCountsUptoRow : OpenClaim := { program := "ytcccmbeolcjacaa", sum := "8c80250d451e30a37b8a9df7c7eee14df3a701ee40401906ca702a78d6768439", func := "haruspex/haruspexlaw20.InfluenceCounts", spec := "influenceCounts", unfollowed := true, recurses := true, apart := false, narrowed := true }
def InfluenceCountsUptoSaid : Prop := influenceCountsUptoRow.holds Try.pinned (OpenSpec.upto influenceCountsSpec)

/-- 'haruspexlaw20.InfluenceValues', WHERE WHAT IT READS IS OF BULK AT MOST 1048576: true; the input reads as it did. -/
def influenceValuesUptoRow : OpenClaim := { program := "ytcccmbeolcjacaa", sum := "8c80250d451e30a37b8a9df7c7eee14df3a701ee40401906ca702a78d6768439", func := "haruspex/haruspexlaw20.InfluenceValues", spec := "influenceValues", unfollowed := true, recurses := true, apart := false, narrowed := true }
def InfluenceValuesUptoSaid : Prop := influenceValuesUptoRow.holds Try.pinned (OpenSpec.upto influenceValuesSpec)

/-- 'haruspexlaw20.InfluenceOrders', WHERE WHAT IT READS IS OF BULK AT MOST 1048576: true; the input reads as it did. -/
def influenceOrdersUptoRow : OpenClaim := { program := "ytcccmbeolcjacaa", sum := "8c80250d451e30a37b8a9df7c7eee14df3a701ee40401906ca702a78d6768439", func := "haruspex/haruspexlaw20.InfluenceOrders", spec := "influenceOrders", unfollowed := true, recurses := true, apart := false, narrowed := true }
def InfluenceOrdersUptoSaid : Prop := influenceOrdersUptoRow.holds Try.pinned (OpenSpec.upto influenceOrdersSpec)

/-- 'haruspexlaw20.InfluenceKnown', WHERE WHAT IT READS IS OF BULK AT MOST 1048576: true; the input reads as it did. -/
def influenceKnownUptoRow : OpenClaim := { program := "ytcccmbeolcjacaa", sum := "8c80250d451e30a37b8a9df7c7eee14df3a701ee40401906ca702a78d6768439", func := "haruspex/haruspexlaw20.InfluenceKnown", spec := "influenceKnown", unfollowed := true, recurses := true, apart := false, narrowed := true }
def InfluenceKnownUptoSaid : Prop := influenceKnownUptoRow.holds Try.pinned (OpenSpec.upto influenceKnownSpec)

/-- 'haruspexlaw20.InfluenceMeans', WHERE WHAT IT READS IS OF BULK AT MOST 1048576: true; the input reads as it did. -/
def influenceMeansUptoRow : OpenClaim := { program := "ytcccmbeolcjacaa", sum := "8c80250d451e30a37b8a9df7c7eee14df3a701ee40401906ca702a78d6768439", func := "haruspex/haruspexlaw20.InfluenceMeans", spec := "influenceMeans", unfollowed := true, recurses := true, apart := false, narrowed := true }
def InfluenceMeansUptoSaid : Prop := influenceMeansUptoRow.holds Try.pinned (OpenSpec.upto influenceMeansSpec)

/-- 'haruspexlaw20.InfluenceNumbers', WHERE WHAT IT READS IS OF BULK AT MOST 1048576: true; the input reads as it did. -/
def influenceNumbersUptoRow : OpenClaim := { program := "ytcccmbeolcjacaa", sum := "8c80250d451e30a37b8a9df7c7eee14df3a701ee40401906ca702a78d6768439", func := "haruspex/haruspexlaw20.InfluenceNumbers", spec := "influenceNumbers", unfollowed := true, recurses := true, apart := false, narrowed := true }
def InfluenceNumbersUptoSaid : Prop := influenceNumbersUptoRow.holds Try.pinned (OpenSpec.upto influenceNumbersSpec)

end Rows
end Go.Proofs.Ytcccmbeolcjacaa
