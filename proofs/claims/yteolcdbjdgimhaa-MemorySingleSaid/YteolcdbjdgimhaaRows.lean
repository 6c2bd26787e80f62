/-
  No cell of these rows narrows 'for every input' (looked for: loops, veiled, ifaces, maps, wideKeys, modest, calm, conditions, laid).
  DERIVED. THE GIVEN ROWS OF THIS SEAT. 3 by the template 'for every input the law returns true; each argument reads behind the call as it read before'; 0 by the template 'total and deterministic' (their statements: YteolcdbjdgimhaaTotals.lean).
  GIVEN WITH THE SEED: the statements are not yours to turn. If you find one false, say at which input.
  Laid BY PROGRAM, IN A SANDBOX (cutbox-rows.mjs): the forced cells as the released guide's own fill.sh prints them over the translation 61f25679535e34fb… (all of the seat's roots in one cut). By AI agents, Wed Nov 11 2026. No macro, syntax, notation, axiom, sorry.
-/
import Derived.Test.YteolcdbjdgimhaaChecked
import GoSem.Claim
import GoSem.ClaimJoined
import GoSem.ClaimMapViews
import Derived.JoinedTies
import Derived.KernelRfl
namespace Go.Proofs.Yteolcdbjdgimhaa
/- THE CELL 'sum', in the pinned program and in every row, IS THE sha256 OF THE DUMP (.gsa) THAT YteolcdbjdgimhaaProg.lean LOADS. Nothing in Lean hashes anything: it is a label: what it is worth is what the hold of that sum in a sandbox is worth. -/
noncomputable def Try.pinned : Pinned := { name := "yteolcdbjdgimhaa", sum := "61f25679535e34fb6988cbc47dc12f0b934805c5734f1ef38893fc432a7e9165", checked := Try.checked }
namespace Rows
def none {H : Type} : Left H := { results := [], args := [] }

/-- 'haruspexlaw22.MemoryEnds': WHATEVER THE INPUT: true; the input reads as it did. -/
def memoryEndsSpec : ChangeSpec := { name := "memoryEnds", fn := fun _ => fun
  | [d1, d2] => { results := [.lit (.bool true)], args := [d1, d2] }
  | _ => none }
def memoryEndsRow : OpenClaim := { program := "yteolcdbjdgimhaa", sum := "61f25679535e34fb6988cbc47dc12f0b934805c5734f1ef38893fc432a7e9165", func := "haruspex/haruspexlaw22.MemoryEnds", spec := "memoryEnds", unfollowed := true, recurses := true, apart := false }
def MemoryEndsSaid : Prop := memoryEndsRow.holds Try.pinned (OpenSpec.ofChange memoryEndsSpec)

/-- ITS FALSE NEIGHBOUR: 'it returns false'. Refute it at one input. -/
def memoryEndsWrong : ChangeSpec := { name := "memoryEnds", fn := fun _ => fun
  | [d1, d2] => { results := [.lit (.bool false)], args := [d1, d2] }
  | _ => none }
def MemoryEndsWrongFalsely : Prop := memoryEndsRow.holds Try.pinned (OpenSpec.ofChange memoryEndsWrong)

/-- 'haruspexlaw22.MemorySingle': WHATEVER THE INPUT: true; the input reads as it did. -/
def memorySingleSpec : ChangeSpec := { name := "memorySingle", fn := fun _ => fun
  | [d1, d2, d3] => { results := [.lit (.bool true)], args := [d1, d2, d3] }
  | _ => none }
def memorySingleRow : OpenClaim := { program := "yteolcdbjdgimhaa", sum := "61f25679535e34fb6988cbc47dc12f0b934805c5734f1ef38893fc432a7e9165", func := "haruspex/haruspexlaw22.MemorySingle", spec := "memorySingle", unfollowed := true, recurses := true, apart := false }
def MemorySingleSaid : Prop := memorySingleRow.holds Try.pinned (OpenSpec.ofChange memorySingleSpec)

/-- ITS FALSE NEIGHBOUR: 'it returns false'. Refute it at one input. -/
def memorySingleWrong : ChangeSpec := { name := "memorySingle", fn := fun _ => fun
  | [d1, d2, d3] => { results := [.lit (.bool false)], args := [d1, d2, d3] }
  | _ => none }
def MemorySingleWrongFalsely : Prop := memorySingleRow.holds Try.pinned (OpenSpec.ofChange memorySingleWrong)

/-- 'haruspexlaw22.MemoryKnown': WHATEVER THE INPUT: true; the input reads as it did. -/
def memoryKnownSpec : ChangeSpec := { name := "memoryKnown", fn := fun _ => fun
  | [] => { results := [.lit (.bool true)], args := [] }
  | _ => none }
def memoryKnownRow : OpenClaim := { program := "yteolcdbjdgimhaa", sum := "61f25679535e34fb6988cbc47dc12f0b934805c5734f1ef38893fc432a7e9165", func := "haruspex/haruspexlaw22.MemoryKnown", spec := "memoryKnown", unfollowed := true, recurses := true, apart := false }
def MemoryKnownSaid : Prop := memoryKnownRow.holds Try.pinned (OpenSpec.ofChange memoryKnownSpec)

/-- ITS FALSE NEIGHBOUR: 'it returns false'. Refute it at one input. -/
def memoryKnownWrong : ChangeSpec := { name := "memoryKnown", fn := fun _ => fun
  | [] => { results := [.lit (.bool false)], args := [] }
  | _ => none }
def MemoryKnownWrongFalsely : Prop := memoryKnownRow.holds Try.pinned (OpenSpec.ofChange memoryKnownWrong)

/- THE SECOND FORM. 'bulk': how many values and letters a reading holds, each counted each time it is reached (what is shared counts as often as it is met; a slice's spare places count too). A statement '..UptoSaid' is the law's where the arguments, and the package variables that the reading takes, are together of bulk at most 1048576: NARROWER than '..Said'. Prove '..Said' where nothing that the law and all that it calls make is longer than what came in: it says more and counts as full. Else prove '..UptoSaid'. A law counts once. -/
mutual
def uptoBulk {H : Type} : DataW H → Nat
  | .lit (.string bytes) => bytes.length + 1
  | .lit _ => 1
  | .nil => 1
  | .ptr d => uptoBulk d + 1
  | .slice elems spare => uptoBulkAll elems + uptoBulkAll spare + 1
  | .agg parts => uptoBulkAll parts + 1
  | .iface _ d => uptoBulk d + 1
  | .map entries => uptoBulkEntries entries + 1
  | .held _ => 1
def uptoBulkAll {H : Type} : List (DataW H) → Nat
  | [] => 0
  | d :: r => uptoBulk d + uptoBulkAll r
def uptoBulkEntries {H : Type} : List (Lit × DataW H) → Nat
  | [] => 0
  | x :: r => uptoBulkEntry x + uptoBulkEntries r
def uptoBulkEntry {H : Type} : Lit × DataW H → Nat
  | (.string bytes, d) => bytes.length + uptoBulk d + 1
  | (_, d) => uptoBulk d + 1
 end
def uptoSmall : (H : Type) → List (DataW H) → Bool := fun _ ds => decide (uptoBulkAll ds ≤ 1048576)
def OpenSpec.upto (s : _root_.Go.ChangeSpec) : _root_.Go.OpenSpec := { _root_.Go.OpenSpec.ofChange s with cond := some uptoSmall }

/-- 'haruspexlaw22.MemoryEnds', WHERE WHAT IT READS IS OF BULK AT MOST 1048576: true; the input reads as it did. -/
def memoryEndsUptoRow : OpenClaim := { program := "yteolcdbjdgimhaa", sum := "61f25679535e34fb6988cbc47dc12f0b934805c5734f1ef38893fc432a7e9165", func := "haruspex/haruspexlaw22.MemoryEnds", spec := "memoryEnds", unfollowed := true, recurses := true, apart := false, narrowed := true }
def MemoryEndsUptoSaid : Prop := memoryEndsUptoRow.holds Try.pinned (OpenSpec.upto memoryEndsSpec)

/-- 'haruspexlaw22.MemorySingle', WHERE WHAT IT READS IS OF BULK AT MOST 1048576: true; the input reads as it did. -/
def memorySingleUptoRow : OpenClaim := { program := "yteolcdbjdgimhaa", sum := "61f25679535e34fb6988cbc47dc12f0b934805c5734f1ef38893fc432a7e9165", func := "haruspex/haruspexlaw22.MemorySingle", spec := "memorySingle", unfollowed := true, recurses := true, apart := false, narrowed := true }
def MemorySingleUptoSaid : Prop := memorySingleUptoRow.holds Try.pinned (OpenSpec.upto memorySingleSpec)

/-- 'haruspexlaw22.MemoryKnown', WHERE WHAT IT READS IS OF BULK AT MOST 1048576: true; the input reads as it did. -/
def memoryKnownUptoRow : OpenClaim := { program := "yteolcdbjdgimhaa", sum := "61f25679535e34fb6988cbc47dc12f0b934805c5734f1ef38893fc432a7e9165", func := "haruspex/haruspexlaw22.MemoryKnown", spec := "memoryKnown", unfollowed := true, recurses := true, apart := false, narrowed := true }
def MemoryKnownUptoSaid : Prop := memoryKnownUptoRow.holds Try.pinned (OpenSpec.upto memoryKnownSpec)

end Rows
end Go.Proofs.Yteolcdbjdgimhaa
