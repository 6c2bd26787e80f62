/-
  No cell of these rows narrows 'for every input' (looked for: loops, veiled, ifaces, maps, wideKeys, modest, calm, conditions, laid).
  DERIVED. THE GIVEN ROWS OF THIS SEAT. 7 by the template 'for every input the law returns true; each argument reads behind the call as it read before'; 0 by the template 'total and deterministic' (their statements: YtebhdkihcdmmjaaGreatTotals.lean).
  GIVEN WITH THE SEED: the statements are not yours to turn. If you find one false, say at which input.
  Laid BY PROGRAM, IN A SANDBOX (cutbox-rows.mjs): the forced cells as the released guide's own fill.sh prints them over the translation 923e4407762a7719… (all of the seat's roots in one cut). By AI agents, Wed Nov 11 2026. No macro, syntax, notation, axiom, sorry.
-/
import Derived.Test.YtebhdkihcdmmjaaGreatChecked
import GoSem.Claim
import GoSem.ClaimJoined
import GoSem.ClaimMapViews
import Derived.JoinedTies
import Derived.KernelRfl
namespace Go.Proofs.YtebhdkihcdmmjaaGreat
/- THE CELL 'sum', in the pinned program and in every row, IS THE sha256 OF THE DUMP (.gsa) THAT YtebhdkihcdmmjaaGreatProg.lean LOADS. Nothing in Lean hashes anything: it is a label: what it is worth is what the hold of that sum in a sandbox is worth. -/
noncomputable def Tryz.pinned : Pinned := { name := "ytebhdkihcdmmjaagreat", sum := "923e4407762a7719f2bd8086b1e0adce813952290eb23cc2c1c56cb9baf6b0b0", checked := Tryz.checked }
namespace Rows
def none {H : Type} : Left H := { results := [], args := [] }

/-- 'haruspexlaw23.WorthOpens': WHATEVER THE INPUT: true; the input reads as it did. -/
def worthOpensSpec : ChangeSpec := { name := "worthOpens", fn := fun _ => fun
  | [d1, d2, d3, d4, d5] => { results := [.lit (.bool true)], args := [d1, d2, d3, d4, d5] }
  | _ => none }
def worthOpensRow : OpenClaim := { program := "ytebhdkihcdmmjaagreat", sum := "923e4407762a7719f2bd8086b1e0adce813952290eb23cc2c1c56cb9baf6b0b0", func := "haruspex/haruspexlaw23.WorthOpens", spec := "worthOpens", inPlace := ["math/bits.Add64", "math/bits.Sub64"], unfollowed := true, recurses := true, named := ["math/bits.divideError", "math/bits.overflowError"], apart := false }
def WorthOpensSaid : Prop := worthOpensRow.holds Tryz.pinned (OpenSpec.ofChange worthOpensSpec)

/-- ITS FALSE NEIGHBOUR: 'it returns false'. Refute it at one input. -/
def worthOpensWrong : ChangeSpec := { name := "worthOpens", fn := fun _ => fun
  | [d1, d2, d3, d4, d5] => { results := [.lit (.bool false)], args := [d1, d2, d3, d4, d5] }
  | _ => none }
def WorthOpensWrongFalsely : Prop := worthOpensRow.holds Tryz.pinned (OpenSpec.ofChange worthOpensWrong)

/-- 'haruspexlaw23.WorthValues': WHATEVER THE INPUT: true; the input reads as it did. -/
def worthValuesSpec : ChangeSpec := { name := "worthValues", fn := fun _ => fun
  | [d1, d2, d3, d4, d5] => { results := [.lit (.bool true)], args := [d1, d2, d3, d4, d5] }
  | _ => none }
def worthValuesRow : OpenClaim := { program := "ytebhdkihcdmmjaagreat", sum := "923e4407762a7719f2bd8086b1e0adce813952290eb23cc2c1c56cb9baf6b0b0", func := "haruspex/haruspexlaw23.WorthValues", spec := "worthValues", inPlace := ["math/bits.Add64", "math/bits.Sub64"], unfollowed := true, recurses := true, named := ["math/bits.divideError", "math/bits.overflowError"], apart := false }
def WorthValuesSaid : Prop := worthValuesRow.holds Tryz.pinned (OpenSpec.ofChange worthValuesSpec)

/-- ITS FALSE NEIGHBOUR: 'it returns false'. Refute it at one input. -/
def worthValuesWrong : ChangeSpec := { name := "worthValues", fn := fun _ => fun
  | [d1, d2, d3, d4, d5] => { results := [.lit (.bool false)], args := [d1, d2, d3, d4, d5] }
  | _ => none }
def WorthValuesWrongFalsely : Prop := worthValuesRow.holds Tryz.pinned (OpenSpec.ofChange worthValuesWrong)

/-- 'haruspexlaw23.WorthLeasts': WHATEVER THE INPUT: true; the input reads as it did. -/
def worthLeastsSpec : ChangeSpec := { name := "worthLeasts", fn := fun _ => fun
  | [d1, d2, d3, d4, d5, d6] => { results := [.lit (.bool true)], args := [d1, d2, d3, d4, d5, d6] }
  | _ => none }
def worthLeastsRow : OpenClaim := { program := "ytebhdkihcdmmjaagreat", sum := "923e4407762a7719f2bd8086b1e0adce813952290eb23cc2c1c56cb9baf6b0b0", func := "haruspex/haruspexlaw23.WorthLeasts", spec := "worthLeasts", inPlace := ["math/bits.Add64", "math/bits.Sub64"], unfollowed := true, recurses := true, named := ["math/bits.divideError", "math/bits.overflowError"], apart := false }
def WorthLeastsSaid : Prop := worthLeastsRow.holds Tryz.pinned (OpenSpec.ofChange worthLeastsSpec)

/-- ITS FALSE NEIGHBOUR: 'it returns false'. Refute it at one input. -/
def worthLeastsWrong : ChangeSpec := { name := "worthLeasts", fn := fun _ => fun
  | [d1, d2, d3, d4, d5, d6] => { results := [.lit (.bool false)], args := [d1, d2, d3, d4, d5, d6] }
  | _ => none }
def WorthLeastsWrongFalsely : Prop := worthLeastsRow.holds Tryz.pinned (OpenSpec.ofChange worthLeastsWrong)

/-- 'haruspexlaw23.WorthGrows': WHATEVER THE INPUT: true; the input reads as it did. -/
def worthGrowsSpec : ChangeSpec := { name := "worthGrows", fn := fun _ => fun
  | [d1, d2, d3, d4] => { results := [.lit (.bool true)], args := [d1, d2, d3, d4] }
  | _ => none }
def worthGrowsRow : OpenClaim := { program := "ytebhdkihcdmmjaagreat", sum := "923e4407762a7719f2bd8086b1e0adce813952290eb23cc2c1c56cb9baf6b0b0", func := "haruspex/haruspexlaw23.WorthGrows", spec := "worthGrows", inPlace := ["math/bits.Add64", "math/bits.Sub64"], unfollowed := true, recurses := true, named := ["math/bits.divideError", "math/bits.overflowError"], apart := false }
def WorthGrowsSaid : Prop := worthGrowsRow.holds Tryz.pinned (OpenSpec.ofChange worthGrowsSpec)

/-- ITS FALSE NEIGHBOUR: 'it returns false'. Refute it at one input. -/
def worthGrowsWrong : ChangeSpec := { name := "worthGrows", fn := fun _ => fun
  | [d1, d2, d3, d4] => { results := [.lit (.bool false)], args := [d1, d2, d3, d4] }
  | _ => none }
def WorthGrowsWrongFalsely : Prop := worthGrowsRow.holds Tryz.pinned (OpenSpec.ofChange worthGrowsWrong)

/-- 'haruspexlaw23.WorthMeans': WHATEVER THE INPUT: true; the input reads as it did. -/
def worthMeansSpec : ChangeSpec := { name := "worthMeans", fn := fun _ => fun
  | [d1, d2, d3] => { results := [.lit (.bool true)], args := [d1, d2, d3] }
  | _ => none }
def worthMeansRow : OpenClaim := { program := "ytebhdkihcdmmjaagreat", sum := "923e4407762a7719f2bd8086b1e0adce813952290eb23cc2c1c56cb9baf6b0b0", func := "haruspex/haruspexlaw23.WorthMeans", spec := "worthMeans", inPlace := ["math/bits.Add64", "math/bits.Sub64"], unfollowed := true, recurses := true, named := ["math/bits.divideError", "math/bits.overflowError"], apart := false }
def WorthMeansSaid : Prop := worthMeansRow.holds Tryz.pinned (OpenSpec.ofChange worthMeansSpec)

/-- ITS FALSE NEIGHBOUR: 'it returns false'. Refute it at one input. -/
def worthMeansWrong : ChangeSpec := { name := "worthMeans", fn := fun _ => fun
  | [d1, d2, d3] => { results := [.lit (.bool false)], args := [d1, d2, d3] }
  | _ => none }
def WorthMeansWrongFalsely : Prop := worthMeansRow.holds Tryz.pinned (OpenSpec.ofChange worthMeansWrong)

/-- 'haruspexlaw23.WorthSmall': WHATEVER THE INPUT: true; the input reads as it did. -/
def worthSmallSpec : ChangeSpec := { name := "worthSmall", fn := fun _ => fun
  | [d1, d2, d3, d4] => { results := [.lit (.bool true)], args := [d1, d2, d3, d4] }
  | _ => none }
def worthSmallRow : OpenClaim := { program := "ytebhdkihcdmmjaagreat", sum := "923e4407762a7719f2bd8086b1e0adce813952290eb23cc2c1c56cb9baf6b0b0", func := "haruspex/haruspexlaw23.WorthSmall", spec := "worthSmall", inPlace := ["math/bits.Add64", "math/bits.Sub64"], unfollowed := true, recurses := true, named := ["math/bits.divideError", "math/bits.overflowError"], apart := false }
def WorthSmallSaid : Prop := worthSmallRow.holds Tryz.pinned (OpenSpec.ofChange worthSmallSpec)

/-- ITS FALSE NEIGHBOUR: 'it returns false'. Refute it at one input. -/
def worthSmallWrong : ChangeSpec := { name := "worthSmall", fn := fun _ => fun
  | [d1, d2, d3, d4] => { results := [.lit (.bool false)], args := [d1, d2, d3, d4] }
  | _ => none }
def WorthSmallWrongFalsely : Prop := worthSmallRow.holds Tryz.pinned (OpenSpec.ofChange worthSmallWrong)

/-- 'haruspexlaw23.WorthKnown': WHATEVER THE INPUT: true; the input reads as it did. -/
def worthKnownSpec : ChangeSpec := { name := "worthKnown", fn := fun _ => fun
  | [] => { results := [.lit (.bool true)], args := [] }
  | _ => none }
def worthKnownRow : OpenClaim := { program := "ytebhdkihcdmmjaagreat", sum := "923e4407762a7719f2bd8086b1e0adce813952290eb23cc2c1c56cb9baf6b0b0", func := "haruspex/haruspexlaw23.WorthKnown", spec := "worthKnown", inPlace := ["math/bits.Add64", "math/bits.Sub64"], unfollowed := true, recurses := true, named := ["math/bits.divideError", "math/bits.overflowError"], apart := false }
def WorthKnownSaid : Prop := worthKnownRow.holds Tryz.pinned (OpenSpec.ofChange worthKnownSpec)

/-- ITS FALSE NEIGHBOUR: 'it returns false'. Refute it at one input. -/
def worthKnownWrong : ChangeSpec := { name := "worthKnown", fn := fun _ => fun
  | [] => { results := [.lit (.bool false)], args := [] }
  | _ => none }
def WorthKnownWrongFalsely : Prop := worthKnownRow.holds Tryz.pinned (OpenSpec.ofChange worthKnownWrong)

/- THE SECOND FORM. 'bulk': how many values and letters a reading holds, each counted each time it is reached (what is shared counts as often as it is met; a slice's spare places count too). A statement '..UptoSaid' is the law's where the arguments, and the package variables that the reading takes, are together of bulk at most 1048576: NARROWER than '..Said'. Prove '..Said' where nothing that the law and all that it calls make is longer than what came in: it says more and counts as full. Else prove '..UptoSaid'. A law counts once. -/
mutual
def uptoBulk {H : Type} : DataW H → Nat
  | .lit (.string bytes) => bytes.length + 1
  | .lit _ => 1
  | .nil => 1
  | .ptr d => uptoBulk d + 1
  | .slice elems spare => uptoBulkAll elems + uptoBulkAll spare + 1
  | .agg parts => uptoBulkAll parts + 1
  | .iface _ d => uptoBulk d + 1
  | .map entries => uptoBulkEntries entries + 1
  | .held _ => 1
def uptoBulkAll {H : Type} : List (DataW H) → Nat
  | [] => 0
  | d :: r => uptoBulk d + uptoBulkAll r
def uptoBulkEntries {H : Type} : List (Lit × DataW H) → Nat
  | [] => 0
  | x :: r => uptoBulkEntry x + uptoBulkEntries r
def uptoBulkEntry {H : Type} : Lit × DataW H → Nat
  | (.string bytes, d) => bytes.length + uptoBulk d + 1
  | (_, d) => uptoBulk d + 1
 end
def uptoSmall : (H : Type) → List (DataW H) → Bool := fun _ ds => decide (uptoBulkAll ds ≤ 1048576)
def OpenSpec.upto (s : _root_.Go.ChangeSpec) : _root_.Go.OpenSpec := { _root_.Go.OpenSpec.ofChange s with cond := some uptoSmall }

/-- 'haruspexlaw23.WorthOpens', WHERE WHAT IT READS IS OF BULK AT MOST 1048576: true; the input reads as it did. -/
def worthOpensUptoRow : OpenClaim := { program := "ytebhdkihcdmmjaagreat", sum := "923e4407762a7719f2bd8086b1e0adce813952290eb23cc2c1c56cb9baf6b0b0", func := "haruspex/haruspexlaw23.WorthOpens", spec := "worthOpens", inPlace := ["math/bits.Add64", "math/bits.Sub64"], unfollowed := true, recurses := true, named := ["math/bits.divideError", "math/bits.overflowError"], apart := false, narrowed := true }
def WorthOpensUptoSaid : Prop := worthOpensUptoRow.holds Tryz.pinned (OpenSpec.upto worthOpensSpec)

/-- 'haruspexlaw23.WorthValues', WHERE WHAT IT READS IS OF BULK AT MOST 1048576: true; the input reads as it did. -/
def worthValuesUptoRow : OpenClaim := { program := "ytebhdkihcdmmjaagreat", sum := "923e4407762a7719f2bd8086b1e0adce813952290eb23cc2c1c56cb9baf6b0b0", func := "haruspex/haruspexlaw23.WorthValues", spec := "worthValues", inPlace := ["math/bits.Add64", "math/bits.Sub64"], unfollowed := true, recurses := true, named := ["math/bits.divideError", "math/bits.overflowError"], apart := false, narrowed := true }
def WorthValuesUptoSaid : Prop := worthValuesUptoRow.holds Tryz.pinned (OpenSpec.upto worthValuesSpec)

/-- 'haruspexlaw23.WorthLeasts', WHERE WHAT IT READS IS OF BULK AT MOST 1048576: true; the input reads as it did. -/
def worthLeastsUptoRow : OpenClaim := { program := "ytebhdkihcdmmjaagreat", sum := "923e4407762a7719f2bd8086b1e0adce813952290eb23cc2c1c56cb9baf6b0b0", func := "haruspex/haruspexlaw23.WorthLeasts", spec := "worthLeasts", inPlace := ["math/bits.Add64", "math/bits.Sub64"], unfollowed := true, recurses := true, named := ["math/bits.divideError", "math/bits.overflowError"], apart := false, narrowed := true }
def WorthLeastsUptoSaid : Prop := worthLeastsUptoRow.holds Tryz.pinned (OpenSpec.upto worthLeastsSpec)

/-- 'haruspexlaw23.WorthGrows', WHERE WHAT IT READS IS OF BULK AT MOST 1048576: true; the input reads as it did. -/
def worthGrowsUptoRow : OpenClaim := { program := "ytebhdkihcdmmjaagreat", sum := "923e4407762a7719f2bd8086b1e0adce813952290eb23cc2c1c56cb9baf6b0b0", func := "haruspex/haruspexlaw23.WorthGrows", spec := "worthGrows", inPlace := ["math/bits.Add64", "math/bits.Sub64"], unfollowed := true, recurses := true, named := ["math/bits.divideError", "math/bits.overflowError"], apart := false, narrowed := true }
def WorthGrowsUptoSaid : Prop := worthGrowsUptoRow.holds Tryz.pinned (OpenSpec.upto worthGrowsSpec)

/-- 'haruspexlaw23.WorthMeans', WHERE WHAT IT READS IS OF BULK AT MOST 1048576: true; the input reads as it did. -/
def worthMeansUptoRow : OpenClaim := { program := "ytebhdkihcdmmjaagreat", sum := "923e4407762a7719f2bd8086b1e0adce813952290eb23cc2c1c56cb9baf6b0b0", func := "haruspex/haruspexlaw23.WorthMeans", spec := "worthMeans", inPlace := ["math/bits.Add64", "math/bits.Sub64"], unfollowed := true, recurses := true, named := ["math/bits.divideError", "math/bits.overflowError"], apart := false, narrowed := true }
def WorthMeansUptoSaid : Prop := worthMeansUptoRow.holds Tryz.pinned (OpenSpec.upto worthMeansSpec)

/-- 'haruspexlaw23.WorthSmall', WHERE WHAT IT READS IS OF BULK AT MOST 1048576: true; the input reads as it did. -/
def worthSmallUptoRow : OpenClaim := { program := "ytebhdkihcdmmjaagreat", sum := "923e4407762a7719f2bd8086b1e0adce813952290eb23cc2c1c56cb9baf6b0b0", func := "haruspex/haruspexlaw23.WorthSmall", spec := "worthSmall", inPlace := ["math/bits.Add64", "math/bits.Sub64"], unfollowed := true, recurses := true, named := ["math/bits.divideError", "math/bits.overflowError"], apart := false, narrowed := true }
def WorthSmallUptoSaid : Prop := worthSmallUptoRow.holds Tryz.pinned (OpenSpec.upto worthSmallSpec)

/-- 'haruspexlaw23.WorthKnown', WHERE WHAT IT READS IS OF BULK AT MOST 1048576: true; the input reads as it did. -/
def worthKnownUptoRow : OpenClaim := { program := "ytebhdkihcdmmjaagreat", sum := "923e4407762a7719f2bd8086b1e0adce813952290eb23cc2c1c56cb9baf6b0b0", func := "haruspex/haruspexlaw23.WorthKnown", spec := "worthKnown", inPlace := ["math/bits.Add64", "math/bits.Sub64"], unfollowed := true, recurses := true, named := ["math/bits.divideError", "math/bits.overflowError"], apart := false, narrowed := true }
def WorthKnownUptoSaid : Prop := worthKnownUptoRow.holds Tryz.pinned (OpenSpec.upto worthKnownSpec)

end Rows
end Go.Proofs.YtebhdkihcdmmjaaGreat
