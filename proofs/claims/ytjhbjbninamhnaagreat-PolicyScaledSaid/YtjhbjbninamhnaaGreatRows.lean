/-
  No cell of these rows narrows 'for every input' (looked for: loops, veiled, ifaces, maps, wideKeys, modest, calm, conditions, laid).
  DERIVED. THE GIVEN ROWS OF THIS SEAT. 7 by the template 'for every input the law returns true; each argument reads behind the call as it read before'; 0 by the template 'total and deterministic' (their statements: YtjhbjbninamhnaaGreatTotals.lean).
  GIVEN WITH THE SEED: the statements are not yours to turn. If you find one false, say at which input.
  Laid BY PROGRAM, IN A SANDBOX (cutbox-rows.mjs): the forced cells as the released guide's own fill.sh prints them over the translation 59a6a97f4621ff75… (all of the seat's roots in one cut). By AI agents, Wed Nov 11 2026. No macro, syntax, notation, axiom, sorry.
-/
import Derived.Test.YtjhbjbninamhnaaGreatChecked
import GoSem.Claim
import GoSem.ClaimJoined
import GoSem.ClaimMapViews
import Derived.JoinedTies
import Derived.KernelRfl
namespace Go.Proofs.YtjhbjbninamhnaaGreat
/- THE CELL 'sum', in the pinned program and in every row, IS THE sha256 OF THE DUMP (.gsa) THAT YtjhbjbninamhnaaGreatProg.lean LOADS. Nothing in Lean hashes anything: it is a label: what it is worth is what the hold of that sum in a sandbox is worth. -/
noncomputable def Tryz.pinned : Pinned := { name := "ytjhbjbninamhnaagreat", sum := "59a6a97f4621ff75959ecfaeb0df9474fa92149ce1a53ce3b19c55243ef2b6eb", checked := Tryz.checked }
namespace Rows
def none {H : Type} : Left H := { results := [], args := [] }

/-- 'haruspexlaw21.PolicyRights': WHATEVER THE INPUT: true; the input reads as it did. -/
def policyRightsSpec : ChangeSpec := { name := "policyRights", fn := fun _ => fun
  | [d1, d2, d3, d4, d5, d6] => { results := [.lit (.bool true)], args := [d1, d2, d3, d4, d5, d6] }
  | _ => none }
def policyRightsRow : OpenClaim := { program := "ytjhbjbninamhnaagreat", sum := "59a6a97f4621ff75959ecfaeb0df9474fa92149ce1a53ce3b19c55243ef2b6eb", func := "haruspex/haruspexlaw21.PolicyRights", spec := "policyRights", unfollowed := true, recurses := true, apart := false }
def PolicyRightsSaid : Prop := policyRightsRow.holds Tryz.pinned (OpenSpec.ofChange policyRightsSpec)

/-- ITS FALSE NEIGHBOUR: 'it returns false'. Refute it at one input. -/
def policyRightsWrong : ChangeSpec := { name := "policyRights", fn := fun _ => fun
  | [d1, d2, d3, d4, d5, d6] => { results := [.lit (.bool false)], args := [d1, d2, d3, d4, d5, d6] }
  | _ => none }
def PolicyRightsWrongFalsely : Prop := policyRightsRow.holds Tryz.pinned (OpenSpec.ofChange policyRightsWrong)

/-- 'haruspexlaw21.PolicyExpects': WHATEVER THE INPUT: true; the input reads as it did. -/
def policyExpectsSpec : ChangeSpec := { name := "policyExpects", fn := fun _ => fun
  | [d1, d2, d3, d4, d5, d6] => { results := [.lit (.bool true)], args := [d1, d2, d3, d4, d5, d6] }
  | _ => none }
def policyExpectsRow : OpenClaim := { program := "ytjhbjbninamhnaagreat", sum := "59a6a97f4621ff75959ecfaeb0df9474fa92149ce1a53ce3b19c55243ef2b6eb", func := "haruspex/haruspexlaw21.PolicyExpects", spec := "policyExpects", unfollowed := true, recurses := true, apart := false }
def PolicyExpectsSaid : Prop := policyExpectsRow.holds Tryz.pinned (OpenSpec.ofChange policyExpectsSpec)

/-- ITS FALSE NEIGHBOUR: 'it returns false'. Refute it at one input. -/
def policyExpectsWrong : ChangeSpec := { name := "policyExpects", fn := fun _ => fun
  | [d1, d2, d3, d4, d5, d6] => { results := [.lit (.bool false)], args := [d1, d2, d3, d4, d5, d6] }
  | _ => none }
def PolicyExpectsWrongFalsely : Prop := policyExpectsRow.holds Tryz.pinned (OpenSpec.ofChange policyExpectsWrong)

/-- 'haruspexlaw21.PolicySums': WHATEVER THE INPUT: true; the input reads as it did. -/
def policySumsSpec : ChangeSpec := { name := "policySums", fn := fun _ => fun
  | [d1, d2] => { results := [.lit (.bool true)], args := [d1, d2] }
  | _ => none }
def policySumsRow : OpenClaim := { program := "ytjhbjbninamhnaagreat", sum := "59a6a97f4621ff75959ecfaeb0df9474fa92149ce1a53ce3b19c55243ef2b6eb", func := "haruspex/haruspexlaw21.PolicySums", spec := "policySums", unfollowed := true, recurses := true, apart := false }
def PolicySumsSaid : Prop := policySumsRow.holds Tryz.pinned (OpenSpec.ofChange policySumsSpec)

/-- ITS FALSE NEIGHBOUR: 'it returns false'. Refute it at one input. -/
def policySumsWrong : ChangeSpec := { name := "policySums", fn := fun _ => fun
  | [d1, d2] => { results := [.lit (.bool false)], args := [d1, d2] }
  | _ => none }
def PolicySumsWrongFalsely : Prop := policySumsRow.holds Tryz.pinned (OpenSpec.ofChange policySumsWrong)

/-- 'haruspexlaw21.PolicyScaled': WHATEVER THE INPUT: true; the input reads as it did. -/
def policyScaledSpec : ChangeSpec := { name := "policyScaled", fn := fun _ => fun
  | [d1, d2, d3] => { results := [.lit (.bool true)], args := [d1, d2, d3] }
  | _ => none }
def policyScaledRow : OpenClaim := { program := "ytjhbjbninamhnaagreat", sum := "59a6a97f4621ff75959ecfaeb0df9474fa92149ce1a53ce3b19c55243ef2b6eb", func := "haruspex/haruspexlaw21.PolicyScaled", spec := "policyScaled", unfollowed := true, recurses := true, apart := false }
def PolicyScaledSaid : Prop := policyScaledRow.holds Tryz.pinned (OpenSpec.ofChange policyScaledSpec)

/-- ITS FALSE NEIGHBOUR: 'it returns false'. Refute it at one input. -/
def policyScaledWrong : ChangeSpec := { name := "policyScaled", fn := fun _ => fun
  | [d1, d2, d3] => { results := [.lit (.bool false)], args := [d1, d2, d3] }
  | _ => none }
def PolicyScaledWrongFalsely : Prop := policyScaledRow.holds Tryz.pinned (OpenSpec.ofChange policyScaledWrong)

/-- 'haruspexlaw21.PolicySolves': WHATEVER THE INPUT: true; the input reads as it did. -/
def policySolvesSpec : ChangeSpec := { name := "policySolves", fn := fun _ => fun
  | [d1, d2] => { results := [.lit (.bool true)], args := [d1, d2] }
  | _ => none }
def policySolvesRow : OpenClaim := { program := "ytjhbjbninamhnaagreat", sum := "59a6a97f4621ff75959ecfaeb0df9474fa92149ce1a53ce3b19c55243ef2b6eb", func := "haruspex/haruspexlaw21.PolicySolves", spec := "policySolves", unfollowed := true, recurses := true, apart := false }
def PolicySolvesSaid : Prop := policySolvesRow.holds Tryz.pinned (OpenSpec.ofChange policySolvesSpec)

/-- ITS FALSE NEIGHBOUR: 'it returns false'. Refute it at one input. -/
def policySolvesWrong : ChangeSpec := { name := "policySolves", fn := fun _ => fun
  | [d1, d2] => { results := [.lit (.bool false)], args := [d1, d2] }
  | _ => none }
def PolicySolvesWrongFalsely : Prop := policySolvesRow.holds Tryz.pinned (OpenSpec.ofChange policySolvesWrong)

/-- 'haruspexlaw21.PolicyAll': WHATEVER THE INPUT: true; the input reads as it did. -/
def policyAllSpec : ChangeSpec := { name := "policyAll", fn := fun _ => fun
  | [d] => { results := [.lit (.bool true)], args := [d] }
  | _ => none }
def policyAllRow : OpenClaim := { program := "ytjhbjbninamhnaagreat", sum := "59a6a97f4621ff75959ecfaeb0df9474fa92149ce1a53ce3b19c55243ef2b6eb", func := "haruspex/haruspexlaw21.PolicyAll", spec := "policyAll", unfollowed := true, recurses := true, apart := false }
def PolicyAllSaid : Prop := policyAllRow.holds Tryz.pinned (OpenSpec.ofChange policyAllSpec)

/-- ITS FALSE NEIGHBOUR: 'it returns false'. Refute it at one input. -/
def policyAllWrong : ChangeSpec := { name := "policyAll", fn := fun _ => fun
  | [d] => { results := [.lit (.bool false)], args := [d] }
  | _ => none }
def PolicyAllWrongFalsely : Prop := policyAllRow.holds Tryz.pinned (OpenSpec.ofChange policyAllWrong)

/-- 'haruspexlaw21.PolicyBest': WHATEVER THE INPUT: true; the input reads as it did. -/
def policyBestSpec : ChangeSpec := { name := "policyBest", fn := fun _ => fun
  | [d1, d2] => { results := [.lit (.bool true)], args := [d1, d2] }
  | _ => none }
def policyBestRow : OpenClaim := { program := "ytjhbjbninamhnaagreat", sum := "59a6a97f4621ff75959ecfaeb0df9474fa92149ce1a53ce3b19c55243ef2b6eb", func := "haruspex/haruspexlaw21.PolicyBest", spec := "policyBest", unfollowed := true, recurses := true, apart := false }
def PolicyBestSaid : Prop := policyBestRow.holds Tryz.pinned (OpenSpec.ofChange policyBestSpec)

/-- ITS FALSE NEIGHBOUR: 'it returns false'. Refute it at one input. -/
def policyBestWrong : ChangeSpec := { name := "policyBest", fn := fun _ => fun
  | [d1, d2] => { results := [.lit (.bool false)], args := [d1, d2] }
  | _ => none }
def PolicyBestWrongFalsely : Prop := policyBestRow.holds Tryz.pinned (OpenSpec.ofChange policyBestWrong)

/- THE SECOND FORM. 'bulk': how many values and letters a reading holds, each counted each time it is reached (what is shared counts as often as it is met; a slice's spare places count too). A statement '..UptoSaid' is the law's where the arguments, and the package variables that the reading takes, are together of bulk at most 1048576: NARROWER than '..Said'. Prove '..Said' where nothing that the law and all that it calls make is longer than what came in: it says more and counts as full. Else prove '..UptoSaid'. A law counts once. -/
mutual
def uptoBulk {H : Type} : DataW H → Nat
  | .lit (.string bytes) => bytes.length + 1
  | .lit _ => 1
  | .nil => 1
  | .ptr d => uptoBulk d + 1
  | .slice elems spare => uptoBulkAll elems + uptoBulkAll spare + 1
  | .agg parts => uptoBulkAll parts + 1
  | .iface _ d => uptoBulk d + 1
  | .map entries => uptoBulkEntries entries + 1
  | .held _ => 1
def uptoBulkAll {H : Type} : List (DataW H) → Nat
  | [] => 0
  | d :: r => uptoBulk d + uptoBulkAll r
def uptoBulkEntries {H : Type} : List (Lit × DataW H) → Nat
  | [] => 0
  | x :: r => uptoBulkEntry x + uptoBulkEntries r
def uptoBulkEntry {H : Type} : Lit × DataW H → Nat
  | (.string bytes, d) => bytes.length + uptoBulk d + 1
  | (_, d) => uptoBulk d + 1
 end
def uptoSmall : (H : Type) → List (DataW H) → Bool := fun _ ds => decide (uptoBulkAll ds ≤ 1048576)
def OpenSpec.upto (s : _root_.Go.ChangeSpec) : _root_.Go.OpenSpec := { _root_.Go.OpenSpec.ofChange s with cond := some uptoSmall }

/-- 'haruspexlaw21.PolicyRights', WHERE WHAT IT READS IS OF BULK AT MOST 1048576: true; the input reads as it did. -/
def policyRightsUptoRow : OpenClaim := { program := "ytjhbjbninamhnaagreat", sum := "59a6a97f4621ff75959ecfaeb0df9474fa92149ce1a53ce3b19c55243ef2b6eb", func := "haruspex/haruspexlaw21.PolicyRights", spec := "policyRights", unfollowed := true, recurses := true, apart := false, narrowed := true }
def PolicyRightsUptoSaid : Prop := policyRightsUptoRow.holds Tryz.pinned (OpenSpec.upto policyRightsSpec)

/-- 'haruspexlaw21.PolicyExpects', WHERE WHAT IT READS IS OF BULK AT MOST 1048576: true; the input reads as it did. -/
def policyExpectsUptoRow : OpenClaim := { program := "ytjhbjbninamhnaagreat", sum := "59a6a97f4621ff75959ecfaeb0df9474fa92149ce1a53ce3b19c55243ef2b6eb", func := "haruspex/haruspexlaw21.PolicyExpects", spec := "policyExpects", unfollowed := true, recurses := true, apart := false, narrowed := true }
def PolicyExpectsUptoSaid : Prop := policyExpectsUptoRow.holds Tryz.pinned (OpenSpec.upto policyExpectsSpec)

/-- 'haruspexlaw21.PolicySums', WHERE WHAT IT READS IS OF BULK AT MOST 1048576: true; the input reads as it did. -/
def policySumsUptoRow : OpenClaim := { program := "ytjhbjbninamhnaagreat", sum := "59a6a97f4621ff75959ecfaeb0df9474fa92149ce1a53ce3b19c55243ef2b6eb", func := "haruspex/haruspexlaw21.PolicySums", spec := "policySums", unfollowed := true, recurses := true, apart := false, narrowed := true }
def PolicySumsUptoSaid : Prop := policySumsUptoRow.holds Tryz.pinned (OpenSpec.upto policySumsSpec)

/-- 'haruspexlaw21.PolicyScaled', WHERE WHAT IT READS IS OF BULK AT MOST 1048576: true; the input reads as it did. -/
def policyScaledUptoRow : OpenClaim := { program := "ytjhbjbninamhnaagreat", sum := "59a6a97f4621ff75959ecfaeb0df9474fa92149ce1a53ce3b19c55243ef2b6eb", func := "haruspex/haruspexlaw21.PolicyScaled", spec := "policyScaled", unfollowed := true, recurses := true, apart := false, narrowed := true }
def PolicyScaledUptoSaid : Prop := policyScaledUptoRow.holds Tryz.pinned (OpenSpec.upto policyScaledSpec)

/-- 'haruspexlaw21.PolicySolves', WHERE WHAT IT READS IS OF BULK AT MOST 1048576: true; the input reads as it did. -/
def policySolvesUptoRow : OpenClaim := { program := "ytjhbjbninamhnaagreat", sum := "59a6a97f4621ff75959ecfaeb0df9474fa92149ce1a53ce3b19c55243ef2b6eb", func := "haruspex/haruspexlaw21.PolicySolves", spec := "policySolves", unfollowed := true, recurses := true, apart := false, narrowed := true }
def PolicySolvesUptoSaid : Prop := policySolvesUptoRow.holds Tryz.pinned (OpenSpec.upto policySolvesSpec)

/-- 'haruspexlaw21.PolicyAll', WHERE WHAT IT READS IS OF BULK AT MOST 1048576: true; the input reads as it did. -/
def policyAllUptoRow : OpenClaim := { program := "ytjhbjbninamhnaagreat", sum := "59a6a97f4621ff75959ecfaeb0df9474fa92149ce1a53ce3b19c55243ef2b6eb", func := "haruspex/haruspexlaw21.PolicyAll", spec := "policyAll", unfollowed := true, recurses := true, apart := false, narrowed := true }
def PolicyAllUptoSaid : Prop := policyAllUptoRow.holds Tryz.pinned (OpenSpec.upto policyAllSpec)

/-- 'haruspexlaw21.PolicyBest', WHERE WHAT IT READS IS OF BULK AT MOST 1048576: true; the input reads as it did. -/
def policyBestUptoRow : OpenClaim := { program := "ytjhbjbninamhnaagreat", sum := "59a6a97f4621ff75959ecfaeb0df9474fa92149ce1a53ce3b19c55243ef2b6eb", func := "haruspex/haruspexlaw21.PolicyBest", spec := "policyBest", unfollowed := true, recurses := true, apart := false, narrowed := true }
def PolicyBestUptoSaid : Prop := policyBestUptoRow.holds Tryz.pinned (OpenSpec.upto policyBestSpec)

end Rows
end Go.Proofs.YtjhbjbninamhnaaGreat
